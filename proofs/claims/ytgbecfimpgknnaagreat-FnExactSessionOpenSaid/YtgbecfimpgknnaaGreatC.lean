/-
  WHAT THE FUNCTIONS THAT THE LAWS REACH COMPUTE: each function's contract, proved off its printed body (the text is written by program). No condition beyond those that each theorem states.
-/
import Derived.Test.YtgbecfimpgknnaaGreatC2
namespace Go.Proofs.YtgbecfimpgknnaaGreat
open Go Go.BL
set_option linter.unusedVariables false
set_option linter.unusedSimpArgs false
variable {J : JoinT}
set_option maxRecDepth 4000 in
set_option maxHeartbeats 400000 in
theorem toUserS_c (q : Option Addr) (cp : Nat) (xs : List DUser) (hx20 : szL szUser xs ≤ 1048576) (B : Kn) (hx : SlK B q cp 3 UserR xs) : CallsB (pj J) 72 [.slice q xs.length cp] B [] (fun v B' Ls => ∃ q c l, v = .slice q xs.length c ∧ B' = B ∧ Ls = [l] ∧ VecR Kn.none l q c 44 3 UserR xs) := by
  refine cBB 23 Tryz.func72 rfl rfl rfl (Nat.le_of_ble_eq_true rfl) ?_
  have hxn := hx.len
  have hx21 := (szL_mem hx20).1
  refine wSR ?_
  refine xAs ?_
  refine wKp [(0, _), (2, _)] ⟨rfl, rfl, trivial⟩ ?_
  refine wSR ?_
  refine xMv ?_
  refine oX (w_lenV rfl rfl Tryz.underlying48 rfl ?_)
  refine oX (w_makeSlice (m := xs.length) (c := xs.length) (by_ := 40) [.string ⟨#[]⟩, .string ⟨#[]⟩, .int .i64 0] rfl rfl eo23 zo44 rfl rfl ⟨_, _, rfl, by first | omega | (simp; done) | (simp; omega)⟩ ⟨_, _, rfl, by first | omega | (simp; done) | (simp; omega)⟩ (by first | omega | (simp; done) | (simp; omega)) (by first | omega | (simp; done) | (simp; omega)) (fun b1 => ?_))
  have hv1 := VecR.zeros (B := Kn.none) (b := b1) (T := 44) (R := UserR) (d := (⟨[], [], 0⟩ : DUser)) (m := xs.length) (c := xs.length) (zs := [.string ⟨#[]⟩, .string ⟨#[]⟩, .int .i64 0]) rfl (⟨rfl, by simp, by simp⟩) (by first | omega | (simp; done) | (simp; omega))
  refine xAs ?_
  refine wTd [(0, _), (2, _), (3, _)] [_] ⟨rfl, rfl, rfl, trivial⟩ rfl ?_
  refine w_seq ?_
  refine wSR ?_
  refine xAs ?_
  refine wKp [(0, _), (2, _), (3, _), (4, _)] ⟨rfl, rfl, rfl, rfl, trivial⟩ ?_
  refine w_block ?_
  refine w_loopE (α := Nat × Cells) [0, 2] (fun g => [(3, .slice (some ⟨b1, 0, none⟩) xs.length xs.length), (4, .int .i64 g.1)]) [0] (fun g => [g.2]) (fun g Bx => Bx = B ∧ g.1 ≤ xs.length ∧ VecR Kn.none g.2 (some ⟨b1, 0, none⟩) xs.length 44 3 UserR (fill xs (⟨[], [], 0⟩ : DUser) g.1)) (fun g => xs.length - g.1) (0, _) ⟨rfl, rfl, trivial⟩ rfl (⟨rfl, Nat.zero_le _, by rw [fill_zero]; exact hv1⟩) (fun g B2 hle2 hI => ?_)
  obtain ⟨rfl, hk, hvl⟩ := hI
  have hfl := fill_len (d := (⟨[], [], 0⟩ : DUser)) hk
  refine wTd [(0, _), (2, _), (3, _), (4, _)] [_] ⟨rfl, rfl, rfl, rfl, trivial⟩ rfl ?_
  refine w_seq ?_
  refine wSR ?_
  refine xMv ?_
  refine xMv ?_
  refine oX (w_lenV rfl rfl Tryz.underlying48 rfl ?_)
  refine oX (w_lss rfl rfl rfl rfl ?_)
  refine wKp [(0, _), (2, _), (3, _), (4, _), (11, _)] ⟨rfl, rfl, rfl, rfl, rfl, trivial⟩ ?_
  refine wCd rfl (fun g1 => ?_) (fun g1 => ?_)
  · try simp only [sQ1, sQ2, sQ3, sQ4, sQ5, sQ6, sQ7, sQ8, ne_eq] at g1
    refine w_skip ?_
    refine thn_n ?_
    refine w_seq ?_
    refine w_block ?_
    refine w_region ?_
    refine xMv ?_
    refine xMv ?_
    refine xMv ?_
    refine xMv ?_
    obtain ⟨z, hz⟩ := getLt (xs := xs) (i := g.1) (by first | omega | (simp; done) | (simp; omega))
    obtain ⟨bb4, oo4, rfl⟩ := hx.base hz
    obtain ⟨_, ⟨rfl, hb5, hb5b⟩, hc5⟩ := hx.elem hz
    refine oX (w_ixB rfl rfl Tryz.underlying48 sz156 rfl rfl (by first | omega | (simp; done) | (simp; omega)) (by first | omega | (simp; done) | (simp; omega)) ?_)
    refine oX (w_loadN [_, _, _] rfl rfl lk156 rfl (rowK hc5 0 rfl rfl) ?_)
    refine oX (w_retB rfl rfl en131 rfl (toUser_c z  _) ?_)
    refine oX (w_ixP rfl rfl rfl Tryz.underlying23 sz44 rfl rfl (by first | omega | (simp; done) | (simp; omega)) (by first | omega | (simp; done) | (simp; omega)) ?_)
    refine oX (w_stV (R := UserR) (k := g.1) (z) 0 rfl hvl rfl (by first | omega | (simp; done) | (simp; omega)) rfl rfl sz44 rfl rfl rfl rfl rfl (⟨rfl, by first | assumption | omega | (simp; omega), by first | assumption | omega | (simp; omega)⟩) (fun l8 hv8 => ?_))
    refine inB_n (thn_n ?_)
    refine w_region ?_
    refine xMv ?_
    refine oX (w_add rfl rfl rfl rfl (by first | exact wrI64 (by first | omega | (simp; done) | (simp; omega)) (by first | omega | (simp; done) | (simp; omega)) | rfl) ?_)
    refine xAs ?_
    exact rndE_n (g.1 + 1, l8) [0] (by first | omega | (simp only []; omega)) ⟨rfl, by simp only []; omega, by rw [← fill_next hz]; exact hv8⟩ ⟨rfl, rfl, rfl, rfl, trivial⟩ rfl
  · try simp only [sQ1, sQ2, sQ3, sQ4, sQ5, sQ6, sQ7, sQ8, ne_eq] at g1
    refine w_exit (thn_x (rndE_x (inB_hit (thn_n ?_))))
    refine wSR ?_
    refine xMv ?_
    refine xAs ?_
    refine wKp [(0, _), (2, _), (3, _), (4, _), (11, _)] ⟨rfl, rfl, rfl, rfl, rfl, trivial⟩ ?_
    refine w_ret ?_
    exact endN .ret (.inl rfl) [_] [0] rfl ⟨rfl, trivial⟩ ⟨_, _, _, rfl, rfl, rfl, by have e := hvl; rw [fill_end (by omega)] at e; exact e⟩

set_option maxRecDepth 4000 in
set_option maxHeartbeats 400000 in
theorem toGrantS_c (q : Option Addr) (cp : Nat) (xs : List DGrant) (hx20 : szL szGrant xs ≤ 1048576) (B : Kn) (hx : SlK B q cp 2 GrantR xs) : CallsB (pj J) 182 [.slice q xs.length cp] B [] (fun v B' Ls => ∃ q c l, v = .slice q xs.length c ∧ B' = B ∧ Ls = [l] ∧ VecR Kn.none l q c 174 2 GrantR xs) := by
  refine cBB 23 Tryz.func182 rfl rfl rfl (Nat.le_of_ble_eq_true rfl) ?_
  have hxn := hx.len
  have hx21 := (szL_mem hx20).1
  refine wSR ?_
  refine xAs ?_
  refine wKp [(0, _), (2, _)] ⟨rfl, rfl, trivial⟩ ?_
  refine wSR ?_
  refine xMv ?_
  refine oX (w_lenV rfl rfl Tryz.underlying158 rfl ?_)
  refine oX (w_makeSlice (m := xs.length) (c := xs.length) (by_ := 24) [.string ⟨#[]⟩, .int .i64 0] rfl rfl eo35 zo174 rfl rfl ⟨_, _, rfl, by first | omega | (simp; done) | (simp; omega)⟩ ⟨_, _, rfl, by first | omega | (simp; done) | (simp; omega)⟩ (by first | omega | (simp; done) | (simp; omega)) (by first | omega | (simp; done) | (simp; omega)) (fun b1 => ?_))
  have hv1 := VecR.zeros (B := Kn.none) (b := b1) (T := 174) (R := GrantR) (d := (⟨[], 0⟩ : DGrant)) (m := xs.length) (c := xs.length) (zs := [.string ⟨#[]⟩, .int .i64 0]) rfl (⟨rfl, by simp⟩) (by first | omega | (simp; done) | (simp; omega))
  refine xAs ?_
  refine wTd [(0, _), (2, _), (3, _)] [_] ⟨rfl, rfl, rfl, trivial⟩ rfl ?_
  refine w_seq ?_
  refine wSR ?_
  refine xAs ?_
  refine wKp [(0, _), (2, _), (3, _), (4, _)] ⟨rfl, rfl, rfl, rfl, trivial⟩ ?_
  refine w_block ?_
  refine w_loopE (α := Nat × Cells) [0, 2] (fun g => [(3, .slice (some ⟨b1, 0, none⟩) xs.length xs.length), (4, .int .i64 g.1)]) [0] (fun g => [g.2]) (fun g Bx => Bx = B ∧ g.1 ≤ xs.length ∧ VecR Kn.none g.2 (some ⟨b1, 0, none⟩) xs.length 174 2 GrantR (fill xs (⟨[], 0⟩ : DGrant) g.1)) (fun g => xs.length - g.1) (0, _) ⟨rfl, rfl, trivial⟩ rfl (⟨rfl, Nat.zero_le _, by rw [fill_zero]; exact hv1⟩) (fun g B2 hle2 hI => ?_)
  obtain ⟨rfl, hk, hvl⟩ := hI
  have hfl := fill_len (d := (⟨[], 0⟩ : DGrant)) hk
  refine wTd [(0, _), (2, _), (3, _), (4, _)] [_] ⟨rfl, rfl, rfl, rfl, trivial⟩ rfl ?_
  refine w_seq ?_
  refine wSR ?_
  refine xMv ?_
  refine xMv ?_
  refine oX (w_lenV rfl rfl Tryz.underlying158 rfl ?_)
  refine oX (w_lss rfl rfl rfl rfl ?_)
  refine wKp [(0, _), (2, _), (3, _), (4, _), (11, _)] ⟨rfl, rfl, rfl, rfl, rfl, trivial⟩ ?_
  refine wCd rfl (fun g1 => ?_) (fun g1 => ?_)
  · try simp only [sQ1, sQ2, sQ3, sQ4, sQ5, sQ6, sQ7, sQ8, ne_eq] at g1
    refine w_skip ?_
    refine thn_n ?_
    refine w_seq ?_
    refine w_block ?_
    refine w_region ?_
    refine xMv ?_
    refine xMv ?_
    refine xMv ?_
    refine xMv ?_
    obtain ⟨z, hz⟩ := getLt (xs := xs) (i := g.1) (by first | omega | (simp; done) | (simp; omega))
    obtain ⟨bb4, oo4, rfl⟩ := hx.base hz
    obtain ⟨_, ⟨rfl, hb5⟩, hc5⟩ := hx.elem hz
    refine oX (w_ixB rfl rfl Tryz.underlying158 sz255 rfl rfl (by first | omega | (simp; done) | (simp; omega)) (by first | omega | (simp; done) | (simp; omega)) ?_)
    refine oX (w_loadN [_, _] rfl rfl lk255 rfl (rowK hc5 0 rfl rfl) ?_)
    refine oX (w_retB rfl rfl en215 rfl (toGrant_c z  _) ?_)
    refine oX (w_ixP rfl rfl rfl Tryz.underlying35 sz174 rfl rfl (by first | omega | (simp; done) | (simp; omega)) (by first | omega | (simp; done) | (simp; omega)) ?_)
    refine oX (w_stV (R := GrantR) (k := g.1) (z) 0 rfl hvl rfl (by first | omega | (simp; done) | (simp; omega)) rfl rfl sz174 rfl rfl rfl rfl rfl (⟨rfl, by first | assumption | omega | (simp; omega)⟩) (fun l8 hv8 => ?_))
    refine inB_n (thn_n ?_)
    refine w_region ?_
    refine xMv ?_
    refine oX (w_add rfl rfl rfl rfl (by first | exact wrI64 (by first | omega | (simp; done) | (simp; omega)) (by first | omega | (simp; done) | (simp; omega)) | rfl) ?_)
    refine xAs ?_
    exact rndE_n (g.1 + 1, l8) [0] (by first | omega | (simp only []; omega)) ⟨rfl, by simp only []; omega, by rw [← fill_next hz]; exact hv8⟩ ⟨rfl, rfl, rfl, rfl, trivial⟩ rfl
  · try simp only [sQ1, sQ2, sQ3, sQ4, sQ5, sQ6, sQ7, sQ8, ne_eq] at g1
    refine w_exit (thn_x (rndE_x (inB_hit (thn_n ?_))))
    refine wSR ?_
    refine xMv ?_
    refine xAs ?_
    refine wKp [(0, _), (2, _), (3, _), (4, _), (11, _)] ⟨rfl, rfl, rfl, rfl, rfl, trivial⟩ ?_
    refine w_ret ?_
    exact endN .ret (.inl rfl) [_] [0] rfl ⟨rfl, trivial⟩ ⟨_, _, _, rfl, rfl, rfl, by have e := hvl; rw [fill_end (by omega)] at e; exact e⟩

set_option maxRecDepth 4000 in
set_option maxHeartbeats 400000 in
theorem toMailS_c (q : Option Addr) (cp : Nat) (xs : List DMail) (hx20 : szL szMail xs ≤ 1048576) (B : Kn) (hx : SlK B q cp 3 MailR xs) : CallsB (pj J) 216 [.slice q xs.length cp] B [] (fun v B' Ls => ∃ q c l, v = .slice q xs.length c ∧ B' = B ∧ Ls = [l] ∧ VecR Kn.none l q c 116 3 MailR xs) := by
  refine cBB 23 Tryz.func216 rfl rfl rfl (Nat.le_of_ble_eq_true rfl) ?_
  have hxn := hx.len
  have hx21 := (szL_mem hx20).1
  refine wSR ?_
  refine xAs ?_
  refine wKp [(0, _), (2, _)] ⟨rfl, rfl, trivial⟩ ?_
  refine wSR ?_
  refine xMv ?_
  refine oX (w_lenV rfl rfl Tryz.underlying159 rfl ?_)
  refine oX (w_makeSlice (m := xs.length) (c := xs.length) (by_ := 32) [.int .i64 0, .int .i64 0, .string ⟨#[]⟩] rfl rfl eo36 zo116 rfl rfl ⟨_, _, rfl, by first | omega | (simp; done) | (simp; omega)⟩ ⟨_, _, rfl, by first | omega | (simp; done) | (simp; omega)⟩ (by first | omega | (simp; done) | (simp; omega)) (by first | omega | (simp; done) | (simp; omega)) (fun b1 => ?_))
  have hv1 := VecR.zeros (B := Kn.none) (b := b1) (T := 116) (R := MailR) (d := (⟨0, 0, []⟩ : DMail)) (m := xs.length) (c := xs.length) (zs := [.int .i64 0, .int .i64 0, .string ⟨#[]⟩]) rfl (⟨rfl, by simp⟩) (by first | omega | (simp; done) | (simp; omega))
  refine xAs ?_
  refine wTd [(0, _), (2, _), (3, _)] [_] ⟨rfl, rfl, rfl, trivial⟩ rfl ?_
  refine w_seq ?_
  refine wSR ?_
  refine xAs ?_
  refine wKp [(0, _), (2, _), (3, _), (4, _)] ⟨rfl, rfl, rfl, rfl, trivial⟩ ?_
  refine w_block ?_
  refine w_loopE (α := Nat × Cells) [0, 2] (fun g => [(3, .slice (some ⟨b1, 0, none⟩) xs.length xs.length), (4, .int .i64 g.1)]) [0] (fun g => [g.2]) (fun g Bx => Bx = B ∧ g.1 ≤ xs.length ∧ VecR Kn.none g.2 (some ⟨b1, 0, none⟩) xs.length 116 3 MailR (fill xs (⟨0, 0, []⟩ : DMail) g.1)) (fun g => xs.length - g.1) (0, _) ⟨rfl, rfl, trivial⟩ rfl (⟨rfl, Nat.zero_le _, by rw [fill_zero]; exact hv1⟩) (fun g B2 hle2 hI => ?_)
  obtain ⟨rfl, hk, hvl⟩ := hI
  have hfl := fill_len (d := (⟨0, 0, []⟩ : DMail)) hk
  refine wTd [(0, _), (2, _), (3, _), (4, _)] [_] ⟨rfl, rfl, rfl, rfl, trivial⟩ rfl ?_
  refine w_seq ?_
  refine wSR ?_
  refine xMv ?_
  refine xMv ?_
  refine oX (w_lenV rfl rfl Tryz.underlying159 rfl ?_)
  refine oX (w_lss rfl rfl rfl rfl ?_)
  refine wKp [(0, _), (2, _), (3, _), (4, _), (11, _)] ⟨rfl, rfl, rfl, rfl, rfl, trivial⟩ ?_
  refine wCd rfl (fun g1 => ?_) (fun g1 => ?_)
  · try simp only [sQ1, sQ2, sQ3, sQ4, sQ5, sQ6, sQ7, sQ8, ne_eq] at g1
    refine w_skip ?_
    refine thn_n ?_
    refine w_seq ?_
    refine w_block ?_
    refine w_region ?_
    refine xMv ?_
    refine xMv ?_
    refine xMv ?_
    refine xMv ?_
    obtain ⟨z, hz⟩ := getLt (xs := xs) (i := g.1) (by first | omega | (simp; done) | (simp; omega))
    obtain ⟨bb4, oo4, rfl⟩ := hx.base hz
    obtain ⟨_, ⟨rfl, hb5⟩, hc5⟩ := hx.elem hz
    refine oX (w_ixB rfl rfl Tryz.underlying159 sz266 rfl rfl (by first | omega | (simp; done) | (simp; omega)) (by first | omega | (simp; done) | (simp; omega)) ?_)
    refine oX (w_loadN [_, _, _] rfl rfl lk266 rfl (rowK hc5 0 rfl rfl) ?_)
    refine oX (w_retB rfl rfl en228 rfl (toMail_c z  _) ?_)
    refine oX (w_ixP rfl rfl rfl Tryz.underlying36 sz116 rfl rfl (by first | omega | (simp; done) | (simp; omega)) (by first | omega | (simp; done) | (simp; omega)) ?_)
    refine oX (w_stV (R := MailR) (k := g.1) (z) 0 rfl hvl rfl (by first | omega | (simp; done) | (simp; omega)) rfl rfl sz116 rfl rfl rfl rfl rfl (⟨rfl, by first | assumption | omega | (simp; omega)⟩) (fun l8 hv8 => ?_))
    refine inB_n (thn_n ?_)
    refine w_region ?_
    refine xMv ?_
    refine oX (w_add rfl rfl rfl rfl (by first | exact wrI64 (by first | omega | (simp; done) | (simp; omega)) (by first | omega | (simp; done) | (simp; omega)) | rfl) ?_)
    refine xAs ?_
    exact rndE_n (g.1 + 1, l8) [0] (by first | omega | (simp only []; omega)) ⟨rfl, by simp only []; omega, by rw [← fill_next hz]; exact hv8⟩ ⟨rfl, rfl, rfl, rfl, trivial⟩ rfl
  · try simp only [sQ1, sQ2, sQ3, sQ4, sQ5, sQ6, sQ7, sQ8, ne_eq] at g1
    refine w_exit (thn_x (rndE_x (inB_hit (thn_n ?_))))
    refine wSR ?_
    refine xMv ?_
    refine xAs ?_
    refine wKp [(0, _), (2, _), (3, _), (4, _), (11, _)] ⟨rfl, rfl, rfl, rfl, rfl, trivial⟩ ?_
    refine w_ret ?_
    exact endN .ret (.inl rfl) [_] [0] rfl ⟨rfl, trivial⟩ ⟨_, _, _, rfl, rfl, rfl, by have e := hvl; rw [fill_end (by omega)] at e; exact e⟩

set_option maxRecDepth 4000 in
set_option maxHeartbeats 400000 in
theorem toItem_c (q : Option Addr) (cp : Nat) (x : DItem) (B : Kn) (hx : SlK B q cp 1 StrR x.left) (hl : szStrs x.left ≤ 1048576) : CallsB (pj J) 184 [.agg #[.int .i64 x.id, str x.fr, str x.text, .slice q x.left.length cp]] B [] (fun v B' Ls => ∃ q0 c0 l0, v = .agg #[.int .i64 x.id, str x.fr, str x.text, .slice q0 x.left.length c0] ∧ B' = B ∧ Ls = [l0] ∧ VecR Kn.none l0 q0 c0 9 1 StrR x.left) := by
  refine cBB 18 Tryz.func184 rfl rfl rfl (Nat.le_of_ble_eq_true rfl) ?_
  refine wSR ?_
  refine oX (w_box (l := [_, _, _, _]) rfl rfl rfl rfl (fun b1 => ?_))
  refine oX (w_alloc (l := [_, _, _, _]) rfl rfl zo100 rfl (fun b2 => ?_))
  refine wTd [(0, _), (1, _), (2, _)] [_, _] ⟨rfl, rfl, rfl, trivial⟩ rfl ?_
  refine wSR ?_
  refine oX (w_alloc (l := [_, _, _, _]) rfl rfl zo100 rfl (fun b3 => ?_))
  refine wTd [(0, _), (1, _), (2, _), (3, _)] [_, _, _] ⟨rfl, rfl, rfl, rfl, trivial⟩ rfl ?_
  refine wSR ?_
  refine oX (wFA rfl rfl fo214x0 rfl ?_)
  refine oX (w_load1 rfl rfl lk3 rfl (atL 0 rfl rfl rfl) ?_)
  refine oX (wFA rfl rfl fo100x0 rfl ?_)
  refine oX (w_store [_] 2 [_, _, _, _] rfl rfl sz3 rfl rfl rfl rfl rfl rfl rfl rfl ?_)
  refine wTd [(0, _), (1, _), (2, _), (3, _)] [_, _, _] ⟨rfl, rfl, rfl, rfl, trivial⟩ rfl ?_
  refine wSR ?_
  refine oX (wFA rfl rfl fo214x1 rfl ?_)
  refine oX (w_load1 rfl rfl lk9 rfl (atL 0 rfl rfl rfl) ?_)
  refine oX (wFA rfl rfl fo100x1 rfl ?_)
  refine oX (w_store [_] 2 [_, _, _, _] rfl rfl sz9 rfl rfl rfl rfl rfl rfl rfl rfl ?_)
  refine wTd [(0, _), (1, _), (2, _), (3, _)] [_, _, _] ⟨rfl, rfl, rfl, rfl, trivial⟩ rfl ?_
  refine wSR ?_
  refine oX (wFA rfl rfl fo214x2 rfl ?_)
  refine oX (w_load1 rfl rfl lk9 rfl (atL 0 rfl rfl rfl) ?_)
  refine oX (wFA rfl rfl fo100x2 rfl ?_)
  refine oX (w_store [_] 2 [_, _, _, _] rfl rfl sz9 rfl rfl rfl rfl rfl rfl rfl rfl ?_)
  refine wTd [(0, _), (1, _), (2, _), (3, _)] [_, _, _] ⟨rfl, rfl, rfl, rfl, trivial⟩ rfl ?_
  refine wSR ?_
  refine oX (wFA rfl rfl fo214x3 rfl ?_)
  refine oX (w_load1 rfl rfl lk98 rfl (atL 0 rfl rfl rfl) ?_)
  refine oX (w_call rfl rfl en217 rfl (toStrS_c _ _ x.left (by first | assumption | omega | (simp; done) | (simp; omega)) _ hx) ?_)
  rintro _ _ _ hle4 ⟨q4, c4, l4, rfl, rfl, rfl, hv4⟩
  refine oX (wFA rfl rfl fo100x3 rfl ?_)
  refine oX (w_store [_] 2 [_, _, _, _] rfl rfl sz98 rfl rfl rfl rfl rfl rfl rfl rfl ?_)
  refine wTd [(0, _), (1, _), (2, _), (3, _)] [_, _, _, _] ⟨rfl, rfl, rfl, rfl, trivial⟩ rfl ?_
  refine wSR ?_
  refine oX (w_loadN [_, _, _, _] rfl rfl lk100 rfl (rowL 2 rfl rfl rfl) ?_)
  refine oX (w_store [_, _, _, _] 1 [_, _, _, _] rfl rfl sz100 rfl rfl rfl rfl rfl rfl rfl rfl ?_)
  refine wTd [(0, _), (1, _), (2, _), (3, _)] [_, _, _, _] ⟨rfl, rfl, rfl, rfl, trivial⟩ rfl ?_
  refine w_ret ?_
  exact endN .ret (.inl rfl) [_] [3] rfl ⟨⟨_, rfl, .inr ⟨[_, _, _, _], lk100, rowL 1 rfl rfl rfl, rfl⟩⟩, trivial⟩ ⟨_, _, _, rfl, rfl, rfl, hv4⟩

set_option maxRecDepth 4000 in
set_option maxHeartbeats 400000 in
theorem toItemS_c (q : Option Addr) (cp : Nat) (xs : List DItem) (hx20 : szL szItem xs ≤ 1048576) (B : Kn) (hx : SlK B q cp 4 ItemR xs) : CallsB (pj J) 133 [.slice q xs.length cp] B [] (fun v B' Ls => ∃ q c l, v = .slice q xs.length c ∧ B' = B ∧ Ls = [l] ∧ VecD l q c 100 4 (ItemO 9) xs) := by
  refine cBB 23 Tryz.func133 rfl rfl rfl (Nat.le_of_ble_eq_true rfl) ?_
  have hxn := hx.len
  have hx21 := (szL_mem hx20).1
  refine wSR ?_
  refine xAs ?_
  refine wKp [(0, _), (2, _)] ⟨rfl, rfl, trivial⟩ ?_
  refine wSR ?_
  refine xMv ?_
  refine oX (w_lenV rfl rfl Tryz.underlying50 rfl ?_)
  refine oX (w_makeSlice (m := xs.length) (c := xs.length) (by_ := 64) [.int .i64 0, .string ⟨#[]⟩, .string ⟨#[]⟩, .slice none 0 0] rfl rfl eo27 zo100 rfl rfl ⟨_, _, rfl, by first | omega | (simp; done) | (simp; omega)⟩ ⟨_, _, rfl, by first | omega | (simp; done) | (simp; omega)⟩ (by first | omega | (simp; done) | (simp; omega)) (by first | omega | (simp; done) | (simp; omega)) (fun b1 => ?_))
  have hd1 := VecD.zeros (b := b1) (T := 100) (R := ItemO 9) (d := (⟨0, [], [], []⟩ : DItem)) (m := xs.length) (c := xs.length) (zs := [.int .i64 0, .string ⟨#[]⟩, .string ⟨#[]⟩, .slice none 0 0]) rfl (⟨_, _, rfl, VecR.nil, by simp, by simp, by simp⟩) (by first | omega | (simp; done) | (simp; omega))
  refine xAs ?_
  refine wTd [(0, _), (2, _), (3, _)] [_] ⟨rfl, rfl, rfl, trivial⟩ rfl ?_
  refine w_seq ?_
  refine wSR ?_
  refine xAs ?_
  refine wKp [(0, _), (2, _), (3, _), (4, _)] ⟨rfl, rfl, rfl, rfl, trivial⟩ ?_
  refine w_block ?_
  refine w_loopE (α := Nat × Cells) [0, 2] (fun g => [(3, .slice (some ⟨b1, 0, none⟩) xs.length xs.length), (4, .int .i64 g.1)]) [0] (fun g => [g.2]) (fun g Bx => Bx = B ∧ g.1 ≤ xs.length ∧ VecD g.2 (some ⟨b1, 0, none⟩) xs.length 100 4 (ItemO 9) (fill xs (⟨0, [], [], []⟩ : DItem) g.1)) (fun g => xs.length - g.1) (0, _) ⟨rfl, rfl, trivial⟩ rfl (⟨rfl, Nat.zero_le _, by rw [fill_zero]; exact hd1⟩) (fun g B2 hle2 hI => ?_)
  obtain ⟨rfl, hk, hvl⟩ := hI
  have hfl := fill_len (d := (⟨0, [], [], []⟩ : DItem)) hk
  refine wTd [(0, _), (2, _), (3, _), (4, _)] [_] ⟨rfl, rfl, rfl, rfl, trivial⟩ rfl ?_
  refine w_seq ?_
  refine wSR ?_
  refine xMv ?_
  refine xMv ?_
  refine oX (w_lenV rfl rfl Tryz.underlying50 rfl ?_)
  refine oX (w_lss rfl rfl rfl rfl ?_)
  refine wKp [(0, _), (2, _), (3, _), (4, _), (11, _)] ⟨rfl, rfl, rfl, rfl, rfl, trivial⟩ ?_
  refine wCd rfl (fun g1 => ?_) (fun g1 => ?_)
  · try simp only [sQ1, sQ2, sQ3, sQ4, sQ5, sQ6, sQ7, sQ8, ne_eq] at g1
    refine w_skip ?_
    refine thn_n ?_
    refine w_seq ?_
    refine w_block ?_
    refine w_region ?_
    refine xMv ?_
    refine xMv ?_
    refine xMv ?_
    refine xMv ?_
    obtain ⟨z, hz⟩ := getLt (xs := xs) (i := g.1) (by first | omega | (simp; done) | (simp; omega))
    obtain ⟨bb4, oo4, rfl⟩ := hx.base hz
    obtain ⟨_, ⟨qi5, ci5, rfl, hi5, hb5, hb5b⟩, hc5⟩ := hx.elem hz
    have hi5n := hi5.len
    refine oX (w_ixB rfl rfl Tryz.underlying50 sz214 rfl rfl (by first | omega | (simp; done) | (simp; omega)) (by first | omega | (simp; done) | (simp; omega)) ?_)
    have hzz := (szL_mem hx20).2 z (List.mem_of_getElem? hz)
    have hza := item_sz hzz
    refine oX (w_loadN [_, _, _, _] rfl rfl lk214 rfl (rowK hc5 0 rfl rfl) ?_)
    refine oX (w_call rfl rfl en184 rfl (toItem_c _ _ z _ hi5 (by first | assumption | omega | (simp; done) | (simp; omega))) ?_)
    rintro _ _ _ hle6 ⟨q6, c6, l6, rfl, rfl, rfl, hv6⟩
    refine oX (w_ixP rfl rfl rfl Tryz.underlying27 sz100 rfl rfl (by first | omega | (simp; done) | (simp; omega)) (by first | omega | (simp; done) | (simp; omega)) ?_)
    refine oX (w_stD (R := ItemO 9) (k := g.1) (z) 0 [1] rfl rfl hvl rfl (by first | omega | (simp; done) | (simp; omega)) rfl rfl sz100 rfl rfl rfl rfl rfl (l6) (by simp) (⟨_, _, rfl, hv6, by first | assumption | omega | (simp; omega), by first | assumption | omega | (simp; omega), by first | assumption | omega | (simp; omega)⟩) (fun l8 hd8 => ?_))
    refine inB_n (thn_n ?_)
    refine w_region ?_
    refine xMv ?_
    refine oX (w_add rfl rfl rfl rfl (by first | exact wrI64 (by first | omega | (simp; done) | (simp; omega)) (by first | omega | (simp; done) | (simp; omega)) | rfl) ?_)
    refine xAs ?_
    exact rndE_n (g.1 + 1, l8) [0] (by first | omega | (simp only []; omega)) ⟨rfl, by simp only []; omega, by rw [← fill_next hz]; exact hd8⟩ ⟨rfl, rfl, rfl, rfl, trivial⟩ rfl
  · try simp only [sQ1, sQ2, sQ3, sQ4, sQ5, sQ6, sQ7, sQ8, ne_eq] at g1
    refine w_exit (thn_x (rndE_x (inB_hit (thn_n ?_))))
    refine wSR ?_
    refine xMv ?_
    refine xAs ?_
    refine wKp [(0, _), (2, _), (3, _), (4, _), (11, _)] ⟨rfl, rfl, rfl, rfl, rfl, trivial⟩ ?_
    refine w_ret ?_
    exact endN .ret (.inl rfl) [_] [0] rfl ⟨rfl, trivial⟩ ⟨_, _, _, rfl, rfl, rfl, by have e := hvl; rw [fill_end (by omega)] at e; exact e⟩

set_option maxRecDepth 4000 in
set_option maxHeartbeats 400000 in
theorem toQueue_c (q : Option Addr) (cp : Nat) (x : DQueue) (B : Kn) (hx : SlK B q cp 4 ItemR x.items) (hl : szL szItem x.items ≤ 1048576) : CallsB (pj J) 74 [.agg #[.int .i64 x.next, .slice q x.items.length cp]] B [] (fun v B' Ls => ∃ q0 c0 l0, v = .agg #[.int .i64 x.next, .slice q0 x.items.length c0] ∧ B' = B ∧ Ls = [l0] ∧ VecD l0 q0 c0 100 4 (ItemO 9) x.items) := by
  refine cBB 12 Tryz.func74 rfl rfl rfl (Nat.le_of_ble_eq_true rfl) ?_
  refine wSR ?_
  refine oX (w_box (l := [_, _]) rfl rfl rfl rfl (fun b1 => ?_))
  refine oX (w_alloc (l := [_, _]) rfl rfl zo29 rfl (fun b2 => ?_))
  refine wTd [(0, _), (1, _), (2, _)] [_, _] ⟨rfl, rfl, rfl, trivial⟩ rfl ?_
  refine wSR ?_
  refine oX (w_alloc (l := [_, _]) rfl rfl zo29 rfl (fun b3 => ?_))
  refine wTd [(0, _), (1, _), (2, _), (3, _)] [_, _, _] ⟨rfl, rfl, rfl, rfl, trivial⟩ rfl ?_
  refine wSR ?_
  refine oX (wFA rfl rfl fo52x0 rfl ?_)
  refine oX (w_load1 rfl rfl lk3 rfl (atL 0 rfl rfl rfl) ?_)
  refine oX (wFA rfl rfl fo29x0 rfl ?_)
  refine oX (w_store [_] 2 [_, _] rfl rfl sz3 rfl rfl rfl rfl rfl rfl rfl rfl ?_)
  refine wTd [(0, _), (1, _), (2, _), (3, _)] [_, _, _] ⟨rfl, rfl, rfl, rfl, trivial⟩ rfl ?_
  refine wSR ?_
  refine oX (wFA rfl rfl fo52x1 rfl ?_)
  refine oX (w_load1 rfl rfl lk50 rfl (atL 0 rfl rfl rfl) ?_)
  refine oX (w_call rfl rfl en133 rfl (toItemS_c _ _ x.items (by first | assumption | omega | (simp; done) | (simp; omega)) _ hx) ?_)
  rintro _ _ _ hle4 ⟨q4, c4, l4, rfl, rfl, rfl, hv4⟩
  refine oX (wFA rfl rfl fo29x1 rfl ?_)
  refine oX (w_store [_] 2 [_, _] rfl rfl sz27 rfl rfl rfl rfl rfl rfl rfl rfl ?_)
  refine wTd [(0, _), (1, _), (2, _), (3, _)] [_, _, _, _] ⟨rfl, rfl, rfl, rfl, trivial⟩ rfl ?_
  refine wSR ?_
  refine oX (w_loadN [_, _] rfl rfl lk29 rfl (rowL 2 rfl rfl rfl) ?_)
  refine oX (w_store [_, _] 1 [_, _] rfl rfl sz29 rfl rfl rfl rfl rfl rfl rfl rfl ?_)
  refine wTd [(0, _), (1, _), (2, _), (3, _)] [_, _, _, _] ⟨rfl, rfl, rfl, rfl, trivial⟩ rfl ?_
  refine w_ret ?_
  exact endN .ret (.inl rfl) [_] [3] rfl ⟨⟨_, rfl, .inr ⟨[_, _], lk29, rowL 1 rfl rfl rfl, rfl⟩⟩, trivial⟩ ⟨_, _, _, rfl, rfl, rfl, hv4⟩

set_option maxRecDepth 4000 in
set_option maxHeartbeats 400000 in
theorem toBox_c (q : Option Addr) (cp : Nat) (x : DBox) (B : Kn) (hx : SlK B q cp 3 MailR x.mail) (hl : szL szMail x.mail ≤ 1048576) : CallsB (pj J) 183 [.agg #[.int .i64 x.next, .slice q x.mail.length cp]] B [] (fun v B' Ls => ∃ q0 c0 l0, v = .agg #[.int .i64 x.next, .slice q0 x.mail.length c0] ∧ B' = B ∧ Ls = [l0] ∧ VecR Kn.none l0 q0 c0 116 3 MailR x.mail) := by
  refine cBB 12 Tryz.func183 rfl rfl rfl (Nat.le_of_ble_eq_true rfl) ?_
  refine wSR ?_
  refine oX (w_box (l := [_, _]) rfl rfl rfl rfl (fun b1 => ?_))
  refine oX (w_alloc (l := [_, _]) rfl rfl zo38 rfl (fun b2 => ?_))
  refine wTd [(0, _), (1, _), (2, _)] [_, _] ⟨rfl, rfl, rfl, trivial⟩ rfl ?_
  refine wSR ?_
  refine oX (w_alloc (l := [_, _]) rfl rfl zo38 rfl (fun b3 => ?_))
  refine wTd [(0, _), (1, _), (2, _), (3, _)] [_, _, _] ⟨rfl, rfl, rfl, rfl, trivial⟩ rfl ?_
  refine wSR ?_
  refine oX (wFA rfl rfl fo161x0 rfl ?_)
  refine oX (w_load1 rfl rfl lk3 rfl (atL 0 rfl rfl rfl) ?_)
  refine oX (wFA rfl rfl fo38x0 rfl ?_)
  refine oX (w_store [_] 2 [_, _] rfl rfl sz3 rfl rfl rfl rfl rfl rfl rfl rfl ?_)
  refine wTd [(0, _), (1, _), (2, _), (3, _)] [_, _, _] ⟨rfl, rfl, rfl, rfl, trivial⟩ rfl ?_
  refine wSR ?_
  refine oX (wFA rfl rfl fo161x1 rfl ?_)
  refine oX (w_load1 rfl rfl lk159 rfl (atL 0 rfl rfl rfl) ?_)
  refine oX (w_call rfl rfl en216 rfl (toMailS_c _ _ x.mail (by first | assumption | omega | (simp; done) | (simp; omega)) _ hx) ?_)
  rintro _ _ _ hle4 ⟨q4, c4, l4, rfl, rfl, rfl, hv4⟩
  refine oX (wFA rfl rfl fo38x1 rfl ?_)
  refine oX (w_store [_] 2 [_, _] rfl rfl sz36 rfl rfl rfl rfl rfl rfl rfl rfl ?_)
  refine wTd [(0, _), (1, _), (2, _), (3, _)] [_, _, _, _] ⟨rfl, rfl, rfl, rfl, trivial⟩ rfl ?_
  refine wSR ?_
  refine oX (w_loadN [_, _] rfl rfl lk38 rfl (rowL 2 rfl rfl rfl) ?_)
  refine oX (w_store [_, _] 1 [_, _] rfl rfl sz38 rfl rfl rfl rfl rfl rfl rfl rfl ?_)
  refine wTd [(0, _), (1, _), (2, _), (3, _)] [_, _, _, _] ⟨rfl, rfl, rfl, rfl, trivial⟩ rfl ?_
  refine w_ret ?_
  exact endN .ret (.inl rfl) [_] [3] rfl ⟨⟨_, rfl, .inr ⟨[_, _], lk38, rowL 1 rfl rfl rfl, rfl⟩⟩, trivial⟩ ⟨_, _, _, rfl, rfl, rfl, hv4⟩

set_option maxRecDepth 4000 in
set_option maxHeartbeats 400000 in
theorem toFolder_c (qa qb : Option Addr) (ca cb : Nat) (x : DFolder) (B : Kn) (hx : SlK B qa ca 2 GrantR x.grants) (hy : SlK B qb cb 3 MailR x.mail) (hl : szL szGrant x.grants ≤ 1048576) (hl2 : szL szMail x.mail ≤ 1048576) : CallsB (pj J) 132 [.agg #[str x.owner, str x.name, .slice qa x.grants.length ca, .int .i64 x.next, .slice qb x.mail.length cb]] B [] (fun v B' Ls => ∃ q0 c0 l0 q1 c1 l1, v = .agg #[str x.owner, str x.name, .slice q0 x.grants.length c0, .int .i64 x.next, .slice q1 x.mail.length c1] ∧ B' = B ∧ Ls = [l0, l1] ∧ VecR Kn.none l0 q0 c0 174 2 GrantR x.grants ∧ VecR Kn.none l1 q1 c1 116 3 MailR x.mail) := by
  refine cBB 19 Tryz.func132 rfl rfl rfl (Nat.le_of_ble_eq_true rfl) ?_
  refine wSR ?_
  refine oX (w_box (l := [_, _, _, _, _]) rfl rfl rfl rfl (fun b1 => ?_))
  refine oX (w_alloc (l := [_, _, _, _, _]) rfl rfl zo40 rfl (fun b2 => ?_))
  refine wTd [(0, _), (1, _), (2, _)] [_, _] ⟨rfl, rfl, rfl, trivial⟩ rfl ?_
  refine wSR ?_
  refine oX (w_alloc (l := [_, _, _, _, _]) rfl rfl zo40 rfl (fun b3 => ?_))
  refine wTd [(0, _), (1, _), (2, _), (3, _)] [_, _, _] ⟨rfl, rfl, rfl, rfl, trivial⟩ rfl ?_
  refine wSR ?_
  refine oX (wFA rfl rfl fo163x0 rfl ?_)
  refine oX (w_load1 rfl rfl lk9 rfl (atL 0 rfl rfl rfl) ?_)
  refine oX (wFA rfl rfl fo40x0 rfl ?_)
  refine oX (w_store [_] 2 [_, _, _, _, _] rfl rfl sz9 rfl rfl rfl rfl rfl rfl rfl rfl ?_)
  refine wTd [(0, _), (1, _), (2, _), (3, _)] [_, _, _] ⟨rfl, rfl, rfl, rfl, trivial⟩ rfl ?_
  refine wSR ?_
  refine oX (wFA rfl rfl fo163x1 rfl ?_)
  refine oX (w_load1 rfl rfl lk9 rfl (atL 0 rfl rfl rfl) ?_)
  refine oX (wFA rfl rfl fo40x1 rfl ?_)
  refine oX (w_store [_] 2 [_, _, _, _, _] rfl rfl sz9 rfl rfl rfl rfl rfl rfl rfl rfl ?_)
  refine wTd [(0, _), (1, _), (2, _), (3, _)] [_, _, _] ⟨rfl, rfl, rfl, rfl, trivial⟩ rfl ?_
  refine wSR ?_
  refine oX (wFA rfl rfl fo163x2 rfl ?_)
  refine oX (w_load1 rfl rfl lk158 rfl (atL 0 rfl rfl rfl) ?_)
  refine oX (w_call rfl rfl en182 rfl (toGrantS_c _ _ x.grants (by first | assumption | omega | (simp; done) | (simp; omega)) _ hx) ?_)
  rintro _ _ _ hle4 ⟨q4, c4, l4, rfl, rfl, rfl, hv4⟩
  refine oX (wFA rfl rfl fo40x2 rfl ?_)
  refine oX (w_store [_] 2 [_, _, _, _, _] rfl rfl sz35 rfl rfl rfl rfl rfl rfl rfl rfl ?_)
  refine wTd [(0, _), (1, _), (2, _), (3, _)] [_, _, _, _] ⟨rfl, rfl, rfl, rfl, trivial⟩ rfl ?_
  refine wSR ?_
  refine oX (wFA rfl rfl fo163x3 rfl ?_)
  refine oX (w_loadN [_, _] rfl rfl lk161 rfl (rowL 0 rfl rfl rfl) ?_)
  refine oX (w_call rfl rfl en183 rfl (toBox_c _ _ ⟨x.next, x.mail⟩ _ hy (by first | assumption | omega | (simp; done) | (simp; omega))) ?_)
  rintro _ _ _ hle5 ⟨q5, c5, l5, rfl, rfl, rfl, hv5⟩
  refine oX (wFA rfl rfl fo40x3 rfl ?_)
  refine oX (w_store [_, _] 2 [_, _, _, _, _] rfl rfl sz38 rfl rfl rfl rfl rfl rfl rfl rfl ?_)
  refine wTd [(0, _), (1, _), (2, _), (3, _)] [_, _, _, _, _] ⟨rfl, rfl, rfl, rfl, trivial⟩ rfl ?_
  refine wSR ?_
  refine oX (w_loadN [_, _, _, _, _] rfl rfl lk40 rfl (rowL 2 rfl rfl rfl) ?_)
  refine oX (w_store [_, _, _, _, _] 1 [_, _, _, _, _] rfl rfl sz40 rfl rfl rfl rfl rfl rfl rfl rfl ?_)
  refine wTd [(0, _), (1, _), (2, _), (3, _)] [_, _, _, _, _] ⟨rfl, rfl, rfl, rfl, trivial⟩ rfl ?_
  refine w_ret ?_
  exact endN .ret (.inl rfl) [_] [3, 4] rfl ⟨⟨_, rfl, .inr ⟨[_, _, _, _, _], lk40, rowL 1 rfl rfl rfl, rfl⟩⟩, trivial⟩ ⟨_, _, _, _, _, _, rfl, rfl, rfl, hv4, hv5⟩

set_option maxRecDepth 4000 in
set_option maxHeartbeats 400000 in
theorem toFolderS_c (q : Option Addr) (cp : Nat) (xs : List DFolder) (hx20 : szL szFolder xs ≤ 1048576) (B : Kn) (hx : SlK B q cp 5 FolderR xs) : CallsB (pj J) 73 [.slice q xs.length cp] B [] (fun v B' Ls => ∃ q c l, v = .slice q xs.length c ∧ B' = B ∧ Ls = [l] ∧ VecD l q c 40 5 (FolderO 174 116) xs) := by
  refine cBB 23 Tryz.func73 rfl rfl rfl (Nat.le_of_ble_eq_true rfl) ?_
  have hxn := hx.len
  have hx21 := (szL_mem hx20).1
  refine wSR ?_
  refine xAs ?_
  refine wKp [(0, _), (2, _)] ⟨rfl, rfl, trivial⟩ ?_
  refine wSR ?_
  refine xMv ?_
  refine oX (w_lenV rfl rfl Tryz.underlying49 rfl ?_)
  refine oX (w_makeSlice (m := xs.length) (c := xs.length) (by_ := 88) [.string ⟨#[]⟩, .string ⟨#[]⟩, .slice none 0 0, .int .i64 0, .slice none 0 0] rfl rfl eo26 zo40 rfl rfl ⟨_, _, rfl, by first | omega | (simp; done) | (simp; omega)⟩ ⟨_, _, rfl, by first | omega | (simp; done) | (simp; omega)⟩ (by first | omega | (simp; done) | (simp; omega)) (by first | omega | (simp; done) | (simp; omega)) (fun b1 => ?_))
  have hd1 := VecD.zeros (b := b1) (T := 40) (R := (FolderO 174 116)) (d := (⟨[], [], [], 0, []⟩ : DFolder)) (m := xs.length) (c := xs.length) (zs := [.string ⟨#[]⟩, .string ⟨#[]⟩, .slice none 0 0, .int .i64 0, .slice none 0 0]) rfl (⟨_, _, _, _, [], [], rfl, rfl, VecR.nil, VecR.nil, by simp, by simp, by simp, by simp⟩) (by first | omega | (simp; done) | (simp; omega))
  refine xAs ?_
  refine wTd [(0, _), (2, _), (3, _)] [_] ⟨rfl, rfl, rfl, trivial⟩ rfl ?_
  refine w_seq ?_
  refine wSR ?_
  refine xAs ?_
  refine wKp [(0, _), (2, _), (3, _), (4, _)] ⟨rfl, rfl, rfl, rfl, trivial⟩ ?_
  refine w_block ?_
  refine w_loopE (α := Nat × Cells) [0, 2] (fun g => [(3, .slice (some ⟨b1, 0, none⟩) xs.length xs.length), (4, .int .i64 g.1)]) [0] (fun g => [g.2]) (fun g Bx => Bx = B ∧ g.1 ≤ xs.length ∧ VecD g.2 (some ⟨b1, 0, none⟩) xs.length 40 5 (FolderO 174 116) (fill xs (⟨[], [], [], 0, []⟩ : DFolder) g.1)) (fun g => xs.length - g.1) (0, _) ⟨rfl, rfl, trivial⟩ rfl (⟨rfl, Nat.zero_le _, by rw [fill_zero]; exact hd1⟩) (fun g B2 hle2 hI => ?_)
  obtain ⟨rfl, hk, hvl⟩ := hI
  have hfl := fill_len (d := (⟨[], [], [], 0, []⟩ : DFolder)) hk
  refine wTd [(0, _), (2, _), (3, _), (4, _)] [_] ⟨rfl, rfl, rfl, rfl, trivial⟩ rfl ?_
  refine w_seq ?_
  refine wSR ?_
  refine xMv ?_
  refine xMv ?_
  refine oX (w_lenV rfl rfl Tryz.underlying49 rfl ?_)
  refine oX (w_lss rfl rfl rfl rfl ?_)
  refine wKp [(0, _), (2, _), (3, _), (4, _), (11, _)] ⟨rfl, rfl, rfl, rfl, rfl, trivial⟩ ?_
  refine wCd rfl (fun g1 => ?_) (fun g1 => ?_)
  · try simp only [sQ1, sQ2, sQ3, sQ4, sQ5, sQ6, sQ7, sQ8, ne_eq] at g1
    refine w_skip ?_
    refine thn_n ?_
    refine w_seq ?_
    refine w_block ?_
    refine w_region ?_
    refine xMv ?_
    refine xMv ?_
    refine xMv ?_
    refine xMv ?_
    obtain ⟨z, hz⟩ := getLt (xs := xs) (i := g.1) (by first | omega | (simp; done) | (simp; omega))
    obtain ⟨bb4, oo4, rfl⟩ := hx.base hz
    obtain ⟨_, ⟨qg5, cg5, qm5, cm5, rfl, hg5, hm5, hb5, hb5b⟩, hc5⟩ := hx.elem hz
    have hg5n := hg5.len
    have hm5n := hm5.len
    have hm5s := sizeMs_le hm5
    refine oX (w_ixB rfl rfl Tryz.underlying49 sz163 rfl rfl (by first | omega | (simp; done) | (simp; omega)) (by first | omega | (simp; done) | (simp; omega)) ?_)
    have hzz := (szL_mem hx20).2 z (List.mem_of_getElem? hz)
    have hza := folder_sz hzz
    refine oX (w_loadN [_, _, _, _, _] rfl rfl lk163 rfl (rowK hc5 0 rfl rfl) ?_)
    refine oX (w_call rfl rfl en132 rfl (toFolder_c _ _ _ _ z _ hg5 hm5 (by first | assumption | omega | (simp; done) | (simp; omega)) (by first | assumption | omega | (simp; done) | (simp; omega))) ?_)
    rintro _ _ _ hle6 ⟨q6, c6, l6, q6b, c6b, l6b, rfl, rfl, rfl, hv6, hv6b⟩
    refine oX (w_ixP rfl rfl rfl Tryz.underlying26 sz40 rfl rfl (by first | omega | (simp; done) | (simp; omega)) (by first | omega | (simp; done) | (simp; omega)) ?_)
    refine oX (w_stD (R := (FolderO 174 116)) (k := g.1) (z) 0 [1, 2] rfl rfl hvl rfl (by first | omega | (simp; done) | (simp; omega)) rfl rfl sz40 rfl rfl rfl rfl rfl (l6 ++ l6b) (by simp) (⟨_, _, _, _, _, _, rfl, rfl, hv6, hv6b, by first | assumption | omega | (simp; omega), by first | assumption | omega | (simp; omega), by first | assumption | omega | (simp; omega), by first | assumption | omega | (simp; omega)⟩) (fun l8 hd8 => ?_))
    refine inB_n (thn_n ?_)
    refine w_region ?_
    refine xMv ?_
    refine oX (w_add rfl rfl rfl rfl (by first | exact wrI64 (by first | omega | (simp; done) | (simp; omega)) (by first | omega | (simp; done) | (simp; omega)) | rfl) ?_)
    refine xAs ?_
    exact rndE_n (g.1 + 1, l8) [0] (by first | omega | (simp only []; omega)) ⟨rfl, by simp only []; omega, by rw [← fill_next hz]; exact hd8⟩ ⟨rfl, rfl, rfl, rfl, trivial⟩ rfl
  · try simp only [sQ1, sQ2, sQ3, sQ4, sQ5, sQ6, sQ7, sQ8, ne_eq] at g1
    refine w_exit (thn_x (rndE_x (inB_hit (thn_n ?_))))
    refine wSR ?_
    refine xMv ?_
    refine xAs ?_
    refine wKp [(0, _), (2, _), (3, _), (4, _), (11, _)] ⟨rfl, rfl, rfl, rfl, rfl, trivial⟩ ?_
    refine w_ret ?_
    exact endN .ret (.inl rfl) [_] [0] rfl ⟨rfl, trivial⟩ ⟨_, _, _, rfl, rfl, rfl, by have e := hvl; rw [fill_end (by omega)] at e; exact e⟩

set_option maxRecDepth 4000 in
set_option maxHeartbeats 400000 in
theorem toHost_c (q1 q2 q3 : Option Addr) (c1 c2 c3 : Nat) (x : DHost) (B : Kn) (hu : SlK B q1 c1 3 UserR x.users) (hf : SlK B q2 c2 5 FolderR x.folders) (hi : SlK B q3 c3 4 ItemR x.queue.items) (hsz : szHost x ≤ 1048576) : CallsB (pj J) 24 [.agg #[str x.domain, .slice q1 x.users.length c1, .slice q2 x.folders.length c2, .int .i64 x.queue.next, .slice q3 x.queue.items.length c3]] B [] (fun v B' Ls => ∃ q0 c0 l0 q1 c1 l1 q2 c2 l2, v = .agg #[str x.domain, .slice q0 x.users.length c0, .slice q1 x.folders.length c1, .int .i64 x.queue.next, .slice q2 x.queue.items.length c2] ∧ B' = B ∧ Ls = [l0, l1, l2] ∧ VecR Kn.none l0 q0 c0 44 3 UserR x.users ∧ VecD l1 q1 c1 40 5 (FolderO 174 116) x.folders ∧ VecD l2 q2 c2 100 4 (ItemO 9) x.queue.items) := by
  refine cBB 20 Tryz.func24 rfl rfl rfl (Nat.le_of_ble_eq_true rfl) ?_
  have hsz2 := host_sz hsz
  refine wSR ?_
  refine oX (w_box (l := [_, _, _, _, _]) rfl rfl rfl rfl (fun b1 => ?_))
  refine oX (w_alloc (l := [_, _, _, _, _]) rfl rfl zo31 rfl (fun b2 => ?_))
  refine wTd [(0, _), (1, _), (2, _)] [_, _] ⟨rfl, rfl, rfl, trivial⟩ rfl ?_
  refine wSR ?_
  refine oX (w_alloc (l := [_, _, _, _, _]) rfl rfl zo31 rfl (fun b3 => ?_))
  refine wTd [(0, _), (1, _), (2, _), (3, _)] [_, _, _] ⟨rfl, rfl, rfl, rfl, trivial⟩ rfl ?_
  refine wSR ?_
  refine oX (wFA rfl rfl fo54x0 rfl ?_)
  refine oX (w_load1 rfl rfl lk9 rfl (atL 0 rfl rfl rfl) ?_)
  refine oX (wFA rfl rfl fo31x0 rfl ?_)
  refine oX (w_store [_] 2 [_, _, _, _, _] rfl rfl sz9 rfl rfl rfl rfl rfl rfl rfl rfl ?_)
  refine wTd [(0, _), (1, _), (2, _), (3, _)] [_, _, _] ⟨rfl, rfl, rfl, rfl, trivial⟩ rfl ?_
  refine wSR ?_
  refine oX (wFA rfl rfl fo54x1 rfl ?_)
  refine oX (w_load1 rfl rfl lk48 rfl (atL 0 rfl rfl rfl) ?_)
  refine oX (w_call rfl rfl en72 rfl (toUserS_c _ _ x.users (by first | assumption | omega | (simp; done) | (simp; omega)) _ hu) ?_)
  rintro _ _ _ hle4 ⟨q4, c4, l4, rfl, rfl, rfl, hv4⟩
  refine oX (wFA rfl rfl fo31x1 rfl ?_)
  refine oX (w_store [_] 2 [_, _, _, _, _] rfl rfl sz23 rfl rfl rfl rfl rfl rfl rfl rfl ?_)
  refine wTd [(0, _), (1, _), (2, _), (3, _)] [_, _, _, _] ⟨rfl, rfl, rfl, rfl, trivial⟩ rfl ?_
  refine wSR ?_
  refine oX (wFA rfl rfl fo54x2 rfl ?_)
  refine oX (w_load1 rfl rfl lk49 rfl (atL 0 rfl rfl rfl) ?_)
  refine oX (w_call rfl rfl en73 rfl (toFolderS_c _ _ x.folders (by first | assumption | omega | (simp; done) | (simp; omega)) _ hf) ?_)
  rintro _ _ _ hle5 ⟨q5, c5, l5, rfl, rfl, rfl, hv5⟩
  refine oX (wFA rfl rfl fo31x2 rfl ?_)
  refine oX (w_store [_] 2 [_, _, _, _, _] rfl rfl sz26 rfl rfl rfl rfl rfl rfl rfl rfl ?_)
  refine wTd [(0, _), (1, _), (2, _), (3, _)] [_, _, _, _, _] ⟨rfl, rfl, rfl, rfl, trivial⟩ rfl ?_
  refine wSR ?_
  refine oX (wFA rfl rfl fo54x3 rfl ?_)
  refine oX (w_loadN [_, _] rfl rfl lk52 rfl (rowL 0 rfl rfl rfl) ?_)
  refine oX (w_call rfl rfl en74 rfl (toQueue_c _ _ ⟨x.queue.next, x.queue.items⟩ _ hi (by first | assumption | omega | (simp; done) | (simp; omega))) ?_)
  rintro _ _ _ hle6 ⟨q6, c6, l6, rfl, rfl, rfl, hv6⟩
  refine oX (wFA rfl rfl fo31x3 rfl ?_)
  refine oX (w_store [_, _] 2 [_, _, _, _, _] rfl rfl sz29 rfl rfl rfl rfl rfl rfl rfl rfl ?_)
  refine wTd [(0, _), (1, _), (2, _), (3, _)] [_, _, _, _, _, _] ⟨rfl, rfl, rfl, rfl, trivial⟩ rfl ?_
  refine wSR ?_
  refine oX (w_loadN [_, _, _, _, _] rfl rfl lk31 rfl (rowL 2 rfl rfl rfl) ?_)
  refine oX (w_store [_, _, _, _, _] 1 [_, _, _, _, _] rfl rfl sz31 rfl rfl rfl rfl rfl rfl rfl rfl ?_)
  refine wTd [(0, _), (1, _), (2, _), (3, _)] [_, _, _, _, _, _] ⟨rfl, rfl, rfl, rfl, trivial⟩ rfl ?_
  refine w_ret ?_
  exact endN .ret (.inl rfl) [_] [3, 4, 5] rfl ⟨⟨_, rfl, .inr ⟨[_, _, _, _, _], lk31, rowL 1 rfl rfl rfl, rfl⟩⟩, trivial⟩ ⟨_, _, _, _, _, _, _, _, _, rfl, rfl, rfl, hv4, hv5, hv6⟩

set_option maxRecDepth 4000 in
set_option maxHeartbeats 400000 in
theorem eqUser_c   (a b : DUser) (B : Kn)   : RetB (pj J) 134 [.agg #[str a.name, str a.pass, .int .i64 a.quota], .agg #[str b.name, str b.pass, .int .i64 b.quota]] B (.bool (decide (a = b))) := by
  refine cBB 20 Tryz.func134 rfl rfl rfl (Nat.le_of_ble_eq_true rfl) ?_
  refine wSR ?_
  refine oX (w_box (l := [_, _, _]) rfl rfl rfl rfl (fun b1 => ?_))
  refine oX (w_box (l := [_, _, _]) rfl rfl rfl rfl (fun b2 => ?_))
  refine xAs ?_
  refine wTd [(0, _), (1, _), (2, _), (3, _), (4, _)] [_, _] ⟨rfl, rfl, rfl, rfl, rfl, trivial⟩ rfl ?_
  refine w_seq ?_
  refine wSR ?_
  refine oX (wFA rfl rfl fo44x0 rfl ?_)
  refine oX (w_load1 rfl rfl lk9 rfl (atL 0 rfl rfl rfl) ?_)
  refine oX (wFA rfl rfl fo44x0 rfl ?_)
  refine oX (w_load1 rfl rfl lk9 rfl (atL 1 rfl rfl rfl) ?_)
  refine oX (w_neqS rfl rfl rfl rfl ?_)
  refine wKp [(0, _), (1, _), (2, _), (3, _), (4, _), (9, _)] ⟨rfl, rfl, rfl, rfl, rfl, rfl, trivial⟩ ?_
  refine wCd rfl (fun g1 => ?_) (fun g1 => ?_)
  · try simp only [sQ1, sQ2, sQ3, sQ4, sQ5, sQ6, sQ7, sQ8, ne_eq] at g1
    refine wSR ?_
    refine xAs ?_
    refine wKp [(0, _), (1, _), (2, _), (3, _), (4, _), (9, _)] ⟨rfl, rfl, rfl, rfl, rfl, rfl, trivial⟩ ?_
    refine w_ret (thn_r ?_)
    exact end0 .ret (.inl rfl) [_] ⟨rfl, trivial⟩ ⟨bool_eq (by symm; rw [decide_eq_false_iff_not]; rintro rfl; exact g1 rfl), rfl, rfl⟩
  · try simp only [sQ1, sQ2, sQ3, sQ4, sQ5, sQ6, sQ7, sQ8, ne_eq] at g1
    refine w_skip ?_
    refine thn_n ?_
    refine w_seq ?_
    refine wSR ?_
    refine oX (wFA rfl rfl fo44x1 rfl ?_)
    refine oX (w_load1 rfl rfl lk9 rfl (atL 0 rfl rfl rfl) ?_)
    refine oX (wFA rfl rfl fo44x1 rfl ?_)
    refine oX (w_load1 rfl rfl lk9 rfl (atL 1 rfl rfl rfl) ?_)
    refine oX (w_neqS rfl rfl rfl rfl ?_)
    refine wKp [(0, _), (1, _), (2, _), (3, _), (4, _), (9, _), (14, _)] ⟨rfl, rfl, rfl, rfl, rfl, rfl, rfl, trivial⟩ ?_
    refine wCd rfl (fun g2 => ?_) (fun g2 => ?_)
    · try simp only [sQ1, sQ2, sQ3, sQ4, sQ5, sQ6, sQ7, sQ8, ne_eq] at g2
      refine wSR ?_
      refine xAs ?_
      refine wKp [(0, _), (1, _), (2, _), (3, _), (4, _), (9, _), (14, _)] ⟨rfl, rfl, rfl, rfl, rfl, rfl, rfl, trivial⟩ ?_
      refine w_ret (thn_r ?_)
      exact end0 .ret (.inl rfl) [_] ⟨rfl, trivial⟩ ⟨bool_eq (by symm; rw [decide_eq_false_iff_not]; rintro rfl; exact g2 rfl), rfl, rfl⟩
    · try simp only [sQ1, sQ2, sQ3, sQ4, sQ5, sQ6, sQ7, sQ8, ne_eq] at g2
      refine w_skip ?_
      refine thn_n ?_
      refine w_seq ?_
      refine wSR ?_
      refine oX (wFA rfl rfl fo44x2 rfl ?_)
      refine oX (w_load1 rfl rfl lk3 rfl (atL 0 rfl rfl rfl) ?_)
      refine oX (wFA rfl rfl fo44x2 rfl ?_)
      refine oX (w_load1 rfl rfl lk3 rfl (atL 1 rfl rfl rfl) ?_)
      refine oX (w_neqI rfl rfl rfl rfl ?_)
      refine wKp [(0, _), (1, _), (2, _), (3, _), (4, _), (9, _), (14, _), (19, _)] ⟨rfl, rfl, rfl, rfl, rfl, rfl, rfl, rfl, trivial⟩ ?_
      refine wCd rfl (fun g3 => ?_) (fun g3 => ?_)
      · try simp only [sQ1, sQ2, sQ3, sQ4, sQ5, sQ6, sQ7, sQ8, ne_eq] at g3
        refine wSR ?_
        refine xAs ?_
        refine wKp [(0, _), (1, _), (2, _), (3, _), (4, _), (9, _), (14, _), (19, _)] ⟨rfl, rfl, rfl, rfl, rfl, rfl, rfl, rfl, trivial⟩ ?_
        refine w_ret (thn_r ?_)
        exact end0 .ret (.inl rfl) [_] ⟨rfl, trivial⟩ ⟨bool_eq (by symm; rw [decide_eq_false_iff_not]; rintro rfl; exact g3 rfl), rfl, rfl⟩
      · try simp only [sQ1, sQ2, sQ3, sQ4, sQ5, sQ6, sQ7, sQ8, ne_eq] at g3
        refine w_skip ?_
        refine thn_n ?_
        refine wSR ?_
        refine xAs ?_
        refine wKp [(0, _), (1, _), (2, _), (3, _), (4, _), (9, _), (14, _), (19, _)] ⟨rfl, rfl, rfl, rfl, rfl, rfl, rfl, rfl, trivial⟩ ?_
        refine w_ret ?_
        exact end0 .ret (.inl rfl) [_] ⟨rfl, trivial⟩ ⟨bool_eq (by symm; rw [decide_eq_true_eq]; cases a; cases b; simp_all), rfl, rfl⟩

set_option maxRecDepth 4000 in
set_option maxHeartbeats 400000 in
theorem eqGrant_c   (a b : DGrant) (B : Kn)   : RetB (pj J) 138 [.agg #[str a.user, .int .i64 a.rights], .agg #[str b.user, .int .i64 b.rights]] B (.bool (decide (a = b))) := by
  refine cBB 15 Tryz.func138 rfl rfl rfl (Nat.le_of_ble_eq_true rfl) ?_
  refine wSR ?_
  refine oX (w_box (l := [_, _]) rfl rfl rfl rfl (fun b1 => ?_))
  refine oX (w_box (l := [_, _]) rfl rfl rfl rfl (fun b2 => ?_))
  refine xAs ?_
  refine wTd [(0, _), (1, _), (2, _), (3, _), (4, _)] [_, _] ⟨rfl, rfl, rfl, rfl, rfl, trivial⟩ rfl ?_
  refine w_seq ?_
  refine wSR ?_
  refine oX (wFA rfl rfl fo174x0 rfl ?_)
  refine oX (w_load1 rfl rfl lk9 rfl (atL 0 rfl rfl rfl) ?_)
  refine oX (wFA rfl rfl fo174x0 rfl ?_)
  refine oX (w_load1 rfl rfl lk9 rfl (atL 1 rfl rfl rfl) ?_)
  refine oX (w_neqS rfl rfl rfl rfl ?_)
  refine wKp [(0, _), (1, _), (2, _), (3, _), (4, _), (9, _)] ⟨rfl, rfl, rfl, rfl, rfl, rfl, trivial⟩ ?_
  refine wCd rfl (fun g1 => ?_) (fun g1 => ?_)
  · try simp only [sQ1, sQ2, sQ3, sQ4, sQ5, sQ6, sQ7, sQ8, ne_eq] at g1
    refine wSR ?_
    refine xAs ?_
    refine wKp [(0, _), (1, _), (2, _), (3, _), (4, _), (9, _)] ⟨rfl, rfl, rfl, rfl, rfl, rfl, trivial⟩ ?_
    refine w_ret (thn_r ?_)
    exact end0 .ret (.inl rfl) [_] ⟨rfl, trivial⟩ ⟨bool_eq (by symm; rw [decide_eq_false_iff_not]; rintro rfl; exact g1 rfl), rfl, rfl⟩
  · try simp only [sQ1, sQ2, sQ3, sQ4, sQ5, sQ6, sQ7, sQ8, ne_eq] at g1
    refine w_skip ?_
    refine thn_n ?_
    refine w_seq ?_
    refine wSR ?_
    refine oX (wFA rfl rfl fo174x1 rfl ?_)
    refine oX (w_load1 rfl rfl lk3 rfl (atL 0 rfl rfl rfl) ?_)
    refine oX (wFA rfl rfl fo174x1 rfl ?_)
    refine oX (w_load1 rfl rfl lk3 rfl (atL 1 rfl rfl rfl) ?_)
    refine oX (w_neqI rfl rfl rfl rfl ?_)
    refine wKp [(0, _), (1, _), (2, _), (3, _), (4, _), (9, _), (14, _)] ⟨rfl, rfl, rfl, rfl, rfl, rfl, rfl, trivial⟩ ?_
    refine wCd rfl (fun g2 => ?_) (fun g2 => ?_)
    · try simp only [sQ1, sQ2, sQ3, sQ4, sQ5, sQ6, sQ7, sQ8, ne_eq] at g2
      refine wSR ?_
      refine xAs ?_
      refine wKp [(0, _), (1, _), (2, _), (3, _), (4, _), (9, _), (14, _)] ⟨rfl, rfl, rfl, rfl, rfl, rfl, rfl, trivial⟩ ?_
      refine w_ret (thn_r ?_)
      exact end0 .ret (.inl rfl) [_] ⟨rfl, trivial⟩ ⟨bool_eq (by symm; rw [decide_eq_false_iff_not]; rintro rfl; exact g2 rfl), rfl, rfl⟩
    · try simp only [sQ1, sQ2, sQ3, sQ4, sQ5, sQ6, sQ7, sQ8, ne_eq] at g2
      refine w_skip ?_
      refine thn_n ?_
      refine wSR ?_
      refine xAs ?_
      refine wKp [(0, _), (1, _), (2, _), (3, _), (4, _), (9, _), (14, _)] ⟨rfl, rfl, rfl, rfl, rfl, rfl, rfl, trivial⟩ ?_
      refine w_ret ?_
      exact end0 .ret (.inl rfl) [_] ⟨rfl, trivial⟩ ⟨bool_eq (by symm; rw [decide_eq_true_eq]; cases a; cases b; simp_all), rfl, rfl⟩

set_option maxRecDepth 4000 in
set_option maxHeartbeats 400000 in
theorem eqMail_c   (a b : DMail) (B : Kn)   : RetB (pj J) 186 [.agg #[.int .i64 a.uid, .int .i64 a.flags, str a.text], .agg #[.int .i64 b.uid, .int .i64 b.flags, str b.text]] B (.bool (decide (a = b))) := by
  refine cBB 20 Tryz.func186 rfl rfl rfl (Nat.le_of_ble_eq_true rfl) ?_
  refine wSR ?_
  refine oX (w_box (l := [_, _, _]) rfl rfl rfl rfl (fun b1 => ?_))
  refine oX (w_box (l := [_, _, _]) rfl rfl rfl rfl (fun b2 => ?_))
  refine xAs ?_
  refine wTd [(0, _), (1, _), (2, _), (3, _), (4, _)] [_, _] ⟨rfl, rfl, rfl, rfl, rfl, trivial⟩ rfl ?_
  refine w_seq ?_
  refine wSR ?_
  refine oX (wFA rfl rfl fo116x0 rfl ?_)
  refine oX (w_load1 rfl rfl lk3 rfl (atL 0 rfl rfl rfl) ?_)
  refine oX (wFA rfl rfl fo116x0 rfl ?_)
  refine oX (w_load1 rfl rfl lk3 rfl (atL 1 rfl rfl rfl) ?_)
  refine oX (w_neqI rfl rfl rfl rfl ?_)
  refine wKp [(0, _), (1, _), (2, _), (3, _), (4, _), (9, _)] ⟨rfl, rfl, rfl, rfl, rfl, rfl, trivial⟩ ?_
  refine wCd rfl (fun g1 => ?_) (fun g1 => ?_)
  · try simp only [sQ1, sQ2, sQ3, sQ4, sQ5, sQ6, sQ7, sQ8, ne_eq] at g1
    refine wSR ?_
    refine xAs ?_
    refine wKp [(0, _), (1, _), (2, _), (3, _), (4, _), (9, _)] ⟨rfl, rfl, rfl, rfl, rfl, rfl, trivial⟩ ?_
    refine w_ret (thn_r ?_)
    exact end0 .ret (.inl rfl) [_] ⟨rfl, trivial⟩ ⟨bool_eq (by symm; rw [decide_eq_false_iff_not]; rintro rfl; exact g1 rfl), rfl, rfl⟩
  · try simp only [sQ1, sQ2, sQ3, sQ4, sQ5, sQ6, sQ7, sQ8, ne_eq] at g1
    refine w_skip ?_
    refine thn_n ?_
    refine w_seq ?_
    refine wSR ?_
    refine oX (wFA rfl rfl fo116x1 rfl ?_)
    refine oX (w_load1 rfl rfl lk3 rfl (atL 0 rfl rfl rfl) ?_)
    refine oX (wFA rfl rfl fo116x1 rfl ?_)
    refine oX (w_load1 rfl rfl lk3 rfl (atL 1 rfl rfl rfl) ?_)
    refine oX (w_neqI rfl rfl rfl rfl ?_)
    refine wKp [(0, _), (1, _), (2, _), (3, _), (4, _), (9, _), (14, _)] ⟨rfl, rfl, rfl, rfl, rfl, rfl, rfl, trivial⟩ ?_
    refine wCd rfl (fun g2 => ?_) (fun g2 => ?_)
    · try simp only [sQ1, sQ2, sQ3, sQ4, sQ5, sQ6, sQ7, sQ8, ne_eq] at g2
      refine wSR ?_
      refine xAs ?_
      refine wKp [(0, _), (1, _), (2, _), (3, _), (4, _), (9, _), (14, _)] ⟨rfl, rfl, rfl, rfl, rfl, rfl, rfl, trivial⟩ ?_
      refine w_ret (thn_r ?_)
      exact end0 .ret (.inl rfl) [_] ⟨rfl, trivial⟩ ⟨bool_eq (by symm; rw [decide_eq_false_iff_not]; rintro rfl; exact g2 rfl), rfl, rfl⟩
    · try simp only [sQ1, sQ2, sQ3, sQ4, sQ5, sQ6, sQ7, sQ8, ne_eq] at g2
      refine w_skip ?_
      refine thn_n ?_
      refine w_seq ?_
      refine wSR ?_
      refine oX (wFA rfl rfl fo116x2 rfl ?_)
      refine oX (w_load1 rfl rfl lk9 rfl (atL 0 rfl rfl rfl) ?_)
      refine oX (wFA rfl rfl fo116x2 rfl ?_)
      refine oX (w_load1 rfl rfl lk9 rfl (atL 1 rfl rfl rfl) ?_)
      refine oX (w_neqS rfl rfl rfl rfl ?_)
      refine wKp [(0, _), (1, _), (2, _), (3, _), (4, _), (9, _), (14, _), (19, _)] ⟨rfl, rfl, rfl, rfl, rfl, rfl, rfl, rfl, trivial⟩ ?_
      refine wCd rfl (fun g3 => ?_) (fun g3 => ?_)
      · try simp only [sQ1, sQ2, sQ3, sQ4, sQ5, sQ6, sQ7, sQ8, ne_eq] at g3
        refine wSR ?_
        refine xAs ?_
        refine wKp [(0, _), (1, _), (2, _), (3, _), (4, _), (9, _), (14, _), (19, _)] ⟨rfl, rfl, rfl, rfl, rfl, rfl, rfl, rfl, trivial⟩ ?_
        refine w_ret (thn_r ?_)
        exact end0 .ret (.inl rfl) [_] ⟨rfl, trivial⟩ ⟨bool_eq (by symm; rw [decide_eq_false_iff_not]; rintro rfl; exact g3 rfl), rfl, rfl⟩
      · try simp only [sQ1, sQ2, sQ3, sQ4, sQ5, sQ6, sQ7, sQ8, ne_eq] at g3
        refine w_skip ?_
        refine thn_n ?_
        refine wSR ?_
        refine xAs ?_
        refine wKp [(0, _), (1, _), (2, _), (3, _), (4, _), (9, _), (14, _), (19, _)] ⟨rfl, rfl, rfl, rfl, rfl, rfl, rfl, rfl, trivial⟩ ?_
        refine w_ret ?_
        exact end0 .ret (.inl rfl) [_] ⟨rfl, trivial⟩ ⟨bool_eq (by symm; rw [decide_eq_true_eq]; cases a; cases b; simp_all), rfl, rfl⟩

set_option maxRecDepth 4000 in
set_option maxHeartbeats 400000 in
theorem eqUserS_c (q q' : Option Addr) (cp cp' : Nat) (xs ys : List DUser) (B : Kn) (ha : SlK B q cp 3 UserR xs) (hb : SlK B q' cp' 3 UserR ys) : RetB (pj J) 75 [.slice q xs.length cp, .slice q' ys.length cp'] B (.bool (decide (xs = ys))) := by
  refine cBB 27 Tryz.func75 rfl rfl rfl (Nat.le_of_ble_eq_true rfl) ?_
  have han := ha.len
  have hbn := hb.len
  refine wSR ?_
  refine xAs ?_
  refine wKp [(0, _), (1, _), (4, _)] ⟨rfl, rfl, rfl, trivial⟩ ?_
  refine w_seq ?_
  refine wSR ?_
  refine xMv ?_
  refine oX (w_lenV rfl rfl Tryz.underlying23 rfl ?_)
  refine xMv ?_
  refine oX (w_lenV rfl rfl Tryz.underlying23 rfl ?_)
  refine oX (w_neqI rfl rfl rfl rfl ?_)
  refine wKp [(0, _), (1, _), (4, _), (10, _)] ⟨rfl, rfl, rfl, rfl, trivial⟩ ?_
  refine wCd rfl (fun g1 => ?_) (fun g1 => ?_)
  · try simp only [sQ1, sQ2, sQ3, sQ4, sQ5, sQ6, sQ7, sQ8, ne_eq] at g1
    refine wSR ?_
    refine xAs ?_
    refine wKp [(0, _), (1, _), (4, _), (10, _)] ⟨rfl, rfl, rfl, rfl, trivial⟩ ?_
    refine w_ret (thn_r ?_)
    exact end0 .ret (.inl rfl) [_] ⟨rfl, trivial⟩ ⟨bool_eq (eqF_len g1), rfl, rfl⟩
  · try simp only [sQ1, sQ2, sQ3, sQ4, sQ5, sQ6, sQ7, sQ8, ne_eq] at g1
    refine w_skip ?_
    refine thn_n ?_
    refine w_seq ?_
    refine wSR ?_
    refine xAs ?_
    refine wKp [(0, _), (1, _), (4, _), (5, _), (10, _)] ⟨rfl, rfl, rfl, rfl, rfl, trivial⟩ ?_
    refine w_block ?_
    refine w_loopE (α := Nat) [0, 1, 10] (fun k => [(5, .int .i64 k)]) [] (fun k => []) (fun k Bx => Bx = B ∧ k ≤ xs.length ∧ xs.take k = ys.take k) (fun k => xs.length - k) 0 ⟨rfl, trivial⟩ rfl (⟨rfl, Nat.zero_le _, by simp⟩) (fun k B1 hle1 hI => ?_)
    obtain ⟨rfl, hk, he⟩ := hI
    refine wTd [(0, _), (1, _), (5, _), (10, _)] [] ⟨rfl, rfl, rfl, rfl, trivial⟩ rfl ?_
    refine w_seq ?_
    refine wSR ?_
    refine xMv ?_
    refine xMv ?_
    refine oX (w_lenV rfl rfl Tryz.underlying23 rfl ?_)
    refine oX (w_lss rfl rfl rfl rfl ?_)
    refine wKp [(0, _), (1, _), (5, _), (10, _), (14, _)] ⟨rfl, rfl, rfl, rfl, rfl, trivial⟩ ?_
    refine wCd rfl (fun g2 => ?_) (fun g2 => ?_)
    · try simp only [sQ1, sQ2, sQ3, sQ4, sQ5, sQ6, sQ7, sQ8, ne_eq] at g2
      refine w_skip ?_
      refine thn_n ?_
      refine w_seq ?_
      refine w_block ?_
      refine w_seq ?_
      refine w_draw (same _ _) mo (by kernel_rfl) ⟨rfl, rfl⟩ (fun _ _ => ?_)
      refine aTP 0 rfl (by kernel_rfl) rfl (fun D B L => w_move rfl rfl rfl ⟨rfl, rfl, rfl, rfl⟩) ?_
      refine aTP 1 rfl (by kernel_rfl) rfl (fun D B L => w_move rfl rfl rfl ⟨rfl, rfl, rfl, rfl⟩) ?_
      obtain ⟨x, hx⟩ := getLt (xs := xs) (i := k) (by first | omega | (simp; done) | (simp; omega))
      obtain ⟨bb3, oo3, rfl⟩ := ha.base hx
      obtain ⟨_, ⟨rfl, hb4, hb4b⟩, hc4⟩ := ha.elem hx
      refine aTk 2 rfl (by kernel_rfl) rfl (q_of fun D => w_ixB rfl rfl Tryz.underlying23 sz44 rfl rfl (by first | omega | (simp; done) | (simp; omega)) (by first | omega | (simp; done) | (simp; omega)) ⟨rfl, rfl, rfl, rfl⟩) ?_
      refine aTk 3 rfl (by kernel_rfl) rfl (q_of fun D => w_loadN [_, _, _] rfl rfl lk44 rfl (rowK hc4 0 rfl rfl) ⟨rfl, rfl, rfl, rfl⟩) ?_
      refine aTP 4 rfl (by kernel_rfl) rfl (fun D B L => w_move rfl rfl rfl ⟨rfl, rfl, rfl, rfl⟩) ?_
      refine aTP 5 rfl (by kernel_rfl) rfl (fun D B L => w_move rfl rfl rfl ⟨rfl, rfl, rfl, rfl⟩) ?_
      obtain ⟨y, hy⟩ := getLt (xs := ys) (i := k) (by first | omega | (simp; done) | (simp; omega))
      obtain ⟨bb6, oo6, rfl⟩ := hb.base hy
      obtain ⟨_, ⟨rfl, hb7, hb7b⟩, hc7⟩ := hb.elem hy
      refine aTk 6 rfl (by kernel_rfl) rfl (q_of fun D => w_ixB rfl rfl Tryz.underlying23 sz44 rfl rfl (by first | omega | (simp; done) | (simp; omega)) (by first | omega | (simp; done) | (simp; omega)) ⟨rfl, rfl, rfl, rfl⟩) ?_
      refine aTk 7 rfl (by kernel_rfl) rfl (q_of fun D => w_loadN [_, _, _] rfl rfl lk44 rfl (rowK hc7 0 rfl rfl) ⟨rfl, rfl, rfl, rfl⟩) ?_
      refine aTk 8 rfl (by kernel_rfl) rfl (q_of fun D => w_retB rfl rfl en134 rfl (eqUser_c x y _ ) ⟨rfl, rfl, rfl, rfl⟩) ?_
      refine aTk 9 rfl (by kernel_rfl) rfl (q_of fun D => w_not rfl rfl rfl ⟨rfl, rfl, rfl, rfl⟩) ?_
      refine any_done (by kernel_rfl) (by kernel_rfl) ?_
      refine thn_n ?_
      refine wKp [(0, _), (1, _), (5, _), (10, _), (14, _), (26, _)] ⟨rfl, rfl, rfl, rfl, rfl, rfl, trivial⟩ ?_
      refine wCd rfl (fun g3 => ?_) (fun g3 => ?_)
      · try simp only [sQ1, sQ2, sQ3, sQ4, sQ5, sQ6, sQ7, sQ8, ne_eq] at g3
        refine wSR ?_
        refine xAs ?_
        refine wKp [(0, _), (1, _), (4, _), (5, _), (10, _), (14, _), (26, _)] ⟨rfl, rfl, rfl, rfl, rfl, rfl, rfl, trivial⟩ ?_
        refine w_ret (inB_r (thn_r (rndE_r (inB_r (thn_r ?_)))))
        exact end0 .ret (.inl rfl) [_] ⟨rfl, trivial⟩ ⟨bool_eq (eqF_elem hx hy g3), rfl, rfl⟩
      · try simp only [sQ1, sQ2, sQ3, sQ4, sQ5, sQ6, sQ7, sQ8, ne_eq] at g3
        refine w_skip ?_
        refine inB_n (thn_n ?_)
        refine w_region ?_
        refine xMv ?_
        refine oX (w_add rfl rfl rfl rfl (by first | exact wrI64 (by first | omega | (simp; done) | (simp; omega)) (by first | omega | (simp; done) | (simp; omega)) | rfl) ?_)
        refine xAs ?_
        exact rndE_n (k + 1) [] (by first | omega | (simp only []; omega)) ⟨rfl, by omega, take_eq_next hx hy g3 he⟩ ⟨rfl, rfl, rfl, rfl, trivial⟩ rfl
    · try simp only [sQ1, sQ2, sQ3, sQ4, sQ5, sQ6, sQ7, sQ8, ne_eq] at g2
      refine w_exit (thn_x (rndE_x (inB_hit (thn_n ?_))))
      refine wSR ?_
      refine xAs ?_
      refine wKp [(0, _), (1, _), (4, _), (5, _), (10, _), (14, _)] ⟨rfl, rfl, rfl, rfl, rfl, rfl, trivial⟩ ?_
      refine w_ret ?_
      exact end0 .ret (.inl rfl) [_] ⟨rfl, trivial⟩ ⟨bool_eq (eqT (by omega) (by omega) he), rfl, rfl⟩

set_option maxRecDepth 4000 in
set_option maxHeartbeats 400000 in
theorem eqGrantS_c (q q' : Option Addr) (cp cp' : Nat) (xs ys : List DGrant) (B : Kn) (ha : SlK B q cp 2 GrantR xs) (hb : SlK B q' cp' 2 GrantR ys) : RetB (pj J) 80 [.slice q xs.length cp, .slice q' ys.length cp'] B (.bool (decide (xs = ys))) := by
  refine cBB 27 Tryz.func80 rfl rfl rfl (Nat.le_of_ble_eq_true rfl) ?_
  have han := ha.len
  have hbn := hb.len
  refine wSR ?_
  refine xAs ?_
  refine wKp [(0, _), (1, _), (4, _)] ⟨rfl, rfl, rfl, trivial⟩ ?_
  refine w_seq ?_
  refine wSR ?_
  refine xMv ?_
  refine oX (w_lenV rfl rfl Tryz.underlying35 rfl ?_)
  refine xMv ?_
  refine oX (w_lenV rfl rfl Tryz.underlying35 rfl ?_)
  refine oX (w_neqI rfl rfl rfl rfl ?_)
  refine wKp [(0, _), (1, _), (4, _), (10, _)] ⟨rfl, rfl, rfl, rfl, trivial⟩ ?_
  refine wCd rfl (fun g1 => ?_) (fun g1 => ?_)
  · try simp only [sQ1, sQ2, sQ3, sQ4, sQ5, sQ6, sQ7, sQ8, ne_eq] at g1
    refine wSR ?_
    refine xAs ?_
    refine wKp [(0, _), (1, _), (4, _), (10, _)] ⟨rfl, rfl, rfl, rfl, trivial⟩ ?_
    refine w_ret (thn_r ?_)
    exact end0 .ret (.inl rfl) [_] ⟨rfl, trivial⟩ ⟨bool_eq (eqF_len g1), rfl, rfl⟩
  · try simp only [sQ1, sQ2, sQ3, sQ4, sQ5, sQ6, sQ7, sQ8, ne_eq] at g1
    refine w_skip ?_
    refine thn_n ?_
    refine w_seq ?_
    refine wSR ?_
    refine xAs ?_
    refine wKp [(0, _), (1, _), (4, _), (5, _), (10, _)] ⟨rfl, rfl, rfl, rfl, rfl, trivial⟩ ?_
    refine w_block ?_
    refine w_loopE (α := Nat) [0, 1, 10] (fun k => [(5, .int .i64 k)]) [] (fun k => []) (fun k Bx => Bx = B ∧ k ≤ xs.length ∧ xs.take k = ys.take k) (fun k => xs.length - k) 0 ⟨rfl, trivial⟩ rfl (⟨rfl, Nat.zero_le _, by simp⟩) (fun k B1 hle1 hI => ?_)
    obtain ⟨rfl, hk, he⟩ := hI
    refine wTd [(0, _), (1, _), (5, _), (10, _)] [] ⟨rfl, rfl, rfl, rfl, trivial⟩ rfl ?_
    refine w_seq ?_
    refine wSR ?_
    refine xMv ?_
    refine xMv ?_
    refine oX (w_lenV rfl rfl Tryz.underlying35 rfl ?_)
    refine oX (w_lss rfl rfl rfl rfl ?_)
    refine wKp [(0, _), (1, _), (5, _), (10, _), (14, _)] ⟨rfl, rfl, rfl, rfl, rfl, trivial⟩ ?_
    refine wCd rfl (fun g2 => ?_) (fun g2 => ?_)
    · try simp only [sQ1, sQ2, sQ3, sQ4, sQ5, sQ6, sQ7, sQ8, ne_eq] at g2
      refine w_skip ?_
      refine thn_n ?_
      refine w_seq ?_
      refine w_block ?_
      refine w_seq ?_
      refine w_draw (same _ _) mo (by kernel_rfl) ⟨rfl, rfl⟩ (fun _ _ => ?_)
      refine aTP 0 rfl (by kernel_rfl) rfl (fun D B L => w_move rfl rfl rfl ⟨rfl, rfl, rfl, rfl⟩) ?_
      refine aTP 1 rfl (by kernel_rfl) rfl (fun D B L => w_move rfl rfl rfl ⟨rfl, rfl, rfl, rfl⟩) ?_
      obtain ⟨x, hx⟩ := getLt (xs := xs) (i := k) (by first | omega | (simp; done) | (simp; omega))
      obtain ⟨bb3, oo3, rfl⟩ := ha.base hx
      obtain ⟨_, ⟨rfl, hb4⟩, hc4⟩ := ha.elem hx
      refine aTk 2 rfl (by kernel_rfl) rfl (q_of fun D => w_ixB rfl rfl Tryz.underlying35 sz174 rfl rfl (by first | omega | (simp; done) | (simp; omega)) (by first | omega | (simp; done) | (simp; omega)) ⟨rfl, rfl, rfl, rfl⟩) ?_
      refine aTk 3 rfl (by kernel_rfl) rfl (q_of fun D => w_loadN [_, _] rfl rfl lk174 rfl (rowK hc4 0 rfl rfl) ⟨rfl, rfl, rfl, rfl⟩) ?_
      refine aTP 4 rfl (by kernel_rfl) rfl (fun D B L => w_move rfl rfl rfl ⟨rfl, rfl, rfl, rfl⟩) ?_
      refine aTP 5 rfl (by kernel_rfl) rfl (fun D B L => w_move rfl rfl rfl ⟨rfl, rfl, rfl, rfl⟩) ?_
      obtain ⟨y, hy⟩ := getLt (xs := ys) (i := k) (by first | omega | (simp; done) | (simp; omega))
      obtain ⟨bb6, oo6, rfl⟩ := hb.base hy
      obtain ⟨_, ⟨rfl, hb7⟩, hc7⟩ := hb.elem hy
      refine aTk 6 rfl (by kernel_rfl) rfl (q_of fun D => w_ixB rfl rfl Tryz.underlying35 sz174 rfl rfl (by first | omega | (simp; done) | (simp; omega)) (by first | omega | (simp; done) | (simp; omega)) ⟨rfl, rfl, rfl, rfl⟩) ?_
      refine aTk 7 rfl (by kernel_rfl) rfl (q_of fun D => w_loadN [_, _] rfl rfl lk174 rfl (rowK hc7 0 rfl rfl) ⟨rfl, rfl, rfl, rfl⟩) ?_
      refine aTk 8 rfl (by kernel_rfl) rfl (q_of fun D => w_retB rfl rfl en138 rfl (eqGrant_c x y _ ) ⟨rfl, rfl, rfl, rfl⟩) ?_
      refine aTk 9 rfl (by kernel_rfl) rfl (q_of fun D => w_not rfl rfl rfl ⟨rfl, rfl, rfl, rfl⟩) ?_
      refine any_done (by kernel_rfl) (by kernel_rfl) ?_
      refine thn_n ?_
      refine wKp [(0, _), (1, _), (5, _), (10, _), (14, _), (26, _)] ⟨rfl, rfl, rfl, rfl, rfl, rfl, trivial⟩ ?_
      refine wCd rfl (fun g3 => ?_) (fun g3 => ?_)
      · try simp only [sQ1, sQ2, sQ3, sQ4, sQ5, sQ6, sQ7, sQ8, ne_eq] at g3
        refine wSR ?_
        refine xAs ?_
        refine wKp [(0, _), (1, _), (4, _), (5, _), (10, _), (14, _), (26, _)] ⟨rfl, rfl, rfl, rfl, rfl, rfl, rfl, trivial⟩ ?_
        refine w_ret (inB_r (thn_r (rndE_r (inB_r (thn_r ?_)))))
        exact end0 .ret (.inl rfl) [_] ⟨rfl, trivial⟩ ⟨bool_eq (eqF_elem hx hy g3), rfl, rfl⟩
      · try simp only [sQ1, sQ2, sQ3, sQ4, sQ5, sQ6, sQ7, sQ8, ne_eq] at g3
        refine w_skip ?_
        refine inB_n (thn_n ?_)
        refine w_region ?_
        refine xMv ?_
        refine oX (w_add rfl rfl rfl rfl (by first | exact wrI64 (by first | omega | (simp; done) | (simp; omega)) (by first | omega | (simp; done) | (simp; omega)) | rfl) ?_)
        refine xAs ?_
        exact rndE_n (k + 1) [] (by first | omega | (simp only []; omega)) ⟨rfl, by omega, take_eq_next hx hy g3 he⟩ ⟨rfl, rfl, rfl, rfl, trivial⟩ rfl
    · try simp only [sQ1, sQ2, sQ3, sQ4, sQ5, sQ6, sQ7, sQ8, ne_eq] at g2
      refine w_exit (thn_x (rndE_x (inB_hit (thn_n ?_))))
      refine wSR ?_
      refine xAs ?_
      refine wKp [(0, _), (1, _), (4, _), (5, _), (10, _), (14, _)] ⟨rfl, rfl, rfl, rfl, rfl, rfl, trivial⟩ ?_
      refine w_ret ?_
      exact end0 .ret (.inl rfl) [_] ⟨rfl, trivial⟩ ⟨bool_eq (eqT (by omega) (by omega) he), rfl, rfl⟩

set_option maxRecDepth 4000 in
set_option maxHeartbeats 400000 in
theorem eqMailS_c (q q' : Option Addr) (cp cp' : Nat) (xs ys : List DMail) (B : Kn) (ha : SlK B q cp 3 MailR xs) (hb : SlK B q' cp' 3 MailR ys) : RetB (pj J) 139 [.slice q xs.length cp, .slice q' ys.length cp'] B (.bool (decide (xs = ys))) := by
  refine cBB 27 Tryz.func139 rfl rfl rfl (Nat.le_of_ble_eq_true rfl) ?_
  have han := ha.len
  have hbn := hb.len
  refine wSR ?_
  refine xAs ?_
  refine wKp [(0, _), (1, _), (4, _)] ⟨rfl, rfl, rfl, trivial⟩ ?_
  refine w_seq ?_
  refine wSR ?_
  refine xMv ?_
  refine oX (w_lenV rfl rfl Tryz.underlying36 rfl ?_)
  refine xMv ?_
  refine oX (w_lenV rfl rfl Tryz.underlying36 rfl ?_)
  refine oX (w_neqI rfl rfl rfl rfl ?_)
  refine wKp [(0, _), (1, _), (4, _), (10, _)] ⟨rfl, rfl, rfl, rfl, trivial⟩ ?_
  refine wCd rfl (fun g1 => ?_) (fun g1 => ?_)
  · try simp only [sQ1, sQ2, sQ3, sQ4, sQ5, sQ6, sQ7, sQ8, ne_eq] at g1
    refine wSR ?_
    refine xAs ?_
    refine wKp [(0, _), (1, _), (4, _), (10, _)] ⟨rfl, rfl, rfl, rfl, trivial⟩ ?_
    refine w_ret (thn_r ?_)
    exact end0 .ret (.inl rfl) [_] ⟨rfl, trivial⟩ ⟨bool_eq (eqF_len g1), rfl, rfl⟩
  · try simp only [sQ1, sQ2, sQ3, sQ4, sQ5, sQ6, sQ7, sQ8, ne_eq] at g1
    refine w_skip ?_
    refine thn_n ?_
    refine w_seq ?_
    refine wSR ?_
    refine xAs ?_
    refine wKp [(0, _), (1, _), (4, _), (5, _), (10, _)] ⟨rfl, rfl, rfl, rfl, rfl, trivial⟩ ?_
    refine w_block ?_
    refine w_loopE (α := Nat) [0, 1, 10] (fun k => [(5, .int .i64 k)]) [] (fun k => []) (fun k Bx => Bx = B ∧ k ≤ xs.length ∧ xs.take k = ys.take k) (fun k => xs.length - k) 0 ⟨rfl, trivial⟩ rfl (⟨rfl, Nat.zero_le _, by simp⟩) (fun k B1 hle1 hI => ?_)
    obtain ⟨rfl, hk, he⟩ := hI
    refine wTd [(0, _), (1, _), (5, _), (10, _)] [] ⟨rfl, rfl, rfl, rfl, trivial⟩ rfl ?_
    refine w_seq ?_
    refine wSR ?_
    refine xMv ?_
    refine xMv ?_
    refine oX (w_lenV rfl rfl Tryz.underlying36 rfl ?_)
    refine oX (w_lss rfl rfl rfl rfl ?_)
    refine wKp [(0, _), (1, _), (5, _), (10, _), (14, _)] ⟨rfl, rfl, rfl, rfl, rfl, trivial⟩ ?_
    refine wCd rfl (fun g2 => ?_) (fun g2 => ?_)
    · try simp only [sQ1, sQ2, sQ3, sQ4, sQ5, sQ6, sQ7, sQ8, ne_eq] at g2
      refine w_skip ?_
      refine thn_n ?_
      refine w_seq ?_
      refine w_block ?_
      refine w_seq ?_
      refine w_draw (same _ _) mo (by kernel_rfl) ⟨rfl, rfl⟩ (fun _ _ => ?_)
      refine aTP 0 rfl (by kernel_rfl) rfl (fun D B L => w_move rfl rfl rfl ⟨rfl, rfl, rfl, rfl⟩) ?_
      refine aTP 1 rfl (by kernel_rfl) rfl (fun D B L => w_move rfl rfl rfl ⟨rfl, rfl, rfl, rfl⟩) ?_
      obtain ⟨x, hx⟩ := getLt (xs := xs) (i := k) (by first | omega | (simp; done) | (simp; omega))
      obtain ⟨bb3, oo3, rfl⟩ := ha.base hx
      obtain ⟨_, ⟨rfl, hb4⟩, hc4⟩ := ha.elem hx
      refine aTk 2 rfl (by kernel_rfl) rfl (q_of fun D => w_ixB rfl rfl Tryz.underlying36 sz116 rfl rfl (by first | omega | (simp; done) | (simp; omega)) (by first | omega | (simp; done) | (simp; omega)) ⟨rfl, rfl, rfl, rfl⟩) ?_
      refine aTk 3 rfl (by kernel_rfl) rfl (q_of fun D => w_loadN [_, _, _] rfl rfl lk116 rfl (rowK hc4 0 rfl rfl) ⟨rfl, rfl, rfl, rfl⟩) ?_
      refine aTP 4 rfl (by kernel_rfl) rfl (fun D B L => w_move rfl rfl rfl ⟨rfl, rfl, rfl, rfl⟩) ?_
      refine aTP 5 rfl (by kernel_rfl) rfl (fun D B L => w_move rfl rfl rfl ⟨rfl, rfl, rfl, rfl⟩) ?_
      obtain ⟨y, hy⟩ := getLt (xs := ys) (i := k) (by first | omega | (simp; done) | (simp; omega))
      obtain ⟨bb6, oo6, rfl⟩ := hb.base hy
      obtain ⟨_, ⟨rfl, hb7⟩, hc7⟩ := hb.elem hy
      refine aTk 6 rfl (by kernel_rfl) rfl (q_of fun D => w_ixB rfl rfl Tryz.underlying36 sz116 rfl rfl (by first | omega | (simp; done) | (simp; omega)) (by first | omega | (simp; done) | (simp; omega)) ⟨rfl, rfl, rfl, rfl⟩) ?_
      refine aTk 7 rfl (by kernel_rfl) rfl (q_of fun D => w_loadN [_, _, _] rfl rfl lk116 rfl (rowK hc7 0 rfl rfl) ⟨rfl, rfl, rfl, rfl⟩) ?_
      refine aTk 8 rfl (by kernel_rfl) rfl (q_of fun D => w_retB rfl rfl en186 rfl (eqMail_c x y _ ) ⟨rfl, rfl, rfl, rfl⟩) ?_
      refine aTk 9 rfl (by kernel_rfl) rfl (q_of fun D => w_not rfl rfl rfl ⟨rfl, rfl, rfl, rfl⟩) ?_
      refine any_done (by kernel_rfl) (by kernel_rfl) ?_
      refine thn_n ?_
      refine wKp [(0, _), (1, _), (5, _), (10, _), (14, _), (26, _)] ⟨rfl, rfl, rfl, rfl, rfl, rfl, trivial⟩ ?_
      refine wCd rfl (fun g3 => ?_) (fun g3 => ?_)
      · try simp only [sQ1, sQ2, sQ3, sQ4, sQ5, sQ6, sQ7, sQ8, ne_eq] at g3
        refine wSR ?_
        refine xAs ?_
        refine wKp [(0, _), (1, _), (4, _), (5, _), (10, _), (14, _), (26, _)] ⟨rfl, rfl, rfl, rfl, rfl, rfl, rfl, trivial⟩ ?_
        refine w_ret (inB_r (thn_r (rndE_r (inB_r (thn_r ?_)))))
        exact end0 .ret (.inl rfl) [_] ⟨rfl, trivial⟩ ⟨bool_eq (eqF_elem hx hy g3), rfl, rfl⟩
      · try simp only [sQ1, sQ2, sQ3, sQ4, sQ5, sQ6, sQ7, sQ8, ne_eq] at g3
        refine w_skip ?_
        refine inB_n (thn_n ?_)
        refine w_region ?_
        refine xMv ?_
        refine oX (w_add rfl rfl rfl rfl (by first | exact wrI64 (by first | omega | (simp; done) | (simp; omega)) (by first | omega | (simp; done) | (simp; omega)) | rfl) ?_)
        refine xAs ?_
        exact rndE_n (k + 1) [] (by first | omega | (simp only []; omega)) ⟨rfl, by omega, take_eq_next hx hy g3 he⟩ ⟨rfl, rfl, rfl, rfl, trivial⟩ rfl
    · try simp only [sQ1, sQ2, sQ3, sQ4, sQ5, sQ6, sQ7, sQ8, ne_eq] at g2
      refine w_exit (thn_x (rndE_x (inB_hit (thn_n ?_))))
      refine wSR ?_
      refine xAs ?_
      refine wKp [(0, _), (1, _), (4, _), (5, _), (10, _), (14, _)] ⟨rfl, rfl, rfl, rfl, rfl, rfl, trivial⟩ ?_
      refine w_ret ?_
      exact end0 .ret (.inl rfl) [_] ⟨rfl, trivial⟩ ⟨bool_eq (eqT (by omega) (by omega) he), rfl, rfl⟩

set_option maxRecDepth 4000 in
set_option maxHeartbeats 400000 in
theorem eqItem_c (q1 : Option Addr) (cp1 : Nat) (q2 : Option Addr) (cp2 : Nat) (a b : DItem) (B : Kn) (h1 : SlK B q1 cp1 1 StrR a.left) (h2 : SlK B q2 cp2 1 StrR b.left) : RetB (pj J) 185 [.agg #[.int .i64 a.id, str a.fr, str a.text, .slice q1 a.left.length cp1], .agg #[.int .i64 b.id, str b.fr, str b.text, .slice q2 b.left.length cp2]] B (.bool (decide (a = b))) := by
  refine cBB 26 Tryz.func185 rfl rfl rfl (Nat.le_of_ble_eq_true rfl) ?_
  refine wSR ?_
  refine oX (w_box (l := [_, _, _, _]) rfl rfl rfl rfl (fun b1 => ?_))
  refine oX (w_box (l := [_, _, _, _]) rfl rfl rfl rfl (fun b2 => ?_))
  refine xAs ?_
  refine wTd [(0, _), (1, _), (2, _), (3, _), (4, _)] [_, _] ⟨rfl, rfl, rfl, rfl, rfl, trivial⟩ rfl ?_
  refine w_seq ?_
  refine wSR ?_
  refine oX (wFA rfl rfl fo100x0 rfl ?_)
  refine oX (w_load1 rfl rfl lk3 rfl (atL 0 rfl rfl rfl) ?_)
  refine oX (wFA rfl rfl fo100x0 rfl ?_)
  refine oX (w_load1 rfl rfl lk3 rfl (atL 1 rfl rfl rfl) ?_)
  refine oX (w_neqI rfl rfl rfl rfl ?_)
  refine wKp [(0, _), (1, _), (2, _), (3, _), (4, _), (9, _)] ⟨rfl, rfl, rfl, rfl, rfl, rfl, trivial⟩ ?_
  refine wCd rfl (fun g1 => ?_) (fun g1 => ?_)
  · try simp only [sQ1, sQ2, sQ3, sQ4, sQ5, sQ6, sQ7, sQ8, ne_eq] at g1
    refine wSR ?_
    refine xAs ?_
    refine wKp [(0, _), (1, _), (2, _), (3, _), (4, _), (9, _)] ⟨rfl, rfl, rfl, rfl, rfl, rfl, trivial⟩ ?_
    refine w_ret (thn_r ?_)
    exact end0 .ret (.inl rfl) [_] ⟨rfl, trivial⟩ ⟨bool_eq (by symm; rw [decide_eq_false_iff_not]; rintro rfl; exact g1 rfl), rfl, rfl⟩
  · try simp only [sQ1, sQ2, sQ3, sQ4, sQ5, sQ6, sQ7, sQ8, ne_eq] at g1
    refine w_skip ?_
    refine thn_n ?_
    refine w_seq ?_
    refine wSR ?_
    refine oX (wFA rfl rfl fo100x1 rfl ?_)
    refine oX (w_load1 rfl rfl lk9 rfl (atL 0 rfl rfl rfl) ?_)
    refine oX (wFA rfl rfl fo100x1 rfl ?_)
    refine oX (w_load1 rfl rfl lk9 rfl (atL 1 rfl rfl rfl) ?_)
    refine oX (w_neqS rfl rfl rfl rfl ?_)
    refine wKp [(0, _), (1, _), (2, _), (3, _), (4, _), (9, _), (14, _)] ⟨rfl, rfl, rfl, rfl, rfl, rfl, rfl, trivial⟩ ?_
    refine wCd rfl (fun g2 => ?_) (fun g2 => ?_)
    · try simp only [sQ1, sQ2, sQ3, sQ4, sQ5, sQ6, sQ7, sQ8, ne_eq] at g2
      refine wSR ?_
      refine xAs ?_
      refine wKp [(0, _), (1, _), (2, _), (3, _), (4, _), (9, _), (14, _)] ⟨rfl, rfl, rfl, rfl, rfl, rfl, rfl, trivial⟩ ?_
      refine w_ret (thn_r ?_)
      exact end0 .ret (.inl rfl) [_] ⟨rfl, trivial⟩ ⟨bool_eq (by symm; rw [decide_eq_false_iff_not]; rintro rfl; exact g2 rfl), rfl, rfl⟩
    · try simp only [sQ1, sQ2, sQ3, sQ4, sQ5, sQ6, sQ7, sQ8, ne_eq] at g2
      refine w_skip ?_
      refine thn_n ?_
      refine w_seq ?_
      refine wSR ?_
      refine oX (wFA rfl rfl fo100x2 rfl ?_)
      refine oX (w_load1 rfl rfl lk9 rfl (atL 0 rfl rfl rfl) ?_)
      refine oX (wFA rfl rfl fo100x2 rfl ?_)
      refine oX (w_load1 rfl rfl lk9 rfl (atL 1 rfl rfl rfl) ?_)
      refine oX (w_neqS rfl rfl rfl rfl ?_)
      refine wKp [(0, _), (1, _), (2, _), (3, _), (4, _), (9, _), (14, _), (19, _)] ⟨rfl, rfl, rfl, rfl, rfl, rfl, rfl, rfl, trivial⟩ ?_
      refine wCd rfl (fun g3 => ?_) (fun g3 => ?_)
      · try simp only [sQ1, sQ2, sQ3, sQ4, sQ5, sQ6, sQ7, sQ8, ne_eq] at g3
        refine wSR ?_
        refine xAs ?_
        refine wKp [(0, _), (1, _), (2, _), (3, _), (4, _), (9, _), (14, _), (19, _)] ⟨rfl, rfl, rfl, rfl, rfl, rfl, rfl, rfl, trivial⟩ ?_
        refine w_ret (thn_r ?_)
        exact end0 .ret (.inl rfl) [_] ⟨rfl, trivial⟩ ⟨bool_eq (by symm; rw [decide_eq_false_iff_not]; rintro rfl; exact g3 rfl), rfl, rfl⟩
      · try simp only [sQ1, sQ2, sQ3, sQ4, sQ5, sQ6, sQ7, sQ8, ne_eq] at g3
        refine w_skip ?_
        refine thn_n ?_
        refine w_seq ?_
        refine wSR ?_
        refine oX (wFA rfl rfl fo100x3 rfl ?_)
        refine oX (w_load1 rfl rfl lk98 rfl (atL 0 rfl rfl rfl) ?_)
        refine oX (wFA rfl rfl fo100x3 rfl ?_)
        refine oX (w_load1 rfl rfl lk98 rfl (atL 1 rfl rfl rfl) ?_)
        refine oX (w_retB rfl rfl en218 rfl (eqStringS_c _ _ _ _ _ _ _ h1 h2) ?_)
        refine oX (w_not rfl rfl rfl ?_)
        refine wKp [(0, _), (1, _), (2, _), (3, _), (4, _), (9, _), (14, _), (19, _), (25, _)] ⟨rfl, rfl, rfl, rfl, rfl, rfl, rfl, rfl, rfl, trivial⟩ ?_
        refine wCd rfl (fun g4 => ?_) (fun g4 => ?_)
        · try simp only [sQ1, sQ2, sQ3, sQ4, sQ5, sQ6, sQ7, sQ8, ne_eq] at g4
          refine wSR ?_
          refine xAs ?_
          refine wKp [(0, _), (1, _), (2, _), (3, _), (4, _), (9, _), (14, _), (19, _), (25, _)] ⟨rfl, rfl, rfl, rfl, rfl, rfl, rfl, rfl, rfl, trivial⟩ ?_
          refine w_ret (thn_r ?_)
          exact end0 .ret (.inl rfl) [_] ⟨rfl, trivial⟩ ⟨bool_eq (by symm; rw [decide_eq_false_iff_not]; rintro rfl; exact g4 rfl), rfl, rfl⟩
        · try simp only [sQ1, sQ2, sQ3, sQ4, sQ5, sQ6, sQ7, sQ8, ne_eq] at g4
          refine w_skip ?_
          refine thn_n ?_
          refine wSR ?_
          refine xAs ?_
          refine wKp [(0, _), (1, _), (2, _), (3, _), (4, _), (9, _), (14, _), (19, _), (25, _)] ⟨rfl, rfl, rfl, rfl, rfl, rfl, rfl, rfl, rfl, trivial⟩ ?_
          refine w_ret ?_
          exact end0 .ret (.inl rfl) [_] ⟨rfl, trivial⟩ ⟨bool_eq (by symm; rw [decide_eq_true_eq]; cases a; cases b; simp_all), rfl, rfl⟩

set_option maxRecDepth 4000 in
set_option maxHeartbeats 400000 in
theorem eqItemS_c (q q' : Option Addr) (cp cp' : Nat) (xs ys : List DItem) (B : Kn) (ha : SlK B q cp 4 ItemR xs) (hb : SlK B q' cp' 4 ItemR ys) : RetB (pj J) 135 [.slice q xs.length cp, .slice q' ys.length cp'] B (.bool (decide (xs = ys))) := by
  refine cBB 27 Tryz.func135 rfl rfl rfl (Nat.le_of_ble_eq_true rfl) ?_
  have han := ha.len
  have hbn := hb.len
  refine wSR ?_
  refine xAs ?_
  refine wKp [(0, _), (1, _), (4, _)] ⟨rfl, rfl, rfl, trivial⟩ ?_
  refine w_seq ?_
  refine wSR ?_
  refine xMv ?_
  refine oX (w_lenV rfl rfl Tryz.underlying27 rfl ?_)
  refine xMv ?_
  refine oX (w_lenV rfl rfl Tryz.underlying27 rfl ?_)
  refine oX (w_neqI rfl rfl rfl rfl ?_)
  refine wKp [(0, _), (1, _), (4, _), (10, _)] ⟨rfl, rfl, rfl, rfl, trivial⟩ ?_
  refine wCd rfl (fun g1 => ?_) (fun g1 => ?_)
  · try simp only [sQ1, sQ2, sQ3, sQ4, sQ5, sQ6, sQ7, sQ8, ne_eq] at g1
    refine wSR ?_
    refine xAs ?_
    refine wKp [(0, _), (1, _), (4, _), (10, _)] ⟨rfl, rfl, rfl, rfl, trivial⟩ ?_
    refine w_ret (thn_r ?_)
    exact end0 .ret (.inl rfl) [_] ⟨rfl, trivial⟩ ⟨bool_eq (eqF_len g1), rfl, rfl⟩
  · try simp only [sQ1, sQ2, sQ3, sQ4, sQ5, sQ6, sQ7, sQ8, ne_eq] at g1
    refine w_skip ?_
    refine thn_n ?_
    refine w_seq ?_
    refine wSR ?_
    refine xAs ?_
    refine wKp [(0, _), (1, _), (4, _), (5, _), (10, _)] ⟨rfl, rfl, rfl, rfl, rfl, trivial⟩ ?_
    refine w_block ?_
    refine w_loopE (α := Nat) [0, 1, 10] (fun k => [(5, .int .i64 k)]) [] (fun k => []) (fun k Bx => Bx = B ∧ k ≤ xs.length ∧ xs.take k = ys.take k) (fun k => xs.length - k) 0 ⟨rfl, trivial⟩ rfl (⟨rfl, Nat.zero_le _, by simp⟩) (fun k B1 hle1 hI => ?_)
    obtain ⟨rfl, hk, he⟩ := hI
    refine wTd [(0, _), (1, _), (5, _), (10, _)] [] ⟨rfl, rfl, rfl, rfl, trivial⟩ rfl ?_
    refine w_seq ?_
    refine wSR ?_
    refine xMv ?_
    refine xMv ?_
    refine oX (w_lenV rfl rfl Tryz.underlying27 rfl ?_)
    refine oX (w_lss rfl rfl rfl rfl ?_)
    refine wKp [(0, _), (1, _), (5, _), (10, _), (14, _)] ⟨rfl, rfl, rfl, rfl, rfl, trivial⟩ ?_
    refine wCd rfl (fun g2 => ?_) (fun g2 => ?_)
    · try simp only [sQ1, sQ2, sQ3, sQ4, sQ5, sQ6, sQ7, sQ8, ne_eq] at g2
      refine w_skip ?_
      refine thn_n ?_
      refine w_seq ?_
      refine w_block ?_
      refine w_seq ?_
      refine w_draw (same _ _) mo (by kernel_rfl) ⟨rfl, rfl⟩ (fun _ _ => ?_)
      refine aTP 0 rfl (by kernel_rfl) rfl (fun D B L => w_move rfl rfl rfl ⟨rfl, rfl, rfl, rfl⟩) ?_
      refine aTP 1 rfl (by kernel_rfl) rfl (fun D B L => w_move rfl rfl rfl ⟨rfl, rfl, rfl, rfl⟩) ?_
      obtain ⟨x, hx⟩ := getLt (xs := xs) (i := k) (by first | omega | (simp; done) | (simp; omega))
      obtain ⟨bb3, oo3, rfl⟩ := ha.base hx
      obtain ⟨_, ⟨qi4, ci4, rfl, hi4, hb4, hb4b⟩, hc4⟩ := ha.elem hx
      have hi4n := hi4.len
      refine aTk 2 rfl (by kernel_rfl) rfl (q_of fun D => w_ixB rfl rfl Tryz.underlying27 sz100 rfl rfl (by first | omega | (simp; done) | (simp; omega)) (by first | omega | (simp; done) | (simp; omega)) ⟨rfl, rfl, rfl, rfl⟩) ?_
      refine aTk 3 rfl (by kernel_rfl) rfl (q_of fun D => w_loadN [_, _, _, _] rfl rfl lk100 rfl (rowK hc4 0 rfl rfl) ⟨rfl, rfl, rfl, rfl⟩) ?_
      refine aTP 4 rfl (by kernel_rfl) rfl (fun D B L => w_move rfl rfl rfl ⟨rfl, rfl, rfl, rfl⟩) ?_
      refine aTP 5 rfl (by kernel_rfl) rfl (fun D B L => w_move rfl rfl rfl ⟨rfl, rfl, rfl, rfl⟩) ?_
      obtain ⟨y, hy⟩ := getLt (xs := ys) (i := k) (by first | omega | (simp; done) | (simp; omega))
      obtain ⟨bb6, oo6, rfl⟩ := hb.base hy
      obtain ⟨_, ⟨qi7, ci7, rfl, hi7, hb7, hb7b⟩, hc7⟩ := hb.elem hy
      have hi7n := hi7.len
      refine aTk 6 rfl (by kernel_rfl) rfl (q_of fun D => w_ixB rfl rfl Tryz.underlying27 sz100 rfl rfl (by first | omega | (simp; done) | (simp; omega)) (by first | omega | (simp; done) | (simp; omega)) ⟨rfl, rfl, rfl, rfl⟩) ?_
      refine aTk 7 rfl (by kernel_rfl) rfl (q_of fun D => w_loadN [_, _, _, _] rfl rfl lk100 rfl (rowK hc7 0 rfl rfl) ⟨rfl, rfl, rfl, rfl⟩) ?_
      refine aTk 8 rfl (by kernel_rfl) rfl (q_of fun D => w_retB rfl rfl en185 rfl (eqItem_c _ _ _ _ x y _ hi4 hi7) ⟨rfl, rfl, rfl, rfl⟩) ?_
      refine aTk 9 rfl (by kernel_rfl) rfl (q_of fun D => w_not rfl rfl rfl ⟨rfl, rfl, rfl, rfl⟩) ?_
      refine any_done (by kernel_rfl) (by kernel_rfl) ?_
      refine thn_n ?_
      refine wKp [(0, _), (1, _), (5, _), (10, _), (14, _), (26, _)] ⟨rfl, rfl, rfl, rfl, rfl, rfl, trivial⟩ ?_
      refine wCd rfl (fun g3 => ?_) (fun g3 => ?_)
      · try simp only [sQ1, sQ2, sQ3, sQ4, sQ5, sQ6, sQ7, sQ8, ne_eq] at g3
        refine wSR ?_
        refine xAs ?_
        refine wKp [(0, _), (1, _), (4, _), (5, _), (10, _), (14, _), (26, _)] ⟨rfl, rfl, rfl, rfl, rfl, rfl, rfl, trivial⟩ ?_
        refine w_ret (inB_r (thn_r (rndE_r (inB_r (thn_r ?_)))))
        exact end0 .ret (.inl rfl) [_] ⟨rfl, trivial⟩ ⟨bool_eq (eqF_elem hx hy g3), rfl, rfl⟩
      · try simp only [sQ1, sQ2, sQ3, sQ4, sQ5, sQ6, sQ7, sQ8, ne_eq] at g3
        refine w_skip ?_
        refine inB_n (thn_n ?_)
        refine w_region ?_
        refine xMv ?_
        refine oX (w_add rfl rfl rfl rfl (by first | exact wrI64 (by first | omega | (simp; done) | (simp; omega)) (by first | omega | (simp; done) | (simp; omega)) | rfl) ?_)
        refine xAs ?_
        exact rndE_n (k + 1) [] (by first | omega | (simp only []; omega)) ⟨rfl, by omega, take_eq_next hx hy g3 he⟩ ⟨rfl, rfl, rfl, rfl, trivial⟩ rfl
    · try simp only [sQ1, sQ2, sQ3, sQ4, sQ5, sQ6, sQ7, sQ8, ne_eq] at g2
      refine w_exit (thn_x (rndE_x (inB_hit (thn_n ?_))))
      refine wSR ?_
      refine xAs ?_
      refine wKp [(0, _), (1, _), (4, _), (5, _), (10, _), (14, _)] ⟨rfl, rfl, rfl, rfl, rfl, rfl, trivial⟩ ?_
      refine w_ret ?_
      exact end0 .ret (.inl rfl) [_] ⟨rfl, trivial⟩ ⟨bool_eq (eqT (by omega) (by omega) he), rfl, rfl⟩

set_option maxRecDepth 4000 in
set_option maxHeartbeats 400000 in
theorem eqQueue_c (q1 : Option Addr) (cp1 : Nat) (q2 : Option Addr) (cp2 : Nat) (a b : DQueue) (B : Kn) (h1 : SlK B q1 cp1 4 ItemR a.items) (h2 : SlK B q2 cp2 4 ItemR b.items) : RetB (pj J) 77 [.agg #[.int .i64 a.next, .slice q1 a.items.length cp1], .agg #[.int .i64 b.next, .slice q2 b.items.length cp2]] B (.bool (decide (a = b))) := by
  refine cBB 16 Tryz.func77 rfl rfl rfl (Nat.le_of_ble_eq_true rfl) ?_
  refine wSR ?_
  refine oX (w_box (l := [_, _]) rfl rfl rfl rfl (fun b1 => ?_))
  refine oX (w_box (l := [_, _]) rfl rfl rfl rfl (fun b2 => ?_))
  refine xAs ?_
  refine wTd [(0, _), (1, _), (2, _), (3, _), (4, _)] [_, _] ⟨rfl, rfl, rfl, rfl, rfl, trivial⟩ rfl ?_
  refine w_seq ?_
  refine wSR ?_
  refine oX (wFA rfl rfl fo29x0 rfl ?_)
  refine oX (w_load1 rfl rfl lk3 rfl (atL 0 rfl rfl rfl) ?_)
  refine oX (wFA rfl rfl fo29x0 rfl ?_)
  refine oX (w_load1 rfl rfl lk3 rfl (atL 1 rfl rfl rfl) ?_)
  refine oX (w_neqI rfl rfl rfl rfl ?_)
  refine wKp [(0, _), (1, _), (2, _), (3, _), (4, _), (9, _)] ⟨rfl, rfl, rfl, rfl, rfl, rfl, trivial⟩ ?_
  refine wCd rfl (fun g1 => ?_) (fun g1 => ?_)
  · try simp only [sQ1, sQ2, sQ3, sQ4, sQ5, sQ6, sQ7, sQ8, ne_eq] at g1
    refine wSR ?_
    refine xAs ?_
    refine wKp [(0, _), (1, _), (2, _), (3, _), (4, _), (9, _)] ⟨rfl, rfl, rfl, rfl, rfl, rfl, trivial⟩ ?_
    refine w_ret (thn_r ?_)
    exact end0 .ret (.inl rfl) [_] ⟨rfl, trivial⟩ ⟨bool_eq (by symm; rw [decide_eq_false_iff_not]; rintro rfl; exact g1 rfl), rfl, rfl⟩
  · try simp only [sQ1, sQ2, sQ3, sQ4, sQ5, sQ6, sQ7, sQ8, ne_eq] at g1
    refine w_skip ?_
    refine thn_n ?_
    refine w_seq ?_
    refine wSR ?_
    refine oX (wFA rfl rfl fo29x1 rfl ?_)
    refine oX (w_load1 rfl rfl lk27 rfl (atL 0 rfl rfl rfl) ?_)
    refine oX (wFA rfl rfl fo29x1 rfl ?_)
    refine oX (w_load1 rfl rfl lk27 rfl (atL 1 rfl rfl rfl) ?_)
    refine oX (w_retB rfl rfl en135 rfl (eqItemS_c _ _ _ _ _ _ _ h1 h2) ?_)
    refine oX (w_not rfl rfl rfl ?_)
    refine wKp [(0, _), (1, _), (2, _), (3, _), (4, _), (9, _), (15, _)] ⟨rfl, rfl, rfl, rfl, rfl, rfl, rfl, trivial⟩ ?_
    refine wCd rfl (fun g2 => ?_) (fun g2 => ?_)
    · try simp only [sQ1, sQ2, sQ3, sQ4, sQ5, sQ6, sQ7, sQ8, ne_eq] at g2
      refine wSR ?_
      refine xAs ?_
      refine wKp [(0, _), (1, _), (2, _), (3, _), (4, _), (9, _), (15, _)] ⟨rfl, rfl, rfl, rfl, rfl, rfl, rfl, trivial⟩ ?_
      refine w_ret (thn_r ?_)
      exact end0 .ret (.inl rfl) [_] ⟨rfl, trivial⟩ ⟨bool_eq (by symm; rw [decide_eq_false_iff_not]; rintro rfl; exact g2 rfl), rfl, rfl⟩
    · try simp only [sQ1, sQ2, sQ3, sQ4, sQ5, sQ6, sQ7, sQ8, ne_eq] at g2
      refine w_skip ?_
      refine thn_n ?_
      refine wSR ?_
      refine xAs ?_
      refine wKp [(0, _), (1, _), (2, _), (3, _), (4, _), (9, _), (15, _)] ⟨rfl, rfl, rfl, rfl, rfl, rfl, rfl, trivial⟩ ?_
      refine w_ret ?_
      exact end0 .ret (.inl rfl) [_] ⟨rfl, trivial⟩ ⟨bool_eq (by symm; rw [decide_eq_true_eq]; cases a; cases b; simp_all), rfl, rfl⟩

set_option maxRecDepth 4000 in
set_option maxHeartbeats 400000 in
theorem eqBox_c (q1 : Option Addr) (cp1 : Nat) (q2 : Option Addr) (cp2 : Nat) (a b : DBox) (B : Kn) (h1 : SlK B q1 cp1 3 MailR a.mail) (h2 : SlK B q2 cp2 3 MailR b.mail) : RetB (pj J) 81 [.agg #[.int .i64 a.next, .slice q1 a.mail.length cp1], .agg #[.int .i64 b.next, .slice q2 b.mail.length cp2]] B (.bool (decide (a = b))) := by
  refine cBB 16 Tryz.func81 rfl rfl rfl (Nat.le_of_ble_eq_true rfl) ?_
  refine wSR ?_
  refine oX (w_box (l := [_, _]) rfl rfl rfl rfl (fun b1 => ?_))
  refine oX (w_box (l := [_, _]) rfl rfl rfl rfl (fun b2 => ?_))
  refine xAs ?_
  refine wTd [(0, _), (1, _), (2, _), (3, _), (4, _)] [_, _] ⟨rfl, rfl, rfl, rfl, rfl, trivial⟩ rfl ?_
  refine w_seq ?_
  refine wSR ?_
  refine oX (wFA rfl rfl fo38x0 rfl ?_)
  refine oX (w_load1 rfl rfl lk3 rfl (atL 0 rfl rfl rfl) ?_)
  refine oX (wFA rfl rfl fo38x0 rfl ?_)
  refine oX (w_load1 rfl rfl lk3 rfl (atL 1 rfl rfl rfl) ?_)
  refine oX (w_neqI rfl rfl rfl rfl ?_)
  refine wKp [(0, _), (1, _), (2, _), (3, _), (4, _), (9, _)] ⟨rfl, rfl, rfl, rfl, rfl, rfl, trivial⟩ ?_
  refine wCd rfl (fun g1 => ?_) (fun g1 => ?_)
  · try simp only [sQ1, sQ2, sQ3, sQ4, sQ5, sQ6, sQ7, sQ8, ne_eq] at g1
    refine wSR ?_
    refine xAs ?_
    refine wKp [(0, _), (1, _), (2, _), (3, _), (4, _), (9, _)] ⟨rfl, rfl, rfl, rfl, rfl, rfl, trivial⟩ ?_
    refine w_ret (thn_r ?_)
    exact end0 .ret (.inl rfl) [_] ⟨rfl, trivial⟩ ⟨bool_eq (by symm; rw [decide_eq_false_iff_not]; rintro rfl; exact g1 rfl), rfl, rfl⟩
  · try simp only [sQ1, sQ2, sQ3, sQ4, sQ5, sQ6, sQ7, sQ8, ne_eq] at g1
    refine w_skip ?_
    refine thn_n ?_
    refine w_seq ?_
    refine wSR ?_
    refine oX (wFA rfl rfl fo38x1 rfl ?_)
    refine oX (w_load1 rfl rfl lk36 rfl (atL 0 rfl rfl rfl) ?_)
    refine oX (wFA rfl rfl fo38x1 rfl ?_)
    refine oX (w_load1 rfl rfl lk36 rfl (atL 1 rfl rfl rfl) ?_)
    refine oX (w_retB rfl rfl en139 rfl (eqMailS_c _ _ _ _ _ _ _ h1 h2) ?_)
    refine oX (w_not rfl rfl rfl ?_)
    refine wKp [(0, _), (1, _), (2, _), (3, _), (4, _), (9, _), (15, _)] ⟨rfl, rfl, rfl, rfl, rfl, rfl, rfl, trivial⟩ ?_
    refine wCd rfl (fun g2 => ?_) (fun g2 => ?_)
    · try simp only [sQ1, sQ2, sQ3, sQ4, sQ5, sQ6, sQ7, sQ8, ne_eq] at g2
      refine wSR ?_
      refine xAs ?_
      refine wKp [(0, _), (1, _), (2, _), (3, _), (4, _), (9, _), (15, _)] ⟨rfl, rfl, rfl, rfl, rfl, rfl, rfl, trivial⟩ ?_
      refine w_ret (thn_r ?_)
      exact end0 .ret (.inl rfl) [_] ⟨rfl, trivial⟩ ⟨bool_eq (by symm; rw [decide_eq_false_iff_not]; rintro rfl; exact g2 rfl), rfl, rfl⟩
    · try simp only [sQ1, sQ2, sQ3, sQ4, sQ5, sQ6, sQ7, sQ8, ne_eq] at g2
      refine w_skip ?_
      refine thn_n ?_
      refine wSR ?_
      refine xAs ?_
      refine wKp [(0, _), (1, _), (2, _), (3, _), (4, _), (9, _), (15, _)] ⟨rfl, rfl, rfl, rfl, rfl, rfl, rfl, trivial⟩ ?_
      refine w_ret ?_
      exact end0 .ret (.inl rfl) [_] ⟨rfl, trivial⟩ ⟨bool_eq (by symm; rw [decide_eq_true_eq]; cases a; cases b; simp_all), rfl, rfl⟩

set_option maxRecDepth 4000 in
set_option maxHeartbeats 400000 in
theorem eqFolder_c (qa1 qb1 : Option Addr) (ca1 cb1 : Nat) (qa2 qb2 : Option Addr) (ca2 cb2 : Nat) (a b : DFolder) (B : Kn) (hg1 : SlK B qa1 ca1 2 GrantR a.grants) (hm1 : SlK B qb1 cb1 3 MailR a.mail) (hg2 : SlK B qa2 ca2 2 GrantR b.grants) (hm2 : SlK B qb2 cb2 3 MailR b.mail) : RetB (pj J) 31 [.agg #[str a.owner, str a.name, .slice qa1 a.grants.length ca1, .int .i64 a.next, .slice qb1 a.mail.length cb1], .agg #[str b.owner, str b.name, .slice qa2 b.grants.length ca2, .int .i64 b.next, .slice qb2 b.mail.length cb2]] B (.bool (decide (a = b))) := by
  refine cBB 27 Tryz.func31 rfl rfl rfl (Nat.le_of_ble_eq_true rfl) ?_
  refine wSR ?_
  refine oX (w_box (l := [_, _, _, _, _]) rfl rfl rfl rfl (fun b1 => ?_))
  refine oX (w_box (l := [_, _, _, _, _]) rfl rfl rfl rfl (fun b2 => ?_))
  refine xAs ?_
  refine wTd [(0, _), (1, _), (2, _), (3, _), (4, _)] [_, _] ⟨rfl, rfl, rfl, rfl, rfl, trivial⟩ rfl ?_
  refine w_seq ?_
  refine wSR ?_
  refine oX (wFA rfl rfl fo40x0 rfl ?_)
  refine oX (w_load1 rfl rfl lk9 rfl (atL 0 rfl rfl rfl) ?_)
  refine oX (wFA rfl rfl fo40x0 rfl ?_)
  refine oX (w_load1 rfl rfl lk9 rfl (atL 1 rfl rfl rfl) ?_)
  refine oX (w_neqS rfl rfl rfl rfl ?_)
  refine wKp [(0, _), (1, _), (2, _), (3, _), (4, _), (9, _)] ⟨rfl, rfl, rfl, rfl, rfl, rfl, trivial⟩ ?_
  refine wCd rfl (fun g1 => ?_) (fun g1 => ?_)
  · try simp only [sQ1, sQ2, sQ3, sQ4, sQ5, sQ6, sQ7, sQ8, ne_eq] at g1
    refine wSR ?_
    refine xAs ?_
    refine wKp [(0, _), (1, _), (2, _), (3, _), (4, _), (9, _)] ⟨rfl, rfl, rfl, rfl, rfl, rfl, trivial⟩ ?_
    refine w_ret (thn_r ?_)
    exact end0 .ret (.inl rfl) [_] ⟨rfl, trivial⟩ ⟨bool_eq (by symm; rw [decide_eq_false_iff_not]; rintro rfl; exact g1 rfl), rfl, rfl⟩
  · try simp only [sQ1, sQ2, sQ3, sQ4, sQ5, sQ6, sQ7, sQ8, ne_eq] at g1
    refine w_skip ?_
    refine thn_n ?_
    refine w_seq ?_
    refine wSR ?_
    refine oX (wFA rfl rfl fo40x1 rfl ?_)
    refine oX (w_load1 rfl rfl lk9 rfl (atL 0 rfl rfl rfl) ?_)
    refine oX (wFA rfl rfl fo40x1 rfl ?_)
    refine oX (w_load1 rfl rfl lk9 rfl (atL 1 rfl rfl rfl) ?_)
    refine oX (w_neqS rfl rfl rfl rfl ?_)
    refine wKp [(0, _), (1, _), (2, _), (3, _), (4, _), (9, _), (14, _)] ⟨rfl, rfl, rfl, rfl, rfl, rfl, rfl, trivial⟩ ?_
    refine wCd rfl (fun g2 => ?_) (fun g2 => ?_)
    · try simp only [sQ1, sQ2, sQ3, sQ4, sQ5, sQ6, sQ7, sQ8, ne_eq] at g2
      refine wSR ?_
      refine xAs ?_
      refine wKp [(0, _), (1, _), (2, _), (3, _), (4, _), (9, _), (14, _)] ⟨rfl, rfl, rfl, rfl, rfl, rfl, rfl, trivial⟩ ?_
      refine w_ret (thn_r ?_)
      exact end0 .ret (.inl rfl) [_] ⟨rfl, trivial⟩ ⟨bool_eq (by symm; rw [decide_eq_false_iff_not]; rintro rfl; exact g2 rfl), rfl, rfl⟩
    · try simp only [sQ1, sQ2, sQ3, sQ4, sQ5, sQ6, sQ7, sQ8, ne_eq] at g2
      refine w_skip ?_
      refine thn_n ?_
      refine w_seq ?_
      refine wSR ?_
      refine oX (wFA rfl rfl fo40x2 rfl ?_)
      refine oX (w_load1 rfl rfl lk35 rfl (atL 0 rfl rfl rfl) ?_)
      refine oX (wFA rfl rfl fo40x2 rfl ?_)
      refine oX (w_load1 rfl rfl lk35 rfl (atL 1 rfl rfl rfl) ?_)
      refine oX (w_retB rfl rfl en80 rfl (eqGrantS_c _ _ _ _ _ _ _ hg1 hg2) ?_)
      refine oX (w_not rfl rfl rfl ?_)
      refine wKp [(0, _), (1, _), (2, _), (3, _), (4, _), (9, _), (14, _), (20, _)] ⟨rfl, rfl, rfl, rfl, rfl, rfl, rfl, rfl, trivial⟩ ?_
      refine wCd rfl (fun g3 => ?_) (fun g3 => ?_)
      · try simp only [sQ1, sQ2, sQ3, sQ4, sQ5, sQ6, sQ7, sQ8, ne_eq] at g3
        refine wSR ?_
        refine xAs ?_
        refine wKp [(0, _), (1, _), (2, _), (3, _), (4, _), (9, _), (14, _), (20, _)] ⟨rfl, rfl, rfl, rfl, rfl, rfl, rfl, rfl, trivial⟩ ?_
        refine w_ret (thn_r ?_)
        exact end0 .ret (.inl rfl) [_] ⟨rfl, trivial⟩ ⟨bool_eq (by symm; rw [decide_eq_false_iff_not]; rintro rfl; exact g3 rfl), rfl, rfl⟩
      · try simp only [sQ1, sQ2, sQ3, sQ4, sQ5, sQ6, sQ7, sQ8, ne_eq] at g3
        refine w_skip ?_
        refine thn_n ?_
        refine w_seq ?_
        refine wSR ?_
        refine oX (wFA rfl rfl fo40x3 rfl ?_)
        refine oX (w_loadN [_, _] rfl rfl lk38 rfl (rowL 0 rfl rfl rfl) ?_)
        refine oX (wFA rfl rfl fo40x3 rfl ?_)
        refine oX (w_loadN [_, _] rfl rfl lk38 rfl (rowL 1 rfl rfl rfl) ?_)
        refine oX (w_retB rfl rfl en81 rfl (eqBox_c _ _ _ _ (⟨a.next, a.mail⟩ : DBox) (⟨b.next, b.mail⟩ : DBox) _ hm1 hm2) ?_)
        refine oX (w_not rfl rfl rfl ?_)
        refine wKp [(0, _), (1, _), (2, _), (3, _), (4, _), (9, _), (14, _), (20, _), (26, _)] ⟨rfl, rfl, rfl, rfl, rfl, rfl, rfl, rfl, rfl, trivial⟩ ?_
        refine wCd rfl (fun g4 => ?_) (fun g4 => ?_)
        · try simp only [sQ1, sQ2, sQ3, sQ4, sQ5, sQ6, sQ7, sQ8, ne_eq] at g4
          refine wSR ?_
          refine xAs ?_
          refine wKp [(0, _), (1, _), (2, _), (3, _), (4, _), (9, _), (14, _), (20, _), (26, _)] ⟨rfl, rfl, rfl, rfl, rfl, rfl, rfl, rfl, rfl, trivial⟩ ?_
          refine w_ret (thn_r ?_)
          exact end0 .ret (.inl rfl) [_] ⟨rfl, trivial⟩ ⟨bool_eq (by symm; rw [decide_eq_false_iff_not]; rintro rfl; exact g4 rfl), rfl, rfl⟩
        · try simp only [sQ1, sQ2, sQ3, sQ4, sQ5, sQ6, sQ7, sQ8, ne_eq] at g4
          refine w_skip ?_
          refine thn_n ?_
          refine wSR ?_
          refine xAs ?_
          refine wKp [(0, _), (1, _), (2, _), (3, _), (4, _), (9, _), (14, _), (20, _), (26, _)] ⟨rfl, rfl, rfl, rfl, rfl, rfl, rfl, rfl, rfl, trivial⟩ ?_
          refine w_ret ?_
          exact end0 .ret (.inl rfl) [_] ⟨rfl, trivial⟩ ⟨bool_eq (by symm; rw [decide_eq_true_eq]; cases a; cases b; simp_all), rfl, rfl⟩

set_option maxRecDepth 4000 in
set_option maxHeartbeats 400000 in
theorem eqFolderS_c (q q' : Option Addr) (cp cp' : Nat) (xs ys : List DFolder) (B : Kn) (ha : SlK B q cp 5 FolderR xs) (hb : SlK B q' cp' 5 FolderR ys) : RetB (pj J) 76 [.slice q xs.length cp, .slice q' ys.length cp'] B (.bool (decide (xs = ys))) := by
  refine cBB 27 Tryz.func76 rfl rfl rfl (Nat.le_of_ble_eq_true rfl) ?_
  have han := ha.len
  have hbn := hb.len
  refine wSR ?_
  refine xAs ?_
  refine wKp [(0, _), (1, _), (4, _)] ⟨rfl, rfl, rfl, trivial⟩ ?_
  refine w_seq ?_
  refine wSR ?_
  refine xMv ?_
  refine oX (w_lenV rfl rfl Tryz.underlying26 rfl ?_)
  refine xMv ?_
  refine oX (w_lenV rfl rfl Tryz.underlying26 rfl ?_)
  refine oX (w_neqI rfl rfl rfl rfl ?_)
  refine wKp [(0, _), (1, _), (4, _), (10, _)] ⟨rfl, rfl, rfl, rfl, trivial⟩ ?_
  refine wCd rfl (fun g1 => ?_) (fun g1 => ?_)
  · try simp only [sQ1, sQ2, sQ3, sQ4, sQ5, sQ6, sQ7, sQ8, ne_eq] at g1
    refine wSR ?_
    refine xAs ?_
    refine wKp [(0, _), (1, _), (4, _), (10, _)] ⟨rfl, rfl, rfl, rfl, trivial⟩ ?_
    refine w_ret (thn_r ?_)
    exact end0 .ret (.inl rfl) [_] ⟨rfl, trivial⟩ ⟨bool_eq (eqF_len g1), rfl, rfl⟩
  · try simp only [sQ1, sQ2, sQ3, sQ4, sQ5, sQ6, sQ7, sQ8, ne_eq] at g1
    refine w_skip ?_
    refine thn_n ?_
    refine w_seq ?_
    refine wSR ?_
    refine xAs ?_
    refine wKp [(0, _), (1, _), (4, _), (5, _), (10, _)] ⟨rfl, rfl, rfl, rfl, rfl, trivial⟩ ?_
    refine w_block ?_
    refine w_loopE (α := Nat) [0, 1, 10] (fun k => [(5, .int .i64 k)]) [] (fun k => []) (fun k Bx => Bx = B ∧ k ≤ xs.length ∧ xs.take k = ys.take k) (fun k => xs.length - k) 0 ⟨rfl, trivial⟩ rfl (⟨rfl, Nat.zero_le _, by simp⟩) (fun k B1 hle1 hI => ?_)
    obtain ⟨rfl, hk, he⟩ := hI
    refine wTd [(0, _), (1, _), (5, _), (10, _)] [] ⟨rfl, rfl, rfl, rfl, trivial⟩ rfl ?_
    refine w_seq ?_
    refine wSR ?_
    refine xMv ?_
    refine xMv ?_
    refine oX (w_lenV rfl rfl Tryz.underlying26 rfl ?_)
    refine oX (w_lss rfl rfl rfl rfl ?_)
    refine wKp [(0, _), (1, _), (5, _), (10, _), (14, _)] ⟨rfl, rfl, rfl, rfl, rfl, trivial⟩ ?_
    refine wCd rfl (fun g2 => ?_) (fun g2 => ?_)
    · try simp only [sQ1, sQ2, sQ3, sQ4, sQ5, sQ6, sQ7, sQ8, ne_eq] at g2
      refine w_skip ?_
      refine thn_n ?_
      refine w_seq ?_
      refine w_block ?_
      refine w_seq ?_
      refine w_draw (same _ _) mo (by kernel_rfl) ⟨rfl, rfl⟩ (fun _ _ => ?_)
      refine aTP 0 rfl (by kernel_rfl) rfl (fun D B L => w_move rfl rfl rfl ⟨rfl, rfl, rfl, rfl⟩) ?_
      refine aTP 1 rfl (by kernel_rfl) rfl (fun D B L => w_move rfl rfl rfl ⟨rfl, rfl, rfl, rfl⟩) ?_
      obtain ⟨x, hx⟩ := getLt (xs := xs) (i := k) (by first | omega | (simp; done) | (simp; omega))
      obtain ⟨bb3, oo3, rfl⟩ := ha.base hx
      obtain ⟨_, ⟨qg4, cg4, qm4, cm4, rfl, hg4, hm4, hb4, hb4b⟩, hc4⟩ := ha.elem hx
      have hg4n := hg4.len
      have hm4n := hm4.len
      have hm4s := sizeMs_le hm4
      refine aTk 2 rfl (by kernel_rfl) rfl (q_of fun D => w_ixB rfl rfl Tryz.underlying26 sz40 rfl rfl (by first | omega | (simp; done) | (simp; omega)) (by first | omega | (simp; done) | (simp; omega)) ⟨rfl, rfl, rfl, rfl⟩) ?_
      refine aTk 3 rfl (by kernel_rfl) rfl (q_of fun D => w_loadN [_, _, _, _, _] rfl rfl lk40 rfl (rowK hc4 0 rfl rfl) ⟨rfl, rfl, rfl, rfl⟩) ?_
      refine aTP 4 rfl (by kernel_rfl) rfl (fun D B L => w_move rfl rfl rfl ⟨rfl, rfl, rfl, rfl⟩) ?_
      refine aTP 5 rfl (by kernel_rfl) rfl (fun D B L => w_move rfl rfl rfl ⟨rfl, rfl, rfl, rfl⟩) ?_
      obtain ⟨y, hy⟩ := getLt (xs := ys) (i := k) (by first | omega | (simp; done) | (simp; omega))
      obtain ⟨bb6, oo6, rfl⟩ := hb.base hy
      obtain ⟨_, ⟨qg7, cg7, qm7, cm7, rfl, hg7, hm7, hb7, hb7b⟩, hc7⟩ := hb.elem hy
      have hg7n := hg7.len
      have hm7n := hm7.len
      have hm7s := sizeMs_le hm7
      refine aTk 6 rfl (by kernel_rfl) rfl (q_of fun D => w_ixB rfl rfl Tryz.underlying26 sz40 rfl rfl (by first | omega | (simp; done) | (simp; omega)) (by first | omega | (simp; done) | (simp; omega)) ⟨rfl, rfl, rfl, rfl⟩) ?_
      refine aTk 7 rfl (by kernel_rfl) rfl (q_of fun D => w_loadN [_, _, _, _, _] rfl rfl lk40 rfl (rowK hc7 0 rfl rfl) ⟨rfl, rfl, rfl, rfl⟩) ?_
      refine aTk 8 rfl (by kernel_rfl) rfl (q_of fun D => w_retB rfl rfl en31 rfl (eqFolder_c _ _ _ _ _ _ _ _ x y _ hg4 hm4 hg7 hm7) ⟨rfl, rfl, rfl, rfl⟩) ?_
      refine aTk 9 rfl (by kernel_rfl) rfl (q_of fun D => w_not rfl rfl rfl ⟨rfl, rfl, rfl, rfl⟩) ?_
      refine any_done (by kernel_rfl) (by kernel_rfl) ?_
      refine thn_n ?_
      refine wKp [(0, _), (1, _), (5, _), (10, _), (14, _), (26, _)] ⟨rfl, rfl, rfl, rfl, rfl, rfl, trivial⟩ ?_
      refine wCd rfl (fun g3 => ?_) (fun g3 => ?_)
      · try simp only [sQ1, sQ2, sQ3, sQ4, sQ5, sQ6, sQ7, sQ8, ne_eq] at g3
        refine wSR ?_
        refine xAs ?_
        refine wKp [(0, _), (1, _), (4, _), (5, _), (10, _), (14, _), (26, _)] ⟨rfl, rfl, rfl, rfl, rfl, rfl, rfl, trivial⟩ ?_
        refine w_ret (inB_r (thn_r (rndE_r (inB_r (thn_r ?_)))))
        exact end0 .ret (.inl rfl) [_] ⟨rfl, trivial⟩ ⟨bool_eq (eqF_elem hx hy g3), rfl, rfl⟩
      · try simp only [sQ1, sQ2, sQ3, sQ4, sQ5, sQ6, sQ7, sQ8, ne_eq] at g3
        refine w_skip ?_
        refine inB_n (thn_n ?_)
        refine w_region ?_
        refine xMv ?_
        refine oX (w_add rfl rfl rfl rfl (by first | exact wrI64 (by first | omega | (simp; done) | (simp; omega)) (by first | omega | (simp; done) | (simp; omega)) | rfl) ?_)
        refine xAs ?_
        exact rndE_n (k + 1) [] (by first | omega | (simp only []; omega)) ⟨rfl, by omega, take_eq_next hx hy g3 he⟩ ⟨rfl, rfl, rfl, rfl, trivial⟩ rfl
    · try simp only [sQ1, sQ2, sQ3, sQ4, sQ5, sQ6, sQ7, sQ8, ne_eq] at g2
      refine w_exit (thn_x (rndE_x (inB_hit (thn_n ?_))))
      refine wSR ?_
      refine xAs ?_
      refine wKp [(0, _), (1, _), (4, _), (5, _), (10, _), (14, _)] ⟨rfl, rfl, rfl, rfl, rfl, rfl, trivial⟩ ?_
      refine w_ret ?_
      exact end0 .ret (.inl rfl) [_] ⟨rfl, trivial⟩ ⟨bool_eq (eqT (by omega) (by omega) he), rfl, rfl⟩

set_option maxRecDepth 4000 in
set_option maxHeartbeats 400000 in
theorem eqHost_c (qa1 qb1 qc1 : Option Addr) (ca1 cb1 cc1 : Nat) (qa2 qb2 qc2 : Option Addr) (ca2 cb2 cc2 : Nat) (a b : DHost) (B : Kn) (hu1 : SlK B qa1 ca1 3 UserR a.users) (hf1 : SlK B qb1 cb1 5 FolderR a.folders) (hi1 : SlK B qc1 cc1 4 ItemR a.queue.items) (hu2 : SlK B qa2 ca2 3 UserR b.users) (hf2 : SlK B qb2 cb2 5 FolderR b.folders) (hi2 : SlK B qc2 cc2 4 ItemR b.queue.items) : RetB (pj J) 25 [.agg #[str a.domain, .slice qa1 a.users.length ca1, .slice qb1 a.folders.length cb1, .int .i64 a.queue.next, .slice qc1 a.queue.items.length cc1], .agg #[str b.domain, .slice qa2 b.users.length ca2, .slice qb2 b.folders.length cb2, .int .i64 b.queue.next, .slice qc2 b.queue.items.length cc2]] B (.bool (decide (a = b))) := by
  refine cBB 28 Tryz.func25 rfl rfl rfl (Nat.le_of_ble_eq_true rfl) ?_
  refine wSR ?_
  refine oX (w_box (l := [_, _, _, _, _]) rfl rfl rfl rfl (fun b1 => ?_))
  refine oX (w_box (l := [_, _, _, _, _]) rfl rfl rfl rfl (fun b2 => ?_))
  refine xAs ?_
  refine wTd [(0, _), (1, _), (2, _), (3, _), (4, _)] [_, _] ⟨rfl, rfl, rfl, rfl, rfl, trivial⟩ rfl ?_
  refine w_seq ?_
  refine wSR ?_
  refine oX (wFA rfl rfl fo31x0 rfl ?_)
  refine oX (w_load1 rfl rfl lk9 rfl (atL 0 rfl rfl rfl) ?_)
  refine oX (wFA rfl rfl fo31x0 rfl ?_)
  refine oX (w_load1 rfl rfl lk9 rfl (atL 1 rfl rfl rfl) ?_)
  refine oX (w_neqS rfl rfl rfl rfl ?_)
  refine wKp [(0, _), (1, _), (2, _), (3, _), (4, _), (9, _)] ⟨rfl, rfl, rfl, rfl, rfl, rfl, trivial⟩ ?_
  refine wCd rfl (fun g1 => ?_) (fun g1 => ?_)
  · try simp only [sQ1, sQ2, sQ3, sQ4, sQ5, sQ6, sQ7, sQ8, ne_eq] at g1
    refine wSR ?_
    refine xAs ?_
    refine wKp [(0, _), (1, _), (2, _), (3, _), (4, _), (9, _)] ⟨rfl, rfl, rfl, rfl, rfl, rfl, trivial⟩ ?_
    refine w_ret (thn_r ?_)
    exact end0 .ret (.inl rfl) [_] ⟨rfl, trivial⟩ ⟨bool_eq (by symm; rw [decide_eq_false_iff_not]; rintro rfl; exact g1 rfl), rfl, rfl⟩
  · try simp only [sQ1, sQ2, sQ3, sQ4, sQ5, sQ6, sQ7, sQ8, ne_eq] at g1
    refine w_skip ?_
    refine thn_n ?_
    refine w_seq ?_
    refine wSR ?_
    refine oX (wFA rfl rfl fo31x1 rfl ?_)
    refine oX (w_load1 rfl rfl lk23 rfl (atL 0 rfl rfl rfl) ?_)
    refine oX (wFA rfl rfl fo31x1 rfl ?_)
    refine oX (w_load1 rfl rfl lk23 rfl (atL 1 rfl rfl rfl) ?_)
    refine oX (w_retB rfl rfl en75 rfl (eqUserS_c _ _ _ _ _ _ _ hu1 hu2) ?_)
    refine oX (w_not rfl rfl rfl ?_)
    refine wKp [(0, _), (1, _), (2, _), (3, _), (4, _), (9, _), (15, _)] ⟨rfl, rfl, rfl, rfl, rfl, rfl, rfl, trivial⟩ ?_
    refine wCd rfl (fun g2 => ?_) (fun g2 => ?_)
    · try simp only [sQ1, sQ2, sQ3, sQ4, sQ5, sQ6, sQ7, sQ8, ne_eq] at g2
      refine wSR ?_
      refine xAs ?_
      refine wKp [(0, _), (1, _), (2, _), (3, _), (4, _), (9, _), (15, _)] ⟨rfl, rfl, rfl, rfl, rfl, rfl, rfl, trivial⟩ ?_
      refine w_ret (thn_r ?_)
      exact end0 .ret (.inl rfl) [_] ⟨rfl, trivial⟩ ⟨bool_eq (by symm; rw [decide_eq_false_iff_not]; rintro rfl; exact g2 rfl), rfl, rfl⟩
    · try simp only [sQ1, sQ2, sQ3, sQ4, sQ5, sQ6, sQ7, sQ8, ne_eq] at g2
      refine w_skip ?_
      refine thn_n ?_
      refine w_seq ?_
      refine wSR ?_
      refine oX (wFA rfl rfl fo31x2 rfl ?_)
      refine oX (w_load1 rfl rfl lk26 rfl (atL 0 rfl rfl rfl) ?_)
      refine oX (wFA rfl rfl fo31x2 rfl ?_)
      refine oX (w_load1 rfl rfl lk26 rfl (atL 1 rfl rfl rfl) ?_)
      refine oX (w_retB rfl rfl en76 rfl (eqFolderS_c _ _ _ _ _ _ _ hf1 hf2) ?_)
      refine oX (w_not rfl rfl rfl ?_)
      refine wKp [(0, _), (1, _), (2, _), (3, _), (4, _), (9, _), (15, _), (21, _)] ⟨rfl, rfl, rfl, rfl, rfl, rfl, rfl, rfl, trivial⟩ ?_
      refine wCd rfl (fun g3 => ?_) (fun g3 => ?_)
      · try simp only [sQ1, sQ2, sQ3, sQ4, sQ5, sQ6, sQ7, sQ8, ne_eq] at g3
        refine wSR ?_
        refine xAs ?_
        refine wKp [(0, _), (1, _), (2, _), (3, _), (4, _), (9, _), (15, _), (21, _)] ⟨rfl, rfl, rfl, rfl, rfl, rfl, rfl, rfl, trivial⟩ ?_
        refine w_ret (thn_r ?_)
        exact end0 .ret (.inl rfl) [_] ⟨rfl, trivial⟩ ⟨bool_eq (by symm; rw [decide_eq_false_iff_not]; rintro rfl; exact g3 rfl), rfl, rfl⟩
      · try simp only [sQ1, sQ2, sQ3, sQ4, sQ5, sQ6, sQ7, sQ8, ne_eq] at g3
        refine w_skip ?_
        refine thn_n ?_
        refine w_seq ?_
        refine wSR ?_
        refine oX (wFA rfl rfl fo31x3 rfl ?_)
        refine oX (w_loadN [_, _] rfl rfl lk29 rfl (rowL 0 rfl rfl rfl) ?_)
        refine oX (wFA rfl rfl fo31x3 rfl ?_)
        refine oX (w_loadN [_, _] rfl rfl lk29 rfl (rowL 1 rfl rfl rfl) ?_)
        refine oX (w_retB rfl rfl en77 rfl (eqQueue_c _ _ _ _ a.queue b.queue _ hi1 hi2) ?_)
        refine oX (w_not rfl rfl rfl ?_)
        refine wKp [(0, _), (1, _), (2, _), (3, _), (4, _), (9, _), (15, _), (21, _), (27, _)] ⟨rfl, rfl, rfl, rfl, rfl, rfl, rfl, rfl, rfl, trivial⟩ ?_
        refine wCd rfl (fun g4 => ?_) (fun g4 => ?_)
        · try simp only [sQ1, sQ2, sQ3, sQ4, sQ5, sQ6, sQ7, sQ8, ne_eq] at g4
          refine wSR ?_
          refine xAs ?_
          refine wKp [(0, _), (1, _), (2, _), (3, _), (4, _), (9, _), (15, _), (21, _), (27, _)] ⟨rfl, rfl, rfl, rfl, rfl, rfl, rfl, rfl, rfl, trivial⟩ ?_
          refine w_ret (thn_r ?_)
          exact end0 .ret (.inl rfl) [_] ⟨rfl, trivial⟩ ⟨bool_eq (by symm; rw [decide_eq_false_iff_not]; rintro rfl; exact g4 rfl), rfl, rfl⟩
        · try simp only [sQ1, sQ2, sQ3, sQ4, sQ5, sQ6, sQ7, sQ8, ne_eq] at g4
          refine w_skip ?_
          refine thn_n ?_
          refine wSR ?_
          refine xAs ?_
          refine wKp [(0, _), (1, _), (2, _), (3, _), (4, _), (9, _), (15, _), (21, _), (27, _)] ⟨rfl, rfl, rfl, rfl, rfl, rfl, rfl, rfl, rfl, trivial⟩ ?_
          refine w_ret ?_
          exact end0 .ret (.inl rfl) [_] ⟨rfl, trivial⟩ ⟨bool_eq (by symm; rw [decide_eq_true_eq]; cases a; cases b; simp_all), rfl, rfl⟩

set_option maxRecDepth 4000 in
set_option maxHeartbeats 400000 in
theorem specFind_c (q : Option Addr) (cp : Nat) (us : List DUser) (n : Str) (hn : n.length ≤ 2000000) (B : Kn) (hu : SlK B q cp 3 UserR us) : RetB (pj J) 136 [.slice q us.length cp, str n] B (.tuple #[.agg #[str (userFind us n).1.name, str (userFind us n).1.pass, .int .i64 (userFind us n).1.quota], .bool (userFind us n).2]) := by
  refine cBB 22 Tryz.func136 rfl rfl rfl (Nat.le_of_ble_eq_true rfl) ?_
  have hun := hu.len
  have hix := idxU_lt us n
  refine wSR ?_
  refine oX (w_alloc (l := [_, _, _]) rfl rfl zo44 rfl (fun b1 => ?_))
  refine xAs ?_
  refine wTd [(0, _), (1, _), (4, _), (5, _)] [_] ⟨rfl, rfl, rfl, rfl, trivial⟩ rfl ?_
  refine w_seq ?_
  refine wSR ?_
  refine xMv ?_
  refine oX (w_retB rfl rfl en65 rfl (specUsers_c _ _ _ _ hu) ?_)
  refine oX (w_not rfl rfl rfl ?_)
  refine xMv ?_
  refine r_split (d := 9) rfl (fun g1 => ?_) (fun g1 => ?_)
  · try simp only [sQ1, sQ2, sQ3, sQ4, sQ5, sQ6, sQ7, sQ8, ne_eq] at g1
    refine oX (w_pass rfl rfl ?_)
    refine oX (w_pass rfl rfl ?_)
    refine oX (w_pass rfl rfl ?_)
    refine oX (w_pass rfl rfl ?_)
    refine oX (w_pickT rfl rfl rfl rfl ?_)
    refine wKp [(0, _), (1, _), (4, _), (5, _), (14, _)] ⟨rfl, rfl, rfl, rfl, rfl, trivial⟩ ?_
    refine wCd (t := true) rfl (fun _ => ?_) (fun h => Bool.noConfusion h)
    refine wSR ?_
    refine oX (w_build (parts := []) [_, _, _] [_, _, _] rfl rfl pl44 zo44 rfl rfl rfl ?_)
    refine oX (w_store [_, _, _] 0 [_, _, _] rfl rfl sz44 rfl rfl rfl rfl rfl rfl rfl rfl ?_)
    refine xAs ?_
    refine wTd [(0, _), (1, _), (4, _), (5, _), (14, _)] [_] ⟨rfl, rfl, rfl, rfl, rfl, trivial⟩ rfl ?_
    refine w_ret (thn_r ?_)
    exact end0 .ret (.inl rfl) [_, _] ⟨⟨_, rfl, .inr ⟨[_, _, _], lk44, rowL 0 rfl rfl rfl, rfl⟩⟩, rfl, trivial⟩ ⟨by rw [userFind, if_neg (by simpa using g1)]; rfl, rfl, rfl⟩
  · try simp only [sQ1, sQ2, sQ3, sQ4, sQ5, sQ6, sQ7, sQ8, ne_eq] at g1
    refine xMv ?_
    refine xMv ?_
    refine oX (w_retB rfl rfl en70 rfl (l14Find_c _ _ _ _ _ hu) ?_)
    refine oX (w_lss rfl rfl rfl rfl ?_)
    refine oX (w_pickF rfl rfl rfl rfl ?_)
    refine wKp [(0, _), (1, _), (4, _), (5, _), (14, _)] ⟨rfl, rfl, rfl, rfl, rfl, trivial⟩ ?_
    refine wCd rfl (fun g2 => ?_) (fun g2 => ?_)
    · try simp only [sQ1, sQ2, sQ3, sQ4, sQ5, sQ6, sQ7, sQ8, ne_eq] at g2
      refine wSR ?_
      refine oX (w_build (parts := []) [_, _, _] [_, _, _] rfl rfl pl44 zo44 rfl rfl rfl ?_)
      refine oX (w_store [_, _, _] 0 [_, _, _] rfl rfl sz44 rfl rfl rfl rfl rfl rfl rfl rfl ?_)
      refine xAs ?_
      refine wTd [(0, _), (1, _), (4, _), (5, _), (14, _)] [_] ⟨rfl, rfl, rfl, rfl, rfl, trivial⟩ rfl ?_
      refine w_ret (thn_r ?_)
      exact end0 .ret (.inl rfl) [_, _] ⟨⟨_, rfl, .inr ⟨[_, _, _], lk44, rowL 0 rfl rfl rfl, rfl⟩⟩, rfl, trivial⟩ ⟨by rw [userFind, if_pos (by simpa using g1), find_idx_no (by omega)]; rfl, rfl, rfl⟩
    · try simp only [sQ1, sQ2, sQ3, sQ4, sQ5, sQ6, sQ7, sQ8, ne_eq] at g2
      refine w_skip ?_
      refine thn_n ?_
      refine wSR ?_
      refine xMv ?_
      refine xMv ?_
      refine xMv ?_
      refine oX (w_retB rfl rfl en70 rfl (l14Find_c _ _ _ _ _ hu) ?_)
      obtain ⟨z, hz⟩ := getI (xs := us) (i := (idxU us n)) (by first | omega | (simp; done) | (simp; omega)) (by first | omega | (simp; done) | (simp; omega))
      obtain ⟨bb6, oo6, rfl⟩ := hu.base hz
      obtain ⟨_, ⟨rfl, hb7, hb7b⟩, hc7⟩ := hu.elem hz
      refine oX (w_ixB rfl rfl Tryz.underlying23 sz44 rfl rfl (by first | omega | (simp; done) | (simp; omega)) (by first | omega | (simp; done) | (simp; omega)) ?_)
      refine oX (w_loadN [_, _, _] rfl rfl lk44 rfl (rowK hc7 0 rfl rfl) ?_)
      refine oX (w_store [_, _, _] 0 [_, _, _] rfl rfl sz44 rfl rfl rfl rfl rfl rfl rfl rfl ?_)
      refine xAs ?_
      refine wTd [(0, _), (1, _), (4, _), (5, _), (14, _)] [_] ⟨rfl, rfl, rfl, rfl, rfl, trivial⟩ rfl ?_
      refine w_ret ?_
      exact end0 .ret (.inl rfl) [_, _] ⟨⟨_, rfl, .inr ⟨[_, _, _], lk44, rowL 0 rfl rfl rfl, rfl⟩⟩, rfl, trivial⟩ ⟨by rw [userFind, if_pos (by simpa using g1), find_idx (by omega) hz]; rfl, rfl, rfl⟩

set_option maxRecDepth 4000 in
set_option maxHeartbeats 400000 in
theorem specProve_c (q : Option Addr) (cp : Nat) (us : List DUser) (n : Str) (hn : n.length ≤ 2000000) (p : Str) (hp : p.length ≤ 2000000) (B : Kn) (hu : SlK B q cp 3 UserR us) : RetB (pj J) 78 [.slice q us.length cp, str n, str p] B (.bool (userProve us n p)) := by
  refine cBB 22 Tryz.func78 rfl rfl rfl (Nat.le_of_ble_eq_true rfl) ?_
  refine wSR ?_
  refine xAs ?_
  refine wKp [(0, _), (1, _), (2, _), (6, _)] ⟨rfl, rfl, rfl, rfl, trivial⟩ ?_
  refine wSR ?_
  refine xMv ?_
  refine xMv ?_
  refine oX (w_retB rfl rfl en136 rfl (specFind_c _ _ us n (by first | assumption | omega | (simp; done) | (simp; omega)) _ hu) ?_)
  refine xMv ?_
  refine oX (w_extract rfl rfl rfl rfl ?_)
  refine oX (w_extract rfl rfl rfl rfl ?_)
  refine oX (w_alloc (l := [_, _, _]) rfl rfl zo44 rfl (fun b2 => ?_))
  refine oX (w_store [_, _, _] 0 [_, _, _] rfl rfl sz44 rfl rfl rfl rfl rfl rfl rfl rfl ?_)
  refine xAs ?_
  refine wTd [(0, _), (1, _), (2, _), (6, _), (7, _), (8, _)] [_] ⟨rfl, rfl, rfl, rfl, rfl, rfl, trivial⟩ rfl ?_
  refine wSR ?_
  refine xMv ?_
  refine xMv ?_
  refine r_split (d := 16) rfl (fun g1 => ?_) (fun g1 => ?_)
  · try simp only [sQ1, sQ2, sQ3, sQ4, sQ5, sQ6, sQ7, sQ8, ne_eq] at g1
    refine oX (wFA rfl rfl fo44x1 rfl ?_)
    refine oX (w_load1 rfl rfl lk9 rfl (atL 0 rfl rfl rfl) ?_)
    refine xMv ?_
    refine oX (w_eqlS rfl rfl rfl rfl ?_)
    refine oX (w_pickT rfl rfl rfl rfl ?_)
    refine xAs ?_
    refine wKp [(0, _), (1, _), (2, _), (6, _), (7, _), (8, _)] ⟨rfl, rfl, rfl, rfl, rfl, rfl, trivial⟩ ?_
    refine w_ret ?_
    exact end0 .ret (.inl rfl) [_] ⟨rfl, trivial⟩ ⟨bool_eq (by simp [userProve, g1]), rfl, rfl⟩
  · try simp only [sQ1, sQ2, sQ3, sQ4, sQ5, sQ6, sQ7, sQ8, ne_eq] at g1
    refine oX (w_pass rfl rfl ?_)
    refine oX (w_pass rfl rfl ?_)
    refine oX (w_pass rfl rfl ?_)
    refine oX (w_pass rfl rfl ?_)
    refine oX (w_pickF rfl rfl rfl rfl ?_)
    refine xAs ?_
    refine wKp [(0, _), (1, _), (2, _), (6, _), (7, _), (8, _)] ⟨rfl, rfl, rfl, rfl, rfl, rfl, trivial⟩ ?_
    refine w_ret ?_
    exact end0 .ret (.inl rfl) [_] ⟨rfl, trivial⟩ ⟨bool_eq (by simp [userProve, g1]), rfl, rfl⟩

set_option maxRecDepth 4000 in
set_option maxHeartbeats 400000 in
theorem implProve_c (q : Option Addr) (cp : Nat) (us : List DUser) (n : Str) (hn : n.length ≤ 2000000) (p : Str) (hp : p.length ≤ 2000000) (B : Kn) (hu : SlK B q cp 3 UserR us) : RetB (pj J) 42 [.slice q us.length cp, str n, str p] B (.bool (userProve us n p)) := by
  refine cBB 22 Tryz.func42 rfl rfl rfl (Nat.le_of_ble_eq_true rfl) ?_
  refine wSR ?_
  refine xAs ?_
  refine wKp [(0, _), (1, _), (2, _), (6, _)] ⟨rfl, rfl, rfl, rfl, trivial⟩ ?_
  refine wSR ?_
  refine xMv ?_
  refine xMv ?_
  refine oX (w_retB rfl rfl en37 rfl (usersFind_c _ _ _ n (by first | assumption | omega | (simp; done) | (simp; omega)) _ hu) ?_)
  refine xMv ?_
  refine oX (w_extract rfl rfl rfl rfl ?_)
  refine oX (w_extract rfl rfl rfl rfl ?_)
  refine oX (w_alloc (l := [_, _, _]) rfl rfl zo44 rfl (fun b2 => ?_))
  refine oX (w_store [_, _, _] 0 [_, _, _] rfl rfl sz44 rfl rfl rfl rfl rfl rfl rfl rfl ?_)
  refine xAs ?_
  refine wTd [(0, _), (1, _), (2, _), (6, _), (7, _), (8, _)] [_] ⟨rfl, rfl, rfl, rfl, rfl, rfl, trivial⟩ rfl ?_
  refine wSR ?_
  refine xMv ?_
  refine xMv ?_
  refine r_split (d := 16) rfl (fun g1 => ?_) (fun g1 => ?_)
  · try simp only [sQ1, sQ2, sQ3, sQ4, sQ5, sQ6, sQ7, sQ8, ne_eq] at g1
    refine oX (wFA rfl rfl fo44x1 rfl ?_)
    refine oX (w_load1 rfl rfl lk9 rfl (atL 0 rfl rfl rfl) ?_)
    refine xMv ?_
    refine oX (w_eqlS rfl rfl rfl rfl ?_)
    refine oX (w_pickT rfl rfl rfl rfl ?_)
    refine xAs ?_
    refine wKp [(0, _), (1, _), (2, _), (6, _), (7, _), (8, _)] ⟨rfl, rfl, rfl, rfl, rfl, rfl, trivial⟩ ?_
    refine w_ret ?_
    exact end0 .ret (.inl rfl) [_] ⟨rfl, trivial⟩ ⟨bool_eq (by simp [userProve, g1]), rfl, rfl⟩
  · try simp only [sQ1, sQ2, sQ3, sQ4, sQ5, sQ6, sQ7, sQ8, ne_eq] at g1
    refine oX (w_pass rfl rfl ?_)
    refine oX (w_pass rfl rfl ?_)
    refine oX (w_pass rfl rfl ?_)
    refine oX (w_pass rfl rfl ?_)
    refine oX (w_pickF rfl rfl rfl rfl ?_)
    refine xAs ?_
    refine wKp [(0, _), (1, _), (2, _), (6, _), (7, _), (8, _)] ⟨rfl, rfl, rfl, rfl, rfl, rfl, trivial⟩ ?_
    refine w_ret ?_
    exact end0 .ret (.inl rfl) [_] ⟨rfl, trivial⟩ ⟨bool_eq (by simp [userProve, g1]), rfl, rfl⟩

set_option maxRecDepth 4000 in
set_option maxHeartbeats 400000 in
theorem specOpen_c (q1 q2 q3 : Option Addr) (c1 c2 c3 : Nat) (x : DHost) (n p : Str) (hn : n.length ≤ 2000000) (hp : p.length ≤ 2000000) (hd : x.domain.length ≤ 2000000) (B : Kn) (hu : SlK B q1 c1 3 UserR x.users) (hf : SlK B q2 c2 5 FolderR x.folders) (hi : SlK B q3 c3 4 ItemR x.queue.items) : RetB (pj J) 27 [.agg #[str x.domain, .slice q1 x.users.length c1, .slice q2 x.folders.length c2, .int .i64 x.queue.next, .slice q3 x.queue.items.length c3], str n, str p] B (.tuple #[.agg #[str (sessOpen x n p).1.user, str (sessOpen x n p).1.owner, str (sessOpen x n p).1.name], .bool (sessOpen x n p).2]) := by
  refine cBB 23 Tryz.func27 rfl rfl rfl (Nat.le_of_ble_eq_true rfl) ?_
  refine wSR ?_
  refine oX (w_box (l := [_, _, _, _, _]) rfl rfl rfl rfl (fun b1 => ?_))
  refine oX (w_alloc (l := [_, _, _]) rfl rfl zo60 rfl (fun b2 => ?_))
  refine xAs ?_
  refine wTd [(0, _), (1, _), (2, _), (3, _), (6, _), (7, _)] [_, _] ⟨rfl, rfl, rfl, rfl, rfl, rfl, trivial⟩ rfl ?_
  refine w_seq ?_
  refine wSR ?_
  refine oX (w_loadN [_, _, _, _, _] rfl rfl lk31 rfl (rowL 0 rfl rfl rfl) ?_)
  refine oX (w_retB rfl rfl en23 rfl (specHost_c _ _ _ _ _ _ x (by first | assumption | omega | (simp; done) | (simp; omega)) _ hu hf hi) ?_)
  refine oX (w_not rfl rfl rfl ?_)
  refine xMv ?_
  refine r_split (d := 11) rfl (fun g1 => ?_) (fun g1 => ?_)
  · try simp only [sQ1, sQ2, sQ3, sQ4, sQ5, sQ6, sQ7, sQ8, ne_eq] at g1
    refine oX (w_pass rfl rfl ?_)
    refine oX (w_pass rfl rfl ?_)
    refine oX (w_pass rfl rfl ?_)
    refine oX (w_pass rfl rfl ?_)
    refine oX (w_pass rfl rfl ?_)
    refine oX (w_pass rfl rfl ?_)
    refine oX (w_pickT rfl rfl rfl rfl ?_)
    refine wKp [(0, _), (1, _), (2, _), (3, _), (6, _), (7, _), (18, _)] ⟨rfl, rfl, rfl, rfl, rfl, rfl, rfl, trivial⟩ ?_
    refine wCd (t := true) rfl (fun _ => ?_) (fun h => Bool.noConfusion h)
    refine wSR ?_
    refine oX (w_build (parts := []) [_, _, _] [_, _, _] rfl rfl pl60 zo60 rfl rfl rfl ?_)
    refine oX (w_store [_, _, _] 1 [_, _, _] rfl rfl sz60 rfl rfl rfl rfl rfl rfl rfl rfl ?_)
    refine xAs ?_
    refine wTd [(0, _), (1, _), (2, _), (3, _), (6, _), (7, _), (18, _)] [_, _] ⟨rfl, rfl, rfl, rfl, rfl, rfl, rfl, trivial⟩ rfl ?_
    refine w_ret (thn_r ?_)
    exact end0 .ret (.inl rfl) [_, _] ⟨⟨_, rfl, .inr ⟨[_, _, _], lk60, rowL 1 rfl rfl rfl, rfl⟩⟩, rfl, trivial⟩ ⟨by rw [sessOpen_no (by simp [g1])]; rfl, rfl, rfl⟩
  · try simp only [sQ1, sQ2, sQ3, sQ4, sQ5, sQ6, sQ7, sQ8, ne_eq] at g1
    refine oX (wFA rfl rfl fo31x1 rfl ?_)
    refine oX (w_load1 rfl rfl lk23 rfl (atL 0 rfl rfl rfl) ?_)
    refine xMv ?_
    refine xMv ?_
    refine oX (w_retB rfl rfl en78 rfl (specProve_c _ _ x.users n (by first | assumption | omega | (simp; done) | (simp; omega)) p (by first | assumption | omega | (simp; done) | (simp; omega)) _ hu) ?_)
    refine oX (w_not rfl rfl rfl ?_)
    refine oX (w_pickF rfl rfl rfl rfl ?_)
    refine wKp [(0, _), (1, _), (2, _), (3, _), (6, _), (7, _), (18, _)] ⟨rfl, rfl, rfl, rfl, rfl, rfl, rfl, trivial⟩ ?_
    refine wCd rfl (fun g2 => ?_) (fun g2 => ?_)
    · try simp only [sQ1, sQ2, sQ3, sQ4, sQ5, sQ6, sQ7, sQ8, ne_eq] at g2
      refine wSR ?_
      refine oX (w_build (parts := []) [_, _, _] [_, _, _] rfl rfl pl60 zo60 rfl rfl rfl ?_)
      refine oX (w_store [_, _, _] 1 [_, _, _] rfl rfl sz60 rfl rfl rfl rfl rfl rfl rfl rfl ?_)
      refine xAs ?_
      refine wTd [(0, _), (1, _), (2, _), (3, _), (6, _), (7, _), (18, _)] [_, _] ⟨rfl, rfl, rfl, rfl, rfl, rfl, rfl, trivial⟩ rfl ?_
      refine w_ret (thn_r ?_)
      exact end0 .ret (.inl rfl) [_, _] ⟨⟨_, rfl, .inr ⟨[_, _, _], lk60, rowL 1 rfl rfl rfl, rfl⟩⟩, rfl, trivial⟩ ⟨by rw [sessOpen_no (by simp [g1, g2])]; rfl, rfl, rfl⟩
    · try simp only [sQ1, sQ2, sQ3, sQ4, sQ5, sQ6, sQ7, sQ8, ne_eq] at g2
      refine w_skip ?_
      refine thn_n ?_
      refine wSR ?_
      refine xMv ?_
      refine xMv ?_
      refine oX (w_build (parts := [(0, _), (1, _), (2, _)]) [_, _, _] [_, _, _] rfl rfl pl60 zo60 rfl rfl rfl ?_)
      refine oX (w_store [_, _, _] 1 [_, _, _] rfl rfl sz60 rfl rfl rfl rfl rfl rfl rfl rfl ?_)
      refine xAs ?_
      refine wTd [(0, _), (1, _), (2, _), (3, _), (6, _), (7, _), (18, _)] [_, _] ⟨rfl, rfl, rfl, rfl, rfl, rfl, rfl, trivial⟩ rfl ?_
      refine w_ret ?_
      exact end0 .ret (.inl rfl) [_, _] ⟨⟨_, rfl, .inr ⟨[_, _, _], lk60, rowL 1 rfl rfl rfl, rfl⟩⟩, rfl, trivial⟩ ⟨by rw [sessOpen_yes (by simp [g1, g2])]; rfl, rfl, rfl⟩

set_option maxRecDepth 4000 in
set_option maxHeartbeats 400000 in
theorem hostOpen_c (hJ : Joins Tryz.prog J) (q1 q2 q3 : Option Addr) (c1 c2 c3 : Nat) (x : DHost) (n p : Str) (hn : n.length ≤ 2000000) (hp : p.length ≤ 2000000) (hd : x.domain.length ≤ 2000000) (B : Kn) (hu : SlK B q1 c1 3 UserR x.users) (hf : SlK B q2 c2 5 FolderR x.folders) (hi : SlK B q3 c3 4 ItemR x.queue.items) : CallsB (pj J) 28 [.agg #[str x.domain, .slice q1 x.users.length c1, .slice q2 x.folders.length c2, .int .i64 x.queue.next, .slice q3 x.queue.items.length c3], str n, str p] B [] (fun v B' Ls => Ls = [] ∧ v = (.tuple #[.agg #[str (sessOpen x n p).1.user, str (sessOpen x n p).1.owner, str (sessOpen x n p).1.name], .bool (sessOpen x n p).2])) := by
  refine cBB 23 Tryz.func28 rfl rfl rfl (Nat.le_of_ble_eq_true rfl) ?_
  refine wSR ?_
  refine oX (w_box (l := [_, _, _, _, _]) rfl rfl rfl rfl (fun b1 => ?_))
  refine oX (w_alloc (l := [_, _, _]) rfl rfl zo60 rfl (fun b2 => ?_))
  refine xAs ?_
  refine wTd [(0, _), (1, _), (2, _), (3, _), (6, _), (7, _)] [_, _] ⟨rfl, rfl, rfl, rfl, rfl, rfl, trivial⟩ rfl ?_
  refine w_seq ?_
  refine wSR ?_
  refine oX (w_loadN [_, _, _, _, _] rfl rfl lk31 rfl (rowL 0 rfl rfl rfl) ?_)
  refine oX (w_callP rfl rfl en21 rfl (hostValid_c hJ _ _ _ _ _ _ x (by first | assumption | omega | (simp; done) | (simp; omega)) _ hu hf hi) ?_)
  intro v3 B3 hle3
  rintro rfl
  replace hu := hu.mono UserR.mono hle3
  replace hf := hf.mono FolderR.mono hle3
  replace hi := hi.mono ItemR.mono hle3
  refine oX (w_not rfl rfl rfl ?_)
  refine xMv ?_
  refine r_split (d := 11) rfl (fun g1 => ?_) (fun g1 => ?_)
  · try simp only [sQ1, sQ2, sQ3, sQ4, sQ5, sQ6, sQ7, sQ8, ne_eq] at g1
    refine oX (w_pass rfl rfl ?_)
    refine oX (w_pass rfl rfl ?_)
    refine oX (w_pass rfl rfl ?_)
    refine oX (w_pass rfl rfl ?_)
    refine oX (w_pass rfl rfl ?_)
    refine oX (w_pass rfl rfl ?_)
    refine oX (w_pickT rfl rfl rfl rfl ?_)
    refine wKp [(0, _), (1, _), (2, _), (3, _), (6, _), (7, _), (18, _)] ⟨rfl, rfl, rfl, rfl, rfl, rfl, rfl, trivial⟩ ?_
    refine wCd (t := true) rfl (fun _ => ?_) (fun h => Bool.noConfusion h)
    refine wSR ?_
    refine oX (w_build (parts := []) [_, _, _] [_, _, _] rfl rfl pl60 zo60 rfl rfl rfl ?_)
    refine oX (w_store [_, _, _] 1 [_, _, _] rfl rfl sz60 rfl rfl rfl rfl rfl rfl rfl rfl ?_)
    refine xAs ?_
    refine wTd [(0, _), (1, _), (2, _), (3, _), (6, _), (7, _), (18, _)] [_, _] ⟨rfl, rfl, rfl, rfl, rfl, rfl, rfl, trivial⟩ rfl ?_
    refine w_ret (thn_r ?_)
    exact end0 .ret (.inl rfl) [_, _] ⟨⟨_, rfl, .inr ⟨[_, _, _], lk60, rowL 1 rfl rfl rfl, rfl⟩⟩, rfl, trivial⟩ ⟨rfl, by rw [sessOpen_no (by simp [g1])]; rfl⟩
  · try simp only [sQ1, sQ2, sQ3, sQ4, sQ5, sQ6, sQ7, sQ8, ne_eq] at g1
    refine oX (wFA rfl rfl fo31x1 rfl ?_)
    refine oX (w_load1 rfl rfl lk23 rfl (atL 0 rfl rfl rfl) ?_)
    refine xMv ?_
    refine xMv ?_
    refine oX (w_retB rfl rfl en42 rfl (implProve_c _ _ x.users n (by first | assumption | omega | (simp; done) | (simp; omega)) p (by first | assumption | omega | (simp; done) | (simp; omega)) _ hu) ?_)
    refine oX (w_not rfl rfl rfl ?_)
    refine oX (w_pickF rfl rfl rfl rfl ?_)
    refine wKp [(0, _), (1, _), (2, _), (3, _), (6, _), (7, _), (18, _)] ⟨rfl, rfl, rfl, rfl, rfl, rfl, rfl, trivial⟩ ?_
    refine wCd rfl (fun g2 => ?_) (fun g2 => ?_)
    · try simp only [sQ1, sQ2, sQ3, sQ4, sQ5, sQ6, sQ7, sQ8, ne_eq] at g2
      refine wSR ?_
      refine oX (w_build (parts := []) [_, _, _] [_, _, _] rfl rfl pl60 zo60 rfl rfl rfl ?_)
      refine oX (w_store [_, _, _] 1 [_, _, _] rfl rfl sz60 rfl rfl rfl rfl rfl rfl rfl rfl ?_)
      refine xAs ?_
      refine wTd [(0, _), (1, _), (2, _), (3, _), (6, _), (7, _), (18, _)] [_, _] ⟨rfl, rfl, rfl, rfl, rfl, rfl, rfl, trivial⟩ rfl ?_
      refine w_ret (thn_r ?_)
      exact end0 .ret (.inl rfl) [_, _] ⟨⟨_, rfl, .inr ⟨[_, _, _], lk60, rowL 1 rfl rfl rfl, rfl⟩⟩, rfl, trivial⟩ ⟨rfl, by rw [sessOpen_no (by simp [g1, g2])]; rfl⟩
    · try simp only [sQ1, sQ2, sQ3, sQ4, sQ5, sQ6, sQ7, sQ8, ne_eq] at g2
      refine w_skip ?_
      refine thn_n ?_
      refine wSR ?_
      refine xMv ?_
      refine xMv ?_
      refine oX (w_build (parts := [(0, _), (1, _), (2, _)]) [_, _, _] [_, _, _] rfl rfl pl60 zo60 rfl rfl rfl ?_)
      refine oX (w_store [_, _, _] 1 [_, _, _] rfl rfl sz60 rfl rfl rfl rfl rfl rfl rfl rfl ?_)
      refine xAs ?_
      refine wTd [(0, _), (1, _), (2, _), (3, _), (6, _), (7, _), (18, _)] [_, _] ⟨rfl, rfl, rfl, rfl, rfl, rfl, rfl, trivial⟩ rfl ?_
      refine w_ret ?_
      exact end0 .ret (.inl rfl) [_, _] ⟨⟨_, rfl, .inr ⟨[_, _, _], lk60, rowL 1 rfl rfl rfl, rfl⟩⟩, rfl, trivial⟩ ⟨rfl, by rw [sessOpen_yes (by simp [g1, g2])]; rfl⟩

set_option maxRecDepth 4000 in
set_option maxHeartbeats 400000 in
theorem eqSession_c (a b : DSess) (B : Kn) : RetB (pj J) 29 [.agg #[str a.user, str a.owner, str a.name], .agg #[str b.user, str b.owner, str b.name]] B (.bool (decide (a = b))) := by
  refine cBB 20 Tryz.func29 rfl rfl rfl (Nat.le_of_ble_eq_true rfl) ?_
  refine wSR ?_
  refine oX (w_box (l := [_, _, _]) rfl rfl rfl rfl (fun b1 => ?_))
  refine oX (w_box (l := [_, _, _]) rfl rfl rfl rfl (fun b2 => ?_))
  refine xAs ?_
  refine wTd [(0, _), (1, _), (2, _), (3, _), (4, _)] [_, _] ⟨rfl, rfl, rfl, rfl, rfl, trivial⟩ rfl ?_
  refine w_seq ?_
  refine wSR ?_
  refine oX (wFA rfl rfl fo60x0 rfl ?_)
  refine oX (w_load1 rfl rfl lk9 rfl (atL 0 rfl rfl rfl) ?_)
  refine oX (wFA rfl rfl fo60x0 rfl ?_)
  refine oX (w_load1 rfl rfl lk9 rfl (atL 1 rfl rfl rfl) ?_)
  refine oX (w_neqS rfl rfl rfl rfl ?_)
  refine wKp [(0, _), (1, _), (2, _), (3, _), (4, _), (9, _)] ⟨rfl, rfl, rfl, rfl, rfl, rfl, trivial⟩ ?_
  refine wCd rfl (fun g1 => ?_) (fun g1 => ?_)
  · try simp only [sQ1, sQ2, sQ3, sQ4, sQ5, sQ6, sQ7, sQ8, ne_eq] at g1
    refine wSR ?_
    refine xAs ?_
    refine wKp [(0, _), (1, _), (2, _), (3, _), (4, _), (9, _)] ⟨rfl, rfl, rfl, rfl, rfl, rfl, trivial⟩ ?_
    refine w_ret (thn_r ?_)
    exact end0 .ret (.inl rfl) [_] ⟨rfl, trivial⟩ ⟨bool_eq (by symm; rw [decide_eq_false_iff_not]; rintro rfl; exact g1 rfl), rfl, rfl⟩
  · try simp only [sQ1, sQ2, sQ3, sQ4, sQ5, sQ6, sQ7, sQ8, ne_eq] at g1
    refine w_skip ?_
    refine thn_n ?_
    refine w_seq ?_
    refine wSR ?_
    refine oX (wFA rfl rfl fo60x1 rfl ?_)
    refine oX (w_load1 rfl rfl lk9 rfl (atL 0 rfl rfl rfl) ?_)
    refine oX (wFA rfl rfl fo60x1 rfl ?_)
    refine oX (w_load1 rfl rfl lk9 rfl (atL 1 rfl rfl rfl) ?_)
    refine oX (w_neqS rfl rfl rfl rfl ?_)
    refine wKp [(0, _), (1, _), (2, _), (3, _), (4, _), (9, _), (14, _)] ⟨rfl, rfl, rfl, rfl, rfl, rfl, rfl, trivial⟩ ?_
    refine wCd rfl (fun g2 => ?_) (fun g2 => ?_)
    · try simp only [sQ1, sQ2, sQ3, sQ4, sQ5, sQ6, sQ7, sQ8, ne_eq] at g2
      refine wSR ?_
      refine xAs ?_
      refine wKp [(0, _), (1, _), (2, _), (3, _), (4, _), (9, _), (14, _)] ⟨rfl, rfl, rfl, rfl, rfl, rfl, rfl, trivial⟩ ?_
      refine w_ret (thn_r ?_)
      exact end0 .ret (.inl rfl) [_] ⟨rfl, trivial⟩ ⟨bool_eq (by symm; rw [decide_eq_false_iff_not]; rintro rfl; exact g2 rfl), rfl, rfl⟩
    · try simp only [sQ1, sQ2, sQ3, sQ4, sQ5, sQ6, sQ7, sQ8, ne_eq] at g2
      refine w_skip ?_
      refine thn_n ?_
      refine w_seq ?_
      refine wSR ?_
      refine oX (wFA rfl rfl fo60x2 rfl ?_)
      refine oX (w_load1 rfl rfl lk9 rfl (atL 0 rfl rfl rfl) ?_)
      refine oX (wFA rfl rfl fo60x2 rfl ?_)
      refine oX (w_load1 rfl rfl lk9 rfl (atL 1 rfl rfl rfl) ?_)
      refine oX (w_neqS rfl rfl rfl rfl ?_)
      refine wKp [(0, _), (1, _), (2, _), (3, _), (4, _), (9, _), (14, _), (19, _)] ⟨rfl, rfl, rfl, rfl, rfl, rfl, rfl, rfl, trivial⟩ ?_
      refine wCd rfl (fun g3 => ?_) (fun g3 => ?_)
      · try simp only [sQ1, sQ2, sQ3, sQ4, sQ5, sQ6, sQ7, sQ8, ne_eq] at g3
        refine wSR ?_
        refine xAs ?_
        refine wKp [(0, _), (1, _), (2, _), (3, _), (4, _), (9, _), (14, _), (19, _)] ⟨rfl, rfl, rfl, rfl, rfl, rfl, rfl, rfl, trivial⟩ ?_
        refine w_ret (thn_r ?_)
        exact end0 .ret (.inl rfl) [_] ⟨rfl, trivial⟩ ⟨bool_eq (by symm; rw [decide_eq_false_iff_not]; rintro rfl; exact g3 rfl), rfl, rfl⟩
      · try simp only [sQ1, sQ2, sQ3, sQ4, sQ5, sQ6, sQ7, sQ8, ne_eq] at g3
        refine w_skip ?_
        refine thn_n ?_
        refine wSR ?_
        refine xAs ?_
        refine wKp [(0, _), (1, _), (2, _), (3, _), (4, _), (9, _), (14, _), (19, _)] ⟨rfl, rfl, rfl, rfl, rfl, rfl, rfl, rfl, trivial⟩ ?_
        refine w_ret ?_
        exact end0 .ret (.inl rfl) [_] ⟨rfl, trivial⟩ ⟨bool_eq (by symm; rw [decide_eq_true_eq]; cases a; cases b; simp_all), rfl, rfl⟩

set_option maxRecDepth 4000 in
set_option maxHeartbeats 1600000 in
theorem exSessOpen_w (q1 q2 q3 : Option Addr) (c1 c2 c3 : Nat) (x : DHost) (hd : x.domain.length ≤ 140737488355328) (n p : Str) (hw : n.length ≤ 140737488355328) (hw2 : p.length ≤ 140737488355328) (B : Kn) (hu : SlB B q1 c1 3 UserB x.users) (hf : SlB B q2 c2 5 FolderB x.folders) (hi : SlB B q3 c3 4 ItemB x.queue.items) : ∃ code, Tryz.f6.body = some code ∧ wpS (pj (JoinR Tryz.prog)) 55 code (bodyQ (pj (JoinR Tryz.prog)) [.tmp 6] (fun v B' Ls => v = .bool true)) (argEnv [.agg #[str x.domain, .slice q1 x.users.length c1, .slice q2 x.folders.length c2, .int .i64 x.queue.next, .slice q3 x.queue.items.length c3], str n, str p] 0) [] B [] := by
  have hJ := joins_joinR Tryz.prog
  refine ⟨_, rfl, ?_⟩
  refine wSR ?_
  refine oX (w_box (l := [_, _, _, _, _]) rfl rfl rfl rfl (fun b1 => ?_))
  refine xAs ?_
  refine wTd [(0, _), (1, _), (2, _), (3, _), (6, _)] [_] ⟨rfl, rfl, rfl, rfl, rfl, trivial⟩ rfl ?_
  refine w_seq ?_
  refine wSR ?_
  refine xMv ?_
  refine oX (w_lenS rfl rfl Tryz.underlying9 rfl ?_)
  refine oX (w_gtr rfl rfl rfl rfl ?_)
  refine wKp [(0, _), (1, _), (2, _), (3, _), (6, _), (15, _)] ⟨rfl, rfl, rfl, rfl, rfl, rfl, trivial⟩ ?_
  refine wCd rfl (fun g0 => ?_) (fun g0 => ?_)
  · try simp only [sQ1, sQ2, sQ3, sQ4, sQ5, sQ6, sQ7, sQ8, ne_eq] at g0
    refine wSR ?_
    refine xAs ?_
    refine wKp [(0, _), (1, _), (2, _), (3, _), (6, _), (15, _)] ⟨rfl, rfl, rfl, rfl, rfl, rfl, trivial⟩ ?_
    refine w_ret (thn_r ?_)
    exact end0 .ret (.inl rfl) [_] ⟨rfl, trivial⟩ rfl
  · try simp only [sQ1, sQ2, sQ3, sQ4, sQ5, sQ6, sQ7, sQ8, ne_eq] at g0
    refine w_skip ?_
    refine thn_n ?_
    refine w_seq ?_
    refine wSR ?_
    refine xMv ?_
    refine oX (w_lenS rfl rfl Tryz.underlying9 rfl ?_)
    refine oX (w_gtr rfl rfl rfl rfl ?_)
    refine wKp [(0, _), (1, _), (2, _), (3, _), (6, _), (15, _), (18, _)] ⟨rfl, rfl, rfl, rfl, rfl, rfl, rfl, trivial⟩ ?_
    refine wCd rfl (fun g0b => ?_) (fun g0b => ?_)
    · try simp only [sQ1, sQ2, sQ3, sQ4, sQ5, sQ6, sQ7, sQ8, ne_eq] at g0b
      refine wSR ?_
      refine xAs ?_
      refine wKp [(0, _), (1, _), (2, _), (3, _), (6, _), (15, _), (18, _)] ⟨rfl, rfl, rfl, rfl, rfl, rfl, rfl, trivial⟩ ?_
      refine w_ret (thn_r ?_)
      exact end0 .ret (.inl rfl) [_] ⟨rfl, trivial⟩ rfl
    · try simp only [sQ1, sQ2, sQ3, sQ4, sQ5, sQ6, sQ7, sQ8, ne_eq] at g0b
      refine w_skip ?_
      refine thn_n ?_
      refine wSR ?_
      refine xAs ?_
      refine wKp [(0, _), (1, _), (2, _), (3, _), (6, _), (7, _), (15, _), (18, _)] ⟨rfl, rfl, rfl, rfl, rfl, rfl, rfl, rfl, trivial⟩ ?_
      refine wSR ?_
      refine oX (w_loadN [_, _, _, _, _] rfl rfl lk54 rfl (rowL 0 rfl rfl rfl) ?_)
      refine xMv ?_
      refine oX (w_retB rfl rfl en22 rfl (szHost_c _ _ _ _ _ _ x (by first | omega | (simp; done) | (simp; omega)) 1048576 (by first | omega | (simp; done) | (simp; omega)) (by first | omega | (simp; done) | (simp; omega)) _ hu hf hi) ?_)
      refine xAs ?_
      refine wKp [(0, _), (1, _), (2, _), (3, _), (6, _), (7, _), (15, _), (18, _)] ⟨rfl, rfl, rfl, rfl, rfl, rfl, rfl, rfl, trivial⟩ ?_
      refine w_seq ?_
      refine wSR ?_
      refine xMv ?_
      refine oX (w_lss rfl rfl rfl rfl ?_)
      refine wKp [(0, _), (1, _), (2, _), (3, _), (6, _), (7, _), (15, _), (18, _), (23, _)] ⟨rfl, rfl, rfl, rfl, rfl, rfl, rfl, rfl, rfl, trivial⟩ ?_
      refine wCd rfl (fun g1 => ?_) (fun g1 => ?_)
      · try simp only [sQ1, sQ2, sQ3, sQ4, sQ5, sQ6, sQ7, sQ8, ne_eq] at g1
        refine wSR ?_
        refine xAs ?_
        refine wKp [(0, _), (1, _), (2, _), (3, _), (6, _), (7, _), (15, _), (18, _), (23, _)] ⟨rfl, rfl, rfl, rfl, rfl, rfl, rfl, rfl, rfl, trivial⟩ ?_
        refine w_ret (thn_r ?_)
        exact end0 .ret (.inl rfl) [_] ⟨rfl, trivial⟩ rfl
      · try simp only [sQ1, sQ2, sQ3, sQ4, sQ5, sQ6, sQ7, sQ8, ne_eq] at g1
        have hsz := (szI_get (by omega) g1).2
        replace hsz : szHost x ≤ 1048576 := by omega
        have hsz2 := host_sz hsz
        replace hu := users_small hu hsz2.2.1
        replace hf := folders_small hf hsz2.2.2.1
        replace hi := items_small hi hsz2.2.2.2
        have hun := hu.len
        have hfn := hf.len
        have hin := hi.len
        refine w_skip ?_
        refine thn_n ?_
        refine wSR ?_
        refine oX (w_loadN [_, _, _, _, _] rfl rfl lk54 rfl (rowL 0 rfl rfl rfl) ?_)
        refine oX (w_call rfl rfl en24 rfl (toHost_c _ _ _ _ _ _ x _ hu hf hi (by first | assumption | omega | (simp; done) | (simp; omega))) ?_)
        rintro _ _ _ hle3 ⟨q3, c3, l3, q3b, c3b, l3b, q3c, c3c, l3c, rfl, rfl, rfl, hv3, hv3b, hv3c⟩
        refine r_pubA 1 rfl hv3 UserR.any (by first | omega | (simp; done) | (simp; omega)) (fun B4 hle4 hr4 => ?_)
        replace hu := hu.mono UserR.mono hle4
        replace hf := hf.mono FolderR.mono hle4
        replace hi := hi.mono ItemR.mono hle4
        have hr4n := hr4.len
        refine r_pubD 2 rfl hv3b FolderO.known FolderR.mono (by first | omega | (simp; done) | (simp; omega)) (fun B5 hle5 hr5 => ?_)
        replace hu := hu.mono UserR.mono hle5
        replace hf := hf.mono FolderR.mono hle5
        replace hi := hi.mono ItemR.mono hle5
        replace hr4 := hr4.mono UserR.mono hle5
        have hr5n := hr5.len
        refine r_pubD 3 rfl hv3c ItemO.known ItemR.mono (by first | omega | (simp; done) | (simp; omega)) (fun B6 hle6 hr6 => ?_)
        replace hu := hu.mono UserR.mono hle6
        replace hf := hf.mono FolderR.mono hle6
        replace hi := hi.mono ItemR.mono hle6
        replace hr4 := hr4.mono UserR.mono hle6
        replace hr5 := hr5.mono FolderR.mono hle6
        have hr6n := hr6.len
        refine xMv ?_
        refine xMv ?_
        refine oX (w_retB rfl rfl en27 rfl (specOpen_c _ _ _ _ _ _ x n p (by first | assumption | omega | (simp; done) | (simp; omega)) (by first | assumption | omega | (simp; done) | (simp; omega)) (by first | assumption | omega | (simp; done) | (simp; omega)) _ hr4 hr5 hr6) ?_)
        refine xMv ?_
        refine oX (w_extract rfl rfl rfl rfl ?_)
        refine oX (w_extract rfl rfl rfl rfl ?_)
        refine oX (w_alloc (l := [_, _, _]) rfl rfl zo60 rfl (fun b8 => ?_))
        refine oX (w_store [_, _, _] 4 [_, _, _] rfl rfl sz60 rfl rfl rfl rfl rfl rfl rfl rfl ?_)
        refine xAs ?_
        refine wTd [(0, _), (1, _), (2, _), (3, _), (6, _), (7, _), (8, _), (9, _), (15, _), (18, _), (23, _)] [_, _, _, _, _] ⟨rfl, rfl, rfl, rfl, rfl, rfl, rfl, rfl, rfl, rfl, rfl, trivial⟩ rfl ?_
        refine wSR ?_
        refine oX (w_loadN [_, _, _, _, _] rfl rfl lk54 rfl (rowL 0 rfl rfl rfl) ?_)
        refine oX (w_call rfl rfl en24 rfl (toHost_c _ _ _ _ _ _ x _ hu hf hi (by first | assumption | omega | (simp; done) | (simp; omega))) ?_)
        rintro _ _ _ hle9 ⟨q9, c9, l9, q9b, c9b, l9b, q9c, c9c, l9c, rfl, rfl, rfl, hv9, hv9b, hv9c⟩
        refine r_pubA 5 rfl hv9 UserR.any (by first | omega | (simp; done) | (simp; omega)) (fun B10 hle10 hr10 => ?_)
        replace hu := hu.mono UserR.mono hle10
        replace hf := hf.mono FolderR.mono hle10
        replace hi := hi.mono ItemR.mono hle10
        have hr10n := hr10.len
        refine r_pubD 6 rfl hv9b FolderO.known FolderR.mono (by first | omega | (simp; done) | (simp; omega)) (fun B11 hle11 hr11 => ?_)
        replace hu := hu.mono UserR.mono hle11
        replace hf := hf.mono FolderR.mono hle11
        replace hi := hi.mono ItemR.mono hle11
        replace hr10 := hr10.mono UserR.mono hle11
        have hr11n := hr11.len
        refine r_pubD 7 rfl hv9c ItemO.known ItemR.mono (by first | omega | (simp; done) | (simp; omega)) (fun B12 hle12 hr12 => ?_)
        replace hu := hu.mono UserR.mono hle12
        replace hf := hf.mono FolderR.mono hle12
        replace hi := hi.mono ItemR.mono hle12
        replace hr10 := hr10.mono UserR.mono hle12
        replace hr11 := hr11.mono FolderR.mono hle12
        have hr12n := hr12.len
        refine oX (w_alloc (l := [_, _, _, _, _]) rfl rfl zo31 rfl (fun b13 => ?_))
        refine oX (w_store [_, _, _, _, _] 8 [_, _, _, _, _] rfl rfl sz31 rfl rfl rfl rfl rfl rfl rfl rfl ?_)
        refine wTd [(0, _), (1, _), (2, _), (3, _), (6, _), (7, _), (8, _), (9, _), (10, _), (15, _), (18, _), (23, _)] [_, _, _, _, _, _, _, _, _] ⟨rfl, rfl, rfl, rfl, rfl, rfl, rfl, rfl, rfl, rfl, rfl, rfl, trivial⟩ rfl ?_
        refine wSR ?_
        refine oX (w_loadN [_, _, _, _, _] rfl rfl lk31 rfl (rowL 8 rfl rfl rfl) ?_)
        refine xMv ?_
        refine xMv ?_
        refine oX (w_callP rfl rfl en28 rfl (hostOpen_c hJ _ _ _ _ _ _ x n p (by first | assumption | omega | (simp; done) | (simp; omega)) (by first | assumption | omega | (simp; done) | (simp; omega)) (by first | assumption | omega | (simp; done) | (simp; omega)) _ hr10 hr11 hr12) ?_)
        intro v14 B14 hle14
        rintro rfl
        replace hu := hu.mono UserR.mono hle14
        replace hf := hf.mono FolderR.mono hle14
        replace hi := hi.mono ItemR.mono hle14
        replace hr10 := hr10.mono UserR.mono hle14
        replace hr11 := hr11.mono FolderR.mono hle14
        replace hr12 := hr12.mono ItemR.mono hle14
        refine xMv ?_
        refine oX (w_extract rfl rfl rfl rfl ?_)
        refine oX (w_extract rfl rfl rfl rfl ?_)
        refine oX (w_alloc (l := [_, _, _]) rfl rfl zo60 rfl (fun b15 => ?_))
        refine oX (w_store [_, _, _] 9 [_, _, _] rfl rfl sz60 rfl rfl rfl rfl rfl rfl rfl rfl ?_)
        refine xAs ?_
        refine wTd [(0, _), (1, _), (2, _), (3, _), (6, _), (7, _), (8, _), (9, _), (10, _), (11, _), (12, _), (15, _), (18, _), (23, _)] [_, _, _, _, _, _, _, _, _, _] ⟨rfl, rfl, rfl, rfl, rfl, rfl, rfl, rfl, rfl, rfl, rfl, rfl, rfl, rfl, trivial⟩ rfl ?_
        refine w_seq ?_
        refine wSR ?_
        refine oX (w_loadN [_, _, _] rfl rfl lk60 rfl (rowL 9 rfl rfl rfl) ?_)
        refine oX (w_loadN [_, _, _] rfl rfl lk60 rfl (rowL 4 rfl rfl rfl) ?_)
        refine oX (w_retB rfl rfl en29 rfl (eqSession_c ((sessOpen x n p).1) ((sessOpen x n p).1) _) ?_)
        refine oX (w_not rfl rfl rfl ?_)
        refine xMv ?_
        refine r_split (d := 45) rfl (fun g2 => by simp at g2) (fun g2 => ?_)
        try simp only [sQ1, sQ2, sQ3, sQ4, sQ5, sQ6, sQ7, sQ8, ne_eq] at g2
        refine xMv ?_
        refine xMv ?_
        refine oX (w_neqE rfl rfl rfl rfl rfl (eqBool Tryz.underlying4) ?_)
        refine oX (w_pickF rfl rfl rfl rfl ?_)
        refine wKp [(0, _), (1, _), (2, _), (3, _), (6, _), (7, _), (8, _), (9, _), (10, _), (11, _), (12, _), (15, _), (18, _), (23, _), (49, _)] ⟨rfl, rfl, rfl, rfl, rfl, rfl, rfl, rfl, rfl, rfl, rfl, rfl, rfl, rfl, rfl, trivial⟩ ?_
        refine wCd rfl (fun g4 => by simp at g4) (fun g4 => ?_)
        try simp only [sQ1, sQ2, sQ3, sQ4, sQ5, sQ6, sQ7, sQ8, ne_eq] at g4
        refine w_skip ?_
        refine thn_n ?_
        refine w_seq ?_
        refine w_seq ?_
        refine w_draw (keeps _ [0, 8] _) mo (by kernel_rfl) ⟨Kn.le.refl _, keepsL.refl _ _⟩ (fun _ _ => ?_)
        refine aTk 0 rfl (by kernel_rfl) rfl (q_ofI fun D B L hI => w_loadN [_, _, _, _, _] rfl rfl lk31 rfl (rowL 8 (hI.2.2.1.trans rfl) rfl rfl) ⟨rfl, rfl, rfl, rfl⟩) ?_
        refine aTk 1 rfl (by kernel_rfl) rfl (q_ofI fun D B L hI => w_loadN [_, _, _, _, _] rfl rfl lk54 rfl (rowL 0 (hI.2.1.trans rfl) rfl rfl) ⟨rfl, rfl, rfl, rfl⟩) ?_
        refine aOne 2 (by kernel_rfl) rfl (by kernel_rfl) (w_call rfl rfl en24 rfl (toHost_c _ _ _ _ _ _ x _ hu hf hi (by first | assumption | omega | (simp; done) | (simp; omega))) ?_)
        rintro _ _ _ hle17 ⟨q17, c17, l17, q17b, c17b, l17b, q17c, c17c, l17c, rfl, rfl, rfl, hv17, hv17b, hv17c⟩
        refine ⟨⟨Kn.le.refl _, ⟨rfl, rfl, trivial⟩⟩, ?_⟩
        refine a_pubA 10 rfl hv17 UserR.any (by first | omega | (simp; done) | (simp; omega)) (fun B' hle' => ⟨hle', ⟨rfl, rfl, trivial⟩⟩) (fun B18 hle18 hr18 => ?_)
        replace hu := hu.mono UserR.mono hle18
        replace hf := hf.mono FolderR.mono hle18
        replace hi := hi.mono ItemR.mono hle18
        replace hr10 := hr10.mono UserR.mono hle18
        replace hr11 := hr11.mono FolderR.mono hle18
        replace hr12 := hr12.mono ItemR.mono hle18
        have hr18n := hr18.len
        refine a_pubD 11 rfl hv17b FolderO.known FolderR.mono (by first | omega | (simp; done) | (simp; omega)) (fun B' hle' => ⟨hle18.trans hle', ⟨rfl, rfl, trivial⟩⟩) (fun B19 hle19 hr19 => ?_)
        replace hu := hu.mono UserR.mono hle19
        replace hf := hf.mono FolderR.mono hle19
        replace hi := hi.mono ItemR.mono hle19
        replace hr10 := hr10.mono UserR.mono hle19
        replace hr11 := hr11.mono FolderR.mono hle19
        replace hr12 := hr12.mono ItemR.mono hle19
        replace hr18 := hr18.mono UserR.mono hle19
        have hr19n := hr19.len
        refine a_pubD 12 rfl hv17c ItemO.known ItemR.mono (by first | omega | (simp; done) | (simp; omega)) (fun B' hle' => ⟨(hle18.trans hle19).trans hle', ⟨rfl, rfl, trivial⟩⟩) (fun B20 hle20 hr20 => ?_)
        replace hu := hu.mono UserR.mono hle20
        replace hf := hf.mono FolderR.mono hle20
        replace hi := hi.mono ItemR.mono hle20
        replace hr10 := hr10.mono UserR.mono hle20
        replace hr11 := hr11.mono FolderR.mono hle20
        replace hr12 := hr12.mono ItemR.mono hle20
        replace hr18 := hr18.mono UserR.mono hle20
        replace hr19 := hr19.mono FolderR.mono hle20
        have hr20n := hr20.len
        refine aOne 3 (by kernel_rfl) rfl (by kernel_rfl) (w_retB rfl rfl en25 rfl (eqHost_c _ _ _ _ _ _ _ _ _ _ _ _ x x _ hr10 hr11 hr12 hr18 hr19 hr20) ?_)
        refine ⟨⟨((hle18.trans hle19).trans hle20), ⟨rfl, rfl, trivial⟩⟩, ?_⟩
        refine aTk 4 rfl (by kernel_rfl) rfl (q_ofI fun D B L hI => w_not rfl rfl rfl ⟨rfl, rfl, rfl, rfl⟩) ?_
        refine any_done (by kernel_rfl) (by kernel_rfl) ?_
        refine thn_n ?_
        refine wTd [(0, _), (1, _), (2, _), (3, _), (6, _), (7, _), (8, _), (9, _), (10, _), (11, _), (12, _), (15, _), (18, _), (23, _), (49, _), (54, _)] [_, _, _, _, _, _, _, _, _, _, _, _, _] ⟨rfl, rfl, rfl, rfl, rfl, rfl, rfl, rfl, rfl, rfl, rfl, rfl, rfl, rfl, rfl, rfl, trivial⟩ rfl ?_
        refine wCd rfl (fun g3 => by simp at g3) (fun g3 => ?_)
        try simp only [sQ1, sQ2, sQ3, sQ4, sQ5, sQ6, sQ7, sQ8, ne_eq] at g3
        refine w_skip ?_
        refine thn_n ?_
        refine wSR ?_
        refine xAs ?_
        refine wKp [(0, _), (1, _), (2, _), (3, _), (6, _), (7, _), (8, _), (9, _), (10, _), (11, _), (12, _), (15, _), (18, _), (23, _), (49, _), (54, _)] ⟨rfl, rfl, rfl, rfl, rfl, rfl, rfl, rfl, rfl, rfl, rfl, rfl, rfl, rfl, rfl, rfl, trivial⟩ ?_
        refine w_ret ?_
        exact end0 .ret (.inl rfl) [_] ⟨rfl, trivial⟩ rfl

end Go.Proofs.YtgbecfimpgknnaaGreat
