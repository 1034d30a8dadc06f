/-
  WHAT THE FUNCTIONS THAT THE LAWS REACH COMPUTE: each function's contract, proved off its printed body (the text is written by program). No condition beyond those that each theorem states.
-/
import Derived.Test.YtgbecfimpgknnaaGreatC2
namespace Go.Proofs.YtgbecfimpgknnaaGreat
open Go Go.BL
set_option linter.unusedVariables false
set_option linter.unusedSimpArgs false
variable {J : JoinT}
set_option maxRecDepth 4000 in
set_option maxHeartbeats 400000 in
theorem sameHost_c (qa1 qb1 qc1 : Option Addr) (ca1 cb1 cc1 : Nat) (qa2 qb2 qc2 : Option Addr) (ca2 cb2 cc2 : Nat) (a b : DHost) (B : Kn) (hu1 : SlK B qa1 ca1 3 UserR a.users) (hf1 : SlK B qb1 cb1 5 FolderR a.folders) (hi1 : SlK B qc1 cc1 4 ItemR a.queue.items) (hu2 : SlK B qa2 ca2 3 UserR b.users) (hf2 : SlK B qb2 cb2 5 FolderR b.folders) (hi2 : SlK B qc2 cc2 4 ItemR b.queue.items) : RetB (pj J) 18 [.agg #[str a.domain, .slice qa1 a.users.length ca1, .slice qb1 a.folders.length cb1, .int .i64 a.queue.next, .slice qc1 a.queue.items.length cc1], .agg #[str b.domain, .slice qa2 b.users.length ca2, .slice qb2 b.folders.length cb2, .int .i64 b.queue.next, .slice qc2 b.queue.items.length cc2]] B (.bool (decide (a = b))) := by
  refine cBB 31 Tryz.func18 rfl rfl rfl (Nat.le_of_ble_eq_true rfl) ?_
  refine wSR ?_
  refine oX (w_box (l := [_, _, _, _, _]) rfl rfl rfl rfl (fun b1 => ?_))
  refine oX (w_box (l := [_, _, _, _, _]) rfl rfl rfl rfl (fun b2 => ?_))
  refine xAs ?_
  refine wTd [(0, _), (1, _), (2, _), (3, _), (4, _)] [_, _] ⟨rfl, rfl, rfl, rfl, rfl, trivial⟩ rfl ?_
  refine wSR ?_
  refine oX (wFA rfl rfl fo31x0 rfl ?_)
  refine oX (w_load1 rfl rfl lk9 rfl (atL 0 rfl rfl rfl) ?_)
  refine oX (wFA rfl rfl fo31x0 rfl ?_)
  refine oX (w_load1 rfl rfl lk9 rfl (atL 1 rfl rfl rfl) ?_)
  refine oX (w_eqlS rfl rfl rfl rfl ?_)
  refine xMv ?_
  refine r_split (d := 10) rfl (fun g1 => ?_) (fun g1 => ?_)
  · try simp only [sQ1, sQ2, sQ3, sQ4, sQ5, sQ6, sQ7, sQ8, ne_eq] at g1
    refine oX (wFA rfl rfl fo31x1 rfl ?_)
    refine oX (w_load1 rfl rfl lk23 rfl (atL 0 rfl rfl rfl) ?_)
    refine oX (wFA rfl rfl fo31x1 rfl ?_)
    refine oX (w_load1 rfl rfl lk23 rfl (atL 1 rfl rfl rfl) ?_)
    refine oX (w_retB rfl rfl en49 rfl (sameUsers_c _ _ _ _ _ _ _ hu1 hu2) ?_)
    refine oX (w_pickT rfl rfl rfl rfl ?_)
    refine xMv ?_
    refine r_split (d := 17) rfl (fun g2 => ?_) (fun g2 => ?_)
    · try simp only [sQ1, sQ2, sQ3, sQ4, sQ5, sQ6, sQ7, sQ8, ne_eq] at g2
      refine oX (wFA rfl rfl fo31x2 rfl ?_)
      refine oX (w_load1 rfl rfl lk26 rfl (atL 0 rfl rfl rfl) ?_)
      refine oX (wFA rfl rfl fo31x2 rfl ?_)
      refine oX (w_load1 rfl rfl lk26 rfl (atL 1 rfl rfl rfl) ?_)
      refine oX (w_retB rfl rfl en50 rfl (sameFolders_c _ _ _ _ _ _ _ hf1 hf2) ?_)
      refine oX (w_pickT rfl rfl rfl rfl ?_)
      refine xMv ?_
      refine r_split (d := 24) rfl (fun g3 => ?_) (fun g3 => ?_)
      · try simp only [sQ1, sQ2, sQ3, sQ4, sQ5, sQ6, sQ7, sQ8, ne_eq] at g3
        refine oX (wFA rfl rfl fo31x3 rfl ?_)
        refine oX (w_loadN [_, _] rfl rfl lk29 rfl (rowL 0 rfl rfl rfl) ?_)
        refine oX (wFA rfl rfl fo31x3 rfl ?_)
        refine oX (w_loadN [_, _] rfl rfl lk29 rfl (rowL 1 rfl rfl rfl) ?_)
        refine oX (w_retB rfl rfl en51 rfl (sameQueue_c _ _ a.queue _ _ b.queue _ hi1 hi2) ?_)
        refine oX (w_pickT rfl rfl rfl rfl ?_)
        refine xAs ?_
        refine wKp [(0, _), (1, _), (2, _), (3, _), (4, _)] ⟨rfl, rfl, rfl, rfl, rfl, trivial⟩ ?_
        refine w_ret ?_
        exact end0 .ret (.inl rfl) [_] ⟨rfl, trivial⟩ ⟨bool_eq (by cases a; cases b; simp_all), rfl, rfl⟩
      · try simp only [sQ1, sQ2, sQ3, sQ4, sQ5, sQ6, sQ7, sQ8, ne_eq] at g3
        refine oX (w_pass rfl rfl ?_)
        refine oX (w_pass rfl rfl ?_)
        refine oX (w_pass rfl rfl ?_)
        refine oX (w_pass rfl rfl ?_)
        refine oX (w_pass rfl rfl ?_)
        refine oX (w_pickF rfl rfl rfl rfl ?_)
        refine xAs ?_
        refine wKp [(0, _), (1, _), (2, _), (3, _), (4, _)] ⟨rfl, rfl, rfl, rfl, rfl, trivial⟩ ?_
        refine w_ret ?_
        exact end0 .ret (.inl rfl) [_] ⟨rfl, trivial⟩ ⟨bool_eq (by cases a; cases b; simp_all), rfl, rfl⟩
    · try simp only [sQ1, sQ2, sQ3, sQ4, sQ5, sQ6, sQ7, sQ8, ne_eq] at g2
      refine oX (w_pass rfl rfl ?_)
      refine oX (w_pass rfl rfl ?_)
      refine oX (w_pass rfl rfl ?_)
      refine oX (w_pass rfl rfl ?_)
      refine oX (w_pass rfl rfl ?_)
      refine oX (w_pickF rfl rfl rfl rfl ?_)
      refine xMv ?_
      refine oX (w_pass rfl rfl ?_)
      refine oX (w_pass rfl rfl ?_)
      refine oX (w_pass rfl rfl ?_)
      refine oX (w_pass rfl rfl ?_)
      refine oX (w_pass rfl rfl ?_)
      refine oX (w_pickF rfl rfl rfl rfl ?_)
      refine xAs ?_
      refine wKp [(0, _), (1, _), (2, _), (3, _), (4, _)] ⟨rfl, rfl, rfl, rfl, rfl, trivial⟩ ?_
      refine w_ret ?_
      exact end0 .ret (.inl rfl) [_] ⟨rfl, trivial⟩ ⟨bool_eq (by cases a; cases b; simp_all), rfl, rfl⟩
  · try simp only [sQ1, sQ2, sQ3, sQ4, sQ5, sQ6, sQ7, sQ8, ne_eq] at g1
    refine oX (w_pass rfl rfl ?_)
    refine oX (w_pass rfl rfl ?_)
    refine oX (w_pass rfl rfl ?_)
    refine oX (w_pass rfl rfl ?_)
    refine oX (w_pass rfl rfl ?_)
    refine oX (w_pickF rfl rfl rfl rfl ?_)
    refine xMv ?_
    refine oX (w_pass rfl rfl ?_)
    refine oX (w_pass rfl rfl ?_)
    refine oX (w_pass rfl rfl ?_)
    refine oX (w_pass rfl rfl ?_)
    refine oX (w_pass rfl rfl ?_)
    refine oX (w_pickF rfl rfl rfl rfl ?_)
    refine xMv ?_
    refine oX (w_pass rfl rfl ?_)
    refine oX (w_pass rfl rfl ?_)
    refine oX (w_pass rfl rfl ?_)
    refine oX (w_pass rfl rfl ?_)
    refine oX (w_pass rfl rfl ?_)
    refine oX (w_pickF rfl rfl rfl rfl ?_)
    refine xAs ?_
    refine wKp [(0, _), (1, _), (2, _), (3, _), (4, _)] ⟨rfl, rfl, rfl, rfl, rfl, trivial⟩ ?_
    refine w_ret ?_
    exact end0 .ret (.inl rfl) [_] ⟨rfl, trivial⟩ ⟨bool_eq (by cases a; cases b; simp_all), rfl, rfl⟩

set_option maxRecDepth 4000 in
set_option maxHeartbeats 400000 in
theorem l92Users_c (b : Nat) (q : Option Addr) (m cp p : Nat) (hp : p ≤ 850000000000) (hm : m ≤ 2000) (B : Kn) (hbm : BytesAt B q m) : CallsB (pj J) 45 [ptr ⟨b, 0, none⟩] B [rd b q m cp p] (fun v B' Ls => ∃ q' cp' us p', v = .slice q' us.length cp' ∧ SlK B' q' cp' 3 UserR us ∧ us.length ≤ 5 ∧ p' ≤ p + 10 ∧ Ls = [rd b q m cp p']) := by
  refine cBB 61 Tryz.func45 rfl rfl rfl (Nat.le_of_ble_eq_true rfl) ?_
  refine wSR ?_
  refine xAs ?_
  refine wKp [(0, _), (2, _)] ⟨rfl, rfl, trivial⟩ ?_
  refine wSR ?_
  refine oX (w_build (parts := [(0, _), (1, _), (2, _)]) [_, _, _] [_, _, _] rfl rfl pl44 zo44 rfl rfl rfl ?_)
  refine xMv ?_
  refine oX (w_ex1 0 rfl rfl rfl en99 rfl (pick_c _ _ _ _ _ _ (by omega) (by omega) (by omega) hm _ hbm) ?_)
  rintro _ _ ⟨ru, rfl, rua, rub, rfl⟩
  refine oX (w_add rfl rfl rfl rfl (by first | exact wrI64 (by first | omega | (simp; done) | (simp; omega)) (by first | omega | (simp; done) | (simp; omega)) | rfl) ?_)
  refine oX (w_build (parts := [(0, _), (1, _), (2, _)]) [_, _, _] [_, _, _] rfl rfl pl44 zo44 rfl rfl rfl ?_)
  refine xMv ?_
  refine oX (w_ex1 0 rfl rfl rfl en99 rfl (pick_c _ _ _ _ _ _ (by omega) (by omega) (by omega) hm _ hbm) ?_)
  rintro _ _ ⟨ro, rfl, roa, rob, rfl⟩
  refine oX (w_add rfl rfl rfl rfl (by first | exact wrI64 (by first | omega | (simp; done) | (simp; omega)) (by first | omega | (simp; done) | (simp; omega)) | rfl) ?_)
  refine oX (w_build (parts := [(0, _), (1, _), (2, _)]) [_, _, _] [_, _, _] rfl rfl pl44 zo44 rfl rfl rfl ?_)
  refine oX (wBS (parts := [(0, _), (1, _), (2, _)]) [_, _, _, _, _, _, _, _, _] rfl rfl Tryz.underlying23 sz44 zo44 rfl rfl rfl rfl rfl (fun b3 => ?_))
  refine xAs ?_
  refine wTd [(0, _), (2, _), (3, _)] [_, _] ⟨rfl, rfl, rfl, trivial⟩ rfl ?_
  obtain ⟨us0, hn0, hv0⟩ : ∃ us0 : List DUser, us0.length = 3 ∧ VecR B (box1 b3 [str [97, 109, 121], str [97, 49], int 60, str [98, 111, 98], str [98, 50], int (20 + ru), str [99, 121, 100], str [99, 51], int (100 + ro)] 44) (some ⟨b3, 0, none⟩) 3 44 3 UserR us0 := ⟨[⟨[97, 109, 121], [97, 49], 60⟩, ⟨[98, 111, 98], [98, 50], 20 + ru⟩, ⟨[99, 121, 100], [99, 51], 100 + ro⟩], rfl, VecR.lit (rows := [[str [97, 109, 121], str [97, 49], int 60], [str [98, 111, 98], str [98, 50], int (20 + ru)], [str [99, 121, 100], str [99, 51], int (100 + ro)]]) (.cons ⟨rfl, by simp, by simp⟩ (.cons ⟨rfl, by simp, by simp⟩ (.cons ⟨rfl, by simp, by simp⟩ .nil))) (by intro row hr; simp only [List.mem_cons, List.not_mem_nil, or_false] at hr; rcases hr with rfl | rfl | rfl <;> rfl)⟩
  refine wSR ?_
  refine xMv ?_
  refine xMv ?_
  refine oX (w_ex1 0 rfl rfl rfl en99 rfl (pick_c _ _ _ _ _ _ (by omega) (by omega) (by omega) hm _ hbm) ?_)
  rintro _ _ ⟨ry, rfl, rya, ryb, rfl⟩
  refine oX (w_add rfl rfl rfl rfl (by first | exact wrI64 (by first | omega | (simp; done) | (simp; omega)) (by first | omega | (simp; done) | (simp; omega)) | rfl) ?_)
  refine oX (w_sliceV rfl rfl Tryz.underlying23 sz44 rfl (a := 0) (b := (1 + ry).toNat) rfl ⟨_, _, rfl, by omega⟩ (by omega) (by omega) ?_)
  refine xAs ?_
  refine wTd [(0, _), (2, _), (3, _)] [_, _] ⟨rfl, rfl, rfl, trivial⟩ rfl ?_
  obtain ⟨us1, hn1, hv1⟩ : ∃ us1 : List DUser, us1.length = (1 + ry).toNat ∧ VecR B _ _ 3 44 3 UserR us1 := ⟨us0.take (1 + ry).toNat, by rw [List.length_take]; omega, hv0.take (by omega)⟩
  rw [hv0.slice0 (sz := 3), show (1 + ry).toNat - 0 = us1.length from by omega]
  refine wSR ?_
  refine xMv ?_
  refine xMv ?_
  refine oX (w_lenV rfl rfl Tryz.underlying23 rfl ?_)
  refine oX (w_ex1 0 rfl rfl rfl en99 rfl (pick_c _ _ _ _ _ _ (by omega) (by omega) (by omega) hm _ hbm) ?_)
  rintro _ _ ⟨rk, rfl, rka, rkb, rfl⟩
  refine xAs ?_
  refine wTd [(0, _), (2, _), (3, _), (4, _)] [_, _] ⟨rfl, rfl, rfl, rfl, trivial⟩ rfl ?_
  refine w_midF (α := Gh DUser) [0, 2, 4] (fun g => [(3, .slice g.a g.xs.length g.c)]) (fun g => [rd b q m cp g.p, g.l]) (fun g Bx => g.p ≤ p + 10 ∧ g.xs.length ≤ 5 ∧ VecR Bx g.l g.a g.c 44 3 UserR g.xs) ?_ (fun g B6 hle6 hF => ?_)
  · skip
    refine wSR ?_
    refine xMv ?_
    refine oX (w_ex1 0 rfl rfl rfl en99 rfl (pick_c _ _ _ _ _ _ (by omega) (by omega) (by omega) hm _ hbm) ?_)
    rintro _ _ ⟨rj, rfl, rja, rjb, rfl⟩
    refine wTd [(0, _), (2, _), (3, _), (4, _), (25, _)] [_, _] ⟨rfl, rfl, rfl, rfl, rfl, trivial⟩ rfl ?_
    refine w_block ?_
    refine wSR ?_
    refine oX (w_eqlI rfl rfl rfl rfl ?_)
    refine xAs ?_
    refine wKp [(0, _), (2, _), (3, _), (4, _), (25, _), (26, _)] ⟨rfl, rfl, rfl, rfl, rfl, rfl, trivial⟩ ?_
    refine wCd rfl (fun g1 => ?_) (fun g1 => ?_)
    · try simp only [sQ1, sQ2, sQ3, sQ4, sQ5, sQ6, sQ7, sQ8, ne_eq] at g1
      refine w_region ?_
      refine xMv ?_
      refine xMv ?_
      refine xMv ?_
      refine oX (w_ex1 0 rfl rfl rfl en101 rfl (l91Name_c _ _ _ _ _ (by omega) hm _ hbm) ?_)
      rintro _ _ ⟨xs, rfl, hxs, rfl⟩
      obtain ⟨z, hz⟩ := getI (xs := us1) (i := rk) (by first | omega | (simp; done) | (simp; omega)) (by first | omega | (simp; done) | (simp; omega))
      obtain ⟨bb10, _, hp10, ⟨rfl, hb10, hb10b⟩, hw10, hc10⟩ := hv1.row hz
      refine oX (w_ixP hp10 rfl rfl Tryz.underlying23 sz44 rfl rfl (by first | omega | (simp; done) | (simp; omega)) (by first | omega | (simp; done) | (simp; omega)) ?_)
      refine oX (wFA rfl rfl fo44x0 rfl ?_)
      refine oX (w_stO (k := (rk).toNat) (off := 0) (⟨xs, z.pass, z.quota⟩) [_] 1 hv1 hp10 hz rfl rfl sz9 rfl rfl rfl rfl rfl rfl (by rintro _ ⟨rfl, e1, e2⟩; exact ⟨rfl, show xs.length ≤ 2000000 by omega, e2⟩) (fun l11 hv11 => ?_))
      refine inB_n ?_
      obtain ⟨us12, hn12, hv12⟩ : ∃ us12 : List DUser, us12.length = us1.length ∧ VecR B l11 _ _ 44 3 UserR us12 := ⟨_, by rw [List.length_set], hv11⟩
      rw [← hn12]
      exact mid_leaf ⟨0, ((((((p + 1) + 1) + 1) + 1) + 1) + 2), l11, (some ⟨b3, 0, none⟩), 3, us12⟩ [0, 1] ⟨by simp only []; omega, by first | (simp only []; omega) | (simp; omega), hv12⟩ ⟨rfl, rfl, rfl, rfl, trivial⟩ rfl
    · try simp only [sQ1, sQ2, sQ3, sQ4, sQ5, sQ6, sQ7, sQ8, ne_eq] at g1
      refine wSR ?_
      refine oX (w_eqlI rfl rfl rfl rfl ?_)
      refine xAs ?_
      refine wKp [(0, _), (2, _), (3, _), (4, _), (25, _), (26, _), (34, _)] ⟨rfl, rfl, rfl, rfl, rfl, rfl, rfl, trivial⟩ ?_
      refine wCd rfl (fun g2 => ?_) (fun g2 => ?_)
      · try simp only [sQ1, sQ2, sQ3, sQ4, sQ5, sQ6, sQ7, sQ8, ne_eq] at g2
        refine w_region ?_
        refine xMv ?_
        refine xMv ?_
        refine xMv ?_
        refine oX (w_ex1 0 rfl rfl rfl en101 rfl (l91Name_c _ _ _ _ _ (by omega) hm _ hbm) ?_)
        rintro _ _ ⟨xs, rfl, hxs, rfl⟩
        obtain ⟨z, hz⟩ := getI (xs := us1) (i := rk) (by first | omega | (simp; done) | (simp; omega)) (by first | omega | (simp; done) | (simp; omega))
        obtain ⟨bb15, _, hp15, ⟨rfl, hb15, hb15b⟩, hw15, hc15⟩ := hv1.row hz
        refine oX (w_ixP hp15 rfl rfl Tryz.underlying23 sz44 rfl rfl (by first | omega | (simp; done) | (simp; omega)) (by first | omega | (simp; done) | (simp; omega)) ?_)
        refine oX (wFA rfl rfl fo44x1 rfl ?_)
        refine oX (w_stO (k := (rk).toNat) (off := 1) (⟨z.name, xs, z.quota⟩) [_] 1 hv1 hp15 hz rfl rfl sz9 rfl rfl rfl rfl rfl rfl (by rintro _ ⟨rfl, e1, e2⟩; exact ⟨rfl, e1, show xs.length ≤ 2000000 by omega⟩) (fun l16 hv16 => ?_))
        refine inB_n ?_
        obtain ⟨us17, hn17, hv17⟩ : ∃ us17 : List DUser, us17.length = us1.length ∧ VecR B l16 _ _ 44 3 UserR us17 := ⟨_, by rw [List.length_set], hv16⟩
        rw [← hn17]
        exact mid_leaf ⟨0, ((((((p + 1) + 1) + 1) + 1) + 1) + 2), l16, (some ⟨b3, 0, none⟩), 3, us17⟩ [0, 1] ⟨by simp only []; omega, by first | (simp only []; omega) | (simp; omega), hv17⟩ ⟨rfl, rfl, rfl, rfl, trivial⟩ rfl
      · try simp only [sQ1, sQ2, sQ3, sQ4, sQ5, sQ6, sQ7, sQ8, ne_eq] at g2
        refine wSR ?_
        refine oX (w_eqlI rfl rfl rfl rfl ?_)
        refine xAs ?_
        refine wKp [(0, _), (2, _), (3, _), (4, _), (25, _), (26, _), (34, _), (42, _)] ⟨rfl, rfl, rfl, rfl, rfl, rfl, rfl, rfl, trivial⟩ ?_
        refine wCd rfl (fun g3 => ?_) (fun g3 => ?_)
        · try simp only [sQ1, sQ2, sQ3, sQ4, sQ5, sQ6, sQ7, sQ8, ne_eq] at g3
          refine w_region ?_
          refine xMv ?_
          refine xMv ?_
          refine oX (wBS (parts := [(0, _), (1, _), (2, _), (3, _)]) [_, _, _, _] rfl rfl Tryz.underlying126 sz3 zo3 rfl rfl rfl rfl rfl (fun b18 => ?_))
          refine r_pubK 2 rfl (VecR.ints (ls := ([(-1), 0, 200, 201] : List Int))) IntR.mono (by first | omega | decide | (simp; done) | (simp; omega)) (fun B19 hle19 hr19 => ?_)
          replace hv1 := hv1.mono UserR.mono hle19
          replace hbm := hbm.mono hle19
          have hr19n := hr19.len
          refine xMv ?_
          refine oX (w_ex1 0 rfl rfl rfl en99 rfl (pick_c _ _ _ _ _ _ (by omega) (by omega) (by omega) hm _ hbm) ?_)
          rintro _ _ ⟨rs, rfl, rsa, rsb, rfl⟩
          obtain ⟨e, he⟩ := getI (xs := ([(-1), 0, 200, 201] : List Int)) (i := rs) (by first | omega | (simp; done) | (simp; omega)) (by first | omega | (simp; done) | (simp; omega))
          obtain ⟨_, rfl, hc22⟩ := hr19.elem he
          refine oX (w_ixB rfl rfl Tryz.underlying126 sz3 rfl rfl (by first | omega | (simp; done) | (simp; omega)) (by first | omega | (simp; done) | (simp; omega)) ?_)
          refine oX (w_load1 rfl rfl lk3 rfl (hc22 _ 0 _ rfl) ?_)
          obtain ⟨z, hz⟩ := getI (xs := us1) (i := rk) (by first | omega | (simp; done) | (simp; omega)) (by first | omega | (simp; done) | (simp; omega))
          obtain ⟨bb24, _, hp24, ⟨rfl, hb24, hb24b⟩, hw24, hc24⟩ := hv1.row hz
          refine oX (w_ixP hp24 rfl rfl Tryz.underlying23 sz44 rfl rfl (by first | omega | (simp; done) | (simp; omega)) (by first | omega | (simp; done) | (simp; omega)) ?_)
          refine oX (wFA rfl rfl fo44x2 rfl ?_)
          refine oX (w_stO (k := (rk).toNat) (off := 2) (⟨z.name, z.pass, e⟩) [_] 1 hv1 hp24 hz rfl rfl sz3 rfl rfl rfl rfl rfl rfl (by rintro _ ⟨rfl, e1, e2⟩; exact ⟨rfl, e1, e2⟩) (fun l25 hv25 => ?_))
          refine inB_n ?_
          obtain ⟨us26, hn26, hv26⟩ : ∃ us26 : List DUser, us26.length = us1.length ∧ VecR B19 l25 _ _ 44 3 UserR us26 := ⟨_, by rw [List.length_set], hv25⟩
          rw [← hn26]
          exact mid_leaf ⟨0, ((((((p + 1) + 1) + 1) + 1) + 1) + 1), l25, (some ⟨b3, 0, none⟩), 3, us26⟩ [0, 1] ⟨by simp only []; omega, by first | (simp only []; omega) | (simp; omega), hv26⟩ ⟨rfl, rfl, rfl, rfl, trivial⟩ rfl
        · try simp only [sQ1, sQ2, sQ3, sQ4, sQ5, sQ6, sQ7, sQ8, ne_eq] at g3
          refine wSR ?_
          refine oX (w_eqlI rfl rfl rfl rfl ?_)
          refine xAs ?_
          refine wKp [(0, _), (2, _), (3, _), (4, _), (25, _), (26, _), (34, _), (42, _), (53, _)] ⟨rfl, rfl, rfl, rfl, rfl, rfl, rfl, rfl, rfl, trivial⟩ ?_
          refine wCd rfl (fun g4 => ?_) (fun g4 => ?_)
          · try simp only [sQ1, sQ2, sQ3, sQ4, sQ5, sQ6, sQ7, sQ8, ne_eq] at g4
            refine w_region ?_
            refine xMv ?_
            refine oX (w_build (parts := [(0, _), (1, _), (2, _)]) [_, _, _] [_, _, _] rfl rfl pl44 zo44 rfl rfl rfl ?_)
            refine oX (w_build (parts := [(0, _), (1, _), (2, _)]) [_, _, _] [_, _, _] rfl rfl pl44 zo44 rfl rfl rfl ?_)
            refine oX (wBS (parts := [(0, _), (1, _)]) [_, _, _, _, _, _] rfl rfl Tryz.underlying23 sz44 zo44 rfl rfl rfl rfl rfl (fun b27 => ?_))
            refine oX (w_appN (rows := [[str [100, 97, 110], str [100, 52], .int .i64 9], [str [101, 118, 101], str [101, 53], .int .i64 9]]) (ys := [⟨[100, 97, 110], [100, 52], 9⟩, ⟨[101, 118, 101], [101, 53], 9⟩]) (R := UserR) 1 rfl hv1 rfl rfl rfl eo23 su23 rfl rfl rfl (SrcAt.box 2 rfl) rfl (by intro row hr; simp only [List.mem_cons, List.not_mem_nil, or_false] at hr; rcases hr with rfl | rfl <;> rfl) (.cons (⟨rfl, by first | assumption | omega | (simp; done) | (simp; omega), by first | assumption | omega | (simp; done) | (simp; omega)⟩) (.cons (⟨rfl, by first | assumption | omega | (simp; done) | (simp; done) | (simp; omega), by first | assumption | omega | (simp; done) | (simp; done) | (simp; omega)⟩) .nil)) (by first | omega | (simp; done) | (simp; omega)) (fun l28 p28 c28 hv28 => ?_))
            refine xAs ?_
            refine inB_n ?_
            exact mid_leaf ⟨0, (((((p + 1) + 1) + 1) + 1) + 1), l28, p28, c28, (us1 ++ [⟨[100, 97, 110], [100, 52], 9⟩, ⟨[101, 118, 101], [101, 53], 9⟩])⟩ [0, 1] ⟨by simp only []; omega, by first | (simp only []; omega) | (simp; omega), hv28⟩ ⟨rfl, rfl, rfl, rfl, trivial⟩ rfl
          · try simp only [sQ1, sQ2, sQ3, sQ4, sQ5, sQ6, sQ7, sQ8, ne_eq] at g4
            refine w_skip ?_
            refine inB_n ?_
            exact mid_leaf ⟨0, (((((p + 1) + 1) + 1) + 1) + 1), _, (some ⟨b3, 0, none⟩), 3, us1⟩ [0, 1] ⟨by simp only []; omega, by first | (simp only []; omega) | (simp; omega), hv1⟩ ⟨rfl, rfl, rfl, rfl, trivial⟩ rfl
  · skip
    obtain ⟨hgp, hgn, hw⟩ := hF
    replace hbm := hbm.mono hle6
    refine wTd [(0, _), (2, _), (3, _), (4, _)] [_, _] ⟨rfl, rfl, rfl, rfl, trivial⟩ rfl ?_
    refine w_pubK 1 rfl hw UserR.mono (by first | omega | decide | (simp; done) | (simp; omega)) (fun B29 hle29 hr29 => ?_)
    replace hbm := hbm.mono hle29
    have hr29n := hr29.len
    refine wSR ?_
    refine xMv ?_
    refine xAs ?_
    refine wTd [(0, _), (2, _), (3, _), (4, _)] [_, _] ⟨rfl, rfl, rfl, rfl, trivial⟩ rfl ?_
    refine w_ret ?_
    exact endN .ret (.inl rfl) [_] [0] rfl ⟨rfl, trivial⟩ ⟨_, _, _, _, rfl, hr29, by omega, by omega, rfl⟩

set_option maxRecDepth 4000 in
set_option maxHeartbeats 400000 in
theorem drawHN_c (q : Option Addr) (m cp : Nat) (hmc : m ≤ cp) (B : Kn) (hb : BytesAt B q m) : CallsB (pj J) 15 [.slice q m cp] B [] (fun v B' Ls => Ls = [] ∧ ∃ (d : Str) (aq : Option Addr) (cq : Nat) (us : List DUser), v = .tuple #[str d, .slice aq us.length cq] ∧ SlK B' aq cq 3 UserR us ∧ us.length ≤ 5 ∧ d.length ≤ 40) := by
  refine cBB 13 Tryz.func15 rfl rfl rfl (Nat.le_of_ble_eq_true rfl) ?_
  refine wSR ?_
  refine xAs ?_
  refine xAs ?_
  refine wKp [(0, _), (2, _), (3, _)] ⟨rfl, rfl, rfl, trivial⟩ ?_
  refine wSR ?_
  refine xMv ?_
  refine oX (w_new1 rfl rfl en43 rfl (l6Open_c _ _ _ (by omega) _ (by assumption)) ?_)
  rintro _ _ ⟨bu, qu, mu, cpu, rfl, rfl, hm, hbm⟩
  refine xAs ?_
  refine wTd [(0, _), (2, _), (3, _), (4, _)] [_] ⟨rfl, rfl, rfl, rfl, trivial⟩ rfl ?_
  refine wSR ?_
  refine xMv ?_
  refine oX (w_ex1 0 rfl rfl rfl en44 rfl (l91Domain_c _ _ _ _ _ (by omega) hm _ hbm) ?_)
  rintro _ _ ⟨xv, rfl, hxv, rfl⟩
  refine xAs ?_
  refine wTd [(0, _), (2, _), (3, _), (4, _), (5, _)] [_] ⟨rfl, rfl, rfl, rfl, rfl, trivial⟩ rfl ?_
  refine wSR ?_
  refine xMv ?_
  refine xMv ?_
  refine oX (w_callN [0] rfl rfl rfl rfl en45 rfl (l92Users_c _ _ _ _ _ (by omega) hm _ hbm) ?_)
  rintro _ Bw _ hlew ⟨qw, cpw, usw, pw, rfl, huw, hunw, hpw, rfl⟩
  replace hbm := hbm.mono hlew
  have huwn := huw.len
  refine xAs ?_
  refine xAs ?_
  refine wTd [(0, _), (2, _), (3, _), (4, _), (5, _)] [_] ⟨rfl, rfl, rfl, rfl, rfl, trivial⟩ rfl ?_
  refine w_ret ?_
  exact endN .ret (.inl rfl) [_, _] [] rfl ⟨rfl, rfl, trivial⟩ ⟨rfl, _, _, _, _, rfl, huw, hunw, hxv⟩

set_option maxRecDepth 4000 in
set_option maxHeartbeats 400000 in
theorem boxClone_c (q : Option Addr) (cp : Nat) (x : DBox) (B : Kn) (hm : SlK B q cp 3 MailR x.mail) : CallsB (pj J) 108 [.agg #[.int .i64 x.next, .slice q x.mail.length cp]] B [] (fun v B' Ls => B' = B ∧ ∃ l a c, Ls = [l] ∧ v = .agg #[.int .i64 x.next, .slice a x.mail.length c] ∧ VecR B l a c 116 3 MailR x.mail) := by
  refine cBB 10 Tryz.func108 rfl rfl rfl (Nat.le_of_ble_eq_true rfl) ?_
  have hxn := hm.len
  refine wSR ?_
  refine oX (w_box (l := [_, _]) rfl rfl rfl rfl (fun b1 => ?_))
  refine oX (w_alloc (l := [_, _]) rfl rfl zo38 rfl (fun b2 => ?_))
  refine wTd [(0, _), (1, _), (2, _)] [_, _] ⟨rfl, rfl, rfl, trivial⟩ rfl ?_
  refine w_seq ?_
  refine w_draw (keeps _ [0] _) mo (by kernel_rfl) ⟨Kn.le.refl _, keepsL.refl _ _⟩ (fun _ _ => ?_)
  refine aTk 0 rfl (by kernel_rfl) rfl (q_ofI fun D B L hI => wFA rfl rfl fo38x0 rfl ⟨rfl, rfl, rfl, rfl⟩) ?_
  refine aTk 1 rfl (by kernel_rfl) rfl (q_ofI fun D B L hI => w_load1 rfl rfl lk3 rfl (atL 0 (hI.2.1.trans rfl) rfl rfl) ⟨rfl, rfl, rfl, rfl⟩) ?_
  refine aTk 3 rfl (by kernel_rfl) rfl (q_ofI fun D B L hI => wFA rfl rfl fo38x1 rfl ⟨rfl, rfl, rfl, rfl⟩) ?_
  refine aTk 4 rfl (by kernel_rfl) rfl (q_ofI fun D B L hI => w_load1 rfl rfl lk36 rfl (atL 0 (hI.2.1.trans rfl) rfl rfl) ⟨rfl, rfl, rfl, rfl⟩) ?_
  refine aOne 2 (by kernel_rfl) rfl (by kernel_rfl) (wBS (parts := []) [] rfl rfl Tryz.underlying36 sz116 zo116 rfl rfl rfl rfl rfl (fun b3 => ?_))
  refine ⟨⟨Kn.le.refl _, ⟨rfl, trivial⟩⟩, ?_⟩
  refine aOne 5 (by kernel_rfl) rfl (by kernel_rfl) (w_appR (R := MailR) 2 rfl (VecR.lit0 (R := MailR)) rfl rfl rfl eo36 su36 rfl rfl rfl hm.rows MailR.one rfl (by first | omega | (simp; done) | (simp; omega)) (fun l4 p4 c4 hv4 => ?_))
  refine ⟨⟨Kn.le.refl _, ⟨rfl, trivial⟩⟩, ?_⟩
  refine aTk 6 rfl (by kernel_rfl) rfl (q_ofI fun D B L hI => w_build (parts := [(0, _), (1, _)]) [_, _] [_, _] rfl rfl pl38 zo38 rfl rfl rfl ⟨rfl, rfl, rfl, rfl⟩) ?_
  refine any_fin 7 (by kernel_rfl) rfl (by kernel_rfl) (by kernel_rfl) (by kernel_rfl) (w_store [_, _] 1 [_, _] rfl rfl sz38 rfl rfl rfl rfl rfl rfl rfl rfl ?_)
  refine thn_n ?_
  refine wTd [(0, _), (1, _), (2, _)] [_, _, _] ⟨rfl, rfl, rfl, trivial⟩ rfl ?_
  refine w_ret ?_
  exact endN .ret (.inl rfl) [_] [2] rfl ⟨⟨_, rfl, .inr ⟨[_, _], lk38, rowL 1 rfl rfl rfl, rfl⟩⟩, trivial⟩ ⟨rfl, _, _, _, rfl, rfl, hv4⟩

set_option maxRecDepth 4000 in
set_option maxHeartbeats 400000 in
theorem folderClone_c (qa qb : Option Addr) (ca cb : Nat) (x : DFolder) (B : Kn) (hg : SlK B qa ca 2 GrantR x.grants) (hm : SlK B qb cb 3 MailR x.mail) : CallsB (pj J) 53 [.agg #[str x.owner, str x.name, .slice qa x.grants.length ca, .int .i64 x.next, .slice qb x.mail.length cb]] B [] (fun v B' Ls => B' = B ∧ ∃ l a c l' a' c', Ls = [l, l'] ∧ v = .agg #[str x.owner, str x.name, .slice a x.grants.length c, .int .i64 x.next, .slice a' x.mail.length c'] ∧ VecR B l a c 174 2 GrantR x.grants ∧ VecR B l' a' c' 116 3 MailR x.mail) := by
  refine cBB 13 Tryz.func53 rfl rfl rfl (Nat.le_of_ble_eq_true rfl) ?_
  have hgn := hg.len
  have hmn := hm.len
  refine wSR ?_
  refine oX (w_box (l := [_, _, _, _, _]) rfl rfl rfl rfl (fun b1 => ?_))
  refine oX (w_alloc (l := [_, _, _, _, _]) rfl rfl zo40 rfl (fun b2 => ?_))
  refine wTd [(0, _), (1, _), (2, _)] [_, _] ⟨rfl, rfl, rfl, trivial⟩ rfl ?_
  refine wSR ?_
  refine oX (wBS (parts := []) [] rfl rfl Tryz.underlying35 sz174 zo174 rfl rfl rfl rfl rfl (fun b3 => ?_))
  refine oX (wFA rfl rfl fo40x2 rfl ?_)
  refine oX (w_load1 rfl rfl lk35 rfl (atL 0 rfl rfl rfl) ?_)
  refine oX (w_appR (R := GrantR) 2 rfl (VecR.lit0 (R := GrantR)) rfl rfl rfl eo35 su35 rfl rfl rfl hg.rows GrantR.one rfl (by first | omega | (simp; done) | (simp; omega)) (fun l4 p4 c4 hv4 => ?_))
  refine oX (wFA rfl rfl fo40x2 rfl ?_)
  refine oX (w_store [_] 0 [_, _, _, _, _] rfl rfl sz35 rfl rfl rfl rfl rfl rfl rfl rfl ?_)
  refine wTd [(0, _), (1, _), (2, _)] [_, _, _] ⟨rfl, rfl, rfl, trivial⟩ rfl ?_
  refine wSR ?_
  refine oX (wFA rfl rfl fo40x3 rfl ?_)
  refine oX (w_loadN [_, _] rfl rfl lk38 rfl (rowL 0 rfl rfl rfl) ?_)
  refine oX (w_call rfl rfl en108 rfl (boxClone_c _ _ (⟨x.next, x.mail⟩ : DBox) _ hm) ?_)
  rintro _ _ _ hle5 ⟨rfl, l5, a5, c5, rfl, rfl, hs5⟩
  refine oX (wFA rfl rfl fo40x3 rfl ?_)
  refine oX (w_store [_, _] 0 [_, _, _, _, _] rfl rfl sz38 rfl rfl rfl rfl rfl rfl rfl rfl ?_)
  refine wTd [(0, _), (1, _), (2, _)] [_, _, _, _] ⟨rfl, rfl, rfl, trivial⟩ rfl ?_
  refine wSR ?_
  refine oX (w_loadN [_, _, _, _, _] rfl rfl lk40 rfl (rowL 0 rfl rfl rfl) ?_)
  refine oX (w_store [_, _, _, _, _] 1 [_, _, _, _, _] rfl rfl sz40 rfl rfl rfl rfl rfl rfl rfl rfl ?_)
  refine wTd [(0, _), (1, _), (2, _)] [_, _, _, _] ⟨rfl, rfl, rfl, trivial⟩ rfl ?_
  refine w_ret ?_
  exact endN .ret (.inl rfl) [_] [2, 3] rfl ⟨⟨_, rfl, .inr ⟨[_, _, _, _, _], lk40, rowL 1 rfl rfl rfl, rfl⟩⟩, trivial⟩ ⟨rfl, _, _, _, _, _, _, rfl, rfl, hv4, hs5⟩

set_option maxRecDepth 4000 in
set_option maxHeartbeats 400000 in
theorem hostFolder_c (hJ : Joins Tryz.prog J) (q1 q2 q3 : Option Addr) (c1 c2 c3 : Nat) (x : DHost) (o n : Str) (ho : o.length ≤ 2000000) (hn : n.length ≤ 2000000) (hd : x.domain.length ≤ 2000000) (B : Kn) (hu : SlK B q1 c1 3 UserR x.users) (hf : SlK B q2 c2 5 FolderR x.folders) (hi : SlK B q3 c3 4 ItemR x.queue.items) : CallsB (pj J) 19 [.agg #[str x.domain, .slice q1 x.users.length c1, .slice q2 x.folders.length c2, .int .i64 x.queue.next, .slice q3 x.queue.items.length c3], str o, str n] B [] (fun v B' Ls => Ls = [] ∧ ∃ qa ca qb cb, v = .tuple #[.agg #[str (hostFolder x o n).1.owner, str (hostFolder x o n).1.name, .slice qa (hostFolder x o n).1.grants.length ca, .int .i64 (hostFolder x o n).1.next, .slice qb (hostFolder x o n).1.mail.length cb], .bool (hostFolder x o n).2] ∧ SlK B' qa ca 2 GrantR (hostFolder x o n).1.grants ∧ SlK B' qb cb 3 MailR (hostFolder x o n).1.mail) := by
  refine cBB 25 Tryz.func19 rfl rfl rfl (Nat.le_of_ble_eq_true rfl) ?_
  have hfn := hf.len
  have hix := idxP_lt (inF o n) x.folders
  refine wSR ?_
  refine oX (w_box (l := [_, _, _, _, _]) rfl rfl rfl rfl (fun b1 => ?_))
  refine oX (w_alloc (l := [_, _, _, _, _]) rfl rfl zo40 rfl (fun b2 => ?_))
  refine xAs ?_
  refine wTd [(0, _), (1, _), (2, _), (3, _), (6, _), (7, _)] [_, _] ⟨rfl, rfl, rfl, rfl, rfl, rfl, trivial⟩ rfl ?_
  refine w_pub 0 rfl (fun B3 hle3 hpm3 => ?_)
  have hc3 := rowAt_box hpm3
  replace hu := hu.mono UserR.mono hle3
  replace hf := hf.mono FolderR.mono hle3
  replace hi := hi.mono ItemR.mono hle3
  refine w_seq ?_
  refine wSR ?_
  refine oX (w_loadN [_, _, _, _, _] rfl rfl lk31 rfl (rowK hc3 0 rfl rfl) ?_)
  refine oX (w_callP rfl rfl en21 rfl (hostValid_c hJ _ _ _ _ _ _ x (by first | assumption | omega | (simp; done) | (simp; omega)) _ hu hf hi) ?_)
  intro v4 B4 hle4
  rintro rfl
  replace hu := hu.mono UserR.mono hle4
  replace hf := hf.mono FolderR.mono hle4
  replace hi := hi.mono ItemR.mono hle4
  replace hc3 := hc3.mono hle4
  refine oX (w_not rfl rfl rfl ?_)
  refine wTd [(0, _), (1, _), (2, _), (3, _), (6, _), (7, _), (11, _)] [_, _] ⟨rfl, rfl, rfl, rfl, rfl, rfl, rfl, trivial⟩ rfl ?_
  refine wCd rfl (fun g1 => ?_) (fun g1 => ?_)
  · try simp only [sQ1, sQ2, sQ3, sQ4, sQ5, sQ6, sQ7, sQ8, ne_eq] at g1
    rw [hostFolder_bad (x := x) (o := o) (n := n) (by simpa using g1)]
    refine wSR ?_
    refine oX (w_build (parts := []) [_, _, _, _, _] [_, _, _, _, _] rfl rfl pl40 zo40 rfl rfl rfl ?_)
    refine oX (w_store [_, _, _, _, _] 1 [_, _, _, _, _] rfl rfl sz40 rfl rfl rfl rfl rfl rfl rfl rfl ?_)
    refine xAs ?_
    refine wTd [(0, _), (1, _), (2, _), (3, _), (6, _), (7, _), (11, _)] [_, _] ⟨rfl, rfl, rfl, rfl, rfl, rfl, rfl, trivial⟩ rfl ?_
    refine w_ret (thn_r ?_)
    exact endN .ret (.inl rfl) [_, _] [] rfl ⟨⟨_, rfl, .inr ⟨[_, _, _, _, _], lk40, rowL 1 rfl rfl rfl, rfl⟩⟩, rfl, trivial⟩ ⟨rfl, none, 0, none, 0, rfl, SlK.nil, SlK.nil⟩
  · try simp only [sQ1, sQ2, sQ3, sQ4, sQ5, sQ6, sQ7, sQ8, ne_eq] at g1
    refine w_skip ?_
    refine thn_n ?_
    refine wSR ?_
    refine xMv ?_
    refine xMv ?_
    refine oX (w_retB rfl rfl en52 rfl (find_c _ _ _ _ _ _ _ _ x o n (by first | assumption | omega | (simp; done) | (simp; omega)) (by first | assumption | omega | (simp; done) | (simp; omega)) _ hc3 hf) ?_)
    refine xAs ?_
    refine wKp [(0, _), (1, _), (2, _), (3, _), (6, _), (7, _), (8, _), (11, _)] ⟨rfl, rfl, rfl, rfl, rfl, rfl, rfl, rfl, trivial⟩ ?_
    refine w_seq ?_
    refine wSR ?_
    refine xMv ?_
    refine oX (w_lss rfl rfl rfl rfl ?_)
    refine wKp [(0, _), (1, _), (2, _), (3, _), (6, _), (7, _), (8, _), (11, _), (17, _)] ⟨rfl, rfl, rfl, rfl, rfl, rfl, rfl, rfl, rfl, trivial⟩ ?_
    refine wCd rfl (fun g2 => ?_) (fun g2 => ?_)
    · try simp only [sQ1, sQ2, sQ3, sQ4, sQ5, sQ6, sQ7, sQ8, ne_eq] at g2
      rw [hostFolder_none (x := x) (o := o) (n := n) (by omega)]
      refine wSR ?_
      refine oX (w_build (parts := []) [_, _, _, _, _] [_, _, _, _, _] rfl rfl pl40 zo40 rfl rfl rfl ?_)
      refine oX (w_store [_, _, _, _, _] 1 [_, _, _, _, _] rfl rfl sz40 rfl rfl rfl rfl rfl rfl rfl rfl ?_)
      refine xAs ?_
      refine wTd [(0, _), (1, _), (2, _), (3, _), (6, _), (7, _), (8, _), (11, _), (17, _)] [_, _] ⟨rfl, rfl, rfl, rfl, rfl, rfl, rfl, rfl, rfl, trivial⟩ rfl ?_
      refine w_ret (thn_r ?_)
      exact endN .ret (.inl rfl) [_, _] [] rfl ⟨⟨_, rfl, .inr ⟨[_, _, _, _, _], lk40, rowL 1 rfl rfl rfl, rfl⟩⟩, rfl, trivial⟩ ⟨rfl, none, 0, none, 0, rfl, SlK.nil, SlK.nil⟩
    · try simp only [sQ1, sQ2, sQ3, sQ4, sQ5, sQ6, sQ7, sQ8, ne_eq] at g2
      refine w_skip ?_
      refine thn_n ?_
      refine wSR ?_
      refine oX (wFA rfl rfl fo31x2 rfl ?_)
      refine oX (w_load1 rfl rfl lk26 rfl (hc3 _ 2 _ rfl) ?_)
      refine xMv ?_
      obtain ⟨w, hw⟩ := getI (xs := x.folders) (i := (idxP (inF o n) x.folders)) (by first | omega | (simp; done) | (simp; omega)) (by first | omega | (simp; done) | (simp; omega))
      obtain ⟨bb7, oo7, rfl⟩ := hf.base hw
      obtain ⟨_, ⟨qg8, cg8, qm8, cm8, rfl, hg8, hm8, hb8, hb8b⟩, hc8⟩ := hf.elem hw
      have hg8n := hg8.len
      have hm8n := hm8.len
      have hm8s := sizeMs_le hm8
      refine oX (w_ixB rfl rfl Tryz.underlying26 sz40 rfl rfl (by first | omega | (simp; done) | (simp; omega)) (by first | omega | (simp; done) | (simp; omega)) ?_)
      refine oX (w_loadN [_, _, _, _, _] rfl rfl lk40 rfl (rowK hc8 0 rfl rfl) ?_)
      refine oX (w_call rfl rfl en53 rfl (folderClone_c _ _ _ _ w _ hg8 hm8) ?_)
      rintro _ _ _ hle9 ⟨rfl, l9, a9, c9, l9b, a9b, c9b, rfl, rfl, hs9, hs9b⟩
      refine r_pubK 2 rfl hs9 GrantR.mono (by first | omega | decide | (simp; done) | (simp; omega)) (fun B10 hle10 hr10 => ?_)
      replace hu := hu.mono UserR.mono hle10
      replace hf := hf.mono FolderR.mono hle10
      replace hi := hi.mono ItemR.mono hle10
      replace hc3 := hc3.mono hle10
      replace hg8 := hg8.mono GrantR.mono hle10
      replace hm8 := hm8.mono MailR.mono hle10
      replace hc8 := hc8.mono hle10
      replace hs9b := hs9b.mono MailR.mono hle10
      have hr10n := hr10.len
      refine r_pubK 3 rfl hs9b MailR.mono (by first | omega | decide | (simp; done) | (simp; omega)) (fun B11 hle11 hr11 => ?_)
      replace hu := hu.mono UserR.mono hle11
      replace hf := hf.mono FolderR.mono hle11
      replace hi := hi.mono ItemR.mono hle11
      replace hc3 := hc3.mono hle11
      replace hg8 := hg8.mono GrantR.mono hle11
      replace hm8 := hm8.mono MailR.mono hle11
      replace hc8 := hc8.mono hle11
      replace hr10 := hr10.mono GrantR.mono hle11
      have hr11n := hr11.len
      refine oX (w_store [_, _, _, _, _] 1 [_, _, _, _, _] rfl rfl sz40 rfl rfl rfl rfl rfl rfl rfl rfl ?_)
      refine xAs ?_
      refine wTd [(0, _), (1, _), (2, _), (3, _), (6, _), (7, _), (8, _), (11, _), (17, _)] [_, _, _, _] ⟨rfl, rfl, rfl, rfl, rfl, rfl, rfl, rfl, rfl, trivial⟩ rfl ?_
      refine w_ret ?_
      exact endN .ret (.inl rfl) [_, _] [] rfl ⟨⟨_, rfl, .inr ⟨[_, _, _, _, _], lk40, rowL 1 rfl rfl rfl, rfl⟩⟩, rfl, trivial⟩ (by rw [hostFolder_some (x := x) (o := o) (n := n) (by simpa using g1) (by omega) hw]; exact ⟨rfl, _, _, _, _, rfl, hr10, hr11⟩)

set_option maxRecDepth 4000 in
set_option maxHeartbeats 400000 in
theorem folderNew_c (o n : Str) (B : Kn) : CallsB (pj J) 48 [str o, str n] B [] (fun v B' Ls => B' = B ∧ Ls = [] ∧ ∃ qa qb, v = .agg #[str o, str n, .slice qa 0 0, .int .i64 1, .slice qb 0 0] ∧ SlK B' qa 0 2 GrantR ([] : List DGrant) ∧ SlK B' qb 0 3 MailR ([] : List DMail)) := by
  refine cBB 11 Tryz.func48 rfl rfl rfl (Nat.le_of_ble_eq_true rfl) ?_
  refine wSR ?_
  refine oX (w_alloc (l := [_, _, _, _, _]) rfl rfl zo40 rfl (fun b1 => ?_))
  refine wTd [(0, _), (1, _), (4, _)] [_] ⟨rfl, rfl, rfl, trivial⟩ rfl ?_
  refine wSR ?_
  refine xMv ?_
  refine xMv ?_
  refine oX (wBS (parts := []) [] rfl rfl Tryz.underlying35 sz174 zo174 rfl rfl rfl rfl rfl (fun b2 => ?_))
  refine oX (wBS (parts := []) [] rfl rfl Tryz.underlying36 sz116 zo116 rfl rfl rfl rfl rfl (fun b3 => ?_))
  refine oX (w_build (parts := [(0, _), (1, _)]) [_, _] [_, _] rfl rfl pl38 zo38 rfl rfl rfl ?_)
  refine oX (w_build (parts := [(0, _), (1, _), (2, _), (3, _)]) [_, _, _, _, _] [_, _, _, _, _] rfl rfl pl40 zo40 rfl rfl rfl ?_)
  refine oX (w_store [_, _, _, _, _] 0 [_, _, _, _, _] rfl rfl sz40 rfl rfl rfl rfl rfl rfl rfl rfl ?_)
  refine wTd [(0, _), (1, _), (4, _)] [_, _, _] ⟨rfl, rfl, rfl, trivial⟩ rfl ?_
  refine w_ret ?_
  exact endN .ret (.inl rfl) [_] [] rfl ⟨⟨_, rfl, .inr ⟨[_, _, _, _, _], lk40, rowL 0 rfl rfl rfl, rfl⟩⟩, trivial⟩ ⟨rfl, rfl, _, _, rfl, SlK.nil, SlK.nil⟩

set_option maxRecDepth 4000 in
set_option maxHeartbeats 400000 in
theorem hostNew_c (q : Option Addr) (cp : Nat) (d : Str) (us : List DUser) (hd : d.length ≤ 2000000) (hl : us.length ≤ 1000000) (B : Kn) (hu : SlK B q cp 3 UserR us) : CallsB (pj J) 16 [str d, .slice q us.length cp] B [] (fun v B' Ls => Ls = [] ∧ ∃ q1 c1 q2 c2 q3 c3, v = .tuple #[.agg #[str (hostNew d us).1.domain, .slice q1 (hostNew d us).1.users.length c1, .slice q2 (hostNew d us).1.folders.length c2, .int .i64 (hostNew d us).1.queue.next, .slice q3 (hostNew d us).1.queue.items.length c3], .bool (hostNew d us).2] ∧ SlK B' q1 c1 3 UserR (hostNew d us).1.users ∧ SlK B' q2 c2 5 FolderR (hostNew d us).1.folders ∧ SlK B' q3 c3 4 ItemR (hostNew d us).1.queue.items) := by
  refine cBB 41 Tryz.func16 rfl rfl rfl (Nat.le_of_ble_eq_true rfl) ?_
  have hun := hu.len
  refine wSR ?_
  refine oX (w_alloc (l := [_, _, _, _, _]) rfl rfl zo31 rfl (fun b1 => ?_))
  refine xAs ?_
  refine wTd [(0, _), (1, _), (4, _), (5, _)] [_] ⟨rfl, rfl, rfl, rfl, trivial⟩ rfl ?_
  refine w_seq ?_
  refine wSR ?_
  refine xMv ?_
  refine oX (w_retB rfl rfl en46 rfl (implDomain_c _ (by first | assumption | omega | (simp; done) | (simp; omega)) _) ?_)
  refine oX (w_not rfl rfl rfl ?_)
  refine xMv ?_
  refine r_split (d := 12) rfl (fun g1 => ?_) (fun g1 => ?_)
  · try simp only [sQ1, sQ2, sQ3, sQ4, sQ5, sQ6, sQ7, sQ8, ne_eq] at g1
    rw [hostNew_no (by rw [newH_ok, g1]; rfl)]
    refine oX (w_pass rfl rfl ?_)
    refine oX (w_pass rfl rfl ?_)
    refine oX (w_pass rfl rfl ?_)
    refine oX (w_pickT rfl rfl rfl rfl ?_)
    refine wKp [(0, _), (1, _), (4, _), (5, _), (16, _)] ⟨rfl, rfl, rfl, rfl, rfl, trivial⟩ ?_
    refine wCd (t := true) rfl (fun _ => ?_) (fun h => Bool.noConfusion h)
    refine wSR ?_
    refine oX (w_build (parts := []) [_, _, _, _, _] [_, _, _, _, _] rfl rfl pl31 zo31 rfl rfl rfl ?_)
    refine oX (w_store [_, _, _, _, _] 0 [_, _, _, _, _] rfl rfl sz31 rfl rfl rfl rfl rfl rfl rfl rfl ?_)
    refine xAs ?_
    refine wTd [(0, _), (1, _), (4, _), (5, _), (16, _)] [_] ⟨rfl, rfl, rfl, rfl, rfl, trivial⟩ rfl ?_
    refine w_ret (thn_r ?_)
    exact endN .ret (.inl rfl) [_, _] [] rfl ⟨⟨_, rfl, .inr ⟨[_, _, _, _, _], lk31, rowL 0 rfl rfl rfl, rfl⟩⟩, rfl, trivial⟩ ⟨rfl, none, 0, none, 0, none, 0, rfl, SlK.nil, SlK.nil, SlK.nil⟩
  · try simp only [sQ1, sQ2, sQ3, sQ4, sQ5, sQ6, sQ7, sQ8, ne_eq] at g1
    refine xMv ?_
    refine oX (w_retB rfl rfl en47 rfl (implUsers_c _ _ _ _ hu) ?_)
    refine oX (w_not rfl rfl rfl ?_)
    refine oX (w_pickF rfl rfl rfl rfl ?_)
    refine wKp [(0, _), (1, _), (4, _), (5, _), (16, _)] ⟨rfl, rfl, rfl, rfl, rfl, trivial⟩ ?_
    refine wCd rfl (fun g2 => ?_) (fun g2 => ?_)
    · try simp only [sQ1, sQ2, sQ3, sQ4, sQ5, sQ6, sQ7, sQ8, ne_eq] at g2
      rw [hostNew_no (by rw [newH_ok, g2, Bool.and_false])]
      refine wSR ?_
      refine oX (w_build (parts := []) [_, _, _, _, _] [_, _, _, _, _] rfl rfl pl31 zo31 rfl rfl rfl ?_)
      refine oX (w_store [_, _, _, _, _] 0 [_, _, _, _, _] rfl rfl sz31 rfl rfl rfl rfl rfl rfl rfl rfl ?_)
      refine xAs ?_
      refine wTd [(0, _), (1, _), (4, _), (5, _), (16, _)] [_] ⟨rfl, rfl, rfl, rfl, rfl, trivial⟩ rfl ?_
      refine w_ret (thn_r ?_)
      exact endN .ret (.inl rfl) [_, _] [] rfl ⟨⟨_, rfl, .inr ⟨[_, _, _, _, _], lk31, rowL 0 rfl rfl rfl, rfl⟩⟩, rfl, trivial⟩ ⟨rfl, none, 0, none, 0, none, 0, rfl, SlK.nil, SlK.nil, SlK.nil⟩
    · try simp only [sQ1, sQ2, sQ3, sQ4, sQ5, sQ6, sQ7, sQ8, ne_eq] at g2
      have hok : hostOk (newH d us) = true := by rw [newH_ok, g1, g2]; rfl
      refine w_skip ?_
      refine thn_n ?_
      refine wSR ?_
      refine xMv ?_
      refine oX (wBS (parts := []) [] rfl rfl Tryz.underlying23 sz44 zo44 rfl rfl rfl rfl rfl (fun b4 => ?_))
      refine xMv ?_
      refine oX (w_appR (R := UserR) 1 rfl (VecR.lit0 (R := UserR)) rfl rfl rfl eo23 su23 rfl rfl rfl hu.rows UserR.one rfl (by first | omega | (simp; done) | (simp; omega)) (fun l5 p5 c5 hv5 => ?_))
      refine oX (wBS (parts := []) [] rfl rfl Tryz.underlying27 sz100 zo100 rfl rfl rfl rfl rfl (fun b6 => ?_))
      refine r_pubK 2 rfl (VecR.lit0 (R := ItemR) (w := 4)) ItemR.mono (by first | omega | decide | (simp; done) | (simp; omega)) (fun B7 hle7 hr7 => ?_)
      replace hu := hu.mono UserR.mono hle7
      replace hv5 := hv5.mono UserR.mono hle7
      have hr7n := hr7.len
      refine oX (w_build (parts := [(0, _), (1, _)]) [_, _] [_, _] rfl rfl pl29 zo29 rfl rfl rfl ?_)
      refine oX (w_build (parts := [(0, _), (1, _), (3, _)]) [_, _, _, _, _] [_, _, _, _, _] rfl rfl pl31 zo31 rfl rfl rfl ?_)
      refine oX (w_alloc (l := [_, _, _, _, _]) rfl rfl zo31 rfl (fun b8 => ?_))
      refine oX (w_store [_, _, _, _, _] 3 [_, _, _, _, _] rfl rfl sz31 rfl rfl rfl rfl rfl rfl rfl rfl ?_)
      refine wTd [(0, _), (1, _), (4, _), (5, _), (6, _), (16, _)] [_, _, _, _] ⟨rfl, rfl, rfl, rfl, rfl, rfl, trivial⟩ rfl ?_
      refine w_seq ?_
      refine wSR ?_
      refine xMv ?_
      refine oX (w_lenV rfl rfl Tryz.underlying23 rfl ?_)
      refine xMv ?_
      refine wKp [(0, _), (1, _), (4, _), (5, _), (6, _), (16, _), (25, _), (26, _), (27, _)] ⟨rfl, rfl, rfl, rfl, rfl, rfl, rfl, rfl, rfl, trivial⟩ ?_
      refine w_block ?_
      refine w_loopE (α := Gh DFolder) [0, 1, 4, 5, 6, 16, 25, 26] (fun g => [(27, .int .i64 g.k)]) [2, 3] (fun g => [g.l, box1 b8 [str d, .slice p5 us.length c5, .slice g.a g.xs.length g.c, .int .i64 1, .slice (some ⟨b6, 0, none⟩) 0 0] 31]) (fun g Bx => Bx = B7 ∧ g.k ≤ us.length ∧ g.xs = (us.take g.k).map (fun u => newF u.name) ∧ VecR Bx g.l g.a g.c 40 5 FolderR g.xs) (fun g => us.length - g.k) ⟨0, 0, [], none, 0, []⟩ ⟨rfl, trivial⟩ rfl (⟨rfl, Nat.zero_le _, by simp, VecR.nil⟩) (fun g B9 hle9 hI => ?_)
      obtain ⟨rfl, hk, hx, hv⟩ := hI
      have hgl : g.xs.length ≤ us.length := by rw [hx, List.length_map, List.length_take]; omega
      refine wTd [(0, _), (1, _), (4, _), (5, _), (6, _), (16, _), (25, _), (26, _), (27, _)] [_, _, _, _] ⟨rfl, rfl, rfl, rfl, rfl, rfl, rfl, rfl, rfl, trivial⟩ rfl ?_
      refine wSR ?_
      refine oX (w_lss rfl rfl rfl rfl ?_)
      refine wKp [(0, _), (1, _), (4, _), (5, _), (6, _), (16, _), (25, _), (26, _), (27, _), (28, _)] ⟨rfl, rfl, rfl, rfl, rfl, rfl, rfl, rfl, rfl, rfl, trivial⟩ ?_
      refine w_seq ?_
      refine wCd rfl (fun g3 => ?_) (fun g3 => ?_)
      · try simp only [sQ1, sQ2, sQ3, sQ4, sQ5, sQ6, sQ7, sQ8, ne_eq] at g3
        refine w_skip ?_
        refine thn_n ?_
        refine w_seq ?_
        refine w_block ?_
        refine wSR ?_
        obtain ⟨w, hw⟩ := getLt (xs := us) (i := g.k) (by first | omega | (simp; done) | (simp; omega))
        obtain ⟨bb11, oo11, rfl⟩ := hu.base hw
        obtain ⟨_, ⟨rfl, hb12, hb12b⟩, hc12⟩ := hu.elem hw
        refine oX (w_ixB rfl rfl Tryz.underlying23 sz44 rfl rfl (by first | omega | (simp; done) | (simp; omega)) (by first | omega | (simp; done) | (simp; omega)) ?_)
        refine oX (w_loadN [_, _, _] rfl rfl lk44 rfl (rowK hc12 0 rfl rfl) ?_)
        refine oX (w_alloc (l := [_, _, _]) rfl rfl zo44 rfl (fun b13 => ?_))
        refine oX (w_store [_, _, _] 4 [_, _, _] rfl rfl sz44 rfl rfl rfl rfl rfl rfl rfl rfl ?_)
        refine wTd [(0, _), (1, _), (4, _), (5, _), (6, _), (8, _), (16, _), (25, _), (26, _), (27, _), (28, _)] [_, _, _, _, _] ⟨rfl, rfl, rfl, rfl, rfl, rfl, rfl, rfl, rfl, rfl, rfl, trivial⟩ rfl ?_
        refine w_draw (keeps _ [3, 4] _) mo (by kernel_rfl) ⟨Kn.le.refl _, keepsL.refl _ _⟩ (fun _ _ => ?_)
        refine aTk 0 rfl (by kernel_rfl) rfl (q_ofI fun D B L hI => wFA rfl rfl fo31x2 rfl ⟨rfl, rfl, rfl, rfl⟩) ?_
        refine aTk 1 rfl (by kernel_rfl) rfl (q_ofI fun D B L hI => w_load1 rfl rfl lk26 rfl (atL 3 (hI.2.1.trans rfl) rfl rfl) ⟨rfl, rfl, rfl, rfl⟩) ?_
        refine aTk 2 rfl (by kernel_rfl) rfl (q_ofI fun D B L hI => wFA rfl rfl fo44x0 rfl ⟨rfl, rfl, rfl, rfl⟩) ?_
        refine aTk 3 rfl (by kernel_rfl) rfl (q_ofI fun D B L hI => w_load1 rfl rfl lk9 rfl (atL 4 (hI.2.2.1.trans rfl) rfl rfl) ⟨rfl, rfl, rfl, rfl⟩) ?_
        refine aOne 4 (by kernel_rfl) rfl (by kernel_rfl) (w_call rfl rfl en48 rfl (folderNew_c w.name [105, 110, 98, 111, 120] _) ?_)
        rintro _ _ _ hle14 ⟨rfl, rfl, qa14, qb14, rfl, hga14, hgb14⟩
        refine ⟨⟨Kn.le.refl _, ⟨rfl, rfl, trivial⟩⟩, ?_⟩
        refine aOne 5 (by kernel_rfl) rfl (by kernel_rfl) (wBS (parts := [(0, _)]) [_, _, _, _, _] rfl rfl Tryz.underlying26 sz40 zo40 rfl rfl rfl rfl rfl (fun b15 => ?_))
        refine ⟨⟨Kn.le.refl _, ⟨rfl, rfl, trivial⟩⟩, ?_⟩
        refine aOne 6 (by kernel_rfl) rfl (by kernel_rfl) (w_app1 (z := ⟨w.name, [105, 110, 98, 111, 120], ([] : List DGrant), 1, ([] : List DMail)⟩) (R := FolderR) 2 rfl hv rfl rfl rfl eo26 su26 rfl rfl (SrcAt.box 5 rfl) rfl rfl (⟨_, _, _, _, rfl, hga14, hgb14, by first | assumption | omega | (simp; done) | (simp; omega), by first | assumption | omega | (simp; done) | (simp; omega)⟩) (by first | omega | (simp; done) | (simp; omega)) (fun l16 p16 c16 hv16 => ?_))
        refine ⟨⟨Kn.le.refl _, ⟨rfl, rfl, trivial⟩⟩, ?_⟩
        refine aTk 7 rfl (by kernel_rfl) rfl (q_ofI fun D B L hI => wFA rfl rfl fo31x2 rfl ⟨rfl, rfl, rfl, rfl⟩) ?_
        refine any_fin 8 (by kernel_rfl) rfl (by kernel_rfl) (by kernel_rfl) (by kernel_rfl) (w_store [_] 3 [_, _, _, _, _] rfl rfl sz26 rfl rfl rfl rfl rfl rfl rfl rfl ?_)
        refine inB_n (thn_n ?_)
        refine w_region ?_
        refine oX (w_add rfl rfl rfl rfl (by first | exact wrI64 (by first | omega | (simp; done) | (simp; omega)) (by first | omega | (simp; done) | (simp; omega)) | rfl) ?_)
        refine xMv ?_
        exact rndE_n ⟨g.k + 1, 0, l16, p16, c16, (g.xs ++ [⟨w.name, [105, 110, 98, 111, 120], ([] : List DGrant), 1, ([] : List DMail)⟩])⟩ [0, 1, 2, 3] (by first | omega | (simp only []; omega)) ⟨rfl, by simp only []; omega, by rw [List.take_add_one, hw]; simp [hx, newF, inbox], hv16⟩ ⟨rfl, rfl, rfl, rfl, rfl, rfl, rfl, rfl, rfl, trivial⟩ rfl
      · try simp only [sQ1, sQ2, sQ3, sQ4, sQ5, sQ6, sQ7, sQ8, ne_eq] at g3
        have he : (us.map fun u => newF u.name) = g.xs := by rw [hx, List.take_of_length_le (by omega)]
        refine w_exit (thn_x (rndE_x (inB_hit (thn_n ?_))))
        refine wSR ?_
        refine oX (w_loadN [_, _, _, _, _] rfl rfl lk31 rfl (rowL 3 rfl rfl rfl) ?_)
        refine r_pubK 1 rfl hv5 UserR.mono (by first | omega | decide | (simp; done) | (simp; omega)) (fun B17 hle17 hr17 => ?_)
        replace hu := hu.mono UserR.mono hle17
        replace hr7 := hr7.mono ItemR.mono hle17
        replace hv := hv.mono FolderR.mono hle17
        have hr17n := hr17.len
        refine r_pubK 2 rfl hv FolderR.mono (by first | omega | decide | (simp; done) | (simp; omega)) (fun B18 hle18 hr18 => ?_)
        replace hu := hu.mono UserR.mono hle18
        replace hr17 := hr17.mono UserR.mono hle18
        replace hr7 := hr7.mono ItemR.mono hle18
        have hr18n := hr18.len
        refine oX (w_store [_, _, _, _, _] 0 [_, _, _, _, _] rfl rfl sz31 rfl rfl rfl rfl rfl rfl rfl rfl ?_)
        refine xAs ?_
        refine wTd [(0, _), (1, _), (4, _), (5, _), (6, _), (16, _), (25, _), (26, _), (27, _), (28, _)] [_, _, _, _] ⟨rfl, rfl, rfl, rfl, rfl, rfl, rfl, rfl, rfl, rfl, trivial⟩ rfl ?_
        refine w_ret ?_
        exact endN .ret (.inl rfl) [_, _] [] rfl ⟨⟨_, rfl, .inr ⟨[_, _, _, _, _], lk31, rowL 0 rfl rfl rfl, rfl⟩⟩, rfl, trivial⟩ (by rw [hostNew_yes hok, newH, he]; exact ⟨rfl, _, _, _, _, _, _, rfl, hr17, hr18, hr7⟩)

set_option maxRecDepth 4000 in
set_option maxHeartbeats 400000 in
theorem specNew_c (q : Option Addr) (cp : Nat) (d : Str) (us : List DUser) (hd : d.length ≤ 2000000) (hl : us.length ≤ 1000000) (B : Kn) (hu : SlK B q cp 3 UserR us) : CallsB (pj J) 17 [str d, .slice q us.length cp] B [] (fun v B' Ls => Ls = [] ∧ ∃ q1 c1 q2 c2 q3 c3, v = .tuple #[.agg #[str (hostNew d us).1.domain, .slice q1 (hostNew d us).1.users.length c1, .slice q2 (hostNew d us).1.folders.length c2, .int .i64 (hostNew d us).1.queue.next, .slice q3 (hostNew d us).1.queue.items.length c3], .bool (hostNew d us).2] ∧ SlK B' q1 c1 3 UserR (hostNew d us).1.users ∧ SlK B' q2 c2 5 FolderR (hostNew d us).1.folders ∧ SlK B' q3 c3 4 ItemR (hostNew d us).1.queue.items) := by
  refine cBB 41 Tryz.func17 rfl rfl rfl (Nat.le_of_ble_eq_true rfl) ?_
  have hun := hu.len
  refine wSR ?_
  refine oX (w_alloc (l := [_, _, _, _, _]) rfl rfl zo31 rfl (fun b1 => ?_))
  refine xAs ?_
  refine wTd [(0, _), (1, _), (4, _), (5, _)] [_] ⟨rfl, rfl, rfl, rfl, trivial⟩ rfl ?_
  refine wSR ?_
  refine xMv ?_
  refine oX (wBS (parts := []) [] rfl rfl Tryz.underlying23 sz44 zo44 rfl rfl rfl rfl rfl (fun b2 => ?_))
  refine xMv ?_
  refine oX (w_appR (R := UserR) 1 rfl (VecR.lit0 (R := UserR)) rfl rfl rfl eo23 su23 rfl rfl rfl hu.rows UserR.one rfl (by first | omega | (simp; done) | (simp; omega)) (fun l3 p3 c3 hv3 => ?_))
  refine oX (wBS (parts := []) [] rfl rfl Tryz.underlying26 sz40 zo40 rfl rfl rfl rfl rfl (fun b4 => ?_))
  refine oX (wBS (parts := []) [] rfl rfl Tryz.underlying27 sz100 zo100 rfl rfl rfl rfl rfl (fun b5 => ?_))
  refine oX (w_build (parts := [(0, _), (1, _)]) [_, _] [_, _] rfl rfl pl29 zo29 rfl rfl rfl ?_)
  refine oX (w_build (parts := [(0, _), (1, _), (2, _), (3, _)]) [_, _, _, _, _] [_, _, _, _, _] rfl rfl pl31 zo31 rfl rfl rfl ?_)
  refine oX (w_alloc (l := [_, _, _, _, _]) rfl rfl zo31 rfl (fun b6 => ?_))
  refine oX (w_store [_, _, _, _, _] 4 [_, _, _, _, _] rfl rfl sz31 rfl rfl rfl rfl rfl rfl rfl rfl ?_)
  refine wTd [(0, _), (1, _), (4, _), (5, _), (6, _)] [_, _, _, _, _] ⟨rfl, rfl, rfl, rfl, rfl, trivial⟩ rfl ?_
  refine w_seq ?_
  refine wSR ?_
  refine xAs ?_
  refine wKp [(0, _), (1, _), (4, _), (5, _), (6, _), (7, _)] ⟨rfl, rfl, rfl, rfl, rfl, rfl, trivial⟩ ?_
  refine w_block ?_
  refine w_loopE (α := Gh DFolder) [0, 1, 4, 5, 6] (fun g => [(7, .int .i64 g.k)]) [2, 4] (fun g => [g.l, box1 b6 [str d, .slice p3 us.length c3, .slice g.a g.xs.length g.c, .int .i64 1, .slice (some ⟨b5, 0, none⟩) 0 0] 31]) (fun g Bx => g.k ≤ us.length ∧ g.xs = (us.take g.k).map (fun u => newF u.name) ∧ VecR Bx g.l g.a g.c 40 5 FolderR g.xs) (fun g => us.length - g.k) ⟨0, 0, _, _, _, []⟩ ⟨rfl, trivial⟩ rfl (⟨Nat.zero_le _, by simp, VecR.lit0⟩) (fun g B7 hle7 hI => ?_)
  obtain ⟨hk, hx, hv⟩ := hI
  have hgl : g.xs.length ≤ us.length := by rw [hx, List.length_map, List.length_take]; omega
  replace hu := hu.mono UserR.mono hle7
  replace hv3 := hv3.mono UserR.mono hle7
  refine wTd [(0, _), (1, _), (4, _), (5, _), (6, _), (7, _)] [_, _, _, _, _] ⟨rfl, rfl, rfl, rfl, rfl, rfl, trivial⟩ rfl ?_
  refine w_seq ?_
  refine wSR ?_
  refine xMv ?_
  refine xMv ?_
  refine oX (w_lenV rfl rfl Tryz.underlying23 rfl ?_)
  refine oX (w_lss rfl rfl rfl rfl ?_)
  refine wKp [(0, _), (1, _), (4, _), (5, _), (6, _), (7, _), (19, _)] ⟨rfl, rfl, rfl, rfl, rfl, rfl, rfl, trivial⟩ ?_
  refine wCd rfl (fun g3 => ?_) (fun g3 => ?_)
  · try simp only [sQ1, sQ2, sQ3, sQ4, sQ5, sQ6, sQ7, sQ8, ne_eq] at g3
    refine w_skip ?_
    refine thn_n ?_
    refine w_seq ?_
    refine w_block ?_
    refine w_draw (keeps _ [4] _) mo (by kernel_rfl) ⟨Kn.le.refl _, keepsL.refl _ _⟩ (fun _ _ => ?_)
    refine aTk 0 rfl (by kernel_rfl) rfl (q_ofI fun D B L hI => wFA rfl rfl fo31x2 rfl ⟨rfl, rfl, rfl, rfl⟩) ?_
    refine aTk 1 rfl (by kernel_rfl) rfl (q_ofI fun D B L hI => w_load1 rfl rfl lk26 rfl (atL 4 (hI.2.1.trans rfl) rfl rfl) ⟨rfl, rfl, rfl, rfl⟩) ?_
    refine aTP 2 rfl (by kernel_rfl) rfl (fun D B L => w_move rfl rfl rfl ⟨rfl, rfl, rfl, rfl⟩) ?_
    refine aTP 3 rfl (by kernel_rfl) rfl (fun D B L => w_move rfl rfl rfl ⟨rfl, rfl, rfl, rfl⟩) ?_
    obtain ⟨w, hw⟩ := getLt (xs := us) (i := g.k) (by first | omega | (simp; done) | (simp; omega))
    obtain ⟨bb9, oo9, rfl⟩ := hu.base hw
    obtain ⟨_, ⟨rfl, hb10, hb10b⟩, hc10⟩ := hu.elem hw
    refine aTk 4 rfl (by kernel_rfl) rfl (q_ofI fun D B L hI => w_ixB rfl rfl Tryz.underlying23 sz44 rfl rfl (by first | omega | (simp; done) | (simp; omega)) (by first | omega | (simp; done) | (simp; omega)) ⟨rfl, rfl, rfl, rfl⟩) ?_
    refine aTk 5 rfl (by kernel_rfl) rfl (q_ofI fun D B L hI => wFA rfl rfl fo44x0 rfl ⟨rfl, rfl, rfl, rfl⟩) ?_
    refine aTk 6 rfl (by kernel_rfl) rfl (q_ofI fun D B L hI => w_load1 rfl rfl lk9 rfl ((hc10.mono hI.1) _ 0 _ rfl) ⟨rfl, rfl, rfl, rfl⟩) ?_
    refine any_all [7, 8] (by kernel_rfl) (by kernel_rfl) (by kernel_rfl) ⟨?_, ?_⟩
    · skip
      refine (wBS (parts := []) [] rfl rfl Tryz.underlying35 sz174 zo174 rfl rfl rfl rfl rfl (fun b11 => ?_))
      refine ⟨⟨Kn.le.refl _, ⟨rfl, trivial⟩⟩, ?_⟩
      refine a_pubK 5 rfl (VecR.lit0 (R := GrantR) (w := 2)) GrantR.mono (by first | omega | decide | (simp; done) | (simp; omega)) (fun B' hle' => ⟨hle', ⟨rfl, trivial⟩⟩) (fun B12 hle12 hr12 => ?_)
      replace hu := hu.mono UserR.mono hle12
      replace hc10 := hc10.mono hle12
      replace hv3 := hv3.mono UserR.mono hle12
      replace hv := hv.mono FolderR.mono hle12
      have hr12n := hr12.len
      refine aOne 8 (by kernel_rfl) rfl (by kernel_rfl) (wBS (parts := []) [] rfl rfl Tryz.underlying36 sz116 zo116 rfl rfl rfl rfl rfl (fun b13 => ?_))
      refine ⟨⟨hle12, ⟨rfl, trivial⟩⟩, ?_⟩
      refine a_pubK 6 rfl (VecR.lit0 (R := MailR) (w := 3)) MailR.mono (by first | omega | decide | (simp; done) | (simp; omega)) (fun B' hle' => ⟨hle12.trans hle', ⟨rfl, trivial⟩⟩) (fun B14 hle14 hr14 => ?_)
      replace hu := hu.mono UserR.mono hle14
      replace hc10 := hc10.mono hle14
      replace hr12 := hr12.mono GrantR.mono hle14
      replace hv3 := hv3.mono UserR.mono hle14
      replace hv := hv.mono FolderR.mono hle14
      have hr14n := hr14.len
      refine aTk 9 rfl (by kernel_rfl) rfl (q_ofI fun D B L hI => w_build (parts := [(0, _), (1, _)]) [_, _] [_, _] rfl rfl pl38 zo38 rfl rfl rfl ⟨rfl, rfl, rfl, rfl⟩) ?_
      refine aTk 10 rfl (by kernel_rfl) rfl (q_ofI fun D B L hI => w_build (parts := [(0, _), (1, _), (2, _), (3, _)]) [_, _, _, _, _] [_, _, _, _, _] rfl rfl pl40 zo40 rfl rfl rfl ⟨rfl, rfl, rfl, rfl⟩) ?_
      refine aOne 11 (by kernel_rfl) rfl (by kernel_rfl) (wBS (parts := [(0, _)]) [_, _, _, _, _] rfl rfl Tryz.underlying26 sz40 zo40 rfl rfl rfl rfl rfl (fun b15 => ?_))
      refine ⟨⟨(hle12.trans hle14), ⟨rfl, trivial⟩⟩, ?_⟩
      refine aOne 12 (by kernel_rfl) rfl (by kernel_rfl) (w_app1 (z := ⟨w.name, [105, 110, 98, 111, 120], [], 1, []⟩) (R := FolderR) 2 rfl hv rfl rfl rfl eo26 su26 rfl rfl (SrcAt.box 7 rfl) rfl rfl (⟨_, _, _, _, rfl, hr12, hr14, by first | assumption | omega | (simp; done) | (simp; omega), by first | assumption | omega | (simp; done) | (simp; omega)⟩) (by first | omega | (simp; done) | (simp; omega)) (fun l16 p16 c16 hv16 => ?_))
      refine ⟨⟨(hle12.trans hle14), ⟨rfl, trivial⟩⟩, ?_⟩
      refine aTk 13 rfl (by kernel_rfl) rfl (q_ofI fun D B L hI => wFA rfl rfl fo31x2 rfl ⟨rfl, rfl, rfl, rfl⟩) ?_
      refine any_fin 14 (by kernel_rfl) rfl (by kernel_rfl) (by kernel_rfl) (by kernel_rfl) (w_store [_] 4 [_, _, _, _, _] rfl rfl sz26 rfl rfl rfl rfl rfl rfl rfl rfl ?_)
      refine inB_n (thn_n ?_)
      refine w_region ?_
      refine xMv ?_
      refine oX (w_add rfl rfl rfl rfl (by first | exact wrI64 (by first | omega | (simp; done) | (simp; omega)) (by first | omega | (simp; done) | (simp; omega)) | rfl) ?_)
      refine xAs ?_
      exact rndE_n ⟨g.k + 1, 0, l16, p16, c16, (g.xs ++ [⟨w.name, [105, 110, 98, 111, 120], [], 1, []⟩])⟩ [0, 1, 2, 3, 4] (by first | omega | (simp only []; omega)) ⟨by simp only []; omega, by rw [List.take_add_one, hw]; simp [hx, newF, inbox], hv16⟩ ⟨rfl, rfl, rfl, rfl, rfl, rfl, trivial⟩ rfl
    · skip
      refine (wBS (parts := []) [] rfl rfl Tryz.underlying36 sz116 zo116 rfl rfl rfl rfl rfl (fun b17 => ?_))
      refine ⟨⟨Kn.le.refl _, ⟨rfl, trivial⟩⟩, ?_⟩
      refine aTk 9 rfl (by kernel_rfl) rfl (q_ofI fun D B L hI => w_build (parts := [(0, _), (1, _)]) [_, _] [_, _] rfl rfl pl38 zo38 rfl rfl rfl ⟨rfl, rfl, rfl, rfl⟩) ?_
      refine aOne 7 (by kernel_rfl) rfl (by kernel_rfl) (wBS (parts := []) [] rfl rfl Tryz.underlying35 sz174 zo174 rfl rfl rfl rfl rfl (fun b18 => ?_))
      refine ⟨⟨Kn.le.refl _, ⟨rfl, trivial⟩⟩, ?_⟩
      refine a_pubK 6 rfl (VecR.lit0 (R := GrantR) (w := 2)) GrantR.mono (by first | omega | decide | (simp; done) | (simp; omega)) (fun B' hle' => ⟨hle', ⟨rfl, trivial⟩⟩) (fun B19 hle19 hr19 => ?_)
      replace hu := hu.mono UserR.mono hle19
      replace hc10 := hc10.mono hle19
      replace hv3 := hv3.mono UserR.mono hle19
      replace hv := hv.mono FolderR.mono hle19
      have hr19n := hr19.len
      refine a_pubK 5 rfl (VecR.lit0 (R := MailR) (w := 3)) MailR.mono (by first | omega | decide | (simp; done) | (simp; omega)) (fun B' hle' => ⟨hle19.trans hle', ⟨rfl, trivial⟩⟩) (fun B20 hle20 hr20 => ?_)
      replace hu := hu.mono UserR.mono hle20
      replace hc10 := hc10.mono hle20
      replace hr19 := hr19.mono GrantR.mono hle20
      replace hv3 := hv3.mono UserR.mono hle20
      replace hv := hv.mono FolderR.mono hle20
      have hr20n := hr20.len
      refine aTk 10 rfl (by kernel_rfl) rfl (q_ofI fun D B L hI => w_build (parts := [(0, _), (1, _), (2, _), (3, _)]) [_, _, _, _, _] [_, _, _, _, _] rfl rfl pl40 zo40 rfl rfl rfl ⟨rfl, rfl, rfl, rfl⟩) ?_
      refine aOne 11 (by kernel_rfl) rfl (by kernel_rfl) (wBS (parts := [(0, _)]) [_, _, _, _, _] rfl rfl Tryz.underlying26 sz40 zo40 rfl rfl rfl rfl rfl (fun b21 => ?_))
      refine ⟨⟨(hle19.trans hle20), ⟨rfl, trivial⟩⟩, ?_⟩
      refine aOne 12 (by kernel_rfl) rfl (by kernel_rfl) (w_app1 (z := ⟨w.name, [105, 110, 98, 111, 120], [], 1, []⟩) (R := FolderR) 2 rfl hv rfl rfl rfl eo26 su26 rfl rfl (SrcAt.box 7 rfl) rfl rfl (⟨_, _, _, _, rfl, hr19, hr20, by first | assumption | omega | (simp; done) | (simp; omega), by first | assumption | omega | (simp; done) | (simp; omega)⟩) (by first | omega | (simp; done) | (simp; omega)) (fun l22 p22 c22 hv22 => ?_))
      refine ⟨⟨(hle19.trans hle20), ⟨rfl, trivial⟩⟩, ?_⟩
      refine aTk 13 rfl (by kernel_rfl) rfl (q_ofI fun D B L hI => wFA rfl rfl fo31x2 rfl ⟨rfl, rfl, rfl, rfl⟩) ?_
      refine any_fin 14 (by kernel_rfl) rfl (by kernel_rfl) (by kernel_rfl) (by kernel_rfl) (w_store [_] 4 [_, _, _, _, _] rfl rfl sz26 rfl rfl rfl rfl rfl rfl rfl rfl ?_)
      refine inB_n (thn_n ?_)
      refine w_region ?_
      refine xMv ?_
      refine oX (w_add rfl rfl rfl rfl (by first | exact wrI64 (by first | omega | (simp; done) | (simp; omega)) (by first | omega | (simp; done) | (simp; omega)) | rfl) ?_)
      refine xAs ?_
      exact rndE_n ⟨g.k + 1, 0, l22, p22, c22, (g.xs ++ [⟨w.name, [105, 110, 98, 111, 120], [], 1, []⟩])⟩ [0, 1, 2, 3, 4] (by first | omega | (simp only []; omega)) ⟨by simp only []; omega, by rw [List.take_add_one, hw]; simp [hx, newF, inbox], hv22⟩ ⟨rfl, rfl, rfl, rfl, rfl, rfl, trivial⟩ rfl
  · try simp only [sQ1, sQ2, sQ3, sQ4, sQ5, sQ6, sQ7, sQ8, ne_eq] at g3
    have he : (us.map fun u => newF u.name) = g.xs := by rw [hx, List.take_of_length_le (by omega)]
    have hne : (⟨d, us, g.xs, ⟨1, []⟩⟩ : DHost) = newH d us := by rw [newH, he]
    refine w_exit (thn_x (rndE_x (inB_hit (thn_n ?_))))
    refine w_seq ?_
    refine wSR ?_
    refine oX (w_loadN [_, _, _, _, _] rfl rfl lk31 rfl (rowL 4 rfl rfl rfl) ?_)
    refine r_pubK 1 rfl hv3 UserR.mono (by first | omega | decide | (simp; done) | (simp; omega)) (fun B23 hle23 hr23 => ?_)
    replace hu := hu.mono UserR.mono hle23
    replace hv := hv.mono FolderR.mono hle23
    have hr23n := hr23.len
    refine r_pubK 2 rfl hv FolderR.mono (by first | omega | decide | (simp; done) | (simp; omega)) (fun B24 hle24 hr24 => ?_)
    replace hu := hu.mono UserR.mono hle24
    replace hr23 := hr23.mono UserR.mono hle24
    have hr24n := hr24.len
    refine r_pubK 3 rfl (VecR.lit0 (R := ItemR) (w := 4)) ItemR.mono (by first | omega | decide | (simp; done) | (simp; omega)) (fun B25 hle25 hr25 => ?_)
    replace hu := hu.mono UserR.mono hle25
    replace hr23 := hr23.mono UserR.mono hle25
    replace hr24 := hr24.mono FolderR.mono hle25
    have hr25n := hr25.len
    refine oX (w_retB rfl rfl en23 rfl (specHost_c _ _ _ _ _ _ (⟨d, us, g.xs, ⟨1, []⟩⟩ : DHost) (by first | assumption | omega | (simp; done) | (simp; omega)) _ hr23 hr24 hr25) ?_)
    refine oX (w_not rfl rfl rfl ?_)
    refine wTd [(0, _), (1, _), (4, _), (5, _), (6, _), (7, _), (19, _), (38, _)] [_, _, _, _, _] ⟨rfl, rfl, rfl, rfl, rfl, rfl, rfl, rfl, trivial⟩ rfl ?_
    refine wCd rfl (fun g4 => ?_) (fun g4 => ?_)
    · try simp only [sQ1, sQ2, sQ3, sQ4, sQ5, sQ6, sQ7, sQ8, ne_eq] at g4
      rw [hostNew_no (by rw [← hne]; simpa using g4)]
      refine wSR ?_
      refine oX (w_build (parts := []) [_, _, _, _, _] [_, _, _, _, _] rfl rfl pl31 zo31 rfl rfl rfl ?_)
      refine oX (w_store [_, _, _, _, _] 0 [_, _, _, _, _] rfl rfl sz31 rfl rfl rfl rfl rfl rfl rfl rfl ?_)
      refine xAs ?_
      refine wTd [(0, _), (1, _), (4, _), (5, _), (6, _), (7, _), (19, _), (38, _)] [_, _, _, _, _] ⟨rfl, rfl, rfl, rfl, rfl, rfl, rfl, rfl, trivial⟩ rfl ?_
      refine w_ret (thn_r ?_)
      exact endN .ret (.inl rfl) [_, _] [] rfl ⟨⟨_, rfl, .inr ⟨[_, _, _, _, _], lk31, rowL 0 rfl rfl rfl, rfl⟩⟩, rfl, trivial⟩ ⟨rfl, none, 0, none, 0, none, 0, rfl, SlK.nil, SlK.nil, SlK.nil⟩
    · try simp only [sQ1, sQ2, sQ3, sQ4, sQ5, sQ6, sQ7, sQ8, ne_eq] at g4
      refine w_skip ?_
      refine thn_n ?_
      refine wSR ?_
      refine oX (w_loadN [_, _, _, _, _] rfl rfl lk31 rfl (rowL 4 rfl rfl rfl) ?_)
      refine oX (w_store [_, _, _, _, _] 0 [_, _, _, _, _] rfl rfl sz31 rfl rfl rfl rfl rfl rfl rfl rfl ?_)
      refine xAs ?_
      refine wTd [(0, _), (1, _), (4, _), (5, _), (6, _), (7, _), (19, _), (38, _)] [_, _, _, _, _] ⟨rfl, rfl, rfl, rfl, rfl, rfl, rfl, rfl, trivial⟩ rfl ?_
      refine w_ret ?_
      exact endN .ret (.inl rfl) [_, _] [] rfl ⟨⟨_, rfl, .inr ⟨[_, _, _, _, _], lk31, rowL 0 rfl rfl rfl, rfl⟩⟩, rfl, trivial⟩ (by rw [hostNew_yes (by rw [← hne]; simpa using g4), ← hne]; exact ⟨rfl, _, _, _, _, _, _, rfl, hr23, hr24, hr25⟩)

set_option maxRecDepth 4000 in
set_option maxHeartbeats 1600000 in
theorem fnNew_w (q : Option Addr) (m cp : Nat) (hmc : m ≤ cp) (B : Kn) (hb : BytesAt B q m) : ∃ code, Tryz.f3.body = some code ∧ wpS (pj (JoinR Tryz.prog)) 111 code (bodyQ (pj (JoinR Tryz.prog)) [.tmp 2] (fun v B' Ls => v = .bool true)) (argEnv [.slice q m cp] 0) [] B [] := by
  have hJ := joins_joinR Tryz.prog
  refine ⟨_, rfl, ?_⟩
  refine wSR ?_
  refine xAs ?_
  refine wKp [(0, _), (2, _)] ⟨rfl, rfl, trivial⟩ ?_
  refine w_seq ?_
  refine wSR ?_
  refine xMv ?_
  refine oX (w_lenV rfl rfl Tryz.underlying22 rfl ?_)
  refine oX (w_gtr rfl rfl rfl rfl ?_)
  refine wKp [(0, _), (2, _), (14, _)] ⟨rfl, rfl, rfl, trivial⟩ ?_
  refine wCd rfl (fun g0 => ?_) (fun g0 => ?_)
  · try simp only [sQ1, sQ2, sQ3, sQ4, sQ5, sQ6, sQ7, sQ8, ne_eq] at g0
    refine wSR ?_
    refine xAs ?_
    refine wKp [(0, _), (2, _), (14, _)] ⟨rfl, rfl, rfl, trivial⟩ ?_
    refine w_ret (thn_r ?_)
    exact end0 .ret (.inl rfl) [_] ⟨rfl, trivial⟩ rfl
  · try simp only [sQ1, sQ2, sQ3, sQ4, sQ5, sQ6, sQ7, sQ8, ne_eq] at g0
    refine w_skip ?_
    refine thn_n ?_
    refine wSR ?_
    refine xMv ?_
    refine oX (w_callP rfl rfl en15 rfl (drawHN_c _ _ _ (by omega) _ (by assumption)) ?_)
    intro va Ba hlea
    rintro ⟨da, aqa, cqa, usa, rfl, hua, huna, hda⟩
    have huan := hua.len
    refine xMv ?_
    refine oX (w_extract rfl rfl rfl rfl ?_)
    refine oX (w_extract rfl rfl rfl rfl ?_)
    refine xAs ?_
    refine xAs ?_
    refine wKp [(0, _), (2, _), (3, _), (4, _), (14, _)] ⟨rfl, rfl, rfl, rfl, rfl, trivial⟩ ?_
    refine wSR ?_
    refine xMv ?_
    refine xMv ?_
    refine oX (w_callP rfl rfl en16 rfl (hostNew_c _ _ da usa (by first | assumption | omega | (simp; done) | (simp; omega)) (by first | assumption | omega | (simp; done) | (simp; omega)) _ hua) ?_)
    intro vb Bb hleb
    rintro ⟨q1b, c1b, q2b, c2b, q3b, c3b, rfl, hub, hfb, hib⟩
    replace hua := hua.mono UserR.mono hleb
    have hubn := hub.len
    have hfbn := hfb.len
    have hibn := hib.len
    refine xMv ?_
    refine oX (w_extract rfl rfl rfl rfl ?_)
    refine oX (w_extract rfl rfl rfl rfl ?_)
    refine oX (w_alloc (l := [_, _, _, _, _]) rfl rfl zo31 rfl (fun b3 => ?_))
    refine oX (w_store [_, _, _, _, _] 0 [_, _, _, _, _] rfl rfl sz31 rfl rfl rfl rfl rfl rfl rfl rfl ?_)
    refine xAs ?_
    refine wTd [(0, _), (2, _), (3, _), (4, _), (5, _), (6, _), (14, _)] [_] ⟨rfl, rfl, rfl, rfl, rfl, rfl, rfl, trivial⟩ rfl ?_
    refine wSR ?_
    refine xMv ?_
    refine xMv ?_
    refine oX (w_callP rfl rfl en17 rfl (specNew_c _ _ da usa (by first | assumption | omega | (simp; done) | (simp; omega)) (by first | assumption | omega | (simp; done) | (simp; omega)) _ hua) ?_)
    intro vc Bc hlec
    rintro ⟨q1c, c1c, q2c, c2c, q3c, c3c, rfl, huc, hfc, hic⟩
    replace hua := hua.mono UserR.mono hlec
    replace hub := hub.mono UserR.mono hlec
    replace hfb := hfb.mono FolderR.mono hlec
    replace hib := hib.mono ItemR.mono hlec
    have hucn := huc.len
    have hfcn := hfc.len
    have hicn := hic.len
    refine xMv ?_
    refine oX (w_extract rfl rfl rfl rfl ?_)
    refine oX (w_extract rfl rfl rfl rfl ?_)
    refine oX (w_alloc (l := [_, _, _, _, _]) rfl rfl zo31 rfl (fun b5 => ?_))
    refine oX (w_store [_, _, _, _, _] 1 [_, _, _, _, _] rfl rfl sz31 rfl rfl rfl rfl rfl rfl rfl rfl ?_)
    refine xAs ?_
    refine wTd [(0, _), (2, _), (3, _), (4, _), (5, _), (6, _), (7, _), (8, _), (14, _)] [_, _] ⟨rfl, rfl, rfl, rfl, rfl, rfl, rfl, rfl, rfl, trivial⟩ rfl ?_
    refine w_seq ?_
    refine wSR ?_
    refine xMv ?_
    refine xMv ?_
    refine oX (w_neqE rfl rfl rfl rfl rfl (eqBool Tryz.underlying4) ?_)
    refine xMv ?_
    refine r_split (d := 35) rfl (fun g1 => by simp at g1) (fun g1 => ?_)
    try simp only [sQ1, sQ2, sQ3, sQ4, sQ5, sQ6, sQ7, sQ8, ne_eq] at g1
    refine oX (w_loadN [_, _, _, _, _] rfl rfl lk31 rfl (rowL 0 rfl rfl rfl) ?_)
    refine oX (w_loadN [_, _, _, _, _] rfl rfl lk31 rfl (rowL 1 rfl rfl rfl) ?_)
    refine oX (w_retB rfl rfl en18 rfl (sameHost_c _ _ _ _ _ _ _ _ _ _ _ _ ((hostNew da usa).1) ((hostNew da usa).1) _ hub hfb hib huc hfc hic) ?_)
    refine oX (w_not rfl rfl rfl ?_)
    refine oX (w_pickF rfl rfl rfl rfl ?_)
    refine xMv ?_
    refine r_split (d := 41) rfl (fun g2 => by simp at g2) (fun g2 => ?_)
    try simp only [sQ1, sQ2, sQ3, sQ4, sQ5, sQ6, sQ7, sQ8, ne_eq] at g2
    refine xMv ?_
    refine oX (w_not rfl rfl rfl ?_)
    refine oX (w_pickF rfl rfl rfl rfl ?_)
    refine wKp [(0, _), (2, _), (3, _), (4, _), (5, _), (6, _), (7, _), (8, _), (14, _), (44, _)] ⟨rfl, rfl, rfl, rfl, rfl, rfl, rfl, rfl, rfl, rfl, trivial⟩ ?_
    refine wCd rfl (fun g3 => ?_) (fun g3 => ?_)
    · try simp only [sQ1, sQ2, sQ3, sQ4, sQ5, sQ6, sQ7, sQ8, ne_eq] at g3
      refine wSR ?_
      refine xMv ?_
      refine xMv ?_
      refine oX (w_eqlE rfl rfl rfl rfl rfl (eqBool Tryz.underlying4) ?_)
      refine xMv ?_
      refine r_split (d := 48) rfl (fun g4 => ?_) (fun g4 => by simp at g4)
      try simp only [sQ1, sQ2, sQ3, sQ4, sQ5, sQ6, sQ7, sQ8, ne_eq] at g4
      refine oX (w_loadN [_, _, _, _, _] rfl rfl lk31 rfl (rowL 0 rfl rfl rfl) ?_)
      refine oX (w_loadN [_, _, _, _, _] rfl rfl lk31 rfl (rowL 1 rfl rfl rfl) ?_)
      refine oX (w_retB rfl rfl en18 rfl (sameHost_c _ _ _ _ _ _ _ _ _ _ _ _ ((hostNew da usa).1) ((hostNew da usa).1) _ hub hfb hib huc hfc hic) ?_)
      refine oX (w_pickT rfl rfl rfl rfl ?_)
      refine xAs ?_
      refine wKp [(0, _), (2, _), (3, _), (4, _), (5, _), (6, _), (7, _), (8, _), (14, _), (44, _)] ⟨rfl, rfl, rfl, rfl, rfl, rfl, rfl, rfl, rfl, rfl, trivial⟩ ?_
      refine w_ret (thn_r ?_)
      exact end0 .ret (.inl rfl) [_] ⟨rfl, trivial⟩ (bool_eq (by simp))
    · try simp only [sQ1, sQ2, sQ3, sQ4, sQ5, sQ6, sQ7, sQ8, ne_eq] at g3
      obtain ⟨hnn, hok⟩ := hostNew_two (by simpa using g3)
      have hff : ∀ (k : Nat) (w : DUser), usa[k]? = some w → hostFolder (hostNew da usa).1 w.name [105, 110, 98, 111, 120] = (newF w.name, true) := fun k w hw => by rw [hnn]; exact newH_folder hok (List.mem_of_getElem? hw)
      have hus : ∀ (k : Nat) (w : DUser), usa[k]? = some w → hostUsed (hostNew da usa).1 w.name = 0 := fun k w hw => by rw [hnn]; exact newH_used hok (List.mem_of_getElem? hw)
      have hdd : (hostNew da usa).1.domain.length ≤ 2000000 := by rw [hnn]; show da.length ≤ 2000000; omega
      refine w_skip ?_
      refine thn_n ?_
      refine w_seq ?_
      refine wSR ?_
      refine xAs ?_
      refine wKp [(0, _), (2, _), (3, _), (4, _), (5, _), (6, _), (7, _), (8, _), (9, _), (14, _), (44, _)] ⟨rfl, rfl, rfl, rfl, rfl, rfl, rfl, rfl, rfl, rfl, rfl, trivial⟩ ?_
      refine w_block ?_
      refine w_loopE (α := Nat) [0, 3, 4, 5, 6, 7, 8, 14, 44] (fun k => [(9, .int .i64 k)]) [] (fun k => []) (fun k Bx => k ≤ usa.length) (fun k => usa.length - k) 0 ⟨rfl, trivial⟩ rfl (Nat.zero_le _) (fun k B8 hle8 hI => ?_)
      have hk := hI
      replace hua := hua.mono UserR.mono hle8
      replace hub := hub.mono UserR.mono hle8
      replace hfb := hfb.mono FolderR.mono hle8
      replace hib := hib.mono ItemR.mono hle8
      replace huc := huc.mono UserR.mono hle8
      replace hfc := hfc.mono FolderR.mono hle8
      replace hic := hic.mono ItemR.mono hle8
      refine wTd [(0, _), (3, _), (4, _), (5, _), (6, _), (7, _), (8, _), (9, _), (14, _), (44, _)] [_, _] ⟨rfl, rfl, rfl, rfl, rfl, rfl, rfl, rfl, rfl, rfl, trivial⟩ rfl ?_
      refine w_seq ?_
      refine wSR ?_
      refine xMv ?_
      refine xMv ?_
      refine oX (w_lenV rfl rfl Tryz.underlying23 rfl ?_)
      refine oX (w_lss rfl rfl rfl rfl ?_)
      refine wKp [(0, _), (3, _), (4, _), (5, _), (6, _), (7, _), (8, _), (9, _), (14, _), (44, _), (56, _)] ⟨rfl, rfl, rfl, rfl, rfl, rfl, rfl, rfl, rfl, rfl, rfl, trivial⟩ ?_
      refine wCd rfl (fun g5 => ?_) (fun g5 => ?_)
      · try simp only [sQ1, sQ2, sQ3, sQ4, sQ5, sQ6, sQ7, sQ8, ne_eq] at g5
        refine w_skip ?_
        refine thn_n ?_
        refine w_seq ?_
        refine w_block ?_
        refine w_seq ?_
        refine w_draw (keeps _ [0] _) mo (by kernel_rfl) ⟨Kn.le.refl _, keepsL.refl _ _⟩ (fun _ _ => ?_)
        refine aTk 0 rfl (by kernel_rfl) rfl (q_ofI fun D B L hI => w_loadN [_, _, _, _, _] rfl rfl lk31 rfl (rowL 0 (hI.2.1.trans rfl) rfl rfl) ⟨rfl, rfl, rfl, rfl⟩) ?_
        refine aTP 1 rfl (by kernel_rfl) rfl (fun D B L => w_move rfl rfl rfl ⟨rfl, rfl, rfl, rfl⟩) ?_
        refine aTP 2 rfl (by kernel_rfl) rfl (fun D B L => w_move rfl rfl rfl ⟨rfl, rfl, rfl, rfl⟩) ?_
        obtain ⟨w, hw⟩ := getLt (xs := usa) (i := k) (by first | omega | (simp; done) | (simp; omega))
        obtain ⟨bb10, oo10, rfl⟩ := hua.base hw
        obtain ⟨_, ⟨rfl, hb11, hb11b⟩, hc11⟩ := hua.elem hw
        refine aTk 3 rfl (by kernel_rfl) rfl (q_ofI fun D B L hI => w_ixB rfl rfl Tryz.underlying23 sz44 rfl rfl (by first | omega | (simp; done) | (simp; omega)) (by first | omega | (simp; done) | (simp; omega)) ⟨rfl, rfl, rfl, rfl⟩) ?_
        refine aTk 4 rfl (by kernel_rfl) rfl (q_ofI fun D B L hI => wFA rfl rfl fo44x0 rfl ⟨rfl, rfl, rfl, rfl⟩) ?_
        refine aTk 5 rfl (by kernel_rfl) rfl (q_ofI fun D B L hI => w_load1 rfl rfl lk9 rfl ((hc11.mono hI.1) _ 0 _ rfl) ⟨rfl, rfl, rfl, rfl⟩) ?_
        refine any_all [6, 10] (by kernel_rfl) (by kernel_rfl) (by kernel_rfl) ⟨?_, ?_⟩
        · skip
          refine (w_callP rfl rfl en19 rfl (hostFolder_c hJ _ _ _ _ _ _ ((hostNew da usa).1) w.name [105, 110, 98, 111, 120] (by first | assumption | omega | (simp; done) | (simp; omega)) (by first | assumption | omega | (simp; done) | (simp; omega)) (by first | assumption | omega | (simp; done) | (simp; omega)) _ hub hfb hib) ?_)
          intro v12 B12 hle12
          rintro ⟨qa12, ca12, qb12, cb12, rfl, hg12, hm12⟩
          replace hua := hua.mono UserR.mono hle12
          replace hub := hub.mono UserR.mono hle12
          replace hfb := hfb.mono FolderR.mono hle12
          replace hib := hib.mono ItemR.mono hle12
          replace hc11 := hc11.mono hle12
          replace huc := huc.mono UserR.mono hle12
          replace hfc := hfc.mono FolderR.mono hle12
          replace hic := hic.mono ItemR.mono hle12
          have hg12n := hg12.len
          have hm12n := hm12.len
          refine ⟨⟨hle12, ⟨rfl, trivial⟩⟩, ?_⟩
          refine aTP 7 rfl (by kernel_rfl) rfl (fun D B L => w_move rfl rfl rfl ⟨rfl, rfl, rfl, rfl⟩) ?_
          refine aTP 8 rfl (by kernel_rfl) rfl (fun D B L => w_extract rfl rfl rfl rfl ⟨rfl, rfl, rfl, rfl⟩) ?_
          refine aTP 9 rfl (by kernel_rfl) rfl (fun D B L => w_extract rfl rfl rfl rfl ⟨rfl, rfl, rfl, rfl⟩) ?_
          refine aOne 10 (by kernel_rfl) rfl (by kernel_rfl) (w_alloc (l := [_, _, _, _, _]) rfl rfl zo40 rfl (fun b13 => ?_))
          refine ⟨⟨hle12, ⟨rfl, trivial⟩⟩, ?_⟩
          refine any_sto 11 (by kernel_rfl) rfl (by kernel_rfl) (by kernel_rfl) (w_store [_, _, _, _, _] 2 [_, _, _, _, _] rfl rfl sz40 rfl rfl rfl rfl rfl rfl rfl rfl ?_)
          refine aTP 12 rfl (by kernel_rfl) rfl (fun D B L => w_assign rfl rfl rfl ⟨rfl, rfl, rfl, rfl⟩) ?_
          refine any_done (by kernel_rfl) (by kernel_rfl) ?_
          refine thn_n ?_
          refine wTd [(0, _), (3, _), (4, _), (5, _), (6, _), (7, _), (8, _), (9, _), (10, _), (11, _), (14, _), (44, _), (56, _)] [_, _, _] ⟨rfl, rfl, rfl, rfl, rfl, rfl, rfl, rfl, rfl, rfl, rfl, rfl, rfl, trivial⟩ rfl ?_
          refine w_seq ?_
          refine w_draw (keeps _ [0, 2] _) mo (by kernel_rfl) ⟨Kn.le.refl _, keepsL.refl _ _⟩ (fun _ _ => ?_)
          refine aTP 0 rfl (by kernel_rfl) rfl (fun D B L => w_move rfl rfl rfl ⟨rfl, rfl, rfl, rfl⟩) ?_
          refine aTk 1 rfl (by kernel_rfl) rfl (q_ofI fun D B L hI => w_not rfl rfl rfl ⟨rfl, rfl, rfl, rfl⟩) ?_
          refine aTP 2 rfl (by kernel_rfl) rfl (fun D B L => w_move rfl rfl rfl ⟨rfl, rfl, rfl, rfl⟩) ?_
          refine a_split (d := 71) rfl (fun g6 => by simp [hff _ _ hw] at g6) (fun g6 => ?_)
          try simp only [sQ1, sQ2, sQ3, sQ4, sQ5, sQ6, sQ7, sQ8, ne_eq] at g6
          refine aTk 3 rfl (by kernel_rfl) rfl (q_ofI fun D B L hI => wFA rfl rfl fo40x3 rfl ⟨rfl, rfl, rfl, rfl⟩) ?_
          refine aTk 4 rfl (by kernel_rfl) rfl (q_ofI fun D B L hI => wFA rfl rfl fo38x1 rfl ⟨rfl, rfl, rfl, rfl⟩) ?_
          refine aTk 5 rfl (by kernel_rfl) rfl (q_ofI fun D B L hI => w_load1 rfl rfl lk36 rfl (atL 2 (hI.2.2.1.trans rfl) rfl rfl) ⟨rfl, rfl, rfl, rfl⟩) ?_
          refine aTk 6 rfl (by kernel_rfl) rfl (q_ofI fun D B L hI => w_lenV rfl rfl Tryz.underlying36 rfl ⟨rfl, rfl, rfl, rfl⟩) ?_
          refine aTk 7 rfl (by kernel_rfl) rfl (q_ofI fun D B L hI => w_gtr rfl rfl rfl rfl ⟨rfl, rfl, rfl, rfl⟩) ?_
          refine aTk 8 rfl (by kernel_rfl) rfl (q_ofI fun D B L hI => w_pickF rfl rfl rfl rfl ⟨rfl, rfl, rfl, rfl⟩) ?_
          refine aTP 9 rfl (by kernel_rfl) rfl (fun D B L => w_move rfl rfl rfl ⟨rfl, rfl, rfl, rfl⟩) ?_
          refine a_split (d := 78) rfl (fun g7 => by simp [hff _ _ hw, newF] at g7) (fun g7 => ?_)
          try simp only [sQ1, sQ2, sQ3, sQ4, sQ5, sQ6, sQ7, sQ8, ne_eq] at g7
          refine aTk 10 rfl (by kernel_rfl) rfl (q_ofI fun D B L hI => wFA rfl rfl fo40x2 rfl ⟨rfl, rfl, rfl, rfl⟩) ?_
          refine aTk 11 rfl (by kernel_rfl) rfl (q_ofI fun D B L hI => w_load1 rfl rfl lk35 rfl (atL 2 (hI.2.2.1.trans rfl) rfl rfl) ⟨rfl, rfl, rfl, rfl⟩) ?_
          refine aTk 12 rfl (by kernel_rfl) rfl (q_ofI fun D B L hI => w_lenV rfl rfl Tryz.underlying35 rfl ⟨rfl, rfl, rfl, rfl⟩) ?_
          refine aTk 13 rfl (by kernel_rfl) rfl (q_ofI fun D B L hI => w_gtr rfl rfl rfl rfl ⟨rfl, rfl, rfl, rfl⟩) ?_
          refine aTk 14 rfl (by kernel_rfl) rfl (q_ofI fun D B L hI => w_pickF rfl rfl rfl rfl ⟨rfl, rfl, rfl, rfl⟩) ?_
          refine aTP 15 rfl (by kernel_rfl) rfl (fun D B L => w_move rfl rfl rfl ⟨rfl, rfl, rfl, rfl⟩) ?_
          refine a_split (d := 84) rfl (fun g8 => by simp [hff _ _ hw, newF] at g8) (fun g8 => ?_)
          try simp only [sQ1, sQ2, sQ3, sQ4, sQ5, sQ6, sQ7, sQ8, ne_eq] at g8
          refine aTk 16 rfl (by kernel_rfl) rfl (q_ofI fun D B L hI => w_loadN [_, _, _, _, _] rfl rfl lk31 rfl (rowL 0 (hI.2.1.trans rfl) rfl rfl) ⟨rfl, rfl, rfl, rfl⟩) ?_
          refine aTP 17 rfl (by kernel_rfl) rfl (fun D B L => w_move rfl rfl rfl ⟨rfl, rfl, rfl, rfl⟩) ?_
          refine aTP 18 rfl (by kernel_rfl) rfl (fun D B L => w_move rfl rfl rfl ⟨rfl, rfl, rfl, rfl⟩) ?_
          obtain ⟨_, ⟨rfl, hb14, hb14b⟩, hc14⟩ := hua.elem hw
          refine aTk 19 rfl (by kernel_rfl) rfl (q_ofI fun D B L hI => w_ixB rfl rfl Tryz.underlying23 sz44 rfl rfl (by first | omega | (simp; done) | (simp; omega)) (by first | omega | (simp; done) | (simp; omega)) ⟨rfl, rfl, rfl, rfl⟩) ?_
          refine aTk 20 rfl (by kernel_rfl) rfl (q_ofI fun D B L hI => wFA rfl rfl fo44x0 rfl ⟨rfl, rfl, rfl, rfl⟩) ?_
          refine aTk 21 rfl (by kernel_rfl) rfl (q_ofI fun D B L hI => w_load1 rfl rfl lk9 rfl ((hc14.mono hI.1) _ 0 _ rfl) ⟨rfl, rfl, rfl, rfl⟩) ?_
          refine aOne 22 (by kernel_rfl) rfl (by kernel_rfl) (w_callP rfl rfl en20 rfl (hostUsed_c hJ _ _ _ _ _ _ (hostNew da usa).1 w.name (by first | assumption | omega | (simp; done) | (simp; omega)) (by first | assumption | omega | (simp; done) | (simp; omega)) _ hub hfb hib) ?_)
          intro v15 B15 hle15
          rintro rfl
          replace hua := hua.mono UserR.mono hle15
          replace hm12 := hm12.mono MailR.mono hle15
          replace hg12 := hg12.mono GrantR.mono hle15
          replace hub := hub.mono UserR.mono hle15
          replace hfb := hfb.mono FolderR.mono hle15
          replace hib := hib.mono ItemR.mono hle15
          replace hc14 := hc14.mono hle15
          replace huc := huc.mono UserR.mono hle15
          replace hfc := hfc.mono FolderR.mono hle15
          replace hic := hic.mono ItemR.mono hle15
          refine ⟨⟨hle15, ⟨rfl, rfl, trivial⟩⟩, ?_⟩
          refine aTk 23 rfl (by kernel_rfl) rfl (q_ofI fun D B L hI => w_neqI rfl rfl rfl rfl ⟨rfl, rfl, rfl, rfl⟩) ?_
          refine aTk 24 rfl (by kernel_rfl) rfl (q_ofI fun D B L hI => w_pickF rfl rfl rfl rfl ⟨rfl, rfl, rfl, rfl⟩) ?_
          refine any_done (by kernel_rfl) (by kernel_rfl) ?_
          refine thn_n ?_
          refine wKp [(0, _), (3, _), (4, _), (5, _), (6, _), (7, _), (8, _), (9, _), (10, _), (11, _), (14, _), (44, _), (56, _), (93, _)] ⟨rfl, rfl, rfl, rfl, rfl, rfl, rfl, rfl, rfl, rfl, rfl, rfl, rfl, rfl, trivial⟩ ?_
          refine wCd rfl (fun g9 => by simp [hus _ _ hw] at g9) (fun g9 => ?_)
          try simp only [sQ1, sQ2, sQ3, sQ4, sQ5, sQ6, sQ7, sQ8, ne_eq] at g9
          refine w_skip ?_
          refine inB_n (thn_n ?_)
          refine w_region ?_
          refine xMv ?_
          refine oX (w_add rfl rfl rfl rfl (by first | exact wrI64 (by first | omega | (simp; done) | (simp; omega)) (by first | omega | (simp; done) | (simp; omega)) | rfl) ?_)
          refine xAs ?_
          exact rndE_n (k + 1) [0, 1] (by first | omega | (simp only []; omega)) (by omega) ⟨rfl, rfl, rfl, rfl, rfl, rfl, rfl, rfl, rfl, rfl, trivial⟩ rfl
        · skip
          refine (w_alloc (l := [_, _, _, _, _]) rfl rfl zo40 rfl (fun b16 => ?_))
          refine ⟨⟨Kn.le.refl _, ⟨rfl, trivial⟩⟩, ?_⟩
          refine aOne 6 (by kernel_rfl) rfl (by kernel_rfl) (w_callP rfl rfl en19 rfl (hostFolder_c hJ _ _ _ _ _ _ ((hostNew da usa).1) w.name [105, 110, 98, 111, 120] (by first | assumption | omega | (simp; done) | (simp; omega)) (by first | assumption | omega | (simp; done) | (simp; omega)) (by first | assumption | omega | (simp; done) | (simp; omega)) _ hub hfb hib) ?_)
          intro v17 B17 hle17
          rintro ⟨qa17, ca17, qb17, cb17, rfl, hg17, hm17⟩
          replace hua := hua.mono UserR.mono hle17
          replace hub := hub.mono UserR.mono hle17
          replace hfb := hfb.mono FolderR.mono hle17
          replace hib := hib.mono ItemR.mono hle17
          replace hc11 := hc11.mono hle17
          replace huc := huc.mono UserR.mono hle17
          replace hfc := hfc.mono FolderR.mono hle17
          replace hic := hic.mono ItemR.mono hle17
          have hg17n := hg17.len
          have hm17n := hm17.len
          refine ⟨⟨hle17, ⟨rfl, trivial⟩⟩, ?_⟩
          refine aTP 7 rfl (by kernel_rfl) rfl (fun D B L => w_move rfl rfl rfl ⟨rfl, rfl, rfl, rfl⟩) ?_
          refine aTP 8 rfl (by kernel_rfl) rfl (fun D B L => w_extract rfl rfl rfl rfl ⟨rfl, rfl, rfl, rfl⟩) ?_
          refine aTP 9 rfl (by kernel_rfl) rfl (fun D B L => w_extract rfl rfl rfl rfl ⟨rfl, rfl, rfl, rfl⟩) ?_
          refine any_sto 11 (by kernel_rfl) rfl (by kernel_rfl) (by kernel_rfl) (w_store [_, _, _, _, _] 2 [_, _, _, _, _] rfl rfl sz40 rfl rfl rfl rfl rfl rfl rfl rfl ?_)
          refine aTP 12 rfl (by kernel_rfl) rfl (fun D B L => w_assign rfl rfl rfl ⟨rfl, rfl, rfl, rfl⟩) ?_
          refine any_done (by kernel_rfl) (by kernel_rfl) ?_
          refine thn_n ?_
          refine wTd [(0, _), (3, _), (4, _), (5, _), (6, _), (7, _), (8, _), (9, _), (10, _), (11, _), (14, _), (44, _), (56, _)] [_, _, _] ⟨rfl, rfl, rfl, rfl, rfl, rfl, rfl, rfl, rfl, rfl, rfl, rfl, rfl, trivial⟩ rfl ?_
          refine w_seq ?_
          refine w_draw (keeps _ [0, 2] _) mo (by kernel_rfl) ⟨Kn.le.refl _, keepsL.refl _ _⟩ (fun _ _ => ?_)
          refine aTP 0 rfl (by kernel_rfl) rfl (fun D B L => w_move rfl rfl rfl ⟨rfl, rfl, rfl, rfl⟩) ?_
          refine aTk 1 rfl (by kernel_rfl) rfl (q_ofI fun D B L hI => w_not rfl rfl rfl ⟨rfl, rfl, rfl, rfl⟩) ?_
          refine aTP 2 rfl (by kernel_rfl) rfl (fun D B L => w_move rfl rfl rfl ⟨rfl, rfl, rfl, rfl⟩) ?_
          refine a_split (d := 71) rfl (fun g6 => by simp [hff _ _ hw] at g6) (fun g6 => ?_)
          try simp only [sQ1, sQ2, sQ3, sQ4, sQ5, sQ6, sQ7, sQ8, ne_eq] at g6
          refine aTk 3 rfl (by kernel_rfl) rfl (q_ofI fun D B L hI => wFA rfl rfl fo40x3 rfl ⟨rfl, rfl, rfl, rfl⟩) ?_
          refine aTk 4 rfl (by kernel_rfl) rfl (q_ofI fun D B L hI => wFA rfl rfl fo38x1 rfl ⟨rfl, rfl, rfl, rfl⟩) ?_
          refine aTk 5 rfl (by kernel_rfl) rfl (q_ofI fun D B L hI => w_load1 rfl rfl lk36 rfl (atL 2 (hI.2.2.1.trans rfl) rfl rfl) ⟨rfl, rfl, rfl, rfl⟩) ?_
          refine aTk 6 rfl (by kernel_rfl) rfl (q_ofI fun D B L hI => w_lenV rfl rfl Tryz.underlying36 rfl ⟨rfl, rfl, rfl, rfl⟩) ?_
          refine aTk 7 rfl (by kernel_rfl) rfl (q_ofI fun D B L hI => w_gtr rfl rfl rfl rfl ⟨rfl, rfl, rfl, rfl⟩) ?_
          refine aTk 8 rfl (by kernel_rfl) rfl (q_ofI fun D B L hI => w_pickF rfl rfl rfl rfl ⟨rfl, rfl, rfl, rfl⟩) ?_
          refine aTP 9 rfl (by kernel_rfl) rfl (fun D B L => w_move rfl rfl rfl ⟨rfl, rfl, rfl, rfl⟩) ?_
          refine a_split (d := 78) rfl (fun g7 => by simp [hff _ _ hw, newF] at g7) (fun g7 => ?_)
          try simp only [sQ1, sQ2, sQ3, sQ4, sQ5, sQ6, sQ7, sQ8, ne_eq] at g7
          refine aTk 10 rfl (by kernel_rfl) rfl (q_ofI fun D B L hI => wFA rfl rfl fo40x2 rfl ⟨rfl, rfl, rfl, rfl⟩) ?_
          refine aTk 11 rfl (by kernel_rfl) rfl (q_ofI fun D B L hI => w_load1 rfl rfl lk35 rfl (atL 2 (hI.2.2.1.trans rfl) rfl rfl) ⟨rfl, rfl, rfl, rfl⟩) ?_
          refine aTk 12 rfl (by kernel_rfl) rfl (q_ofI fun D B L hI => w_lenV rfl rfl Tryz.underlying35 rfl ⟨rfl, rfl, rfl, rfl⟩) ?_
          refine aTk 13 rfl (by kernel_rfl) rfl (q_ofI fun D B L hI => w_gtr rfl rfl rfl rfl ⟨rfl, rfl, rfl, rfl⟩) ?_
          refine aTk 14 rfl (by kernel_rfl) rfl (q_ofI fun D B L hI => w_pickF rfl rfl rfl rfl ⟨rfl, rfl, rfl, rfl⟩) ?_
          refine aTP 15 rfl (by kernel_rfl) rfl (fun D B L => w_move rfl rfl rfl ⟨rfl, rfl, rfl, rfl⟩) ?_
          refine a_split (d := 84) rfl (fun g8 => by simp [hff _ _ hw, newF] at g8) (fun g8 => ?_)
          try simp only [sQ1, sQ2, sQ3, sQ4, sQ5, sQ6, sQ7, sQ8, ne_eq] at g8
          refine aTk 16 rfl (by kernel_rfl) rfl (q_ofI fun D B L hI => w_loadN [_, _, _, _, _] rfl rfl lk31 rfl (rowL 0 (hI.2.1.trans rfl) rfl rfl) ⟨rfl, rfl, rfl, rfl⟩) ?_
          refine aTP 17 rfl (by kernel_rfl) rfl (fun D B L => w_move rfl rfl rfl ⟨rfl, rfl, rfl, rfl⟩) ?_
          refine aTP 18 rfl (by kernel_rfl) rfl (fun D B L => w_move rfl rfl rfl ⟨rfl, rfl, rfl, rfl⟩) ?_
          obtain ⟨_, ⟨rfl, hb18, hb18b⟩, hc18⟩ := hua.elem hw
          refine aTk 19 rfl (by kernel_rfl) rfl (q_ofI fun D B L hI => w_ixB rfl rfl Tryz.underlying23 sz44 rfl rfl (by first | omega | (simp; done) | (simp; omega)) (by first | omega | (simp; done) | (simp; omega)) ⟨rfl, rfl, rfl, rfl⟩) ?_
          refine aTk 20 rfl (by kernel_rfl) rfl (q_ofI fun D B L hI => wFA rfl rfl fo44x0 rfl ⟨rfl, rfl, rfl, rfl⟩) ?_
          refine aTk 21 rfl (by kernel_rfl) rfl (q_ofI fun D B L hI => w_load1 rfl rfl lk9 rfl ((hc18.mono hI.1) _ 0 _ rfl) ⟨rfl, rfl, rfl, rfl⟩) ?_
          refine aOne 22 (by kernel_rfl) rfl (by kernel_rfl) (w_callP rfl rfl en20 rfl (hostUsed_c hJ _ _ _ _ _ _ (hostNew da usa).1 w.name (by first | assumption | omega | (simp; done) | (simp; omega)) (by first | assumption | omega | (simp; done) | (simp; omega)) _ hub hfb hib) ?_)
          intro v19 B19 hle19
          rintro rfl
          replace hua := hua.mono UserR.mono hle19
          replace hm17 := hm17.mono MailR.mono hle19
          replace hg17 := hg17.mono GrantR.mono hle19
          replace hub := hub.mono UserR.mono hle19
          replace hfb := hfb.mono FolderR.mono hle19
          replace hib := hib.mono ItemR.mono hle19
          replace hc18 := hc18.mono hle19
          replace huc := huc.mono UserR.mono hle19
          replace hfc := hfc.mono FolderR.mono hle19
          replace hic := hic.mono ItemR.mono hle19
          refine ⟨⟨hle19, ⟨rfl, rfl, trivial⟩⟩, ?_⟩
          refine aTk 23 rfl (by kernel_rfl) rfl (q_ofI fun D B L hI => w_neqI rfl rfl rfl rfl ⟨rfl, rfl, rfl, rfl⟩) ?_
          refine aTk 24 rfl (by kernel_rfl) rfl (q_ofI fun D B L hI => w_pickF rfl rfl rfl rfl ⟨rfl, rfl, rfl, rfl⟩) ?_
          refine any_done (by kernel_rfl) (by kernel_rfl) ?_
          refine thn_n ?_
          refine wKp [(0, _), (3, _), (4, _), (5, _), (6, _), (7, _), (8, _), (9, _), (10, _), (11, _), (14, _), (44, _), (56, _), (93, _)] ⟨rfl, rfl, rfl, rfl, rfl, rfl, rfl, rfl, rfl, rfl, rfl, rfl, rfl, rfl, trivial⟩ ?_
          refine wCd rfl (fun g9 => by simp [hus _ _ hw] at g9) (fun g9 => ?_)
          try simp only [sQ1, sQ2, sQ3, sQ4, sQ5, sQ6, sQ7, sQ8, ne_eq] at g9
          refine w_skip ?_
          refine inB_n (thn_n ?_)
          refine w_region ?_
          refine xMv ?_
          refine oX (w_add rfl rfl rfl rfl (by first | exact wrI64 (by first | omega | (simp; done) | (simp; omega)) (by first | omega | (simp; done) | (simp; omega)) | rfl) ?_)
          refine xAs ?_
          exact rndE_n (k + 1) [0, 1] (by first | omega | (simp only []; omega)) (by omega) ⟨rfl, rfl, rfl, rfl, rfl, rfl, rfl, rfl, rfl, rfl, trivial⟩ rfl
      · try simp only [sQ1, sQ2, sQ3, sQ4, sQ5, sQ6, sQ7, sQ8, ne_eq] at g5
        refine w_exit (thn_x (rndE_x (inB_hit (thn_n ?_))))
        refine wSR ?_
        refine oX (w_loadN [_, _, _, _, _] rfl rfl lk31 rfl (rowL 0 rfl rfl rfl) ?_)
        refine oX (w_callP rfl rfl en21 rfl (hostValid_c hJ _ _ _ _ _ _ (hostNew da usa).1 (by first | assumption | omega | (simp; done) | (simp; omega)) _ hub hfb hib) ?_)
        intro v20 B20 hle20
        rintro rfl
        replace hua := hua.mono UserR.mono hle20
        replace hub := hub.mono UserR.mono hle20
        replace hfb := hfb.mono FolderR.mono hle20
        replace hib := hib.mono ItemR.mono hle20
        replace huc := huc.mono UserR.mono hle20
        replace hfc := hfc.mono FolderR.mono hle20
        replace hic := hic.mono ItemR.mono hle20
        refine xMv ?_
        refine r_split (d := 96) rfl (fun ga => ?_) (fun ga => by simp [hnn, hok] at ga)
        try simp only [sQ1, sQ2, sQ3, sQ4, sQ5, sQ6, sQ7, sQ8, ne_eq] at ga
        refine oX (wFA rfl rfl fo31x2 rfl ?_)
        refine oX (w_load1 rfl rfl lk26 rfl (atL 0 rfl rfl rfl) ?_)
        refine oX (w_lenV rfl rfl Tryz.underlying26 rfl ?_)
        refine xMv ?_
        refine oX (w_lenV rfl rfl Tryz.underlying23 rfl ?_)
        refine oX (w_eqlI rfl rfl rfl rfl ?_)
        refine oX (w_pickT rfl rfl rfl rfl ?_)
        refine xMv ?_
        refine r_split (d := 104) rfl (fun gb => ?_) (fun gb => by simp [hnn, newH] at gb)
        try simp only [sQ1, sQ2, sQ3, sQ4, sQ5, sQ6, sQ7, sQ8, ne_eq] at gb
        refine oX (wFA rfl rfl fo31x3 rfl ?_)
        refine oX (wFA rfl rfl fo29x1 rfl ?_)
        refine oX (w_load1 rfl rfl lk27 rfl (atL 0 rfl rfl rfl) ?_)
        refine oX (w_lenV rfl rfl Tryz.underlying27 rfl ?_)
        refine oX (w_eqlI rfl rfl rfl rfl ?_)
        refine oX (w_pickT rfl rfl rfl rfl ?_)
        refine xAs ?_
        refine wKp [(0, _), (2, _), (3, _), (4, _), (5, _), (6, _), (7, _), (8, _), (9, _), (14, _), (44, _), (56, _)] ⟨rfl, rfl, rfl, rfl, rfl, rfl, rfl, rfl, rfl, rfl, rfl, rfl, trivial⟩ ?_
        refine w_ret ?_
        exact end0 .ret (.inl rfl) [_] ⟨rfl, trivial⟩ (bool_eq (by simp [hnn, newH]))

end Go.Proofs.YtgbecfimpgknnaaGreat
