/-
  WHAT THE FUNCTIONS THAT THE LAWS REACH COMPUTE: each function's contract, proved off its printed body (the text is written by program). No condition beyond those that each theorem states.
-/
import Derived.Test.YtjechkhbcnpmfaaC1
namespace Go.Proofs.Ytjechkhbcnpmfaa
open Go Go.BL
set_option linter.unusedVariables false
set_option linter.unusedSimpArgs false
variable {J : JoinT}
set_option maxRecDepth 4000 in
set_option maxHeartbeats 400000 in
theorem specNew_c (q : Option Addr) (cp : Nat) (d : Str) (us : List DUser) (hd : d.length ≤ 2000000) (hl : us.length ≤ 1000000) (B : Kn) (hu : SlK B q cp 3 UserR us) : CallsB (pj J) 6 [str d, .slice q us.length cp] B [] (fun v B' Ls => Ls = [] ∧ ∃ q1 c1 q2 c2 q3 c3, v = .tuple #[.agg #[str (hostNew d us).1.domain, .slice q1 (hostNew d us).1.users.length c1, .slice q2 (hostNew d us).1.folders.length c2, .int .i64 (hostNew d us).1.queue.next, .slice q3 (hostNew d us).1.queue.items.length c3], .bool (hostNew d us).2] ∧ SlK B' q1 c1 3 UserR (hostNew d us).1.users ∧ SlK B' q2 c2 5 FolderR (hostNew d us).1.folders ∧ SlK B' q3 c3 4 ItemR (hostNew d us).1.queue.items) := by
  refine cBB 41 Try.func6 rfl rfl rfl (Nat.le_of_ble_eq_true rfl) ?_
  have hun := hu.len
  refine wSR ?_
  refine oX (w_alloc (l := [_, _, _, _, _]) rfl rfl zo31 rfl (fun b1 => ?_))
  refine xAs ?_
  refine wTd [(0, _), (1, _), (4, _), (5, _)] [_] ⟨rfl, rfl, rfl, rfl, trivial⟩ rfl ?_
  refine wSR ?_
  refine xMv ?_
  refine oX (wBS (parts := []) [] rfl rfl Try.underlying23 sz43 zo43 rfl rfl rfl rfl rfl (fun b2 => ?_))
  refine xMv ?_
  refine oX (w_appR (R := UserR) 1 rfl (VecR.lit0 (R := UserR)) rfl rfl rfl eo23 su23 rfl rfl rfl hu.rows UserR.one rfl (by first | omega | (simp; done) | (simp; omega)) (fun l3 p3 c3 hv3 => ?_))
  refine oX (wBS (parts := []) [] rfl rfl Try.underlying26 sz49 zo49 rfl rfl rfl rfl rfl (fun b4 => ?_))
  refine oX (wBS (parts := []) [] rfl rfl Try.underlying27 sz71 zo71 rfl rfl rfl rfl rfl (fun b5 => ?_))
  refine oX (w_build (parts := [(0, _), (1, _)]) [_, _] [_, _] rfl rfl pl29 zo29 rfl rfl rfl ?_)
  refine oX (w_build (parts := [(0, _), (1, _), (2, _), (3, _)]) [_, _, _, _, _] [_, _, _, _, _] rfl rfl pl31 zo31 rfl rfl rfl ?_)
  refine oX (w_alloc (l := [_, _, _, _, _]) rfl rfl zo31 rfl (fun b6 => ?_))
  refine oX (w_store [_, _, _, _, _] 4 [_, _, _, _, _] rfl rfl sz31 rfl rfl rfl rfl rfl rfl rfl rfl ?_)
  refine wTd [(0, _), (1, _), (4, _), (5, _), (6, _)] [_, _, _, _, _] ⟨rfl, rfl, rfl, rfl, rfl, trivial⟩ rfl ?_
  refine w_seq ?_
  refine wSR ?_
  refine xAs ?_
  refine wKp [(0, _), (1, _), (4, _), (5, _), (6, _), (7, _)] ⟨rfl, rfl, rfl, rfl, rfl, rfl, trivial⟩ ?_
  refine w_block ?_
  refine w_loopE (α := Gh DFolder) [0, 1, 4, 5, 6] (fun g => [(7, .int .i64 g.k)]) [2, 4] (fun g => [g.l, box1 b6 [str d, .slice p3 us.length c3, .slice g.a g.xs.length g.c, .int .i64 1, .slice (some ⟨b5, 0, none⟩) 0 0] 31]) (fun g Bx => g.k ≤ us.length ∧ g.xs = (us.take g.k).map (fun u => newF u.name) ∧ VecR Bx g.l g.a g.c 49 5 FolderR g.xs) (fun g => us.length - g.k) ⟨0, 0, _, _, _, []⟩ ⟨rfl, trivial⟩ rfl (⟨Nat.zero_le _, by simp, VecR.lit0⟩) (fun g B7 hle7 hI => ?_)
  obtain ⟨hk, hx, hv⟩ := hI
  have hgl : g.xs.length ≤ us.length := by rw [hx, List.length_map, List.length_take]; omega
  replace hu := hu.mono UserR.mono hle7
  replace hv3 := hv3.mono UserR.mono hle7
  refine wTd [(0, _), (1, _), (4, _), (5, _), (6, _), (7, _)] [_, _, _, _, _] ⟨rfl, rfl, rfl, rfl, rfl, rfl, trivial⟩ rfl ?_
  refine w_seq ?_
  refine wSR ?_
  refine xMv ?_
  refine xMv ?_
  refine oX (w_lenV rfl rfl Try.underlying23 rfl ?_)
  refine oX (w_lss rfl rfl rfl rfl ?_)
  refine wKp [(0, _), (1, _), (4, _), (5, _), (6, _), (7, _), (19, _)] ⟨rfl, rfl, rfl, rfl, rfl, rfl, rfl, trivial⟩ ?_
  refine wCd rfl (fun g3 => ?_) (fun g3 => ?_)
  · try simp only [sQ1, sQ2, sQ3, sQ4, sQ5, sQ6, sQ7, sQ8, ne_eq] at g3
    refine w_skip ?_
    refine thn_n ?_
    refine w_seq ?_
    refine w_block ?_
    refine w_draw (keeps _ [4] _) mo (by kernel_rfl) ⟨Kn.le.refl _, keepsL.refl _ _⟩ (fun _ _ => ?_)
    refine aTk 0 rfl (by kernel_rfl) rfl (q_ofI fun D B L hI => wFA rfl rfl fo31x2 rfl ⟨rfl, rfl, rfl, rfl⟩) ?_
    refine aTk 1 rfl (by kernel_rfl) rfl (q_ofI fun D B L hI => w_load1 rfl rfl lk26 rfl (atL 4 (hI.2.1.trans rfl) rfl rfl) ⟨rfl, rfl, rfl, rfl⟩) ?_
    refine aTP 2 rfl (by kernel_rfl) rfl (fun D B L => w_move rfl rfl rfl ⟨rfl, rfl, rfl, rfl⟩) ?_
    refine aTP 3 rfl (by kernel_rfl) rfl (fun D B L => w_move rfl rfl rfl ⟨rfl, rfl, rfl, rfl⟩) ?_
    obtain ⟨w, hw⟩ := getLt (xs := us) (i := g.k) (by first | omega | (simp; done) | (simp; omega))
    obtain ⟨bb9, oo9, rfl⟩ := hu.base hw
    obtain ⟨_, ⟨rfl, hb10, hb10b⟩, hc10⟩ := hu.elem hw
    refine aTk 4 rfl (by kernel_rfl) rfl (q_ofI fun D B L hI => w_ixB rfl rfl Try.underlying23 sz43 rfl rfl (by first | omega | (simp; done) | (simp; omega)) (by first | omega | (simp; done) | (simp; omega)) ⟨rfl, rfl, rfl, rfl⟩) ?_
    refine aTk 5 rfl (by kernel_rfl) rfl (q_ofI fun D B L hI => wFA rfl rfl fo43x0 rfl ⟨rfl, rfl, rfl, rfl⟩) ?_
    refine aTk 6 rfl (by kernel_rfl) rfl (q_ofI fun D B L hI => w_load1 rfl rfl lk9 rfl ((hc10.mono hI.1) _ 0 _ rfl) ⟨rfl, rfl, rfl, rfl⟩) ?_
    refine any_all [7, 8] (by kernel_rfl) (by kernel_rfl) (by kernel_rfl) ⟨?_, ?_⟩
    · skip
      refine (wBS (parts := []) [] rfl rfl Try.underlying44 sz90 zo90 rfl rfl rfl rfl rfl (fun b11 => ?_))
      refine ⟨⟨Kn.le.refl _, ⟨rfl, trivial⟩⟩, ?_⟩
      refine a_pubK 5 rfl (VecR.lit0 (R := GrantR) (w := 2)) GrantR.mono (by first | omega | decide | (simp; done) | (simp; omega)) (fun B' hle' => ⟨hle', ⟨rfl, trivial⟩⟩) (fun B12 hle12 hr12 => ?_)
      replace hu := hu.mono UserR.mono hle12
      replace hc10 := hc10.mono hle12
      replace hv3 := hv3.mono UserR.mono hle12
      replace hv := hv.mono FolderR.mono hle12
      have hr12n := hr12.len
      refine aOne 8 (by kernel_rfl) rfl (by kernel_rfl) (wBS (parts := []) [] rfl rfl Try.underlying45 sz93 zo93 rfl rfl rfl rfl rfl (fun b13 => ?_))
      refine ⟨⟨hle12, ⟨rfl, trivial⟩⟩, ?_⟩
      refine a_pubK 6 rfl (VecR.lit0 (R := MailR) (w := 3)) MailR.mono (by first | omega | decide | (simp; done) | (simp; omega)) (fun B' hle' => ⟨hle12.trans hle', ⟨rfl, trivial⟩⟩) (fun B14 hle14 hr14 => ?_)
      replace hu := hu.mono UserR.mono hle14
      replace hc10 := hc10.mono hle14
      replace hr12 := hr12.mono GrantR.mono hle14
      replace hv3 := hv3.mono UserR.mono hle14
      replace hv := hv.mono FolderR.mono hle14
      have hr14n := hr14.len
      refine aTk 9 rfl (by kernel_rfl) rfl (q_ofI fun D B L hI => w_build (parts := [(0, _), (1, _)]) [_, _] [_, _] rfl rfl pl47 zo47 rfl rfl rfl ⟨rfl, rfl, rfl, rfl⟩) ?_
      refine aTk 10 rfl (by kernel_rfl) rfl (q_ofI fun D B L hI => w_build (parts := [(0, _), (1, _), (2, _), (3, _)]) [_, _, _, _, _] [_, _, _, _, _] rfl rfl pl49 zo49 rfl rfl rfl ⟨rfl, rfl, rfl, rfl⟩) ?_
      refine aOne 11 (by kernel_rfl) rfl (by kernel_rfl) (wBS (parts := [(0, _)]) [_, _, _, _, _] rfl rfl Try.underlying26 sz49 zo49 rfl rfl rfl rfl rfl (fun b15 => ?_))
      refine ⟨⟨(hle12.trans hle14), ⟨rfl, trivial⟩⟩, ?_⟩
      refine aOne 12 (by kernel_rfl) rfl (by kernel_rfl) (w_app1 (z := ⟨w.name, [105, 110, 98, 111, 120], [], 1, []⟩) (R := FolderR) 2 rfl hv rfl rfl rfl eo26 su26 rfl rfl (SrcAt.box 7 rfl) rfl rfl (⟨_, _, _, _, rfl, hr12, hr14, by first | assumption | omega | (simp; done) | (simp; omega), by first | assumption | omega | (simp; done) | (simp; omega)⟩) (by first | omega | (simp; done) | (simp; omega)) (fun l16 p16 c16 hv16 => ?_))
      refine ⟨⟨(hle12.trans hle14), ⟨rfl, trivial⟩⟩, ?_⟩
      refine aTk 13 rfl (by kernel_rfl) rfl (q_ofI fun D B L hI => wFA rfl rfl fo31x2 rfl ⟨rfl, rfl, rfl, rfl⟩) ?_
      refine any_fin 14 (by kernel_rfl) rfl (by kernel_rfl) (by kernel_rfl) (by kernel_rfl) (w_store [_] 4 [_, _, _, _, _] rfl rfl sz26 rfl rfl rfl rfl rfl rfl rfl rfl ?_)
      refine inB_n (thn_n ?_)
      refine w_region ?_
      refine xMv ?_
      refine oX (w_add rfl rfl rfl rfl (by first | exact wrI64 (by first | omega | (simp; done) | (simp; omega)) (by first | omega | (simp; done) | (simp; omega)) | rfl) ?_)
      refine xAs ?_
      exact rndE_n ⟨g.k + 1, 0, l16, p16, c16, (g.xs ++ [⟨w.name, [105, 110, 98, 111, 120], [], 1, []⟩])⟩ [0, 1, 2, 3, 4] (by first | omega | (simp only []; omega)) ⟨by simp only []; omega, by rw [List.take_add_one, hw]; simp [hx, newF, inbox], hv16⟩ ⟨rfl, rfl, rfl, rfl, rfl, rfl, trivial⟩ rfl
    · skip
      refine (wBS (parts := []) [] rfl rfl Try.underlying45 sz93 zo93 rfl rfl rfl rfl rfl (fun b17 => ?_))
      refine ⟨⟨Kn.le.refl _, ⟨rfl, trivial⟩⟩, ?_⟩
      refine aTk 9 rfl (by kernel_rfl) rfl (q_ofI fun D B L hI => w_build (parts := [(0, _), (1, _)]) [_, _] [_, _] rfl rfl pl47 zo47 rfl rfl rfl ⟨rfl, rfl, rfl, rfl⟩) ?_
      refine aOne 7 (by kernel_rfl) rfl (by kernel_rfl) (wBS (parts := []) [] rfl rfl Try.underlying44 sz90 zo90 rfl rfl rfl rfl rfl (fun b18 => ?_))
      refine ⟨⟨Kn.le.refl _, ⟨rfl, trivial⟩⟩, ?_⟩
      refine a_pubK 6 rfl (VecR.lit0 (R := GrantR) (w := 2)) GrantR.mono (by first | omega | decide | (simp; done) | (simp; omega)) (fun B' hle' => ⟨hle', ⟨rfl, trivial⟩⟩) (fun B19 hle19 hr19 => ?_)
      replace hu := hu.mono UserR.mono hle19
      replace hc10 := hc10.mono hle19
      replace hv3 := hv3.mono UserR.mono hle19
      replace hv := hv.mono FolderR.mono hle19
      have hr19n := hr19.len
      refine a_pubK 5 rfl (VecR.lit0 (R := MailR) (w := 3)) MailR.mono (by first | omega | decide | (simp; done) | (simp; omega)) (fun B' hle' => ⟨hle19.trans hle', ⟨rfl, trivial⟩⟩) (fun B20 hle20 hr20 => ?_)
      replace hu := hu.mono UserR.mono hle20
      replace hc10 := hc10.mono hle20
      replace hr19 := hr19.mono GrantR.mono hle20
      replace hv3 := hv3.mono UserR.mono hle20
      replace hv := hv.mono FolderR.mono hle20
      have hr20n := hr20.len
      refine aTk 10 rfl (by kernel_rfl) rfl (q_ofI fun D B L hI => w_build (parts := [(0, _), (1, _), (2, _), (3, _)]) [_, _, _, _, _] [_, _, _, _, _] rfl rfl pl49 zo49 rfl rfl rfl ⟨rfl, rfl, rfl, rfl⟩) ?_
      refine aOne 11 (by kernel_rfl) rfl (by kernel_rfl) (wBS (parts := [(0, _)]) [_, _, _, _, _] rfl rfl Try.underlying26 sz49 zo49 rfl rfl rfl rfl rfl (fun b21 => ?_))
      refine ⟨⟨(hle19.trans hle20), ⟨rfl, trivial⟩⟩, ?_⟩
      refine aOne 12 (by kernel_rfl) rfl (by kernel_rfl) (w_app1 (z := ⟨w.name, [105, 110, 98, 111, 120], [], 1, []⟩) (R := FolderR) 2 rfl hv rfl rfl rfl eo26 su26 rfl rfl (SrcAt.box 7 rfl) rfl rfl (⟨_, _, _, _, rfl, hr19, hr20, by first | assumption | omega | (simp; done) | (simp; omega), by first | assumption | omega | (simp; done) | (simp; omega)⟩) (by first | omega | (simp; done) | (simp; omega)) (fun l22 p22 c22 hv22 => ?_))
      refine ⟨⟨(hle19.trans hle20), ⟨rfl, trivial⟩⟩, ?_⟩
      refine aTk 13 rfl (by kernel_rfl) rfl (q_ofI fun D B L hI => wFA rfl rfl fo31x2 rfl ⟨rfl, rfl, rfl, rfl⟩) ?_
      refine any_fin 14 (by kernel_rfl) rfl (by kernel_rfl) (by kernel_rfl) (by kernel_rfl) (w_store [_] 4 [_, _, _, _, _] rfl rfl sz26 rfl rfl rfl rfl rfl rfl rfl rfl ?_)
      refine inB_n (thn_n ?_)
      refine w_region ?_
      refine xMv ?_
      refine oX (w_add rfl rfl rfl rfl (by first | exact wrI64 (by first | omega | (simp; done) | (simp; omega)) (by first | omega | (simp; done) | (simp; omega)) | rfl) ?_)
      refine xAs ?_
      exact rndE_n ⟨g.k + 1, 0, l22, p22, c22, (g.xs ++ [⟨w.name, [105, 110, 98, 111, 120], [], 1, []⟩])⟩ [0, 1, 2, 3, 4] (by first | omega | (simp only []; omega)) ⟨by simp only []; omega, by rw [List.take_add_one, hw]; simp [hx, newF, inbox], hv22⟩ ⟨rfl, rfl, rfl, rfl, rfl, rfl, trivial⟩ rfl
  · try simp only [sQ1, sQ2, sQ3, sQ4, sQ5, sQ6, sQ7, sQ8, ne_eq] at g3
    have he : (us.map fun u => newF u.name) = g.xs := by rw [hx, List.take_of_length_le (by omega)]
    have hne : (⟨d, us, g.xs, ⟨1, []⟩⟩ : DHost) = newH d us := by rw [newH, he]
    refine w_exit (thn_x (rndE_x (inB_hit (thn_n ?_))))
    refine w_seq ?_
    refine wSR ?_
    refine oX (w_loadN [_, _, _, _, _] rfl rfl lk31 rfl (rowL 4 rfl rfl rfl) ?_)
    refine r_pubK 1 rfl hv3 UserR.mono (by first | omega | decide | (simp; done) | (simp; omega)) (fun B23 hle23 hr23 => ?_)
    replace hu := hu.mono UserR.mono hle23
    replace hv := hv.mono FolderR.mono hle23
    have hr23n := hr23.len
    refine r_pubK 2 rfl hv FolderR.mono (by first | omega | decide | (simp; done) | (simp; omega)) (fun B24 hle24 hr24 => ?_)
    replace hu := hu.mono UserR.mono hle24
    replace hr23 := hr23.mono UserR.mono hle24
    have hr24n := hr24.len
    refine r_pubK 3 rfl (VecR.lit0 (R := ItemR) (w := 4)) ItemR.mono (by first | omega | decide | (simp; done) | (simp; omega)) (fun B25 hle25 hr25 => ?_)
    replace hu := hu.mono UserR.mono hle25
    replace hr23 := hr23.mono UserR.mono hle25
    replace hr24 := hr24.mono FolderR.mono hle25
    have hr25n := hr25.len
    refine oX (w_retB rfl rfl en14 rfl (specHost_c _ _ _ _ _ _ (⟨d, us, g.xs, ⟨1, []⟩⟩ : DHost) (by first | assumption | omega | (simp; done) | (simp; omega)) _ hr23 hr24 hr25) ?_)
    refine oX (w_not rfl rfl rfl ?_)
    refine wTd [(0, _), (1, _), (4, _), (5, _), (6, _), (7, _), (19, _), (38, _)] [_, _, _, _, _] ⟨rfl, rfl, rfl, rfl, rfl, rfl, rfl, rfl, trivial⟩ rfl ?_
    refine wCd rfl (fun g4 => ?_) (fun g4 => ?_)
    · try simp only [sQ1, sQ2, sQ3, sQ4, sQ5, sQ6, sQ7, sQ8, ne_eq] at g4
      rw [hostNew_no (by rw [← hne]; simpa using g4)]
      refine wSR ?_
      refine oX (w_build (parts := []) [_, _, _, _, _] [_, _, _, _, _] rfl rfl pl31 zo31 rfl rfl rfl ?_)
      refine oX (w_store [_, _, _, _, _] 0 [_, _, _, _, _] rfl rfl sz31 rfl rfl rfl rfl rfl rfl rfl rfl ?_)
      refine xAs ?_
      refine wTd [(0, _), (1, _), (4, _), (5, _), (6, _), (7, _), (19, _), (38, _)] [_, _, _, _, _] ⟨rfl, rfl, rfl, rfl, rfl, rfl, rfl, rfl, trivial⟩ rfl ?_
      refine w_ret (thn_r ?_)
      exact endN .ret (.inl rfl) [_, _] [] rfl ⟨⟨_, rfl, .inr ⟨[_, _, _, _, _], lk31, rowL 0 rfl rfl rfl, rfl⟩⟩, rfl, trivial⟩ ⟨rfl, none, 0, none, 0, none, 0, rfl, SlK.nil, SlK.nil, SlK.nil⟩
    · try simp only [sQ1, sQ2, sQ3, sQ4, sQ5, sQ6, sQ7, sQ8, ne_eq] at g4
      refine w_skip ?_
      refine thn_n ?_
      refine wSR ?_
      refine oX (w_loadN [_, _, _, _, _] rfl rfl lk31 rfl (rowL 4 rfl rfl rfl) ?_)
      refine oX (w_store [_, _, _, _, _] 0 [_, _, _, _, _] rfl rfl sz31 rfl rfl rfl rfl rfl rfl rfl rfl ?_)
      refine xAs ?_
      refine wTd [(0, _), (1, _), (4, _), (5, _), (6, _), (7, _), (19, _), (38, _)] [_, _, _, _, _] ⟨rfl, rfl, rfl, rfl, rfl, rfl, rfl, rfl, trivial⟩ rfl ?_
      refine w_ret ?_
      exact endN .ret (.inl rfl) [_, _] [] rfl ⟨⟨_, rfl, .inr ⟨[_, _, _, _, _], lk31, rowL 0 rfl rfl rfl, rfl⟩⟩, rfl, trivial⟩ (by rw [hostNew_yes (by rw [← hne]; simpa using g4), ← hne]; exact ⟨rfl, _, _, _, _, _, _, rfl, hr23, hr24, hr25⟩)

set_option maxRecDepth 4000 in
set_option maxHeartbeats 400000 in
theorem fnNewBad_w (W : World) (q1 : Option Addr) (m1 c1 : Nat) (h1 : m1 ≤ c1) (hb1 : BytesAt (allOf W) q1 m1) : Calls Try.prog 3 [.slice q1 m1 c1].toArray W fun e w' => ∃ v, e = .returned v ∧ Kept W w' ∧ ∃ (B' : Kn) (Ls' : List Cells), Sat B' Ls'.flatten w' ∧ v = .bool true := by
  refine calls_of (args := [.slice q1 m1 c1]) 46 Try.func3 rfl rfl rfl (Nat.le_of_ble_eq_true rfl) ?_
  generalize allOf W = B at hb1 ⊢
  refine wSR ?_
  refine xAs ?_
  refine wKp [(0, _), (2, _)] ⟨rfl, rfl, trivial⟩ ?_
  refine w_seq ?_
  refine wSR ?_
  refine xMv ?_
  refine oX (w_lenV rfl rfl Try.underlying22 rfl ?_)
  refine oX (w_gtr rfl rfl rfl rfl ?_)
  refine wKp [(0, _), (2, _), (11, _)] ⟨rfl, rfl, rfl, trivial⟩ ?_
  refine wCd rfl (fun g1 => ?_) (fun g1 => ?_)
  · try simp only [sQ1, sQ2, sQ3, sQ4, sQ5, sQ6, sQ7, sQ8, ne_eq] at g1
    refine wSR ?_
    refine xAs ?_
    refine wKp [(0, _), (2, _), (11, _)] ⟨rfl, rfl, rfl, trivial⟩ ?_
    refine w_ret (thn_r ?_)
    exact end0 .ret (.inl rfl) [_] ⟨rfl, trivial⟩ (by first | rfl | exact bool_eq (by simp [*]))
  · try simp only [sQ1, sQ2, sQ3, sQ4, sQ5, sQ6, sQ7, sQ8, ne_eq] at g1
    refine w_skip ?_
    refine thn_n ?_
    refine wSR ?_
    refine xMv ?_
    refine oX (w_callP rfl rfl en4 rfl (drawHN_c _ _ _ (by omega) _ (by assumption)) ?_)
    intro va Ba hlea
    rintro ⟨da, aqa, cqa, usa, rfl, hua, huna, hda⟩
    have huan := hua.len
    refine xMv ?_
    refine oX (w_extract rfl rfl rfl rfl ?_)
    refine oX (w_extract rfl rfl rfl rfl ?_)
    refine xAs ?_
    refine xAs ?_
    refine wKp [(0, _), (2, _), (3, _), (4, _), (11, _)] ⟨rfl, rfl, rfl, rfl, rfl, trivial⟩ ?_
    refine wSR ?_
    refine xMv ?_
    refine xMv ?_
    refine oX (w_callP rfl rfl en5 rfl (hostNew_c _ _ da usa (by first | assumption | omega | (simp; done) | (simp; omega)) (by first | assumption | omega | (simp; done) | (simp; omega)) _ hua) ?_)
    intro vb Bb hleb
    rintro ⟨q1b, c1b, q2b, c2b, q3b, c3b, rfl, hub, hfb, hib⟩
    replace hua := hua.mono UserR.mono hleb
    have hubn := hub.len
    have hfbn := hfb.len
    have hibn := hib.len
    refine xMv ?_
    refine oX (w_extract rfl rfl rfl rfl ?_)
    refine oX (w_extract rfl rfl rfl rfl ?_)
    refine oX (w_alloc (l := [_, _, _, _, _]) rfl rfl zo31 rfl (fun b3 => ?_))
    refine oX (w_store [_, _, _, _, _] 0 [_, _, _, _, _] rfl rfl sz31 rfl rfl rfl rfl rfl rfl rfl rfl ?_)
    refine xAs ?_
    refine wTd [(0, _), (2, _), (3, _), (4, _), (5, _), (6, _), (11, _)] [_] ⟨rfl, rfl, rfl, rfl, rfl, rfl, rfl, trivial⟩ rfl ?_
    refine wSR ?_
    refine xMv ?_
    refine xMv ?_
    refine oX (w_callP rfl rfl en6 rfl (specNew_c _ _ da usa (by first | assumption | omega | (simp; done) | (simp; omega)) (by first | assumption | omega | (simp; done) | (simp; omega)) _ hua) ?_)
    intro vc Bc hlec
    rintro ⟨q1c, c1c, q2c, c2c, q3c, c3c, rfl, huc, hfc, hic⟩
    replace hua := hua.mono UserR.mono hlec
    replace hub := hub.mono UserR.mono hlec
    replace hfb := hfb.mono FolderR.mono hlec
    replace hib := hib.mono ItemR.mono hlec
    have hucn := huc.len
    have hfcn := hfc.len
    have hicn := hic.len
    refine xMv ?_
    refine oX (w_extract rfl rfl rfl rfl ?_)
    refine oX (w_extract rfl rfl rfl rfl ?_)
    refine oX (w_alloc (l := [_, _, _, _, _]) rfl rfl zo31 rfl (fun b5 => ?_))
    refine oX (w_store [_, _, _, _, _] 1 [_, _, _, _, _] rfl rfl sz31 rfl rfl rfl rfl rfl rfl rfl rfl ?_)
    refine xAs ?_
    refine wTd [(0, _), (2, _), (3, _), (4, _), (5, _), (6, _), (7, _), (8, _), (11, _)] [_, _] ⟨rfl, rfl, rfl, rfl, rfl, rfl, rfl, rfl, rfl, trivial⟩ rfl ?_
    refine w_seq ?_
    refine wSR ?_
    refine xMv ?_
    refine xMv ?_
    refine oX (w_neqE rfl rfl rfl rfl rfl (eqBool Try.underlying4) ?_)
    refine xMv ?_
    refine r_split (d := 32) rfl (fun g2 => by simp at g2) (fun g2 => ?_)
    try simp only [sQ1, sQ2, sQ3, sQ4, sQ5, sQ6, sQ7, sQ8, ne_eq] at g2
    refine oX (w_loadN [_, _, _, _, _] rfl rfl lk31 rfl (rowL 0 rfl rfl rfl) ?_)
    refine oX (w_loadN [_, _, _, _, _] rfl rfl lk31 rfl (rowL 1 rfl rfl rfl) ?_)
    refine oX (w_retB rfl rfl en7 rfl (sameHost_c _ _ _ _ _ _ _ _ _ _ _ _ ((hostNew da usa).1) ((hostNew da usa).1) _ hub hfb hib huc hfc hic) ?_)
    refine oX (w_not rfl rfl rfl ?_)
    refine oX (w_pickF rfl rfl rfl rfl ?_)
    refine wKp [(0, _), (2, _), (3, _), (4, _), (5, _), (6, _), (7, _), (8, _), (11, _), (37, _)] ⟨rfl, rfl, rfl, rfl, rfl, rfl, rfl, rfl, rfl, rfl, trivial⟩ ?_
    refine wCd rfl (fun g3 => by simp at g3) (fun g3 => ?_)
    try simp only [sQ1, sQ2, sQ3, sQ4, sQ5, sQ6, sQ7, sQ8, ne_eq] at g3
    refine w_skip ?_
    refine thn_n ?_
    refine wSR ?_
    refine xMv ?_
    refine xMv ?_
    refine oX (w_retB rfl rfl en8 rfl (implDomain_c _ (by first | assumption | omega | (simp; done) | (simp; omega)) _) ?_)
    refine xMv ?_
    refine r_split (d := 41) rfl (fun g4 => ?_) (fun g4 => ?_)
    · try simp only [sQ1, sQ2, sQ3, sQ4, sQ5, sQ6, sQ7, sQ8, ne_eq] at g4
      refine xMv ?_
      refine oX (w_retB rfl rfl en9 rfl (implUsers_c _ _ _ _ hua) ?_)
      refine oX (w_pickT rfl rfl rfl rfl ?_)
      refine oX (w_eqlE rfl rfl rfl rfl rfl (eqBool Try.underlying4) ?_)
      refine xAs ?_
      refine wKp [(0, _), (2, _), (3, _), (4, _), (5, _), (6, _), (7, _), (8, _), (11, _), (37, _)] ⟨rfl, rfl, rfl, rfl, rfl, rfl, rfl, rfl, rfl, rfl, trivial⟩ ?_
      refine w_ret ?_
      exact end0 .ret (.inl rfl) [_] ⟨rfl, trivial⟩ (bool_eq (by simp [hostNew_snd, g1, g2, g4]))
    · try simp only [sQ1, sQ2, sQ3, sQ4, sQ5, sQ6, sQ7, sQ8, ne_eq] at g4
      refine oX (w_pass rfl rfl ?_)
      refine oX (w_pass rfl rfl ?_)
      refine oX (w_pickF rfl rfl rfl rfl ?_)
      refine oX (w_eqlE rfl rfl rfl rfl rfl (eqBool Try.underlying4) ?_)
      refine xAs ?_
      refine wKp [(0, _), (2, _), (3, _), (4, _), (5, _), (6, _), (7, _), (8, _), (11, _), (37, _)] ⟨rfl, rfl, rfl, rfl, rfl, rfl, rfl, rfl, rfl, rfl, trivial⟩ ?_
      refine w_ret ?_
      exact end0 .ret (.inl rfl) [_] ⟨rfl, trivial⟩ (bool_eq (by simp [hostNew_snd, g1, g2, g4]))

end Go.Proofs.Ytjechkhbcnpmfaa
