/-
  WHAT THE FUNCTIONS THAT THE LAWS REACH COMPUTE: each function's contract, proved off its printed body (the text is written by program). No condition beyond those that each theorem states.
-/
import Derived.Test.YtonfijmgahdgeaaGreatDoorC0
namespace Go.Proofs.YtonfijmgahdgeaaGreatDoor
open Go Go.BL
set_option linter.unusedVariables false
set_option linter.unusedSimpArgs false
set_option maxRecDepth 4000
set_option maxHeartbeats 6400000
variable {J : JoinT}
theorem Zlb (q1 q2 q3:Option Addr) (c1 c2 c3:Nat) (x:DHost) (B:Kn) (hu:SlK B q1 c1 3 Zp x.users) (hf:SlK B q2 c2 5 Zm x.folders):Z8 (pj J) 73 [.agg #[str x.domain,.slice q1 x.users.length c1,.slice q2 x.folders.length c2,.int .i64 x.queue.next,.slice q3 x.queue.items.length c3]] B (.bool (Zcu x.users x.folders)):=by
 refine cB 60 Tryz.func73 (h:=?_)
 have hfn:=hf.len
 have hun:=hu.len
 refine Za (xBx [_,_,_,_,_] (h:=fun b1=>xA (h:=tL1 (Zc (Za (xA (h:=Zg (Zy (α:=Nat × Option DFolder) [0,1] (fun g=>[(3,.int .i64 g.1)]) [] (fun g=>[]) (fun g Bx=>Bx=B∧g.1≤x.folders.length∧Zdi x.users (x.folders.take g.1)=(true,g.2)∧Prev some none x.folders g.1 g.2) (fun g=>x.folders.length - g.1) (0,none) t1 rfl (⟨rfl,Nat.zero_le _,ZdV,.zero⟩) (fun g B2 hle2 hI=>?_)))))))))
 obtain ⟨rfl,hk,hs,hp⟩:=hI
 refine ZD [(0,_),(1,_),(3,_)] [_] t3 rfl (Zc (Za (xM (h:=xW ZaA (h:=x1 ZeS 0 (h:=xV Tryz.underlying36 (h:=ZG (h:=Zb rfl (fun g1=>?_) (fun g1=>?_)))))))))
 try simp only [sQ,ne_eq] at g1
 refine wSk (Zc (Zg (Za (xW ZaA (h:=x1 ZeS 0 (h:=xM (h:=?_)))))))
 obtain ⟨m,hm⟩:=ZX (xs:=x.folders) (i:=g.1) om
 obtain ⟨bb4,oo4,rfl⟩:=hf.base hm
 obtain ⟨_,⟨qg5,cg5,qm5,cm5,rfl,hg5,hm5,hb5,hb5b⟩,hc5⟩:=hf.elem hm
 have hg5n:=hg5.len
 have hm5n:=hm5.len
 have hm5s:=Zap hm5
 refine xIx Tryz.underlying36 Zb1 (h:=yL [_,_,_,_,_] Ziy hc5 0 (h:=xAl [_,_,_,_,_] Zgx (h:=fun b6=>xS [_,_,_,_,_] 1 [_,_,_,_,_] Zb1 (h:=tL2 (Zc (Z3 (same _ _) mo kr ⟨rfl,rfl⟩ (fun _ _=>?_)))))))
 refine aW 0 rfl Zcg (h:=aT 1 rfl (Zaf fun D=>Zo rfl rfl ZjE rfl (atL 0 rfl rfl rfl) r4) (h:=aW 2 rfl Zcv (h:=aT 3 rfl (Zaf fun D=>Zo rfl rfl lk9 rfl (atL 1 rfl rfl rfl) r4) (h:=aT 4 rfl (Zaf fun D=>Z9 rfl rfl Zx8 rfl (Zgp _ _ _ _ _ hu) r4) (h:=Zt0 5 rfl (h:=aM 6 rfl (h:=ZaF (d:=23) rfl (fun g2=>?_) (fun g2=>?_))))))))
 try simp only [sQ,ne_eq] at g2
 refine aZ 7 rfl (h:=aZ 8 rfl (h:=aZ 9 rfl (h:=aZ 10 rfl (h:=aPT 11 rfl (h:=aM 12 rfl (h:=aZ 13 rfl (h:=aZ 14 rfl (h:=aZ 15 rfl (h:=aZ 16 rfl (h:=aPT 17 rfl (h:=aM 18 rfl (h:=aZ 19 rfl (h:=aZ 20 rfl (h:=aZ 21 rfl (h:=aZ 22 rfl (h:=aPT 23 rfl (h:=aM 24 rfl (h:=aZ 25 rfl (h:=aZ 26 rfl (h:=aZ 27 rfl (h:=aZ 28 rfl (h:=aZ 29 rfl (h:=aZ 30 rfl (h:=aZ 31 rfl (h:=aZ 32 rfl (h:=aZ 33 rfl (h:=aZ 34 rfl (h:=aZ 35 rfl (h:=aZ 36 rfl (h:=aZ 37 rfl (h:=aPT 38 rfl (h:=Zu kr kr ?_))))))))))))))))))))))))))))))))
 refine Zn (Zb (t:=true) rfl (fun _=>Za (xA (h:=Zd (ZA (Zl (ZM (ZA (Zl ?_)))))))) (fun h=>Bool.noConfusion h))
 exact eR t1 ⟨Zf (Zct hm hs (by simp [Zby,Z7,DFolder.box,g1,g2];try omega)).symm,rfl,rfl⟩
 try simp only [sQ,ne_eq] at g2
 refine aW 7 rfl Zea (h:=aT 8 rfl (Zaf fun D=>Zo rfl rfl lk9 rfl (atL 1 rfl rfl rfl) r4) (h:=aT 9 rfl (Zaf fun D=>Z9 rfl rfl ZmZ rfl (ZcG _ om2 _) r4) (h:=?_)))
 refine aN 10 rfl (h:=aPF 11 rfl (h:=aM 12 rfl (h:=ZaF (d:=29) rfl (fun g3=>?_) (fun g3=>?_))))
 try simp only [sQ,ne_eq] at g3
 refine aZ 13 rfl (h:=aZ 14 rfl (h:=aZ 15 rfl (h:=aZ 16 rfl (h:=aPT 17 rfl (h:=aM 18 rfl (h:=aZ 19 rfl (h:=aZ 20 rfl (h:=aZ 21 rfl (h:=aZ 22 rfl (h:=aPT 23 rfl (h:=aM 24 rfl (h:=aZ 25 rfl (h:=aZ 26 rfl (h:=aZ 27 rfl (h:=aZ 28 rfl (h:=aZ 29 rfl (h:=aZ 30 rfl (h:=aZ 31 rfl (h:=aZ 32 rfl (h:=aZ 33 rfl (h:=aZ 34 rfl (h:=aZ 35 rfl (h:=aZ 36 rfl (h:=aZ 37 rfl (h:=aPT 38 rfl (h:=Zu kr kr ?_))))))))))))))))))))))))))
 refine Zn (Zb (t:=true) rfl (fun _=>Za (xA (h:=Zd (ZA (Zl (ZM (ZA (Zl ?_)))))))) (fun h=>Bool.noConfusion h))
 exact eR t1 ⟨Zf (Zct hm hs (by simp [Zby,Z7,DFolder.box,g1,g2,g3];try omega)).symm,rfl,rfl⟩
 try simp only [sQ,ne_eq] at g3
 refine aW 13 rfl Zd9 (h:=aT 14 rfl (Zaf fun D=>Zo rfl rfl ZrY rfl (atL 1 rfl rfl rfl) r4) (h:=aT 15 rfl (Zaf fun D=>Z9 rfl rfl ZAs rfl (ZpR _ _ _ _ hg5) r4) (h:=aN 16 rfl (h:=aPF 17 rfl (h:=aM 18 rfl (h:=ZaF (d:=35) rfl (fun g4=>?_) (fun g4=>?_)))))))
 try simp only [sQ,ne_eq] at g4
 refine aZ 19 rfl (h:=aZ 20 rfl (h:=aZ 21 rfl (h:=aZ 22 rfl (h:=aPT 23 rfl (h:=aM 24 rfl (h:=aZ 25 rfl (h:=aZ 26 rfl (h:=aZ 27 rfl (h:=aZ 28 rfl (h:=aZ 29 rfl (h:=aZ 30 rfl (h:=aZ 31 rfl (h:=aZ 32 rfl (h:=aZ 33 rfl (h:=aZ 34 rfl (h:=aZ 35 rfl (h:=aZ 36 rfl (h:=aZ 37 rfl (h:=aPT 38 rfl (h:=Zu kr kr ?_))))))))))))))))))))
 refine Zn (Zb (t:=true) rfl (fun _=>Za (xA (h:=Zd (ZA (Zl (ZM (ZA (Zl ?_)))))))) (fun h=>Bool.noConfusion h))
 exact eR t1 ⟨Zf (Zct hm hs (by simp [Zby,Z7,DFolder.box,g1,g2,g3,g4];try omega)).symm,rfl,rfl⟩
 try simp only [sQ,ne_eq] at g4
 refine aW 19 rfl Zbi (h:=aT 20 rfl (Zaf fun D=>Z4 [_,_] rfl rfl ZeQ rfl (Zbu 1 rfl rfl rfl) r4) (h:=aT 21 rfl (Zaf fun D=>Z9 rfl rfl ZA2 rfl (ZkF _ _ (⟨m.next,m.mail⟩:DBox) _ hm5) r4) (h:=aN 22 rfl (h:=aPF 23 rfl (h:=aM 24 rfl (h:=ZaF (d:=41) rfl (fun g5=>?_) (fun g5=>?_)))))))
 try simp only [sQ,ne_eq] at g5
 refine aZ 25 rfl (h:=aZ 26 rfl (h:=aZ 27 rfl (h:=aZ 28 rfl (h:=aZ 29 rfl (h:=aZ 30 rfl (h:=aZ 31 rfl (h:=aZ 32 rfl (h:=aZ 33 rfl (h:=aZ 34 rfl (h:=aZ 35 rfl (h:=aZ 36 rfl (h:=aZ 37 rfl (h:=aPT 38 rfl (h:=Zu kr kr ?_))))))))))))))
 refine Zn (Zb (t:=true) rfl (fun _=>Za (xA (h:=Zd (ZA (Zl (ZM (ZA (Zl ?_)))))))) (fun h=>Bool.noConfusion h))
 exact eR t1 ⟨Zf (Zct hm hs (by simp [Zby,Z7,DFolder.box,g1,g2,g3,g4,g5];try omega)).symm,rfl,rfl⟩
 try simp only [sQ,ne_eq] at g5
 refine aM 25 rfl (h:=Zo8 26 rfl (h:=aM 27 rfl (h:=ZaF (d:=44) rfl (fun g6=>?_) (fun g6=>?_))))
 try simp only [sQ,ne_eq] at g6
 refine aW 28 rfl ZaA (h:=aT 29 rfl (Zaf fun D=>Zo rfl rfl ZeS rfl (atL 0 rfl rfl rfl) r4) (h:=aM 30 rfl (h:=aU 31 rfl (h:=?_))))
 obtain ⟨y,hy⟩:=Ztu (xs:=x.folders) (i:=(↑g.1 - 1)) om om
 obtain ⟨_,⟨qg12,cg12,qm12,cm12,rfl,hg12,hm12,hb12,hb12b⟩,hc12⟩:=hf.elem hy
 have hg12n:=hg12.len
 have hm12n:=hm12.len
 have hm12s:=Zap hm12
 refine aIx 32 rfl Tryz.underlying36 Zb1 (h:=?_)
 have hpe:=hp.at hy oz
 refine aT 33 rfl (Zaf fun D=>Z4 [_,_,_,_,_] rfl rfl Ziy rfl (Zke hc12 0 rfl rfl) r4) (h:=aT 34 rfl (Zaf fun D=>Z4 [_,_,_,_,_] rfl rfl Ziy rfl (Zbu 1 rfl rfl rfl) r4) (h:=aT 35 rfl (Zaf fun D=>Z9 rfl rfl ZAr rfl (Zqw y m _ _ _ _ _ _ _ _ _) r4) (h:=aN 36 rfl (h:=aPT 37 rfl (h:=aPF 38 rfl (h:=Zu kr kr ?_))))))
 refine Zn (Zb rfl (fun g7=>?_) (fun g7=>?_))
 try simp only [sQ,ne_eq] at g7
 refine Za (xA (h:=Zd (ZA (Zl (ZM (ZA (Zl ?_)))))))
 exact eR t1 ⟨Zf (Zct hm hs (by simp [Zby,Z7,DFolder.box,g1,g2,g3,g4,g5,g6,g7,hpe];try omega)).symm,rfl,rfl⟩
 try simp only [sQ,ne_eq] at g7
 refine ZS (ZK (Zn (Ze (xM (h:=xD (h:=xA (h:=?_)))))))
 exact ZC (g.1+1,some m) [0] so2 ⟨rfl,oz,Zbp hm hs (by rw [hpe];simp [Zby,Z7,DFolder.box,g3,g4,g5,g7];omega),.succ hm⟩ t3 rfl
 try simp only [sQ,ne_eq] at g6
 refine aZ 28 rfl (h:=aZ 29 rfl (h:=aZ 30 rfl (h:=aZ 31 rfl (h:=aZ 32 rfl (h:=aZ 33 rfl (h:=aZ 34 rfl (h:=aZ 35 rfl (h:=aZ 36 rfl (h:=aPF 37 rfl (h:=aPF 38 rfl (h:=Zu kr kr ?_)))))))))))
 refine Zn (Zb (t:=false) rfl (fun h=>Bool.noConfusion h) (fun _=>ZS (ZK (Zn (Ze (xM (h:=xD (h:=xA (h:=?_)))))))))
 exact ZC (g.1+1,some m) [0] so2 ⟨rfl,oz,Zbp hm hs (by rw [hp.at0 oz];simp [Zby,Z7,DFolder.box,g3,g4,g5];omega),.succ hm⟩ t3 rfl
 try simp only [sQ,ne_eq] at g1
 refine ZE (ZT (ZH (Zv (Zn (Za (xW ZaA (h:=x1 ZeS 0 (h:=xV Tryz.underlying36 (h:=ZbJ (h:=xA (h:=Zd ?_)))))))))))
 exact eR t1 ⟨Zf (by rw [ZjR (Zds hs oz),Bool.eq_iff_iff];simp;try omega),rfl,rfl⟩

theorem Zoh (q1 q2 q3:Option Addr) (c1 c2 c3:Nat) (x:DHost) (hd:x.domain.length≤2000000) (B:Kn) (hu:SlK B q1 c1 3 Zp x.users) (hf:SlK B q2 c2 5 Zm x.folders) (hi:SlK B q3 c3 4 Zz x.queue.items):Z8 (pj J) 30 [.agg #[str x.domain,.slice q1 x.users.length c1,.slice q2 x.folders.length c2,.int .i64 x.queue.next,.slice q3 x.queue.items.length c3]] B (.bool (Zah x)):=by
 refine cB 87 Tryz.func30 (h:=?_)
 have hfn:=hf.len
 have hun:=hu.len
 have hin:=hi.len
 refine Za (xBx [_,_,_,_,_] (h:=fun b1=>xA (h:=tL1 (Zc (Za (xW Zie (h:=x1 lk9 0 (h:=xR ZBK rfl (ZkE _ om2 _) (h:=?_)))))))))
 refine xN (h:=xM (h:=Zs (d:=10) rfl (fun g1=>?_) (fun g1=>?_)))
 try simp only [sQ,ne_eq] at g1
 refine xP (h:=xP (h:=xP (h:=xP (h:=xT (h:=xM (h:=xP (h:=xP (h:=xP (h:=xP (h:=xT (h:=xM (h:=xP (h:=xP (h:=xP (h:=xT (h:=Zb (t:=true) rfl (fun _=>Za (xA (h:=Zd (Zl ?_)))) (fun h=>Bool.noConfusion h)))))))))))))))))
 exact eR t1 ⟨Zf (by simp [Zah,g1]),rfl,rfl⟩
 try simp only [sQ,ne_eq] at g1
 refine xW Zcg (h:=x1 ZjE 0 (h:=xR ZBJ rfl (Zma _ _ _ _ hu) (h:=xN (h:=xF (h:=xM (h:=Zs (d:=16) rfl (fun g2=>?_) (fun g2=>?_)))))))
 try simp only [sQ,ne_eq] at g2
 refine xP (h:=xP (h:=xP (h:=xP (h:=xT (h:=xM (h:=xP (h:=xP (h:=xP (h:=xT (h:=Zb (t:=true) rfl (fun _=>Za (xA (h:=Zd (Zl ?_)))) (fun h=>Bool.noConfusion h)))))))))))
 exact eR t1 ⟨Zf (by simp [Zah,g1,g2]),rfl,rfl⟩
 try simp only [sQ,ne_eq] at g2
 refine xW ZeN (h:=xL [_,_] ZlR 0 (h:=xR ZBI rfl (Zmb _ _ x.queue _ hi) (h:=xN (h:=xF (h:=xM (h:=Zs (d:=22) rfl (fun g3=>?_) (fun g3=>?_)))))))
 try simp only [sQ,ne_eq] at g3
 refine xP (h:=xP (h:=xP (h:=xT (h:=Zb (t:=true) rfl (fun _=>Za (xA (h:=Zd (Zl ?_)))) (fun h=>Bool.noConfusion h)))))
 exact eR t1 ⟨Zf (by simp [Zah,g1,g2,g3]),rfl,rfl⟩
 try simp only [sQ,ne_eq] at g3
 refine xL [_,_,_,_,_] ZcK 0 (h:=xR ZBH rfl (Zlb _ _ _ _ _ _ x _ hu hf) (h:=xN (h:=xF (h:=Zb rfl (fun g4=>?_) (fun g4=>?_)))))
 try simp only [sQ,ne_eq] at g4
 refine Za (xA (h:=Zd (Zl ?_)))
 exact eR t1 ⟨Zf (by simp [Zah,g1,g2,g3,g4]),rfl,rfl⟩
 try simp only [sQ,ne_eq] at g4
 refine wSk (Zc (Za (xA (h:=Zg (Zy (α:=Nat) [0,1,26] (fun k=>[(3,.int .i64 k)]) [] (fun k=>[]) (fun k Bx=>Bx=B∧k≤x.users.length∧∀z,z∈x.users.take k→Zba x.folders z=true) (fun k=>x.users.length - k) 0 t1 rfl (⟨rfl,Nat.zero_le _,by simp⟩) (fun k B6 hle6 hI=>?_))))))
 obtain ⟨rfl,hk,ha⟩:=hI
 refine ZD [(0,_),(1,_),(3,_),(26,_)] [_] t4 rfl (Zc (Za (xM (h:=xW Zcg (h:=x1 ZjE 0 (h:=xV Tryz.underlying35 (h:=ZG (h:=Zb rfl (fun g5=>?_) (fun g5=>?_)))))))))
 try simp only [sQ,ne_eq] at g5
 refine wSk (Zc (Zg (Zc (Z3 (same _ _) mo kr ⟨rfl,rfl⟩ (fun _ _=>?_)))))
 refine aT 0 rfl (Zaf fun D=>Z4 [_,_,_,_,_] rfl rfl ZcK rfl (Zbu 0 rfl rfl rfl) r4) (h:=aW 1 rfl Zcg (h:=aT 2 rfl (Zaf fun D=>Zo rfl rfl ZjE rfl (atL 0 rfl rfl rfl) r4) (h:=aM 3 rfl (h:=?_))))
 obtain ⟨w,hw⟩:=ZX (xs:=x.users) (i:=k) om
 obtain ⟨bb8,oo8,rfl⟩:=hu.base hw
 obtain ⟨_,⟨rfl,hb9,hb9b⟩,hc9⟩:=hu.elem hw
 refine aIx 4 rfl Tryz.underlying35 Zbr (h:=aW 5 rfl Zbg (h:=aT 6 rfl (Zaf fun D=>Zo rfl rfl lk9 rfl (hc9 _ 0 _ rfl) r4) (h:=aT 7 rfl (Zaf fun D=>Z9 rfl rfl ZA4 rfl (Zlc _ _ _ _ _ _ x w.name [105,110,98,111,120] om2 om2 _ hf) r4) (h:=?_))))
 refine Zt0 8 rfl (h:=aM 9 rfl (h:=ZaF (d:=43) rfl (fun g6=>?_) (fun g6=>?_)))
 try simp only [sQ,ne_eq] at g6
 refine aZ 10 rfl (h:=aZ 11 rfl (h:=aZ 12 rfl (h:=aZ 13 rfl (h:=aZ 14 rfl (h:=aZ 15 rfl (h:=aZ 16 rfl (h:=aZ 17 rfl (h:=aZ 18 rfl (h:=aZ 19 rfl (h:=aZ 20 rfl (h:=aZ 21 rfl (h:=aZ 22 rfl (h:=aZ 23 rfl (h:=aZ 24 rfl (h:=aPT 25 rfl (h:=Zu kr kr ?_))))))))))))))))
 refine Zn (Zb (t:=true) rfl (fun _=>Za (xA (h:=Zd (ZA (Zl (ZM (ZA (Zl ?_)))))))) (fun h=>Bool.noConfusion h))
 exact eR t1 ⟨Zf (Zh6 hw (Zkv g6)).symm,rfl,rfl⟩
 try simp only [sQ,ne_eq] at g6
 refine aT 10 rfl (Zaf fun D=>Z4 [_,_,_,_,_] rfl rfl ZcK rfl (Zbu 0 rfl rfl rfl) r4) (h:=aW 11 rfl Zcg (h:=aT 12 rfl (Zaf fun D=>Zo rfl rfl ZjE rfl (atL 0 rfl rfl rfl) r4) (h:=aM 13 rfl (h:=aIx 14 rfl Tryz.underlying35 Zbr (h:=aW 15 rfl Zbg (h:=aT 16 rfl (Zaf fun D=>Zo rfl rfl lk9 rfl (hc9 _ 0 _ rfl) r4) (h:=aT 17 rfl (Zaf fun D=>Z9 rfl rfl ZBG rfl (Zqv _ _ _ _ _ _ x _ _ hf) r4) (h:=aW 18 rfl Zcg (h:=aT 19 rfl (Zaf fun D=>Zo rfl rfl ZjE rfl (atL 0 rfl rfl rfl) r4) (h:=aM 20 rfl (h:=aIx 21 rfl Tryz.underlying35 Zbr (h:=aW 22 rfl ZdX (h:=aT 23 rfl (Zaf fun D=>Zo rfl rfl lk3 rfl (hc9 _ 2 _ rfl) r4) (h:=Zo8 24 rfl (h:=aPF 25 rfl (h:=Zu kr kr ?_))))))))))))))))
 refine Zn (Zb rfl (fun g7=>?_) (fun g7=>?_))
 try simp only [sQ,ne_eq] at g7
 refine Za (xA (h:=Zd (ZA (Zl (ZM (ZA (Zl ?_)))))))
 exact eR t1 ⟨Zf (Zh6 hw (Zku g7)).symm,rfl,rfl⟩
 try simp only [sQ,ne_eq] at g7
 refine ZS (ZK (Zn (Ze (xM (h:=xD (h:=xA (h:=?_)))))))
 exact ZC (k+1) [0] so2 ⟨rfl,oz,Za3 hw ha (Zkt g6 g7)⟩ t4 rfl
 try simp only [sQ,ne_eq] at g5
 refine ZE (ZT (ZH (Zv (Zn (Zc (Za (xA (h:=Zg (Zy (α:=Nat) [0,1,3,26,31] (fun j=>[(4,.int .i64 j)]) [] (fun j=>[]) (fun j Bx=>Bx=B6∧j≤x.queue.items.length∧∀z,z∈x.queue.items.take j→ZaY x.users z=true) (fun j=>x.queue.items.length - j) 0 t1 rfl (⟨rfl,Nat.zero_le _,by simp⟩) (fun j B12 hle12 hI=>?_))))))))))
 obtain ⟨rfl,hj,hb⟩:=hI
 refine ZD [(0,_),(1,_),(3,_),(4,_),(26,_),(31,_)] [_] t6 rfl (Zc (Za (xM (h:=xW ZeN (h:=xW ZbT (h:=x1 ZiZ 0 (h:=xV Tryz.underlying37 (h:=ZG (h:=Zb rfl (fun g8=>?_) (fun g8=>?_))))))))))
 try simp only [sQ,ne_eq] at g8
 refine wSk (Zc (Zg (Za (xW ZeN (h:=xW ZbT (h:=x1 ZiZ 0 (h:=xM (h:=?_))))))))
 obtain ⟨y,hy⟩:=ZX (xs:=x.queue.items) (i:=j) om
 obtain ⟨bb14,oo14,rfl⟩:=hi.base hy
 obtain ⟨_,⟨qi15,ci15,rfl,hi15,hb15,hb15b⟩,hc15⟩:=hi.elem hy
 have hi15n:=hi15.len
 refine xIx Tryz.underlying37 ZbA (h:=yL [_,_,_,_] ZeX hc15 0 (h:=xAl [_,_,_,_] Zft (h:=fun b16=>xS [_,_,_,_] 1 [_,_,_,_] ZbA (h:=tL2 (Za (xW Zcg (h:=x1 ZjE 0 (h:=xW ZeA (h:=x1 lk9 1 (h:=xR Zx8 rfl (Zgp _ _ _ _ _ hu) (h:=ZG (h:=xM (h:=Zs (d:=80) rfl (fun g9=>?_) (fun g9=>?_))))))))))))))
 try simp only [sQ,ne_eq] at g9
 refine xP (h:=xP (h:=xP (h:=xP (h:=xP (h:=xT (h:=Zb (t:=true) rfl (fun _=>Za (xA (h:=Zd (ZA (Zl (ZM (ZA (Zl ?_)))))))) (fun h=>Bool.noConfusion h)))))))
 exact eR t1 ⟨Zf (Zh7 hy (ZjK g9)).symm,rfl,rfl⟩
 try simp only [sQ,ne_eq] at g9
 refine xL [_,_,_,_,_] ZcK 0 (h:=xW ZcM (h:=x1 ZfV 1 (h:=xR ZBF rfl (ZoG _ _ _ _ _ _ x _ _ y.left _ hu hi15) (h:=xN (h:=xF (h:=Zb rfl (fun ga=>?_) (fun ga=>?_)))))))
 try simp only [sQ,ne_eq] at ga
 refine Za (xA (h:=Zd (ZA (Zl (ZM (ZA (Zl ?_)))))))
 exact eR t1 ⟨Zf (Zh7 hy (ZjJ ga)).symm,rfl,rfl⟩
 try simp only [sQ,ne_eq] at ga
 refine ZS (ZK (Zn (Ze (xM (h:=xD (h:=xA (h:=?_)))))))
 exact ZC (j+1) [0] so2 ⟨rfl,oz,Za3 hy hb (ZjI g9 ga)⟩ t6 rfl
 try simp only [sQ,ne_eq] at g8
 refine ZE (ZT (ZH (Zv (Zn (Za (xA (h:=Zd ?_)))))))
 exact eR t1 ⟨Zf (ZoL g1 g2 g3 g4 (ZdP (Zbb oz ha)) (ZdP (Zbb oz hb))).symm,rfl,rfl⟩

theorem ZnZ (q:Option Addr) (cp:Nat) (gs:List DGrant) (B:Kn) (hg:SlK B q cp 2 Zac gs):Zw (pj J) 228 [.slice q gs.length cp] B [] (Znb gs B):=by
 refine cB 46 Tryz.func228 (h:=?_)
 have hgn:=hg.len
 refine Za (xA (h:=xA (h:=Zc (Za (xM (h:=xV Tryz.underlying85 (h:=Zek (h:=Zb rfl (fun g0=>?_) (fun g0=>?_)))))))))
 try simp only [sQ,ne_eq] at g0
 refine Za (xA (h:=xA (h:=Zd (Zl ?_))))
 exact Zij .ret (.inl rfl) [_,_] t2 (by simp [Zde];omega)
 try simp only [sQ,ne_eq] at g0
 refine wSk (Za (Zj (Zpo rfl rfl (fun b1 l1 hl1=>xA (h:=tL1 (Za (xA (h:=Zc (Za (xM (h:=xV Tryz.underlying85 (h:=xM (h:=Zg (Zy (α:=Nat × Str × Cells) [0,4,10,12,13] (fun g=>[(5,str g.2.1),(14,.int .i64 g.1)]) [0] (fun g=>[g.2.2]) (fun g Bx=>Bx=B∧g.1≤gs.length∧ZcY (gs.take g.1)=(true,g.2.1)∧g.2.1.length≤2000000∧Zwd g.2.2 b1 (Ze0 (gs.take g.1))) (fun g=>gs.length - g.1) (0,[],_) t2 rfl (⟨rfl,Nat.zero_le _,ZdV,by simp,hl1⟩) (fun g B2 hle2 hI=>?_)))))))))))))))
 obtain ⟨rfl,hk,hs,hnm,hml⟩:=hI
 refine ZD [(0,_),(4,_),(5,_),(10,_),(12,_),(13,_),(14,_)] [_] t7 rfl (Za (ZG (h:=Zc (Zb rfl (fun g1=>?_) (fun g1=>?_)))))
 try simp only [sQ,ne_eq] at g1
 refine wSk (Zc (Zg (Za ?_)))
 obtain ⟨m,hm⟩:=ZX (xs:=gs) (i:=g.1) om
 obtain ⟨bb4,oo4,rfl⟩:=hg.base hm
 obtain ⟨_,⟨rfl,hb5⟩,hc5⟩:=hg.elem hm
 refine xIx Tryz.underlying85 ZdT (h:=yL [_,_] Zqs hc5 0 (h:=xAl [_,_] Zn0 (h:=fun b6=>xS [_,_] 1 [_,_] ZdT (h:=tL2 (Zc (Za (xW Zcw (h:=x1 lk9 1 (h:=xR Zlw rfl (Zcd _ om2 _) (h:=?_))))))))))
 refine xN (h:=xM (h:=Zs (d:=22) rfl (fun g2=>?_) (fun g2=>?_)))
 try simp only [sQ,ne_eq] at g2
 refine xP (h:=xP (h:=xP (h:=xP (h:=xT (h:=Zb (t:=true) rfl (fun _=>Za (xA (h:=xA (h:=Zd (Zl (ZA (Zl (ZM (ZA (Zl ?_)))))))))) (fun h=>Bool.noConfusion h))))))
 exact Zij .ret (.inl rfl) [_,_] t2 (ZdE hm hs (by rw [Zcf,ZbE g.2.1 m.user];simp [g2];try omega))
 try simp only [sQ,ne_eq] at g2
 refine xW Zcw (h:=x1 lk9 1 (h:=xM (h:=Zj (Zub rfl rfl rfl rfl (xF (h:=Zb rfl (fun g3=>?_) (fun g3=>?_)))))))
 try simp only [sQ,ne_eq] at g3
 refine Za (xA (h:=xA (h:=Zd (Zl (ZA (Zl (ZM (ZA (Zl ?_)))))))))
 exact Zij .ret (.inl rfl) [_,_] t2 (ZdE hm hs (by rw [Zcf,ZbE g.2.1 m.user];simp [g3];try omega))
 try simp only [sQ,ne_eq] at g3
 refine wSk (Zc (Za (xW Zdx (h:=x1 lk3 1 (h:=ZG (h:=xM (h:=Zs (d:=31) rfl (fun g4=>?_) (fun g4=>?_))))))))
 try simp only [sQ,ne_eq] at g4
 refine xP (h:=xP (h:=xP (h:=xP (h:=xT (h:=Zb (t:=true) rfl (fun _=>Za (xA (h:=xA (h:=Zd (Zl (ZA (Zl (ZM (ZA (Zl ?_)))))))))) (fun h=>Bool.noConfusion h))))))
 exact Zij .ret (.inl rfl) [_,_] t2 (ZdE hm hs (by rw [Zcf,ZbE g.2.1 m.user];simp [g4];try omega))
 try simp only [sQ,ne_eq] at g4
 refine xW Zdx (h:=x1 lk3 1 (h:=xR Zzf rfl (ZsF _ _) (h:=xN (h:=xF (h:=Zb rfl (fun g5=>?_) (fun g5=>?_))))))
 try simp only [sQ,ne_eq] at g5
 refine Za (xA (h:=xA (h:=Zd (Zl (ZA (Zl (ZM (ZA (Zl ?_)))))))))
 exact Zij .ret (.inl rfl) [_,_] t2 (ZdE hm hs (Bool.eq_false_iff.2 fun hc=>by simp only [Zcf,Bool.and_eq_true,decide_eq_true_eq] at hc;simp only [Bool.and_eq_false_iff,decide_eq_false_iff_not] at g5;omega))
 try simp only [sQ,ne_eq] at g5
 refine wSk (Za (xM (h:=xW Zcw (h:=x1 lk9 1 (h:=xW Zdx (h:=x1 lk3 1 (h:=Zj (ZlV (k:=m.user) (v:=m.rights) 0 rfl hml rfl rfl Tryz.underlying303 Tryz.underlying9 rfl rfl rfl (fun l9 hl9=>tL2 (Ze (xW Zcw (h:=x1 lk9 1 (h:=xA (h:=ZK (Zn (Ze (xD (h:=xM (h:=?_)))))))))))))))))))
 exact ZC (g.1+1,m.user,l9) [0] so2 ⟨rfl,so,Zbp hm hs (by rw [Zcf,ZbE g.2.1 m.user,g2,g3];simp at g5 ⊢;omega),oy,by rw [← Zvn hm hs (by rw [ZbE g.2.1 m.user,g3];rfl)];exact hl9⟩ t7 rfl
 try simp only [sQ,ne_eq] at g1
 refine ZE (ZT (ZH (Zv (Zn (Za (xM (h:=xA (h:=xA (h:=Zd ?_)))))))))
 exact ZvV .ret (.inl rfl) [_,_] rfl t2 (by rw [ZlN (Zds hs oz)];simp;omega) (by have e:=hml;rw [List.take_of_length_le oz] at e;exact e)

theorem ZqB (q:Option Addr) (cp:Nat) (gs:List DGrant) (B:Kn) (hg:SlK B q cp 2 Zac gs):Z8 (pj J) 181 [.slice q gs.length cp] B (.bool (Zde gs)):=by
 refine cB 11 Tryz.func181 (h:=?_)
 refine Za (xA (h:=Za (xM (h:=xC Zxz rfl (ZnZ _ _ _ _ hg) (h:=?_)))))
 rintro _ B1 _ hle1 ⟨m1,l1,rfl,rfl,rfl,hl1⟩
 refine xM (h:=xE (h:=xE (h:=xA (h:=xA (h:=tL1 (Za (xM (h:=xA (h:=Zd ?_)))))))))
 exact eR t1 ⟨rfl,rfl,rfl⟩

theorem ZxK (a b:Str) (B:Kn):Z8 (pj J) 213 [str a,str b] B (.int .i64 (Lib.compareBytes a b)):=by
 refine cB 8 Tryz.func213 (h:=?_)
 refine Za (xA (h:=Za (xM (h:=xM (h:=Zj (Zyr (fn:=Tryz.f253) rfl rfl Tryz.func253 rfl rfl Zxq Zxr rfl rfl (xA (h:=Zd ?_))))))))
 exact eR t1 ⟨rfl,rfl,rfl⟩

theorem Zuz (a b:Str) (B:Kn):Z8 (pj J) 175 [str a,str b] B (.int .i64 (Lib.compareBytes a b)):=by
 refine cB 8 Tryz.func175 (h:=?_)
 refine Za (xA (h:=Za (xM (h:=xM (h:=xR Zzv rfl (ZxK a b _) (h:=xA (h:=Zd ?_)))))))
 exact eR t1 ⟨rfl,rfl,rfl⟩

theorem ZmQ (f:DFolder) (qa qb:Option Addr) (ca cb:Nat) (ow nm:Str) (B:Kn):Z8 (pj J) 138 [.agg #[str f.owner,str f.name,.slice qa f.grants.length ca,.int .i64 f.next,.slice qb f.mail.length cb],str ow,str nm] B (.int .i64 (ZxJ f ow nm)):=by
 refine cB 19 Tryz.func138 (h:=?_)
 refine Za (xBx [_,_,_,_,_] (h:=fun b1=>xA (h:=tL1 (Zc (Za (xW Zcv (h:=x1 lk9 0 (h:=xM (h:=xR ZxD rfl (Zuz f.owner ow _) (h:=xA (h:=Za (xM (h:=ZaP (h:=Zb rfl (fun g1=>?_) (fun g1=>?_)))))))))))))))
 try simp only [sQ,ne_eq] at g1
 refine Za (xM (h:=xA (h:=Zd (Zl ?_))))
 exact eR t1 ⟨ZF (by rw [ZxJ,if_pos g1]),rfl,rfl⟩
 try simp only [sQ,ne_eq] at g1
 refine wSk (Za (xW Zea (h:=x1 lk9 0 (h:=xM (h:=xR ZxD rfl (Zuz f.name nm _) (h:=xA (h:=Zd ?_)))))))
 exact eR t1 ⟨ZF (by rw [ZxJ,if_neg (fun h=>h g1)]),rfl,rfl⟩

theorem ZwH (b o:Nat) (q1 q2 q3:Option Addr) (c1 c2 c3:Nat) (x:DHost) (u:Str) (B:Kn) (hh:Zan B b o [str x.domain,.slice q1 x.users.length c1,.slice q2 x.folders.length c2,.int .i64 x.queue.next,.slice q3 x.queue.items.length c3]) (hf:SlK B q2 c2 5 Zm x.folders):Z8 (pj J) 237 [ptr ⟨b,o,none⟩,str u] B (.int .i64 (ZfO x.folders u)):=by
 refine cB 28 Tryz.func237 (h:=?_)
 have hfn:=hf.len
 refine Za (xA (h:=Za (xA (h:=Zc (Za (xM (h:=xNc (h:=xW ZaA (h:=Zj (Zo rfl rfl ZeS rfl (hh _ 2 _ rfl) (xV Tryz.underlying36 (h:=xM (h:=Zg (Zy (α:=Nat × Int) [0,1,4,11,12] (fun g=>[(5,.int .i64 g.2),(13,.int .i64 g.1)]) [] (fun g=>[]) (fun g Bx=>Bx=B∧g.1≤x.folders.length∧g.2=ZfO (x.folders.take g.1) u∧-1*g.1≤g.2∧g.2≤g.1*200) (fun g=>x.folders.length - g.1) (0,0) t2 rfl (⟨rfl,Nat.zero_le _,by simp [ZfO],by simp,by simp⟩) (fun g B1 hle1 hI=>?_)))))))))))))))
 obtain ⟨rfl,hk,hs,hl0,hl1⟩:=hI
 refine ZD [(0,_),(1,_),(4,_),(5,_),(11,_),(12,_),(13,_)] [] t7 rfl (Za (ZG (h:=Zc (Zb rfl (fun g1=>?_) (fun g1=>?_)))))
 try simp only [sQ,ne_eq] at g1
 refine wSk (Zc (Zg (Za ?_)))
 obtain ⟨m,hm⟩:=ZX (xs:=x.folders) (i:=g.1) om
 obtain ⟨bb3,oo3,rfl⟩:=hf.base hm
 obtain ⟨_,⟨qg4,cg4,qm4,cm4,rfl,hg4,hm4,hb4,hb4b⟩,hc4⟩:=hf.elem hm
 have hg4n:=hg4.len
 have hm4n:=hm4.len
 have hm4s:=Zap hm4
 refine xIx Tryz.underlying36 Zb1 (h:=yL [_,_,_,_,_] Ziy hc4 0 (h:=xAl [_,_,_,_,_] Zgx (h:=fun b5=>xS [_,_,_,_,_] 0 [_,_,_,_,_] Zb1 (h:=tL1 (Za (xW Zcv (h:=x1 lk9 0 (h:=xM (h:=Zd0 (h:=Zb rfl (fun g2=>?_) (fun g2=>?_)))))))))))
 try simp only [sQ,ne_eq] at g2
 have hbs:=Zje (⟨m.next,m.mail⟩:DBox)
 refine Ze (xM (h:=xW Zbi (h:=xL [_,_] ZeQ 0 (h:=xR Zze rfl (ZrK _ _ (⟨m.next,m.mail⟩:DBox) _ hm4) (h:=xD (h:=xA (h:=ZK (Zn (Ze (xD (h:=xM (h:=?_))))))))))))
 exact ZC (g.1+1,g.2+ZdY ⟨m.next,m.mail⟩) [] so2 ⟨rfl,so,by rw [ZiL hm,← hs,if_pos g2],so,so⟩ t7 rfl
 try simp only [sQ,ne_eq] at g2
 refine ZS (ZK (Zn (Ze (xD (h:=xM (h:=?_))))))
 exact ZC (g.1+1,g.2) [] so2 ⟨rfl,so,by rw [ZiL hm,← hs,if_neg g2,Int.add_zero],so,so⟩ t7 rfl
 try simp only [sQ,ne_eq] at g1
 refine ZE (ZT (ZH (Zv (Zn (Za (xM (h:=xA (h:=Zd ?_))))))))
 exact eR t1 ⟨ZF (by rw [← Zpw hs oz]),rfl,rfl⟩

theorem Zrf (b o:Nat) (q1 q2 q3:Option Addr) (c1 c2 c3:Nat) (x:DHost) (u:Str) (more:Int) (hn:u.length≤2000000) (hm0:0≤more) (hm1:more≤2000000) (B:Kn) (hh:Zan B b o [str x.domain,.slice q1 x.users.length c1,.slice q2 x.folders.length c2,.int .i64 x.queue.next,.slice q3 x.queue.items.length c3]) (hu:SlK B q1 c1 3 Zp x.users) (hf:SlK B q2 c2 5 Zm x.folders):Z8 (pj J) 185 [ptr ⟨b,o,none⟩,str u,.int .i64 more] B (.bool (ZeG x u more)):=by
 refine cB 30 Tryz.func185 (h:=?_)
 have hfn:=hf.len
 have hub:=Zsm x.folders u
 refine Za (xA (h:=Za (xM (h:=xNc (h:=xW Zcg (h:=Zj (Zo rfl rfl ZjE rfl (hh _ 1 _ rfl) (xM (h:=xR ZxA rfl (ZhK _ _ _ u om2 _ hu) (h:=?_))))))))))
 refine xM (h:=xE (h:=xE (h:=xAl [_,_,_] Zej (h:=fun b2=>xS [_,_,_] 0 [_,_,_] Zbr (h:=xA (h:=tL1 (Zc (Z3 (same _ _) mo kr ⟨rfl,rfl⟩ (fun _ _=>?_)))))))))
 refine aM 0 rfl (h:=aN 1 rfl (h:=aM 2 rfl (h:=ZaF (d:=20) rfl (fun g1=>?_) (fun g1=>?_))))
 refine aZ 3 rfl (h:=aZ 4 rfl (h:=aZ 5 rfl (h:=aZ 6 rfl (h:=aZ 7 rfl (h:=aZ 8 rfl (h:=aZ 9 rfl (h:=aZ 10 rfl (h:=aPT 11 rfl (h:=aA 12 rfl (h:=Zu kr kr ?_))))))))))
 refine Zn (Zd ?_)
 exact eR t1 ⟨Zf (by rw [ZeG,g1];rfl),rfl,rfl⟩
 refine aM 3 rfl (h:=aM 4 rfl (h:=aT 5 rfl (Zaf fun D=>Z9 rfl rfl Zzr rfl (ZwH _ _ _ _ _ _ _ _ x u _ hh hf) r4) (h:=aM 6 rfl (h:=aD 7 rfl (h:=aW 8 rfl ZdX (h:=aT 9 rfl (Zaf fun D=>Zo rfl rfl lk3 rfl (atL 0 rfl rfl rfl) r4) (h:=Zo8 10 rfl (h:=aPF 11 rfl (h:=aA 12 rfl (h:=Zu kr kr ?_))))))))))
 refine Zn (Zd ?_)
 exact eR t1 ⟨Zf (by rw [ZeG,g1];rfl),rfl,rfl⟩

theorem Zn6 (b o:Nat) (q1 q2 q3:Option Addr) (c1 c2 c3:Nat) (x:DHost) (B:Kn) (hh:Zan B b o [str x.domain,.slice q1 x.users.length c1,.slice q2 x.folders.length c2,.int .i64 x.queue.next,.slice q3 x.queue.items.length c3]) (hu:SlK B q1 c1 3 Zp x.users) (hf:SlK B q2 c2 5 Zm x.folders):Z8 (pj J) 140 [ptr ⟨b,o,none⟩] B (.bool (ZhJ x)):=by
 refine cB 26 Tryz.func140 (h:=?_)
 have hfn:=hf.len
 have hun:=hu.len
 refine Za (xA (h:=Zc (Za (xM (h:=xNc (h:=xW Zcg (h:=Zj (Zo rfl rfl ZjE rfl (hh _ 1 _ rfl) (xV Tryz.underlying35 (h:=xM (h:=Zg (Zy (α:=Nat) [0,8,9] (fun k=>[(10,.int .i64 k)]) [] (fun k=>[]) (fun k Bx=>Bx=B∧k≤x.users.length∧∀z,z∈x.users.take k→ZcQ x z=true) (fun k=>x.users.length - k) 0 t1 rfl (⟨rfl,Nat.zero_le _,by simp⟩) (fun k B1 hle1 hI=>?_)))))))))))))
 obtain ⟨rfl,hk,ha⟩:=hI
 refine ZD [(0,_),(8,_),(9,_),(10,_)] [] t4 rfl (Za (ZG (h:=Zc (Zb rfl (fun g1=>?_) (fun g1=>?_)))))
 try simp only [sQ,ne_eq] at g1
 refine wSk (Zc (Zg (Za ?_)))
 obtain ⟨w,hw⟩:=ZX (xs:=x.users) (i:=k) om
 obtain ⟨bb3,oo3,rfl⟩:=hu.base hw
 obtain ⟨_,⟨rfl,hb4,hb4b⟩,hc4⟩:=hu.elem hw
 refine xIx Tryz.underlying35 Zbr (h:=yL [_,_,_] Zfw hc4 0 (h:=xAl [_,_,_] Zej (h:=fun b5=>xS [_,_,_] 0 [_,_,_] Zbr (h:=tL1 (Za (xM (h:=xW Zbg (h:=x1 lk9 0 (h:=xR ZxC rfl (Zuy _ _ _ _ _ _ _ _ x w.name [105,110,98,111,120] om2 om2 _ hh hf) (h:=?_))))))))))
 refine ZG (h:=xM (h:=Zs (d:=19) rfl (fun g2=>?_) (fun g2=>?_)))
 try simp only [sQ,ne_eq] at g2
 refine xP (h:=xP (h:=xP (h:=xP (h:=xT (h:=Zb (t:=true) rfl (fun _=>Za (xA (h:=Zd (ZA (Zl (ZM (ZA (Zl ?_)))))))) (fun h=>Bool.noConfusion h))))))
 exact eR t1 ⟨Zf (ZbX hw (Zky g2)).symm,rfl,rfl⟩
 try simp only [sQ,ne_eq] at g2
 refine xM (h:=xW Zbg (h:=x1 lk9 0 (h:=xR ZzL rfl (Zrf _ _ _ _ _ _ _ _ x w.name 0 om2 om2 om2 _ hh hu hf) (h:=?_))))
 refine xF (h:=Zb rfl (fun g3=>?_) (fun g3=>?_))
 try simp only [sQ,ne_eq] at g3
 refine Za (xA (h:=Zd (ZA (Zl (ZM (ZA (Zl ?_)))))))
 exact eR t1 ⟨Zf (ZbX hw (Zkx g3)).symm,rfl,rfl⟩
 try simp only [sQ,ne_eq] at g3
 refine ZS (ZK (Zn (Ze (xD (h:=xM (h:=?_))))))
 exact ZC (k+1) [] so2 ⟨rfl,oz,Za3 hw ha (Zkw g2 g3)⟩ t4 rfl
 try simp only [sQ,ne_eq] at g1
 refine ZE (ZT (ZH (Zv (Zn (Za (xA (h:=Zd ?_)))))))
 exact eR t1 ⟨Zf (ZdP (Zbb oz ha)).symm,rfl,rfl⟩

theorem Ztf (q:Option Addr) (cp:Nat) (bs:List Bool) (v:Bool) (B:Kn) (hb:SlK B q cp 1 Zwf bs):Z8 (pj J) 234 [.slice q bs.length cp,.bool v] B (.int .i64 (ZbI (fun y=>decide (v=y)) bs)):=by
 refine cB 19 Tryz.func234 (h:=?_)
 have hbn:=hb.len
 refine Za (xA (h:=Zc (Za (xM (h:=xV Tryz.underlying192 (h:=xM (h:=Zg (Zy (α:=Nat) [0,1,7] (fun k=>[(8,.int .i64 k)]) [] (fun k=>[]) (fun k Bx=>Bx=B∧k≤bs.length∧∀y,y∈bs.take k→decide (v=y)=false) (fun k=>bs.length - k) 0 t1 rfl (⟨rfl,Nat.zero_le _,by simp⟩) (fun k B1 hle1 hI=>?_)))))))))
 obtain ⟨rfl,hk,ha⟩:=hI
 refine ZD [(0,_),(1,_),(7,_),(8,_)] [] t4 rfl (Za (ZG (h:=Zc (Zb rfl (fun g1=>?_) (fun g1=>?_)))))
 try simp only [sQ,ne_eq] at g1
 refine wSk (Zc (Zg (Za (xM (h:=xA (h:=Za (xM (h:=xM (h:=xM (h:=?_))))))))))
 obtain ⟨y,hy⟩:=ZX (xs:=bs) (i:=k) om
 obtain ⟨bb3,oo3,rfl⟩:=hb.base hy
 obtain ⟨_,rfl,hc4⟩:=hb.elem hy
 refine xIx Tryz.underlying192 sz4 (h:=y1 lk4 hc4 0 (h:=Zj (ZhG rfl rfl rfl rfl rfl (Zxw Tryz.underlying4) (Zb rfl (fun g2=>?_) (fun g2=>?_)))))
 try simp only [sQ,ne_eq] at g2
 refine Za (xM (h:=xA (h:=Zd (ZA (Zl (ZM (ZA (Zl ?_))))))))
 exact eR t1 ⟨ZF (Zhu hy (decide_eq_true g2) ha).symm,rfl,rfl⟩
 try simp only [sQ,ne_eq] at g2
 refine ZS (ZK (Zn (Ze (xD (h:=xM (h:=?_))))))
 exact ZC (k+1) [] so2 ⟨rfl,oz,Za3 hy ha (decide_eq_false g2)⟩ t4 rfl
 try simp only [sQ,ne_eq] at g1
 refine ZE (ZT (ZH (Zv (Zn (Za (xA (h:=Zd ?_)))))))
 exact eR t1 ⟨ZF (Ze4 (Zbb oz ha)).symm,rfl,rfl⟩

theorem Zm3 (q:Option Addr) (cp:Nat) (bs:List Bool) (v:Bool) (B:Kn) (hb:SlK B q cp 1 Zwf bs):Z8 (pj J) 183 [.slice q bs.length cp,.bool v] B (.bool (decide (0≤ZbI (fun y=>decide (v=y)) bs))):=by
 refine cB 9 Tryz.func183 (h:=?_)
 refine Za (xA (h:=Za (xM (h:=xM (h:=xR Zzu rfl (Ztf _ _ _ _ _ hb) (h:=ZdZ (h:=xA (h:=Zd ?_))))))))
 exact eR t1 ⟨rfl,rfl,rfl⟩

theorem Zli (l:Str) (hl:l.length≤2000000) (B:Kn):Z8 (pj J) 135 [str l] B (.bool (Zc0 l)):=by
 refine cB 16 Tryz.func135 (h:=?_)
 refine Za (xA (h:=Za (xM (h:=xB [(0,_)] [_,_] [_,_] ZwV Zr1 (h:=xAl [_,_] Zr1 (h:=fun b1=>xS [_,_] 0 [_,_] ZwP (h:=tL1 (Za (Zj (ZiG 0 rfl rfl rfl ZzT rfl (ZtH _ _ 0 oz oz _) ?_))))))))))
 refine xM (h:=xE (h:=xE (h:=xA (h:=xA (h:=Za (xM (h:=xM (h:=Zs (d:=13) rfl (fun g1=>?_) (fun g1=>?_)))))))))
 refine Zj (ZiJ 0 rfl rfl rfl ZtF rfl (ZnS _ _ (dom l 0).2 (ZxI (Nat.zero_le _)) oz _) ?_)
 refine xT (h:=xA (h:=Zd ?_))
 exact eR t1 ⟨Zf (by rw [Bool.eq_iff_iff,← Zlx];simp [Zm1] at g1;simp [g1];try omega),rfl,rfl⟩
 refine xP (h:=xF (h:=xA (h:=Zd ?_)))
 exact eR t1 ⟨Zf (by symm;rw [Bool.eq_false_iff,ne_eq,← Zlx];intro hc;simp [Zm1,hc.1] at g1;omega),rfl,rfl⟩

theorem ZjQ (Wg C n i b o b1 b3 b5 b6:Nat) (q1 q2 q3:Option Addr) (c1 c2 c3:Nat) (x:DHost) (m:DFolder) (qg qm:Option Addr) (cg cm:Nat) (hin:i<n) (B:Kn) (hc900:Zan B b o [str x.domain,.slice q1 x.users.length c1,.slice q2 x.folders.length c2,.int .i64 x.queue.next,.slice q3 x.queue.items.length c3]) (hu:SlK B q1 c1 3 Zp x.users) (hc901:Zan B b1 0 [ptr ⟨b,o,none⟩]) (hc903:Zan B b3 0 [.slice (some ⟨C,0,none⟩) n n]) (hc905:Zan B b5 0 [.int .i64 i]) (hc906:Zan B b6 0 [str m.owner,str m.name,.slice qg m.grants.length cg,.int .i64 m.next,.slice qm m.mail.length cm]) (hg:SlK B qg cg 2 Zac m.grants) (hm:SlK B qm cm 3 Zab m.mail) (ho:m.owner.length≤2000000) (hnm:m.name.length≤2000000):@ZeJ ⟨4⟩ Tryz.prog wgL.tWg Wg C n i (.bool (ZaN x.users m)) (Go.Conc.G (Frame.enter Tryz.prog 177 #[ptr ⟨Wg,0,none⟩,ptr ⟨b1,0,none⟩,ptr ⟨b6,0,none⟩,ptr ⟨b3,0,none⟩,ptr ⟨b5,0,none⟩] .deferred) [Zf7 Tryz.prog]) B []:=by
 letI:Go.ConcR.Payload:=⟨4⟩
 refine ZuG (Lk:=wgL) (P:=Tryz.prog) (caps:=[ptr ⟨Wg,0,none⟩,ptr ⟨b1,0,none⟩,ptr ⟨b6,0,none⟩,ptr ⟨b3,0,none⟩,ptr ⟨b5,0,none⟩]) (nt:=27) (I:=keeps B [] []) (K:=fun _ _ _ _=>False) ZlT Tryz.func177 rfl rfl (Nat.le_of_ble_eq_true rfl) rfl mo kr ⟨Kn.le.refl _,Za7.refl _ _⟩ (fun _ _ _ _ h=>h) ?_
 refine aT 0 rfl (ZR fun D B L hI=>Zo rfl rfl Zxa rfl ((hc903.mono hI.1) _ 0 _ rfl) r4) (h:=aT 1 rfl (ZR fun D B L hI=>Zo rfl rfl lk3 rfl ((hc905.mono hI.1) _ 0 _ rfl) r4) (h:=aT 2 rfl (ZR fun D B L hI=>Zo rfl rfl ZyN rfl ((hc901.mono hI.1) _ 0 _ rfl) r4) (h:=aW 3 rfl Zcv (h:=aT 4 rfl (ZR fun D B L hI=>Zo rfl rfl lk9 rfl ((hc906.mono hI.1) _ 0 _ rfl) r4) (h:=aT 5 rfl (ZR fun D B L hI=>Z9 rfl rfl ZtE rfl (Zht _ _ _ _ _ _ _ _ x m.owner om2 _ (hc900.mono hI.1) (hu.mono Zp.mono hI.1)) r4) (h:=?_))))))
 refine aM 6 rfl (h:=ZaF (d:=11) rfl (fun g1=>?_) (fun g1=>?_))
 refine aW 7 rfl Zea (h:=aT 8 rfl (ZR fun D B L hI=>Zo rfl rfl lk9 rfl ((hc906.mono hI.1) _ 1 _ rfl) r4) (h:=aT 9 rfl (ZR fun D B L hI=>Z9 rfl rfl Zlw rfl (Zcd _ om2 _) r4) (h:=?_)))
 refine aPT 10 rfl (h:=aM 11 rfl (h:=ZaF (d:=16) rfl (fun g2=>?_) (fun g2=>?_)))
 refine aW 12 rfl Zd9 (h:=aT 13 rfl (ZR fun D B L hI=>Zo rfl rfl ZrY rfl ((hc906.mono hI.1) _ 2 _ rfl) r4) (h:=aT 14 rfl (ZR fun D B L hI=>Z9 rfl rfl ZzO rfl (ZqB _ _ _ _ (hg.mono Zac.mono hI.1)) r4) (h:=aPT 15 rfl (h:=aM 16 rfl (h:=ZaF (d:=21) rfl (fun g3=>?_) (fun g3=>?_))))))
 refine aW 17 rfl Zbi (h:=aT 18 rfl (ZR fun D B L hI=>Z4 [_,_] rfl rfl ZeQ rfl (Zke (hc906.mono hI.1) 3 rfl rfl) r4) (h:=aT 19 rfl (ZR fun D B L hI=>Z9 rfl rfl Zy3 rfl (Zh4 _ _ (⟨m.next,m.mail⟩:DBox) _ (hm.mono Zab.mono hI.1)) r4) (h:=aPT 20 rfl (h:=aT 21 rfl (ZR fun D B L hI=>ZbY rfl rfl Tryz.underlying192 sz4 rfl rfl oz oz r4) (h:=?_)))))
 refine Zhy 22 kr rfl kr kr kr (fun T hn hT=>?_)
 refine Zgb (L:=[]) hT ZlT (by simp [ZaN,DFolder.box,g1,g2,g3]) rfl hin rfl Tryz.sizeOf4 (Zc9 sz4) (by exact Zhr C i) rfl kr Tryz.func177 rfl
 refine aZ 17 rfl (h:=aZ 18 rfl (h:=aZ 19 rfl (h:=aPF 20 rfl (h:=aT 21 rfl (ZR fun D B L hI=>ZbY rfl rfl Tryz.underlying192 sz4 rfl rfl oz oz r4) (h:=?_)))))
 refine Zhy 22 kr rfl kr kr kr (fun T hn hT=>?_)
 refine Zgb (L:=[]) hT ZlT (by simp [ZaN,DFolder.box,g1,g2,g3]) rfl hin rfl Tryz.sizeOf4 (Zc9 sz4) (by exact Zhr C i) rfl kr Tryz.func177 rfl
 refine aZ 12 rfl (h:=aZ 13 rfl (h:=aZ 14 rfl (h:=aPF 15 rfl (h:=aM 16 rfl (h:=aZ 17 rfl (h:=aZ 18 rfl (h:=aZ 19 rfl (h:=aPF 20 rfl (h:=aT 21 rfl (ZR fun D B L hI=>ZbY rfl rfl Tryz.underlying192 sz4 rfl rfl oz oz r4) (h:=?_))))))))))
 refine Zhy 22 kr rfl kr kr kr (fun T hn hT=>?_)
 refine Zgb (L:=[]) hT ZlT (by simp [ZaN,DFolder.box,g1,g2]) rfl hin rfl Tryz.sizeOf4 (Zc9 sz4) (by exact Zhr C i) rfl kr Tryz.func177 rfl
 refine aZ 7 rfl (h:=aZ 8 rfl (h:=aZ 9 rfl (h:=aPF 10 rfl (h:=aM 11 rfl (h:=aZ 12 rfl (h:=aZ 13 rfl (h:=aZ 14 rfl (h:=aPF 15 rfl (h:=aM 16 rfl (h:=aZ 17 rfl (h:=aZ 18 rfl (h:=aZ 19 rfl (h:=aPF 20 rfl (h:=aT 21 rfl (ZR fun D B L hI=>ZbY rfl rfl Tryz.underlying192 sz4 rfl rfl oz oz r4) (h:=?_)))))))))))))))
 refine Zhy 22 kr rfl kr kr kr (fun T hn hT=>?_)
 refine Zgb (L:=[]) hT ZlT (by simp [ZaN,DFolder.box,g1]) rfl hin rfl Tryz.sizeOf4 (Zc9 sz4) (by exact Zhr C i) rfl kr Tryz.func177 rfl

theorem ZiC (hJ:Joins Tryz.prog J) (b o:Nat) (q1 q2 q3:Option Addr) (c1 c2 c3:Nat) (x:DHost) (B:Kn) (hc900:Zan B b o [str x.domain,.slice q1 x.users.length c1,.slice q2 x.folders.length c2,.int .i64 x.queue.next,.slice q3 x.queue.items.length c3]) (hu:SlK B q1 c1 3 Zp x.users) (hf:SlK B q2 c2 5 Zm x.folders):Zw (pj J) 139 [ptr ⟨b,o,none⟩] B [] (fun v B' Ls=>Ls=[]∧v = .bool (x.folders.all (ZaN x.users))):=by
 have hfn:=hf.len
 letI:Go.ConcR.Payload:=⟨4⟩
 refine Zhx 30 Tryz.func139 rfl rfl (Nat.le_of_ble_eq_true rfl) fun X kind c cs F T0 hk hke hA hn0 hT0=>?_
 let C0:Cx (pj J):=⟨X,fb 139 kind,c :: cs,F,hke⟩
 refine Zbk (C:=C0) (L:=[]) (Zjc (C:=C0) (L:=[]) hn0 hT0 (xBx [_] (h:=fun b1=>xA (h:=?_))))
 intro T1 hn1 hT1
 refine Zlz (C:=C0) rfl 0 rfl fun B1 hle1 hm1=>?_
 have hc901:=Za5 hm1
 replace hc900:=hc900.mono hle1
 obtain ⟨hu,hf⟩:=up2 hle1 hu hf
 replace hA:=fun v B' Ls' h=>hA v B' Ls' (hle1.trans h)
 refine Zbk (C:=C0) (L:=[[]]) (Zjc (C:=C0) (L:=[[]]) hn1 hT1 (y1 ZyN hc901 0 (h:=xNc (h:=xW ZaA (h:=y1 ZeS hc900 2 (h:=xV Tryz.underlying36 (h:=Zj (Za1 (m:=x.folders.length) (c:=x.folders.length) (by_:=1) [.bool false] rfl rfl Zy1 zo4 rfl rfl ⟨_,_,rfl,rfl⟩ ⟨_,_,rfl,rfl⟩ (Nat.le_refl _) oz (fun Cb=>?_)))))))))
 refine xAl [_] Zyh (h:=fun b2=>xS [_] 2 [_] ZyC (h:=?_))
 intro T2 hn2 hT2
 refine Zlz (C:=C0) rfl 2 rfl fun B2 hle2 hm2=>?_
 have hc903:=Za5 hm2
 replace hc900:=hc900.mono hle2
 obtain ⟨hu,hf⟩:=up2 hle2 hu hf
 replace hc901:=hc901.mono hle2
 replace hA:=fun v B' Ls' h=>hA v B' Ls' (hle2.trans h)
 refine Zbk (C:=C0) (L:=[[],ZN Cb (zrow [.bool false] x.folders.length) 4,[]]) (ZaI (C:=C0) (L:=[[],ZN Cb (zrow [.bool false] x.folders.length) 4,[]]) (ZsM (C:=Cb) (n:=x.folders.length) (val:=ZrX x) (L₁:=F) (cells:=(zrow [.bool false] x.folders.length).toArray) (i:=0) (todo:=[]) hJ rfl hke Zyg rfl oz (by simp [Zck]) (.refl _) (fun hmain Wg hW1 hW2=>?_)))
 let C1:Cx (.lone Tryz.prog):=⟨phL Tryz.prog 262 Wg Cb x.folders.length (ZrX x) X.R .a5 (0),fb 139 kind,c :: cs,F,hke⟩
 have hT3:=hT2.putT (n:=30) (dst:=some 4) hn2 rfl (ptr ⟨Wg,0,none⟩)
 have hn3:(putT T2 (some 4) (ptr ⟨Wg,0,none⟩)).size=30:=by rw [Zau,hn2]
 refine Z2 (C:=C1) (L:=[]) (Zbk (C:=C1) (L:=[]) (Zbk (C:=C1) (L:=[]) (Zjc (C:=C1) (L:=[]) hn3 hT3 (y1 ZyN hc901 0 (h:=xNc (h:=xW ZaA (h:=y1 ZeS hc900 2 (h:=xV Tryz.underlying36 (h:=xM (h:=?_))))))))))
 intro T4 hn4 hT4
 refine ZnU (C:=C1) (L:=[]) (Zu5 (nt:=30) (fun j=>[(1,ptr ⟨b1,0,none⟩),(3,ptr ⟨b2,0,none⟩),(4,ptr ⟨Wg,0,none⟩),(16,.slice q2 x.folders.length c2),(17,.int .i64 x.folders.length),(18,.int .i64 ((j:Nat):Int))]) (fun j hj B3 T5 hle3 hn5 hT5 hnext=>?_) hn4 (hT4.sub' t6))
 replace hc900:=hc900.mono hle3
 obtain ⟨hu,hf⟩:=up2 hle3 hu hf
 replace hc901:=hc901.mono hle3
 replace hc903:=hc903.mono hle3
 replace hA:=fun v B' Ls' h=>hA v B' Ls' (hle3.trans h)
 let C2:Cx (.lone Tryz.prog):=⟨phL Tryz.prog 262 Wg Cb x.folders.length (ZrX x) X.R .a5 (j),fb 139 kind,c :: cs,F,hke⟩
 refine Zbk (C:=C2) (L:=[]) (Zjc (C:=C2) (L:=[]) hn5 hT5 (ZG (h:=?_)))
 intro T6 hn6 hT6
 refine Zbk (C:=C2) (L:=[]) ?_
 rcases Nat.lt_or_ge j x.folders.length with hlt | hge
 refine ZgX (C:=C2) (L:=[]) (t:=true) (by exact congrArg (fun t=>some (Value.bool t)) (decide_eq_true oz)) hT6 ?_
 refine Zrz (C:=C2) (L:=[]) (Zbk (C:=C2) (L:=[]) (ZnU (C:=C2) (L:=[]) (Zbk (C:=C2) (L:=[]) (Zjc (C:=C2) (L:=[]) hn6 hT6 (xM (h:=?_))))))
 obtain ⟨m,hm⟩:=ZX (xs:=x.folders) (i:=j) om
 obtain ⟨bb4,oo4,rfl⟩:=hf.base hm
 obtain ⟨_,⟨qg5,cg5,qm5,cm5,rfl,hg5,hm5,hb5,hb5b⟩,hc5⟩:=hf.elem hm
 have hg5n:=hg5.len
 have hm5n:=hm5.len
 have hm5s:=Zap hm5
 refine xIx Tryz.underlying36 Zb1 (h:=yL [_,_,_,_,_] Ziy hc5 0 (h:=xAl [_] zo3 (h:=fun b6=>xAl [_,_,_,_,_] Zgx (h:=fun b7=>xS [_] 0 [_] sz3 (h:=xS [_,_,_,_,_] 1 [_,_,_,_,_] Zb1 (h:=?_))))))
 intro T7 hn7 hT7
 refine Zlz (C:=C2) rfl 0 rfl fun B4 hle4 hpm4=>?_
 have hc905:=Za5 hpm4
 refine Zlz (C:=C2) rfl 1 rfl fun B5 hle5 hpm5=>?_
 have hc906:=Za5 hpm5
 replace hc905:=hc905.mono hle5
 replace hc900:=hc900.mono (hle4.trans hle5)
 replace hu:=hu.mono Zp.mono (hle4.trans hle5)
 replace hc901:=hc901.mono (hle4.trans hle5)
 replace hc903:=hc903.mono (hle4.trans hle5)
 replace hg5:=hg5.mono Zac.mono (hle4.trans hle5)
 replace hm5:=hm5.mono Zab.mono (hle4.trans hle5)
 refine Zbk (C:=C2) (L:=[[],[]]) (ZaI (C:=C2) (L:=[[],[]]) (ZwZ (Lk:=wgL) (i:=0) (todo:=[]) ZlT hlt rfl ZzP rfl rfl hT7 hke ?_))
 let C3:Cx (.lone Tryz.prog):=⟨phL Tryz.prog 262 Wg Cb x.folders.length (ZrX x) X.R .a2 (j),fb 139 kind,c :: cs,F,hke⟩
 have hT8:=hT7.putT (n:=30) (dst:=(some 23)) hn7 rfl (.tuple #[])
 have hn8:(putT T7 (some 23) (.tuple #[])).size=30:=by rw [Zau,hn7]
 refine Z2 (C:=C3) (L:=[]) (ZaI (C:=C3) (L:=[]) (Zci (C:=C3) (L:=[]) (i:=0) (todo:=[1]) rfl hn8 hT8 (Zj (Zbz (xs:=[]) (ys:=[.tmp 4,.tmp 1,.tmp 6,.tmp 3,.tmp 5]) rfl rfl rfl rfl ?_))))
 intro T9 hn9 hT9
 refine ZyJ (i:=1) (todo:=[]) rfl rfl hT9 hke Tryz.func177 rfl rfl (by rw [Znl hm];exact ZjQ Wg Cb x.folders.length j b o b1 b2 b6 b7 _ _ _ _ _ _ x m _ _ _ _ hlt B5 hc900 hu hc901 hc903 hc905 hc906 hg5 hm5 hb5 hb5b) ?_
 let C4:Cx (.lone Tryz.prog):=⟨phL Tryz.prog 262 Wg Cb x.folders.length (ZrX x) X.R .a5 (j+1),fb 139 kind,c :: cs,F,hke⟩
 refine Z2 (C:=C4) (L:=[]) (Zo0 (C:=C4) (L:=[]) ?_)
 have hn10:=hn9
 have hT10:=hT9
 refine Zjc (C:=C4) (L:=[]) hn10 hT10 (xD (h:=xM (h:=?_)))
 intro T11 hn11 hT11
 exact hnext hlt _ _ (hle4.trans hle5) hn11 (hT11.sub' t6)
 obtain rfl:j=x.folders.length:=by omega
 refine ZgX (C:=C2) (L:=[]) (t:=false) (by exact congrArg (fun t=>some (Value.bool t)) (decide_eq_false oz)) hT6 ?_
 refine Zv5 (C:=C2) (L:=[]) (by rfl) ?_
 refine Zbk (C:=C2) (L:=[]) (ZaI (C:=C2) (L:=[]) (Zu4 (Lk:=wgL) (X:=X) (i:=0) (todo:=[]) ZlT oz rfl ZzN rfl hT6 hke (fun _ _ _ h=>h) ?_))
 have hT7:=hT6.putT (n:=30) (dst:=(some 26)) hn6 rfl (.tuple #[])
 have hn7:(putT T6 (some 26) (.tuple #[])).size=30:=by rw [Zau,hn6]
 refine Z2 (C:=C0) (L:=[[(Cb,Obj.cells ((List.range x.folders.length).map (ZrX x)).toArray 4 (0,0))]]) (Zlz (C:=C0) (L:=[[(Cb,Obj.cells ((List.range x.folders.length).map (ZrX x)).toArray 4 (0,0))]]) rfl 0 rfl fun B4 hle4 hm4=>?_)
 have hvb:=Zpv hm4 hfn
 replace hc903:=hc903.mono hle4
 replace hA:=fun v B' Ls' h=>hA v B' Ls' (hle4.trans h)
 refine ZvN Tryz.func139 rfl hk hke hn7 hT7 hA ?_
 rw [show (x.folders.length:Nat)=(x.folders.map (ZaN x.users)).length from (List.length_map ..).symm] at hc903
 refine Za (y1 Zxa hc903 0 (h:=xR ZzM rfl (Zm3 _ _ _ _ _ hvb) (h:=xN (h:=xA (h:=tL1 (Zd ?_))))))
 exact eR t1 ⟨rfl,congrArg Value.bool Zj9⟩

theorem ZmJ (hJ:Joins Tryz.prog J) (q1 q2 q3:Option Addr) (c1 c2 c3:Nat) (x:DHost) (hd:x.domain.length≤2000000) (B:Kn) (hu:SlK B q1 c1 3 Zp x.users) (hf:SlK B q2 c2 5 Zm x.folders) (hi:SlK B q3 c3 4 Zz x.queue.items):Zw (pj J) 92 [.agg #[str x.domain,.slice q1 x.users.length c1,.slice q2 x.folders.length c2,.int .i64 x.queue.next,.slice q3 x.queue.items.length c3]] B [] (fun v B' Ls=>Ls=[]∧v = .bool (Zah x)):=by
 refine cB 63 Tryz.func92 (h:=?_)
 rw [← ZoM]
 have hfn:=hf.len
 have hun:=hu.len
 have hin:=hi.len
 refine Za (xBx [_,_,_,_,_] (h:=fun b1=>xA (h:=tL1 (Zkk 0 rfl (fun B2 hle2 hpm2=>?_)))))
 have hc2:=Za5 hpm2
 obtain ⟨hu,hf,hi⟩:=up3 hle2 hu hf hi
 refine Zc (Za (xW Zie (h:=y1 lk9 hc2 0 (h:=xR ZAh rfl (Zli _ om2 _) (h:=?_)))))
 refine xN (h:=xM (h:=Zs (d:=10) rfl (fun g1=>?_) (fun g1=>?_)))
 try simp only [sQ,ne_eq] at g1
 refine xP (h:=xP (h:=xP (h:=xP (h:=xT (h:=xM (h:=xP (h:=xP (h:=xP (h:=xP (h:=xT (h:=xM (h:=xP (h:=xP (h:=xP (h:=xP (h:=xT (h:=tL1 (Zb (t:=true) rfl (fun _=>Za (xA (h:=Zd (Zl ?_)))) (fun h=>Bool.noConfusion h)))))))))))))))))))
 exact eR t1 ⟨rfl,Zf (by simp [Zdw,g1])⟩
 try simp only [sQ,ne_eq] at g1
 refine xW Zcg (h:=y1 ZjE hc2 1 (h:=xR ZxF rfl (Zh3 _ _ _ _ hu) (h:=xN (h:=xF (h:=xM (h:=Zs (d:=16) rfl (fun g2=>?_) (fun g2=>?_)))))))
 try simp only [sQ,ne_eq] at g2
 refine xP (h:=xP (h:=xP (h:=xP (h:=xT (h:=xM (h:=xP (h:=xP (h:=xP (h:=xP (h:=xT (h:=tL1 (Zb (t:=true) rfl (fun _=>Za (xA (h:=Zd (Zl ?_)))) (fun h=>Bool.noConfusion h)))))))))))))
 exact eR t1 ⟨rfl,Zf (by simp [Zdw,g1,g2])⟩
 try simp only [sQ,ne_eq] at g2
 refine xW ZeN (h:=yL [_,_] ZlR hc2 3 (h:=xR ZAg rfl (ZmH _ _ x.queue _ hi) (h:=xN (h:=xF (h:=xM (h:=Zs (d:=22) rfl (fun g3=>?_) (fun g3=>?_)))))))
 try simp only [sQ,ne_eq] at g3
 refine xP (h:=xP (h:=xP (h:=xP (h:=xT (h:=tL1 (Zb (t:=true) rfl (fun _=>Za (xA (h:=Zd (Zl ?_)))) (fun h=>Bool.noConfusion h)))))))
 exact eR t1 ⟨rfl,Zf (by simp [Zdw,g1,g2,g3])⟩
 try simp only [sQ,ne_eq] at g3
 refine xW ZaA (h:=y1 ZeS hc2 2 (h:=xV Tryz.underlying36 (h:=Zek (h:=xF (h:=tL1 (Zb rfl (fun g4=>?_) (fun g4=>?_)))))))
 try simp only [sQ,ne_eq] at g4
 refine Za (xA (h:=Zd (Zl ?_)))
 exact eR t1 ⟨rfl,Zf (by simp [Zdw];intros;omega)⟩
 try simp only [sQ,ne_eq] at g4
 refine wSk (Zc (Za (xW ZaA (h:=y1 ZeS hc2 2 (h:=xW ZaA (h:=y1 ZeS hc2 2 (h:=xV Tryz.underlying36 (h:=xU (h:=Zj (Zyq (m:=(x.folders.length - 1)) rfl rfl rfl rfl om ?_))))))))))
 have hsl:((x.folders.take (x.folders.length - 1)).drop 0).length=x.folders.length - 1:=by simp
 obtain ⟨hq6,q6,cp6,hv6,hr6⟩:=hf.cutE 0 (x.folders.length - 1) om om
 have hr6n:=hr6.len
 refine Zj (Zpr (a:=0) (b:=(x.folders.length - 1)) hv6 om hq6 rfl rfl Tryz.underlying36 Zb1 rfl rfl ⟨_,_,rfl,by first | omega | (simp;done) | (simp;omega)⟩ ?_)
 refine xV Tryz.underlying36 (h:=xM (h:=Zg (Zy (α:=Nat) [0,1,27,35,36] (fun k=>[(37,.int .i64 k)]) [] (fun k=>[]) (fun k Bx=>Bx=B2∧k≤x.folders.length - 1∧Zt1 x.folders k) (fun k=>x.folders.length - k) 0 t1 rfl (⟨rfl,Nat.zero_le _,Zor⟩) (fun k B7 hle7 hI=>?_))))
 obtain ⟨rfl,hk,hord⟩:=hI
 refine ZD [(0,_),(1,_),(27,_),(35,_),(36,_),(37,_)] [_] t6 rfl (Za (ZG (h:=Zc (Zb rfl (fun g5=>?_) (fun g5=>?_)))))
 try simp only [sQ,ne_eq] at g5
 refine wSk (Zc (Zg (Za (xM (h:=?_)))))
 obtain ⟨fa,hfa⟩:=ZX (xs:=((x.folders.take (x.folders.length - 1)).drop 0)) (i:=k) om
 obtain ⟨bb9,oo9,rfl⟩:=hr6.base hfa
 obtain ⟨_,⟨qg10,cg10,qm10,cm10,rfl,hg10,hm10,hb10,hb10b⟩,hc10⟩:=hr6.elem hfa
 have hg10n:=hg10.len
 have hm10n:=hm10.len
 have hm10s:=Zap hm10
 refine xIx Tryz.underlying36 Zb1 (h:=?_)
 have hfa0:x.folders[k]? = some fa:=by rw [List.drop_zero,List.getElem?_take] at hfa;split at hfa <;> simp_all
 refine yL [_,_,_,_,_] Ziy hc10 0 (h:=xAl [_,_,_,_,_] Zgx (h:=fun b11=>xA (h:=xS [_,_,_,_,_] 1 [_,_,_,_,_] Zb1 (h:=tL2 (Za (xW ZaA (h:=y1 ZeS hc2 2 (h:=xM (h:=xD (h:=?_))))))))))
 obtain ⟨fb,hfb⟩:=ZX (xs:=x.folders) (i:=(k+1)) om
 obtain ⟨bb13,oo13,rfl⟩:=hf.base hfb
 obtain ⟨_,⟨qg14,cg14,qm14,cm14,rfl,hg14,hm14,hb14,hb14b⟩,hc14⟩:=hf.elem hfb
 have hg14n:=hg14.len
 have hm14n:=hm14.len
 have hm14s:=Zap hm14
 refine xIx Tryz.underlying36 Zb1 (h:=yL [_,_,_,_,_] Ziy hc14 0 (h:=xAl [_,_,_,_,_] Zgx (h:=fun b15=>xS [_,_,_,_,_] 2 [_,_,_,_,_] Zb1 (h:=tL3 (Za (xL [_,_,_,_,_] Ziy 1 (h:=xW Zcv (h:=x1 lk9 2 (h:=xW Zea (h:=x1 lk9 2 (h:=xR ZAf rfl (ZmQ fa _ _ _ _ fb.owner fb.name _) (h:=ZdZ (h:=Zb rfl (fun g6=>?_) (fun g6=>?_))))))))))))))
 try simp only [sQ,ne_eq] at g6
 refine Za (xA (h:=Zd (ZA (Zl (ZM (ZA (Zl ?_)))))))
 exact eR t1 ⟨rfl,Zf (by simp [Zdw,ZsR hfa0 hfb ((ZlB fa fb).1 g6)])⟩
 try simp only [sQ,ne_eq] at g6
 refine ZS (ZK (Zn (Ze (xD (h:=xM (h:=?_))))))
 exact ZC (k+1) [0] so2 ⟨rfl,oz,Zos hord hfa0 hfb (by rw [← Bool.not_eq_false,← ZlB];omega)⟩ t6 rfl
 try simp only [sQ,ne_eq] at g5
 have ho:=ZsQ (fs:=x.folders) (fun i a b h=>hord i a b oz)
 refine ZE (ZT (ZH (Zv (Zn (Za (xQ ZAe rfl (ZiC hJ _ _ _ _ _ _ _ _ x _ hc2 hu hf) (h:=?_)))))))
 intro v17 B17 hle17
 rintro rfl
 obtain ⟨hu,hf,hi⟩:=up3 hle17 hu hf hi
 replace hc2:=hc2.mono hle17
 refine xM (h:=Zs (d:=57) rfl (fun g7=>?_) (fun g7=>?_))
 try simp only [sQ,ne_eq] at g7
 refine xR ZAd rfl (Zn6 _ _ _ _ _ _ _ _ x _ hc2 hu hf) (h:=xT (h:=xM (h:=Zs (d:=60) rfl (fun g8=>?_) (fun g8=>?_))))
 try simp only [sQ,ne_eq] at g8
 refine xR ZAc rfl (Zmh _ _ _ _ _ _ _ _ x _ hc2 hu hi) (h:=xT (h:=xA (h:=Zd ?_)))
 exact eR t1 ⟨rfl,Zf (by simp [Zdw,g1,g2,g3,ho,g7,g8];try omega)⟩
 try simp only [sQ,ne_eq] at g8
 refine xP (h:=xF (h:=xA (h:=Zd ?_)))
 exact eR t1 ⟨rfl,Zf (by simp [Zdw,g1,g2,g3,ho,g7,g8];try omega)⟩
 try simp only [sQ,ne_eq] at g7
 refine xP (h:=xF (h:=xM (h:=xP (h:=xF (h:=xA (h:=Zd ?_))))))
 exact eR t1 ⟨rfl,Zf (by simp [Zdw,g7])⟩

theorem Zst (x:DUser) (h1:x.name.length≤140737488355328) (h2:x.pass.length≤140737488355328) (left:Int) (hl0:0≤left) (hl1:left≤1048576) (B:Kn)  : Z8 (pj J) 67 [.agg #[str x.name,str x.pass,.int .i64 x.quota],.int .i64 left] B (.int .i64 (szI left (Zdo x))):=by
 refine cB 20 Tryz.func67 (h:=?_)
 refine Za (xBx [_,_,_] (h:=fun b1=>xA (h:=tL1 (Za (xM (h:=xW Zq8 (h:=x1 lk9 0 (h:=xVs Tryz.underlying9 (h:=xU (h:=xA (h:=Zc (Za (xM (h:=ZG (h:=Zb rfl (fun g1=>?_) (fun g1=>?_))))))))))))))))
 try simp only [sQ,ne_eq] at g1
 refine Za (xA (h:=Zd (Zl ?_)))
 exact eR t1 ⟨ZF (by first | (unfold szI Zdo;split <;> omega)),rfl,rfl⟩
 try simp only [sQ,ne_eq] at g1
 refine wSk (Za (xM (h:=xW Zq7 (h:=x1 lk9 0 (h:=xVs Tryz.underlying9 (h:=xU (h:=xA (h:=Zc (Za (xM (h:=ZG (h:=Zb rfl (fun g2=>?_) (fun g2=>?_)))))))))))))
 try simp only [sQ,ne_eq] at g2
 refine Za (xA (h:=Zd (Zl ?_)))
 exact eR t1 ⟨ZF (by first | (unfold szI Zdo;split <;> omega)),rfl,rfl⟩
 try simp only [sQ,ne_eq] at g2
 refine wSk (Za (xM (h:=xA (h:=Zd ?_))))
 exact eR t1 ⟨ZF (by first | (unfold szI Zdo;split <;> omega)),rfl,rfl⟩

theorem ZpL (x:DGrant) (h1:x.user.length≤140737488355328) (left:Int) (hl0:0≤left) (hl1:left≤1048576) (B:Kn)  : Z8 (pj J) 162 [.agg #[str x.user,.int .i64 x.rights],.int .i64 left] B (.int .i64 (szI left (ZcF x))):=by
 refine cB 13 Tryz.func162 (h:=?_)
 refine Za (xBx [_,_] (h:=fun b1=>xA (h:=tL1 (Za (xM (h:=xW ZqS (h:=x1 lk9 0 (h:=xVs Tryz.underlying9 (h:=xU (h:=xA (h:=Zc (Za (xM (h:=ZG (h:=Zb rfl (fun g1=>?_) (fun g1=>?_))))))))))))))))
 try simp only [sQ,ne_eq] at g1
 refine Za (xA (h:=Zd (Zl ?_)))
 exact eR t1 ⟨ZF (by first | (unfold szI ZcF;split <;> omega)),rfl,rfl⟩
 try simp only [sQ,ne_eq] at g1
 refine wSk (Za (xM (h:=xA (h:=Zd ?_))))
 exact eR t1 ⟨ZF (by first | (unfold szI ZcF;split <;> omega)),rfl,rfl⟩

theorem Zsv (x:DMail) (h1:x.text.length≤140737488355328) (left:Int) (hl0:0≤left) (hl1:left≤1048576) (B:Kn)  : Z8 (pj J) 204 [.agg #[.int .i64 x.uid,.int .i64 x.flags,str x.text],.int .i64 left] B (.int .i64 (szI left (ZdL x))):=by
 refine cB 13 Tryz.func204 (h:=?_)
 refine Za (xBx [_,_,_] (h:=fun b1=>xA (h:=tL1 (Za (xM (h:=xW ZqR (h:=x1 lk9 0 (h:=xVs Tryz.underlying9 (h:=xU (h:=xA (h:=Zc (Za (xM (h:=ZG (h:=Zb rfl (fun g1=>?_) (fun g1=>?_))))))))))))))))
 try simp only [sQ,ne_eq] at g1
 refine Za (xA (h:=Zd (Zl ?_)))
 exact eR t1 ⟨ZF (by first | (unfold szI ZdL;split <;> omega)),rfl,rfl⟩
 try simp only [sQ,ne_eq] at g1
 refine wSk (Za (xM (h:=xA (h:=Zd ?_))))
 exact eR t1 ⟨ZF (by first | (unfold szI ZdL;split <;> omega)),rfl,rfl⟩

theorem Zsu (q:Option Addr) (cp:Nat) (xs:List Str) (left:Int) (hl0:0≤left) (hl1:left≤1048576) (B:Kn) (hx:SlB B q cp 1 Zji xs):Z8 (pj J) 164 [.slice q xs.length cp,.int .i64 left] B (.int .i64 (szI left (szL List.length xs))):=by
 refine cB 28 Tryz.func164 (h:=?_)
 have hxn:=hx.len
 refine Za (xA (h:=Za (xM (h:=xM (h:=xV Tryz.underlying134 (h:=xU (h:=xA (h:=Zc (Za (xM (h:=ZG (h:=Zb rfl (fun g1=>?_) (fun g1=>?_)))))))))))))
 try simp only [sQ,ne_eq] at g1
 refine Za (xA (h:=Zd (Zl ?_)))
 exact eR t1 ⟨ZF (ZgC oz).symm,rfl,rfl⟩
 try simp only [sQ,ne_eq] at g1
 refine ZS ?_
 refine Zn ?_
 refine Zc ?_
 refine Za ?_
 refine Zj (Zcm rfl rfl rfl ?_)
 refine Zg ?_
 refine Zy (α:=Nat × Int) [0,11] (fun g=>[(1,.int .i64 g.2),(5,.int .i64 g.1)]) [] (fun g=>[]) (fun g Bx=>Bx=B∧g.1≤xs.length∧g.2=left - xs.length - ((xs.take g.1).map List.length).sum∧0≤g.2) (fun g=>xs.length - g.1) (0,left - ↑xs.length) ⟨rfl,rfl,trivial⟩ rfl (⟨rfl,Nat.zero_le _,by simp,g1⟩) (fun g B1 hle1 hI=>?_)
 obtain ⟨rfl,hk,hs,hl⟩:=hI
 refine ZD [(0,_),(1,_),(5,_),(11,_)] [] t4 rfl (Zc (Za (xM (h:=xM (h:=xV Tryz.underlying134 (h:=ZG (h:=Zb rfl (fun g2=>?_) (fun g2=>?_))))))))
 try simp only [sQ,ne_eq] at g2
 refine wSk (Zc (Zg (Za (xM (h:=xM (h:=xM (h:=?_)))))))
 obtain ⟨z,hz⟩:=ZX (xs:=xs) (i:=g.1) om
 obtain ⟨bb3,oo3,rfl⟩:=hx.base hz
 obtain ⟨_,⟨rfl,hb4⟩,hc4⟩:=hx.elem hz
 refine xIx Tryz.underlying134 sz9 (h:=y1 lk9 hc4 0 (h:=xVs Tryz.underlying9 (h:=xU (h:=xA (h:=Za (xM (h:=ZG (h:=Zb rfl (fun g3=>?_) (fun g3=>?_)))))))))
 try simp only [sQ,ne_eq] at g3
 refine Za (xA (h:=Zd (ZA (Zl (ZM (ZA (Zl ?_)))))))
 exact eR t1 ⟨ZF (ZgA hz hs oz).symm,rfl,rfl⟩
 try simp only [sQ,ne_eq] at g3
 refine ZS (ZK (Zn (Ze (xM (h:=xD (h:=xA (h:=?_)))))))
 exact ZC (g.1+1,g.2 - z.length) [] so2 ⟨rfl,so,by rw [Zer _ hz,hs];omega,g3⟩ t4 rfl
 try simp only [sQ,ne_eq] at g2
 refine ZE (ZT (ZH (Zv (Zn (Za (xM (h:=xA (h:=Zd ?_))))))))
 exact eR t1 ⟨ZF (ZgB hs hl oz).symm,rfl,rfl⟩

theorem ZpG (q:Option Addr) (cp:Nat) (xs:List DUser) (left:Int) (hl0:0≤left) (hl1:left≤1048576) (B:Kn) (hx:SlB B q cp 3 ZlP xs):Z8 (pj J) 27 [.slice q xs.length cp,.int .i64 left] B (.int .i64 (szI left (szL Zdo xs))):=by
 refine cB 27 Tryz.func27 (h:=?_)
 have hxn:=hx.len
 refine Za (xA (h:=Za (xM (h:=xM (h:=xV Tryz.underlying22 (h:=xU (h:=xA (h:=Zc (Za (xM (h:=ZG (h:=Zb rfl (fun g1=>?_) (fun g1=>?_)))))))))))))
 try simp only [sQ,ne_eq] at g1
 refine Za (xA (h:=Zd (Zl ?_)))
 exact eR t1 ⟨ZF (ZgC oz).symm,rfl,rfl⟩
 try simp only [sQ,ne_eq] at g1
 refine ZS ?_
 refine Zn ?_
 refine Zc ?_
 refine Za ?_
 refine Zj (Zcm rfl rfl rfl ?_)
 refine Zg ?_
 refine Zy (α:=Nat × Int) [0,11] (fun g=>[(1,.int .i64 g.2),(5,.int .i64 g.1)]) [] (fun g=>[]) (fun g Bx=>Bx=B∧g.1≤xs.length∧g.2=left - xs.length - ((xs.take g.1).map Zdo).sum∧0≤g.2) (fun g=>xs.length - g.1) (0,left - ↑xs.length) ⟨rfl,rfl,trivial⟩ rfl (⟨rfl,Nat.zero_le _,by simp,g1⟩) (fun g B1 hle1 hI=>?_)
 obtain ⟨rfl,hk,hs,hl⟩:=hI
 refine ZD [(0,_),(1,_),(5,_),(11,_)] [] t4 rfl (Zc (Za (xM (h:=xM (h:=xV Tryz.underlying22 (h:=ZG (h:=Zb rfl (fun g2=>?_) (fun g2=>?_))))))))
 try simp only [sQ,ne_eq] at g2
 refine wSk (Zc (Zg (Za (xM (h:=xM (h:=?_))))))
 obtain ⟨z,hz⟩:=ZX (xs:=xs) (i:=g.1) om
 obtain ⟨bb3,oo3,rfl⟩:=hx.base hz
 obtain ⟨_,⟨rfl,hb4,hb4b⟩,hc4⟩:=hx.elem hz
 refine xIx Tryz.underlying22 ZwT (h:=yL [_,_,_] Zxf hc4 0 (h:=xM (h:=xR ZBN rfl (Zst z om om g.2 om om _) (h:=?_))))
 refine xA (h:=Za (xM (h:=ZG (h:=Zb rfl (fun g3=>?_) (fun g3=>?_)))))
 try simp only [sQ,ne_eq] at g3
 refine Za (xA (h:=Zd (ZA (Zl (ZM (ZA (Zl ?_)))))))
 exact eR t1 ⟨ZF (ZgA hz hs ((ZcE hl).1 g3)).symm,rfl,rfl⟩
 try simp only [sQ,ne_eq] at g3
 refine ZS (ZK (Zn (Ze (xM (h:=xD (h:=xA (h:=?_)))))))
 exact ZC (g.1+1,szI g.2 (Zdo z)) [] so2 ⟨rfl,so,by have:=(Zcn hl g3).1;rw [Zer _ hz];simp only [];omega,g3⟩ t4 rfl
 try simp only [sQ,ne_eq] at g2
 refine ZE (ZT (ZH (Zv (Zn (Za (xM (h:=xA (h:=Zd ?_))))))))
 exact eR t1 ⟨ZF (ZgB hs hl oz).symm,rfl,rfl⟩

theorem Zoa (q:Option Addr) (cp:Nat) (xs:List DGrant) (left:Int) (hl0:0≤left) (hl1:left≤1048576) (B:Kn) (hx:SlB B q cp 2 Ziw xs):Z8 (pj J) 116 [.slice q xs.length cp,.int .i64 left] B (.int .i64 (szI left (szL ZcF xs))):=by
 refine cB 27 Tryz.func116 (h:=?_)
 have hxn:=hx.len
 refine Za (xA (h:=Za (xM (h:=xM (h:=xV Tryz.underlying121 (h:=xU (h:=xA (h:=Zc (Za (xM (h:=ZG (h:=Zb rfl (fun g1=>?_) (fun g1=>?_)))))))))))))
 try simp only [sQ,ne_eq] at g1
 refine Za (xA (h:=Zd (Zl ?_)))
 exact eR t1 ⟨ZF (ZgC oz).symm,rfl,rfl⟩
 try simp only [sQ,ne_eq] at g1
 refine ZS ?_
 refine Zn ?_
 refine Zc ?_
 refine Za ?_
 refine Zj (Zcm rfl rfl rfl ?_)
 refine Zg ?_
 refine Zy (α:=Nat × Int) [0,11] (fun g=>[(1,.int .i64 g.2),(5,.int .i64 g.1)]) [] (fun g=>[]) (fun g Bx=>Bx=B∧g.1≤xs.length∧g.2=left - xs.length - ((xs.take g.1).map ZcF).sum∧0≤g.2) (fun g=>xs.length - g.1) (0,left - ↑xs.length) ⟨rfl,rfl,trivial⟩ rfl (⟨rfl,Nat.zero_le _,by simp,g1⟩) (fun g B1 hle1 hI=>?_)
 obtain ⟨rfl,hk,hs,hl⟩:=hI
 refine ZD [(0,_),(1,_),(5,_),(11,_)] [] t4 rfl (Zc (Za (xM (h:=xM (h:=xV Tryz.underlying121 (h:=ZG (h:=Zb rfl (fun g2=>?_) (fun g2=>?_))))))))
 try simp only [sQ,ne_eq] at g2
 refine wSk (Zc (Zg (Za (xM (h:=xM (h:=?_))))))
 obtain ⟨z,hz⟩:=ZX (xs:=xs) (i:=g.1) om
 obtain ⟨bb3,oo3,rfl⟩:=hx.base hz
 obtain ⟨_,⟨rfl,hb4⟩,hc4⟩:=hx.elem hz
 refine xIx Tryz.underlying121 ZwQ (h:=yL [_,_] Zw8 hc4 0 (h:=xM (h:=xR Zz1 rfl (ZpL z om g.2 om om _) (h:=?_))))
 refine xA (h:=Za (xM (h:=ZG (h:=Zb rfl (fun g3=>?_) (fun g3=>?_)))))
 try simp only [sQ,ne_eq] at g3
 refine Za (xA (h:=Zd (ZA (Zl (ZM (ZA (Zl ?_)))))))
 exact eR t1 ⟨ZF (ZgA hz hs ((ZcE hl).1 g3)).symm,rfl,rfl⟩
 try simp only [sQ,ne_eq] at g3
 refine ZS (ZK (Zn (Ze (xM (h:=xD (h:=xA (h:=?_)))))))
 exact ZC (g.1+1,szI g.2 (ZcF z)) [] so2 ⟨rfl,so,by have:=(Zcn hl g3).1;rw [Zer _ hz];simp only [];omega,g3⟩ t4 rfl
 try simp only [sQ,ne_eq] at g2
 refine ZE (ZT (ZH (Zv (Zn (Za (xM (h:=xA (h:=Zd ?_))))))))
 exact eR t1 ⟨ZF (ZgB hs hl oz).symm,rfl,rfl⟩

theorem ZpJ (q:Option Addr) (cp:Nat) (xs:List DMail) (left:Int) (hl0:0≤left) (hl1:left≤1048576) (B:Kn) (hx:SlB B q cp 3 ZiE xs):Z8 (pj J) 163 [.slice q xs.length cp,.int .i64 left] B (.int .i64 (szI left (szL ZdL xs))):=by
 refine cB 27 Tryz.func163 (h:=?_)
 have hxn:=hx.len
 refine Za (xA (h:=Za (xM (h:=xM (h:=xV Tryz.underlying122 (h:=xU (h:=xA (h:=Zc (Za (xM (h:=ZG (h:=Zb rfl (fun g1=>?_) (fun g1=>?_)))))))))))))
 try simp only [sQ,ne_eq] at g1
 refine Za (xA (h:=Zd (Zl ?_)))
 exact eR t1 ⟨ZF (ZgC oz).symm,rfl,rfl⟩
 try simp only [sQ,ne_eq] at g1
 refine ZS ?_
 refine Zn ?_
 refine Zc ?_
 refine Za ?_
 refine Zj (Zcm rfl rfl rfl ?_)
 refine Zg ?_
 refine Zy (α:=Nat × Int) [0,11] (fun g=>[(1,.int .i64 g.2),(5,.int .i64 g.1)]) [] (fun g=>[]) (fun g Bx=>Bx=B∧g.1≤xs.length∧g.2=left - xs.length - ((xs.take g.1).map ZdL).sum∧0≤g.2) (fun g=>xs.length - g.1) (0,left - ↑xs.length) ⟨rfl,rfl,trivial⟩ rfl (⟨rfl,Nat.zero_le _,by simp,g1⟩) (fun g B1 hle1 hI=>?_)
 obtain ⟨rfl,hk,hs,hl⟩:=hI
 refine ZD [(0,_),(1,_),(5,_),(11,_)] [] t4 rfl (Zc (Za (xM (h:=xM (h:=xV Tryz.underlying122 (h:=ZG (h:=Zb rfl (fun g2=>?_) (fun g2=>?_))))))))
 try simp only [sQ,ne_eq] at g2
 refine wSk (Zc (Zg (Za (xM (h:=xM (h:=?_))))))
 obtain ⟨z,hz⟩:=ZX (xs:=xs) (i:=g.1) om
 obtain ⟨bb3,oo3,rfl⟩:=hx.base hz
 obtain ⟨_,⟨rfl,hb4⟩,hc4⟩:=hx.elem hz
 refine xIx Tryz.underlying122 ZwO (h:=yL [_,_,_] Zw7 hc4 0 (h:=xM (h:=xR ZzC rfl (Zsv z om g.2 om om _) (h:=?_))))
 refine xA (h:=Za (xM (h:=ZG (h:=Zb rfl (fun g3=>?_) (fun g3=>?_)))))
 try simp only [sQ,ne_eq] at g3
 refine Za (xA (h:=Zd (ZA (Zl (ZM (ZA (Zl ?_)))))))
 exact eR t1 ⟨ZF (ZgA hz hs ((ZcE hl).1 g3)).symm,rfl,rfl⟩
 try simp only [sQ,ne_eq] at g3
 refine ZS (ZK (Zn (Ze (xM (h:=xD (h:=xA (h:=?_)))))))
 exact ZC (g.1+1,szI g.2 (ZdL z)) [] so2 ⟨rfl,so,by have:=(Zcn hl g3).1;rw [Zer _ hz];simp only [];omega,g3⟩ t4 rfl
 try simp only [sQ,ne_eq] at g2
 refine ZE (ZT (ZH (Zv (Zn (Za (xM (h:=xA (h:=Zd ?_))))))))
 exact eR t1 ⟨ZF (ZgB hs hl oz).symm,rfl,rfl⟩

theorem Zsw (q:Option Addr) (cp:Nat) (x:DItem) (h1:x.fr.length≤140737488355328) (h2:x.text.length≤140737488355328) (left:Int) (hl0:0≤left) (hl1:left≤1048576) (B:Kn) (hx:SlB B q cp 1 Zji x.left):Z8 (pj J) 118 [.agg #[.int .i64 x.id,str x.fr,str x.text,.slice q x.left.length cp],.int .i64 left] B (.int .i64 (szI left (ZbL x))):=by
 refine cB 26 Tryz.func118 (h:=?_)
 have hxn:=hx.len
 refine Za (xBx [_,_,_,_] (h:=fun b1=>xA (h:=tL1 (Za (xM (h:=xW ZqX (h:=x1 lk9 0 (h:=xVs Tryz.underlying9 (h:=xU (h:=xA (h:=Zc (Za (xM (h:=ZG (h:=Zb rfl (fun g1=>?_) (fun g1=>?_))))))))))))))))
 try simp only [sQ,ne_eq] at g1
 refine Za (xA (h:=Zd (Zl ?_)))
 exact eR t1 ⟨ZF (by rw [Zb0 (by unfold ZbL;omega)]),rfl,rfl⟩
 try simp only [sQ,ne_eq] at g1
 refine wSk (Za (xM (h:=xW ZqW (h:=x1 lk9 0 (h:=xVs Tryz.underlying9 (h:=xU (h:=xA (h:=Zc (Za (xM (h:=ZG (h:=Zb rfl (fun g2=>?_) (fun g2=>?_)))))))))))))
 try simp only [sQ,ne_eq] at g2
 refine Za (xA (h:=Zd (Zl ?_)))
 exact eR t1 ⟨ZF (by rw [Zb0 (by unfold ZbL;omega)]),rfl,rfl⟩
 try simp only [sQ,ne_eq] at g2
 refine wSk (Za (xW ZqV (h:=x1 ZfV 0 (h:=xM (h:=?_)))))
 have hq2:=Zsu (J:=J) _ _ x.left ((left - ↑x.fr.length) - ↑x.text.length) om om _ hx
 refine xR ZzZ rfl hq2 (h:=xA (h:=Zc (Za (xM (h:=ZG (h:=Zb rfl (fun g3=>?_) (fun g3=>?_)))))))
 try simp only [sQ,ne_eq] at g3
 have g3x:=(ZcE oz).1 g3
 refine Za (xA (h:=Zd (Zl ?_)))
 exact eR t1 ⟨ZF (by rw [Zb0 (by unfold ZbL ZfB;omega)]),rfl,rfl⟩
 try simp only [sQ,ne_eq] at g3
 have g3x:=Zcn oz g3
 refine wSk (Za (xM (h:=xA (h:=Zd ?_))))
 exact eR t1 ⟨ZF (by (try dsimp only at *);rw [Zno (left:=left) (s:=ZbL x) (by unfold ZbL ZfB;omega)];unfold ZbL ZfB;omega),rfl,rfl⟩

theorem ZpK (q:Option Addr) (cp:Nat) (xs:List DItem) (left:Int) (hl0:0≤left) (hl1:left≤1048576) (B:Kn) (hx:SlB B q cp 4 Ziv xs):Z8 (pj J) 69 [.slice q xs.length cp,.int .i64 left] B (.int .i64 (szI left (szL ZbL xs))):=by
 refine cB 27 Tryz.func69 (h:=?_)
 have hxn:=hx.len
 refine Za (xA (h:=Za (xM (h:=xM (h:=xV Tryz.underlying24 (h:=xU (h:=xA (h:=Zc (Za (xM (h:=ZG (h:=Zb rfl (fun g1=>?_) (fun g1=>?_)))))))))))))
 try simp only [sQ,ne_eq] at g1
 refine Za (xA (h:=Zd (Zl ?_)))
 exact eR t1 ⟨ZF (ZgC oz).symm,rfl,rfl⟩
 try simp only [sQ,ne_eq] at g1
 refine ZS ?_
 refine Zn ?_
 refine Zc ?_
 refine Za ?_
 refine Zj (Zcm rfl rfl rfl ?_)
 refine Zg ?_
 refine Zy (α:=Nat × Int) [0,11] (fun g=>[(1,.int .i64 g.2),(5,.int .i64 g.1)]) [] (fun g=>[]) (fun g Bx=>Bx=B∧g.1≤xs.length∧g.2=left - xs.length - ((xs.take g.1).map ZbL).sum∧0≤g.2) (fun g=>xs.length - g.1) (0,left - ↑xs.length) ⟨rfl,rfl,trivial⟩ rfl (⟨rfl,Nat.zero_le _,by simp,g1⟩) (fun g B1 hle1 hI=>?_)
 obtain ⟨rfl,hk,hs,hl⟩:=hI
 refine ZD [(0,_),(1,_),(5,_),(11,_)] [] t4 rfl (Zc (Za (xM (h:=xM (h:=xV Tryz.underlying24 (h:=ZG (h:=Zb rfl (fun g2=>?_) (fun g2=>?_))))))))
 try simp only [sQ,ne_eq] at g2
 refine wSk (Zc (Zg (Za (xM (h:=xM (h:=?_))))))
 obtain ⟨z,hz⟩:=ZX (xs:=xs) (i:=g.1) om
 obtain ⟨bb3,oo3,rfl⟩:=hx.base hz
 obtain ⟨_,⟨qi4,ci4,rfl,hi4,hb4,hb4b⟩,hc4⟩:=hx.elem hz
 have hi4n:=hi4.len
 refine xIx Tryz.underlying24 ZwR (h:=yL [_,_,_,_] Zw9 hc4 0 (h:=xM (h:=?_)))
 have hq5:=Zsw (J:=J) _ _ z om om g.2 om om _ hi4
 refine xR ZAv rfl hq5 (h:=xA (h:=Za (xM (h:=ZG (h:=Zb rfl (fun g3=>?_) (fun g3=>?_))))))
 try simp only [sQ,ne_eq] at g3
 refine Za (xA (h:=Zd (ZA (Zl (ZM (ZA (Zl ?_)))))))
 exact eR t1 ⟨ZF (ZgA hz hs ((ZcE hl).1 g3)).symm,rfl,rfl⟩
 try simp only [sQ,ne_eq] at g3
 refine ZS (ZK (Zn (Ze (xM (h:=xD (h:=xA (h:=?_)))))))
 exact ZC (g.1+1,szI g.2 (ZbL z)) [] so2 ⟨rfl,so,by have:=(Zcn hl g3).1;rw [Zer _ hz];simp only [];omega,g3⟩ t4 rfl
 try simp only [sQ,ne_eq] at g2
 refine ZE (ZT (ZH (Zv (Zn (Za (xM (h:=xA (h:=Zd ?_))))))))
 exact eR t1 ⟨ZF (ZgB hs hl oz).symm,rfl,rfl⟩

theorem ZuT (q:Option Addr) (cp:Nat) (x:DBox) (left:Int) (hl0:0≤left) (hl1:left≤1048576) (B:Kn) (hx:SlB B q cp 3 ZiE x.mail):Z8 (pj J) 117 [.agg #[.int .i64 x.next,.slice q x.mail.length cp],.int .i64 left] B (.int .i64 (szI left (szL ZdL x.mail))):=by
 refine cB 12 Tryz.func117 (h:=?_)
 have hxn:=hx.len
 refine Za (xBx [_,_] (h:=fun b1=>xA (h:=tL1 (Za (xW Zq6 (h:=x1 Zxd 0 (h:=xM (h:=?_))))))))
 have hq2:=ZpJ (J:=J) _ _ x.mail left om om _ hx
 refine xR Zz0 rfl hq2 (h:=xA (h:=Zc (Za (xM (h:=ZG (h:=Zb rfl (fun g1=>?_) (fun g1=>?_)))))))
 try simp only [sQ,ne_eq] at g1
 have g1x:=(ZcE oz).1 g1
 refine Za (xA (h:=Zd (Zl ?_)))
 exact eR t1 ⟨ZF (by rw [Zb0 g1x]),rfl,rfl⟩
 try simp only [sQ,ne_eq] at g1
 refine wSk (Za (xM (h:=xA (h:=Zd ?_))))
 exact eR t1 ⟨rfl,rfl,rfl⟩

theorem ZpI (q:Option Addr) (cp:Nat) (x:DQueue) (left:Int) (hl0:0≤left) (hl1:left≤1048576) (B:Kn) (hx:SlB B q cp 4 Ziv x.items):Z8 (pj J) 29 [.agg #[.int .i64 x.next,.slice q x.items.length cp],.int .i64 left] B (.int .i64 (szI left (szL ZbL x.items))):=by
 refine cB 12 Tryz.func29 (h:=?_)
 have hxn:=hx.len
 refine Za (xBx [_,_] (h:=fun b1=>xA (h:=tL1 (Za (xW Zux (h:=x1 ZAU 0 (h:=xM (h:=?_))))))))
 have hq2:=ZpK (J:=J) _ _ x.items left om om _ hx
 refine xR ZBL rfl hq2 (h:=xA (h:=Zc (Za (xM (h:=ZG (h:=Zb rfl (fun g1=>?_) (fun g1=>?_)))))))
 try simp only [sQ,ne_eq] at g1
 have g1x:=(ZcE oz).1 g1
 refine Za (xA (h:=Zd (Zl ?_)))
 exact eR t1 ⟨ZF (by rw [Zb0 g1x]),rfl,rfl⟩
 try simp only [sQ,ne_eq] at g1
 refine wSk (Za (xM (h:=xA (h:=Zd ?_))))
 exact eR t1 ⟨rfl,rfl,rfl⟩

theorem Zob (qa qb:Option Addr) (ca cb:Nat) (x:DFolder) (h1:x.owner.length≤140737488355328) (h2:x.name.length≤140737488355328) (left:Int) (hl0:0≤left) (hl1:left≤1048576) (B:Kn) (hx:SlB B qa ca 2 Ziw x.grants) (hy:SlB B qb cb 3 ZiE x.mail):Z8 (pj J) 68 [.agg #[str x.owner,str x.name,.slice qa x.grants.length ca,.int .i64 x.next,.slice qb x.mail.length cb],.int .i64 left] B (.int .i64 (szI left (ZaG x))):=by
 refine cB 32 Tryz.func68 (h:=?_)
 have hxn:=hx.len
 have hyn:=hy.len
 refine Za (xBx [_,_,_,_,_] (h:=fun b1=>xA (h:=tL1 (Za (xM (h:=xW Zq5 (h:=x1 lk9 0 (h:=xVs Tryz.underlying9 (h:=xU (h:=xA (h:=Zc (Za (xM (h:=ZG (h:=Zb rfl (fun g1=>?_) (fun g1=>?_))))))))))))))))
 try simp only [sQ,ne_eq] at g1
 refine Za (xA (h:=Zd (Zl ?_)))
 exact eR t1 ⟨ZF (by rw [Zb0 (by unfold ZaG;omega)]),rfl,rfl⟩
 try simp only [sQ,ne_eq] at g1
 refine wSk (Za (xM (h:=xW Zq4 (h:=x1 lk9 0 (h:=xVs Tryz.underlying9 (h:=xU (h:=xA (h:=Zc (Za (xM (h:=ZG (h:=Zb rfl (fun g2=>?_) (fun g2=>?_)))))))))))))
 try simp only [sQ,ne_eq] at g2
 refine Za (xA (h:=Zd (Zl ?_)))
 exact eR t1 ⟨ZF (by rw [Zb0 (by unfold ZaG;omega)]),rfl,rfl⟩
 try simp only [sQ,ne_eq] at g2
 refine wSk (Za (xW Zq3 (h:=x1 Zxe 0 (h:=xM (h:=?_)))))
 have hq2:=Zoa (J:=J) _ _ x.grants ((left - ↑x.owner.length) - ↑x.name.length) om om _ hx
 refine xR ZAx rfl hq2 (h:=xA (h:=Zc (Za (xM (h:=ZG (h:=Zb rfl (fun g3=>?_) (fun g3=>?_)))))))
 try simp only [sQ,ne_eq] at g3
 have g3x:=(ZcE oz).1 g3
 refine Za (xA (h:=Zd (Zl ?_)))
 exact eR t1 ⟨ZF (by rw [Zb0 (by unfold ZaG;omega)]),rfl,rfl⟩
 try simp only [sQ,ne_eq] at g3
 have g3x:=Zcn oz g3
 refine wSk (Za (xW Zq2 (h:=xL [_,_] Zxc 0 (h:=xM (h:=?_)))))
 have hq3:=ZuT (J:=J) _ _ (⟨x.next,x.mail⟩:DBox) (szI ((left - ↑x.owner.length) - ↑x.name.length) (szL ZcF x.grants)) om om _ hy
 refine xR ZAw rfl hq3 (h:=xA (h:=Zc (Za (xM (h:=ZG (h:=Zb rfl (fun g4=>?_) (fun g4=>?_)))))))
 try simp only [sQ,ne_eq] at g4
 have g4x:=(ZcE oz).1 g4
 refine Za (xA (h:=Zd (Zl ?_)))
 exact eR t1 ⟨ZF (by rw [Zb0 (by unfold ZaG;omega)]),rfl,rfl⟩
 try simp only [sQ,ne_eq] at g4
 have g4x:=Zcn oz g4
 refine wSk (Za (xM (h:=xA (h:=Zd ?_))))
 exact eR t1 ⟨ZF (by (try dsimp only at *);rw [Zno (left:=left) (s:=ZaG x) (by unfold ZaG;omega)];unfold ZaG;omega),rfl,rfl⟩

theorem Zl4 (q:Option Addr) (cp:Nat) (xs:List DFolder) (left:Int) (hl0:0≤left) (hl1:left≤1048576) (B:Kn) (hx:SlB B q cp 5 Zff xs):Z8 (pj J) 28 [.slice q xs.length cp,.int .i64 left] B (.int .i64 (szI left (szL ZaG xs))):=by
 refine cB 27 Tryz.func28 (h:=?_)
 have hxn:=hx.len
 refine Za (xA (h:=Za (xM (h:=xM (h:=xV Tryz.underlying23 (h:=xU (h:=xA (h:=Zc (Za (xM (h:=ZG (h:=Zb rfl (fun g1=>?_) (fun g1=>?_)))))))))))))
 try simp only [sQ,ne_eq] at g1
 refine Za (xA (h:=Zd (Zl ?_)))
 exact eR t1 ⟨ZF (ZgC oz).symm,rfl,rfl⟩
 try simp only [sQ,ne_eq] at g1
 refine ZS ?_
 refine Zn ?_
 refine Zc ?_
 refine Za ?_
 refine Zj (Zcm rfl rfl rfl ?_)
 refine Zg ?_
 refine Zy (α:=Nat × Int) [0,11] (fun g=>[(1,.int .i64 g.2),(5,.int .i64 g.1)]) [] (fun g=>[]) (fun g Bx=>Bx=B∧g.1≤xs.length∧g.2=left - xs.length - ((xs.take g.1).map ZaG).sum∧0≤g.2) (fun g=>xs.length - g.1) (0,left - ↑xs.length) ⟨rfl,rfl,trivial⟩ rfl (⟨rfl,Nat.zero_le _,by simp,g1⟩) (fun g B1 hle1 hI=>?_)
 obtain ⟨rfl,hk,hs,hl⟩:=hI
 refine ZD [(0,_),(1,_),(5,_),(11,_)] [] t4 rfl (Zc (Za (xM (h:=xM (h:=xV Tryz.underlying23 (h:=ZG (h:=Zb rfl (fun g2=>?_) (fun g2=>?_))))))))
 try simp only [sQ,ne_eq] at g2
 refine wSk (Zc (Zg (Za (xM (h:=xM (h:=?_))))))
 obtain ⟨z,hz⟩:=ZX (xs:=xs) (i:=g.1) om
 obtain ⟨bb3,oo3,rfl⟩:=hx.base hz
 obtain ⟨_,⟨qg4,cg4,qm4,cm4,rfl,hg4,hm4,hb4,hb4b⟩,hc4⟩:=hx.elem hz
 have hg4n:=hg4.len
 have hm4n:=hm4.len
 refine xIx Tryz.underlying23 ZwS (h:=yL [_,_,_,_,_] Zxb hc4 0 (h:=xM (h:=?_)))
 have hq5:=Zob (J:=J) _ _ _ _ z om om g.2 om om _ hg4 hm4
 refine xR ZBM rfl hq5 (h:=xA (h:=Za (xM (h:=ZG (h:=Zb rfl (fun g3=>?_) (fun g3=>?_))))))
 try simp only [sQ,ne_eq] at g3
 refine Za (xA (h:=Zd (ZA (Zl (ZM (ZA (Zl ?_)))))))
 exact eR t1 ⟨ZF (ZgA hz hs ((ZcE hl).1 g3)).symm,rfl,rfl⟩
 try simp only [sQ,ne_eq] at g3
 refine ZS (ZK (Zn (Ze (xM (h:=xD (h:=xA (h:=?_)))))))
 exact ZC (g.1+1,szI g.2 (ZaG z)) [] so2 ⟨rfl,so,by have:=(Zcn hl g3).1;rw [Zer _ hz];simp only [];omega,g3⟩ t4 rfl
 try simp only [sQ,ne_eq] at g2
 refine ZE (ZT (ZH (Zv (Zn (Za (xM (h:=xA (h:=Zd ?_))))))))
 exact eR t1 ⟨ZF (ZgB hs hl oz).symm,rfl,rfl⟩

theorem Zsx (q1 q2 q3:Option Addr) (c1 c2 c3:Nat) (x:DHost) (hd:x.domain.length≤140737488355328) (left:Int) (hl0:0≤left) (hl1:left≤1048576) (B:Kn) (hu:SlB B q1 c1 3 ZlP x.users) (hf:SlB B q2 c2 5 Zff x.folders) (hi:SlB B q3 c3 4 Ziv x.queue.items):Z8 (pj J) 5 [.agg #[str x.domain,.slice q1 x.users.length c1,.slice q2 x.folders.length c2,.int .i64 x.queue.next,.slice q3 x.queue.items.length c3],.int .i64 left] B (.int .i64 (szI left (Zc6 x))):=by
 refine cB 31 Tryz.func5 (h:=?_)
 have hun:=hu.len
 have hfn:=hf.len
 have hin:=hi.len
 refine Za (xBx [_,_,_,_,_] (h:=fun b1=>xA (h:=tL1 (Za (xM (h:=xW Zuw (h:=x1 lk9 0 (h:=xVs Tryz.underlying9 (h:=xU (h:=xA (h:=Zc (Za (xM (h:=ZG (h:=Zb rfl (fun g1=>?_) (fun g1=>?_))))))))))))))))
 try simp only [sQ,ne_eq] at g1
 refine Za (xA (h:=Zd (Zl ?_)))
 exact eR t1 ⟨ZF (by rw [Zb0 (by unfold Zc6;omega)]),rfl,rfl⟩
 try simp only [sQ,ne_eq] at g1
 refine wSk (Za (xW Zuv (h:=x1 ZAW 0 (h:=xM (h:=?_)))))
 have hq2:=ZpG (J:=J) _ _ x.users (left - ↑x.domain.length) om om _ hu
 refine xR ZB7 rfl hq2 (h:=xA (h:=Zc (Za (xM (h:=ZG (h:=Zb rfl (fun g2=>?_) (fun g2=>?_)))))))
 try simp only [sQ,ne_eq] at g2
 have g2x:=(ZcE oz).1 g2
 refine Za (xA (h:=Zd (Zl ?_)))
 exact eR t1 ⟨ZF (by rw [Zb0 (by unfold Zc6;omega)]),rfl,rfl⟩
 try simp only [sQ,ne_eq] at g2
 have g2x:=Zcn oz g2
 refine wSk (Za (xW Zuu (h:=x1 ZAV 0 (h:=xM (h:=?_)))))
 have hq3:=Zl4 (J:=J) _ _ x.folders (szI (left - ↑x.domain.length) (szL Zdo x.users)) om om _ hf
 refine xR ZB6 rfl hq3 (h:=xA (h:=Zc (Za (xM (h:=ZG (h:=Zb rfl (fun g3=>?_) (fun g3=>?_)))))))
 try simp only [sQ,ne_eq] at g3
 have g3x:=(ZcE oz).1 g3
 refine Za (xA (h:=Zd (Zl ?_)))
 exact eR t1 ⟨ZF (by rw [Zb0 (by unfold Zc6;omega)]),rfl,rfl⟩
 try simp only [sQ,ne_eq] at g3
 have g3x:=Zcn oz g3
 refine wSk (Za (xW Zut (h:=xL [_,_] ZAT 0 (h:=xM (h:=?_)))))
 have hq4:=ZpI (J:=J) _ _ (⟨x.queue.next,x.queue.items⟩:DQueue) (szI (szI (left - ↑x.domain.length) (szL Zdo x.users)) (szL ZaG x.folders)) om om _ hi
 refine xR ZB5 rfl hq4 (h:=xA (h:=Zc (Za (xM (h:=ZG (h:=Zb rfl (fun g4=>?_) (fun g4=>?_)))))))
 try simp only [sQ,ne_eq] at g4
 have g4x:=(ZcE oz).1 g4
 refine Za (xA (h:=Zd (Zl ?_)))
 exact eR t1 ⟨ZF (by rw [Zb0 (by unfold Zc6;omega)]),rfl,rfl⟩
 try simp only [sQ,ne_eq] at g4
 have g4x:=Zcn oz g4
 refine wSk (Za (xM (h:=xA (h:=Zd ?_))))
 exact eR t1 ⟨ZF (by (try dsimp only at *);rw [Zno (left:=left) (s:=Zc6 x) (by unfold Zc6;omega)];unfold Zc6;omega),rfl,rfl⟩

theorem Zsn (x:DUser)  (B:Kn):Z8 (pj J) 86 [.agg #[str x.name,str x.pass,.int .i64 x.quota]] B (.agg #[str x.name,str x.pass,.int .i64 x.quota]):=by
 refine cB 14 Tryz.func86 (h:=?_)
 refine Za (xBx [_,_,_] (h:=fun b1=>xAl [_,_,_] Zej (h:=fun b2=>tL2 (Za (xAl [_,_,_] Zej (h:=fun b3=>tL3 (Za (xW Zq8 (h:=x1 lk9 0 (h:=xW Zbg (h:=xS [_] 2 [_,_,_] sz9 (h:=tL3 (Za (xW Zq7 (h:=x1 lk9 0 (h:=xW Zf0 (h:=xS [_] 2 [_,_,_] sz9 (h:=tL3 (Za (xW ZvH (h:=x1 lk3 0 (h:=xW ZdX (h:=xS [_] 2 [_,_,_] sz3 (h:=tL3 (Za (xL [_,_,_] Zfw 2 (h:=xS [_,_,_] 1 [_,_,_] Zbr (h:=tL3 (Zd ?_)))))))))))))))))))))))))))))
 exact eR ⟨⟨_,rfl,.inr ⟨[_,_,_],Zfw,Zbu 1 rfl rfl rfl,rfl⟩⟩,trivial⟩ ⟨rfl,rfl,rfl⟩

theorem ZpC (x:DGrant)  (B:Kn):Z8 (pj J) 167 [.agg #[str x.user,.int .i64 x.rights]] B (.agg #[str x.user,.int .i64 x.rights]):=by
 refine cB 11 Tryz.func167 (h:=?_)
 refine Za (xBx [_,_] (h:=fun b1=>xAl [_,_] Zn0 (h:=fun b2=>tL2 (Za (xAl [_,_] Zn0 (h:=fun b3=>tL3 (Za (xW ZqS (h:=x1 lk9 0 (h:=xW Zcw (h:=xS [_] 2 [_,_] sz9 (h:=tL3 (Za (xW ZvE (h:=x1 lk3 0 (h:=xW Zdx (h:=xS [_] 2 [_,_] sz3 (h:=tL3 (Za (xL [_,_] Zqs 2 (h:=xS [_,_] 1 [_,_] ZdT (h:=tL3 (Zd ?_)))))))))))))))))))))))
 exact eR ⟨⟨_,rfl,.inr ⟨[_,_],Zqs,Zbu 1 rfl rfl rfl,rfl⟩⟩,trivial⟩ ⟨rfl,rfl,rfl⟩

theorem Zsq (x:DMail)  (B:Kn):Z8 (pj J) 207 [.agg #[.int .i64 x.uid,.int .i64 x.flags,str x.text]] B (.agg #[.int .i64 x.uid,.int .i64 x.flags,str x.text]):=by
 refine cB 14 Tryz.func207 (h:=?_)
 refine Za (xBx [_,_,_] (h:=fun b1=>xAl [_,_,_] Ziz (h:=fun b2=>tL2 (Za (xAl [_,_,_] Ziz (h:=fun b3=>tL3 (Za (xW ZvD (h:=x1 lk3 0 (h:=xW Zc3 (h:=xS [_] 2 [_,_,_] sz3 (h:=tL3 (Za (xW ZvC (h:=x1 lk3 0 (h:=xW Zdy (h:=xS [_] 2 [_,_,_] sz3 (h:=tL3 (Za (xW ZqR (h:=x1 lk9 0 (h:=xW Zez (h:=xS [_] 2 [_,_,_] sz9 (h:=tL3 (Za (xL [_,_,_] ZgO 2 (h:=xS [_,_,_] 1 [_,_,_] ZcT (h:=tL3 (Zd ?_)))))))))))))))))))))))))))))
 exact eR ⟨⟨_,rfl,.inr ⟨[_,_,_],ZgO,Zbu 1 rfl rfl rfl,rfl⟩⟩,trivial⟩ ⟨rfl,rfl,rfl⟩

theorem Zso (q:Option Addr) (cp:Nat) (xs:List Str) (hx20:ZfB xs≤1048576) (B:Kn) (hx:SlK B q cp 1 ZdF xs):Zw (pj J) 169 [.slice q xs.length cp] B [] (fun v B' Ls=>∃q c l,v = .slice q xs.length c∧B'=B∧Ls=[l]∧ZW Kn.none l q c 9 1 ZdF xs):=by
 refine cB 22 Tryz.func169 (h:=?_)
 have hxn:=hx.len
 have hx21:=ZuX hx20
 refine Za (xA (h:=Za (xM (h:=xV Tryz.underlying134 (h:=Zj (Za1 (m:=xs.length) (c:=xs.length) (by_:=16) [.string ⟨#[]⟩] rfl rfl Zrp zo9 rfl rfl ⟨_,_,rfl,by first | omega | (simp;done) | (simp;omega)⟩ ⟨_,_,rfl,by first | omega | (simp;done) | (simp;omega)⟩ om om (fun b1=>?_)))))))
 have hv1:=ZW.zeros (B:=Kn.none) (b:=b1) (T:=9) (R:=ZdF) (d:=([]:Str)) (m:=xs.length) (c:=xs.length) (zs:=[.string ⟨#[]⟩]) rfl (⟨rfl,by simp⟩) om
 refine xA (h:=tL1 (Zc (Za (xA (h:=Zg (Zy (α:=Nat × Cells) [0,2] (fun g=>[(3,.slice (some ⟨b1,0,none⟩) xs.length xs.length),(4,.int .i64 g.1)]) [0] (fun g=>[g.2]) (fun g Bx=>Bx=B∧g.1≤xs.length∧ZW Kn.none g.2 (some ⟨b1,0,none⟩) xs.length 9 1 ZdF (fill xs ([]:Str) g.1)) (fun g=>xs.length - g.1) (0,_) t2 rfl (⟨rfl,Nat.zero_le _,by rw [Zdz];exact hv1⟩) (fun g B2 hle2 hI=>?_)))))))
 obtain ⟨rfl,hk,hvl⟩:=hI
 have hfl:=ZeE (d:=([]:Str)) hk
 refine ZD [(0,_),(2,_),(3,_),(4,_)] [_] t4 rfl (Zc (Za (xM (h:=xM (h:=xV Tryz.underlying134 (h:=ZG (h:=Zb rfl (fun g1=>?_) (fun g1=>?_))))))))
 try simp only [sQ,ne_eq] at g1
 refine wSk (Zc (Zg (Ze (xM (h:=xM (h:=xM (h:=xM (h:=?_))))))))
 obtain ⟨z,hz⟩:=ZX (xs:=xs) (i:=g.1) om
 obtain ⟨bb4,oo4,rfl⟩:=hx.base hz
 obtain ⟨_,⟨rfl,hb5⟩,hc5⟩:=hx.elem hz
 refine xIx Tryz.underlying134 sz9 (h:=y1 lk9 hc5 0 (h:=xIp rfl Tryz.underlying134 sz9 (h:=Zj (Zpi (R:=ZdF) (k:=g.1) (z) 0 rfl hvl rfl om rfl rfl sz9 rfl rfl rfl rfl rfl (⟨rfl,by first | assumption | omega | (simp;omega)⟩) (fun l7 hv7=>?_)))))
 refine ZK (Zn (Ze (xM (h:=xD (h:=xA (h:=?_))))))
 exact ZC (g.1+1,l7) [0] so2 ⟨rfl,so,by rw [← ZdA hz];exact hv7⟩ t4 rfl
 try simp only [sQ,ne_eq] at g1
 refine ZE (ZT (ZH (Zv (Zn (Za (xM (h:=xA (h:=Zd ?_))))))))
 exact eN [0] rfl t1 ⟨_,_,_,rfl,rfl,rfl,by have e:=hvl;rw [ZeF oz] at e;exact e⟩

theorem Zpy (q:Option Addr) (cp:Nat) (xs:List DUser) (hx20:szL Zdo xs≤1048576) (B:Kn) (hx:SlK B q cp 3 Zp xs):Zw (pj J) 38 [.slice q xs.length cp] B [] (fun v B' Ls=>∃q c l,v = .slice q xs.length c∧B'=B∧Ls=[l]∧ZW Kn.none l q c 132 3 Zp xs):=by
 refine cB 23 Tryz.func38 (h:=?_)
 have hxn:=hx.len
 have hx21:=(Za4 hx20).1
 refine Za (xA (h:=Za (xM (h:=xV Tryz.underlying22 (h:=Zj (Za1 (m:=xs.length) (c:=xs.length) (by_:=40) [.string ⟨#[]⟩,.string ⟨#[]⟩,.int .i64 0] rfl rfl ZoY Zej rfl rfl ⟨_,_,rfl,by first | omega | (simp;done) | (simp;omega)⟩ ⟨_,_,rfl,by first | omega | (simp;done) | (simp;omega)⟩ om om (fun b1=>?_)))))))
 have hv1:=ZW.zeros (B:=Kn.none) (b:=b1) (T:=132) (R:=Zp) (d:=(⟨[],[],0⟩:DUser)) (m:=xs.length) (c:=xs.length) (zs:=[.string ⟨#[]⟩,.string ⟨#[]⟩,.int .i64 0]) rfl (⟨rfl,by simp,by simp⟩) om
 refine xA (h:=tL1 (Zc (Za (xA (h:=Zg (Zy (α:=Nat × Cells) [0,2] (fun g=>[(3,.slice (some ⟨b1,0,none⟩) xs.length xs.length),(4,.int .i64 g.1)]) [0] (fun g=>[g.2]) (fun g Bx=>Bx=B∧g.1≤xs.length∧ZW Kn.none g.2 (some ⟨b1,0,none⟩) xs.length 132 3 Zp (fill xs (⟨[],[],0⟩:DUser) g.1)) (fun g=>xs.length - g.1) (0,_) t2 rfl (⟨rfl,Nat.zero_le _,by rw [Zdz];exact hv1⟩) (fun g B2 hle2 hI=>?_)))))))
 obtain ⟨rfl,hk,hvl⟩:=hI
 have hfl:=ZeE (d:=(⟨[],[],0⟩:DUser)) hk
 refine ZD [(0,_),(2,_),(3,_),(4,_)] [_] t4 rfl (Zc (Za (xM (h:=xM (h:=xV Tryz.underlying22 (h:=ZG (h:=Zb rfl (fun g1=>?_) (fun g1=>?_))))))))
 try simp only [sQ,ne_eq] at g1
 refine wSk (Zc (Zg (Ze (xM (h:=xM (h:=xM (h:=xM (h:=?_))))))))
 obtain ⟨z,hz⟩:=ZX (xs:=xs) (i:=g.1) om
 obtain ⟨bb4,oo4,rfl⟩:=hx.base hz
 obtain ⟨_,⟨rfl,hb5,hb5b⟩,hc5⟩:=hx.elem hz
 refine xIx Tryz.underlying22 ZwT (h:=yL [_,_,_] Zxf hc5 0 (h:=xR ZBA rfl (Zsn z  _) (h:=xIp rfl Tryz.underlying35 Zbr (h:=Zj (Zpi (R:=Zp) (k:=g.1) (z) 0 rfl hvl rfl om rfl rfl Zbr rfl rfl rfl rfl rfl (⟨rfl,by first | assumption | omega | (simp;done) | (simp;omega),by first | assumption | omega | (simp;done) | (simp;omega)⟩) (fun l8 hv8=>?_))))))
 refine ZK (Zn (Ze (xM (h:=xD (h:=xA (h:=?_))))))
 exact ZC (g.1+1,l8) [0] so2 ⟨rfl,so,by rw [← ZdA hz];exact hv8⟩ t4 rfl
 try simp only [sQ,ne_eq] at g1
 refine ZE (ZT (ZH (Zv (Zn (Za (xM (h:=xA (h:=Zd ?_))))))))
 exact eN [0] rfl t1 ⟨_,_,_,rfl,rfl,rfl,by have e:=hvl;rw [ZeF oz] at e;exact e⟩

theorem Zn8 (q:Option Addr) (cp:Nat) (xs:List DGrant) (hx20:szL ZcF xs≤1048576) (B:Kn) (hx:SlK B q cp 2 Zac xs):Zw (pj J) 129 [.slice q xs.length cp] B [] (fun v B' Ls=>∃q c l,v = .slice q xs.length c∧B'=B∧Ls=[l]∧ZW Kn.none l q c 223 2 Zac xs):=by
 refine cB 23 Tryz.func129 (h:=?_)
 have hxn:=hx.len
 have hx21:=(Za4 hx20).1
 refine Za (xA (h:=Za (xM (h:=xV Tryz.underlying121 (h:=Zj (Za1 (m:=xs.length) (c:=xs.length) (by_:=24) [.string ⟨#[]⟩,.int .i64 0] rfl rfl ZyY Zn0 rfl rfl ⟨_,_,rfl,by first | omega | (simp;done) | (simp;omega)⟩ ⟨_,_,rfl,by first | omega | (simp;done) | (simp;omega)⟩ om om (fun b1=>?_)))))))
 have hv1:=ZW.zeros (B:=Kn.none) (b:=b1) (T:=223) (R:=Zac) (d:=(⟨[],0⟩:DGrant)) (m:=xs.length) (c:=xs.length) (zs:=[.string ⟨#[]⟩,.int .i64 0]) rfl (⟨rfl,by simp⟩) om
 refine xA (h:=tL1 (Zc (Za (xA (h:=Zg (Zy (α:=Nat × Cells) [0,2] (fun g=>[(3,.slice (some ⟨b1,0,none⟩) xs.length xs.length),(4,.int .i64 g.1)]) [0] (fun g=>[g.2]) (fun g Bx=>Bx=B∧g.1≤xs.length∧ZW Kn.none g.2 (some ⟨b1,0,none⟩) xs.length 223 2 Zac (fill xs (⟨[],0⟩:DGrant) g.1)) (fun g=>xs.length - g.1) (0,_) t2 rfl (⟨rfl,Nat.zero_le _,by rw [Zdz];exact hv1⟩) (fun g B2 hle2 hI=>?_)))))))
 obtain ⟨rfl,hk,hvl⟩:=hI
 have hfl:=ZeE (d:=(⟨[],0⟩:DGrant)) hk
 refine ZD [(0,_),(2,_),(3,_),(4,_)] [_] t4 rfl (Zc (Za (xM (h:=xM (h:=xV Tryz.underlying121 (h:=ZG (h:=Zb rfl (fun g1=>?_) (fun g1=>?_))))))))
 try simp only [sQ,ne_eq] at g1
 refine wSk (Zc (Zg (Ze (xM (h:=xM (h:=xM (h:=xM (h:=?_))))))))
 obtain ⟨z,hz⟩:=ZX (xs:=xs) (i:=g.1) om
 obtain ⟨bb4,oo4,rfl⟩:=hx.base hz
 obtain ⟨_,⟨rfl,hb5⟩,hc5⟩:=hx.elem hz
 refine xIx Tryz.underlying121 ZwQ (h:=yL [_,_] Zw8 hc5 0 (h:=xR ZzW rfl (ZpC z  _) (h:=xIp rfl Tryz.underlying85 ZdT (h:=Zj (Zpi (R:=Zac) (k:=g.1) (z) 0 rfl hvl rfl om rfl rfl ZdT rfl rfl rfl rfl rfl (⟨rfl,by first | assumption | omega | (simp;done) | (simp;omega)⟩) (fun l8 hv8=>?_))))))
 refine ZK (Zn (Ze (xM (h:=xD (h:=xA (h:=?_))))))
 exact ZC (g.1+1,l8) [0] so2 ⟨rfl,so,by rw [← ZdA hz];exact hv8⟩ t4 rfl
 try simp only [sQ,ne_eq] at g1
 refine ZE (ZT (ZH (Zv (Zn (Za (xM (h:=xA (h:=Zd ?_))))))))
 exact eN [0] rfl t1 ⟨_,_,_,rfl,rfl,rfl,by have e:=hvl;rw [ZeF oz] at e;exact e⟩

theorem Zsp (x:DSpan)  (B:Kn):Z8 (pj J) 41 [.agg #[.int .i64 x.low,.int .i64 x.high]] B (.agg #[.int .i64 x.low,.int .i64 x.high]):=by
 refine cB 11 Tryz.func41 (h:=?_)
 refine Za (xBx [_,_] (h:=fun b1=>xAl [_,_] Zwi (h:=fun b2=>tL2 (Za (xAl [_,_] Zwi (h:=fun b3=>tL3 (Za (xW Zxo (h:=x1 lk3 0 (h:=xW Zhl (h:=xS [_] 2 [_,_] sz3 (h:=tL3 (Za (xW Zxn (h:=x1 lk3 0 (h:=xW Zhk (h:=xS [_] 2 [_,_] sz3 (h:=tL3 (Za (xL [_,_] Zwg 2 (h:=xS [_,_] 1 [_,_] Zl5 (h:=tL3 (Zd ?_)))))))))))))))))))))))
 exact eR ⟨⟨_,rfl,.inr ⟨[_,_],Zwg,Zbu 1 rfl rfl rfl,rfl⟩⟩,trivial⟩ ⟨rfl,rfl,rfl⟩

theorem ZbK (q:Option Addr) (cp:Nat) (xs:List DSpan) (hx20:xs.length≤1048576) (B:Kn) (hx:SlK B q cp 2 Z0 xs):Zw (pj J) 11 [.slice q xs.length cp] B [] (fun v B' Ls=>∃q c l,v = .slice q xs.length c∧B'=B∧Ls=[l]∧ZW Kn.none l q c 93 2 Z0 xs):=by
 refine cB 23 Tryz.func11 (h:=?_)
 have hxn:=hx.len
 have hx21:=hx20
 refine Za (xA (h:=Za (xM (h:=xV Tryz.underlying31 (h:=Zj (Za1 (m:=xs.length) (c:=xs.length) (by_:=16) [.int .i64 0,.int .i64 0] rfl rfl ZBs Zwi rfl rfl ⟨_,_,rfl,by first | omega | (simp;done) | (simp;omega)⟩ ⟨_,_,rfl,by first | omega | (simp;done) | (simp;omega)⟩ om om (fun b1=>?_)))))))
 have hv1:=ZW.zeros (B:=Kn.none) (b:=b1) (T:=93) (R:=Z0) (d:=(⟨0,0⟩:DSpan)) (m:=xs.length) (c:=xs.length) (zs:=[.int .i64 0,.int .i64 0]) rfl (rfl) om
 refine xA (h:=tL1 (Zc (Za (xA (h:=Zg (Zy (α:=Nat × Cells) [0,2] (fun g=>[(3,.slice (some ⟨b1,0,none⟩) xs.length xs.length),(4,.int .i64 g.1)]) [0] (fun g=>[g.2]) (fun g Bx=>Bx=B∧g.1≤xs.length∧ZW Kn.none g.2 (some ⟨b1,0,none⟩) xs.length 93 2 Z0 (fill xs (⟨0,0⟩:DSpan) g.1)) (fun g=>xs.length - g.1) (0,_) t2 rfl (⟨rfl,Nat.zero_le _,by rw [Zdz];exact hv1⟩) (fun g B2 hle2 hI=>?_)))))))
 obtain ⟨rfl,hk,hvl⟩:=hI
 have hfl:=ZeE (d:=(⟨0,0⟩:DSpan)) hk
 refine ZD [(0,_),(2,_),(3,_),(4,_)] [_] t4 rfl (Zc (Za (xM (h:=xM (h:=xV Tryz.underlying31 (h:=ZG (h:=Zb rfl (fun g1=>?_) (fun g1=>?_))))))))
 try simp only [sQ,ne_eq] at g1
 refine wSk (Zc (Zg (Ze (xM (h:=xM (h:=xM (h:=xM (h:=?_))))))))
 obtain ⟨z,hz⟩:=ZX (xs:=xs) (i:=g.1) om
 obtain ⟨bb4,oo4,rfl⟩:=hx.base hz
 obtain ⟨_,rfl,hc5⟩:=hx.elem hz
 refine xIx Tryz.underlying31 ZBi (h:=yL [_,_] ZBq hc5 0 (h:=xR ZBY rfl (Zsp z  _) (h:=xIp rfl Tryz.underlying47 Zl5 (h:=Zj (Zpi (R:=Z0) (k:=g.1) (z) 0 rfl hvl rfl om rfl rfl Zl5 rfl rfl rfl rfl rfl (rfl) (fun l8 hv8=>?_))))))
 refine ZK (Zn (Ze (xM (h:=xD (h:=xA (h:=?_))))))
 exact ZC (g.1+1,l8) [0] so2 ⟨rfl,so,by rw [← ZdA hz];exact hv8⟩ t4 rfl
 try simp only [sQ,ne_eq] at g1
 refine ZE (ZT (ZH (Zv (Zn (Za (xM (h:=xA (h:=Zd ?_))))))))
 exact eN [0] rfl t1 ⟨_,_,_,rfl,rfl,rfl,by have e:=hvl;rw [ZeF oz] at e;exact e⟩

theorem ZpA (q:Option Addr) (cp:Nat) (xs:List DMail) (hx20:szL ZdL xs≤1048576) (B:Kn) (hx:SlK B q cp 3 Zab xs):Zw (pj J) 168 [.slice q xs.length cp] B [] (fun v B' Ls=>∃q c l,v = .slice q xs.length c∧B'=B∧Ls=[l]∧ZW Kn.none l q c 146 3 Zab xs):=by
 refine cB 23 Tryz.func168 (h:=?_)
 have hxn:=hx.len
 have hx21:=(Za4 hx20).1
 refine Za (xA (h:=Za (xM (h:=xV Tryz.underlying122 (h:=Zj (Za1 (m:=xs.length) (c:=xs.length) (by_:=32) [.int .i64 0,.int .i64 0,.string ⟨#[]⟩] rfl rfl Zxx Ziz rfl rfl ⟨_,_,rfl,by first | omega | (simp;done) | (simp;omega)⟩ ⟨_,_,rfl,by first | omega | (simp;done) | (simp;omega)⟩ om om (fun b1=>?_)))))))
 have hv1:=ZW.zeros (B:=Kn.none) (b:=b1) (T:=146) (R:=Zab) (d:=(⟨0,0,[]⟩:DMail)) (m:=xs.length) (c:=xs.length) (zs:=[.int .i64 0,.int .i64 0,.string ⟨#[]⟩]) rfl (⟨rfl,by simp⟩) om
 refine xA (h:=tL1 (Zc (Za (xA (h:=Zg (Zy (α:=Nat × Cells) [0,2] (fun g=>[(3,.slice (some ⟨b1,0,none⟩) xs.length xs.length),(4,.int .i64 g.1)]) [0] (fun g=>[g.2]) (fun g Bx=>Bx=B∧g.1≤xs.length∧ZW Kn.none g.2 (some ⟨b1,0,none⟩) xs.length 146 3 Zab (fill xs (⟨0,0,[]⟩:DMail) g.1)) (fun g=>xs.length - g.1) (0,_) t2 rfl (⟨rfl,Nat.zero_le _,by rw [Zdz];exact hv1⟩) (fun g B2 hle2 hI=>?_)))))))
 obtain ⟨rfl,hk,hvl⟩:=hI
 have hfl:=ZeE (d:=(⟨0,0,[]⟩:DMail)) hk
 refine ZD [(0,_),(2,_),(3,_),(4,_)] [_] t4 rfl (Zc (Za (xM (h:=xM (h:=xV Tryz.underlying122 (h:=ZG (h:=Zb rfl (fun g1=>?_) (fun g1=>?_))))))))
 try simp only [sQ,ne_eq] at g1
 refine wSk (Zc (Zg (Ze (xM (h:=xM (h:=xM (h:=xM (h:=?_))))))))
 obtain ⟨z,hz⟩:=ZX (xs:=xs) (i:=g.1) om
 obtain ⟨bb4,oo4,rfl⟩:=hx.base hz
 obtain ⟨_,⟨rfl,hb5⟩,hc5⟩:=hx.elem hz
 refine xIx Tryz.underlying122 ZwO (h:=yL [_,_,_] Zw7 hc5 0 (h:=xR ZzA rfl (Zsq z  _) (h:=xIp rfl Tryz.underlying80 ZcT (h:=Zj (Zpi (R:=Zab) (k:=g.1) (z) 0 rfl hvl rfl om rfl rfl ZcT rfl rfl rfl rfl rfl (⟨rfl,by first | assumption | omega | (simp;done) | (simp;omega)⟩) (fun l8 hv8=>?_))))))
 refine ZK (Zn (Ze (xM (h:=xD (h:=xA (h:=?_))))))
 exact ZC (g.1+1,l8) [0] so2 ⟨rfl,so,by rw [← ZdA hz];exact hv8⟩ t4 rfl
 try simp only [sQ,ne_eq] at g1
 refine ZE (ZT (ZH (Zv (Zn (Za (xM (h:=xA (h:=Zd ?_))))))))
 exact eN [0] rfl t1 ⟨_,_,_,rfl,rfl,rfl,by have e:=hvl;rw [ZeF oz] at e;exact e⟩

theorem Zsr (q:Option Addr) (cp:Nat) (x:DItem) (B:Kn) (hx:SlK B q cp 1 ZdF x.left) (hl:ZfB x.left≤1048576):Zw (pj J) 131 [.agg #[.int .i64 x.id,str x.fr,str x.text,.slice q x.left.length cp]] B [] (fun v B' Ls=>∃q0 c0 l0,v = .agg #[.int .i64 x.id,str x.fr,str x.text,.slice q0 x.left.length c0]∧B'=B∧Ls=[l0]∧ZW Kn.none l0 q0 c0 9 1 ZdF x.left):=by
 refine cB 18 Tryz.func131 (h:=?_)
 refine Za (xBx [_,_,_,_] (h:=fun b1=>xAl [_,_,_,_] Zft (h:=fun b2=>tL2 (Za (xAl [_,_,_,_] Zft (h:=fun b3=>tL3 (Za (xW ZvF (h:=x1 lk3 0 (h:=xW ZeB (h:=xS [_] 2 [_,_,_,_] sz3 (h:=tL3 (Za (xW ZqX (h:=x1 lk9 0 (h:=xW ZeA (h:=xS [_] 2 [_,_,_,_] sz9 (h:=tL3 (Za (xW ZqW (h:=x1 lk9 0 (h:=xW ZfZ (h:=xS [_] 2 [_,_,_,_] sz9 (h:=tL3 (Za (xW ZqV (h:=x1 ZfV 0 (h:=xC ZzU rfl (Zso _ _ x.left om2 _ hx) (h:=?_)))))))))))))))))))))))))))))
 rintro _ B4 _ hle4 ⟨q4,c4,l4,rfl,rfl,rfl,hv4⟩
 refine xW ZcM (h:=xS [_] 2 [_,_,_,_] ZuW (h:=tL4 (Za (xL [_,_,_,_] ZeX 2 (h:=xS [_,_,_,_] 1 [_,_,_,_] ZbA (h:=tL4 (Zd ?_)))))))
 exact eN [3] rfl ⟨⟨_,rfl,.inr ⟨[_,_,_,_],ZeX,Zbu 1 rfl rfl rfl,rfl⟩⟩,trivial⟩ ⟨_,_,_,rfl,rfl,rfl,hv4⟩

theorem ZpB (q:Option Addr) (cp:Nat) (xs:List DItem) (hx20:szL ZbL xs≤1048576) (B:Kn) (hx:SlK B q cp 4 Zz xs):Zw (pj J) 88 [.slice q xs.length cp] B [] (fun v B' Ls=>∃q c l,v = .slice q xs.length c∧B'=B∧Ls=[l]∧ZaV l q c 136 4 (ZaX 9) xs):=by
 refine cB 23 Tryz.func88 (h:=?_)
 have hxn:=hx.len
 have hx21:=(Za4 hx20).1
 refine Za (xA (h:=Za (xM (h:=xV Tryz.underlying24 (h:=Zj (Za1 (m:=xs.length) (c:=xs.length) (by_:=64) [.int .i64 0,.string ⟨#[]⟩,.string ⟨#[]⟩,.slice none 0 0] rfl rfl ZyZ Zft rfl rfl ⟨_,_,rfl,by first | omega | (simp;done) | (simp;omega)⟩ ⟨_,_,rfl,by first | omega | (simp;done) | (simp;omega)⟩ om om (fun b1=>?_)))))))
 have hd1:=ZaV.zeros (b:=b1) (T:=136) (R:=ZaX 9) (d:=(⟨0,[],[],[]⟩:DItem)) (m:=xs.length) (c:=xs.length) (zs:=[.int .i64 0,.string ⟨#[]⟩,.string ⟨#[]⟩,.slice none 0 0]) rfl (⟨_,_,rfl,ZW.nil,by simp,by simp,by simp⟩) om
 refine xA (h:=tL1 (Zc (Za (xA (h:=Zg (Zy (α:=Nat × Cells) [0,2] (fun g=>[(3,.slice (some ⟨b1,0,none⟩) xs.length xs.length),(4,.int .i64 g.1)]) [0] (fun g=>[g.2]) (fun g Bx=>Bx=B∧g.1≤xs.length∧ZaV g.2 (some ⟨b1,0,none⟩) xs.length 136 4 (ZaX 9) (fill xs (⟨0,[],[],[]⟩:DItem) g.1)) (fun g=>xs.length - g.1) (0,_) t2 rfl (⟨rfl,Nat.zero_le _,by rw [Zdz];exact hd1⟩) (fun g B2 hle2 hI=>?_)))))))
 obtain ⟨rfl,hk,hvl⟩:=hI
 have hfl:=ZeE (d:=(⟨0,[],[],[]⟩:DItem)) hk
 refine ZD [(0,_),(2,_),(3,_),(4,_)] [_] t4 rfl (Zc (Za (xM (h:=xM (h:=xV Tryz.underlying24 (h:=ZG (h:=Zb rfl (fun g1=>?_) (fun g1=>?_))))))))
 try simp only [sQ,ne_eq] at g1
 refine wSk (Zc (Zg (Ze (xM (h:=xM (h:=xM (h:=xM (h:=?_))))))))
 obtain ⟨z,hz⟩:=ZX (xs:=xs) (i:=g.1) om
 obtain ⟨bb4,oo4,rfl⟩:=hx.base hz
 obtain ⟨_,⟨qi5,ci5,rfl,hi5,hb5,hb5b⟩,hc5⟩:=hx.elem hz
 have hi5n:=hi5.len
 refine xIx Tryz.underlying24 ZwR (h:=?_)
 have hzz:=(Za4 hx20).2 z (List.mem_of_getElem? hz)
 have hza:=Zvr hzz
 refine yL [_,_,_,_] Zw9 hc5 0 (h:=xC ZAl rfl (Zsr _ _ z _ hi5 om2) (h:=?_))
 rintro _ B6 _ hle6 ⟨q6,c6,l6,rfl,rfl,rfl,hv6⟩
 refine xIp rfl Tryz.underlying37 ZbA (h:=Zj (Zwn (R:=ZaX 9) (k:=g.1) (z) 0 [1] rfl rfl hvl rfl om rfl rfl ZbA rfl rfl rfl rfl rfl (l6) (by simp) (⟨_,_,rfl,hv6,by first | assumption | omega | (simp;done) | (simp;omega),by first | assumption | omega | (simp;done) | (simp;omega),by first | assumption | omega | (simp;done) | (simp;omega)⟩) (fun l8 hd8=>?_)))
 refine ZK (Zn (Ze (xM (h:=xD (h:=xA (h:=?_))))))
 exact ZC (g.1+1,l8) [0] so2 ⟨rfl,so,by rw [← ZdA hz];exact hd8⟩ t4 rfl
 try simp only [sQ,ne_eq] at g1
 refine ZE (ZT (ZH (Zv (Zn (Za (xM (h:=xA (h:=Zd ?_))))))))
 exact eN [0] rfl t1 ⟨_,_,_,rfl,rfl,rfl,by have e:=hvl;rw [ZeF oz] at e;exact e⟩

theorem Zpz (q:Option Addr) (cp:Nat) (x:DQueue) (B:Kn) (hx:SlK B q cp 4 Zz x.items) (hl:szL ZbL x.items≤1048576):Zw (pj J) 40 [.agg #[.int .i64 x.next,.slice q x.items.length cp]] B [] (fun v B' Ls=>∃q0 c0 l0,v = .agg #[.int .i64 x.next,.slice q0 x.items.length c0]∧B'=B∧Ls=[l0]∧ZaV l0 q0 c0 136 4 (ZaX 9) x.items):=by
 refine cB 12 Tryz.func40 (h:=?_)
 refine Za (xBx [_,_] (h:=fun b1=>xAl [_,_] Zr0 (h:=fun b2=>tL2 (Za (xAl [_,_] Zr0 (h:=fun b3=>tL3 (Za (xW Zxp (h:=x1 lk3 0 (h:=xW Zgt (h:=xS [_] 2 [_,_] sz3 (h:=tL3 (Za (xW Zux (h:=x1 ZAU 0 (h:=xC ZBy rfl (ZpB _ _ x.items om2 _ hx) (h:=?_)))))))))))))))))
 rintro _ B4 _ hle4 ⟨q4,c4,l4,rfl,rfl,rfl,hv4⟩
 refine xW ZbT (h:=xS [_] 2 [_,_] ZyA (h:=tL4 (Za (xL [_,_] ZlR 2 (h:=xS [_,_] 1 [_,_] ZuU (h:=tL4 (Zd ?_)))))))
 exact eN [3] rfl ⟨⟨_,rfl,.inr ⟨[_,_],ZlR,Zbu 1 rfl rfl rfl,rfl⟩⟩,trivial⟩ ⟨_,_,_,rfl,rfl,rfl,hv4⟩

theorem ZuQ (q:Option Addr) (cp:Nat) (x:DBox) (B:Kn) (hx:SlK B q cp 3 Zab x.mail) (hl:szL ZdL x.mail≤1048576):Zw (pj J) 130 [.agg #[.int .i64 x.next,.slice q x.mail.length cp]] B [] (fun v B' Ls=>∃q0 c0 l0,v = .agg #[.int .i64 x.next,.slice q0 x.mail.length c0]∧B'=B∧Ls=[l0]∧ZW Kn.none l0 q0 c0 146 3 Zab x.mail):=by
 refine cB 12 Tryz.func130 (h:=?_)
 refine Za (xBx [_,_] (h:=fun b1=>xAl [_,_] Zix (h:=fun b2=>tL2 (Za (xAl [_,_] Zix (h:=fun b3=>tL3 (Za (xW ZvG (h:=x1 lk3 0 (h:=xW ZfF (h:=xS [_] 2 [_,_] sz3 (h:=tL3 (Za (xW Zq6 (h:=x1 Zxd 0 (h:=xC ZzV rfl (ZpA _ _ x.mail om2 _ hx) (h:=?_)))))))))))))))))
 rintro _ B4 _ hle4 ⟨q4,c4,l4,rfl,rfl,rfl,hv4⟩
 refine xW Zbj (h:=xS [_] 2 [_,_] ZAL (h:=tL4 (Za (xL [_,_] ZeQ 2 (h:=xS [_,_] 1 [_,_] Zgy (h:=tL4 (Zd ?_)))))))
 exact eN [3] rfl ⟨⟨_,rfl,.inr ⟨[_,_],ZeQ,Zbu 1 rfl rfl rfl,rfl⟩⟩,trivial⟩ ⟨_,_,_,rfl,rfl,rfl,hv4⟩

theorem Zn9 (qa qb:Option Addr) (ca cb:Nat) (x:DFolder) (B:Kn) (hx:SlK B qa ca 2 Zac x.grants) (hy:SlK B qb cb 3 Zab x.mail) (hl:szL ZcF x.grants≤1048576) (hl2:szL ZdL x.mail≤1048576):Zw (pj J) 87 [.agg #[str x.owner,str x.name,.slice qa x.grants.length ca,.int .i64 x.next,.slice qb x.mail.length cb]] B [] (fun v B' Ls=>∃q0 c0 l0 q1 c1 l1,v = .agg #[str x.owner,str x.name,.slice q0 x.grants.length c0,.int .i64 x.next,.slice q1 x.mail.length c1]∧B'=B∧Ls=[l0,l1]∧ZW Kn.none l0 q0 c0 223 2 Zac x.grants∧ZW Kn.none l1 q1 c1 146 3 Zab x.mail):=by
 refine cB 19 Tryz.func87 (h:=?_)
 refine Za (xBx [_,_,_,_,_] (h:=fun b1=>xAl [_,_,_,_,_] Zgx (h:=fun b2=>tL2 (Za (xAl [_,_,_,_,_] Zgx (h:=fun b3=>tL3 (Za (xW Zq5 (h:=x1 lk9 0 (h:=xW Zcv (h:=xS [_] 2 [_,_,_,_,_] sz9 (h:=tL3 (Za (xW Zq4 (h:=x1 lk9 0 (h:=xW Zea (h:=xS [_] 2 [_,_,_,_,_] sz9 (h:=tL3 (Za (xW Zq3 (h:=x1 Zxe 0 (h:=xC ZAn rfl (Zn8 _ _ x.grants om2 _ hx) (h:=?_)))))))))))))))))))))))
 rintro _ B4 _ hle4 ⟨q4,c4,l4,rfl,rfl,rfl,hv4⟩
 refine xW Zd9 (h:=xS [_] 2 [_,_,_,_,_] Zyz (h:=tL4 (Za (xW Zq2 (h:=xL [_,_] Zxc 0 (h:=xC ZAm rfl (ZuQ _ _ ⟨x.next,x.mail⟩ _ hy om2) (h:=?_)))))))
 rintro _ B5 _ hle5 ⟨q5,c5,l5,rfl,rfl,rfl,hv5⟩
 refine xW Zbi (h:=xS [_,_] 2 [_,_,_,_,_] Zgy (h:=tL5 (Za (xL [_,_,_,_,_] Ziy 2 (h:=xS [_,_,_,_,_] 1 [_,_,_,_,_] Zb1 (h:=tL5 (Zd ?_)))))))
 exact eN [3,4] rfl ⟨⟨_,rfl,.inr ⟨[_,_,_,_,_],Ziy,Zbu 1 rfl rfl rfl,rfl⟩⟩,trivial⟩ ⟨_,_,_,_,_,_,rfl,rfl,rfl,hv4,hv5⟩

theorem Zl2 (q:Option Addr) (cp:Nat) (xs:List DFolder) (hx20:szL ZaG xs≤1048576) (B:Kn) (hx:SlK B q cp 5 Zm xs):Zw (pj J) 39 [.slice q xs.length cp] B [] (fun v B' Ls=>∃q c l,v = .slice q xs.length c∧B'=B∧Ls=[l]∧ZaV l q c 87 5 (ZZ 223 146) xs):=by
 refine cB 23 Tryz.func39 (h:=?_)
 have hxn:=hx.len
 have hx21:=(Za4 hx20).1
 refine Za (xA (h:=Za (xM (h:=xV Tryz.underlying23 (h:=Zj (Za1 (m:=xs.length) (c:=xs.length) (by_:=88) [.string ⟨#[]⟩,.string ⟨#[]⟩,.slice none 0 0,.int .i64 0,.slice none 0 0] rfl rfl Zx6 Zgx rfl rfl ⟨_,_,rfl,by first | omega | (simp;done) | (simp;omega)⟩ ⟨_,_,rfl,by first | omega | (simp;done) | (simp;omega)⟩ om om (fun b1=>?_)))))))
 have hd1:=ZaV.zeros (b:=b1) (T:=87) (R:=(ZZ 223 146)) (d:=(⟨[],[],[],0,[]⟩:DFolder)) (m:=xs.length) (c:=xs.length) (zs:=[.string ⟨#[]⟩,.string ⟨#[]⟩,.slice none 0 0,.int .i64 0,.slice none 0 0]) rfl (⟨_,_,_,_,[],[],rfl,rfl,ZW.nil,ZW.nil,by simp,by simp,by simp,by simp⟩) om
 refine xA (h:=tL1 (Zc (Za (xA (h:=Zg (Zy (α:=Nat × Cells) [0,2] (fun g=>[(3,.slice (some ⟨b1,0,none⟩) xs.length xs.length),(4,.int .i64 g.1)]) [0] (fun g=>[g.2]) (fun g Bx=>Bx=B∧g.1≤xs.length∧ZaV g.2 (some ⟨b1,0,none⟩) xs.length 87 5 (ZZ 223 146) (fill xs (⟨[],[],[],0,[]⟩:DFolder) g.1)) (fun g=>xs.length - g.1) (0,_) t2 rfl (⟨rfl,Nat.zero_le _,by rw [Zdz];exact hd1⟩) (fun g B2 hle2 hI=>?_)))))))
 obtain ⟨rfl,hk,hvl⟩:=hI
 have hfl:=ZeE (d:=(⟨[],[],[],0,[]⟩:DFolder)) hk
 refine ZD [(0,_),(2,_),(3,_),(4,_)] [_] t4 rfl (Zc (Za (xM (h:=xM (h:=xV Tryz.underlying23 (h:=ZG (h:=Zb rfl (fun g1=>?_) (fun g1=>?_))))))))
 try simp only [sQ,ne_eq] at g1
 refine wSk (Zc (Zg (Ze (xM (h:=xM (h:=xM (h:=xM (h:=?_))))))))
 obtain ⟨z,hz⟩:=ZX (xs:=xs) (i:=g.1) om
 obtain ⟨bb4,oo4,rfl⟩:=hx.base hz
 obtain ⟨_,⟨qg5,cg5,qm5,cm5,rfl,hg5,hm5,hb5,hb5b⟩,hc5⟩:=hx.elem hz
 have hg5n:=hg5.len
 have hm5n:=hm5.len
 have hm5s:=Zap hm5
 refine xIx Tryz.underlying23 ZwS (h:=?_)
 have hzz:=(Za4 hx20).2 z (List.mem_of_getElem? hz)
 have hza:=ZqO hzz
 refine yL [_,_,_,_,_] Zxb hc5 0 (h:=xC ZBz rfl (Zn9 _ _ _ _ z _ hg5 hm5 om2 om2) (h:=?_))
 rintro _ B6 _ hle6 ⟨q6,c6,l6,q6b,c6b,l6b,rfl,rfl,rfl,hv6,hv6b⟩
 refine xIp rfl Tryz.underlying36 Zb1 (h:=Zj (Zwn (R:=(ZZ 223 146)) (k:=g.1) (z) 0 [1,2] rfl rfl hvl rfl om rfl rfl Zb1 rfl rfl rfl rfl rfl (l6 ++ l6b) (by simp) (⟨_,_,_,_,_,_,rfl,rfl,(hv6.anyK Zac.any),(hv6b.anyK Zab.any),by first | assumption | omega | (simp;done) | (simp;omega),by first | assumption | omega | (simp;done) | (simp;omega),by first | assumption | omega | (simp;done) | (simp;omega),by first | assumption | omega | (simp;done) | (simp;omega)⟩) (fun l8 hd8=>?_)))
 refine ZK (Zn (Ze (xM (h:=xD (h:=xA (h:=?_))))))
 exact ZC (g.1+1,l8) [0] so2 ⟨rfl,so,by rw [← ZdA hz];exact hd8⟩ t4 rfl
 try simp only [sQ,ne_eq] at g1
 refine ZE (ZT (ZH (Zv (Zn (Za (xM (h:=xA (h:=Zd ?_))))))))
 exact eN [0] rfl t1 ⟨_,_,_,rfl,rfl,rfl,by have e:=hvl;rw [ZeF oz] at e;exact e⟩

theorem Zfi (q1 q2 q3:Option Addr) (c1 c2 c3:Nat) (x:DHost) (B:Kn) (hu:SlK B q1 c1 3 Zp x.users) (hf:SlK B q2 c2 5 Zm x.folders) (hi:SlK B q3 c3 4 Zz x.queue.items) (hsz:Zc6 x≤1048576):Zw (pj J) 9 [.agg #[str x.domain,.slice q1 x.users.length c1,.slice q2 x.folders.length c2,.int .i64 x.queue.next,.slice q3 x.queue.items.length c3]] B [] (fun v B' Ls=>∃q0 c0 l0 q1 c1 l1 q2 c2 l2,v = .agg #[str x.domain,.slice q0 x.users.length c0,.slice q1 x.folders.length c1,.int .i64 x.queue.next,.slice q2 x.queue.items.length c2]∧B'=B∧Ls=[l0,l1,l2]∧ZW Kn.none l0 q0 c0 132 3 Zp x.users∧ZaV l1 q1 c1 87 5 (ZZ 223 146) x.folders∧ZaV l2 q2 c2 136 4 (ZaX 9) x.queue.items):=by
 refine cB 20 Tryz.func9 (h:=?_)
 have hsz2:=ZqE hsz
 refine Za (xBx [_,_,_,_,_] (h:=fun b1=>xAl [_,_,_,_,_] Zca (h:=fun b2=>tL2 (Za (xAl [_,_,_,_,_] Zca (h:=fun b3=>tL3 (Za (xW Zuw (h:=x1 lk9 0 (h:=xW Zie (h:=xS [_] 2 [_,_,_,_,_] sz9 (h:=tL3 (Za (xW Zuv (h:=x1 ZAW 0 (h:=xC ZB1 rfl (Zpy _ _ x.users om2 _ hu) (h:=?_)))))))))))))))))
 rintro _ B4 _ hle4 ⟨q4,c4,l4,rfl,rfl,rfl,hv4⟩
 refine xW Zcg (h:=xS [_] 2 [_,_,_,_,_] ZBk (h:=tL4 (Za (xW Zuu (h:=x1 ZAV 0 (h:=xC ZB0 rfl (Zl2 _ _ x.folders om2 _ hf) (h:=?_)))))))
 rintro _ B5 _ hle5 ⟨q5,c5,l5,rfl,rfl,rfl,hv5⟩
 refine xW ZaA (h:=xS [_] 2 [_,_,_,_,_] ZAM (h:=tL5 (Za (xW Zut (h:=xL [_,_] ZAT 0 (h:=xC ZBZ rfl (Zpz _ _ ⟨x.queue.next,x.queue.items⟩ _ hi om2) (h:=?_)))))))
 rintro _ B6 _ hle6 ⟨q6,c6,l6,rfl,rfl,rfl,hv6⟩
 refine xW ZeN (h:=xS [_,_] 2 [_,_,_,_,_] ZuU (h:=tL6 (Za (xL [_,_,_,_,_] ZcK 2 (h:=xS [_,_,_,_,_] 1 [_,_,_,_,_] ZcZ (h:=tL6 (Zd ?_)))))))
 exact eN [3,4,5] rfl ⟨⟨_,rfl,.inr ⟨[_,_,_,_,_],ZcK,Zbu 1 rfl rfl rfl,rfl⟩⟩,trivial⟩ ⟨_,_,_,_,_,_,_,_,_,rfl,rfl,rfl,hv4,hv5,hv6⟩

theorem Ztz   (a b:DUser) (B:Kn)   : Z8 (pj J) 101 [.agg #[str a.name,str a.pass,.int .i64 a.quota],.agg #[str b.name,str b.pass,.int .i64 b.quota]] B (.bool (decide (a=b))):=by
 refine cB 20 Tryz.func101 (h:=?_)
 refine Za (xBx [_,_,_] (h:=fun b1=>xBx [_,_,_] (h:=fun b2=>xA (h:=tL2 (Zc (Za (xW Zbg (h:=x1 lk9 0 (h:=xW Zbg (h:=x1 lk9 1 (h:=Zfy (h:=Zb rfl (fun g1=>?_) (fun g1=>?_)))))))))))))
 try simp only [sQ,ne_eq] at g1
 refine Za (xA (h:=Zd (Zl ?_)))
 exact eR t1 ⟨Zf (by symm;rw [decide_eq_false_iff_not];rintro rfl;exact g1 rfl),rfl,rfl⟩
 try simp only [sQ,ne_eq] at g1
 refine wSk (Zc (Za (xW Zf0 (h:=x1 lk9 0 (h:=xW Zf0 (h:=x1 lk9 1 (h:=Zfy (h:=Zb rfl (fun g2=>?_) (fun g2=>?_)))))))))
 try simp only [sQ,ne_eq] at g2
 refine Za (xA (h:=Zd (Zl ?_)))
 exact eR t1 ⟨Zf (by symm;rw [decide_eq_false_iff_not];rintro rfl;exact g2 rfl),rfl,rfl⟩
 try simp only [sQ,ne_eq] at g2
 refine wSk (Zc (Za (xW ZdX (h:=x1 lk3 0 (h:=xW ZdX (h:=x1 lk3 1 (h:=ZaP (h:=Zb rfl (fun g3=>?_) (fun g3=>?_)))))))))
 try simp only [sQ,ne_eq] at g3
 refine Za (xA (h:=Zd (Zl ?_)))
 exact eR t1 ⟨Zf (by symm;rw [decide_eq_false_iff_not];rintro rfl;exact g3 rfl),rfl,rfl⟩
 try simp only [sQ,ne_eq] at g3
 refine wSk (Za (xA (h:=Zd ?_)))
 exact eR t1 ⟨Zf (by symm;rw [decide_eq_true_eq];cases a;cases b;simp_all),rfl,rfl⟩

theorem Zro   (a b:DGrant) (B:Kn)   : Z8 (pj J) 194 [.agg #[str a.user,.int .i64 a.rights],.agg #[str b.user,.int .i64 b.rights]] B (.bool (decide (a=b))):=by
 refine cB 15 Tryz.func194 (h:=?_)
 refine Za (xBx [_,_] (h:=fun b1=>xBx [_,_] (h:=fun b2=>xA (h:=tL2 (Zc (Za (xW Zcw (h:=x1 lk9 0 (h:=xW Zcw (h:=x1 lk9 1 (h:=Zfy (h:=Zb rfl (fun g1=>?_) (fun g1=>?_)))))))))))))
 try simp only [sQ,ne_eq] at g1
 refine Za (xA (h:=Zd (Zl ?_)))
 exact eR t1 ⟨Zf (by symm;rw [decide_eq_false_iff_not];rintro rfl;exact g1 rfl),rfl,rfl⟩
 try simp only [sQ,ne_eq] at g1
 refine wSk (Zc (Za (xW Zdx (h:=x1 lk3 0 (h:=xW Zdx (h:=x1 lk3 1 (h:=ZaP (h:=Zb rfl (fun g2=>?_) (fun g2=>?_)))))))))
 try simp only [sQ,ne_eq] at g2
 refine Za (xA (h:=Zd (Zl ?_)))
 exact eR t1 ⟨Zf (by symm;rw [decide_eq_false_iff_not];rintro rfl;exact g2 rfl),rfl,rfl⟩
 try simp only [sQ,ne_eq] at g2
 refine wSk (Za (xA (h:=Zd ?_)))
 exact eR t1 ⟨Zf (by symm;rw [decide_eq_true_eq];cases a;cases b;simp_all),rfl,rfl⟩

theorem ZtC   (a b:DMail) (B:Kn)   : Z8 (pj J) 246 [.agg #[.int .i64 a.uid,.int .i64 a.flags,str a.text],.agg #[.int .i64 b.uid,.int .i64 b.flags,str b.text]] B (.bool (decide (a=b))):=by
 refine cB 20 Tryz.func246 (h:=?_)
 refine Za (xBx [_,_,_] (h:=fun b1=>xBx [_,_,_] (h:=fun b2=>xA (h:=tL2 (Zc (Za (xW Zc3 (h:=x1 lk3 0 (h:=xW Zc3 (h:=x1 lk3 1 (h:=ZaP (h:=Zb rfl (fun g1=>?_) (fun g1=>?_)))))))))))))
 try simp only [sQ,ne_eq] at g1
 refine Za (xA (h:=Zd (Zl ?_)))
 exact eR t1 ⟨Zf (by symm;rw [decide_eq_false_iff_not];rintro rfl;exact g1 rfl),rfl,rfl⟩
 try simp only [sQ,ne_eq] at g1
 refine wSk (Zc (Za (xW Zdy (h:=x1 lk3 0 (h:=xW Zdy (h:=x1 lk3 1 (h:=ZaP (h:=Zb rfl (fun g2=>?_) (fun g2=>?_)))))))))
 try simp only [sQ,ne_eq] at g2
 refine Za (xA (h:=Zd (Zl ?_)))
 exact eR t1 ⟨Zf (by symm;rw [decide_eq_false_iff_not];rintro rfl;exact g2 rfl),rfl,rfl⟩
 try simp only [sQ,ne_eq] at g2
 refine wSk (Zc (Za (xW Zez (h:=x1 lk9 0 (h:=xW Zez (h:=x1 lk9 1 (h:=Zfy (h:=Zb rfl (fun g3=>?_) (fun g3=>?_)))))))))
 try simp only [sQ,ne_eq] at g3
 refine Za (xA (h:=Zd (Zl ?_)))
 exact eR t1 ⟨Zf (by symm;rw [decide_eq_false_iff_not];rintro rfl;exact g3 rfl),rfl,rfl⟩
 try simp only [sQ,ne_eq] at g3
 refine wSk (Za (xA (h:=Zd ?_)))
 exact eR t1 ⟨Zf (by symm;rw [decide_eq_true_eq];cases a;cases b;simp_all),rfl,rfl⟩

theorem ZtA   (a b:DSpan) (B:Kn)   : Z8 (pj J) 51 [.agg #[.int .i64 a.low,.int .i64 a.high],.agg #[.int .i64 b.low,.int .i64 b.high]] B (.bool (decide (a=b))):=by
 refine cB 15 Tryz.func51 (h:=?_)
 refine Za (xBx [_,_] (h:=fun b1=>xBx [_,_] (h:=fun b2=>xA (h:=tL2 (Zc (Za (xW Zhl (h:=x1 lk3 0 (h:=xW Zhl (h:=x1 lk3 1 (h:=ZaP (h:=Zb rfl (fun g1=>?_) (fun g1=>?_)))))))))))))
 try simp only [sQ,ne_eq] at g1
 refine Za (xA (h:=Zd (Zl ?_)))
 exact eR t1 ⟨Zf (by symm;rw [decide_eq_false_iff_not];rintro rfl;exact g1 rfl),rfl,rfl⟩
 try simp only [sQ,ne_eq] at g1
 refine wSk (Zc (Za (xW Zhk (h:=x1 lk3 0 (h:=xW Zhk (h:=x1 lk3 1 (h:=ZaP (h:=Zb rfl (fun g2=>?_) (fun g2=>?_)))))))))
 try simp only [sQ,ne_eq] at g2
 refine Za (xA (h:=Zd (Zl ?_)))
 exact eR t1 ⟨Zf (by symm;rw [decide_eq_false_iff_not];rintro rfl;exact g2 rfl),rfl,rfl⟩
 try simp only [sQ,ne_eq] at g2
 refine wSk (Za (xA (h:=Zd ?_)))
 exact eR t1 ⟨Zf (by symm;rw [decide_eq_true_eq];cases a;cases b;simp_all),rfl,rfl⟩

theorem Zrk (q q':Option Addr) (cp cp':Nat) (xs ys:List DSpan) (B:Kn) (ha:SlK B q cp 2 Z0 xs) (hb:SlK B q' cp' 2 Z0 ys):Z8 (pj J) 14 [.slice q xs.length cp,.slice q' ys.length cp'] B (.bool (decide (xs=ys))):=by
 refine cB 27 Tryz.func14 (h:=?_)
 have han:=ha.len
 have hbn:=hb.len
 refine Za (xA (h:=Zc (Za (xM (h:=xV Tryz.underlying47 (h:=xM (h:=xV Tryz.underlying47 (h:=ZaP (h:=Zb rfl (fun g1=>?_) (fun g1=>?_))))))))))
 try simp only [sQ,ne_eq] at g1
 refine Za (xA (h:=Zd (Zl ?_)))
 exact eR t1 ⟨Zf (Zf4 g1),rfl,rfl⟩
 try simp only [sQ,ne_eq] at g1
 refine wSk (Zc (Za (xA (h:=Zg (Zy (α:=Nat) [0,1,10] (fun k=>[(5,.int .i64 k)]) [] (fun k=>[]) (fun k Bx=>Bx=B∧k≤xs.length∧xs.take k=ys.take k) (fun k=>xs.length - k) 0 t1 rfl (⟨rfl,Nat.zero_le _,by simp⟩) (fun k B1 hle1 hI=>?_))))))
 obtain ⟨rfl,hk,he⟩:=hI
 refine ZD [(0,_),(1,_),(5,_),(10,_)] [] t4 rfl (Zc (Za (xM (h:=xM (h:=xV Tryz.underlying47 (h:=ZG (h:=Zb rfl (fun g2=>?_) (fun g2=>?_))))))))
 try simp only [sQ,ne_eq] at g2
 refine wSk (Zc (Zg (Zc (Z3 (same _ _) mo kr ⟨rfl,rfl⟩ (fun _ _=>?_)))))
 refine aM 0 rfl (h:=aM 1 rfl (h:=?_))
 obtain ⟨x,hx⟩:=ZX (xs:=xs) (i:=k) om
 obtain ⟨bb3,oo3,rfl⟩:=ha.base hx
 obtain ⟨_,rfl,hc4⟩:=ha.elem hx
 refine aIx 2 rfl Tryz.underlying47 Zl5 (h:=aT 3 rfl (Zaf fun D=>Z4 [_,_] rfl rfl Zwg rfl (Zke hc4 0 rfl rfl) r4) (h:=aM 4 rfl (h:=aM 5 rfl (h:=?_))))
 obtain ⟨y,hy⟩:=ZX (xs:=ys) (i:=k) om
 obtain ⟨bb6,oo6,rfl⟩:=hb.base hy
 obtain ⟨_,rfl,hc7⟩:=hb.elem hy
 refine aIx 6 rfl Tryz.underlying47 Zl5 (h:=aT 7 rfl (Zaf fun D=>Z4 [_,_] rfl rfl Zwg rfl (Zke hc7 0 rfl rfl) r4) (h:=aT 8 rfl (Zaf fun D=>Z9 rfl rfl ZBU rfl (ZtA x y _ ) r4) (h:=aN 9 rfl (h:=Zu kr kr ?_))))
 refine Zn (Zb rfl (fun g3=>?_) (fun g3=>?_))
 try simp only [sQ,ne_eq] at g3
 refine Za (xA (h:=Zd (ZA (Zl (ZM (ZA (Zl ?_)))))))
 exact eR t1 ⟨Zf (ZeH hx hy g3),rfl,rfl⟩
 try simp only [sQ,ne_eq] at g3
 refine ZS (ZK (Zn (Ze (xM (h:=xD (h:=xA (h:=?_)))))))
 exact ZC (k+1) [] so2 ⟨rfl,oz,Zbt hx hy g3 he⟩ t4 rfl
 try simp only [sQ,ne_eq] at g2
 refine ZE (ZT (ZH (Zv (Zn (Za (xA (h:=Zd ?_)))))))
 exact eR t1 ⟨Zf (eqT oz oz he),rfl,rfl⟩

theorem Zrj (q q':Option Addr) (cp cp':Nat) (xs ys:List DUser) (B:Kn) (ha:SlK B q cp 3 Zp xs) (hb:SlK B q' cp' 3 Zp ys):Z8 (pj J) 48 [.slice q xs.length cp,.slice q' ys.length cp'] B (.bool (decide (xs=ys))):=by
 refine cB 27 Tryz.func48 (h:=?_)
 have han:=ha.len
 have hbn:=hb.len
 refine Za (xA (h:=Zc (Za (xM (h:=xV Tryz.underlying35 (h:=xM (h:=xV Tryz.underlying35 (h:=ZaP (h:=Zb rfl (fun g1=>?_) (fun g1=>?_))))))))))
 try simp only [sQ,ne_eq] at g1
 refine Za (xA (h:=Zd (Zl ?_)))
 exact eR t1 ⟨Zf (Zf4 g1),rfl,rfl⟩
 try simp only [sQ,ne_eq] at g1
 refine wSk (Zc (Za (xA (h:=Zg (Zy (α:=Nat) [0,1,10] (fun k=>[(5,.int .i64 k)]) [] (fun k=>[]) (fun k Bx=>Bx=B∧k≤xs.length∧xs.take k=ys.take k) (fun k=>xs.length - k) 0 t1 rfl (⟨rfl,Nat.zero_le _,by simp⟩) (fun k B1 hle1 hI=>?_))))))
 obtain ⟨rfl,hk,he⟩:=hI
 refine ZD [(0,_),(1,_),(5,_),(10,_)] [] t4 rfl (Zc (Za (xM (h:=xM (h:=xV Tryz.underlying35 (h:=ZG (h:=Zb rfl (fun g2=>?_) (fun g2=>?_))))))))
 try simp only [sQ,ne_eq] at g2
 refine wSk (Zc (Zg (Zc (Z3 (same _ _) mo kr ⟨rfl,rfl⟩ (fun _ _=>?_)))))
 refine aM 0 rfl (h:=aM 1 rfl (h:=?_))
 obtain ⟨x,hx⟩:=ZX (xs:=xs) (i:=k) om
 obtain ⟨bb3,oo3,rfl⟩:=ha.base hx
 obtain ⟨_,⟨rfl,hb4,hb4b⟩,hc4⟩:=ha.elem hx
 refine aIx 2 rfl Tryz.underlying35 Zbr (h:=aT 3 rfl (Zaf fun D=>Z4 [_,_,_] rfl rfl Zfw rfl (Zke hc4 0 rfl rfl) r4) (h:=aM 4 rfl (h:=aM 5 rfl (h:=?_))))
 obtain ⟨y,hy⟩:=ZX (xs:=ys) (i:=k) om
 obtain ⟨bb6,oo6,rfl⟩:=hb.base hy
 obtain ⟨_,⟨rfl,hb7,hb7b⟩,hc7⟩:=hb.elem hy
 refine aIx 6 rfl Tryz.underlying35 Zbr (h:=aT 7 rfl (Zaf fun D=>Z4 [_,_,_] rfl rfl Zfw rfl (Zke hc7 0 rfl rfl) r4) (h:=aT 8 rfl (Zaf fun D=>Z9 rfl rfl ZAG rfl (Ztz x y _ ) r4) (h:=aN 9 rfl (h:=Zu kr kr ?_))))
 refine Zn (Zb rfl (fun g3=>?_) (fun g3=>?_))
 try simp only [sQ,ne_eq] at g3
 refine Za (xA (h:=Zd (ZA (Zl (ZM (ZA (Zl ?_)))))))
 exact eR t1 ⟨Zf (ZeH hx hy g3),rfl,rfl⟩
 try simp only [sQ,ne_eq] at g3
 refine ZS (ZK (Zn (Ze (xM (h:=xD (h:=xA (h:=?_)))))))
 exact ZC (k+1) [] so2 ⟨rfl,oz,Zbt hx hy g3 he⟩ t4 rfl
 try simp only [sQ,ne_eq] at g2
 refine ZE (ZT (ZH (Zv (Zn (Za (xA (h:=Zd ?_)))))))
 exact eR t1 ⟨Zf (eqT oz oz he),rfl,rfl⟩

theorem ZoW (q q':Option Addr) (cp cp':Nat) (xs ys:List DGrant) (B:Kn) (ha:SlK B q cp 2 Zac xs) (hb:SlK B q' cp' 2 Zac ys):Z8 (pj J) 150 [.slice q xs.length cp,.slice q' ys.length cp'] B (.bool (decide (xs=ys))):=by
 refine cB 27 Tryz.func150 (h:=?_)
 have han:=ha.len
 have hbn:=hb.len
 refine Za (xA (h:=Zc (Za (xM (h:=xV Tryz.underlying85 (h:=xM (h:=xV Tryz.underlying85 (h:=ZaP (h:=Zb rfl (fun g1=>?_) (fun g1=>?_))))))))))
 try simp only [sQ,ne_eq] at g1
 refine Za (xA (h:=Zd (Zl ?_)))
 exact eR t1 ⟨Zf (Zf4 g1),rfl,rfl⟩
 try simp only [sQ,ne_eq] at g1
 refine wSk (Zc (Za (xA (h:=Zg (Zy (α:=Nat) [0,1,10] (fun k=>[(5,.int .i64 k)]) [] (fun k=>[]) (fun k Bx=>Bx=B∧k≤xs.length∧xs.take k=ys.take k) (fun k=>xs.length - k) 0 t1 rfl (⟨rfl,Nat.zero_le _,by simp⟩) (fun k B1 hle1 hI=>?_))))))
 obtain ⟨rfl,hk,he⟩:=hI
 refine ZD [(0,_),(1,_),(5,_),(10,_)] [] t4 rfl (Zc (Za (xM (h:=xM (h:=xV Tryz.underlying85 (h:=ZG (h:=Zb rfl (fun g2=>?_) (fun g2=>?_))))))))
 try simp only [sQ,ne_eq] at g2
 refine wSk (Zc (Zg (Zc (Z3 (same _ _) mo kr ⟨rfl,rfl⟩ (fun _ _=>?_)))))
 refine aM 0 rfl (h:=aM 1 rfl (h:=?_))
 obtain ⟨x,hx⟩:=ZX (xs:=xs) (i:=k) om
 obtain ⟨bb3,oo3,rfl⟩:=ha.base hx
 obtain ⟨_,⟨rfl,hb4⟩,hc4⟩:=ha.elem hx
 refine aIx 2 rfl Tryz.underlying85 ZdT (h:=aT 3 rfl (Zaf fun D=>Z4 [_,_] rfl rfl Zqs rfl (Zke hc4 0 rfl rfl) r4) (h:=aM 4 rfl (h:=aM 5 rfl (h:=?_))))
 obtain ⟨y,hy⟩:=ZX (xs:=ys) (i:=k) om
 obtain ⟨bb6,oo6,rfl⟩:=hb.base hy
 obtain ⟨_,⟨rfl,hb7⟩,hc7⟩:=hb.elem hy
 refine aIx 6 rfl Tryz.underlying85 ZdT (h:=aT 7 rfl (Zaf fun D=>Z4 [_,_] rfl rfl Zqs rfl (Zke hc7 0 rfl rfl) r4) (h:=aT 8 rfl (Zaf fun D=>Z9 rfl rfl ZzF rfl (Zro x y _ ) r4) (h:=aN 9 rfl (h:=Zu kr kr ?_))))
 refine Zn (Zb rfl (fun g3=>?_) (fun g3=>?_))
 try simp only [sQ,ne_eq] at g3
 refine Za (xA (h:=Zd (ZA (Zl (ZM (ZA (Zl ?_)))))))
 exact eR t1 ⟨Zf (ZeH hx hy g3),rfl,rfl⟩
 try simp only [sQ,ne_eq] at g3
 refine ZS (ZK (Zn (Ze (xM (h:=xD (h:=xA (h:=?_)))))))
 exact ZC (k+1) [] so2 ⟨rfl,oz,Zbt hx hy g3 he⟩ t4 rfl
 try simp only [sQ,ne_eq] at g2
 refine ZE (ZT (ZH (Zv (Zn (Za (xA (h:=Zd ?_)))))))
 exact eR t1 ⟨Zf (eqT oz oz he),rfl,rfl⟩

theorem Zrm (q q':Option Addr) (cp cp':Nat) (xs ys:List DMail) (B:Kn) (ha:SlK B q cp 3 Zab xs) (hb:SlK B q' cp' 3 Zab ys):Z8 (pj J) 195 [.slice q xs.length cp,.slice q' ys.length cp'] B (.bool (decide (xs=ys))):=by
 refine cB 27 Tryz.func195 (h:=?_)
 have han:=ha.len
 have hbn:=hb.len
 refine Za (xA (h:=Zc (Za (xM (h:=xV Tryz.underlying80 (h:=xM (h:=xV Tryz.underlying80 (h:=ZaP (h:=Zb rfl (fun g1=>?_) (fun g1=>?_))))))))))
 try simp only [sQ,ne_eq] at g1
 refine Za (xA (h:=Zd (Zl ?_)))
 exact eR t1 ⟨Zf (Zf4 g1),rfl,rfl⟩
 try simp only [sQ,ne_eq] at g1
 refine wSk (Zc (Za (xA (h:=Zg (Zy (α:=Nat) [0,1,10] (fun k=>[(5,.int .i64 k)]) [] (fun k=>[]) (fun k Bx=>Bx=B∧k≤xs.length∧xs.take k=ys.take k) (fun k=>xs.length - k) 0 t1 rfl (⟨rfl,Nat.zero_le _,by simp⟩) (fun k B1 hle1 hI=>?_))))))
 obtain ⟨rfl,hk,he⟩:=hI
 refine ZD [(0,_),(1,_),(5,_),(10,_)] [] t4 rfl (Zc (Za (xM (h:=xM (h:=xV Tryz.underlying80 (h:=ZG (h:=Zb rfl (fun g2=>?_) (fun g2=>?_))))))))
 try simp only [sQ,ne_eq] at g2
 refine wSk (Zc (Zg (Zc (Z3 (same _ _) mo kr ⟨rfl,rfl⟩ (fun _ _=>?_)))))
 refine aM 0 rfl (h:=aM 1 rfl (h:=?_))
 obtain ⟨x,hx⟩:=ZX (xs:=xs) (i:=k) om
 obtain ⟨bb3,oo3,rfl⟩:=ha.base hx
 obtain ⟨_,⟨rfl,hb4⟩,hc4⟩:=ha.elem hx
 refine aIx 2 rfl Tryz.underlying80 ZcT (h:=aT 3 rfl (Zaf fun D=>Z4 [_,_,_] rfl rfl ZgO rfl (Zke hc4 0 rfl rfl) r4) (h:=aM 4 rfl (h:=aM 5 rfl (h:=?_))))
 obtain ⟨y,hy⟩:=ZX (xs:=ys) (i:=k) om
 obtain ⟨bb6,oo6,rfl⟩:=hb.base hy
 obtain ⟨_,⟨rfl,hb7⟩,hc7⟩:=hb.elem hy
 refine aIx 6 rfl Tryz.underlying80 ZcT (h:=aT 7 rfl (Zaf fun D=>Z4 [_,_,_] rfl rfl ZgO rfl (Zke hc7 0 rfl rfl) r4) (h:=aT 8 rfl (Zaf fun D=>Z9 rfl rfl Zzm rfl (ZtC x y _ ) r4) (h:=aN 9 rfl (h:=Zu kr kr ?_))))
 refine Zn (Zb rfl (fun g3=>?_) (fun g3=>?_))
 try simp only [sQ,ne_eq] at g3
 refine Za (xA (h:=Zd (ZA (Zl (ZM (ZA (Zl ?_)))))))
 exact eR t1 ⟨Zf (ZeH hx hy g3),rfl,rfl⟩
 try simp only [sQ,ne_eq] at g3
 refine ZS (ZK (Zn (Ze (xM (h:=xD (h:=xA (h:=?_)))))))
 exact ZC (k+1) [] so2 ⟨rfl,oz,Zbt hx hy g3 he⟩ t4 rfl
 try simp only [sQ,ne_eq] at g2
 refine ZE (ZT (ZH (Zv (Zn (Za (xA (h:=Zd ?_)))))))
 exact eR t1 ⟨Zf (eqT oz oz he),rfl,rfl⟩

theorem ZtD (q1:Option Addr) (cp1:Nat) (q2:Option Addr) (cp2:Nat) (a b:DItem) (B:Kn) (h1:SlK B q1 cp1 1 ZdF a.left) (h2:SlK B q2 cp2 1 ZdF b.left):Z8 (pj J) 152 [.agg #[.int .i64 a.id,str a.fr,str a.text,.slice q1 a.left.length cp1],.agg #[.int .i64 b.id,str b.fr,str b.text,.slice q2 b.left.length cp2]] B (.bool (decide (a=b))):=by
 refine cB 26 Tryz.func152 (h:=?_)
 refine Za (xBx [_,_,_,_] (h:=fun b1=>xBx [_,_,_,_] (h:=fun b2=>xA (h:=tL2 (Zc (Za (xW ZeB (h:=x1 lk3 0 (h:=xW ZeB (h:=x1 lk3 1 (h:=ZaP (h:=Zb rfl (fun g1=>?_) (fun g1=>?_)))))))))))))
 try simp only [sQ,ne_eq] at g1
 refine Za (xA (h:=Zd (Zl ?_)))
 exact eR t1 ⟨Zf (by symm;rw [decide_eq_false_iff_not];rintro rfl;exact g1 rfl),rfl,rfl⟩
 try simp only [sQ,ne_eq] at g1
 refine wSk (Zc (Za (xW ZeA (h:=x1 lk9 0 (h:=xW ZeA (h:=x1 lk9 1 (h:=Zfy (h:=Zb rfl (fun g2=>?_) (fun g2=>?_)))))))))
 try simp only [sQ,ne_eq] at g2
 refine Za (xA (h:=Zd (Zl ?_)))
 exact eR t1 ⟨Zf (by symm;rw [decide_eq_false_iff_not];rintro rfl;exact g2 rfl),rfl,rfl⟩
 try simp only [sQ,ne_eq] at g2
 refine wSk (Zc (Za (xW ZfZ (h:=x1 lk9 0 (h:=xW ZfZ (h:=x1 lk9 1 (h:=Zfy (h:=Zb rfl (fun g3=>?_) (fun g3=>?_)))))))))
 try simp only [sQ,ne_eq] at g3
 refine Za (xA (h:=Zd (Zl ?_)))
 exact eR t1 ⟨Zf (by symm;rw [decide_eq_false_iff_not];rintro rfl;exact g3 rfl),rfl,rfl⟩
 try simp only [sQ,ne_eq] at g3
 refine wSk (Zc (Za (xW ZcM (h:=x1 ZfV 0 (h:=xW ZcM (h:=x1 ZfV 1 (h:=xR ZzD rfl (ZmW _ _ _ _ _ _ _ h1 h2) (h:=xN (h:=Zb rfl (fun g4=>?_) (fun g4=>?_))))))))))
 try simp only [sQ,ne_eq] at g4
 refine Za (xA (h:=Zd (Zl ?_)))
 exact eR t1 ⟨Zf (by symm;rw [decide_eq_false_iff_not];rintro rfl;exact g4 rfl),rfl,rfl⟩
 try simp only [sQ,ne_eq] at g4
 refine wSk (Za (xA (h:=Zd ?_)))
 exact eR t1 ⟨Zf (by symm;rw [decide_eq_true_eq];cases a;cases b;simp_all),rfl,rfl⟩

theorem Zrn (q q':Option Addr) (cp cp':Nat) (xs ys:List DItem) (B:Kn) (ha:SlK B q cp 4 Zz xs) (hb:SlK B q' cp' 4 Zz ys):Z8 (pj J) 103 [.slice q xs.length cp,.slice q' ys.length cp'] B (.bool (decide (xs=ys))):=by
 refine cB 27 Tryz.func103 (h:=?_)
 have han:=ha.len
 have hbn:=hb.len
 refine Za (xA (h:=Zc (Za (xM (h:=xV Tryz.underlying37 (h:=xM (h:=xV Tryz.underlying37 (h:=ZaP (h:=Zb rfl (fun g1=>?_) (fun g1=>?_))))))))))
 try simp only [sQ,ne_eq] at g1
 refine Za (xA (h:=Zd (Zl ?_)))
 exact eR t1 ⟨Zf (Zf4 g1),rfl,rfl⟩
 try simp only [sQ,ne_eq] at g1
 refine wSk (Zc (Za (xA (h:=Zg (Zy (α:=Nat) [0,1,10] (fun k=>[(5,.int .i64 k)]) [] (fun k=>[]) (fun k Bx=>Bx=B∧k≤xs.length∧xs.take k=ys.take k) (fun k=>xs.length - k) 0 t1 rfl (⟨rfl,Nat.zero_le _,by simp⟩) (fun k B1 hle1 hI=>?_))))))
 obtain ⟨rfl,hk,he⟩:=hI
 refine ZD [(0,_),(1,_),(5,_),(10,_)] [] t4 rfl (Zc (Za (xM (h:=xM (h:=xV Tryz.underlying37 (h:=ZG (h:=Zb rfl (fun g2=>?_) (fun g2=>?_))))))))
 try simp only [sQ,ne_eq] at g2
 refine wSk (Zc (Zg (Zc (Z3 (same _ _) mo kr ⟨rfl,rfl⟩ (fun _ _=>?_)))))
 refine aM 0 rfl (h:=aM 1 rfl (h:=?_))
 obtain ⟨x,hx⟩:=ZX (xs:=xs) (i:=k) om
 obtain ⟨bb3,oo3,rfl⟩:=ha.base hx
 obtain ⟨_,⟨qi4,ci4,rfl,hi4,hb4,hb4b⟩,hc4⟩:=ha.elem hx
 have hi4n:=hi4.len
 refine aIx 2 rfl Tryz.underlying37 ZbA (h:=aT 3 rfl (Zaf fun D=>Z4 [_,_,_,_] rfl rfl ZeX rfl (Zke hc4 0 rfl rfl) r4) (h:=aM 4 rfl (h:=aM 5 rfl (h:=?_))))
 obtain ⟨y,hy⟩:=ZX (xs:=ys) (i:=k) om
 obtain ⟨bb6,oo6,rfl⟩:=hb.base hy
 obtain ⟨_,⟨qi7,ci7,rfl,hi7,hb7,hb7b⟩,hc7⟩:=hb.elem hy
 have hi7n:=hi7.len
 refine aIx 6 rfl Tryz.underlying37 ZbA (h:=aT 7 rfl (Zaf fun D=>Z4 [_,_,_,_] rfl rfl ZeX rfl (Zke hc7 0 rfl rfl) r4) (h:=aT 8 rfl (Zaf fun D=>Z9 rfl rfl Zz4 rfl (ZtD _ _ _ _ x y _ hi4 hi7) r4) (h:=aN 9 rfl (h:=Zu kr kr ?_))))
 refine Zn (Zb rfl (fun g3=>?_) (fun g3=>?_))
 try simp only [sQ,ne_eq] at g3
 refine Za (xA (h:=Zd (ZA (Zl (ZM (ZA (Zl ?_)))))))
 exact eR t1 ⟨Zf (ZeH hx hy g3),rfl,rfl⟩
 try simp only [sQ,ne_eq] at g3
 refine ZS (ZK (Zn (Ze (xM (h:=xD (h:=xA (h:=?_)))))))
 exact ZC (k+1) [] so2 ⟨rfl,oz,Zbt hx hy g3 he⟩ t4 rfl
 try simp only [sQ,ne_eq] at g2
 refine ZE (ZT (ZH (Zv (Zn (Za (xA (h:=Zd ?_)))))))
 exact eR t1 ⟨Zf (eqT oz oz he),rfl,rfl⟩

theorem Zrl (q1:Option Addr) (cp1:Nat) (q2:Option Addr) (cp2:Nat) (a b:DQueue) (B:Kn) (h1:SlK B q1 cp1 4 Zz a.items) (h2:SlK B q2 cp2 4 Zz b.items):Z8 (pj J) 50 [.agg #[.int .i64 a.next,.slice q1 a.items.length cp1],.agg #[.int .i64 b.next,.slice q2 b.items.length cp2]] B (.bool (decide (a=b))):=by
 refine cB 16 Tryz.func50 (h:=?_)
 refine Za (xBx [_,_] (h:=fun b1=>xBx [_,_] (h:=fun b2=>xA (h:=tL2 (Zc (Za (xW Zgt (h:=x1 lk3 0 (h:=xW Zgt (h:=x1 lk3 1 (h:=ZaP (h:=Zb rfl (fun g1=>?_) (fun g1=>?_)))))))))))))
 try simp only [sQ,ne_eq] at g1
 refine Za (xA (h:=Zd (Zl ?_)))
 exact eR t1 ⟨Zf (by symm;rw [decide_eq_false_iff_not];rintro rfl;exact g1 rfl),rfl,rfl⟩
 try simp only [sQ,ne_eq] at g1
 refine wSk (Zc (Za (xW ZbT (h:=x1 ZiZ 0 (h:=xW ZbT (h:=x1 ZiZ 1 (h:=xR ZAE rfl (Zrn _ _ _ _ _ _ _ h1 h2) (h:=xN (h:=Zb rfl (fun g2=>?_) (fun g2=>?_))))))))))
 try simp only [sQ,ne_eq] at g2
 refine Za (xA (h:=Zd (Zl ?_)))
 exact eR t1 ⟨Zf (by symm;rw [decide_eq_false_iff_not];rintro rfl;exact g2 rfl),rfl,rfl⟩
 try simp only [sQ,ne_eq] at g2
 refine wSk (Za (xA (h:=Zd ?_)))
 exact eR t1 ⟨Zf (by symm;rw [decide_eq_true_eq];cases a;cases b;simp_all),rfl,rfl⟩

theorem ZvT (q1:Option Addr) (cp1:Nat) (q2:Option Addr) (cp2:Nat) (a b:DBox) (B:Kn) (h1:SlK B q1 cp1 3 Zab a.mail) (h2:SlK B q2 cp2 3 Zab b.mail):Z8 (pj J) 151 [.agg #[.int .i64 a.next,.slice q1 a.mail.length cp1],.agg #[.int .i64 b.next,.slice q2 b.mail.length cp2]] B (.bool (decide (a=b))):=by
 refine cB 16 Tryz.func151 (h:=?_)
 refine Za (xBx [_,_] (h:=fun b1=>xBx [_,_] (h:=fun b2=>xA (h:=tL2 (Zc (Za (xW ZfF (h:=x1 lk3 0 (h:=xW ZfF (h:=x1 lk3 1 (h:=ZaP (h:=Zb rfl (fun g1=>?_) (fun g1=>?_)))))))))))))
 try simp only [sQ,ne_eq] at g1
 refine Za (xA (h:=Zd (Zl ?_)))
 exact eR t1 ⟨Zf (by symm;rw [decide_eq_false_iff_not];rintro rfl;exact g1 rfl),rfl,rfl⟩
 try simp only [sQ,ne_eq] at g1
 refine wSk (Zc (Za (xW Zbj (h:=x1 ZhZ 0 (h:=xW Zbj (h:=x1 ZhZ 1 (h:=xR ZzE rfl (Zrm _ _ _ _ _ _ _ h1 h2) (h:=xN (h:=Zb rfl (fun g2=>?_) (fun g2=>?_))))))))))
 try simp only [sQ,ne_eq] at g2
 refine Za (xA (h:=Zd (Zl ?_)))
 exact eR t1 ⟨Zf (by symm;rw [decide_eq_false_iff_not];rintro rfl;exact g2 rfl),rfl,rfl⟩
 try simp only [sQ,ne_eq] at g2
 refine wSk (Za (xA (h:=Zd ?_)))
 exact eR t1 ⟨Zf (by symm;rw [decide_eq_true_eq];cases a;cases b;simp_all),rfl,rfl⟩

theorem ZoX (qa1 qb1:Option Addr) (ca1 cb1:Nat) (qa2 qb2:Option Addr) (ca2 cb2:Nat) (a b:DFolder) (B:Kn) (hg1:SlK B qa1 ca1 2 Zac a.grants) (hm1:SlK B qb1 cb1 3 Zab a.mail) (hg2:SlK B qa2 ca2 2 Zac b.grants) (hm2:SlK B qb2 cb2 3 Zab b.mail):Z8 (pj J) 102 [.agg #[str a.owner,str a.name,.slice qa1 a.grants.length ca1,.int .i64 a.next,.slice qb1 a.mail.length cb1],.agg #[str b.owner,str b.name,.slice qa2 b.grants.length ca2,.int .i64 b.next,.slice qb2 b.mail.length cb2]] B (.bool (decide (a=b))):=by
 refine cB 27 Tryz.func102 (h:=?_)
 refine Za (xBx [_,_,_,_,_] (h:=fun b1=>xBx [_,_,_,_,_] (h:=fun b2=>xA (h:=tL2 (Zc (Za (xW Zcv (h:=x1 lk9 0 (h:=xW Zcv (h:=x1 lk9 1 (h:=Zfy (h:=Zb rfl (fun g1=>?_) (fun g1=>?_)))))))))))))
 try simp only [sQ,ne_eq] at g1
 refine Za (xA (h:=Zd (Zl ?_)))
 exact eR t1 ⟨Zf (by symm;rw [decide_eq_false_iff_not];rintro rfl;exact g1 rfl),rfl,rfl⟩
 try simp only [sQ,ne_eq] at g1
 refine wSk (Zc (Za (xW Zea (h:=x1 lk9 0 (h:=xW Zea (h:=x1 lk9 1 (h:=Zfy (h:=Zb rfl (fun g2=>?_) (fun g2=>?_)))))))))
 try simp only [sQ,ne_eq] at g2
 refine Za (xA (h:=Zd (Zl ?_)))
 exact eR t1 ⟨Zf (by symm;rw [decide_eq_false_iff_not];rintro rfl;exact g2 rfl),rfl,rfl⟩
 try simp only [sQ,ne_eq] at g2
 refine wSk (Zc (Za (xW Zd9 (h:=x1 ZrY 0 (h:=xW Zd9 (h:=x1 ZrY 1 (h:=xR Zz6 rfl (ZoW _ _ _ _ _ _ _ hg1 hg2) (h:=xN (h:=Zb rfl (fun g3=>?_) (fun g3=>?_))))))))))
 try simp only [sQ,ne_eq] at g3
 refine Za (xA (h:=Zd (Zl ?_)))
 exact eR t1 ⟨Zf (by symm;rw [decide_eq_false_iff_not];rintro rfl;exact g3 rfl),rfl,rfl⟩
 try simp only [sQ,ne_eq] at g3
 refine wSk (Zc (Za (xW Zbi (h:=xL [_,_] ZeQ 0 (h:=xW Zbi (h:=xL [_,_] ZeQ 1 (h:=xR Zz5 rfl (ZvT _ _ _ _ (⟨a.next,a.mail⟩:DBox) (⟨b.next,b.mail⟩:DBox) _ hm1 hm2) (h:=xN (h:=Zb rfl (fun g4=>?_) (fun g4=>?_))))))))))
 try simp only [sQ,ne_eq] at g4
 refine Za (xA (h:=Zd (Zl ?_)))
 exact eR t1 ⟨Zf (by symm;rw [decide_eq_false_iff_not];rintro rfl;exact g4 rfl),rfl,rfl⟩
 try simp only [sQ,ne_eq] at g4
 refine wSk (Za (xA (h:=Zd ?_)))
 exact eR t1 ⟨Zf (by symm;rw [decide_eq_true_eq];cases a;cases b;simp_all),rfl,rfl⟩

theorem ZmX (q q':Option Addr) (cp cp':Nat) (xs ys:List DFolder) (B:Kn) (ha:SlK B q cp 5 Zm xs) (hb:SlK B q' cp' 5 Zm ys):Z8 (pj J) 49 [.slice q xs.length cp,.slice q' ys.length cp'] B (.bool (decide (xs=ys))):=by
 refine cB 27 Tryz.func49 (h:=?_)
 have han:=ha.len
 have hbn:=hb.len
 refine Za (xA (h:=Zc (Za (xM (h:=xV Tryz.underlying36 (h:=xM (h:=xV Tryz.underlying36 (h:=ZaP (h:=Zb rfl (fun g1=>?_) (fun g1=>?_))))))))))
 try simp only [sQ,ne_eq] at g1
 refine Za (xA (h:=Zd (Zl ?_)))
 exact eR t1 ⟨Zf (Zf4 g1),rfl,rfl⟩
 try simp only [sQ,ne_eq] at g1
 refine wSk (Zc (Za (xA (h:=Zg (Zy (α:=Nat) [0,1,10] (fun k=>[(5,.int .i64 k)]) [] (fun k=>[]) (fun k Bx=>Bx=B∧k≤xs.length∧xs.take k=ys.take k) (fun k=>xs.length - k) 0 t1 rfl (⟨rfl,Nat.zero_le _,by simp⟩) (fun k B1 hle1 hI=>?_))))))
 obtain ⟨rfl,hk,he⟩:=hI
 refine ZD [(0,_),(1,_),(5,_),(10,_)] [] t4 rfl (Zc (Za (xM (h:=xM (h:=xV Tryz.underlying36 (h:=ZG (h:=Zb rfl (fun g2=>?_) (fun g2=>?_))))))))
 try simp only [sQ,ne_eq] at g2
 refine wSk (Zc (Zg (Zc (Z3 (same _ _) mo kr ⟨rfl,rfl⟩ (fun _ _=>?_)))))
 refine aM 0 rfl (h:=aM 1 rfl (h:=?_))
 obtain ⟨x,hx⟩:=ZX (xs:=xs) (i:=k) om
 obtain ⟨bb3,oo3,rfl⟩:=ha.base hx
 obtain ⟨_,⟨qg4,cg4,qm4,cm4,rfl,hg4,hm4,hb4,hb4b⟩,hc4⟩:=ha.elem hx
 have hg4n:=hg4.len
 have hm4n:=hm4.len
 have hm4s:=Zap hm4
 refine aIx 2 rfl Tryz.underlying36 Zb1 (h:=aT 3 rfl (Zaf fun D=>Z4 [_,_,_,_,_] rfl rfl Ziy rfl (Zke hc4 0 rfl rfl) r4) (h:=aM 4 rfl (h:=aM 5 rfl (h:=?_))))
 obtain ⟨y,hy⟩:=ZX (xs:=ys) (i:=k) om
 obtain ⟨bb6,oo6,rfl⟩:=hb.base hy
 obtain ⟨_,⟨qg7,cg7,qm7,cm7,rfl,hg7,hm7,hb7,hb7b⟩,hc7⟩:=hb.elem hy
 have hg7n:=hg7.len
 have hm7n:=hm7.len
 have hm7s:=Zap hm7
 refine aIx 6 rfl Tryz.underlying36 Zb1 (h:=aT 7 rfl (Zaf fun D=>Z4 [_,_,_,_,_] rfl rfl Ziy rfl (Zke hc7 0 rfl rfl) r4) (h:=aT 8 rfl (Zaf fun D=>Z9 rfl rfl ZAF rfl (ZoX _ _ _ _ _ _ _ _ x y _ hg4 hm4 hg7 hm7) r4) (h:=aN 9 rfl (h:=Zu kr kr ?_))))
 refine Zn (Zb rfl (fun g3=>?_) (fun g3=>?_))
 try simp only [sQ,ne_eq] at g3
 refine Za (xA (h:=Zd (ZA (Zl (ZM (ZA (Zl ?_)))))))
 exact eR t1 ⟨Zf (ZeH hx hy g3),rfl,rfl⟩
 try simp only [sQ,ne_eq] at g3
 refine ZS (ZK (Zn (Ze (xM (h:=xD (h:=xA (h:=?_)))))))
 exact ZC (k+1) [] so2 ⟨rfl,oz,Zbt hx hy g3 he⟩ t4 rfl
 try simp only [sQ,ne_eq] at g2
 refine ZE (ZT (ZH (Zv (Zn (Za (xA (h:=Zd ?_)))))))
 exact eR t1 ⟨Zf (eqT oz oz he),rfl,rfl⟩

theorem Zhw (qa1 qb1 qc1:Option Addr) (ca1 cb1 cc1:Nat) (qa2 qb2 qc2:Option Addr) (ca2 cb2 cc2:Nat) (a b:DHost) (B:Kn) (hu1:SlK B qa1 ca1 3 Zp a.users) (hf1:SlK B qb1 cb1 5 Zm a.folders) (hi1:SlK B qc1 cc1 4 Zz a.queue.items) (hu2:SlK B qa2 ca2 3 Zp b.users) (hf2:SlK B qb2 cb2 5 Zm b.folders) (hi2:SlK B qc2 cc2 4 Zz b.queue.items):Z8 (pj J) 13 [.agg #[str a.domain,.slice qa1 a.users.length ca1,.slice qb1 a.folders.length cb1,.int .i64 a.queue.next,.slice qc1 a.queue.items.length cc1],.agg #[str b.domain,.slice qa2 b.users.length ca2,.slice qb2 b.folders.length cb2,.int .i64 b.queue.next,.slice qc2 b.queue.items.length cc2]] B (.bool (decide (a=b))):=by
 refine cB 28 Tryz.func13 (h:=?_)
 refine Za (xBx [_,_,_,_,_] (h:=fun b1=>xBx [_,_,_,_,_] (h:=fun b2=>xA (h:=tL2 (Zc (Za (xW Zie (h:=x1 lk9 0 (h:=xW Zie (h:=x1 lk9 1 (h:=Zfy (h:=Zb rfl (fun g1=>?_) (fun g1=>?_)))))))))))))
 try simp only [sQ,ne_eq] at g1
 refine Za (xA (h:=Zd (Zl ?_)))
 exact eR t1 ⟨Zf (by symm;rw [decide_eq_false_iff_not];rintro rfl;exact g1 rfl),rfl,rfl⟩
 try simp only [sQ,ne_eq] at g1
 refine wSk (Zc (Za (xW Zcg (h:=x1 ZjE 0 (h:=xW Zcg (h:=x1 ZjE 1 (h:=xR ZBX rfl (Zrj _ _ _ _ _ _ _ hu1 hu2) (h:=xN (h:=Zb rfl (fun g2=>?_) (fun g2=>?_))))))))))
 try simp only [sQ,ne_eq] at g2
 refine Za (xA (h:=Zd (Zl ?_)))
 exact eR t1 ⟨Zf (by symm;rw [decide_eq_false_iff_not];rintro rfl;exact g2 rfl),rfl,rfl⟩
 try simp only [sQ,ne_eq] at g2
 refine wSk (Zc (Za (xW ZaA (h:=x1 ZeS 0 (h:=xW ZaA (h:=x1 ZeS 1 (h:=xR ZBW rfl (ZmX _ _ _ _ _ _ _ hf1 hf2) (h:=xN (h:=Zb rfl (fun g3=>?_) (fun g3=>?_))))))))))
 try simp only [sQ,ne_eq] at g3
 refine Za (xA (h:=Zd (Zl ?_)))
 exact eR t1 ⟨Zf (by symm;rw [decide_eq_false_iff_not];rintro rfl;exact g3 rfl),rfl,rfl⟩
 try simp only [sQ,ne_eq] at g3
 refine wSk (Zc (Za (xW ZeN (h:=xL [_,_] ZlR 0 (h:=xW ZeN (h:=xL [_,_] ZlR 1 (h:=xR ZBV rfl (Zrl _ _ _ _ a.queue b.queue _ hi1 hi2) (h:=xN (h:=Zb rfl (fun g4=>?_) (fun g4=>?_))))))))))
 try simp only [sQ,ne_eq] at g4
 refine Za (xA (h:=Zd (Zl ?_)))
 exact eR t1 ⟨Zf (by symm;rw [decide_eq_false_iff_not];rintro rfl;exact g4 rfl),rfl,rfl⟩
 try simp only [sQ,ne_eq] at g4
 refine wSk (Za (xA (h:=Zd ?_)))
 exact eR t1 ⟨Zf (by symm;rw [decide_eq_true_eq];cases a;cases b;simp_all),rfl,rfl⟩

theorem Zo2 (q:Option Addr) (cp:Nat) (x:DBox) (B:Kn) (hm:SlK B q cp 3 Zab x.mail):Zw (pj J) 238 [.agg #[.int .i64 x.next,.slice q x.mail.length cp]] B [] (fun v B' Ls=>B'=B∧∃l a c,Ls=[l]∧v = .agg #[.int .i64 x.next,.slice a x.mail.length c]∧ZW B l a c 146 3 Zab x.mail):=by
 refine cB 10 Tryz.func238 (h:=?_)
 have hxn:=hm.len
 refine Za (xBx [_,_] (h:=fun b1=>xAl [_,_] Zix (h:=fun b2=>tL2 (Zc (Z3 (keeps _ [0] _) mo kr ⟨Kn.le.refl _,Za7.refl _ _⟩ (fun _ _=>?_))))))
 refine aW 0 rfl ZfF (h:=aT 1 rfl (ZR fun D B L hI=>Zo rfl rfl lk3 rfl (atL 0 (hI.2.1.trans rfl) rfl rfl) r4) (h:=aW 3 rfl Zbj (h:=aT 4 rfl (ZR fun D B L hI=>Zo rfl rfl ZhZ rfl (atL 0 (hI.2.1.trans rfl) rfl rfl) r4) (h:=ZB 2 kr rfl kr (ZO (parts:=[]) [] rfl rfl Tryz.underlying80 ZcT Ziz rfl rfl rfl rfl rfl (fun b3=>?_))))))
 refine ⟨⟨Kn.le.refl _,t1⟩,(ZB 5 kr rfl kr (Zcz (R:=Zab) 2 rfl (ZW.lit0 (R:=Zab)) rfl rfl rfl Zxx ZyD rfl rfl rfl hm.rows Zab.one rfl om (fun l4 p4 c4 hv4=>?_)))⟩
 refine ⟨⟨Kn.le.refl _,t1⟩,(aT 6 rfl (ZR fun D B L hI=>Zas (parts:=[(0,_),(1,_)]) [_,_] [_,_] rfl rfl ZsL Zix rfl rfl rfl r4) (h:=Zar 7 kr rfl kr kr kr (ZL [_,_] 1 [_,_] rfl rfl Zgy rfl rfl rfl rfl rfl rfl rfl rfl ?_)))⟩
 refine Zn (tL3 (Zd ?_))
 exact eN [2] rfl ⟨⟨_,rfl,.inr ⟨[_,_],ZeQ,Zbu 1 rfl rfl rfl,rfl⟩⟩,trivial⟩ ⟨rfl,_,_,_,rfl,rfl,hv4⟩

theorem ZjS (qa qb:Option Addr) (ca cb:Nat) (x:DFolder) (B:Kn) (hg:SlK B qa ca 2 Zac x.grants) (hm:SlK B qb cb 3 Zab x.mail):Zw (pj J) 186 [.agg #[str x.owner,str x.name,.slice qa x.grants.length ca,.int .i64 x.next,.slice qb x.mail.length cb]] B [] (fun v B' Ls=>B'=B∧∃l a c l' a' c',Ls=[l,l']∧v = .agg #[str x.owner,str x.name,.slice a x.grants.length c,.int .i64 x.next,.slice a' x.mail.length c']∧ZW B l a c 223 2 Zac x.grants∧ZW B l' a' c' 146 3 Zab x.mail):=by
 refine cB 13 Tryz.func186 (h:=?_)
 have hgn:=hg.len
 have hmn:=hm.len
 refine Za (xBx [_,_,_,_,_] (h:=fun b1=>xAl [_,_,_,_,_] Zgx (h:=fun b2=>tL2 (Za (xBs [] [] Tryz.underlying85 ZdT Zn0 (h:=fun b3=>xW Zd9 (h:=x1 ZrY 0 (h:=Zj (Zcz (R:=Zac) 2 rfl (ZW.lit0 (R:=Zac)) rfl rfl rfl ZyY ZAN rfl rfl rfl hg.rows Zac.one rfl om (fun l4 p4 c4 hv4=>?_))))))))))
 refine xW Zd9 (h:=xS [_] 0 [_,_,_,_,_] Zyz (h:=tL3 (Za (xW Zbi (h:=xL [_,_] ZeQ 0 (h:=xC Zzq rfl (Zo2 _ _ (⟨x.next,x.mail⟩:DBox) _ hm) (h:=?_)))))))
 rintro _ B5 _ hle5 ⟨rfl,l5,a5,c5,rfl,rfl,hs5⟩
 refine xW Zbi (h:=xS [_,_] 0 [_,_,_,_,_] Zgy (h:=tL4 (Za (xL [_,_,_,_,_] Ziy 0 (h:=xS [_,_,_,_,_] 1 [_,_,_,_,_] Zb1 (h:=tL4 (Zd ?_)))))))
 exact eN [2,3] rfl ⟨⟨_,rfl,.inr ⟨[_,_,_,_,_],Ziy,Zbu 1 rfl rfl rfl,rfl⟩⟩,trivial⟩ ⟨rfl,_,_,_,_,_,_,rfl,rfl,hv4,hs5⟩

theorem Zao (k:Nat) (hk:k≤1000000000000000) (B:Kn):Z8 (pj J) 104 [.int .i64 k] B (str (ZY k)):=by
 refine cB 20 Tryz.func104 (h:=?_)
 refine Za (xA (h:=Zc (Za (xM (h:=ZbJ (h:=Zb rfl (fun g1=>?_) (fun g1=>?_)))))))
 try simp only [sQ,ne_eq] at g1
 refine Za (xA (h:=Zd (Zl ?_)))
 exact eR t1 ⟨Zuk (by rw [ZY,if_pos oz]),rfl,rfl⟩
 try simp only [sQ,ne_eq] at g1
 refine wSk (Za (xA (h:=Zc (Zg (Zy (α:=Nat × Str) [2,5] (fun g=>[(0,.int .i64 g.1),(3,str g.2)]) [] (fun g=>[]) (fun g Bx=>Bx=B∧g.1≤k∧digs k=digs g.1 ++ g.2) (fun g=>g.1) (k,[]) t2 rfl (⟨rfl,Nat.le_refl _,by simp⟩) (fun g B1 hle1 hI=>?_))))))
 obtain ⟨rfl,hl,hs⟩:=hI
 have hgl:=Zv4 hk hs
 refine ZD [(0,_),(2,_),(3,_),(5,_)] [] t4 rfl (Zc (Za (xM (h:=Zek (h:=Zb rfl (fun g2=>?_) (fun g2=>?_))))))
 try simp only [sQ,ne_eq] at g2
 refine wSk (Zg (Za (xM (h:=Zj (Zn4 (a:=(g.1:Int)) (b:=10) (r:=((g.1 % 10:Nat):Int)) rfl rfl rfl rfl (by decide) rfl ?_)))))
 refine xD (h:=Zj (ZuI rfl rfl Tryz.underlying3 Tryz.underlying5 rfl (by first | exact Zcy om om | rfl) ?_))
 refine xBs [(0,_)] [_] Tryz.underlying221 sz5 zo5 (h:=fun b2=>Zj (Zps rfl rfl Tryz.underlying221 Tryz.underlying9 Tryz.underlying5 rfl (Zc4.box 0 rfl) (xM (h:=Zj (ZwE (a:=dig g.1) (b:=g.2) rfl rfl rfl rfl (by simp [dig];omega) ?_)))))
 refine xA (h:=tL1 (Ze (xM (h:=Zj (ZlU (a:=(g.1:Int)) (b:=10) (r:=((g.1 / 10:Nat):Int)) rfl rfl rfl rfl (by decide) (by rw [show Int.tdiv (g.1:Int) 10=((g.1 / 10:Nat):Int) from rfl];exact Zcy oz oz) ?_)))))
 refine xA (h:=ZK ?_)
 exact ZC (g.1 / 10,dig g.1 ++ g.2) [] so2 ⟨rfl,so,Zrx hs oz⟩ t4 rfl
 try simp only [sQ,ne_eq] at g2
 refine ZE (ZT (ZH (Zv (Zn (Za (xM (h:=Zj (ZwE rfl rfl rfl rfl (by first | omega | (simp;omega)) ?_))))))))
 refine xA (h:=Zd ?_)
 exact eR t1 ⟨Zuk (by rw [ZY,if_neg oz,hs,show g.1=0 from by omega,Zly];rfl),rfl,rfl⟩

theorem Zmu (q:Option Addr) (cp:Nat) (xs:List DMail) (l:Cells) (k:Nat) (hk:k≤900000000000000) (hn:xs.length≤2000000) (B:Kn) (hv:ZW B l q cp 146 3 Zab xs):Zw (pj J) 106 [.slice q xs.length cp,.int .i64 k] B [l] (fun v B' Ls=>B'=B∧∃l',Ls=[l']∧v = .int .i64 ((k+3*xs.length:Nat):Int)∧ZW B l' q cp 146 3 Zab (Zb6 k xs.length)):=by
 refine cB 35 Tryz.func106 (h:=?_)
 have hvc:=hv.cap
 refine Za (xA (h:=Zc (Za (xA (h:=Zg (Zy (α:=Nat × Cells × List DMail) [4] (fun g=>[(0,.slice q xs.length cp),(1,.int .i64 ((k+3*g.1:Nat):Int)),(5,.int .i64 g.1)]) [0] (fun g=>[g.2.1]) (fun g Bx=>Bx=B∧g.1≤xs.length∧g.2.2.length=xs.length∧g.2.2.take g.1=Zb6 k g.1∧ZW Bx g.2.1 q cp 146 3 Zab g.2.2) (fun g=>xs.length - g.1) (0,l,xs) t3 rfl (⟨rfl,Nat.zero_le _,rfl,rfl,hv⟩) (fun g B1 hle1 hI=>?_)))))))
 obtain ⟨rfl,hi,hle,ht,hw⟩:=hI
 refine ZD [(0,_),(1,_),(4,_),(5,_)] [_] t4 rfl (Zc (Za (xM (h:=xM (h:=xV Tryz.underlying80 (h:=ZG (h:=Zb rfl (fun g1=>?_) (fun g1=>?_))))))))
 try simp only [sQ,ne_eq] at g1
 refine wSk (Zc (Zg (Za (xM (h:=xM (h:=xM (h:=?_)))))))
 obtain ⟨z1,hz1⟩:=ZX (xs:=g.2.2) (i:=g.1) om
 obtain ⟨bb3,_,hp3,⟨rfl,hb3⟩,hw3,hc3⟩:=hw.row hz1
 refine xIp hp3 Tryz.underlying80 ZcT (h:=xW Zc3 (h:=Zj (ZeT (k:=g.1) (off:=0) (⟨((k+3*g.1:Nat):Int),z1.flags,z1.text⟩) [_] 0 hw hp3 hz1 rfl rfl sz3 rfl rfl rfl rfl rfl rfl (by rintro _ ⟨rfl,e1⟩;exact ⟨rfl,e1⟩) (fun l4 hv4=>?_))))
 refine tL1 (Za (xM (h:=xD (h:=xA (h:=Za (xM (h:=xM (h:=xM (h:=?_)))))))))
 obtain ⟨z2,hz2⟩:=ZX (xs:=(g.2.2.set g.1 (⟨((k+3*g.1:Nat):Int),z1.flags,z1.text⟩))) (i:=g.1) om
 obtain ⟨bb6,_,hp6,⟨rfl,hb6⟩,hw6,hc6⟩:=hv4.row hz2
 refine xIp hp6 Tryz.underlying80 ZcT (h:=xW Zdy (h:=Zj (ZeT (k:=g.1) (off:=1) (⟨z2.uid,((k+3*g.1+1:Nat):Int),z2.text⟩) [_] 0 hv4 hp6 hz2 rfl rfl sz3 rfl rfl rfl rfl rfl rfl (by rintro _ ⟨rfl,e1⟩;exact ⟨rfl,e1⟩) (fun l7 hv7=>?_))))
 refine tL1 (Za (xM (h:=xD (h:=xA (h:=Za (xM (h:=xM (h:=xM (h:=xR ZeR rfl (Zao (((k+3*g.1)+1)+1) oz _) (h:=?_))))))))))
 obtain ⟨z3,hz3⟩:=ZX (xs:=((g.2.2.set g.1 (⟨((k+3*g.1:Nat):Int),z1.flags,z1.text⟩)).set g.1 (⟨z2.uid,((k+3*g.1+1:Nat):Int),z2.text⟩))) (i:=g.1) om
 obtain ⟨bb10,_,hp10,⟨rfl,hb10⟩,hw10,hc10⟩:=hv7.row hz3
 refine xIp hp10 Tryz.underlying80 ZcT (h:=xW Zez (h:=Zj (ZeT (k:=g.1) (off:=2) (⟨z3.uid,z3.flags,ZY (k+3*g.1+1+1)⟩) [_] 0 hv7 hp10 hz3 rfl rfl sz9 rfl rfl rfl rfl rfl rfl (by rintro _ ⟨rfl,e1⟩;exact ⟨rfl,show (ZY (k+3*g.1+1+1)).length≤2000000 from Nat.le_trans (Zcq (k:=k+3*g.1+1+1) oz) (by decide)⟩) (fun l11 hv11=>?_))))
 refine tL1 (Ze (xM (h:=xD (h:=xA (h:=ZK (Zn (Ze (xM (h:=xD (h:=xA (h:=?_)))))))))))
 exact ZC (g.1+1,l11,(((g.2.2.set g.1 (⟨((k+3*g.1:Nat):Int),z1.flags,z1.text⟩)).set g.1 (⟨z2.uid,((k+3*g.1+1:Nat):Int),z2.text⟩)).set g.1 (⟨z3.uid,z3.flags,ZY (k+3*g.1+1+1)⟩))) [0] so2 ⟨rfl,so,by simp only [List.length_set];exact hle,Zk0 ht hz1 hz2 hz3,hv11⟩ t4 rfl
 try simp only [sQ,ne_eq] at g1
 have he:=ZkX ht oz
 have hgi:g.1=xs.length:=by omega
 rw [hgi] at he
 refine ZE (ZT (ZH (Zv (Zn (Za (xM (h:=xA (h:=Zd ?_))))))))
 exact ZdI .ret (.inl rfl) [_] [0] rfl ⟨rfl,trivial⟩ ⟨rfl,_,rfl,by rw [hgi];rfl,by rw [← he];exact hw⟩

theorem Zk5 (q:Option Addr) (cp:Nat) (xs:List DGrant) (l:Cells) (k:Nat) (hk:k≤900000000000000) (hn:xs.length≤2000000) (B:Kn) (hv:ZW B l q cp 223 2 Zac xs):Zw (pj J) 105 [.slice q xs.length cp,.int .i64 k] B [l] (fun v B' Ls=>B'=B∧∃l',Ls=[l']∧v = .int .i64 ((k+2*xs.length:Nat):Int)∧ZW B l' q cp 223 2 Zac (ZaK k xs.length)):=by
 refine cB 28 Tryz.func105 (h:=?_)
 have hvc:=hv.cap
 refine Za (xA (h:=Zc (Za (xA (h:=Zg (Zy (α:=Nat × Cells × List DGrant) [4] (fun g=>[(0,.slice q xs.length cp),(1,.int .i64 ((k+2*g.1:Nat):Int)),(5,.int .i64 g.1)]) [0] (fun g=>[g.2.1]) (fun g Bx=>Bx=B∧g.1≤xs.length∧g.2.2.length=xs.length∧g.2.2.take g.1=ZaK k g.1∧ZW Bx g.2.1 q cp 223 2 Zac g.2.2) (fun g=>xs.length - g.1) (0,l,xs) t3 rfl (⟨rfl,Nat.zero_le _,rfl,rfl,hv⟩) (fun g B1 hle1 hI=>?_)))))))
 obtain ⟨rfl,hi,hle,ht,hw⟩:=hI
 refine ZD [(0,_),(1,_),(4,_),(5,_)] [_] t4 rfl (Zc (Za (xM (h:=xM (h:=xV Tryz.underlying85 (h:=ZG (h:=Zb rfl (fun g1=>?_) (fun g1=>?_))))))))
 try simp only [sQ,ne_eq] at g1
 refine wSk (Zc (Zg (Za (xM (h:=xM (h:=xM (h:=xR ZeR rfl (Zao (k+2*g.1) oz _) (h:=?_))))))))
 obtain ⟨z1,hz1⟩:=ZX (xs:=g.2.2) (i:=g.1) om
 obtain ⟨bb4,_,hp4,⟨rfl,hb4⟩,hw4,hc4⟩:=hw.row hz1
 refine xIp hp4 Tryz.underlying85 ZdT (h:=xW Zcw (h:=Zj (ZeT (k:=g.1) (off:=0) (⟨ZY (k+2*g.1),z1.rights⟩) [_] 0 hw hp4 hz1 rfl rfl sz9 rfl rfl rfl rfl rfl rfl (by rintro _ ⟨rfl,e1⟩;exact ⟨rfl,show (ZY (k+2*g.1)).length≤2000000 from Nat.le_trans (Zcq (k:=k+2*g.1) oz) (by decide)⟩) (fun l5 hv5=>?_))))
 refine tL1 (Za (xM (h:=xD (h:=xA (h:=Za (xM (h:=xM (h:=xM (h:=?_)))))))))
 obtain ⟨z2,hz2⟩:=ZX (xs:=(g.2.2.set g.1 (⟨ZY (k+2*g.1),z1.rights⟩))) (i:=g.1) om
 obtain ⟨bb7,_,hp7,⟨rfl,hb7⟩,hw7,hc7⟩:=hv5.row hz2
 refine xIp hp7 Tryz.underlying85 ZdT (h:=xW Zdx (h:=Zj (ZeT (k:=g.1) (off:=1) (⟨z2.user,((k+2*g.1+1:Nat):Int)⟩) [_] 0 hv5 hp7 hz2 rfl rfl sz3 rfl rfl rfl rfl rfl rfl (by rintro _ ⟨rfl,e1⟩;exact ⟨rfl,e1⟩) (fun l8 hv8=>?_))))
 refine tL1 (Ze (xM (h:=xD (h:=xA (h:=ZK (Zn (Ze (xM (h:=xD (h:=xA (h:=?_)))))))))))
 exact ZC (g.1+1,l8,((g.2.2.set g.1 (⟨ZY (k+2*g.1),z1.rights⟩)).set g.1 (⟨z2.user,((k+2*g.1+1:Nat):Int)⟩))) [0] so2 ⟨rfl,so,by simp only [List.length_set];exact hle,ZjA ht hz1 hz2,hv8⟩ t4 rfl
 try simp only [sQ,ne_eq] at g1
 have he:=ZkX ht oz
 have hgi:g.1=xs.length:=by omega
 rw [hgi] at he
 refine ZE (ZT (ZH (Zv (Zn (Za (xM (h:=xA (h:=Zd ?_))))))))
 exact ZdI .ret (.inl rfl) [_] [0] rfl ⟨rfl,trivial⟩ ⟨rfl,_,rfl,by rw [hgi];rfl,by rw [← he];exact hw⟩

theorem Zmr (q:Option Addr) (cp:Nat) (xs:List DUser) (l:Cells) (k:Nat) (hk:k≤900000000000000) (hn:xs.length≤2000000) (B:Kn) (hv:ZW B l q cp 132 3 Zp xs):Zw (pj J) 52 [.slice q xs.length cp,.int .i64 k] B [l] (fun v B' Ls=>B'=B∧∃l',Ls=[l']∧v = .int .i64 ((k+3*xs.length:Nat):Int)∧ZW B l' q cp 132 3 Zp (ZcJ k xs.length)):=by
 refine cB 36 Tryz.func52 (h:=?_)
 have hvc:=hv.cap
 refine Za (xA (h:=Zc (Za (xA (h:=Zg (Zy (α:=Nat × Cells × List DUser) [4] (fun g=>[(0,.slice q xs.length cp),(1,.int .i64 ((k+3*g.1:Nat):Int)),(5,.int .i64 g.1)]) [0] (fun g=>[g.2.1]) (fun g Bx=>Bx=B∧g.1≤xs.length∧g.2.2.length=xs.length∧g.2.2.take g.1=ZcJ k g.1∧ZW Bx g.2.1 q cp 132 3 Zp g.2.2) (fun g=>xs.length - g.1) (0,l,xs) t3 rfl (⟨rfl,Nat.zero_le _,rfl,rfl,hv⟩) (fun g B1 hle1 hI=>?_)))))))
 obtain ⟨rfl,hi,hle,ht,hw⟩:=hI
 refine ZD [(0,_),(1,_),(4,_),(5,_)] [_] t4 rfl (Zc (Za (xM (h:=xM (h:=xV Tryz.underlying35 (h:=ZG (h:=Zb rfl (fun g1=>?_) (fun g1=>?_))))))))
 try simp only [sQ,ne_eq] at g1
 refine wSk (Zc (Zg (Za (xM (h:=xM (h:=xM (h:=xR ZeR rfl (Zao (k+3*g.1) oz _) (h:=?_))))))))
 obtain ⟨z1,hz1⟩:=ZX (xs:=g.2.2) (i:=g.1) om
 obtain ⟨bb4,_,hp4,⟨rfl,hb4,hb4b⟩,hw4,hc4⟩:=hw.row hz1
 refine xIp hp4 Tryz.underlying35 Zbr (h:=xW Zbg (h:=Zj (ZeT (k:=g.1) (off:=0) (⟨ZY (k+3*g.1),z1.pass,z1.quota⟩) [_] 0 hw hp4 hz1 rfl rfl sz9 rfl rfl rfl rfl rfl rfl (by rintro _ ⟨rfl,e1,e2⟩;exact ⟨rfl,show (ZY (k+3*g.1)).length≤2000000 from Nat.le_trans (Zcq (k:=k+3*g.1) oz) (by decide),e2⟩) (fun l5 hv5=>?_))))
 refine tL1 (Za (xM (h:=xD (h:=xA (h:=Za (xM (h:=xM (h:=xM (h:=xR ZeR rfl (Zao ((k+3*g.1)+1) oz _) (h:=?_))))))))))
 obtain ⟨z2,hz2⟩:=ZX (xs:=(g.2.2.set g.1 (⟨ZY (k+3*g.1),z1.pass,z1.quota⟩))) (i:=g.1) om
 obtain ⟨bb8,_,hp8,⟨rfl,hb8,hb8b⟩,hw8,hc8⟩:=hv5.row hz2
 refine xIp hp8 Tryz.underlying35 Zbr (h:=xW Zf0 (h:=Zj (ZeT (k:=g.1) (off:=1) (⟨z2.name,ZY (k+3*g.1+1),z2.quota⟩) [_] 0 hv5 hp8 hz2 rfl rfl sz9 rfl rfl rfl rfl rfl rfl (by rintro _ ⟨rfl,e1,e2⟩;exact ⟨rfl,e1,show (ZY (k+3*g.1+1)).length≤2000000 from Nat.le_trans (Zcq (k:=k+3*g.1+1) oz) (by decide)⟩) (fun l9 hv9=>?_))))
 refine tL1 (Za (xM (h:=xD (h:=xA (h:=Za (xM (h:=xM (h:=xM (h:=?_)))))))))
 obtain ⟨z3,hz3⟩:=ZX (xs:=((g.2.2.set g.1 (⟨ZY (k+3*g.1),z1.pass,z1.quota⟩)).set g.1 (⟨z2.name,ZY (k+3*g.1+1),z2.quota⟩))) (i:=g.1) om
 obtain ⟨bb11,_,hp11,⟨rfl,hb11,hb11b⟩,hw11,hc11⟩:=hv9.row hz3
 refine xIp hp11 Tryz.underlying35 Zbr (h:=xW ZdX (h:=Zj (ZeT (k:=g.1) (off:=2) (⟨z3.name,z3.pass,((k+3*g.1+1+1:Nat):Int)⟩) [_] 0 hv9 hp11 hz3 rfl rfl sz3 rfl rfl rfl rfl rfl rfl (by rintro _ ⟨rfl,e1,e2⟩;exact ⟨rfl,e1,e2⟩) (fun l12 hv12=>?_))))
 refine tL1 (Ze (xM (h:=xD (h:=xA (h:=ZK (Zn (Ze (xM (h:=xD (h:=xA (h:=?_)))))))))))
 exact ZC (g.1+1,l12,(((g.2.2.set g.1 (⟨ZY (k+3*g.1),z1.pass,z1.quota⟩)).set g.1 (⟨z2.name,ZY (k+3*g.1+1),z2.quota⟩)).set g.1 (⟨z3.name,z3.pass,((k+3*g.1+1+1:Nat):Int)⟩))) [0] so2 ⟨rfl,so,by simp only [List.length_set];exact hle,ZkY ht hz1 hz2 hz3,hv12⟩ t4 rfl
 try simp only [sQ,ne_eq] at g1
 have he:=ZkX ht oz
 have hgi:g.1=xs.length:=by omega
 rw [hgi] at he
 refine ZE (ZT (ZH (Zv (Zn (Za (xM (h:=xA (h:=Zd ?_))))))))
 exact ZdI .ret (.inl rfl) [_] [0] rfl ⟨rfl,trivial⟩ ⟨rfl,_,rfl,by rw [hgi];rfl,by rw [← he];exact hw⟩

end Go.Proofs.YtonfijmgahdgeaaGreatDoor
