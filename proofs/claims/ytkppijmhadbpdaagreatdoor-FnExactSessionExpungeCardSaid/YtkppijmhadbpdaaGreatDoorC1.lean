/-
  WHAT THE FUNCTIONS THAT THE LAWS REACH COMPUTE: each function's contract, proved off its printed body (the text is written by program). No condition beyond those that each theorem states.
-/
import Derived.Test.YtkppijmhadbpdaaGreatDoorC0
namespace Go.Proofs.YtkppijmhadbpdaaGreatDoor
open Go Go.BL
set_option linter.unusedVariables false
set_option linter.unusedSimpArgs false
set_option maxRecDepth 4000
set_option maxHeartbeats 6400000
variable {J : JoinT}
theorem Zkj (q1 q2 q3:Option Addr) (c1 c2 c3:Nat) (x:DHost) (B:Kn) (hu:SlK B q1 c1 3 Zs x.users) (hf:SlK B q2 c2 5 Zu x.folders):Zaa (pj J) 94 [.agg #[str x.domain,.slice q1 x.users.length c1,.slice q2 x.folders.length c2,.int .i64 x.queue.next,.slice q3 x.queue.items.length c3]] B (.bool (Zca x.users x.folders)):=by
 refine cB 60 Tryz.func94 (h:=?_)
 have hfn:=hf.len
 have hun:=hu.len
 refine Za (xBx [_,_,_,_,_] (h:=fun b1=>xA (h:=tL1 (Zc (Za (xA (h:=Zh (Zz (α:=Nat × Option DFolder) [0,1] (fun g=>[(3,.int .i64 g.1)]) [] (fun g=>[]) (fun g Bx=>Bx=B∧g.1≤x.folders.length∧ZcU x.users (x.folders.take g.1)=(true,g.2)∧Prev some none x.folders g.1 g.2) (fun g=>x.folders.length - g.1) (0,none) t1 rfl (⟨rfl,Nat.zero_le _,Zfp,.zero⟩) (fun g B2 hle2 hI=>?_)))))))))
 obtain ⟨rfl,hk,hs,hp⟩:=hI
 refine ZC [(0,_),(1,_),(3,_)] [_] t3 rfl (Zc (Za (xM (h:=xW Zay (h:=x1 ZeO 0 (h:=xV Tryz.underlying24 (h:=ZF (h:=Zb rfl (fun g1=>?_) (fun g1=>?_)))))))))
 try simp only [sQ,ne_eq] at g1
 refine wSk (Zc (Zh (Za (xW Zay (h:=x1 ZeO 0 (h:=xM (h:=?_)))))))
 obtain ⟨m,hm⟩:=ZY (xs:=x.folders) (i:=g.1) om
 obtain ⟨bb4,oo4,rfl⟩:=hf.base hm
 obtain ⟨_,⟨qg5,cg5,qm5,cm5,rfl,hg5,hm5,hb5,hb5b⟩,hc5⟩:=hf.elem hm
 have hg5n:=hg5.len
 have hm5n:=hm5.len
 have hm5s:=Zaq hm5
 refine xIx Tryz.underlying24 Zb0 (h:=yL [_,_,_,_,_] ZhZ hc5 0 (h:=xAl [_,_,_,_,_] Zf6 (h:=fun b6=>xS [_,_,_,_,_] 1 [_,_,_,_,_] Zb0 (h:=tL2 (Zc (Z2 (same _ _) mo kr ⟨rfl,rfl⟩ (fun _ _=>?_)))))))
 refine aW 0 rfl ZbZ (h:=aT 1 rfl (Zac fun D=>Zm rfl rfl ZiW rfl (atL 0 rfl rfl rfl) r4) (h:=aW 2 rfl Zcc (h:=aT 3 rfl (Zac fun D=>Zm rfl rfl lk9 rfl (atL 1 rfl rfl rfl) r4) (h:=aT 4 rfl (Zac fun D=>Z8 rfl rfl ZwC rfl (ZfW _ _ _ _ _ hu) r4) (h:=ZsJ 5 rfl (h:=aM 6 rfl (h:=ZaF (d:=23) rfl (fun g2=>?_) (fun g2=>?_))))))))
 try simp only [sQ,ne_eq] at g2
 refine aZ 7 rfl (h:=aZ 8 rfl (h:=aZ 9 rfl (h:=aZ 10 rfl (h:=aPT 11 rfl (h:=aM 12 rfl (h:=aZ 13 rfl (h:=aZ 14 rfl (h:=aZ 15 rfl (h:=aZ 16 rfl (h:=aPT 17 rfl (h:=aM 18 rfl (h:=aZ 19 rfl (h:=aZ 20 rfl (h:=aZ 21 rfl (h:=aZ 22 rfl (h:=aPT 23 rfl (h:=aM 24 rfl (h:=aZ 25 rfl (h:=aZ 26 rfl (h:=aZ 27 rfl (h:=aZ 28 rfl (h:=aZ 29 rfl (h:=aZ 30 rfl (h:=aZ 31 rfl (h:=aZ 32 rfl (h:=aZ 33 rfl (h:=aZ 34 rfl (h:=aZ 35 rfl (h:=aZ 36 rfl (h:=aZ 37 rfl (h:=aPT 38 rfl (h:=Zt kr kr ?_))))))))))))))))))))))))))))))))
 refine Zo (Zb (t:=true) rfl (fun _=>Za (xA (h:=Ze (ZB (Zn (ZS (ZB (Zn ?_)))))))) (fun h=>Bool.noConfusion h))
 exact eR t1 ⟨Zd (Zb9 hm hs (by simp [Zbo,Z3,DFolder.box,g1,g2];try omega)).symm,rfl,rfl⟩
 try simp only [sQ,ne_eq] at g2
 refine aW 7 rfl ZdJ (h:=aT 8 rfl (Zac fun D=>Zm rfl rfl lk9 rfl (atL 1 rfl rfl rfl) r4) (h:=aT 9 rfl (Zac fun D=>Z8 rfl rfl Zl4 rfl (Zco _ om2 _) r4) (h:=?_)))
 refine aN 10 rfl (h:=aPF 11 rfl (h:=aM 12 rfl (h:=ZaF (d:=29) rfl (fun g3=>?_) (fun g3=>?_))))
 try simp only [sQ,ne_eq] at g3
 refine aZ 13 rfl (h:=aZ 14 rfl (h:=aZ 15 rfl (h:=aZ 16 rfl (h:=aPT 17 rfl (h:=aM 18 rfl (h:=aZ 19 rfl (h:=aZ 20 rfl (h:=aZ 21 rfl (h:=aZ 22 rfl (h:=aPT 23 rfl (h:=aM 24 rfl (h:=aZ 25 rfl (h:=aZ 26 rfl (h:=aZ 27 rfl (h:=aZ 28 rfl (h:=aZ 29 rfl (h:=aZ 30 rfl (h:=aZ 31 rfl (h:=aZ 32 rfl (h:=aZ 33 rfl (h:=aZ 34 rfl (h:=aZ 35 rfl (h:=aZ 36 rfl (h:=aZ 37 rfl (h:=aPT 38 rfl (h:=Zt kr kr ?_))))))))))))))))))))))))))
 refine Zo (Zb (t:=true) rfl (fun _=>Za (xA (h:=Ze (ZB (Zn (ZS (ZB (Zn ?_)))))))) (fun h=>Bool.noConfusion h))
 exact eR t1 ⟨Zd (Zb9 hm hs (by simp [Zbo,Z3,DFolder.box,g1,g2,g3];try omega)).symm,rfl,rfl⟩
 try simp only [sQ,ne_eq] at g3
 refine aW 13 rfl ZdI (h:=aT 14 rfl (Zac fun D=>Zm rfl rfl ZqU rfl (atL 1 rfl rfl rfl) r4) (h:=aT 15 rfl (Zac fun D=>Z8 rfl rfl ZyB rfl (ZoS _ _ _ _ hg5) r4) (h:=aN 16 rfl (h:=aPF 17 rfl (h:=aM 18 rfl (h:=ZaF (d:=35) rfl (fun g4=>?_) (fun g4=>?_)))))))
 try simp only [sQ,ne_eq] at g4
 refine aZ 19 rfl (h:=aZ 20 rfl (h:=aZ 21 rfl (h:=aZ 22 rfl (h:=aPT 23 rfl (h:=aM 24 rfl (h:=aZ 25 rfl (h:=aZ 26 rfl (h:=aZ 27 rfl (h:=aZ 28 rfl (h:=aZ 29 rfl (h:=aZ 30 rfl (h:=aZ 31 rfl (h:=aZ 32 rfl (h:=aZ 33 rfl (h:=aZ 34 rfl (h:=aZ 35 rfl (h:=aZ 36 rfl (h:=aZ 37 rfl (h:=aPT 38 rfl (h:=Zt kr kr ?_))))))))))))))))))))
 refine Zo (Zb (t:=true) rfl (fun _=>Za (xA (h:=Ze (ZB (Zn (ZS (ZB (Zn ?_)))))))) (fun h=>Bool.noConfusion h))
 exact eR t1 ⟨Zd (Zb9 hm hs (by simp [Zbo,Z3,DFolder.box,g1,g2,g3,g4];try omega)).symm,rfl,rfl⟩
 try simp only [sQ,ne_eq] at g4
 refine aW 19 rfl Zcb (h:=aT 20 rfl (Zac fun D=>Z0 [_,_] rfl rfl ZgV rfl (ZbT 1 rfl rfl rfl) r4) (h:=aT 21 rfl (Zac fun D=>Z8 rfl rfl Zwi rfl (ZjV _ _ (⟨m.next,m.mail⟩:DBox) _ hm5) r4) (h:=aN 22 rfl (h:=aPF 23 rfl (h:=aM 24 rfl (h:=ZaF (d:=41) rfl (fun g5=>?_) (fun g5=>?_)))))))
 try simp only [sQ,ne_eq] at g5
 refine aZ 25 rfl (h:=aZ 26 rfl (h:=aZ 27 rfl (h:=aZ 28 rfl (h:=aZ 29 rfl (h:=aZ 30 rfl (h:=aZ 31 rfl (h:=aZ 32 rfl (h:=aZ 33 rfl (h:=aZ 34 rfl (h:=aZ 35 rfl (h:=aZ 36 rfl (h:=aZ 37 rfl (h:=aPT 38 rfl (h:=Zt kr kr ?_))))))))))))))
 refine Zo (Zb (t:=true) rfl (fun _=>Za (xA (h:=Ze (ZB (Zn (ZS (ZB (Zn ?_)))))))) (fun h=>Bool.noConfusion h))
 exact eR t1 ⟨Zd (Zb9 hm hs (by simp [Zbo,Z3,DFolder.box,g1,g2,g3,g4,g5];try omega)).symm,rfl,rfl⟩
 try simp only [sQ,ne_eq] at g5
 refine aM 25 rfl (h:=ZqM 26 rfl (h:=aM 27 rfl (h:=ZaF (d:=44) rfl (fun g6=>?_) (fun g6=>?_))))
 try simp only [sQ,ne_eq] at g6
 refine aW 28 rfl Zay (h:=aT 29 rfl (Zac fun D=>Zm rfl rfl ZeO rfl (atL 0 rfl rfl rfl) r4) (h:=aM 30 rfl (h:=aU 31 rfl (h:=?_))))
 obtain ⟨y,hy⟩:=ZuY (xs:=x.folders) (i:=(↑g.1 - 1)) om om
 obtain ⟨_,⟨qg12,cg12,qm12,cm12,rfl,hg12,hm12,hb12,hb12b⟩,hc12⟩:=hf.elem hy
 have hg12n:=hg12.len
 have hm12n:=hm12.len
 have hm12s:=Zaq hm12
 refine aIx 32 rfl Tryz.underlying24 Zb0 (h:=?_)
 have hpe:=hp.at hy oz
 refine aT 33 rfl (Zac fun D=>Z0 [_,_,_,_,_] rfl rfl ZhZ rfl (Zlh hc12 0 rfl rfl) r4) (h:=aT 34 rfl (Zac fun D=>Z0 [_,_,_,_,_] rfl rfl ZhZ rfl (ZbT 1 rfl rfl rfl) r4) (h:=aT 35 rfl (Zac fun D=>Z8 rfl rfl ZyA rfl (Zpu y m _ _ _ _ _ _ _ _ _) r4) (h:=aN 36 rfl (h:=aPT 37 rfl (h:=aPF 38 rfl (h:=Zt kr kr ?_))))))
 refine Zo (Zb rfl (fun g7=>?_) (fun g7=>?_))
 try simp only [sQ,ne_eq] at g7
 refine Za (xA (h:=Ze (ZB (Zn (ZS (ZB (Zn ?_)))))))
 exact eR t1 ⟨Zd (Zb9 hm hs (by simp [Zbo,Z3,DFolder.box,g1,g2,g3,g4,g5,g6,g7,hpe];try omega)).symm,rfl,rfl⟩
 try simp only [sQ,ne_eq] at g7
 refine ZX (ZP (Zo (Zf (xM (h:=xD (h:=xA (h:=?_)))))))
 exact ZD (g.1+1,some m) [0] so2 ⟨rfl,oz,Zcx hm hs (by rw [hpe];simp [Zbo,Z3,DFolder.box,g3,g4,g5,g7];omega),.succ hm⟩ t3 rfl
 try simp only [sQ,ne_eq] at g6
 refine aZ 28 rfl (h:=aZ 29 rfl (h:=aZ 30 rfl (h:=aZ 31 rfl (h:=aZ 32 rfl (h:=aZ 33 rfl (h:=aZ 34 rfl (h:=aZ 35 rfl (h:=aZ 36 rfl (h:=aPF 37 rfl (h:=aPF 38 rfl (h:=Zt kr kr ?_)))))))))))
 refine Zo (Zb (t:=false) rfl (fun h=>Bool.noConfusion h) (fun _=>ZX (ZP (Zo (Zf (xM (h:=xD (h:=xA (h:=?_)))))))))
 exact ZD (g.1+1,some m) [0] so2 ⟨rfl,oz,Zcx hm hs (by rw [hp.at0 oz];simp [Zbo,Z3,DFolder.box,g3,g4,g5];omega),.succ hm⟩ t3 rfl
 try simp only [sQ,ne_eq] at g1
 refine ZE (ZV (ZH (Zw (Zo (Za (xW Zay (h:=x1 ZeO 0 (h:=xV Tryz.underlying24 (h:=Zck (h:=xA (h:=Ze ?_)))))))))))
 exact eR t1 ⟨Zd (by rw [Zjb (Zd1 hs oz),Bool.eq_iff_iff];simp;try omega),rfl,rfl⟩

theorem Znl (q1 q2 q3:Option Addr) (c1 c2 c3:Nat) (x:DHost) (hd:x.domain.length≤2000000) (B:Kn) (hu:SlK B q1 c1 3 Zs x.users) (hf:SlK B q2 c2 5 Zu x.folders) (hi:SlK B q3 c3 4 ZI x.queue.items):Zaa (pj J) 40 [.agg #[str x.domain,.slice q1 x.users.length c1,.slice q2 x.folders.length c2,.int .i64 x.queue.next,.slice q3 x.queue.items.length c3]] B (.bool (Z9 x)):=by
 refine cB 87 Tryz.func40 (h:=?_)
 have hfn:=hf.len
 have hun:=hu.len
 have hin:=hi.len
 refine Za (xBx [_,_,_,_,_] (h:=fun b1=>xA (h:=tL1 (Zc (Za (xW ZhF (h:=x1 lk9 0 (h:=xR ZzX rfl (ZjU _ om2 _) (h:=?_)))))))))
 refine xN (h:=xM (h:=Zy (d:=10) rfl (fun g1=>?_) (fun g1=>?_)))
 try simp only [sQ,ne_eq] at g1
 refine xP (h:=xP (h:=xP (h:=xP (h:=xT (h:=xM (h:=xP (h:=xP (h:=xP (h:=xP (h:=xT (h:=xM (h:=xP (h:=xP (h:=xP (h:=xT (h:=Zb (t:=true) rfl (fun _=>Za (xA (h:=Ze (Zn ?_)))) (fun h=>Bool.noConfusion h)))))))))))))))))
 exact eR t1 ⟨Zd (by simp [Z9,g1]),rfl,rfl⟩
 try simp only [sQ,ne_eq] at g1
 refine xW ZbZ (h:=x1 ZiW 0 (h:=xR ZzW rfl (Zle _ _ _ _ hu) (h:=xN (h:=xF (h:=xM (h:=Zy (d:=16) rfl (fun g2=>?_) (fun g2=>?_)))))))
 try simp only [sQ,ne_eq] at g2
 refine xP (h:=xP (h:=xP (h:=xP (h:=xT (h:=xM (h:=xP (h:=xP (h:=xP (h:=xT (h:=Zb (t:=true) rfl (fun _=>Za (xA (h:=Ze (Zn ?_)))) (fun h=>Bool.noConfusion h)))))))))))
 exact eR t1 ⟨Zd (by simp [Z9,g1,g2]),rfl,rfl⟩
 try simp only [sQ,ne_eq] at g2
 refine xW Zeh (h:=xL [_,_] ZkX 0 (h:=xR ZzV rfl (Zlf _ _ x.queue _ hi) (h:=xN (h:=xF (h:=xM (h:=Zy (d:=22) rfl (fun g3=>?_) (fun g3=>?_)))))))
 try simp only [sQ,ne_eq] at g3
 refine xP (h:=xP (h:=xP (h:=xT (h:=Zb (t:=true) rfl (fun _=>Za (xA (h:=Ze (Zn ?_)))) (fun h=>Bool.noConfusion h)))))
 exact eR t1 ⟨Zd (by simp [Z9,g1,g2,g3]),rfl,rfl⟩
 try simp only [sQ,ne_eq] at g3
 refine xL [_,_,_,_,_] Zc6 0 (h:=xR ZzU rfl (Zkj _ _ _ _ _ _ x _ hu hf) (h:=xN (h:=xF (h:=Zb rfl (fun g4=>?_) (fun g4=>?_)))))
 try simp only [sQ,ne_eq] at g4
 refine Za (xA (h:=Ze (Zn ?_)))
 exact eR t1 ⟨Zd (by simp [Z9,g1,g2,g3,g4]),rfl,rfl⟩
 try simp only [sQ,ne_eq] at g4
 refine wSk (Zc (Za (xA (h:=Zh (Zz (α:=Nat) [0,1,26] (fun k=>[(3,.int .i64 k)]) [] (fun k=>[]) (fun k Bx=>Bx=B∧k≤x.users.length∧∀z,z∈x.users.take k→Za3 x.folders z=true) (fun k=>x.users.length - k) 0 t1 rfl (⟨rfl,Nat.zero_le _,by simp⟩) (fun k B6 hle6 hI=>?_))))))
 obtain ⟨rfl,hk,ha⟩:=hI
 refine ZC [(0,_),(1,_),(3,_),(26,_)] [_] t4 rfl (Zc (Za (xM (h:=xW ZbZ (h:=x1 ZiW 0 (h:=xV Tryz.underlying23 (h:=ZF (h:=Zb rfl (fun g5=>?_) (fun g5=>?_)))))))))
 try simp only [sQ,ne_eq] at g5
 refine wSk (Zc (Zh (Zc (Z2 (same _ _) mo kr ⟨rfl,rfl⟩ (fun _ _=>?_)))))
 refine aT 0 rfl (Zac fun D=>Z0 [_,_,_,_,_] rfl rfl Zc6 rfl (ZbT 0 rfl rfl rfl) r4) (h:=aW 1 rfl ZbZ (h:=aT 2 rfl (Zac fun D=>Zm rfl rfl ZiW rfl (atL 0 rfl rfl rfl) r4) (h:=aM 3 rfl (h:=?_))))
 obtain ⟨w,hw⟩:=ZY (xs:=x.users) (i:=k) om
 obtain ⟨bb8,oo8,rfl⟩:=hu.base hw
 obtain ⟨_,⟨rfl,hb9,hb9b⟩,hc9⟩:=hu.elem hw
 refine aIx 4 rfl Tryz.underlying23 Zbh (h:=aW 5 rfl Za7 (h:=aT 6 rfl (Zac fun D=>Zm rfl rfl lk9 rfl (hc9 _ 0 _ rfl) r4) (h:=aT 7 rfl (Zac fun D=>Z8 rfl rfl Zzw rfl (Zkk _ _ _ _ _ _ x w.name [105,110,98,111,120] om2 om2 _ hf) r4) (h:=?_))))
 refine ZsJ 8 rfl (h:=aM 9 rfl (h:=ZaF (d:=43) rfl (fun g6=>?_) (fun g6=>?_)))
 try simp only [sQ,ne_eq] at g6
 refine aZ 10 rfl (h:=aZ 11 rfl (h:=aZ 12 rfl (h:=aZ 13 rfl (h:=aZ 14 rfl (h:=aZ 15 rfl (h:=aZ 16 rfl (h:=aZ 17 rfl (h:=aZ 18 rfl (h:=aZ 19 rfl (h:=aZ 20 rfl (h:=aZ 21 rfl (h:=aZ 22 rfl (h:=aZ 23 rfl (h:=aZ 24 rfl (h:=aPT 25 rfl (h:=Zt kr kr ?_))))))))))))))))
 refine Zo (Zb (t:=true) rfl (fun _=>Za (xA (h:=Ze (ZB (Zn (ZS (ZB (Zn ?_)))))))) (fun h=>Bool.noConfusion h))
 exact eR t1 ⟨Zd (Zhy hw (ZjM g6)).symm,rfl,rfl⟩
 try simp only [sQ,ne_eq] at g6
 refine aT 10 rfl (Zac fun D=>Z0 [_,_,_,_,_] rfl rfl Zc6 rfl (ZbT 0 rfl rfl rfl) r4) (h:=aW 11 rfl ZbZ (h:=aT 12 rfl (Zac fun D=>Zm rfl rfl ZiW rfl (atL 0 rfl rfl rfl) r4) (h:=aM 13 rfl (h:=aIx 14 rfl Tryz.underlying23 Zbh (h:=aW 15 rfl Za7 (h:=aT 16 rfl (Zac fun D=>Zm rfl rfl lk9 rfl (hc9 _ 0 _ rfl) r4) (h:=aT 17 rfl (Zac fun D=>Z8 rfl rfl ZzT rfl (Zpt _ _ _ _ _ _ x _ _ hf) r4) (h:=aW 18 rfl ZbZ (h:=aT 19 rfl (Zac fun D=>Zm rfl rfl ZiW rfl (atL 0 rfl rfl rfl) r4) (h:=aM 20 rfl (h:=aIx 21 rfl Tryz.underlying23 Zbh (h:=aW 22 rfl Zdu (h:=aT 23 rfl (Zac fun D=>Zm rfl rfl lk3 rfl (hc9 _ 2 _ rfl) r4) (h:=ZqM 24 rfl (h:=aPF 25 rfl (h:=Zt kr kr ?_))))))))))))))))
 refine Zo (Zb rfl (fun g7=>?_) (fun g7=>?_))
 try simp only [sQ,ne_eq] at g7
 refine Za (xA (h:=Ze (ZB (Zn (ZS (ZB (Zn ?_)))))))
 exact eR t1 ⟨Zd (Zhy hw (ZjL g7)).symm,rfl,rfl⟩
 try simp only [sQ,ne_eq] at g7
 refine ZX (ZP (Zo (Zf (xM (h:=xD (h:=xA (h:=?_)))))))
 exact ZD (k+1) [0] so2 ⟨rfl,oz,Zbg hw ha (ZjK g6 g7)⟩ t4 rfl
 try simp only [sQ,ne_eq] at g5
 refine ZE (ZV (ZH (Zw (Zo (Zc (Za (xA (h:=Zh (Zz (α:=Nat) [0,1,3,26,31] (fun j=>[(4,.int .i64 j)]) [] (fun j=>[]) (fun j Bx=>Bx=B6∧j≤x.queue.items.length∧∀z,z∈x.queue.items.take j→ZaS x.users z=true) (fun j=>x.queue.items.length - j) 0 t1 rfl (⟨rfl,Nat.zero_le _,by simp⟩) (fun j B12 hle12 hI=>?_))))))))))
 obtain ⟨rfl,hj,hb⟩:=hI
 refine ZC [(0,_),(1,_),(3,_),(4,_),(26,_),(31,_)] [_] t6 rfl (Zc (Za (xM (h:=xW Zeh (h:=xW ZbG (h:=x1 Zin 0 (h:=xV Tryz.underlying25 (h:=ZF (h:=Zb rfl (fun g8=>?_) (fun g8=>?_))))))))))
 try simp only [sQ,ne_eq] at g8
 refine wSk (Zc (Zh (Za (xW Zeh (h:=xW ZbG (h:=x1 Zin 0 (h:=xM (h:=?_))))))))
 obtain ⟨y,hy⟩:=ZY (xs:=x.queue.items) (i:=j) om
 obtain ⟨bb14,oo14,rfl⟩:=hi.base hy
 obtain ⟨_,⟨qi15,ci15,rfl,hi15,hb15,hb15b⟩,hc15⟩:=hi.elem hy
 have hi15n:=hi15.len
 refine xIx Tryz.underlying25 Zbr (h:=yL [_,_,_,_] Zeo hc15 0 (h:=xAl [_,_,_,_] Ze0 (h:=fun b16=>xS [_,_,_,_] 1 [_,_,_,_] Zbr (h:=tL2 (Za (xW ZbZ (h:=x1 ZiW 0 (h:=xW Zd6 (h:=x1 lk9 1 (h:=xR ZwC rfl (ZfW _ _ _ _ _ hu) (h:=ZF (h:=xM (h:=Zy (d:=80) rfl (fun g9=>?_) (fun g9=>?_))))))))))))))
 try simp only [sQ,ne_eq] at g9
 refine xP (h:=xP (h:=xP (h:=xP (h:=xP (h:=xT (h:=Zb (t:=true) rfl (fun _=>Za (xA (h:=Ze (ZB (Zn (ZS (ZB (Zn ?_)))))))) (fun h=>Bool.noConfusion h)))))))
 exact eR t1 ⟨Zd (Zhz hy (Zi3 g9)).symm,rfl,rfl⟩
 try simp only [sQ,ne_eq] at g9
 refine xL [_,_,_,_,_] Zc6 0 (h:=xW Zcs (h:=x1 Zft 1 (h:=xR ZzS rfl (ZnG _ _ _ _ _ _ x _ _ y.left _ hu hi15) (h:=xN (h:=xF (h:=Zb rfl (fun ga=>?_) (fun ga=>?_)))))))
 try simp only [sQ,ne_eq] at ga
 refine Za (xA (h:=Ze (ZB (Zn (ZS (ZB (Zn ?_)))))))
 exact eR t1 ⟨Zd (Zhz hy (Zi2 ga)).symm,rfl,rfl⟩
 try simp only [sQ,ne_eq] at ga
 refine ZX (ZP (Zo (Zf (xM (h:=xD (h:=xA (h:=?_)))))))
 exact ZD (j+1) [0] so2 ⟨rfl,oz,Zbg hy hb (Zi1 g9 ga)⟩ t6 rfl
 try simp only [sQ,ne_eq] at g8
 refine ZE (ZV (ZH (Zw (Zo (Za (xA (h:=Ze ?_)))))))
 exact eR t1 ⟨Zd (ZnL g1 g2 g3 g4 (ZeZ (Zbq oz ha)) (ZeZ (Zbq oz hb))).symm,rfl,rfl⟩

theorem Zm3 (q:Option Addr) (cp:Nat) (gs:List DGrant) (B:Kn) (hg:SlK B q cp 2 Z5 gs):Zv (pj J) 216 [.slice q gs.length cp] B [] (Zmf gs B):=by
 refine cB 46 Tryz.func216 (h:=?_)
 have hgn:=hg.len
 refine Za (xA (h:=xA (h:=Zc (Za (xM (h:=xV Tryz.underlying94 (h:=Zfi (h:=Zb rfl (fun g0=>?_) (fun g0=>?_)))))))))
 try simp only [sQ,ne_eq] at g0
 refine Za (xA (h:=xA (h:=Ze (Zn ?_))))
 exact ZhK .ret (.inl rfl) [_,_] t2 (by simp [ZcP];omega)
 try simp only [sQ,ne_eq] at g0
 refine wSk (Za (Zk (Zon rfl rfl (fun b1 l1 hl1=>xA (h:=tL1 (Za (xA (h:=Zc (Za (xM (h:=xV Tryz.underlying94 (h:=xM (h:=Zh (Zz (α:=Nat × Str × Cells) [0,4,10,12,13] (fun g=>[(5,str g.2.1),(14,.int .i64 g.1)]) [0] (fun g=>[g.2.2]) (fun g Bx=>Bx=B∧g.1≤gs.length∧ZcD (gs.take g.1)=(true,g.2.1)∧g.2.1.length≤2000000∧ZuV g.2.2 b1 (Zer (gs.take g.1))) (fun g=>gs.length - g.1) (0,[],_) t2 rfl (⟨rfl,Nat.zero_le _,Zfp,by simp,hl1⟩) (fun g B2 hle2 hI=>?_)))))))))))))))
 obtain ⟨rfl,hk,hs,hnm,hml⟩:=hI
 refine ZC [(0,_),(4,_),(5,_),(10,_),(12,_),(13,_),(14,_)] [_] t7 rfl (Za (ZF (h:=Zc (Zb rfl (fun g1=>?_) (fun g1=>?_)))))
 try simp only [sQ,ne_eq] at g1
 refine wSk (Zc (Zh (Za ?_)))
 obtain ⟨m,hm⟩:=ZY (xs:=gs) (i:=g.1) om
 obtain ⟨bb4,oo4,rfl⟩:=hg.base hm
 obtain ⟨_,⟨rfl,hb5⟩,hc5⟩:=hg.elem hm
 refine xIx Tryz.underlying94 Zds (h:=yL [_,_] Zpp hc5 0 (h:=xAl [_,_] Zm5 (h:=fun b6=>xS [_,_] 1 [_,_] Zds (h:=tL2 (Zc (Za (xW Zcd (h:=x1 lk9 1 (h:=xR ZkC rfl (ZbW _ om2 _) (h:=?_))))))))))
 refine xN (h:=xM (h:=Zy (d:=22) rfl (fun g2=>?_) (fun g2=>?_)))
 try simp only [sQ,ne_eq] at g2
 refine xP (h:=xP (h:=xP (h:=xP (h:=xT (h:=Zb (t:=true) rfl (fun _=>Za (xA (h:=xA (h:=Ze (Zn (ZB (Zn (ZS (ZB (Zn ?_)))))))))) (fun h=>Bool.noConfusion h))))))
 exact ZhK .ret (.inl rfl) [_,_] t2 (Zdd hm hs (by rw [ZbY,Zbt g.2.1 m.user];simp [g2];try omega))
 try simp only [sQ,ne_eq] at g2
 refine xW Zcd (h:=x1 lk9 1 (h:=xM (h:=Zk (ZsU rfl rfl rfl rfl (xF (h:=Zb rfl (fun g3=>?_) (fun g3=>?_)))))))
 try simp only [sQ,ne_eq] at g3
 refine Za (xA (h:=xA (h:=Ze (Zn (ZB (Zn (ZS (ZB (Zn ?_)))))))))
 exact ZhK .ret (.inl rfl) [_,_] t2 (Zdd hm hs (by rw [ZbY,Zbt g.2.1 m.user];simp [g3];try omega))
 try simp only [sQ,ne_eq] at g3
 refine wSk (Zc (Za (xW Zc8 (h:=x1 lk3 1 (h:=ZF (h:=xM (h:=Zy (d:=31) rfl (fun g4=>?_) (fun g4=>?_))))))))
 try simp only [sQ,ne_eq] at g4
 refine xP (h:=xP (h:=xP (h:=xP (h:=xT (h:=Zb (t:=true) rfl (fun _=>Za (xA (h:=xA (h:=Ze (Zn (ZB (Zn (ZS (ZB (Zn ?_)))))))))) (fun h=>Bool.noConfusion h))))))
 exact ZhK .ret (.inl rfl) [_,_] t2 (Zdd hm hs (by rw [ZbY,Zbt g.2.1 m.user];simp [g4];try omega))
 try simp only [sQ,ne_eq] at g4
 refine xW Zc8 (h:=x1 lk3 1 (h:=xR ZxL rfl (Zrx _ _) (h:=xN (h:=xF (h:=Zb rfl (fun g5=>?_) (fun g5=>?_))))))
 try simp only [sQ,ne_eq] at g5
 refine Za (xA (h:=xA (h:=Ze (Zn (ZB (Zn (ZS (ZB (Zn ?_)))))))))
 exact ZhK .ret (.inl rfl) [_,_] t2 (Zdd hm hs (Bool.eq_false_iff.2 fun hc=>by simp only [ZbY,Bool.and_eq_true,decide_eq_true_eq] at hc;simp only [Bool.and_eq_false_iff,decide_eq_false_iff_not] at g5;omega))
 try simp only [sQ,ne_eq] at g5
 refine wSk (Za (xM (h:=xW Zcd (h:=x1 lk9 1 (h:=xW Zc8 (h:=x1 lk3 1 (h:=Zk (Zk0 (k:=m.user) (v:=m.rights) 0 rfl hml rfl rfl Tryz.underlying295 Tryz.underlying9 rfl rfl rfl (fun l9 hl9=>tL2 (Zf (xW Zcd (h:=x1 lk9 1 (h:=xA (h:=ZP (Zo (Zf (xD (h:=xM (h:=?_)))))))))))))))))))
 exact ZD (g.1+1,m.user,l9) [0] so2 ⟨rfl,so,Zcx hm hs (by rw [ZbY,Zbt g.2.1 m.user,g2,g3];simp at g5 ⊢;omega),oy,by rw [← Zt8 hm hs (by rw [Zbt g.2.1 m.user,g3];rfl)];exact hl9⟩ t7 rfl
 try simp only [sQ,ne_eq] at g1
 refine ZE (ZV (ZH (Zw (Zo (Za (xM (h:=xA (h:=xA (h:=Ze ?_)))))))))
 exact ZuE .ret (.inl rfl) [_,_] rfl t2 (by rw [ZkS (Zd1 hs oz)];simp;omega) (by have e:=hml;rw [List.take_of_length_le oz] at e;exact e)

theorem ZpB (q:Option Addr) (cp:Nat) (gs:List DGrant) (B:Kn) (hg:SlK B q cp 2 Z5 gs):Zaa (pj J) 150 [.slice q gs.length cp] B (.bool (ZcP gs)):=by
 refine cB 11 Tryz.func150 (h:=?_)
 refine Za (xA (h:=Za (xM (h:=xC Zwf rfl (Zm3 _ _ _ _ hg) (h:=?_)))))
 rintro _ B1 _ hle1 ⟨m1,l1,rfl,rfl,rfl,hl1⟩
 refine xM (h:=xE (h:=xE (h:=xA (h:=xA (h:=tL1 (Za (xM (h:=xA (h:=Ze ?_)))))))))
 exact eR t1 ⟨rfl,rfl,rfl⟩

theorem Zwl (a b:Str) (B:Kn):Zaa (pj J) 202 [str a,str b] B (.int .i64 (Lib.compareBytes a b)):=by
 refine cB 8 Tryz.func202 (h:=?_)
 refine Za (xA (h:=Za (xM (h:=xM (h:=Zk (ZwX (fn:=Tryz.f257) rfl rfl Tryz.func257 rfl rfl Zv7 Zv8 rfl rfl (xA (h:=Ze ?_))))))))
 exact eR t1 ⟨rfl,rfl,rfl⟩

theorem Zth (a b:Str) (B:Kn):Zaa (pj J) 144 [str a,str b] B (.int .i64 (Lib.compareBytes a b)):=by
 refine cB 8 Tryz.func144 (h:=?_)
 refine Za (xA (h:=Za (xM (h:=xM (h:=xR Zx9 rfl (Zwl a b _) (h:=xA (h:=Ze ?_)))))))
 exact eR t1 ⟨rfl,rfl,rfl⟩

theorem ZlX (f:DFolder) (qa qb:Option Addr) (ca cb:Nat) (ow nm:Str) (B:Kn):Zaa (pj J) 84 [.agg #[str f.owner,str f.name,.slice qa f.grants.length ca,.int .i64 f.next,.slice qb f.mail.length cb],str ow,str nm] B (.int .i64 (Zwk f ow nm)):=by
 refine cB 19 Tryz.func84 (h:=?_)
 refine Za (xBx [_,_,_,_,_] (h:=fun b1=>xA (h:=tL1 (Zc (Za (xW Zcc (h:=x1 lk9 0 (h:=xM (h:=xR Zwh rfl (Zth f.owner ow _) (h:=xA (h:=Za (xM (h:=ZaL (h:=Zb rfl (fun g1=>?_) (fun g1=>?_)))))))))))))))
 try simp only [sQ,ne_eq] at g1
 refine Za (xM (h:=xA (h:=Ze (Zn ?_))))
 exact eR t1 ⟨ZG (by rw [Zwk,if_pos g1]),rfl,rfl⟩
 try simp only [sQ,ne_eq] at g1
 refine wSk (Za (xW ZdJ (h:=x1 lk9 0 (h:=xM (h:=xR Zwh rfl (Zth f.name nm _) (h:=xA (h:=Ze ?_)))))))
 exact eR t1 ⟨ZG (by rw [Zwk,if_neg (fun h=>h g1)]),rfl,rfl⟩

theorem Zvp (b o:Nat) (q1 q2 q3:Option Addr) (c1 c2 c3:Nat) (x:DHost) (u:Str) (B:Kn) (hh:Zau B b o [str x.domain,.slice q1 x.users.length c1,.slice q2 x.folders.length c2,.int .i64 x.queue.next,.slice q3 x.queue.items.length c3]) (hf:SlK B q2 c2 5 Zu x.folders):Zaa (pj J) 187 [ptr ⟨b,o,none⟩,str u] B (.int .i64 (Zfm x.folders u)):=by
 refine cB 28 Tryz.func187 (h:=?_)
 have hfn:=hf.len
 refine Za (xA (h:=Za (xA (h:=Zc (Za (xM (h:=xNc (h:=xW Zay (h:=Zk (Zm rfl rfl ZeO rfl (hh _ 2 _ rfl) (xV Tryz.underlying24 (h:=xM (h:=Zh (Zz (α:=Nat × Int) [0,1,4,11,12] (fun g=>[(5,.int .i64 g.2),(13,.int .i64 g.1)]) [] (fun g=>[]) (fun g Bx=>Bx=B∧g.1≤x.folders.length∧g.2=Zfm (x.folders.take g.1) u∧-1*g.1≤g.2∧g.2≤g.1*200) (fun g=>x.folders.length - g.1) (0,0) t2 rfl (⟨rfl,Nat.zero_le _,by simp [Zfm],by simp,by simp⟩) (fun g B1 hle1 hI=>?_)))))))))))))))
 obtain ⟨rfl,hk,hs,hl0,hl1⟩:=hI
 refine ZC [(0,_),(1,_),(4,_),(5,_),(11,_),(12,_),(13,_)] [] t7 rfl (Za (ZF (h:=Zc (Zb rfl (fun g1=>?_) (fun g1=>?_)))))
 try simp only [sQ,ne_eq] at g1
 refine wSk (Zc (Zh (Za ?_)))
 obtain ⟨m,hm⟩:=ZY (xs:=x.folders) (i:=g.1) om
 obtain ⟨bb3,oo3,rfl⟩:=hf.base hm
 obtain ⟨_,⟨qg4,cg4,qm4,cm4,rfl,hg4,hm4,hb4,hb4b⟩,hc4⟩:=hf.elem hm
 have hg4n:=hg4.len
 have hm4n:=hm4.len
 have hm4s:=Zaq hm4
 refine xIx Tryz.underlying24 Zb0 (h:=yL [_,_,_,_,_] ZhZ hc4 0 (h:=xAl [_,_,_,_,_] Zf6 (h:=fun b5=>xS [_,_,_,_,_] 0 [_,_,_,_,_] Zb0 (h:=tL1 (Za (xW Zcc (h:=x1 lk9 0 (h:=xM (h:=Zdx (h:=Zb rfl (fun g2=>?_) (fun g2=>?_)))))))))))
 try simp only [sQ,ne_eq] at g2
 have hbs:=ZiB (⟨m.next,m.mail⟩:DBox)
 refine Zf (xM (h:=xW Zcb (h:=xL [_,_] ZgV 0 (h:=xR ZxQ rfl (ZqE _ _ (⟨m.next,m.mail⟩:DBox) _ hm4) (h:=xD (h:=xA (h:=ZP (Zo (Zf (xD (h:=xM (h:=?_))))))))))))
 exact ZD (g.1+1,g.2+Zdw ⟨m.next,m.mail⟩) [] so2 ⟨rfl,so,by rw [Zia hm,← hs,if_pos g2],so,so⟩ t7 rfl
 try simp only [sQ,ne_eq] at g2
 refine ZX (ZP (Zo (Zf (xD (h:=xM (h:=?_))))))
 exact ZD (g.1+1,g.2) [] so2 ⟨rfl,so,by rw [Zia hm,← hs,if_neg g2,Int.add_zero],so,so⟩ t7 rfl
 try simp only [sQ,ne_eq] at g1
 refine ZE (ZV (ZH (Zw (Zo (Za (xM (h:=xA (h:=Ze ?_))))))))
 exact eR t1 ⟨ZG (by rw [← Zow hs oz]),rfl,rfl⟩

theorem Zqb (b o:Nat) (q1 q2 q3:Option Addr) (c1 c2 c3:Nat) (x:DHost) (u:Str) (more:Int) (hn:u.length≤2000000) (hm0:0≤more) (hm1:more≤2000000) (B:Kn) (hh:Zau B b o [str x.domain,.slice q1 x.users.length c1,.slice q2 x.folders.length c2,.int .i64 x.queue.next,.slice q3 x.queue.items.length c3]) (hu:SlK B q1 c1 3 Zs x.users) (hf:SlK B q2 c2 5 Zu x.folders):Zaa (pj J) 128 [ptr ⟨b,o,none⟩,str u,.int .i64 more] B (.bool (Zd8 x u more)):=by
 refine cB 30 Tryz.func128 (h:=?_)
 have hfn:=hf.len
 have hub:=Zrg x.folders u
 refine Za (xA (h:=Za (xM (h:=xNc (h:=xW ZbZ (h:=Zk (Zm rfl rfl ZiW rfl (hh _ 1 _ rfl) (xM (h:=xR Zwg rfl (Zhf _ _ _ u om2 _ hu) (h:=?_))))))))))
 refine xM (h:=xE (h:=xE (h:=xAl [_,_,_] ZdS (h:=fun b2=>xS [_,_,_] 0 [_,_,_] Zbh (h:=xA (h:=tL1 (Zc (Z2 (same _ _) mo kr ⟨rfl,rfl⟩ (fun _ _=>?_)))))))))
 refine aM 0 rfl (h:=aN 1 rfl (h:=aM 2 rfl (h:=ZaF (d:=20) rfl (fun g1=>?_) (fun g1=>?_))))
 refine aZ 3 rfl (h:=aZ 4 rfl (h:=aZ 5 rfl (h:=aZ 6 rfl (h:=aZ 7 rfl (h:=aZ 8 rfl (h:=aZ 9 rfl (h:=aZ 10 rfl (h:=aPT 11 rfl (h:=aA 12 rfl (h:=Zt kr kr ?_))))))))))
 refine Zo (Ze ?_)
 exact eR t1 ⟨Zd (by rw [Zd8,g1];rfl),rfl,rfl⟩
 refine aM 3 rfl (h:=aM 4 rfl (h:=aT 5 rfl (Zac fun D=>Z8 rfl rfl Zyf rfl (Zvp _ _ _ _ _ _ _ _ x u _ hh hf) r4) (h:=aM 6 rfl (h:=aD 7 rfl (h:=aW 8 rfl Zdu (h:=aT 9 rfl (Zac fun D=>Zm rfl rfl lk3 rfl (atL 0 rfl rfl rfl) r4) (h:=ZqM 10 rfl (h:=aPF 11 rfl (h:=aA 12 rfl (h:=Zt kr kr ?_))))))))))
 refine Zo (Ze ?_)
 exact eR t1 ⟨Zd (by rw [Zd8,g1];rfl),rfl,rfl⟩

theorem Znb (b o:Nat) (q1 q2 q3:Option Addr) (c1 c2 c3:Nat) (x:DHost) (B:Kn) (hh:Zau B b o [str x.domain,.slice q1 x.users.length c1,.slice q2 x.folders.length c2,.int .i64 x.queue.next,.slice q3 x.queue.items.length c3]) (hu:SlK B q1 c1 3 Zs x.users) (hf:SlK B q2 c2 5 Zu x.folders):Zaa (pj J) 86 [ptr ⟨b,o,none⟩] B (.bool (Zhe x)):=by
 refine cB 26 Tryz.func86 (h:=?_)
 have hfn:=hf.len
 have hun:=hu.len
 refine Za (xA (h:=Zc (Za (xM (h:=xNc (h:=xW ZbZ (h:=Zk (Zm rfl rfl ZiW rfl (hh _ 1 _ rfl) (xV Tryz.underlying23 (h:=xM (h:=Zh (Zz (α:=Nat) [0,8,9] (fun k=>[(10,.int .i64 k)]) [] (fun k=>[]) (fun k Bx=>Bx=B∧k≤x.users.length∧∀z,z∈x.users.take k→Zcw x z=true) (fun k=>x.users.length - k) 0 t1 rfl (⟨rfl,Nat.zero_le _,by simp⟩) (fun k B1 hle1 hI=>?_)))))))))))))
 obtain ⟨rfl,hk,ha⟩:=hI
 refine ZC [(0,_),(8,_),(9,_),(10,_)] [] t4 rfl (Za (ZF (h:=Zc (Zb rfl (fun g1=>?_) (fun g1=>?_)))))
 try simp only [sQ,ne_eq] at g1
 refine wSk (Zc (Zh (Za ?_)))
 obtain ⟨w,hw⟩:=ZY (xs:=x.users) (i:=k) om
 obtain ⟨bb3,oo3,rfl⟩:=hu.base hw
 obtain ⟨_,⟨rfl,hb4,hb4b⟩,hc4⟩:=hu.elem hw
 refine xIx Tryz.underlying23 Zbh (h:=yL [_,_,_] Ze3 hc4 0 (h:=xAl [_,_,_] ZdS (h:=fun b5=>xS [_,_,_] 0 [_,_,_] Zbh (h:=tL1 (Za (xM (h:=xW Za7 (h:=x1 lk9 0 (h:=xR Zzu rfl (Ztg _ _ _ _ _ _ _ _ x w.name [105,110,98,111,120] om2 om2 _ hh hf) (h:=?_))))))))))
 refine ZF (h:=xM (h:=Zy (d:=19) rfl (fun g2=>?_) (fun g2=>?_)))
 try simp only [sQ,ne_eq] at g2
 refine xP (h:=xP (h:=xP (h:=xP (h:=xT (h:=Zb (t:=true) rfl (fun _=>Za (xA (h:=Ze (ZB (Zn (ZS (ZB (Zn ?_)))))))) (fun h=>Bool.noConfusion h))))))
 exact eR t1 ⟨Zd (Zdq hw (ZjP g2)).symm,rfl,rfl⟩
 try simp only [sQ,ne_eq] at g2
 refine xM (h:=xW Za7 (h:=x1 lk9 0 (h:=xR ZyQ rfl (Zqb _ _ _ _ _ _ _ _ x w.name 0 om2 om2 om2 _ hh hu hf) (h:=?_))))
 refine xF (h:=Zb rfl (fun g3=>?_) (fun g3=>?_))
 try simp only [sQ,ne_eq] at g3
 refine Za (xA (h:=Ze (ZB (Zn (ZS (ZB (Zn ?_)))))))
 exact eR t1 ⟨Zd (Zdq hw (ZjO g3)).symm,rfl,rfl⟩
 try simp only [sQ,ne_eq] at g3
 refine ZX (ZP (Zo (Zf (xD (h:=xM (h:=?_))))))
 exact ZD (k+1) [] so2 ⟨rfl,oz,Zbg hw ha (ZjN g2 g3)⟩ t4 rfl
 try simp only [sQ,ne_eq] at g1
 refine ZE (ZV (ZH (Zw (Zo (Za (xA (h:=Ze ?_)))))))
 exact eR t1 ⟨Zd (ZeZ (Zbq oz ha)).symm,rfl,rfl⟩

theorem Zr5 (q:Option Addr) (cp:Nat) (bs:List Bool) (v:Bool) (B:Kn) (hb:SlK B q cp 1 ZuX bs):Zaa (pj J) 222 [.slice q bs.length cp,.bool v] B (.int .i64 (ZbR (fun y=>decide (v=y)) bs)):=by
 refine cB 19 Tryz.func222 (h:=?_)
 have hbn:=hb.len
 refine Za (xA (h:=Zc (Za (xM (h:=xV Tryz.underlying224 (h:=xM (h:=Zh (Zz (α:=Nat) [0,1,7] (fun k=>[(8,.int .i64 k)]) [] (fun k=>[]) (fun k Bx=>Bx=B∧k≤bs.length∧∀y,y∈bs.take k→decide (v=y)=false) (fun k=>bs.length - k) 0 t1 rfl (⟨rfl,Nat.zero_le _,by simp⟩) (fun k B1 hle1 hI=>?_)))))))))
 obtain ⟨rfl,hk,ha⟩:=hI
 refine ZC [(0,_),(1,_),(7,_),(8,_)] [] t4 rfl (Za (ZF (h:=Zc (Zb rfl (fun g1=>?_) (fun g1=>?_)))))
 try simp only [sQ,ne_eq] at g1
 refine wSk (Zc (Zh (Za (xM (h:=xA (h:=Za (xM (h:=xM (h:=xM (h:=?_))))))))))
 obtain ⟨y,hy⟩:=ZY (xs:=bs) (i:=k) om
 obtain ⟨bb3,oo3,rfl⟩:=hb.base hy
 obtain ⟨_,rfl,hc4⟩:=hb.elem hy
 refine xIx Tryz.underlying224 sz4 (h:=y1 lk4 hc4 0 (h:=Zk (Zop rfl rfl rfl rfl rfl (Zwd Tryz.underlying4) (Zb rfl (fun g2=>?_) (fun g2=>?_)))))
 try simp only [sQ,ne_eq] at g2
 refine Za (xM (h:=xA (h:=Ze (ZB (Zn (ZS (ZB (Zn ?_))))))))
 exact eR t1 ⟨ZG (ZgX hy (decide_eq_true g2) ha).symm,rfl,rfl⟩
 try simp only [sQ,ne_eq] at g2
 refine ZX (ZP (Zo (Zf (xD (h:=xM (h:=?_))))))
 exact ZD (k+1) [] so2 ⟨rfl,oz,Zbg hy ha (decide_eq_false g2)⟩ t4 rfl
 try simp only [sQ,ne_eq] at g1
 refine ZE (ZV (ZH (Zw (Zo (Za (xA (h:=Ze ?_)))))))
 exact eR t1 ⟨ZG (Zev (Zbq oz ha)).symm,rfl,rfl⟩

theorem Zl8 (q:Option Addr) (cp:Nat) (bs:List Bool) (v:Bool) (B:Kn) (hb:SlK B q cp 1 ZuX bs):Zaa (pj J) 152 [.slice q bs.length cp,.bool v] B (.bool (decide (0≤ZbR (fun y=>decide (v=y)) bs))):=by
 refine cB 9 Tryz.func152 (h:=?_)
 refine Za (xA (h:=Za (xM (h:=xM (h:=xR Zx8 rfl (Zr5 _ _ _ _ _ hb) (h:=Zek (h:=xA (h:=Ze ?_))))))))
 exact eR t1 ⟨rfl,rfl,rfl⟩

theorem Zko (l:Str) (hl:l.length≤2000000) (B:Kn):Zaa (pj J) 81 [str l] B (.bool (ZcI l)):=by
 refine cB 16 Tryz.func81 (h:=?_)
 refine Za (xA (h:=Za (xM (h:=xB [(0,_)] [_,_] [_,_] ZvE ZqW (h:=xAl [_,_] ZqW (h:=fun b1=>xS [_,_] 0 [_,_] Zvz (h:=tL1 (Za (Zk (Zh8 0 rfl rfl rfl ZyP rfl (Zsr _ _ 0 oz oz _) ?_))))))))))
 refine xM (h:=xE (h:=xE (h:=xA (h:=xA (h:=Za (xM (h:=xM (h:=Zy (d:=13) rfl (fun g1=>?_) (fun g1=>?_)))))))))
 refine Zk (Ze7 0 rfl rfl rfl Zsq rfl (ZmX _ _ (dom l 0).2 (Zwj (Nat.zero_le _)) oz _) ?_)
 refine xT (h:=xA (h:=Ze ?_))
 exact eR t1 ⟨Zd (by rw [Bool.eq_iff_iff,← ZkD];simp [Zl6] at g1;simp [g1];try omega),rfl,rfl⟩
 refine xP (h:=xF (h:=xA (h:=Ze ?_)))
 exact eR t1 ⟨Zd (by symm;rw [Bool.eq_false_iff,ne_eq,← ZkD];intro hc;simp [Zl6,hc.1] at g1;omega),rfl,rfl⟩

theorem Zja (Wg C n i b o b1 b3 b5 b6:Nat) (q1 q2 q3:Option Addr) (c1 c2 c3:Nat) (x:DHost) (m:DFolder) (qg qm:Option Addr) (cg cm:Nat) (hin:i<n) (B:Kn) (hc900:Zau B b o [str x.domain,.slice q1 x.users.length c1,.slice q2 x.folders.length c2,.int .i64 x.queue.next,.slice q3 x.queue.items.length c3]) (hu:SlK B q1 c1 3 Zs x.users) (hc901:Zau B b1 0 [ptr ⟨b,o,none⟩]) (hc903:Zau B b3 0 [.slice (some ⟨C,0,none⟩) n n]) (hc905:Zau B b5 0 [.int .i64 i]) (hc906:Zau B b6 0 [str m.owner,str m.name,.slice qg m.grants.length cg,.int .i64 m.next,.slice qm m.mail.length cm]) (hg:SlK B qg cg 2 Z5 m.grants) (hm:SlK B qm cm 3 Z6 m.mail) (ho:m.owner.length≤2000000) (hnm:m.name.length≤2000000):@Zec ⟨4⟩ Tryz.prog wgL.tWg Wg C n i (.bool (ZaI x.users m)) (Go.Conc.G (Frame.enter Tryz.prog 146 #[ptr ⟨Wg,0,none⟩,ptr ⟨b1,0,none⟩,ptr ⟨b6,0,none⟩,ptr ⟨b3,0,none⟩,ptr ⟨b5,0,none⟩] .deferred) [ZfG Tryz.prog]) B []:=by
 letI:Go.ConcR.Payload:=⟨4⟩
 refine Ztq (Lk:=wgL) (P:=Tryz.prog) (caps:=[ptr ⟨Wg,0,none⟩,ptr ⟨b1,0,none⟩,ptr ⟨b6,0,none⟩,ptr ⟨b3,0,none⟩,ptr ⟨b5,0,none⟩]) (nt:=27) (I:=keeps B [] []) (K:=fun _ _ _ _=>False) ZkZ Tryz.func146 rfl rfl (Nat.le_of_ble_eq_true rfl) rfl mo kr ⟨Kn.le.refl _,ZaY.refl _ _⟩ (fun _ _ _ _ h=>h) ?_
 refine aT 0 rfl (ZO fun D B L hI=>Zm rfl rfl ZvR rfl ((hc903.mono hI.1) _ 0 _ rfl) r4) (h:=aT 1 rfl (ZO fun D B L hI=>Zm rfl rfl lk3 rfl ((hc905.mono hI.1) _ 0 _ rfl) r4) (h:=aT 2 rfl (ZO fun D B L hI=>Zm rfl rfl Zxk rfl ((hc901.mono hI.1) _ 0 _ rfl) r4) (h:=aW 3 rfl Zcc (h:=aT 4 rfl (ZO fun D B L hI=>Zm rfl rfl lk9 rfl ((hc906.mono hI.1) _ 0 _ rfl) r4) (h:=aT 5 rfl (ZO fun D B L hI=>Z8 rfl rfl Zsp rfl (ZgW _ _ _ _ _ _ _ _ x m.owner om2 _ (hc900.mono hI.1) (hu.mono Zs.mono hI.1)) r4) (h:=?_))))))
 refine aM 6 rfl (h:=ZaF (d:=11) rfl (fun g1=>?_) (fun g1=>?_))
 refine aW 7 rfl ZdJ (h:=aT 8 rfl (ZO fun D B L hI=>Zm rfl rfl lk9 rfl ((hc906.mono hI.1) _ 1 _ rfl) r4) (h:=aT 9 rfl (ZO fun D B L hI=>Z8 rfl rfl ZkC rfl (ZbW _ om2 _) r4) (h:=?_)))
 refine aPT 10 rfl (h:=aM 11 rfl (h:=ZaF (d:=16) rfl (fun g2=>?_) (fun g2=>?_)))
 refine aW 12 rfl ZdI (h:=aT 13 rfl (ZO fun D B L hI=>Zm rfl rfl ZqU rfl ((hc906.mono hI.1) _ 2 _ rfl) r4) (h:=aT 14 rfl (ZO fun D B L hI=>Z8 rfl rfl ZyK rfl (ZpB _ _ _ _ (hg.mono Z5.mono hI.1)) r4) (h:=aPT 15 rfl (h:=aM 16 rfl (h:=ZaF (d:=21) rfl (fun g3=>?_) (fun g3=>?_))))))
 refine aW 17 rfl Zcb (h:=aT 18 rfl (ZO fun D B L hI=>Z0 [_,_] rfl rfl ZgV rfl (Zlh (hc906.mono hI.1) 3 rfl rfl) r4) (h:=aT 19 rfl (ZO fun D B L hI=>Z8 rfl rfl ZuL rfl (Zhw _ _ (⟨m.next,m.mail⟩:DBox) _ (hm.mono Z6.mono hI.1)) r4) (h:=aPT 20 rfl (h:=aT 21 rfl (ZO fun D B L hI=>ZbK rfl rfl Tryz.underlying224 sz4 rfl rfl oz oz r4) (h:=?_)))))
 refine Zg0 22 kr rfl kr kr kr (fun T hn hT=>?_)
 refine ZfK (L:=[]) hT ZkZ (by simp [ZaI,DFolder.box,g1,g2,g3]) rfl hin rfl Tryz.sizeOf4 (ZcM sz4) (by exact ZgS C i) rfl kr Tryz.func146 rfl
 refine aZ 17 rfl (h:=aZ 18 rfl (h:=aZ 19 rfl (h:=aPF 20 rfl (h:=aT 21 rfl (ZO fun D B L hI=>ZbK rfl rfl Tryz.underlying224 sz4 rfl rfl oz oz r4) (h:=?_)))))
 refine Zg0 22 kr rfl kr kr kr (fun T hn hT=>?_)
 refine ZfK (L:=[]) hT ZkZ (by simp [ZaI,DFolder.box,g1,g2,g3]) rfl hin rfl Tryz.sizeOf4 (ZcM sz4) (by exact ZgS C i) rfl kr Tryz.func146 rfl
 refine aZ 12 rfl (h:=aZ 13 rfl (h:=aZ 14 rfl (h:=aPF 15 rfl (h:=aM 16 rfl (h:=aZ 17 rfl (h:=aZ 18 rfl (h:=aZ 19 rfl (h:=aPF 20 rfl (h:=aT 21 rfl (ZO fun D B L hI=>ZbK rfl rfl Tryz.underlying224 sz4 rfl rfl oz oz r4) (h:=?_))))))))))
 refine Zg0 22 kr rfl kr kr kr (fun T hn hT=>?_)
 refine ZfK (L:=[]) hT ZkZ (by simp [ZaI,DFolder.box,g1,g2]) rfl hin rfl Tryz.sizeOf4 (ZcM sz4) (by exact ZgS C i) rfl kr Tryz.func146 rfl
 refine aZ 7 rfl (h:=aZ 8 rfl (h:=aZ 9 rfl (h:=aPF 10 rfl (h:=aM 11 rfl (h:=aZ 12 rfl (h:=aZ 13 rfl (h:=aZ 14 rfl (h:=aPF 15 rfl (h:=aM 16 rfl (h:=aZ 17 rfl (h:=aZ 18 rfl (h:=aZ 19 rfl (h:=aPF 20 rfl (h:=aT 21 rfl (ZO fun D B L hI=>ZbK rfl rfl Tryz.underlying224 sz4 rfl rfl oz oz r4) (h:=?_)))))))))))))))
 refine Zg0 22 kr rfl kr kr kr (fun T hn hT=>?_)
 refine ZfK (L:=[]) hT ZkZ (by simp [ZaI,DFolder.box,g1]) rfl hin rfl Tryz.sizeOf4 (ZcM sz4) (by exact ZgS C i) rfl kr Tryz.func146 rfl

theorem Zh4 (hJ:Joins Tryz.prog J) (b o:Nat) (q1 q2 q3:Option Addr) (c1 c2 c3:Nat) (x:DHost) (B:Kn) (hc900:Zau B b o [str x.domain,.slice q1 x.users.length c1,.slice q2 x.folders.length c2,.int .i64 x.queue.next,.slice q3 x.queue.items.length c3]) (hu:SlK B q1 c1 3 Zs x.users) (hf:SlK B q2 c2 5 Zu x.folders):Zv (pj J) 85 [ptr ⟨b,o,none⟩] B [] (fun v B' Ls=>Ls=[]∧v = .bool (x.folders.all (ZaI x.users))):=by
 have hfn:=hf.len
 letI:Go.ConcR.Payload:=⟨4⟩
 refine ZgZ 30 Tryz.func85 rfl rfl (Nat.le_of_ble_eq_true rfl) fun X kind c cs F T0 hk hke hA hn0 hT0=>?_
 let C0:Cx (pj J):=⟨X,fb 85 kind,c :: cs,F,hke⟩
 refine Zba (C:=C0) (L:=[]) (Ziz (C:=C0) (L:=[]) hn0 hT0 (xBx [_] (h:=fun b1=>xA (h:=?_))))
 intro T1 hn1 hT1
 refine ZkF (C:=C0) rfl 0 rfl fun B1 hle1 hm1=>?_
 have hc901:=ZbD hm1
 replace hc900:=hc900.mono hle1
 obtain ⟨hu,hf⟩:=up2 hle1 hu hf
 replace hA:=fun v B' Ls' h=>hA v B' Ls' (hle1.trans h)
 refine Zba (C:=C0) (L:=[[]]) (Ziz (C:=C0) (L:=[[]]) hn1 hT1 (y1 Zxk hc901 0 (h:=xNc (h:=xW Zay (h:=y1 ZeO hc900 2 (h:=xV Tryz.underlying24 (h:=Zk (Za2 (m:=x.folders.length) (c:=x.folders.length) (by_:=1) [.bool false] rfl rfl Zxx zo4 rfl rfl ⟨_,_,rfl,rfl⟩ ⟨_,_,rfl,rfl⟩ (Nat.le_refl _) oz (fun Cb=>?_)))))))))
 refine xAl [_] ZwN (h:=fun b2=>xS [_] 2 [_] Zxa (h:=?_))
 intro T2 hn2 hT2
 refine ZkF (C:=C0) rfl 2 rfl fun B2 hle2 hm2=>?_
 have hc903:=ZbD hm2
 replace hc900:=hc900.mono hle2
 obtain ⟨hu,hf⟩:=up2 hle2 hu hf
 replace hc901:=hc901.mono hle2
 replace hA:=fun v B' Ls' h=>hA v B' Ls' (hle2.trans h)
 refine Zba (C:=C0) (L:=[[],ZK Cb (zrow [.bool false] x.folders.length) 4,[]]) (ZaB (C:=C0) (L:=[[],ZK Cb (zrow [.bool false] x.folders.length) 4,[]]) (ZrD (C:=Cb) (n:=x.folders.length) (val:=ZqT x) (L₁:=F) (cells:=(zrow [.bool false] x.folders.length).toArray) (i:=0) (todo:=[]) hJ rfl hke ZwM rfl oz (by simp [Zb3]) (.refl _) (fun hmain Wg hW1 hW2=>?_)))
 let C1:Cx (.lone Tryz.prog):=⟨phL Tryz.prog 231 Wg Cb x.folders.length (ZqT x) X.R .a5 (0),fb 85 kind,c :: cs,F,hke⟩
 have hT3:=hT2.putT (n:=30) (dst:=some 4) hn2 rfl (ptr ⟨Wg,0,none⟩)
 have hn3:(putT T2 (some 4) (ptr ⟨Wg,0,none⟩)).size=30:=by rw [Zal,hn2]
 refine ZW (C:=C1) (L:=[]) (Zba (C:=C1) (L:=[]) (Zba (C:=C1) (L:=[]) (Ziz (C:=C1) (L:=[]) hn3 hT3 (y1 Zxk hc901 0 (h:=xNc (h:=xW Zay (h:=y1 ZeO hc900 2 (h:=xV Tryz.underlying24 (h:=xM (h:=?_))))))))))
 intro T4 hn4 hT4
 refine ZmZ (C:=C1) (L:=[]) (ZtR (nt:=30) (fun j=>[(1,ptr ⟨b1,0,none⟩),(3,ptr ⟨b2,0,none⟩),(4,ptr ⟨Wg,0,none⟩),(16,.slice q2 x.folders.length c2),(17,.int .i64 x.folders.length),(18,.int .i64 ((j:Nat):Int))]) (fun j hj B3 T5 hle3 hn5 hT5 hnext=>?_) hn4 (hT4.sub' t6))
 replace hc900:=hc900.mono hle3
 obtain ⟨hu,hf⟩:=up2 hle3 hu hf
 replace hc901:=hc901.mono hle3
 replace hc903:=hc903.mono hle3
 replace hA:=fun v B' Ls' h=>hA v B' Ls' (hle3.trans h)
 let C2:Cx (.lone Tryz.prog):=⟨phL Tryz.prog 231 Wg Cb x.folders.length (ZqT x) X.R .a5 (j),fb 85 kind,c :: cs,F,hke⟩
 refine Zba (C:=C2) (L:=[]) (Ziz (C:=C2) (L:=[]) hn5 hT5 (ZF (h:=?_)))
 intro T6 hn6 hT6
 refine Zba (C:=C2) (L:=[]) ?_
 rcases Nat.lt_or_ge j x.folders.length with hlt | hge
 refine Zgs (C:=C2) (L:=[]) (t:=true) (by exact congrArg (fun t=>some (Value.bool t)) (decide_eq_true oz)) hT6 ?_
 refine Zqu (C:=C2) (L:=[]) (Zba (C:=C2) (L:=[]) (ZmZ (C:=C2) (L:=[]) (Zba (C:=C2) (L:=[]) (Ziz (C:=C2) (L:=[]) hn6 hT6 (xM (h:=?_))))))
 obtain ⟨m,hm⟩:=ZY (xs:=x.folders) (i:=j) om
 obtain ⟨bb4,oo4,rfl⟩:=hf.base hm
 obtain ⟨_,⟨qg5,cg5,qm5,cm5,rfl,hg5,hm5,hb5,hb5b⟩,hc5⟩:=hf.elem hm
 have hg5n:=hg5.len
 have hm5n:=hm5.len
 have hm5s:=Zaq hm5
 refine xIx Tryz.underlying24 Zb0 (h:=yL [_,_,_,_,_] ZhZ hc5 0 (h:=xAl [_] zo3 (h:=fun b6=>xAl [_,_,_,_,_] Zf6 (h:=fun b7=>xS [_] 0 [_] sz3 (h:=xS [_,_,_,_,_] 1 [_,_,_,_,_] Zb0 (h:=?_))))))
 intro T7 hn7 hT7
 refine ZkF (C:=C2) rfl 0 rfl fun B4 hle4 hpm4=>?_
 have hc905:=ZbD hpm4
 refine ZkF (C:=C2) rfl 1 rfl fun B5 hle5 hpm5=>?_
 have hc906:=ZbD hpm5
 replace hc905:=hc905.mono hle5
 replace hc900:=hc900.mono (hle4.trans hle5)
 replace hu:=hu.mono Zs.mono (hle4.trans hle5)
 replace hc901:=hc901.mono (hle4.trans hle5)
 replace hc903:=hc903.mono (hle4.trans hle5)
 replace hg5:=hg5.mono Z5.mono (hle4.trans hle5)
 replace hm5:=hm5.mono Z6.mono (hle4.trans hle5)
 refine Zba (C:=C2) (L:=[[],[]]) (ZaB (C:=C2) (L:=[[],[]]) (ZvH (Lk:=wgL) (i:=0) (todo:=[]) ZkZ hlt rfl ZyL rfl rfl hT7 hke ?_))
 let C3:Cx (.lone Tryz.prog):=⟨phL Tryz.prog 231 Wg Cb x.folders.length (ZqT x) X.R .a2 (j),fb 85 kind,c :: cs,F,hke⟩
 have hT8:=hT7.putT (n:=30) (dst:=(some 23)) hn7 rfl (.tuple #[])
 have hn8:(putT T7 (some 23) (.tuple #[])).size=30:=by rw [Zal,hn7]
 refine ZW (C:=C3) (L:=[]) (ZaB (C:=C3) (L:=[]) (Zb2 (C:=C3) (L:=[]) (i:=0) (todo:=[1]) rfl hn8 hT8 (Zk (Zdy (xs:=[]) (ys:=[.tmp 4,.tmp 1,.tmp 6,.tmp 3,.tmp 5]) rfl rfl rfl rfl ?_))))
 intro T9 hn9 hT9
 refine Zxg (i:=1) (todo:=[]) rfl rfl hT9 hke Tryz.func146 rfl rfl (by rw [Zmn hm];exact Zja Wg Cb x.folders.length j b o b1 b2 b6 b7 _ _ _ _ _ _ x m _ _ _ _ hlt B5 hc900 hu hc901 hc903 hc905 hc906 hg5 hm5 hb5 hb5b) ?_
 let C4:Cx (.lone Tryz.prog):=⟨phL Tryz.prog 231 Wg Cb x.folders.length (ZqT x) X.R .a5 (j+1),fb 85 kind,c :: cs,F,hke⟩
 refine ZW (C:=C4) (L:=[]) (Zn0 (C:=C4) (L:=[]) ?_)
 have hn10:=hn9
 have hT10:=hT9
 refine Ziz (C:=C4) (L:=[]) hn10 hT10 (xD (h:=xM (h:=?_)))
 intro T11 hn11 hT11
 exact hnext hlt _ _ (hle4.trans hle5) hn11 (hT11.sub' t6)
 obtain rfl:j=x.folders.length:=by omega
 refine Zgs (C:=C2) (L:=[]) (t:=false) (by exact congrArg (fun t=>some (Value.bool t)) (decide_eq_false oz)) hT6 ?_
 refine ZuO (C:=C2) (L:=[]) (by rfl) ?_
 refine Zba (C:=C2) (L:=[]) (ZaB (C:=C2) (L:=[]) (ZtQ (Lk:=wgL) (X:=X) (i:=0) (todo:=[]) ZkZ oz rfl ZyJ rfl hT6 hke (fun _ _ _ h=>h) ?_))
 have hT7:=hT6.putT (n:=30) (dst:=(some 26)) hn6 rfl (.tuple #[])
 have hn7:(putT T6 (some 26) (.tuple #[])).size=30:=by rw [Zal,hn6]
 refine ZW (C:=C0) (L:=[[(Cb,Obj.cells ((List.range x.folders.length).map (ZqT x)).toArray 4 (0,0))]]) (ZkF (C:=C0) (L:=[[(Cb,Obj.cells ((List.range x.folders.length).map (ZqT x)).toArray 4 (0,0))]]) rfl 0 rfl fun B4 hle4 hm4=>?_)
 have hvb:=Zou hm4 hfn
 replace hc903:=hc903.mono hle4
 replace hA:=fun v B' Ls' h=>hA v B' Ls' (hle4.trans h)
 refine Zuv Tryz.func85 rfl hk hke hn7 hT7 hA ?_
 rw [show (x.folders.length:Nat)=(x.folders.map (ZaI x.users)).length from (List.length_map ..).symm] at hc903
 refine Za (y1 ZvR hc903 0 (h:=xR ZyI rfl (Zl8 _ _ _ _ _ hvb) (h:=xN (h:=xA (h:=tL1 (Ze ?_))))))
 exact eR t1 ⟨rfl,congrArg Value.bool Zjs⟩

theorem ZlN (hJ:Joins Tryz.prog J) (q1 q2 q3:Option Addr) (c1 c2 c3:Nat) (x:DHost) (hd:x.domain.length≤2000000) (B:Kn) (hu:SlK B q1 c1 3 Zs x.users) (hf:SlK B q2 c2 5 Zu x.folders) (hi:SlK B q3 c3 4 ZI x.queue.items):Zv (pj J) 37 [.agg #[str x.domain,.slice q1 x.users.length c1,.slice q2 x.folders.length c2,.int .i64 x.queue.next,.slice q3 x.queue.items.length c3]] B [] (fun v B' Ls=>Ls=[]∧v = .bool (Z9 x)):=by
 refine cB 63 Tryz.func37 (h:=?_)
 rw [← ZnM]
 have hfn:=hf.len
 have hun:=hu.len
 have hin:=hi.len
 refine Za (xBx [_,_,_,_,_] (h:=fun b1=>xA (h:=tL1 (Zoi 0 rfl (fun B2 hle2 hpm2=>?_)))))
 have hc2:=ZbD hpm2
 obtain ⟨hu,hf,hi⟩:=up3 hle2 hu hf hi
 refine Zc (Za (xW ZhF (h:=y1 lk9 hc2 0 (h:=xR Zz3 rfl (Zko _ om2 _) (h:=?_)))))
 refine xN (h:=xM (h:=Zy (d:=10) rfl (fun g1=>?_) (fun g1=>?_)))
 try simp only [sQ,ne_eq] at g1
 refine xP (h:=xP (h:=xP (h:=xP (h:=xT (h:=xM (h:=xP (h:=xP (h:=xP (h:=xP (h:=xT (h:=xM (h:=xP (h:=xP (h:=xP (h:=xP (h:=xT (h:=tL1 (Zb (t:=true) rfl (fun _=>Za (xA (h:=Ze (Zn ?_)))) (fun h=>Bool.noConfusion h)))))))))))))))))))
 exact eR t1 ⟨rfl,Zd (by simp [Zc7,g1])⟩
 try simp only [sQ,ne_eq] at g1
 refine xW ZbZ (h:=y1 ZiW hc2 1 (h:=xR Zzv rfl (Zhv _ _ _ _ hu) (h:=xN (h:=xF (h:=xM (h:=Zy (d:=16) rfl (fun g2=>?_) (fun g2=>?_)))))))
 try simp only [sQ,ne_eq] at g2
 refine xP (h:=xP (h:=xP (h:=xP (h:=xT (h:=xM (h:=xP (h:=xP (h:=xP (h:=xP (h:=xT (h:=tL1 (Zb (t:=true) rfl (fun _=>Za (xA (h:=Ze (Zn ?_)))) (fun h=>Bool.noConfusion h)))))))))))))
 exact eR t1 ⟨rfl,Zd (by simp [Zc7,g1,g2])⟩
 try simp only [sQ,ne_eq] at g2
 refine xW Zeh (h:=yL [_,_] ZkX hc2 3 (h:=xR Zz2 rfl (ZlL _ _ x.queue _ hi) (h:=xN (h:=xF (h:=xM (h:=Zy (d:=22) rfl (fun g3=>?_) (fun g3=>?_)))))))
 try simp only [sQ,ne_eq] at g3
 refine xP (h:=xP (h:=xP (h:=xP (h:=xT (h:=tL1 (Zb (t:=true) rfl (fun _=>Za (xA (h:=Ze (Zn ?_)))) (fun h=>Bool.noConfusion h)))))))
 exact eR t1 ⟨rfl,Zd (by simp [Zc7,g1,g2,g3])⟩
 try simp only [sQ,ne_eq] at g3
 refine xW Zay (h:=y1 ZeO hc2 2 (h:=xV Tryz.underlying24 (h:=Zfi (h:=xF (h:=tL1 (Zb rfl (fun g4=>?_) (fun g4=>?_)))))))
 try simp only [sQ,ne_eq] at g4
 refine Za (xA (h:=Ze (Zn ?_)))
 exact eR t1 ⟨rfl,Zd (by simp [Zc7];intros;omega)⟩
 try simp only [sQ,ne_eq] at g4
 refine wSk (Zc (Za (xW Zay (h:=y1 ZeO hc2 2 (h:=xW Zay (h:=y1 ZeO hc2 2 (h:=xV Tryz.underlying24 (h:=xU (h:=Zk (ZwW (m:=(x.folders.length - 1)) rfl rfl rfl rfl om ?_))))))))))
 have hsl:((x.folders.take (x.folders.length - 1)).drop 0).length=x.folders.length - 1:=by simp
 obtain ⟨hq6,q6,cp6,hv6,hr6⟩:=hf.cutE 0 (x.folders.length - 1) om om
 have hr6n:=hr6.len
 refine Zk (Zoq (a:=0) (b:=(x.folders.length - 1)) hv6 om hq6 rfl rfl Tryz.underlying24 Zb0 rfl rfl ⟨_,_,rfl,by first | omega | (simp;done) | (simp;omega)⟩ ?_)
 refine xV Tryz.underlying24 (h:=xM (h:=Zh (Zz (α:=Nat) [0,1,27,35,36] (fun k=>[(37,.int .i64 k)]) [] (fun k=>[]) (fun k Bx=>Bx=B2∧k≤x.folders.length - 1∧ZsK x.folders k) (fun k=>x.folders.length - k) 0 t1 rfl (⟨rfl,Nat.zero_le _,Zns⟩) (fun k B7 hle7 hI=>?_))))
 obtain ⟨rfl,hk,hord⟩:=hI
 refine ZC [(0,_),(1,_),(27,_),(35,_),(36,_),(37,_)] [_] t6 rfl (Za (ZF (h:=Zc (Zb rfl (fun g5=>?_) (fun g5=>?_)))))
 try simp only [sQ,ne_eq] at g5
 refine wSk (Zc (Zh (Za (xM (h:=?_)))))
 obtain ⟨fa,hfa⟩:=ZY (xs:=((x.folders.take (x.folders.length - 1)).drop 0)) (i:=k) om
 obtain ⟨bb9,oo9,rfl⟩:=hr6.base hfa
 obtain ⟨_,⟨qg10,cg10,qm10,cm10,rfl,hg10,hm10,hb10,hb10b⟩,hc10⟩:=hr6.elem hfa
 have hg10n:=hg10.len
 have hm10n:=hm10.len
 have hm10s:=Zaq hm10
 refine xIx Tryz.underlying24 Zb0 (h:=?_)
 have hfa0:x.folders[k]? = some fa:=by rw [List.drop_zero,List.getElem?_take] at hfa;split at hfa <;> simp_all
 refine yL [_,_,_,_,_] ZhZ hc10 0 (h:=xAl [_,_,_,_,_] Zf6 (h:=fun b11=>xA (h:=xS [_,_,_,_,_] 1 [_,_,_,_,_] Zb0 (h:=tL2 (Za (xW Zay (h:=y1 ZeO hc2 2 (h:=xM (h:=xD (h:=?_))))))))))
 obtain ⟨fb,hfb⟩:=ZY (xs:=x.folders) (i:=(k+1)) om
 obtain ⟨bb13,oo13,rfl⟩:=hf.base hfb
 obtain ⟨_,⟨qg14,cg14,qm14,cm14,rfl,hg14,hm14,hb14,hb14b⟩,hc14⟩:=hf.elem hfb
 have hg14n:=hg14.len
 have hm14n:=hm14.len
 have hm14s:=Zaq hm14
 refine xIx Tryz.underlying24 Zb0 (h:=yL [_,_,_,_,_] ZhZ hc14 0 (h:=xAl [_,_,_,_,_] Zf6 (h:=fun b15=>xS [_,_,_,_,_] 2 [_,_,_,_,_] Zb0 (h:=tL3 (Za (xL [_,_,_,_,_] ZhZ 1 (h:=xW Zcc (h:=x1 lk9 2 (h:=xW ZdJ (h:=x1 lk9 2 (h:=xR Zz1 rfl (ZlX fa _ _ _ _ fb.owner fb.name _) (h:=Zek (h:=Zb rfl (fun g6=>?_) (fun g6=>?_))))))))))))))
 try simp only [sQ,ne_eq] at g6
 refine Za (xA (h:=Ze (ZB (Zn (ZS (ZB (Zn ?_)))))))
 exact eR t1 ⟨rfl,Zd (by simp [Zc7,ZrI hfa0 hfb ((ZkH fa fb).1 g6)])⟩
 try simp only [sQ,ne_eq] at g6
 refine ZX (ZP (Zo (Zf (xD (h:=xM (h:=?_))))))
 exact ZD (k+1) [0] so2 ⟨rfl,oz,Znt hord hfa0 hfb (by rw [← Bool.not_eq_false,← ZkH];omega)⟩ t6 rfl
 try simp only [sQ,ne_eq] at g5
 have ho:=ZrH (fs:=x.folders) (fun i a b h=>hord i a b oz)
 refine ZE (ZV (ZH (Zw (Zo (Za (xQ Zz0 rfl (Zh4 hJ _ _ _ _ _ _ _ _ x _ hc2 hu hf) (h:=?_)))))))
 intro v17 B17 hle17
 rintro rfl
 obtain ⟨hu,hf,hi⟩:=up3 hle17 hu hf hi
 replace hc2:=hc2.mono hle17
 refine xM (h:=Zy (d:=57) rfl (fun g7=>?_) (fun g7=>?_))
 try simp only [sQ,ne_eq] at g7
 refine xR ZzZ rfl (Znb _ _ _ _ _ _ _ _ x _ hc2 hu hf) (h:=xT (h:=xM (h:=Zy (d:=60) rfl (fun g8=>?_) (fun g8=>?_))))
 try simp only [sQ,ne_eq] at g8
 refine xR ZzY rfl (Zlo _ _ _ _ _ _ _ _ x _ hc2 hu hi) (h:=xT (h:=xA (h:=Ze ?_)))
 exact eR t1 ⟨rfl,Zd (by simp [Zc7,g1,g2,g3,ho,g7,g8];try omega)⟩
 try simp only [sQ,ne_eq] at g8
 refine xP (h:=xF (h:=xA (h:=Ze ?_)))
 exact eR t1 ⟨rfl,Zd (by simp [Zc7,g1,g2,g3,ho,g7,g8];try omega)⟩
 try simp only [sQ,ne_eq] at g7
 refine xP (h:=xF (h:=xM (h:=xP (h:=xF (h:=xA (h:=Ze ?_))))))
 exact eR t1 ⟨rfl,Zd (by simp [Zc7,g7])⟩

theorem Zrn (x:DUser) (h1:x.name.length≤140737488355328) (h2:x.pass.length≤140737488355328) (left:Int) (hl0:0≤left) (hl1:left≤1048576) (B:Kn)  : Zaa (pj J) 103 [.agg #[str x.name,str x.pass,.int .i64 x.quota],.int .i64 left] B (.int .i64 (szI left (Zc0 x))):=by
 refine cB 20 Tryz.func103 (h:=?_)
 refine Za (xBx [_,_,_] (h:=fun b1=>xA (h:=tL1 (Za (xM (h:=xW Zp3 (h:=x1 lk9 0 (h:=xVs Tryz.underlying9 (h:=xU (h:=xA (h:=Zc (Za (xM (h:=ZF (h:=Zb rfl (fun g1=>?_) (fun g1=>?_))))))))))))))))
 try simp only [sQ,ne_eq] at g1
 refine Za (xA (h:=Ze (Zn ?_)))
 exact eR t1 ⟨ZG (by first | (unfold szI Zc0;split <;> omega)),rfl,rfl⟩
 try simp only [sQ,ne_eq] at g1
 refine wSk (Za (xM (h:=xW Zp2 (h:=x1 lk9 0 (h:=xVs Tryz.underlying9 (h:=xU (h:=xA (h:=Zc (Za (xM (h:=ZF (h:=Zb rfl (fun g2=>?_) (fun g2=>?_)))))))))))))
 try simp only [sQ,ne_eq] at g2
 refine Za (xA (h:=Ze (Zn ?_)))
 exact eR t1 ⟨ZG (by first | (unfold szI Zc0;split <;> omega)),rfl,rfl⟩
 try simp only [sQ,ne_eq] at g2
 refine wSk (Za (xM (h:=xA (h:=Ze ?_))))
 exact eR t1 ⟨ZG (by first | (unfold szI Zc0;split <;> omega)),rfl,rfl⟩

theorem ZoK (x:DGrant) (h1:x.user.length≤140737488355328) (left:Int) (hl0:0≤left) (hl1:left≤1048576) (B:Kn)  : Zaa (pj J) 230 [.agg #[str x.user,.int .i64 x.rights],.int .i64 left] B (.int .i64 (szI left (Zcn x))):=by
 refine cB 13 Tryz.func230 (h:=?_)
 refine Za (xBx [_,_] (h:=fun b1=>xA (h:=tL1 (Za (xM (h:=xW ZpQ (h:=x1 lk9 0 (h:=xVs Tryz.underlying9 (h:=xU (h:=xA (h:=Zc (Za (xM (h:=ZF (h:=Zb rfl (fun g1=>?_) (fun g1=>?_))))))))))))))))
 try simp only [sQ,ne_eq] at g1
 refine Za (xA (h:=Ze (Zn ?_)))
 exact eR t1 ⟨ZG (by first | (unfold szI Zcn;split <;> omega)),rfl,rfl⟩
 try simp only [sQ,ne_eq] at g1
 refine wSk (Za (xM (h:=xA (h:=Ze ?_))))
 exact eR t1 ⟨ZG (by first | (unfold szI Zcn;split <;> omega)),rfl,rfl⟩

theorem Zrp (x:DMail) (h1:x.text.length≤140737488355328) (left:Int) (hl0:0≤left) (hl1:left≤1048576) (B:Kn)  : Zaa (pj J) 271 [.agg #[.int .i64 x.uid,.int .i64 x.flags,str x.text],.int .i64 left] B (.int .i64 (szI left (Zdl x))):=by
 refine cB 13 Tryz.func271 (h:=?_)
 refine Za (xBx [_,_,_] (h:=fun b1=>xA (h:=tL1 (Za (xM (h:=xW ZpN (h:=x1 lk9 0 (h:=xVs Tryz.underlying9 (h:=xU (h:=xA (h:=Zc (Za (xM (h:=ZF (h:=Zb rfl (fun g1=>?_) (fun g1=>?_))))))))))))))))
 try simp only [sQ,ne_eq] at g1
 refine Za (xA (h:=Ze (Zn ?_)))
 exact eR t1 ⟨ZG (by first | (unfold szI Zdl;split <;> omega)),rfl,rfl⟩
 try simp only [sQ,ne_eq] at g1
 refine wSk (Za (xM (h:=xA (h:=Ze ?_))))
 exact eR t1 ⟨ZG (by first | (unfold szI Zdl;split <;> omega)),rfl,rfl⟩

theorem Zro (q:Option Addr) (cp:Nat) (xs:List Str) (left:Int) (hl0:0≤left) (hl1:left≤1048576) (B:Kn) (hx:SlB B q cp 1 ZiE xs):Zaa (pj J) 232 [.slice q xs.length cp,.int .i64 left] B (.int .i64 (szI left (szL List.length xs))):=by
 refine cB 28 Tryz.func232 (h:=?_)
 have hxn:=hx.len
 refine Za (xA (h:=Za (xM (h:=xM (h:=xV Tryz.underlying143 (h:=xU (h:=xA (h:=Zc (Za (xM (h:=ZF (h:=Zb rfl (fun g1=>?_) (fun g1=>?_)))))))))))))
 try simp only [sQ,ne_eq] at g1
 refine Za (xA (h:=Ze (Zn ?_)))
 exact eR t1 ⟨ZG (Zgc oz).symm,rfl,rfl⟩
 try simp only [sQ,ne_eq] at g1
 refine ZX ?_
 refine Zo ?_
 refine Zc ?_
 refine Za ?_
 refine Zk (Zbp rfl rfl rfl ?_)
 refine Zh ?_
 refine Zz (α:=Nat × Int) [0,11] (fun g=>[(1,.int .i64 g.2),(5,.int .i64 g.1)]) [] (fun g=>[]) (fun g Bx=>Bx=B∧g.1≤xs.length∧g.2=left - xs.length - ((xs.take g.1).map List.length).sum∧0≤g.2) (fun g=>xs.length - g.1) (0,left - ↑xs.length) ⟨rfl,rfl,trivial⟩ rfl (⟨rfl,Nat.zero_le _,by simp,g1⟩) (fun g B1 hle1 hI=>?_)
 obtain ⟨rfl,hk,hs,hl⟩:=hI
 refine ZC [(0,_),(1,_),(5,_),(11,_)] [] t4 rfl (Zc (Za (xM (h:=xM (h:=xV Tryz.underlying143 (h:=ZF (h:=Zb rfl (fun g2=>?_) (fun g2=>?_))))))))
 try simp only [sQ,ne_eq] at g2
 refine wSk (Zc (Zh (Za (xM (h:=xM (h:=xM (h:=?_)))))))
 obtain ⟨z,hz⟩:=ZY (xs:=xs) (i:=g.1) om
 obtain ⟨bb3,oo3,rfl⟩:=hx.base hz
 obtain ⟨_,⟨rfl,hb4⟩,hc4⟩:=hx.elem hz
 refine xIx Tryz.underlying143 sz9 (h:=y1 lk9 hc4 0 (h:=xVs Tryz.underlying9 (h:=xU (h:=xA (h:=Za (xM (h:=ZF (h:=Zb rfl (fun g3=>?_) (fun g3=>?_)))))))))
 try simp only [sQ,ne_eq] at g3
 refine Za (xA (h:=Ze (ZB (Zn (ZS (ZB (Zn ?_)))))))
 exact eR t1 ⟨ZG (Zga hz hs oz).symm,rfl,rfl⟩
 try simp only [sQ,ne_eq] at g3
 refine ZX (ZP (Zo (Zf (xM (h:=xD (h:=xA (h:=?_)))))))
 exact ZD (g.1+1,g.2 - z.length) [] so2 ⟨rfl,so,by rw [ZdX _ hz,hs];omega,g3⟩ t4 rfl
 try simp only [sQ,ne_eq] at g2
 refine ZE (ZV (ZH (Zw (Zo (Za (xM (h:=xA (h:=Ze ?_))))))))
 exact eR t1 ⟨ZG (Zgb hs hl oz).symm,rfl,rfl⟩

theorem ZoG (q:Option Addr) (cp:Nat) (xs:List DUser) (left:Int) (hl0:0≤left) (hl1:left≤1048576) (B:Kn) (hx:SlB B q cp 3 ZkV xs):Zaa (pj J) 47 [.slice q xs.length cp,.int .i64 left] B (.int .i64 (szI left (szL Zc0 xs))):=by
 refine cB 27 Tryz.func47 (h:=?_)
 have hxn:=hx.len
 refine Za (xA (h:=Za (xM (h:=xM (h:=xV Tryz.underlying43 (h:=xU (h:=xA (h:=Zc (Za (xM (h:=ZF (h:=Zb rfl (fun g1=>?_) (fun g1=>?_)))))))))))))
 try simp only [sQ,ne_eq] at g1
 refine Za (xA (h:=Ze (Zn ?_)))
 exact eR t1 ⟨ZG (Zgc oz).symm,rfl,rfl⟩
 try simp only [sQ,ne_eq] at g1
 refine ZX ?_
 refine Zo ?_
 refine Zc ?_
 refine Za ?_
 refine Zk (Zbp rfl rfl rfl ?_)
 refine Zh ?_
 refine Zz (α:=Nat × Int) [0,11] (fun g=>[(1,.int .i64 g.2),(5,.int .i64 g.1)]) [] (fun g=>[]) (fun g Bx=>Bx=B∧g.1≤xs.length∧g.2=left - xs.length - ((xs.take g.1).map Zc0).sum∧0≤g.2) (fun g=>xs.length - g.1) (0,left - ↑xs.length) ⟨rfl,rfl,trivial⟩ rfl (⟨rfl,Nat.zero_le _,by simp,g1⟩) (fun g B1 hle1 hI=>?_)
 obtain ⟨rfl,hk,hs,hl⟩:=hI
 refine ZC [(0,_),(1,_),(5,_),(11,_)] [] t4 rfl (Zc (Za (xM (h:=xM (h:=xV Tryz.underlying43 (h:=ZF (h:=Zb rfl (fun g2=>?_) (fun g2=>?_))))))))
 try simp only [sQ,ne_eq] at g2
 refine wSk (Zc (Zh (Za (xM (h:=xM (h:=?_))))))
 obtain ⟨z,hz⟩:=ZY (xs:=xs) (i:=g.1) om
 obtain ⟨bb3,oo3,rfl⟩:=hx.base hz
 obtain ⟨_,⟨rfl,hb4,hb4b⟩,hc4⟩:=hx.elem hz
 refine xIx Tryz.underlying43 ZvB (h:=yL [_,_,_] ZvW hc4 0 (h:=xM (h:=xR Zy9 rfl (Zrn z om om g.2 om om _) (h:=?_))))
 refine xA (h:=Za (xM (h:=ZF (h:=Zb rfl (fun g3=>?_) (fun g3=>?_)))))
 try simp only [sQ,ne_eq] at g3
 refine Za (xA (h:=Ze (ZB (Zn (ZS (ZB (Zn ?_)))))))
 exact eR t1 ⟨ZG (Zga hz hs ((Zcl hl).1 g3)).symm,rfl,rfl⟩
 try simp only [sQ,ne_eq] at g3
 refine ZX (ZP (Zo (Zf (xM (h:=xD (h:=xA (h:=?_)))))))
 exact ZD (g.1+1,szI g.2 (Zc0 z)) [] so2 ⟨rfl,so,by have:=(Zcm hl g3).1;rw [ZdX _ hz];simp only [];omega,g3⟩ t4 rfl
 try simp only [sQ,ne_eq] at g2
 refine ZE (ZV (ZH (Zw (Zo (Za (xM (h:=xA (h:=Ze ?_))))))))
 exact eR t1 ⟨ZG (Zgb hs hl oz).symm,rfl,rfl⟩

theorem Znf (q:Option Addr) (cp:Nat) (xs:List DGrant) (left:Int) (hl0:0≤left) (hl1:left≤1048576) (B:Kn) (hx:SlB B q cp 2 ZhY xs):Zaa (pj J) 169 [.slice q xs.length cp,.int .i64 left] B (.int .i64 (szI left (szL Zcn xs))):=by
 refine cB 27 Tryz.func169 (h:=?_)
 have hxn:=hx.len
 refine Za (xA (h:=Za (xM (h:=xM (h:=xV Tryz.underlying170 (h:=xU (h:=xA (h:=Zc (Za (xM (h:=ZF (h:=Zb rfl (fun g1=>?_) (fun g1=>?_)))))))))))))
 try simp only [sQ,ne_eq] at g1
 refine Za (xA (h:=Ze (Zn ?_)))
 exact eR t1 ⟨ZG (Zgc oz).symm,rfl,rfl⟩
 try simp only [sQ,ne_eq] at g1
 refine ZX ?_
 refine Zo ?_
 refine Zc ?_
 refine Za ?_
 refine Zk (Zbp rfl rfl rfl ?_)
 refine Zh ?_
 refine Zz (α:=Nat × Int) [0,11] (fun g=>[(1,.int .i64 g.2),(5,.int .i64 g.1)]) [] (fun g=>[]) (fun g Bx=>Bx=B∧g.1≤xs.length∧g.2=left - xs.length - ((xs.take g.1).map Zcn).sum∧0≤g.2) (fun g=>xs.length - g.1) (0,left - ↑xs.length) ⟨rfl,rfl,trivial⟩ rfl (⟨rfl,Nat.zero_le _,by simp,g1⟩) (fun g B1 hle1 hI=>?_)
 obtain ⟨rfl,hk,hs,hl⟩:=hI
 refine ZC [(0,_),(1,_),(5,_),(11,_)] [] t4 rfl (Zc (Za (xM (h:=xM (h:=xV Tryz.underlying170 (h:=ZF (h:=Zb rfl (fun g2=>?_) (fun g2=>?_))))))))
 try simp only [sQ,ne_eq] at g2
 refine wSk (Zc (Zh (Za (xM (h:=xM (h:=?_))))))
 obtain ⟨z,hz⟩:=ZY (xs:=xs) (i:=g.1) om
 obtain ⟨bb3,oo3,rfl⟩:=hx.base hz
 obtain ⟨_,⟨rfl,hb4⟩,hc4⟩:=hx.elem hz
 refine xIx Tryz.underlying170 Zvw (h:=yL [_,_] ZvP hc4 0 (h:=xM (h:=xR Zx2 rfl (ZoK z om g.2 om om _) (h:=?_))))
 refine xA (h:=Za (xM (h:=ZF (h:=Zb rfl (fun g3=>?_) (fun g3=>?_)))))
 try simp only [sQ,ne_eq] at g3
 refine Za (xA (h:=Ze (ZB (Zn (ZS (ZB (Zn ?_)))))))
 exact eR t1 ⟨ZG (Zga hz hs ((Zcl hl).1 g3)).symm,rfl,rfl⟩
 try simp only [sQ,ne_eq] at g3
 refine ZX (ZP (Zo (Zf (xM (h:=xD (h:=xA (h:=?_)))))))
 exact ZD (g.1+1,szI g.2 (Zcn z)) [] so2 ⟨rfl,so,by have:=(Zcm hl g3).1;rw [ZdX _ hz];simp only [];omega,g3⟩ t4 rfl
 try simp only [sQ,ne_eq] at g2
 refine ZE (ZV (ZH (Zw (Zo (Za (xM (h:=xA (h:=Ze ?_))))))))
 exact eR t1 ⟨ZG (Zgb hs hl oz).symm,rfl,rfl⟩

theorem ZoI (q:Option Addr) (cp:Nat) (xs:List DMail) (left:Int) (hl0:0≤left) (hl1:left≤1048576) (B:Kn) (hx:SlB B q cp 3 Zh6 xs):Zaa (pj J) 231 [.slice q xs.length cp,.int .i64 left] B (.int .i64 (szI left (szL Zdl xs))):=by
 refine cB 27 Tryz.func231 (h:=?_)
 have hxn:=hx.len
 refine Za (xA (h:=Za (xM (h:=xM (h:=xV Tryz.underlying171 (h:=xU (h:=xA (h:=Zc (Za (xM (h:=ZF (h:=Zb rfl (fun g1=>?_) (fun g1=>?_)))))))))))))
 try simp only [sQ,ne_eq] at g1
 refine Za (xA (h:=Ze (Zn ?_)))
 exact eR t1 ⟨ZG (Zgc oz).symm,rfl,rfl⟩
 try simp only [sQ,ne_eq] at g1
 refine ZX ?_
 refine Zo ?_
 refine Zc ?_
 refine Za ?_
 refine Zk (Zbp rfl rfl rfl ?_)
 refine Zh ?_
 refine Zz (α:=Nat × Int) [0,11] (fun g=>[(1,.int .i64 g.2),(5,.int .i64 g.1)]) [] (fun g=>[]) (fun g Bx=>Bx=B∧g.1≤xs.length∧g.2=left - xs.length - ((xs.take g.1).map Zdl).sum∧0≤g.2) (fun g=>xs.length - g.1) (0,left - ↑xs.length) ⟨rfl,rfl,trivial⟩ rfl (⟨rfl,Nat.zero_le _,by simp,g1⟩) (fun g B1 hle1 hI=>?_)
 obtain ⟨rfl,hk,hs,hl⟩:=hI
 refine ZC [(0,_),(1,_),(5,_),(11,_)] [] t4 rfl (Zc (Za (xM (h:=xM (h:=xV Tryz.underlying171 (h:=ZF (h:=Zb rfl (fun g2=>?_) (fun g2=>?_))))))))
 try simp only [sQ,ne_eq] at g2
 refine wSk (Zc (Zh (Za (xM (h:=xM (h:=?_))))))
 obtain ⟨z,hz⟩:=ZY (xs:=xs) (i:=g.1) om
 obtain ⟨bb3,oo3,rfl⟩:=hx.base hz
 obtain ⟨_,⟨rfl,hb4⟩,hc4⟩:=hx.elem hz
 refine xIx Tryz.underlying171 Zvv (h:=yL [_,_,_] ZvO hc4 0 (h:=xM (h:=xR ZxG rfl (Zrp z om g.2 om om _) (h:=?_))))
 refine xA (h:=Za (xM (h:=ZF (h:=Zb rfl (fun g3=>?_) (fun g3=>?_)))))
 try simp only [sQ,ne_eq] at g3
 refine Za (xA (h:=Ze (ZB (Zn (ZS (ZB (Zn ?_)))))))
 exact eR t1 ⟨ZG (Zga hz hs ((Zcl hl).1 g3)).symm,rfl,rfl⟩
 try simp only [sQ,ne_eq] at g3
 refine ZX (ZP (Zo (Zf (xM (h:=xD (h:=xA (h:=?_)))))))
 exact ZD (g.1+1,szI g.2 (Zdl z)) [] so2 ⟨rfl,so,by have:=(Zcm hl g3).1;rw [ZdX _ hz];simp only [];omega,g3⟩ t4 rfl
 try simp only [sQ,ne_eq] at g2
 refine ZE (ZV (ZH (Zw (Zo (Za (xM (h:=xA (h:=Ze ?_))))))))
 exact eR t1 ⟨ZG (Zgb hs hl oz).symm,rfl,rfl⟩

theorem Zrq (q:Option Addr) (cp:Nat) (x:DItem) (h1:x.fr.length≤140737488355328) (h2:x.text.length≤140737488355328) (left:Int) (hl0:0≤left) (hl1:left≤1048576) (B:Kn) (hx:SlB B q cp 1 ZiE x.left):Zaa (pj J) 171 [.agg #[.int .i64 x.id,str x.fr,str x.text,.slice q x.left.length cp],.int .i64 left] B (.int .i64 (szI left (ZbA x))):=by
 refine cB 26 Tryz.func171 (h:=?_)
 have hxn:=hx.len
 refine Za (xBx [_,_,_,_] (h:=fun b1=>xA (h:=tL1 (Za (xM (h:=xW ZpT (h:=x1 lk9 0 (h:=xVs Tryz.underlying9 (h:=xU (h:=xA (h:=Zc (Za (xM (h:=ZF (h:=Zb rfl (fun g1=>?_) (fun g1=>?_))))))))))))))))
 try simp only [sQ,ne_eq] at g1
 refine Za (xA (h:=Ze (Zn ?_)))
 exact eR t1 ⟨ZG (by rw [ZbM (by unfold ZbA;omega)]),rfl,rfl⟩
 try simp only [sQ,ne_eq] at g1
 refine wSk (Za (xM (h:=xW ZpS (h:=x1 lk9 0 (h:=xVs Tryz.underlying9 (h:=xU (h:=xA (h:=Zc (Za (xM (h:=ZF (h:=Zb rfl (fun g2=>?_) (fun g2=>?_)))))))))))))
 try simp only [sQ,ne_eq] at g2
 refine Za (xA (h:=Ze (Zn ?_)))
 exact eR t1 ⟨ZG (by rw [ZbM (by unfold ZbA;omega)]),rfl,rfl⟩
 try simp only [sQ,ne_eq] at g2
 refine wSk (Za (xW ZpR (h:=x1 Zft 0 (h:=xM (h:=?_)))))
 have hq2:=Zro (J:=J) _ _ x.left ((left - ↑x.fr.length) - ↑x.text.length) om om _ hx
 refine xR Zx0 rfl hq2 (h:=xA (h:=Zc (Za (xM (h:=ZF (h:=Zb rfl (fun g3=>?_) (fun g3=>?_)))))))
 try simp only [sQ,ne_eq] at g3
 have g3x:=(Zcl oz).1 g3
 refine Za (xA (h:=Ze (Zn ?_)))
 exact eR t1 ⟨ZG (by rw [ZbM (by unfold ZbA Ze9;omega)]),rfl,rfl⟩
 try simp only [sQ,ne_eq] at g3
 have g3x:=Zcm oz g3
 refine wSk (Za (xM (h:=xA (h:=Ze ?_))))
 exact eR t1 ⟨ZG (by (try dsimp only at *);rw [Zmq (left:=left) (s:=ZbA x) (by unfold ZbA Ze9;omega)];unfold ZbA Ze9;omega),rfl,rfl⟩

theorem ZoJ (q:Option Addr) (cp:Nat) (xs:List DItem) (left:Int) (hl0:0≤left) (hl1:left≤1048576) (B:Kn) (hx:SlB B q cp 4 ZhX xs):Zaa (pj J) 105 [.slice q xs.length cp,.int .i64 left] B (.int .i64 (szI left (szL ZbA xs))):=by
 refine cB 27 Tryz.func105 (h:=?_)
 have hxn:=hx.len
 refine Za (xA (h:=Za (xM (h:=xM (h:=xV Tryz.underlying45 (h:=xU (h:=xA (h:=Zc (Za (xM (h:=ZF (h:=Zb rfl (fun g1=>?_) (fun g1=>?_)))))))))))))
 try simp only [sQ,ne_eq] at g1
 refine Za (xA (h:=Ze (Zn ?_)))
 exact eR t1 ⟨ZG (Zgc oz).symm,rfl,rfl⟩
 try simp only [sQ,ne_eq] at g1
 refine ZX ?_
 refine Zo ?_
 refine Zc ?_
 refine Za ?_
 refine Zk (Zbp rfl rfl rfl ?_)
 refine Zh ?_
 refine Zz (α:=Nat × Int) [0,11] (fun g=>[(1,.int .i64 g.2),(5,.int .i64 g.1)]) [] (fun g=>[]) (fun g Bx=>Bx=B∧g.1≤xs.length∧g.2=left - xs.length - ((xs.take g.1).map ZbA).sum∧0≤g.2) (fun g=>xs.length - g.1) (0,left - ↑xs.length) ⟨rfl,rfl,trivial⟩ rfl (⟨rfl,Nat.zero_le _,by simp,g1⟩) (fun g B1 hle1 hI=>?_)
 obtain ⟨rfl,hk,hs,hl⟩:=hI
 refine ZC [(0,_),(1,_),(5,_),(11,_)] [] t4 rfl (Zc (Za (xM (h:=xM (h:=xV Tryz.underlying45 (h:=ZF (h:=Zb rfl (fun g2=>?_) (fun g2=>?_))))))))
 try simp only [sQ,ne_eq] at g2
 refine wSk (Zc (Zh (Za (xM (h:=xM (h:=?_))))))
 obtain ⟨z,hz⟩:=ZY (xs:=xs) (i:=g.1) om
 obtain ⟨bb3,oo3,rfl⟩:=hx.base hz
 obtain ⟨_,⟨qi4,ci4,rfl,hi4,hb4,hb4b⟩,hc4⟩:=hx.elem hz
 have hi4n:=hi4.len
 refine xIx Tryz.underlying45 Zvy (h:=yL [_,_,_,_] ZvQ hc4 0 (h:=xM (h:=?_)))
 have hq5:=Zrq (J:=J) _ _ z om om g.2 om om _ hi4
 refine xR Zys rfl hq5 (h:=xA (h:=Za (xM (h:=ZF (h:=Zb rfl (fun g3=>?_) (fun g3=>?_))))))
 try simp only [sQ,ne_eq] at g3
 refine Za (xA (h:=Ze (ZB (Zn (ZS (ZB (Zn ?_)))))))
 exact eR t1 ⟨ZG (Zga hz hs ((Zcl hl).1 g3)).symm,rfl,rfl⟩
 try simp only [sQ,ne_eq] at g3
 refine ZX (ZP (Zo (Zf (xM (h:=xD (h:=xA (h:=?_)))))))
 exact ZD (g.1+1,szI g.2 (ZbA z)) [] so2 ⟨rfl,so,by have:=(Zcm hl g3).1;rw [ZdX _ hz];simp only [];omega,g3⟩ t4 rfl
 try simp only [sQ,ne_eq] at g2
 refine ZE (ZV (ZH (Zw (Zo (Za (xM (h:=xA (h:=Ze ?_))))))))
 exact eR t1 ⟨ZG (Zgb hs hl oz).symm,rfl,rfl⟩

theorem ZtD (q:Option Addr) (cp:Nat) (x:DBox) (left:Int) (hl0:0≤left) (hl1:left≤1048576) (B:Kn) (hx:SlB B q cp 3 Zh6 x.mail):Zaa (pj J) 170 [.agg #[.int .i64 x.next,.slice q x.mail.length cp],.int .i64 left] B (.int .i64 (szI left (szL Zdl x.mail))):=by
 refine cB 12 Tryz.func170 (h:=?_)
 have hxn:=hx.len
 refine Za (xBx [_,_] (h:=fun b1=>xA (h:=tL1 (Za (xW Zp1 (h:=x1 ZvU 0 (h:=xM (h:=?_))))))))
 have hq2:=ZoI (J:=J) _ _ x.mail left om om _ hx
 refine xR Zx1 rfl hq2 (h:=xA (h:=Zc (Za (xM (h:=ZF (h:=Zb rfl (fun g1=>?_) (fun g1=>?_)))))))
 try simp only [sQ,ne_eq] at g1
 have g1x:=(Zcl oz).1 g1
 refine Za (xA (h:=Ze (Zn ?_)))
 exact eR t1 ⟨ZG (by rw [ZbM g1x]),rfl,rfl⟩
 try simp only [sQ,ne_eq] at g1
 refine wSk (Za (xM (h:=xA (h:=Ze ?_))))
 exact eR t1 ⟨rfl,rfl,rfl⟩

theorem ZoH (q:Option Addr) (cp:Nat) (x:DQueue) (left:Int) (hl0:0≤left) (hl1:left≤1048576) (B:Kn) (hx:SlB B q cp 4 ZhX x.items):Zaa (pj J) 49 [.agg #[.int .i64 x.next,.slice q x.items.length cp],.int .i64 left] B (.int .i64 (szI left (szL ZbA x.items))):=by
 refine cB 12 Tryz.func49 (h:=?_)
 have hxn:=hx.len
 refine Za (xBx [_,_] (h:=fun b1=>xA (h:=tL1 (Za (xW Ztf (h:=x1 Zzm 0 (h:=xM (h:=?_))))))))
 have hq2:=ZoJ (J:=J) _ _ x.items left om om _ hx
 refine xR Zy7 rfl hq2 (h:=xA (h:=Zc (Za (xM (h:=ZF (h:=Zb rfl (fun g1=>?_) (fun g1=>?_)))))))
 try simp only [sQ,ne_eq] at g1
 have g1x:=(Zcl oz).1 g1
 refine Za (xA (h:=Ze (Zn ?_)))
 exact eR t1 ⟨ZG (by rw [ZbM g1x]),rfl,rfl⟩
 try simp only [sQ,ne_eq] at g1
 refine wSk (Za (xM (h:=xA (h:=Ze ?_))))
 exact eR t1 ⟨rfl,rfl,rfl⟩

theorem Zng (qa qb:Option Addr) (ca cb:Nat) (x:DFolder) (h1:x.owner.length≤140737488355328) (h2:x.name.length≤140737488355328) (left:Int) (hl0:0≤left) (hl1:left≤1048576) (B:Kn) (hx:SlB B qa ca 2 ZhY x.grants) (hy:SlB B qb cb 3 Zh6 x.mail):Zaa (pj J) 104 [.agg #[str x.owner,str x.name,.slice qa x.grants.length ca,.int .i64 x.next,.slice qb x.mail.length cb],.int .i64 left] B (.int .i64 (szI left (Zaz x))):=by
 refine cB 32 Tryz.func104 (h:=?_)
 have hxn:=hx.len
 have hyn:=hy.len
 refine Za (xBx [_,_,_,_,_] (h:=fun b1=>xA (h:=tL1 (Za (xM (h:=xW Zp0 (h:=x1 lk9 0 (h:=xVs Tryz.underlying9 (h:=xU (h:=xA (h:=Zc (Za (xM (h:=ZF (h:=Zb rfl (fun g1=>?_) (fun g1=>?_))))))))))))))))
 try simp only [sQ,ne_eq] at g1
 refine Za (xA (h:=Ze (Zn ?_)))
 exact eR t1 ⟨ZG (by rw [ZbM (by unfold Zaz;omega)]),rfl,rfl⟩
 try simp only [sQ,ne_eq] at g1
 refine wSk (Za (xM (h:=xW ZpZ (h:=x1 lk9 0 (h:=xVs Tryz.underlying9 (h:=xU (h:=xA (h:=Zc (Za (xM (h:=ZF (h:=Zb rfl (fun g2=>?_) (fun g2=>?_)))))))))))))
 try simp only [sQ,ne_eq] at g2
 refine Za (xA (h:=Ze (Zn ?_)))
 exact eR t1 ⟨ZG (by rw [ZbM (by unfold Zaz;omega)]),rfl,rfl⟩
 try simp only [sQ,ne_eq] at g2
 refine wSk (Za (xW ZpY (h:=x1 ZvV 0 (h:=xM (h:=?_)))))
 have hq2:=Znf (J:=J) _ _ x.grants ((left - ↑x.owner.length) - ↑x.name.length) om om _ hx
 refine xR Zyu rfl hq2 (h:=xA (h:=Zc (Za (xM (h:=ZF (h:=Zb rfl (fun g3=>?_) (fun g3=>?_)))))))
 try simp only [sQ,ne_eq] at g3
 have g3x:=(Zcl oz).1 g3
 refine Za (xA (h:=Ze (Zn ?_)))
 exact eR t1 ⟨ZG (by rw [ZbM (by unfold Zaz;omega)]),rfl,rfl⟩
 try simp only [sQ,ne_eq] at g3
 have g3x:=Zcm oz g3
 refine wSk (Za (xW ZpX (h:=xL [_,_] ZvT 0 (h:=xM (h:=?_)))))
 have hq3:=ZtD (J:=J) _ _ (⟨x.next,x.mail⟩:DBox) (szI ((left - ↑x.owner.length) - ↑x.name.length) (szL Zcn x.grants)) om om _ hy
 refine xR Zyt rfl hq3 (h:=xA (h:=Zc (Za (xM (h:=ZF (h:=Zb rfl (fun g4=>?_) (fun g4=>?_)))))))
 try simp only [sQ,ne_eq] at g4
 have g4x:=(Zcl oz).1 g4
 refine Za (xA (h:=Ze (Zn ?_)))
 exact eR t1 ⟨ZG (by rw [ZbM (by unfold Zaz;omega)]),rfl,rfl⟩
 try simp only [sQ,ne_eq] at g4
 have g4x:=Zcm oz g4
 refine wSk (Za (xM (h:=xA (h:=Ze ?_))))
 exact eR t1 ⟨ZG (by (try dsimp only at *);rw [Zmq (left:=left) (s:=Zaz x) (by unfold Zaz;omega)];unfold Zaz;omega),rfl,rfl⟩

theorem Zk9 (q:Option Addr) (cp:Nat) (xs:List DFolder) (left:Int) (hl0:0≤left) (hl1:left≤1048576) (B:Kn) (hx:SlB B q cp 5 ZeG xs):Zaa (pj J) 48 [.slice q xs.length cp,.int .i64 left] B (.int .i64 (szI left (szL Zaz xs))):=by
 refine cB 27 Tryz.func48 (h:=?_)
 have hxn:=hx.len
 refine Za (xA (h:=Za (xM (h:=xM (h:=xV Tryz.underlying44 (h:=xU (h:=xA (h:=Zc (Za (xM (h:=ZF (h:=Zb rfl (fun g1=>?_) (fun g1=>?_)))))))))))))
 try simp only [sQ,ne_eq] at g1
 refine Za (xA (h:=Ze (Zn ?_)))
 exact eR t1 ⟨ZG (Zgc oz).symm,rfl,rfl⟩
 try simp only [sQ,ne_eq] at g1
 refine ZX ?_
 refine Zo ?_
 refine Zc ?_
 refine Za ?_
 refine Zk (Zbp rfl rfl rfl ?_)
 refine Zh ?_
 refine Zz (α:=Nat × Int) [0,11] (fun g=>[(1,.int .i64 g.2),(5,.int .i64 g.1)]) [] (fun g=>[]) (fun g Bx=>Bx=B∧g.1≤xs.length∧g.2=left - xs.length - ((xs.take g.1).map Zaz).sum∧0≤g.2) (fun g=>xs.length - g.1) (0,left - ↑xs.length) ⟨rfl,rfl,trivial⟩ rfl (⟨rfl,Nat.zero_le _,by simp,g1⟩) (fun g B1 hle1 hI=>?_)
 obtain ⟨rfl,hk,hs,hl⟩:=hI
 refine ZC [(0,_),(1,_),(5,_),(11,_)] [] t4 rfl (Zc (Za (xM (h:=xM (h:=xV Tryz.underlying44 (h:=ZF (h:=Zb rfl (fun g2=>?_) (fun g2=>?_))))))))
 try simp only [sQ,ne_eq] at g2
 refine wSk (Zc (Zh (Za (xM (h:=xM (h:=?_))))))
 obtain ⟨z,hz⟩:=ZY (xs:=xs) (i:=g.1) om
 obtain ⟨bb3,oo3,rfl⟩:=hx.base hz
 obtain ⟨_,⟨qg4,cg4,qm4,cm4,rfl,hg4,hm4,hb4,hb4b⟩,hc4⟩:=hx.elem hz
 have hg4n:=hg4.len
 have hm4n:=hm4.len
 refine xIx Tryz.underlying44 ZvA (h:=yL [_,_,_,_,_] ZvS hc4 0 (h:=xM (h:=?_)))
 have hq5:=Zng (J:=J) _ _ _ _ z om om g.2 om om _ hg4 hm4
 refine xR Zy8 rfl hq5 (h:=xA (h:=Za (xM (h:=ZF (h:=Zb rfl (fun g3=>?_) (fun g3=>?_))))))
 try simp only [sQ,ne_eq] at g3
 refine Za (xA (h:=Ze (ZB (Zn (ZS (ZB (Zn ?_)))))))
 exact eR t1 ⟨ZG (Zga hz hs ((Zcl hl).1 g3)).symm,rfl,rfl⟩
 try simp only [sQ,ne_eq] at g3
 refine ZX (ZP (Zo (Zf (xM (h:=xD (h:=xA (h:=?_)))))))
 exact ZD (g.1+1,szI g.2 (Zaz z)) [] so2 ⟨rfl,so,by have:=(Zcm hl g3).1;rw [ZdX _ hz];simp only [];omega,g3⟩ t4 rfl
 try simp only [sQ,ne_eq] at g2
 refine ZE (ZV (ZH (Zw (Zo (Za (xM (h:=xA (h:=Ze ?_))))))))
 exact eR t1 ⟨ZG (Zgb hs hl oz).symm,rfl,rfl⟩

theorem Zrr (q1 q2 q3:Option Addr) (c1 c2 c3:Nat) (x:DHost) (hd:x.domain.length≤140737488355328) (left:Int) (hl0:0≤left) (hl1:left≤1048576) (B:Kn) (hu:SlB B q1 c1 3 ZkV x.users) (hf:SlB B q2 c2 5 ZeG x.folders) (hi:SlB B q3 c3 4 ZhX x.queue.items):Zaa (pj J) 11 [.agg #[str x.domain,.slice q1 x.users.length c1,.slice q2 x.folders.length c2,.int .i64 x.queue.next,.slice q3 x.queue.items.length c3],.int .i64 left] B (.int .i64 (szI left (Zc1 x))):=by
 refine cB 31 Tryz.func11 (h:=?_)
 have hun:=hu.len
 have hfn:=hf.len
 have hin:=hi.len
 refine Za (xBx [_,_,_,_,_] (h:=fun b1=>xA (h:=tL1 (Za (xM (h:=xW Zte (h:=x1 lk9 0 (h:=xVs Tryz.underlying9 (h:=xU (h:=xA (h:=Zc (Za (xM (h:=ZF (h:=Zb rfl (fun g1=>?_) (fun g1=>?_))))))))))))))))
 try simp only [sQ,ne_eq] at g1
 refine Za (xA (h:=Ze (Zn ?_)))
 exact eR t1 ⟨ZG (by rw [ZbM (by unfold Zc1;omega)]),rfl,rfl⟩
 try simp only [sQ,ne_eq] at g1
 refine wSk (Za (xW Ztd (h:=x1 Zzo 0 (h:=xM (h:=?_)))))
 have hq2:=ZoG (J:=J) _ _ x.users (left - ↑x.domain.length) om om _ hu
 refine xR ZAn rfl hq2 (h:=xA (h:=Zc (Za (xM (h:=ZF (h:=Zb rfl (fun g2=>?_) (fun g2=>?_)))))))
 try simp only [sQ,ne_eq] at g2
 have g2x:=(Zcl oz).1 g2
 refine Za (xA (h:=Ze (Zn ?_)))
 exact eR t1 ⟨ZG (by rw [ZbM (by unfold Zc1;omega)]),rfl,rfl⟩
 try simp only [sQ,ne_eq] at g2
 have g2x:=Zcm oz g2
 refine wSk (Za (xW Ztc (h:=x1 Zzn 0 (h:=xM (h:=?_)))))
 have hq3:=Zk9 (J:=J) _ _ x.folders (szI (left - ↑x.domain.length) (szL Zc0 x.users)) om om _ hf
 refine xR ZAm rfl hq3 (h:=xA (h:=Zc (Za (xM (h:=ZF (h:=Zb rfl (fun g3=>?_) (fun g3=>?_)))))))
 try simp only [sQ,ne_eq] at g3
 have g3x:=(Zcl oz).1 g3
 refine Za (xA (h:=Ze (Zn ?_)))
 exact eR t1 ⟨ZG (by rw [ZbM (by unfold Zc1;omega)]),rfl,rfl⟩
 try simp only [sQ,ne_eq] at g3
 have g3x:=Zcm oz g3
 refine wSk (Za (xW Ztb (h:=xL [_,_] Zzl 0 (h:=xM (h:=?_)))))
 have hq4:=ZoH (J:=J) _ _ (⟨x.queue.next,x.queue.items⟩:DQueue) (szI (szI (left - ↑x.domain.length) (szL Zc0 x.users)) (szL Zaz x.folders)) om om _ hi
 refine xR ZAl rfl hq4 (h:=xA (h:=Zc (Za (xM (h:=ZF (h:=Zb rfl (fun g4=>?_) (fun g4=>?_)))))))
 try simp only [sQ,ne_eq] at g4
 have g4x:=(Zcl oz).1 g4
 refine Za (xA (h:=Ze (Zn ?_)))
 exact eR t1 ⟨ZG (by rw [ZbM (by unfold Zc1;omega)]),rfl,rfl⟩
 try simp only [sQ,ne_eq] at g4
 have g4x:=Zcm oz g4
 refine wSk (Za (xM (h:=xA (h:=Ze ?_))))
 exact eR t1 ⟨ZG (by (try dsimp only at *);rw [Zmq (left:=left) (s:=Zc1 x) (by unfold Zc1;omega)];unfold Zc1;omega),rfl,rfl⟩

theorem Zrh (x:DUser)  (B:Kn):Zaa (pj J) 108 [.agg #[str x.name,str x.pass,.int .i64 x.quota]] B (.agg #[str x.name,str x.pass,.int .i64 x.quota]):=by
 refine cB 14 Tryz.func108 (h:=?_)
 refine Za (xBx [_,_,_] (h:=fun b1=>xAl [_,_,_] ZdS (h:=fun b2=>tL2 (Za (xAl [_,_,_] ZdS (h:=fun b3=>tL3 (Za (xW Zp3 (h:=x1 lk9 0 (h:=xW Za7 (h:=xS [_] 2 [_,_,_] sz9 (h:=tL3 (Za (xW Zp2 (h:=x1 lk9 0 (h:=xW Zfz (h:=xS [_] 2 [_,_,_] sz9 (h:=tL3 (Za (xW Zut (h:=x1 lk3 0 (h:=xW Zdu (h:=xS [_] 2 [_,_,_] sz3 (h:=tL3 (Za (xL [_,_,_] Ze3 2 (h:=xS [_,_,_] 1 [_,_,_] Zbh (h:=tL3 (Ze ?_)))))))))))))))))))))))))))))
 exact eR ⟨⟨_,rfl,.inr ⟨[_,_,_],Ze3,ZbT 1 rfl rfl rfl,rfl⟩⟩,trivial⟩ ⟨rfl,rfl,rfl⟩

theorem ZoC (x:DGrant)  (B:Kn):Zaa (pj J) 233 [.agg #[str x.user,.int .i64 x.rights]] B (.agg #[str x.user,.int .i64 x.rights]):=by
 refine cB 11 Tryz.func233 (h:=?_)
 refine Za (xBx [_,_] (h:=fun b1=>xAl [_,_] Zm5 (h:=fun b2=>tL2 (Za (xAl [_,_] Zm5 (h:=fun b3=>tL3 (Za (xW ZpQ (h:=x1 lk9 0 (h:=xW Zcd (h:=xS [_] 2 [_,_] sz9 (h:=tL3 (Za (xW Zuq (h:=x1 lk3 0 (h:=xW Zc8 (h:=xS [_] 2 [_,_] sz3 (h:=tL3 (Za (xL [_,_] Zpp 2 (h:=xS [_,_] 1 [_,_] Zds (h:=tL3 (Ze ?_)))))))))))))))))))))))
 exact eR ⟨⟨_,rfl,.inr ⟨[_,_],Zpp,ZbT 1 rfl rfl rfl,rfl⟩⟩,trivial⟩ ⟨rfl,rfl,rfl⟩

theorem Zrj (x:DMail)  (B:Kn):Zaa (pj J) 272 [.agg #[.int .i64 x.uid,.int .i64 x.flags,str x.text]] B (.agg #[.int .i64 x.uid,.int .i64 x.flags,str x.text]):=by
 refine cB 14 Tryz.func272 (h:=?_)
 refine Za (xBx [_,_,_] (h:=fun b1=>xAl [_,_,_] Zn9 (h:=fun b2=>tL2 (Za (xAl [_,_,_] Zn9 (h:=fun b3=>tL3 (Za (xW Zun (h:=x1 lk3 0 (h:=xW Zeg (h:=xS [_] 2 [_,_,_] sz3 (h:=tL3 (Za (xW Zum (h:=x1 lk3 0 (h:=xW Zf0 (h:=xS [_] 2 [_,_,_] sz3 (h:=tL3 (Za (xW ZpN (h:=x1 lk9 0 (h:=xW ZfZ (h:=xS [_] 2 [_,_,_] sz9 (h:=tL3 (Za (xL [_,_,_] ZmI 2 (h:=xS [_,_,_] 1 [_,_,_] Zf7 (h:=tL3 (Ze ?_)))))))))))))))))))))))))))))
 exact eR ⟨⟨_,rfl,.inr ⟨[_,_,_],ZmI,ZbT 1 rfl rfl rfl,rfl⟩⟩,trivial⟩ ⟨rfl,rfl,rfl⟩

theorem Zri (q:Option Addr) (cp:Nat) (xs:List Str) (hx20:Ze9 xs≤1048576) (B:Kn) (hx:SlK B q cp 1 Zde xs):Zv (pj J) 235 [.slice q xs.length cp] B [] (fun v B' Ls=>∃q c l,v = .slice q xs.length c∧B'=B∧Ls=[l]∧ZN Kn.none l q c 9 1 Zde xs):=by
 refine cB 22 Tryz.func235 (h:=?_)
 have hxn:=hx.len
 have hx21:=ZtH hx20
 refine Za (xA (h:=Za (xM (h:=xV Tryz.underlying143 (h:=Zk (Za2 (m:=xs.length) (c:=xs.length) (by_:=16) [.string ⟨#[]⟩] rfl rfl Zqk zo9 rfl rfl ⟨_,_,rfl,by first | omega | (simp;done) | (simp;omega)⟩ ⟨_,_,rfl,by first | omega | (simp;done) | (simp;omega)⟩ om om (fun b1=>?_)))))))
 have hv1:=ZN.zeros (B:=Kn.none) (b:=b1) (T:=9) (R:=Zde) (d:=([]:Str)) (m:=xs.length) (c:=xs.length) (zs:=[.string ⟨#[]⟩]) rfl (⟨rfl,by simp⟩) om
 refine xA (h:=tL1 (Zc (Za (xA (h:=Zh (Zz (α:=Nat × Cells) [0,2] (fun g=>[(3,.slice (some ⟨b1,0,none⟩) xs.length xs.length),(4,.int .i64 g.1)]) [0] (fun g=>[g.2]) (fun g Bx=>Bx=B∧g.1≤xs.length∧ZN Kn.none g.2 (some ⟨b1,0,none⟩) xs.length 9 1 Zde (fill xs ([]:Str) g.1)) (fun g=>xs.length - g.1) (0,_) t2 rfl (⟨rfl,Nat.zero_le _,by rw [ZdM];exact hv1⟩) (fun g B2 hle2 hI=>?_)))))))
 obtain ⟨rfl,hk,hvl⟩:=hI
 have hfl:=ZeT (d:=([]:Str)) hk
 refine ZC [(0,_),(2,_),(3,_),(4,_)] [_] t4 rfl (Zc (Za (xM (h:=xM (h:=xV Tryz.underlying143 (h:=ZF (h:=Zb rfl (fun g1=>?_) (fun g1=>?_))))))))
 try simp only [sQ,ne_eq] at g1
 refine wSk (Zc (Zh (Zf (xM (h:=xM (h:=xM (h:=xM (h:=?_))))))))
 obtain ⟨z,hz⟩:=ZY (xs:=xs) (i:=g.1) om
 obtain ⟨bb4,oo4,rfl⟩:=hx.base hz
 obtain ⟨_,⟨rfl,hb5⟩,hc5⟩:=hx.elem hz
 refine xIx Tryz.underlying143 sz9 (h:=y1 lk9 hc5 0 (h:=xIp rfl Tryz.underlying143 sz9 (h:=Zk (Zrc (R:=Zde) (k:=g.1) (z) 0 rfl hvl rfl om rfl rfl sz9 rfl rfl rfl rfl rfl (⟨rfl,by first | assumption | omega | (simp;omega)⟩) (fun l7 hv7=>?_)))))
 refine ZP (Zo (Zf (xM (h:=xD (h:=xA (h:=?_))))))
 exact ZD (g.1+1,l7) [0] so2 ⟨rfl,so,by rw [← ZdN hz];exact hv7⟩ t4 rfl
 try simp only [sQ,ne_eq] at g1
 refine ZE (ZV (ZH (Zw (Zo (Za (xM (h:=xA (h:=Ze ?_))))))))
 exact eN [0] rfl t1 ⟨_,_,_,rfl,rfl,rfl,by have e:=hvl;rw [ZeU oz] at e;exact e⟩

theorem Zoy (q:Option Addr) (cp:Nat) (xs:List DUser) (hx20:szL Zc0 xs≤1048576) (B:Kn) (hx:SlK B q cp 3 Zs xs):Zv (pj J) 53 [.slice q xs.length cp] B [] (fun v B' Ls=>∃q c l,v = .slice q xs.length c∧B'=B∧Ls=[l]∧ZN Kn.none l q c 141 3 Zs xs):=by
 refine cB 23 Tryz.func53 (h:=?_)
 have hxn:=hx.len
 have hx21:=(ZaW hx20).1
 refine Za (xA (h:=Za (xM (h:=xV Tryz.underlying43 (h:=Zk (Za2 (m:=xs.length) (c:=xs.length) (by_:=40) [.string ⟨#[]⟩,.string ⟨#[]⟩,.int .i64 0] rfl rfl ZnY ZdS rfl rfl ⟨_,_,rfl,by first | omega | (simp;done) | (simp;omega)⟩ ⟨_,_,rfl,by first | omega | (simp;done) | (simp;omega)⟩ om om (fun b1=>?_)))))))
 have hv1:=ZN.zeros (B:=Kn.none) (b:=b1) (T:=141) (R:=Zs) (d:=(⟨[],[],0⟩:DUser)) (m:=xs.length) (c:=xs.length) (zs:=[.string ⟨#[]⟩,.string ⟨#[]⟩,.int .i64 0]) rfl (⟨rfl,by simp,by simp⟩) om
 refine xA (h:=tL1 (Zc (Za (xA (h:=Zh (Zz (α:=Nat × Cells) [0,2] (fun g=>[(3,.slice (some ⟨b1,0,none⟩) xs.length xs.length),(4,.int .i64 g.1)]) [0] (fun g=>[g.2]) (fun g Bx=>Bx=B∧g.1≤xs.length∧ZN Kn.none g.2 (some ⟨b1,0,none⟩) xs.length 141 3 Zs (fill xs (⟨[],[],0⟩:DUser) g.1)) (fun g=>xs.length - g.1) (0,_) t2 rfl (⟨rfl,Nat.zero_le _,by rw [ZdM];exact hv1⟩) (fun g B2 hle2 hI=>?_)))))))
 obtain ⟨rfl,hk,hvl⟩:=hI
 have hfl:=ZeT (d:=(⟨[],[],0⟩:DUser)) hk
 refine ZC [(0,_),(2,_),(3,_),(4,_)] [_] t4 rfl (Zc (Za (xM (h:=xM (h:=xV Tryz.underlying43 (h:=ZF (h:=Zb rfl (fun g1=>?_) (fun g1=>?_))))))))
 try simp only [sQ,ne_eq] at g1
 refine wSk (Zc (Zh (Zf (xM (h:=xM (h:=xM (h:=xM (h:=?_))))))))
 obtain ⟨z,hz⟩:=ZY (xs:=xs) (i:=g.1) om
 obtain ⟨bb4,oo4,rfl⟩:=hx.base hz
 obtain ⟨_,⟨rfl,hb5,hb5b⟩,hc5⟩:=hx.elem hz
 refine xIx Tryz.underlying43 ZvB (h:=yL [_,_,_] ZvW hc5 0 (h:=xR Zy6 rfl (Zrh z  _) (h:=xIp rfl Tryz.underlying23 Zbh (h:=Zk (Zrc (R:=Zs) (k:=g.1) (z) 0 rfl hvl rfl om rfl rfl Zbh rfl rfl rfl rfl rfl (⟨rfl,by first | assumption | omega | (simp;done) | (simp;omega),by first | assumption | omega | (simp;done) | (simp;omega)⟩) (fun l8 hv8=>?_))))))
 refine ZP (Zo (Zf (xM (h:=xD (h:=xA (h:=?_))))))
 exact ZD (g.1+1,l8) [0] so2 ⟨rfl,so,by rw [← ZdN hz];exact hv8⟩ t4 rfl
 try simp only [sQ,ne_eq] at g1
 refine ZE (ZV (ZH (Zw (Zo (Za (xM (h:=xA (h:=Ze ?_))))))))
 exact eN [0] rfl t1 ⟨_,_,_,rfl,rfl,rfl,by have e:=hvl;rw [ZeU oz] at e;exact e⟩

theorem Znd (q:Option Addr) (cp:Nat) (xs:List DGrant) (hx20:szL Zcn xs≤1048576) (B:Kn) (hx:SlK B q cp 2 Z5 xs):Zv (pj J) 173 [.slice q xs.length cp] B [] (fun v B' Ls=>∃q c l,v = .slice q xs.length c∧B'=B∧Ls=[l]∧ZN Kn.none l q c 259 2 Z5 xs):=by
 refine cB 23 Tryz.func173 (h:=?_)
 have hxn:=hx.len
 have hx21:=(ZaW hx20).1
 refine Za (xA (h:=Za (xM (h:=xV Tryz.underlying170 (h:=Zk (Za2 (m:=xs.length) (c:=xs.length) (by_:=24) [.string ⟨#[]⟩,.int .i64 0] rfl rfl Zxu Zm5 rfl rfl ⟨_,_,rfl,by first | omega | (simp;done) | (simp;omega)⟩ ⟨_,_,rfl,by first | omega | (simp;done) | (simp;omega)⟩ om om (fun b1=>?_)))))))
 have hv1:=ZN.zeros (B:=Kn.none) (b:=b1) (T:=259) (R:=Z5) (d:=(⟨[],0⟩:DGrant)) (m:=xs.length) (c:=xs.length) (zs:=[.string ⟨#[]⟩,.int .i64 0]) rfl (⟨rfl,by simp⟩) om
 refine xA (h:=tL1 (Zc (Za (xA (h:=Zh (Zz (α:=Nat × Cells) [0,2] (fun g=>[(3,.slice (some ⟨b1,0,none⟩) xs.length xs.length),(4,.int .i64 g.1)]) [0] (fun g=>[g.2]) (fun g Bx=>Bx=B∧g.1≤xs.length∧ZN Kn.none g.2 (some ⟨b1,0,none⟩) xs.length 259 2 Z5 (fill xs (⟨[],0⟩:DGrant) g.1)) (fun g=>xs.length - g.1) (0,_) t2 rfl (⟨rfl,Nat.zero_le _,by rw [ZdM];exact hv1⟩) (fun g B2 hle2 hI=>?_)))))))
 obtain ⟨rfl,hk,hvl⟩:=hI
 have hfl:=ZeT (d:=(⟨[],0⟩:DGrant)) hk
 refine ZC [(0,_),(2,_),(3,_),(4,_)] [_] t4 rfl (Zc (Za (xM (h:=xM (h:=xV Tryz.underlying170 (h:=ZF (h:=Zb rfl (fun g1=>?_) (fun g1=>?_))))))))
 try simp only [sQ,ne_eq] at g1
 refine wSk (Zc (Zh (Zf (xM (h:=xM (h:=xM (h:=xM (h:=?_))))))))
 obtain ⟨z,hz⟩:=ZY (xs:=xs) (i:=g.1) om
 obtain ⟨bb4,oo4,rfl⟩:=hx.base hz
 obtain ⟨_,⟨rfl,hb5⟩,hc5⟩:=hx.elem hz
 refine xIx Tryz.underlying170 Zvw (h:=yL [_,_] ZvP hc5 0 (h:=xR ZxZ rfl (ZoC z  _) (h:=xIp rfl Tryz.underlying94 Zds (h:=Zk (Zrc (R:=Z5) (k:=g.1) (z) 0 rfl hvl rfl om rfl rfl Zds rfl rfl rfl rfl rfl (⟨rfl,by first | assumption | omega | (simp;done) | (simp;omega)⟩) (fun l8 hv8=>?_))))))
 refine ZP (Zo (Zf (xM (h:=xD (h:=xA (h:=?_))))))
 exact ZD (g.1+1,l8) [0] so2 ⟨rfl,so,by rw [← ZdN hz];exact hv8⟩ t4 rfl
 try simp only [sQ,ne_eq] at g1
 refine ZE (ZV (ZH (Zw (Zo (Za (xM (h:=xA (h:=Ze ?_))))))))
 exact eN [0] rfl t1 ⟨_,_,_,rfl,rfl,rfl,by have e:=hvl;rw [ZeU oz] at e;exact e⟩

theorem ZoA (q:Option Addr) (cp:Nat) (xs:List DMail) (hx20:szL Zdl xs≤1048576) (B:Kn) (hx:SlK B q cp 3 Z6 xs):Zv (pj J) 234 [.slice q xs.length cp] B [] (fun v B' Ls=>∃q c l,v = .slice q xs.length c∧B'=B∧Ls=[l]∧ZN Kn.none l q c 99 3 Z6 xs):=by
 refine cB 23 Tryz.func234 (h:=?_)
 have hxn:=hx.len
 have hx21:=(ZaW hx20).1
 refine Za (xA (h:=Za (xM (h:=xV Tryz.underlying171 (h:=Zk (Za2 (m:=xs.length) (c:=xs.length) (by_:=32) [.int .i64 0,.int .i64 0,.string ⟨#[]⟩] rfl rfl ZuZ Zn9 rfl rfl ⟨_,_,rfl,by first | omega | (simp;done) | (simp;omega)⟩ ⟨_,_,rfl,by first | omega | (simp;done) | (simp;omega)⟩ om om (fun b1=>?_)))))))
 have hv1:=ZN.zeros (B:=Kn.none) (b:=b1) (T:=99) (R:=Z6) (d:=(⟨0,0,[]⟩:DMail)) (m:=xs.length) (c:=xs.length) (zs:=[.int .i64 0,.int .i64 0,.string ⟨#[]⟩]) rfl (⟨rfl,by simp⟩) om
 refine xA (h:=tL1 (Zc (Za (xA (h:=Zh (Zz (α:=Nat × Cells) [0,2] (fun g=>[(3,.slice (some ⟨b1,0,none⟩) xs.length xs.length),(4,.int .i64 g.1)]) [0] (fun g=>[g.2]) (fun g Bx=>Bx=B∧g.1≤xs.length∧ZN Kn.none g.2 (some ⟨b1,0,none⟩) xs.length 99 3 Z6 (fill xs (⟨0,0,[]⟩:DMail) g.1)) (fun g=>xs.length - g.1) (0,_) t2 rfl (⟨rfl,Nat.zero_le _,by rw [ZdM];exact hv1⟩) (fun g B2 hle2 hI=>?_)))))))
 obtain ⟨rfl,hk,hvl⟩:=hI
 have hfl:=ZeT (d:=(⟨0,0,[]⟩:DMail)) hk
 refine ZC [(0,_),(2,_),(3,_),(4,_)] [_] t4 rfl (Zc (Za (xM (h:=xM (h:=xV Tryz.underlying171 (h:=ZF (h:=Zb rfl (fun g1=>?_) (fun g1=>?_))))))))
 try simp only [sQ,ne_eq] at g1
 refine wSk (Zc (Zh (Zf (xM (h:=xM (h:=xM (h:=xM (h:=?_))))))))
 obtain ⟨z,hz⟩:=ZY (xs:=xs) (i:=g.1) om
 obtain ⟨bb4,oo4,rfl⟩:=hx.base hz
 obtain ⟨_,⟨rfl,hb5⟩,hc5⟩:=hx.elem hz
 refine xIx Tryz.underlying171 Zvv (h:=yL [_,_,_] ZvO hc5 0 (h:=xR ZxF rfl (Zrj z  _) (h:=xIp rfl Tryz.underlying91 Zf7 (h:=Zk (Zrc (R:=Z6) (k:=g.1) (z) 0 rfl hvl rfl om rfl rfl Zf7 rfl rfl rfl rfl rfl (⟨rfl,by first | assumption | omega | (simp;done) | (simp;omega)⟩) (fun l8 hv8=>?_))))))
 refine ZP (Zo (Zf (xM (h:=xD (h:=xA (h:=?_))))))
 exact ZD (g.1+1,l8) [0] so2 ⟨rfl,so,by rw [← ZdN hz];exact hv8⟩ t4 rfl
 try simp only [sQ,ne_eq] at g1
 refine ZE (ZV (ZH (Zw (Zo (Za (xM (h:=xA (h:=Ze ?_))))))))
 exact eN [0] rfl t1 ⟨_,_,_,rfl,rfl,rfl,by have e:=hvl;rw [ZeU oz] at e;exact e⟩

theorem Zrk (q:Option Addr) (cp:Nat) (x:DItem) (B:Kn) (hx:SlK B q cp 1 Zde x.left) (hl:Ze9 x.left≤1048576):Zv (pj J) 175 [.agg #[.int .i64 x.id,str x.fr,str x.text,.slice q x.left.length cp]] B [] (fun v B' Ls=>∃q0 c0 l0,v = .agg #[.int .i64 x.id,str x.fr,str x.text,.slice q0 x.left.length c0]∧B'=B∧Ls=[l0]∧ZN Kn.none l0 q0 c0 9 1 Zde x.left):=by
 refine cB 18 Tryz.func175 (h:=?_)
 refine Za (xBx [_,_,_,_] (h:=fun b1=>xAl [_,_,_,_] Ze0 (h:=fun b2=>tL2 (Za (xAl [_,_,_,_] Ze0 (h:=fun b3=>tL3 (Za (xW Zur (h:=x1 lk3 0 (h:=xW Zd7 (h:=xS [_] 2 [_,_,_,_] sz3 (h:=tL3 (Za (xW ZpT (h:=x1 lk9 0 (h:=xW Zd6 (h:=xS [_] 2 [_,_,_,_] sz9 (h:=tL3 (Za (xW ZpS (h:=x1 lk9 0 (h:=xW Zfy (h:=xS [_] 2 [_,_,_,_] sz9 (h:=tL3 (Za (xW ZpR (h:=x1 Zft 0 (h:=xC ZxX rfl (Zri _ _ x.left om2 _ hx) (h:=?_)))))))))))))))))))))))))))))
 rintro _ B4 _ hle4 ⟨q4,c4,l4,rfl,rfl,rfl,hv4⟩
 refine xW Zcs (h:=xS [_] 2 [_,_,_,_] ZtG (h:=tL4 (Za (xL [_,_,_,_] Zeo 2 (h:=xS [_,_,_,_] 1 [_,_,_,_] Zbr (h:=tL4 (Ze ?_)))))))
 exact eN [3] rfl ⟨⟨_,rfl,.inr ⟨[_,_,_,_],Zeo,ZbT 1 rfl rfl rfl,rfl⟩⟩,trivial⟩ ⟨_,_,_,rfl,rfl,rfl,hv4⟩

theorem ZoB (q:Option Addr) (cp:Nat) (xs:List DItem) (hx20:szL ZbA xs≤1048576) (B:Kn) (hx:SlK B q cp 4 ZI xs):Zv (pj J) 110 [.slice q xs.length cp] B [] (fun v B' Ls=>∃q c l,v = .slice q xs.length c∧B'=B∧Ls=[l]∧ZaP l q c 145 4 (ZaR 9) xs):=by
 refine cB 23 Tryz.func110 (h:=?_)
 have hxn:=hx.len
 have hx21:=(ZaW hx20).1
 refine Za (xA (h:=Za (xM (h:=xV Tryz.underlying45 (h:=Zk (Za2 (m:=xs.length) (c:=xs.length) (by_:=64) [.int .i64 0,.string ⟨#[]⟩,.string ⟨#[]⟩,.slice none 0 0] rfl rfl Zxw Ze0 rfl rfl ⟨_,_,rfl,by first | omega | (simp;done) | (simp;omega)⟩ ⟨_,_,rfl,by first | omega | (simp;done) | (simp;omega)⟩ om om (fun b1=>?_)))))))
 have hd1:=ZaP.zeros (b:=b1) (T:=145) (R:=ZaR 9) (d:=(⟨0,[],[],[]⟩:DItem)) (m:=xs.length) (c:=xs.length) (zs:=[.int .i64 0,.string ⟨#[]⟩,.string ⟨#[]⟩,.slice none 0 0]) rfl (⟨_,_,rfl,ZN.nil,by simp,by simp,by simp⟩) om
 refine xA (h:=tL1 (Zc (Za (xA (h:=Zh (Zz (α:=Nat × Cells) [0,2] (fun g=>[(3,.slice (some ⟨b1,0,none⟩) xs.length xs.length),(4,.int .i64 g.1)]) [0] (fun g=>[g.2]) (fun g Bx=>Bx=B∧g.1≤xs.length∧ZaP g.2 (some ⟨b1,0,none⟩) xs.length 145 4 (ZaR 9) (fill xs (⟨0,[],[],[]⟩:DItem) g.1)) (fun g=>xs.length - g.1) (0,_) t2 rfl (⟨rfl,Nat.zero_le _,by rw [ZdM];exact hd1⟩) (fun g B2 hle2 hI=>?_)))))))
 obtain ⟨rfl,hk,hvl⟩:=hI
 have hfl:=ZeT (d:=(⟨0,[],[],[]⟩:DItem)) hk
 refine ZC [(0,_),(2,_),(3,_),(4,_)] [_] t4 rfl (Zc (Za (xM (h:=xM (h:=xV Tryz.underlying45 (h:=ZF (h:=Zb rfl (fun g1=>?_) (fun g1=>?_))))))))
 try simp only [sQ,ne_eq] at g1
 refine wSk (Zc (Zh (Zf (xM (h:=xM (h:=xM (h:=xM (h:=?_))))))))
 obtain ⟨z,hz⟩:=ZY (xs:=xs) (i:=g.1) om
 obtain ⟨bb4,oo4,rfl⟩:=hx.base hz
 obtain ⟨_,⟨qi5,ci5,rfl,hi5,hb5,hb5b⟩,hc5⟩:=hx.elem hz
 have hi5n:=hi5.len
 refine xIx Tryz.underlying45 Zvy (h:=?_)
 have hzz:=(ZaW hx20).2 z (List.mem_of_getElem? hz)
 have hza:=Zud hzz
 refine yL [_,_,_,_] ZvQ hc5 0 (h:=xC Zyp rfl (Zrk _ _ z _ hi5 om2) (h:=?_))
 rintro _ B6 _ hle6 ⟨q6,c6,l6,rfl,rfl,rfl,hv6⟩
 refine xIp rfl Tryz.underlying25 Zbr (h:=Zk (Zu7 (R:=ZaR 9) (k:=g.1) (z) 0 [1] rfl rfl hvl rfl om rfl rfl Zbr rfl rfl rfl rfl rfl (l6) (by simp) (⟨_,_,rfl,hv6,by first | assumption | omega | (simp;done) | (simp;omega),by first | assumption | omega | (simp;done) | (simp;omega),by first | assumption | omega | (simp;done) | (simp;omega)⟩) (fun l8 hd8=>?_)))
 refine ZP (Zo (Zf (xM (h:=xD (h:=xA (h:=?_))))))
 exact ZD (g.1+1,l8) [0] so2 ⟨rfl,so,by rw [← ZdN hz];exact hd8⟩ t4 rfl
 try simp only [sQ,ne_eq] at g1
 refine ZE (ZV (ZH (Zw (Zo (Za (xM (h:=xA (h:=Ze ?_))))))))
 exact eN [0] rfl t1 ⟨_,_,_,rfl,rfl,rfl,by have e:=hvl;rw [ZeU oz] at e;exact e⟩

theorem Zoz (q:Option Addr) (cp:Nat) (x:DQueue) (B:Kn) (hx:SlK B q cp 4 ZI x.items) (hl:szL ZbA x.items≤1048576):Zv (pj J) 55 [.agg #[.int .i64 x.next,.slice q x.items.length cp]] B [] (fun v B' Ls=>∃q0 c0 l0,v = .agg #[.int .i64 x.next,.slice q0 x.items.length c0]∧B'=B∧Ls=[l0]∧ZaP l0 q0 c0 145 4 (ZaR 9) x.items):=by
 refine cB 12 Tryz.func55 (h:=?_)
 refine Za (xBx [_,_] (h:=fun b1=>xAl [_,_] ZqV (h:=fun b2=>tL2 (Za (xAl [_,_] ZqV (h:=fun b3=>tL3 (Za (xW Zv5 (h:=x1 lk3 0 (h:=xW Zf1 (h:=xS [_] 2 [_,_] sz3 (h:=tL3 (Za (xW Ztf (h:=x1 Zzm 0 (h:=xC Zy4 rfl (ZoB _ _ x.items om2 _ hx) (h:=?_)))))))))))))))))
 rintro _ B4 _ hle4 ⟨q4,c4,l4,rfl,rfl,rfl,hv4⟩
 refine xW ZbG (h:=xS [_] 2 [_,_] Zw9 (h:=tL4 (Za (xL [_,_] ZkX 2 (h:=xS [_,_] 1 [_,_] ZtE (h:=tL4 (Ze ?_)))))))
 exact eN [3] rfl ⟨⟨_,rfl,.inr ⟨[_,_],ZkX,ZbT 1 rfl rfl rfl,rfl⟩⟩,trivial⟩ ⟨_,_,_,rfl,rfl,rfl,hv4⟩

theorem ZtA (q:Option Addr) (cp:Nat) (x:DBox) (B:Kn) (hx:SlK B q cp 3 Z6 x.mail) (hl:szL Zdl x.mail≤1048576):Zv (pj J) 174 [.agg #[.int .i64 x.next,.slice q x.mail.length cp]] B [] (fun v B' Ls=>∃q0 c0 l0,v = .agg #[.int .i64 x.next,.slice q0 x.mail.length c0]∧B'=B∧Ls=[l0]∧ZN Kn.none l0 q0 c0 99 3 Z6 x.mail):=by
 refine cB 12 Tryz.func174 (h:=?_)
 refine Za (xBx [_,_] (h:=fun b1=>xAl [_,_] Zm4 (h:=fun b2=>tL2 (Za (xAl [_,_] Zm4 (h:=fun b3=>tL3 (Za (xW Zus (h:=x1 lk3 0 (h:=xW ZeA (h:=xS [_] 2 [_,_] sz3 (h:=tL3 (Za (xW Zp1 (h:=x1 ZvU 0 (h:=xC ZxY rfl (ZoA _ _ x.mail om2 _ hx) (h:=?_)))))))))))))))))
 rintro _ B4 _ hle4 ⟨q4,c4,l4,rfl,rfl,rfl,hv4⟩
 refine xW Za9 (h:=xS [_] 2 [_,_] Zw7 (h:=tL4 (Za (xL [_,_] ZgV 2 (h:=xS [_,_] 1 [_,_] Zmr (h:=tL4 (Ze ?_)))))))
 exact eN [3] rfl ⟨⟨_,rfl,.inr ⟨[_,_],ZgV,ZbT 1 rfl rfl rfl,rfl⟩⟩,trivial⟩ ⟨_,_,_,rfl,rfl,rfl,hv4⟩

theorem Zne (qa qb:Option Addr) (ca cb:Nat) (x:DFolder) (B:Kn) (hx:SlK B qa ca 2 Z5 x.grants) (hy:SlK B qb cb 3 Z6 x.mail) (hl:szL Zcn x.grants≤1048576) (hl2:szL Zdl x.mail≤1048576):Zv (pj J) 109 [.agg #[str x.owner,str x.name,.slice qa x.grants.length ca,.int .i64 x.next,.slice qb x.mail.length cb]] B [] (fun v B' Ls=>∃q0 c0 l0 q1 c1 l1,v = .agg #[str x.owner,str x.name,.slice q0 x.grants.length c0,.int .i64 x.next,.slice q1 x.mail.length c1]∧B'=B∧Ls=[l0,l1]∧ZN Kn.none l0 q0 c0 259 2 Z5 x.grants∧ZN Kn.none l1 q1 c1 99 3 Z6 x.mail):=by
 refine cB 19 Tryz.func109 (h:=?_)
 refine Za (xBx [_,_,_,_,_] (h:=fun b1=>xAl [_,_,_,_,_] Zf6 (h:=fun b2=>tL2 (Za (xAl [_,_,_,_,_] Zf6 (h:=fun b3=>tL3 (Za (xW Zp0 (h:=x1 lk9 0 (h:=xW Zcc (h:=xS [_] 2 [_,_,_,_,_] sz9 (h:=tL3 (Za (xW ZpZ (h:=x1 lk9 0 (h:=xW ZdJ (h:=xS [_] 2 [_,_,_,_,_] sz9 (h:=tL3 (Za (xW ZpY (h:=x1 ZvV 0 (h:=xC Zyr rfl (Znd _ _ x.grants om2 _ hx) (h:=?_)))))))))))))))))))))))
 rintro _ B4 _ hle4 ⟨q4,c4,l4,rfl,rfl,rfl,hv4⟩
 refine xW ZdI (h:=xS [_] 2 [_,_,_,_,_] Zw6 (h:=tL4 (Za (xW ZpX (h:=xL [_,_] ZvT 0 (h:=xC Zyq rfl (ZtA _ _ ⟨x.next,x.mail⟩ _ hy om2) (h:=?_)))))))
 rintro _ B5 _ hle5 ⟨q5,c5,l5,rfl,rfl,rfl,hv5⟩
 refine xW Zcb (h:=xS [_,_] 2 [_,_,_,_,_] Zmr (h:=tL5 (Za (xL [_,_,_,_,_] ZhZ 2 (h:=xS [_,_,_,_,_] 1 [_,_,_,_,_] Zb0 (h:=tL5 (Ze ?_)))))))
 exact eN [3,4] rfl ⟨⟨_,rfl,.inr ⟨[_,_,_,_,_],ZhZ,ZbT 1 rfl rfl rfl,rfl⟩⟩,trivial⟩ ⟨_,_,_,_,_,_,rfl,rfl,rfl,hv4,hv5⟩

theorem Zk7 (q:Option Addr) (cp:Nat) (xs:List DFolder) (hx20:szL Zaz xs≤1048576) (B:Kn) (hx:SlK B q cp 5 Zu xs):Zv (pj J) 54 [.slice q xs.length cp] B [] (fun v B' Ls=>∃q c l,v = .slice q xs.length c∧B'=B∧Ls=[l]∧ZaP l q c 96 5 (ZU 259 99) xs):=by
 refine cB 23 Tryz.func54 (h:=?_)
 have hxn:=hx.len
 have hx21:=(ZaW hx20).1
 refine Za (xA (h:=Za (xM (h:=xV Tryz.underlying44 (h:=Zk (Za2 (m:=xs.length) (c:=xs.length) (by_:=88) [.string ⟨#[]⟩,.string ⟨#[]⟩,.slice none 0 0,.int .i64 0,.slice none 0 0] rfl rfl ZwB Zf6 rfl rfl ⟨_,_,rfl,by first | omega | (simp;done) | (simp;omega)⟩ ⟨_,_,rfl,by first | omega | (simp;done) | (simp;omega)⟩ om om (fun b1=>?_)))))))
 have hd1:=ZaP.zeros (b:=b1) (T:=96) (R:=(ZU 259 99)) (d:=(⟨[],[],[],0,[]⟩:DFolder)) (m:=xs.length) (c:=xs.length) (zs:=[.string ⟨#[]⟩,.string ⟨#[]⟩,.slice none 0 0,.int .i64 0,.slice none 0 0]) rfl (⟨_,_,_,_,[],[],rfl,rfl,ZN.nil,ZN.nil,by simp,by simp,by simp,by simp⟩) om
 refine xA (h:=tL1 (Zc (Za (xA (h:=Zh (Zz (α:=Nat × Cells) [0,2] (fun g=>[(3,.slice (some ⟨b1,0,none⟩) xs.length xs.length),(4,.int .i64 g.1)]) [0] (fun g=>[g.2]) (fun g Bx=>Bx=B∧g.1≤xs.length∧ZaP g.2 (some ⟨b1,0,none⟩) xs.length 96 5 (ZU 259 99) (fill xs (⟨[],[],[],0,[]⟩:DFolder) g.1)) (fun g=>xs.length - g.1) (0,_) t2 rfl (⟨rfl,Nat.zero_le _,by rw [ZdM];exact hd1⟩) (fun g B2 hle2 hI=>?_)))))))
 obtain ⟨rfl,hk,hvl⟩:=hI
 have hfl:=ZeT (d:=(⟨[],[],[],0,[]⟩:DFolder)) hk
 refine ZC [(0,_),(2,_),(3,_),(4,_)] [_] t4 rfl (Zc (Za (xM (h:=xM (h:=xV Tryz.underlying44 (h:=ZF (h:=Zb rfl (fun g1=>?_) (fun g1=>?_))))))))
 try simp only [sQ,ne_eq] at g1
 refine wSk (Zc (Zh (Zf (xM (h:=xM (h:=xM (h:=xM (h:=?_))))))))
 obtain ⟨z,hz⟩:=ZY (xs:=xs) (i:=g.1) om
 obtain ⟨bb4,oo4,rfl⟩:=hx.base hz
 obtain ⟨_,⟨qg5,cg5,qm5,cm5,rfl,hg5,hm5,hb5,hb5b⟩,hc5⟩:=hx.elem hz
 have hg5n:=hg5.len
 have hm5n:=hm5.len
 have hm5s:=Zaq hm5
 refine xIx Tryz.underlying44 ZvA (h:=?_)
 have hzz:=(ZaW hx20).2 z (List.mem_of_getElem? hz)
 have hza:=ZpM hzz
 refine yL [_,_,_,_,_] ZvS hc5 0 (h:=xC Zy5 rfl (Zne _ _ _ _ z _ hg5 hm5 om2 om2) (h:=?_))
 rintro _ B6 _ hle6 ⟨q6,c6,l6,q6b,c6b,l6b,rfl,rfl,rfl,hv6,hv6b⟩
 refine xIp rfl Tryz.underlying24 Zb0 (h:=Zk (Zu7 (R:=(ZU 259 99)) (k:=g.1) (z) 0 [1,2] rfl rfl hvl rfl om rfl rfl Zb0 rfl rfl rfl rfl rfl (l6 ++ l6b) (by simp) (⟨_,_,_,_,_,_,rfl,rfl,(hv6.anyK Z5.any),(hv6b.anyK Z6.any),by first | assumption | omega | (simp;done) | (simp;omega),by first | assumption | omega | (simp;done) | (simp;omega),by first | assumption | omega | (simp;done) | (simp;omega),by first | assumption | omega | (simp;done) | (simp;omega)⟩) (fun l8 hd8=>?_)))
 refine ZP (Zo (Zf (xM (h:=xD (h:=xA (h:=?_))))))
 exact ZD (g.1+1,l8) [0] so2 ⟨rfl,so,by rw [← ZdN hz];exact hd8⟩ t4 rfl
 try simp only [sQ,ne_eq] at g1
 refine ZE (ZV (ZH (Zw (Zo (Za (xM (h:=xA (h:=Ze ?_))))))))
 exact eN [0] rfl t1 ⟨_,_,_,rfl,rfl,rfl,by have e:=hvl;rw [ZeU oz] at e;exact e⟩

theorem ZeJ (q1 q2 q3:Option Addr) (c1 c2 c3:Nat) (x:DHost) (B:Kn) (hu:SlK B q1 c1 3 Zs x.users) (hf:SlK B q2 c2 5 Zu x.folders) (hi:SlK B q3 c3 4 ZI x.queue.items) (hsz:Zc1 x≤1048576):Zv (pj J) 15 [.agg #[str x.domain,.slice q1 x.users.length c1,.slice q2 x.folders.length c2,.int .i64 x.queue.next,.slice q3 x.queue.items.length c3]] B [] (fun v B' Ls=>∃q0 c0 l0 q1 c1 l1 q2 c2 l2,v = .agg #[str x.domain,.slice q0 x.users.length c0,.slice q1 x.folders.length c1,.int .i64 x.queue.next,.slice q2 x.queue.items.length c2]∧B'=B∧Ls=[l0,l1,l2]∧ZN Kn.none l0 q0 c0 141 3 Zs x.users∧ZaP l1 q1 c1 96 5 (ZU 259 99) x.folders∧ZaP l2 q2 c2 145 4 (ZaR 9) x.queue.items):=by
 refine cB 20 Tryz.func15 (h:=?_)
 have hsz2:=ZpE hsz
 refine Za (xBx [_,_,_,_,_] (h:=fun b1=>xAl [_,_,_,_,_] Zce (h:=fun b2=>tL2 (Za (xAl [_,_,_,_,_] Zce (h:=fun b3=>tL3 (Za (xW Zte (h:=x1 lk9 0 (h:=xW ZhF (h:=xS [_] 2 [_,_,_,_,_] sz9 (h:=tL3 (Za (xW Ztd (h:=x1 Zzo 0 (h:=xC ZAj rfl (Zoy _ _ x.users om2 _ hu) (h:=?_)))))))))))))))))
 rintro _ B4 _ hle4 ⟨q4,c4,l4,rfl,rfl,rfl,hv4⟩
 refine xW ZbZ (h:=xS [_] 2 [_,_,_,_,_] ZzJ (h:=tL4 (Za (xW Ztc (h:=x1 Zzn 0 (h:=xC ZAi rfl (Zk7 _ _ x.folders om2 _ hf) (h:=?_)))))))
 rintro _ B5 _ hle5 ⟨q5,c5,l5,rfl,rfl,rfl,hv5⟩
 refine xW Zay (h:=xS [_] 2 [_,_,_,_,_] Zzf (h:=tL5 (Za (xW Ztb (h:=xL [_,_] Zzl 0 (h:=xC ZAh rfl (Zoz _ _ ⟨x.queue.next,x.queue.items⟩ _ hi om2) (h:=?_)))))))
 rintro _ B6 _ hle6 ⟨q6,c6,l6,rfl,rfl,rfl,hv6⟩
 refine xW Zeh (h:=xS [_,_] 2 [_,_,_,_,_] ZtE (h:=tL6 (Za (xL [_,_,_,_,_] Zc6 2 (h:=xS [_,_,_,_,_] 1 [_,_,_,_,_] Zdh (h:=tL6 (Ze ?_)))))))
 exact eN [3,4,5] rfl ⟨⟨_,rfl,.inr ⟨[_,_,_,_,_],Zc6,ZbT 1 rfl rfl rfl,rfl⟩⟩,trivial⟩ ⟨_,_,_,_,_,_,_,_,_,rfl,rfl,rfl,hv4,hv5,hv6⟩

theorem Zsm   (a b:DUser) (B:Kn)   : Zaa (pj J) 111 [.agg #[str a.name,str a.pass,.int .i64 a.quota],.agg #[str b.name,str b.pass,.int .i64 b.quota]] B (.bool (decide (a=b))):=by
 refine cB 20 Tryz.func111 (h:=?_)
 refine Za (xBx [_,_,_] (h:=fun b1=>xBx [_,_,_] (h:=fun b2=>xA (h:=tL2 (Zc (Za (xW Za7 (h:=x1 lk9 0 (h:=xW Za7 (h:=x1 lk9 1 (h:=Ze5 (h:=Zb rfl (fun g1=>?_) (fun g1=>?_)))))))))))))
 try simp only [sQ,ne_eq] at g1
 refine Za (xA (h:=Ze (Zn ?_)))
 exact eR t1 ⟨Zd (by symm;rw [decide_eq_false_iff_not];rintro rfl;exact g1 rfl),rfl,rfl⟩
 try simp only [sQ,ne_eq] at g1
 refine wSk (Zc (Za (xW Zfz (h:=x1 lk9 0 (h:=xW Zfz (h:=x1 lk9 1 (h:=Ze5 (h:=Zb rfl (fun g2=>?_) (fun g2=>?_)))))))))
 try simp only [sQ,ne_eq] at g2
 refine Za (xA (h:=Ze (Zn ?_)))
 exact eR t1 ⟨Zd (by symm;rw [decide_eq_false_iff_not];rintro rfl;exact g2 rfl),rfl,rfl⟩
 try simp only [sQ,ne_eq] at g2
 refine wSk (Zc (Za (xW Zdu (h:=x1 lk3 0 (h:=xW Zdu (h:=x1 lk3 1 (h:=ZaL (h:=Zb rfl (fun g3=>?_) (fun g3=>?_)))))))))
 try simp only [sQ,ne_eq] at g3
 refine Za (xA (h:=Ze (Zn ?_)))
 exact eR t1 ⟨Zd (by symm;rw [decide_eq_false_iff_not];rintro rfl;exact g3 rfl),rfl,rfl⟩
 try simp only [sQ,ne_eq] at g3
 refine wSk (Za (xA (h:=Ze ?_)))
 exact eR t1 ⟨Zd (by symm;rw [decide_eq_true_eq];cases a;cases b;simp_all),rfl,rfl⟩

theorem Zqj   (a b:DGrant) (B:Kn)   : Zaa (pj J) 236 [.agg #[str a.user,.int .i64 a.rights],.agg #[str b.user,.int .i64 b.rights]] B (.bool (decide (a=b))):=by
 refine cB 15 Tryz.func236 (h:=?_)
 refine Za (xBx [_,_] (h:=fun b1=>xBx [_,_] (h:=fun b2=>xA (h:=tL2 (Zc (Za (xW Zcd (h:=x1 lk9 0 (h:=xW Zcd (h:=x1 lk9 1 (h:=Ze5 (h:=Zb rfl (fun g1=>?_) (fun g1=>?_)))))))))))))
 try simp only [sQ,ne_eq] at g1
 refine Za (xA (h:=Ze (Zn ?_)))
 exact eR t1 ⟨Zd (by symm;rw [decide_eq_false_iff_not];rintro rfl;exact g1 rfl),rfl,rfl⟩
 try simp only [sQ,ne_eq] at g1
 refine wSk (Zc (Za (xW Zc8 (h:=x1 lk3 0 (h:=xW Zc8 (h:=x1 lk3 1 (h:=ZaL (h:=Zb rfl (fun g2=>?_) (fun g2=>?_)))))))))
 try simp only [sQ,ne_eq] at g2
 refine Za (xA (h:=Ze (Zn ?_)))
 exact eR t1 ⟨Zd (by symm;rw [decide_eq_false_iff_not];rintro rfl;exact g2 rfl),rfl,rfl⟩
 try simp only [sQ,ne_eq] at g2
 refine wSk (Za (xA (h:=Ze ?_)))
 exact eR t1 ⟨Zd (by symm;rw [decide_eq_true_eq];cases a;cases b;simp_all),rfl,rfl⟩

theorem Zsn   (a b:DMail) (B:Kn)   : Zaa (pj J) 273 [.agg #[.int .i64 a.uid,.int .i64 a.flags,str a.text],.agg #[.int .i64 b.uid,.int .i64 b.flags,str b.text]] B (.bool (decide (a=b))):=by
 refine cB 20 Tryz.func273 (h:=?_)
 refine Za (xBx [_,_,_] (h:=fun b1=>xBx [_,_,_] (h:=fun b2=>xA (h:=tL2 (Zc (Za (xW Zeg (h:=x1 lk3 0 (h:=xW Zeg (h:=x1 lk3 1 (h:=ZaL (h:=Zb rfl (fun g1=>?_) (fun g1=>?_)))))))))))))
 try simp only [sQ,ne_eq] at g1
 refine Za (xA (h:=Ze (Zn ?_)))
 exact eR t1 ⟨Zd (by symm;rw [decide_eq_false_iff_not];rintro rfl;exact g1 rfl),rfl,rfl⟩
 try simp only [sQ,ne_eq] at g1
 refine wSk (Zc (Za (xW Zf0 (h:=x1 lk3 0 (h:=xW Zf0 (h:=x1 lk3 1 (h:=ZaL (h:=Zb rfl (fun g2=>?_) (fun g2=>?_)))))))))
 try simp only [sQ,ne_eq] at g2
 refine Za (xA (h:=Ze (Zn ?_)))
 exact eR t1 ⟨Zd (by symm;rw [decide_eq_false_iff_not];rintro rfl;exact g2 rfl),rfl,rfl⟩
 try simp only [sQ,ne_eq] at g2
 refine wSk (Zc (Za (xW ZfZ (h:=x1 lk9 0 (h:=xW ZfZ (h:=x1 lk9 1 (h:=Ze5 (h:=Zb rfl (fun g3=>?_) (fun g3=>?_)))))))))
 try simp only [sQ,ne_eq] at g3
 refine Za (xA (h:=Ze (Zn ?_)))
 exact eR t1 ⟨Zd (by symm;rw [decide_eq_false_iff_not];rintro rfl;exact g3 rfl),rfl,rfl⟩
 try simp only [sQ,ne_eq] at g3
 refine wSk (Za (xA (h:=Ze ?_)))
 exact eR t1 ⟨Zd (by symm;rw [decide_eq_true_eq];cases a;cases b;simp_all),rfl,rfl⟩

theorem Zjj (q q':Option Addr) (cp cp':Nat) (xs ys:List Int) (B:Kn) (ha:SlK B q cp 1 Zag xs) (hb:SlK B q' cp' 1 Zag ys):Zaa (pj J) 27 [.slice q xs.length cp,.slice q' ys.length cp'] B (.bool (decide (xs=ys))):=by
 refine cB 26 Tryz.func27 (h:=?_)
 have han:=ha.len
 have hbn:=hb.len
 refine Za (xA (h:=Zc (Za (xM (h:=xV Tryz.underlying65 (h:=xM (h:=xV Tryz.underlying65 (h:=ZaL (h:=Zb rfl (fun g1=>?_) (fun g1=>?_))))))))))
 try simp only [sQ,ne_eq] at g1
 refine Za (xA (h:=Ze (Zn ?_)))
 exact eR t1 ⟨Zd (ZfD g1),rfl,rfl⟩
 try simp only [sQ,ne_eq] at g1
 refine wSk (Zc (Za (xA (h:=Zh (Zz (α:=Nat) [0,1,10] (fun k=>[(5,.int .i64 k)]) [] (fun k=>[]) (fun k Bx=>Bx=B∧k≤xs.length∧xs.take k=ys.take k) (fun k=>xs.length - k) 0 t1 rfl (⟨rfl,Nat.zero_le _,by simp⟩) (fun k B1 hle1 hI=>?_))))))
 obtain ⟨rfl,hk,he⟩:=hI
 refine ZC [(0,_),(1,_),(5,_),(10,_)] [] t4 rfl (Zc (Za (xM (h:=xM (h:=xV Tryz.underlying65 (h:=ZF (h:=Zb rfl (fun g2=>?_) (fun g2=>?_))))))))
 try simp only [sQ,ne_eq] at g2
 refine wSk (Zc (Zh (Zc (Z2 (same _ _) mo kr ⟨rfl,rfl⟩ (fun _ _=>?_)))))
 refine aM 0 rfl (h:=aM 1 rfl (h:=?_))
 obtain ⟨x,hx⟩:=ZY (xs:=xs) (i:=k) om
 obtain ⟨bb3,oo3,rfl⟩:=ha.base hx
 obtain ⟨_,rfl,hc4⟩:=ha.elem hx
 refine aIx 2 rfl Tryz.underlying65 sz3 (h:=aT 3 rfl (Zac fun D=>Zm rfl rfl lk3 rfl (hc4 _ 0 _ rfl) r4) (h:=aM 4 rfl (h:=aM 5 rfl (h:=?_))))
 obtain ⟨y,hy⟩:=ZY (xs:=ys) (i:=k) om
 obtain ⟨bb6,oo6,rfl⟩:=hb.base hy
 obtain ⟨_,rfl,hc7⟩:=hb.elem hy
 refine aIx 6 rfl Tryz.underlying65 sz3 (h:=aT 7 rfl (Zac fun D=>Zm rfl rfl lk3 rfl (hc7 _ 0 _ rfl) r4) (h:=Ztl 8 rfl (h:=Zt kr kr ?_)))
 refine Zo (Zb rfl (fun g3=>?_) (fun g3=>?_))
 try simp only [sQ,ne_eq] at g3
 refine Za (xA (h:=Ze (ZB (Zn (ZS (ZB (Zn ?_)))))))
 exact eR t1 ⟨Zd (Zd9 hx hy g3),rfl,rfl⟩
 try simp only [sQ,ne_eq] at g3
 refine ZX (ZP (Zo (Zf (xM (h:=xD (h:=xA (h:=?_)))))))
 exact ZD (k+1) [] so2 ⟨rfl,oz,Zbj hx hy g3 he⟩ t4 rfl
 try simp only [sQ,ne_eq] at g2
 refine ZE (ZV (ZH (Zw (Zo (Za (xA (h:=Ze ?_)))))))
 exact eR t1 ⟨Zd (eqT oz oz he),rfl,rfl⟩

theorem Zqf (q q':Option Addr) (cp cp':Nat) (xs ys:List DUser) (B:Kn) (ha:SlK B q cp 3 Zs xs) (hb:SlK B q' cp' 3 Zs ys):Zaa (pj J) 58 [.slice q xs.length cp,.slice q' ys.length cp'] B (.bool (decide (xs=ys))):=by
 refine cB 27 Tryz.func58 (h:=?_)
 have han:=ha.len
 have hbn:=hb.len
 refine Za (xA (h:=Zc (Za (xM (h:=xV Tryz.underlying23 (h:=xM (h:=xV Tryz.underlying23 (h:=ZaL (h:=Zb rfl (fun g1=>?_) (fun g1=>?_))))))))))
 try simp only [sQ,ne_eq] at g1
 refine Za (xA (h:=Ze (Zn ?_)))
 exact eR t1 ⟨Zd (ZfD g1),rfl,rfl⟩
 try simp only [sQ,ne_eq] at g1
 refine wSk (Zc (Za (xA (h:=Zh (Zz (α:=Nat) [0,1,10] (fun k=>[(5,.int .i64 k)]) [] (fun k=>[]) (fun k Bx=>Bx=B∧k≤xs.length∧xs.take k=ys.take k) (fun k=>xs.length - k) 0 t1 rfl (⟨rfl,Nat.zero_le _,by simp⟩) (fun k B1 hle1 hI=>?_))))))
 obtain ⟨rfl,hk,he⟩:=hI
 refine ZC [(0,_),(1,_),(5,_),(10,_)] [] t4 rfl (Zc (Za (xM (h:=xM (h:=xV Tryz.underlying23 (h:=ZF (h:=Zb rfl (fun g2=>?_) (fun g2=>?_))))))))
 try simp only [sQ,ne_eq] at g2
 refine wSk (Zc (Zh (Zc (Z2 (same _ _) mo kr ⟨rfl,rfl⟩ (fun _ _=>?_)))))
 refine aM 0 rfl (h:=aM 1 rfl (h:=?_))
 obtain ⟨x,hx⟩:=ZY (xs:=xs) (i:=k) om
 obtain ⟨bb3,oo3,rfl⟩:=ha.base hx
 obtain ⟨_,⟨rfl,hb4,hb4b⟩,hc4⟩:=ha.elem hx
 refine aIx 2 rfl Tryz.underlying23 Zbh (h:=aT 3 rfl (Zac fun D=>Z0 [_,_,_] rfl rfl Ze3 rfl (Zlh hc4 0 rfl rfl) r4) (h:=aM 4 rfl (h:=aM 5 rfl (h:=?_))))
 obtain ⟨y,hy⟩:=ZY (xs:=ys) (i:=k) om
 obtain ⟨bb6,oo6,rfl⟩:=hb.base hy
 obtain ⟨_,⟨rfl,hb7,hb7b⟩,hc7⟩:=hb.elem hy
 refine aIx 6 rfl Tryz.underlying23 Zbh (h:=aT 7 rfl (Zac fun D=>Z0 [_,_,_] rfl rfl Ze3 rfl (Zlh hc7 0 rfl rfl) r4) (h:=aT 8 rfl (Zac fun D=>Z8 rfl rfl Zy3 rfl (Zsm x y _ ) r4) (h:=aN 9 rfl (h:=Zt kr kr ?_))))
 refine Zo (Zb rfl (fun g3=>?_) (fun g3=>?_))
 try simp only [sQ,ne_eq] at g3
 refine Za (xA (h:=Ze (ZB (Zn (ZS (ZB (Zn ?_)))))))
 exact eR t1 ⟨Zd (Zd9 hx hy g3),rfl,rfl⟩
 try simp only [sQ,ne_eq] at g3
 refine ZX (ZP (Zo (Zf (xM (h:=xD (h:=xA (h:=?_)))))))
 exact ZD (k+1) [] so2 ⟨rfl,oz,Zbj hx hy g3 he⟩ t4 rfl
 try simp only [sQ,ne_eq] at g2
 refine ZE (ZV (ZH (Zw (Zo (Za (xA (h:=Ze ?_)))))))
 exact eR t1 ⟨Zd (eqT oz oz he),rfl,rfl⟩

theorem ZnW (q q':Option Addr) (cp cp':Nat) (xs ys:List DGrant) (B:Kn) (ha:SlK B q cp 2 Z5 xs) (hb:SlK B q' cp' 2 Z5 ys):Zaa (pj J) 176 [.slice q xs.length cp,.slice q' ys.length cp'] B (.bool (decide (xs=ys))):=by
 refine cB 27 Tryz.func176 (h:=?_)
 have han:=ha.len
 have hbn:=hb.len
 refine Za (xA (h:=Zc (Za (xM (h:=xV Tryz.underlying94 (h:=xM (h:=xV Tryz.underlying94 (h:=ZaL (h:=Zb rfl (fun g1=>?_) (fun g1=>?_))))))))))
 try simp only [sQ,ne_eq] at g1
 refine Za (xA (h:=Ze (Zn ?_)))
 exact eR t1 ⟨Zd (ZfD g1),rfl,rfl⟩
 try simp only [sQ,ne_eq] at g1
 refine wSk (Zc (Za (xA (h:=Zh (Zz (α:=Nat) [0,1,10] (fun k=>[(5,.int .i64 k)]) [] (fun k=>[]) (fun k Bx=>Bx=B∧k≤xs.length∧xs.take k=ys.take k) (fun k=>xs.length - k) 0 t1 rfl (⟨rfl,Nat.zero_le _,by simp⟩) (fun k B1 hle1 hI=>?_))))))
 obtain ⟨rfl,hk,he⟩:=hI
 refine ZC [(0,_),(1,_),(5,_),(10,_)] [] t4 rfl (Zc (Za (xM (h:=xM (h:=xV Tryz.underlying94 (h:=ZF (h:=Zb rfl (fun g2=>?_) (fun g2=>?_))))))))
 try simp only [sQ,ne_eq] at g2
 refine wSk (Zc (Zh (Zc (Z2 (same _ _) mo kr ⟨rfl,rfl⟩ (fun _ _=>?_)))))
 refine aM 0 rfl (h:=aM 1 rfl (h:=?_))
 obtain ⟨x,hx⟩:=ZY (xs:=xs) (i:=k) om
 obtain ⟨bb3,oo3,rfl⟩:=ha.base hx
 obtain ⟨_,⟨rfl,hb4⟩,hc4⟩:=ha.elem hx
 refine aIx 2 rfl Tryz.underlying94 Zds (h:=aT 3 rfl (Zac fun D=>Z0 [_,_] rfl rfl Zpp rfl (Zlh hc4 0 rfl rfl) r4) (h:=aM 4 rfl (h:=aM 5 rfl (h:=?_))))
 obtain ⟨y,hy⟩:=ZY (xs:=ys) (i:=k) om
 obtain ⟨bb6,oo6,rfl⟩:=hb.base hy
 obtain ⟨_,⟨rfl,hb7⟩,hc7⟩:=hb.elem hy
 refine aIx 6 rfl Tryz.underlying94 Zds (h:=aT 7 rfl (Zac fun D=>Z0 [_,_] rfl rfl Zpp rfl (Zlh hc7 0 rfl rfl) r4) (h:=aT 8 rfl (Zac fun D=>Z8 rfl rfl ZxW rfl (Zqj x y _ ) r4) (h:=aN 9 rfl (h:=Zt kr kr ?_))))
 refine Zo (Zb rfl (fun g3=>?_) (fun g3=>?_))
 try simp only [sQ,ne_eq] at g3
 refine Za (xA (h:=Ze (ZB (Zn (ZS (ZB (Zn ?_)))))))
 exact eR t1 ⟨Zd (Zd9 hx hy g3),rfl,rfl⟩
 try simp only [sQ,ne_eq] at g3
 refine ZX (ZP (Zo (Zf (xM (h:=xD (h:=xA (h:=?_)))))))
 exact ZD (k+1) [] so2 ⟨rfl,oz,Zbj hx hy g3 he⟩ t4 rfl
 try simp only [sQ,ne_eq] at g2
 refine ZE (ZV (ZH (Zw (Zo (Za (xA (h:=Ze ?_)))))))
 exact eR t1 ⟨Zd (eqT oz oz he),rfl,rfl⟩

theorem Zqh (q q':Option Addr) (cp cp':Nat) (xs ys:List DMail) (B:Kn) (ha:SlK B q cp 3 Z6 xs) (hb:SlK B q' cp' 3 Z6 ys):Zaa (pj J) 237 [.slice q xs.length cp,.slice q' ys.length cp'] B (.bool (decide (xs=ys))):=by
 refine cB 27 Tryz.func237 (h:=?_)
 have han:=ha.len
 have hbn:=hb.len
 refine Za (xA (h:=Zc (Za (xM (h:=xV Tryz.underlying91 (h:=xM (h:=xV Tryz.underlying91 (h:=ZaL (h:=Zb rfl (fun g1=>?_) (fun g1=>?_))))))))))
 try simp only [sQ,ne_eq] at g1
 refine Za (xA (h:=Ze (Zn ?_)))
 exact eR t1 ⟨Zd (ZfD g1),rfl,rfl⟩
 try simp only [sQ,ne_eq] at g1
 refine wSk (Zc (Za (xA (h:=Zh (Zz (α:=Nat) [0,1,10] (fun k=>[(5,.int .i64 k)]) [] (fun k=>[]) (fun k Bx=>Bx=B∧k≤xs.length∧xs.take k=ys.take k) (fun k=>xs.length - k) 0 t1 rfl (⟨rfl,Nat.zero_le _,by simp⟩) (fun k B1 hle1 hI=>?_))))))
 obtain ⟨rfl,hk,he⟩:=hI
 refine ZC [(0,_),(1,_),(5,_),(10,_)] [] t4 rfl (Zc (Za (xM (h:=xM (h:=xV Tryz.underlying91 (h:=ZF (h:=Zb rfl (fun g2=>?_) (fun g2=>?_))))))))
 try simp only [sQ,ne_eq] at g2
 refine wSk (Zc (Zh (Zc (Z2 (same _ _) mo kr ⟨rfl,rfl⟩ (fun _ _=>?_)))))
 refine aM 0 rfl (h:=aM 1 rfl (h:=?_))
 obtain ⟨x,hx⟩:=ZY (xs:=xs) (i:=k) om
 obtain ⟨bb3,oo3,rfl⟩:=ha.base hx
 obtain ⟨_,⟨rfl,hb4⟩,hc4⟩:=ha.elem hx
 refine aIx 2 rfl Tryz.underlying91 Zf7 (h:=aT 3 rfl (Zac fun D=>Z0 [_,_,_] rfl rfl ZmI rfl (Zlh hc4 0 rfl rfl) r4) (h:=aM 4 rfl (h:=aM 5 rfl (h:=?_))))
 obtain ⟨y,hy⟩:=ZY (xs:=ys) (i:=k) om
 obtain ⟨bb6,oo6,rfl⟩:=hb.base hy
 obtain ⟨_,⟨rfl,hb7⟩,hc7⟩:=hb.elem hy
 refine aIx 6 rfl Tryz.underlying91 Zf7 (h:=aT 7 rfl (Zac fun D=>Z0 [_,_,_] rfl rfl ZmI rfl (Zlh hc7 0 rfl rfl) r4) (h:=aT 8 rfl (Zac fun D=>Z8 rfl rfl ZxE rfl (Zsn x y _ ) r4) (h:=aN 9 rfl (h:=Zt kr kr ?_))))
 refine Zo (Zb rfl (fun g3=>?_) (fun g3=>?_))
 try simp only [sQ,ne_eq] at g3
 refine Za (xA (h:=Ze (ZB (Zn (ZS (ZB (Zn ?_)))))))
 exact eR t1 ⟨Zd (Zd9 hx hy g3),rfl,rfl⟩
 try simp only [sQ,ne_eq] at g3
 refine ZX (ZP (Zo (Zf (xM (h:=xD (h:=xA (h:=?_)))))))
 exact ZD (k+1) [] so2 ⟨rfl,oz,Zbj hx hy g3 he⟩ t4 rfl
 try simp only [sQ,ne_eq] at g2
 refine ZE (ZV (ZH (Zw (Zo (Za (xA (h:=Ze ?_)))))))
 exact eR t1 ⟨Zd (eqT oz oz he),rfl,rfl⟩

theorem Zso (q1:Option Addr) (cp1:Nat) (q2:Option Addr) (cp2:Nat) (a b:DItem) (B:Kn) (h1:SlK B q1 cp1 1 Zde a.left) (h2:SlK B q2 cp2 1 Zde b.left):Zaa (pj J) 178 [.agg #[.int .i64 a.id,str a.fr,str a.text,.slice q1 a.left.length cp1],.agg #[.int .i64 b.id,str b.fr,str b.text,.slice q2 b.left.length cp2]] B (.bool (decide (a=b))):=by
 refine cB 26 Tryz.func178 (h:=?_)
 refine Za (xBx [_,_,_,_] (h:=fun b1=>xBx [_,_,_,_] (h:=fun b2=>xA (h:=tL2 (Zc (Za (xW Zd7 (h:=x1 lk3 0 (h:=xW Zd7 (h:=x1 lk3 1 (h:=ZaL (h:=Zb rfl (fun g1=>?_) (fun g1=>?_)))))))))))))
 try simp only [sQ,ne_eq] at g1
 refine Za (xA (h:=Ze (Zn ?_)))
 exact eR t1 ⟨Zd (by symm;rw [decide_eq_false_iff_not];rintro rfl;exact g1 rfl),rfl,rfl⟩
 try simp only [sQ,ne_eq] at g1
 refine wSk (Zc (Za (xW Zd6 (h:=x1 lk9 0 (h:=xW Zd6 (h:=x1 lk9 1 (h:=Ze5 (h:=Zb rfl (fun g2=>?_) (fun g2=>?_)))))))))
 try simp only [sQ,ne_eq] at g2
 refine Za (xA (h:=Ze (Zn ?_)))
 exact eR t1 ⟨Zd (by symm;rw [decide_eq_false_iff_not];rintro rfl;exact g2 rfl),rfl,rfl⟩
 try simp only [sQ,ne_eq] at g2
 refine wSk (Zc (Za (xW Zfy (h:=x1 lk9 0 (h:=xW Zfy (h:=x1 lk9 1 (h:=Ze5 (h:=Zb rfl (fun g3=>?_) (fun g3=>?_)))))))))
 try simp only [sQ,ne_eq] at g3
 refine Za (xA (h:=Ze (Zn ?_)))
 exact eR t1 ⟨Zd (by symm;rw [decide_eq_false_iff_not];rintro rfl;exact g3 rfl),rfl,rfl⟩
 try simp only [sQ,ne_eq] at g3
 refine wSk (Zc (Za (xW Zcs (h:=x1 Zft 0 (h:=xW Zcs (h:=x1 Zft 1 (h:=xR ZxU rfl (Zl2 _ _ _ _ _ _ _ h1 h2) (h:=xN (h:=Zb rfl (fun g4=>?_) (fun g4=>?_))))))))))
 try simp only [sQ,ne_eq] at g4
 refine Za (xA (h:=Ze (Zn ?_)))
 exact eR t1 ⟨Zd (by symm;rw [decide_eq_false_iff_not];rintro rfl;exact g4 rfl),rfl,rfl⟩
 try simp only [sQ,ne_eq] at g4
 refine wSk (Za (xA (h:=Ze ?_)))
 exact eR t1 ⟨Zd (by symm;rw [decide_eq_true_eq];cases a;cases b;simp_all),rfl,rfl⟩

theorem Zqi (q q':Option Addr) (cp cp':Nat) (xs ys:List DItem) (B:Kn) (ha:SlK B q cp 4 ZI xs) (hb:SlK B q' cp' 4 ZI ys):Zaa (pj J) 113 [.slice q xs.length cp,.slice q' ys.length cp'] B (.bool (decide (xs=ys))):=by
 refine cB 27 Tryz.func113 (h:=?_)
 have han:=ha.len
 have hbn:=hb.len
 refine Za (xA (h:=Zc (Za (xM (h:=xV Tryz.underlying25 (h:=xM (h:=xV Tryz.underlying25 (h:=ZaL (h:=Zb rfl (fun g1=>?_) (fun g1=>?_))))))))))
 try simp only [sQ,ne_eq] at g1
 refine Za (xA (h:=Ze (Zn ?_)))
 exact eR t1 ⟨Zd (ZfD g1),rfl,rfl⟩
 try simp only [sQ,ne_eq] at g1
 refine wSk (Zc (Za (xA (h:=Zh (Zz (α:=Nat) [0,1,10] (fun k=>[(5,.int .i64 k)]) [] (fun k=>[]) (fun k Bx=>Bx=B∧k≤xs.length∧xs.take k=ys.take k) (fun k=>xs.length - k) 0 t1 rfl (⟨rfl,Nat.zero_le _,by simp⟩) (fun k B1 hle1 hI=>?_))))))
 obtain ⟨rfl,hk,he⟩:=hI
 refine ZC [(0,_),(1,_),(5,_),(10,_)] [] t4 rfl (Zc (Za (xM (h:=xM (h:=xV Tryz.underlying25 (h:=ZF (h:=Zb rfl (fun g2=>?_) (fun g2=>?_))))))))
 try simp only [sQ,ne_eq] at g2
 refine wSk (Zc (Zh (Zc (Z2 (same _ _) mo kr ⟨rfl,rfl⟩ (fun _ _=>?_)))))
 refine aM 0 rfl (h:=aM 1 rfl (h:=?_))
 obtain ⟨x,hx⟩:=ZY (xs:=xs) (i:=k) om
 obtain ⟨bb3,oo3,rfl⟩:=ha.base hx
 obtain ⟨_,⟨qi4,ci4,rfl,hi4,hb4,hb4b⟩,hc4⟩:=ha.elem hx
 have hi4n:=hi4.len
 refine aIx 2 rfl Tryz.underlying25 Zbr (h:=aT 3 rfl (Zac fun D=>Z0 [_,_,_,_] rfl rfl Zeo rfl (Zlh hc4 0 rfl rfl) r4) (h:=aM 4 rfl (h:=aM 5 rfl (h:=?_))))
 obtain ⟨y,hy⟩:=ZY (xs:=ys) (i:=k) om
 obtain ⟨bb6,oo6,rfl⟩:=hb.base hy
 obtain ⟨_,⟨qi7,ci7,rfl,hi7,hb7,hb7b⟩,hc7⟩:=hb.elem hy
 have hi7n:=hi7.len
 refine aIx 6 rfl Tryz.underlying25 Zbr (h:=aT 7 rfl (Zac fun D=>Z0 [_,_,_,_] rfl rfl Zeo rfl (Zlh hc7 0 rfl rfl) r4) (h:=aT 8 rfl (Zac fun D=>Z8 rfl rfl Zym rfl (Zso _ _ _ _ x y _ hi4 hi7) r4) (h:=aN 9 rfl (h:=Zt kr kr ?_))))
 refine Zo (Zb rfl (fun g3=>?_) (fun g3=>?_))
 try simp only [sQ,ne_eq] at g3
 refine Za (xA (h:=Ze (ZB (Zn (ZS (ZB (Zn ?_)))))))
 exact eR t1 ⟨Zd (Zd9 hx hy g3),rfl,rfl⟩
 try simp only [sQ,ne_eq] at g3
 refine ZX (ZP (Zo (Zf (xM (h:=xD (h:=xA (h:=?_)))))))
 exact ZD (k+1) [] so2 ⟨rfl,oz,Zbj hx hy g3 he⟩ t4 rfl
 try simp only [sQ,ne_eq] at g2
 refine ZE (ZV (ZH (Zw (Zo (Za (xA (h:=Ze ?_)))))))
 exact eR t1 ⟨Zd (eqT oz oz he),rfl,rfl⟩

theorem Zqg (q1:Option Addr) (cp1:Nat) (q2:Option Addr) (cp2:Nat) (a b:DQueue) (B:Kn) (h1:SlK B q1 cp1 4 ZI a.items) (h2:SlK B q2 cp2 4 ZI b.items):Zaa (pj J) 60 [.agg #[.int .i64 a.next,.slice q1 a.items.length cp1],.agg #[.int .i64 b.next,.slice q2 b.items.length cp2]] B (.bool (decide (a=b))):=by
 refine cB 16 Tryz.func60 (h:=?_)
 refine Za (xBx [_,_] (h:=fun b1=>xBx [_,_] (h:=fun b2=>xA (h:=tL2 (Zc (Za (xW Zf1 (h:=x1 lk3 0 (h:=xW Zf1 (h:=x1 lk3 1 (h:=ZaL (h:=Zb rfl (fun g1=>?_) (fun g1=>?_)))))))))))))
 try simp only [sQ,ne_eq] at g1
 refine Za (xA (h:=Ze (Zn ?_)))
 exact eR t1 ⟨Zd (by symm;rw [decide_eq_false_iff_not];rintro rfl;exact g1 rfl),rfl,rfl⟩
 try simp only [sQ,ne_eq] at g1
 refine wSk (Zc (Za (xW ZbG (h:=x1 Zin 0 (h:=xW ZbG (h:=x1 Zin 1 (h:=xR Zy1 rfl (Zqi _ _ _ _ _ _ _ h1 h2) (h:=xN (h:=Zb rfl (fun g2=>?_) (fun g2=>?_))))))))))
 try simp only [sQ,ne_eq] at g2
 refine Za (xA (h:=Ze (Zn ?_)))
 exact eR t1 ⟨Zd (by symm;rw [decide_eq_false_iff_not];rintro rfl;exact g2 rfl),rfl,rfl⟩
 try simp only [sQ,ne_eq] at g2
 refine wSk (Za (xA (h:=Ze ?_)))
 exact eR t1 ⟨Zd (by symm;rw [decide_eq_true_eq];cases a;cases b;simp_all),rfl,rfl⟩

theorem ZuC (q1:Option Addr) (cp1:Nat) (q2:Option Addr) (cp2:Nat) (a b:DBox) (B:Kn) (h1:SlK B q1 cp1 3 Z6 a.mail) (h2:SlK B q2 cp2 3 Z6 b.mail):Zaa (pj J) 177 [.agg #[.int .i64 a.next,.slice q1 a.mail.length cp1],.agg #[.int .i64 b.next,.slice q2 b.mail.length cp2]] B (.bool (decide (a=b))):=by
 refine cB 16 Tryz.func177 (h:=?_)
 refine Za (xBx [_,_] (h:=fun b1=>xBx [_,_] (h:=fun b2=>xA (h:=tL2 (Zc (Za (xW ZeA (h:=x1 lk3 0 (h:=xW ZeA (h:=x1 lk3 1 (h:=ZaL (h:=Zb rfl (fun g1=>?_) (fun g1=>?_)))))))))))))
 try simp only [sQ,ne_eq] at g1
 refine Za (xA (h:=Ze (Zn ?_)))
 exact eR t1 ⟨Zd (by symm;rw [decide_eq_false_iff_not];rintro rfl;exact g1 rfl),rfl,rfl⟩
 try simp only [sQ,ne_eq] at g1
 refine wSk (Zc (Za (xW Za9 (h:=x1 Zh0 0 (h:=xW Za9 (h:=x1 Zh0 1 (h:=xR ZxV rfl (Zqh _ _ _ _ _ _ _ h1 h2) (h:=xN (h:=Zb rfl (fun g2=>?_) (fun g2=>?_))))))))))
 try simp only [sQ,ne_eq] at g2
 refine Za (xA (h:=Ze (Zn ?_)))
 exact eR t1 ⟨Zd (by symm;rw [decide_eq_false_iff_not];rintro rfl;exact g2 rfl),rfl,rfl⟩
 try simp only [sQ,ne_eq] at g2
 refine wSk (Za (xA (h:=Ze ?_)))
 exact eR t1 ⟨Zd (by symm;rw [decide_eq_true_eq];cases a;cases b;simp_all),rfl,rfl⟩

theorem ZnX (qa1 qb1:Option Addr) (ca1 cb1:Nat) (qa2 qb2:Option Addr) (ca2 cb2:Nat) (a b:DFolder) (B:Kn) (hg1:SlK B qa1 ca1 2 Z5 a.grants) (hm1:SlK B qb1 cb1 3 Z6 a.mail) (hg2:SlK B qa2 ca2 2 Z5 b.grants) (hm2:SlK B qb2 cb2 3 Z6 b.mail):Zaa (pj J) 112 [.agg #[str a.owner,str a.name,.slice qa1 a.grants.length ca1,.int .i64 a.next,.slice qb1 a.mail.length cb1],.agg #[str b.owner,str b.name,.slice qa2 b.grants.length ca2,.int .i64 b.next,.slice qb2 b.mail.length cb2]] B (.bool (decide (a=b))):=by
 refine cB 27 Tryz.func112 (h:=?_)
 refine Za (xBx [_,_,_,_,_] (h:=fun b1=>xBx [_,_,_,_,_] (h:=fun b2=>xA (h:=tL2 (Zc (Za (xW Zcc (h:=x1 lk9 0 (h:=xW Zcc (h:=x1 lk9 1 (h:=Ze5 (h:=Zb rfl (fun g1=>?_) (fun g1=>?_)))))))))))))
 try simp only [sQ,ne_eq] at g1
 refine Za (xA (h:=Ze (Zn ?_)))
 exact eR t1 ⟨Zd (by symm;rw [decide_eq_false_iff_not];rintro rfl;exact g1 rfl),rfl,rfl⟩
 try simp only [sQ,ne_eq] at g1
 refine wSk (Zc (Za (xW ZdJ (h:=x1 lk9 0 (h:=xW ZdJ (h:=x1 lk9 1 (h:=Ze5 (h:=Zb rfl (fun g2=>?_) (fun g2=>?_)))))))))
 try simp only [sQ,ne_eq] at g2
 refine Za (xA (h:=Ze (Zn ?_)))
 exact eR t1 ⟨Zd (by symm;rw [decide_eq_false_iff_not];rintro rfl;exact g2 rfl),rfl,rfl⟩
 try simp only [sQ,ne_eq] at g2
 refine wSk (Zc (Za (xW ZdI (h:=x1 ZqU 0 (h:=xW ZdI (h:=x1 ZqU 1 (h:=xR Zyo rfl (ZnW _ _ _ _ _ _ _ hg1 hg2) (h:=xN (h:=Zb rfl (fun g3=>?_) (fun g3=>?_))))))))))
 try simp only [sQ,ne_eq] at g3
 refine Za (xA (h:=Ze (Zn ?_)))
 exact eR t1 ⟨Zd (by symm;rw [decide_eq_false_iff_not];rintro rfl;exact g3 rfl),rfl,rfl⟩
 try simp only [sQ,ne_eq] at g3
 refine wSk (Zc (Za (xW Zcb (h:=xL [_,_] ZgV 0 (h:=xW Zcb (h:=xL [_,_] ZgV 1 (h:=xR Zyn rfl (ZuC _ _ _ _ (⟨a.next,a.mail⟩:DBox) (⟨b.next,b.mail⟩:DBox) _ hm1 hm2) (h:=xN (h:=Zb rfl (fun g4=>?_) (fun g4=>?_))))))))))
 try simp only [sQ,ne_eq] at g4
 refine Za (xA (h:=Ze (Zn ?_)))
 exact eR t1 ⟨Zd (by symm;rw [decide_eq_false_iff_not];rintro rfl;exact g4 rfl),rfl,rfl⟩
 try simp only [sQ,ne_eq] at g4
 refine wSk (Za (xA (h:=Ze ?_)))
 exact eR t1 ⟨Zd (by symm;rw [decide_eq_true_eq];cases a;cases b;simp_all),rfl,rfl⟩

theorem Zl3 (q q':Option Addr) (cp cp':Nat) (xs ys:List DFolder) (B:Kn) (ha:SlK B q cp 5 Zu xs) (hb:SlK B q' cp' 5 Zu ys):Zaa (pj J) 59 [.slice q xs.length cp,.slice q' ys.length cp'] B (.bool (decide (xs=ys))):=by
 refine cB 27 Tryz.func59 (h:=?_)
 have han:=ha.len
 have hbn:=hb.len
 refine Za (xA (h:=Zc (Za (xM (h:=xV Tryz.underlying24 (h:=xM (h:=xV Tryz.underlying24 (h:=ZaL (h:=Zb rfl (fun g1=>?_) (fun g1=>?_))))))))))
 try simp only [sQ,ne_eq] at g1
 refine Za (xA (h:=Ze (Zn ?_)))
 exact eR t1 ⟨Zd (ZfD g1),rfl,rfl⟩
 try simp only [sQ,ne_eq] at g1
 refine wSk (Zc (Za (xA (h:=Zh (Zz (α:=Nat) [0,1,10] (fun k=>[(5,.int .i64 k)]) [] (fun k=>[]) (fun k Bx=>Bx=B∧k≤xs.length∧xs.take k=ys.take k) (fun k=>xs.length - k) 0 t1 rfl (⟨rfl,Nat.zero_le _,by simp⟩) (fun k B1 hle1 hI=>?_))))))
 obtain ⟨rfl,hk,he⟩:=hI
 refine ZC [(0,_),(1,_),(5,_),(10,_)] [] t4 rfl (Zc (Za (xM (h:=xM (h:=xV Tryz.underlying24 (h:=ZF (h:=Zb rfl (fun g2=>?_) (fun g2=>?_))))))))
 try simp only [sQ,ne_eq] at g2
 refine wSk (Zc (Zh (Zc (Z2 (same _ _) mo kr ⟨rfl,rfl⟩ (fun _ _=>?_)))))
 refine aM 0 rfl (h:=aM 1 rfl (h:=?_))
 obtain ⟨x,hx⟩:=ZY (xs:=xs) (i:=k) om
 obtain ⟨bb3,oo3,rfl⟩:=ha.base hx
 obtain ⟨_,⟨qg4,cg4,qm4,cm4,rfl,hg4,hm4,hb4,hb4b⟩,hc4⟩:=ha.elem hx
 have hg4n:=hg4.len
 have hm4n:=hm4.len
 have hm4s:=Zaq hm4
 refine aIx 2 rfl Tryz.underlying24 Zb0 (h:=aT 3 rfl (Zac fun D=>Z0 [_,_,_,_,_] rfl rfl ZhZ rfl (Zlh hc4 0 rfl rfl) r4) (h:=aM 4 rfl (h:=aM 5 rfl (h:=?_))))
 obtain ⟨y,hy⟩:=ZY (xs:=ys) (i:=k) om
 obtain ⟨bb6,oo6,rfl⟩:=hb.base hy
 obtain ⟨_,⟨qg7,cg7,qm7,cm7,rfl,hg7,hm7,hb7,hb7b⟩,hc7⟩:=hb.elem hy
 have hg7n:=hg7.len
 have hm7n:=hm7.len
 have hm7s:=Zaq hm7
 refine aIx 6 rfl Tryz.underlying24 Zb0 (h:=aT 7 rfl (Zac fun D=>Z0 [_,_,_,_,_] rfl rfl ZhZ rfl (Zlh hc7 0 rfl rfl) r4) (h:=aT 8 rfl (Zac fun D=>Z8 rfl rfl Zy2 rfl (ZnX _ _ _ _ _ _ _ _ x y _ hg4 hm4 hg7 hm7) r4) (h:=aN 9 rfl (h:=Zt kr kr ?_))))
 refine Zo (Zb rfl (fun g3=>?_) (fun g3=>?_))
 try simp only [sQ,ne_eq] at g3
 refine Za (xA (h:=Ze (ZB (Zn (ZS (ZB (Zn ?_)))))))
 exact eR t1 ⟨Zd (Zd9 hx hy g3),rfl,rfl⟩
 try simp only [sQ,ne_eq] at g3
 refine ZX (ZP (Zo (Zf (xM (h:=xD (h:=xA (h:=?_)))))))
 exact ZD (k+1) [] so2 ⟨rfl,oz,Zbj hx hy g3 he⟩ t4 rfl
 try simp only [sQ,ne_eq] at g2
 refine ZE (ZV (ZH (Zw (Zo (Za (xA (h:=Ze ?_)))))))
 exact eR t1 ⟨Zd (eqT oz oz he),rfl,rfl⟩

theorem ZgY (qa1 qb1 qc1:Option Addr) (ca1 cb1 cc1:Nat) (qa2 qb2 qc2:Option Addr) (ca2 cb2 cc2:Nat) (a b:DHost) (B:Kn) (hu1:SlK B qa1 ca1 3 Zs a.users) (hf1:SlK B qb1 cb1 5 Zu a.folders) (hi1:SlK B qc1 cc1 4 ZI a.queue.items) (hu2:SlK B qa2 ca2 3 Zs b.users) (hf2:SlK B qb2 cb2 5 Zu b.folders) (hi2:SlK B qc2 cc2 4 ZI b.queue.items):Zaa (pj J) 19 [.agg #[str a.domain,.slice qa1 a.users.length ca1,.slice qb1 a.folders.length cb1,.int .i64 a.queue.next,.slice qc1 a.queue.items.length cc1],.agg #[str b.domain,.slice qa2 b.users.length ca2,.slice qb2 b.folders.length cb2,.int .i64 b.queue.next,.slice qc2 b.queue.items.length cc2]] B (.bool (decide (a=b))):=by
 refine cB 28 Tryz.func19 (h:=?_)
 refine Za (xBx [_,_,_,_,_] (h:=fun b1=>xBx [_,_,_,_,_] (h:=fun b2=>xA (h:=tL2 (Zc (Za (xW ZhF (h:=x1 lk9 0 (h:=xW ZhF (h:=x1 lk9 1 (h:=Ze5 (h:=Zb rfl (fun g1=>?_) (fun g1=>?_)))))))))))))
 try simp only [sQ,ne_eq] at g1
 refine Za (xA (h:=Ze (Zn ?_)))
 exact eR t1 ⟨Zd (by symm;rw [decide_eq_false_iff_not];rintro rfl;exact g1 rfl),rfl,rfl⟩
 try simp only [sQ,ne_eq] at g1
 refine wSk (Zc (Za (xW ZbZ (h:=x1 ZiW 0 (h:=xW ZbZ (h:=x1 ZiW 1 (h:=xR ZAg rfl (Zqf _ _ _ _ _ _ _ hu1 hu2) (h:=xN (h:=Zb rfl (fun g2=>?_) (fun g2=>?_))))))))))
 try simp only [sQ,ne_eq] at g2
 refine Za (xA (h:=Ze (Zn ?_)))
 exact eR t1 ⟨Zd (by symm;rw [decide_eq_false_iff_not];rintro rfl;exact g2 rfl),rfl,rfl⟩
 try simp only [sQ,ne_eq] at g2
 refine wSk (Zc (Za (xW Zay (h:=x1 ZeO 0 (h:=xW Zay (h:=x1 ZeO 1 (h:=xR ZAf rfl (Zl3 _ _ _ _ _ _ _ hf1 hf2) (h:=xN (h:=Zb rfl (fun g3=>?_) (fun g3=>?_))))))))))
 try simp only [sQ,ne_eq] at g3
 refine Za (xA (h:=Ze (Zn ?_)))
 exact eR t1 ⟨Zd (by symm;rw [decide_eq_false_iff_not];rintro rfl;exact g3 rfl),rfl,rfl⟩
 try simp only [sQ,ne_eq] at g3
 refine wSk (Zc (Za (xW Zeh (h:=xL [_,_] ZkX 0 (h:=xW Zeh (h:=xL [_,_] ZkX 1 (h:=xR ZAe rfl (Zqg _ _ _ _ a.queue b.queue _ hi1 hi2) (h:=xN (h:=Zb rfl (fun g4=>?_) (fun g4=>?_))))))))))
 try simp only [sQ,ne_eq] at g4
 refine Za (xA (h:=Ze (Zn ?_)))
 exact eR t1 ⟨Zd (by symm;rw [decide_eq_false_iff_not];rintro rfl;exact g4 rfl),rfl,rfl⟩
 try simp only [sQ,ne_eq] at g4
 refine wSk (Za (xA (h:=Ze ?_)))
 exact eR t1 ⟨Zd (by symm;rw [decide_eq_true_eq];cases a;cases b;simp_all),rfl,rfl⟩

theorem Zn2 (q:Option Addr) (cp:Nat) (x:DBox) (B:Kn) (hm:SlK B q cp 3 Z6 x.mail):Zv (pj J) 188 [.agg #[.int .i64 x.next,.slice q x.mail.length cp]] B [] (fun v B' Ls=>B'=B∧∃l a c,Ls=[l]∧v = .agg #[.int .i64 x.next,.slice a x.mail.length c]∧ZN B l a c 99 3 Z6 x.mail):=by
 refine cB 10 Tryz.func188 (h:=?_)
 have hxn:=hm.len
 refine Za (xBx [_,_] (h:=fun b1=>xAl [_,_] Zm4 (h:=fun b2=>tL2 (Zc (Z2 (keeps _ [0] _) mo kr ⟨Kn.le.refl _,ZaY.refl _ _⟩ (fun _ _=>?_))))))
 refine aW 0 rfl ZeA (h:=aT 1 rfl (ZO fun D B L hI=>Zm rfl rfl lk3 rfl (atL 0 (hI.2.1.trans rfl) rfl rfl) r4) (h:=aW 3 rfl Za9 (h:=aT 4 rfl (ZO fun D B L hI=>Zm rfl rfl Zh0 rfl (atL 0 (hI.2.1.trans rfl) rfl rfl) r4) (h:=ZA 2 kr rfl kr (ZJ (parts:=[]) [] rfl rfl Tryz.underlying91 Zf7 Zn9 rfl rfl rfl rfl rfl (fun b3=>?_))))))
 refine ⟨⟨Kn.le.refl _,t1⟩,(ZA 5 kr rfl kr (Zch (R:=Z6) 2 rfl (ZN.lit0 (R:=Z6)) rfl rfl rfl ZuZ Zwv rfl rfl rfl hm.rows Z6.one rfl om (fun l4 p4 c4 hv4=>?_)))⟩
 refine ⟨⟨Kn.le.refl _,t1⟩,(aT 6 rfl (ZO fun D B L hI=>Zak (parts:=[(0,_),(1,_)]) [_,_] [_,_] rfl rfl ZvC Zm4 rfl rfl rfl r4) (h:=Zad 7 kr rfl kr kr kr (ZM [_,_] 1 [_,_] rfl rfl Zmr rfl rfl rfl rfl rfl rfl rfl rfl ?_)))⟩
 refine Zo (tL3 (Ze ?_))
 exact eN [2] rfl ⟨⟨_,rfl,.inr ⟨[_,_],ZgV,ZbT 1 rfl rfl rfl,rfl⟩⟩,trivial⟩ ⟨rfl,_,_,_,rfl,rfl,hv4⟩

theorem Zjc (qa qb:Option Addr) (ca cb:Nat) (x:DFolder) (B:Kn) (hg:SlK B qa ca 2 Z5 x.grants) (hm:SlK B qb cb 3 Z6 x.mail):Zv (pj J) 225 [.agg #[str x.owner,str x.name,.slice qa x.grants.length ca,.int .i64 x.next,.slice qb x.mail.length cb]] B [] (fun v B' Ls=>B'=B∧∃l a c l' a' c',Ls=[l,l']∧v = .agg #[str x.owner,str x.name,.slice a x.grants.length c,.int .i64 x.next,.slice a' x.mail.length c']∧ZN B l a c 259 2 Z5 x.grants∧ZN B l' a' c' 99 3 Z6 x.mail):=by
 refine cB 13 Tryz.func225 (h:=?_)
 have hgn:=hg.len
 have hmn:=hm.len
 refine Za (xBx [_,_,_,_,_] (h:=fun b1=>xAl [_,_,_,_,_] Zf6 (h:=fun b2=>tL2 (Za (xBs [] [] Tryz.underlying94 Zds Zm5 (h:=fun b3=>xW ZdI (h:=x1 ZqU 0 (h:=Zk (Zch (R:=Z5) 2 rfl (ZN.lit0 (R:=Z5)) rfl rfl rfl Zxu Zzg rfl rfl rfl hg.rows Z5.one rfl om (fun l4 p4 c4 hv4=>?_))))))))))
 refine xW ZdI (h:=xS [_] 0 [_,_,_,_,_] Zw6 (h:=tL3 (Za (xW Zcb (h:=xL [_,_] ZgV 0 (h:=xC Zye rfl (Zn2 _ _ (⟨x.next,x.mail⟩:DBox) _ hm) (h:=?_)))))))
 rintro _ B5 _ hle5 ⟨rfl,l5,a5,c5,rfl,rfl,hs5⟩
 refine xW Zcb (h:=xS [_,_] 0 [_,_,_,_,_] Zmr (h:=tL4 (Za (xL [_,_,_,_,_] ZhZ 0 (h:=xS [_,_,_,_,_] 1 [_,_,_,_,_] Zb0 (h:=tL4 (Ze ?_)))))))
 exact eN [2,3] rfl ⟨⟨_,rfl,.inr ⟨[_,_,_,_,_],ZhZ,ZbT 1 rfl rfl rfl,rfl⟩⟩,trivial⟩ ⟨rfl,_,_,_,_,_,_,rfl,rfl,hv4,hs5⟩

theorem Zah (k:Nat) (hk:k≤1000000000000000) (B:Kn):Zaa (pj J) 65 [.int .i64 k] B (str (ZT k)):=by
 refine cB 20 Tryz.func65 (h:=?_)
 refine Za (xA (h:=Zc (Za (xM (h:=Zck (h:=Zb rfl (fun g1=>?_) (fun g1=>?_)))))))
 try simp only [sQ,ne_eq] at g1
 refine Za (xA (h:=Ze (Zn ?_)))
 exact eR t1 ⟨Zs3 (by rw [ZT,if_pos oz]),rfl,rfl⟩
 try simp only [sQ,ne_eq] at g1
 refine wSk (Za (xA (h:=Zc (Zh (Zz (α:=Nat × Str) [2,5] (fun g=>[(0,.int .i64 g.1),(3,str g.2)]) [] (fun g=>[]) (fun g Bx=>Bx=B∧g.1≤k∧digs k=digs g.1 ++ g.2) (fun g=>g.1) (k,[]) t2 rfl (⟨rfl,Nat.le_refl _,by simp⟩) (fun g B1 hle1 hI=>?_))))))
 obtain ⟨rfl,hl,hs⟩:=hI
 have hgl:=ZuN hk hs
 refine ZC [(0,_),(2,_),(3,_),(5,_)] [] t4 rfl (Zc (Za (xM (h:=Zfi (h:=Zb rfl (fun g2=>?_) (fun g2=>?_))))))
 try simp only [sQ,ne_eq] at g2
 refine wSk (Zh (Za (xM (h:=Zk (Zoh (a:=(g.1:Int)) (b:=10) (r:=((g.1 % 10:Nat):Int)) rfl rfl rfl rfl (by decide) rfl ?_)))))
 refine xD (h:=Zk (Zts rfl rfl Tryz.underlying3 Tryz.underlying5 rfl (by first | exact Zcf om om | rfl) ?_))
 refine xBs [(0,_)] [_] Tryz.underlying22 sz5 zo5 (h:=fun b2=>Zk (Zor rfl rfl Tryz.underlying22 Tryz.underlying9 Tryz.underlying5 rfl (ZcG.box 0 rfl) (xM (h:=Zk (Zvn (a:=dig g.1) (b:=g.2) rfl rfl rfl rfl (by simp [dig];omega) ?_)))))
 refine xA (h:=tL1 (Zf (xM (h:=Zk (Zna (a:=(g.1:Int)) (b:=10) (r:=((g.1 / 10:Nat):Int)) rfl rfl rfl rfl (by decide) (by rw [show Int.tdiv (g.1:Int) 10=((g.1 / 10:Nat):Int) from rfl];exact Zcf oz oz) ?_)))))
 refine xA (h:=ZP ?_)
 exact ZD (g.1 / 10,dig g.1 ++ g.2) [] so2 ⟨rfl,so,Zqs hs oz⟩ t4 rfl
 try simp only [sQ,ne_eq] at g2
 refine ZE (ZV (ZH (Zw (Zo (Za (xM (h:=Zk (Zvn rfl rfl rfl rfl (by first | omega | (simp;omega)) ?_))))))))
 refine xA (h:=Ze ?_)
 exact eR t1 ⟨Zs3 (by rw [ZT,if_neg oz,hs,show g.1=0 from by omega,ZkE];rfl),rfl,rfl⟩

theorem ZlA (q:Option Addr) (cp:Nat) (xs:List DMail) (l:Cells) (k:Nat) (hk:k≤900000000000000) (hn:xs.length≤2000000) (B:Kn) (hv:ZN B l q cp 99 3 Z6 xs):Zv (pj J) 115 [.slice q xs.length cp,.int .i64 k] B [l] (fun v B' Ls=>B'=B∧∃l',Ls=[l']∧v = .int .i64 ((k+3*xs.length:Nat):Int)∧ZN B l' q cp 99 3 Z6 (ZbQ k xs.length)):=by
 refine cB 35 Tryz.func115 (h:=?_)
 have hvc:=hv.cap
 refine Za (xA (h:=Zc (Za (xA (h:=Zh (Zz (α:=Nat × Cells × List DMail) [4] (fun g=>[(0,.slice q xs.length cp),(1,.int .i64 ((k+3*g.1:Nat):Int)),(5,.int .i64 g.1)]) [0] (fun g=>[g.2.1]) (fun g Bx=>Bx=B∧g.1≤xs.length∧g.2.2.length=xs.length∧g.2.2.take g.1=ZbQ k g.1∧ZN Bx g.2.1 q cp 99 3 Z6 g.2.2) (fun g=>xs.length - g.1) (0,l,xs) t3 rfl (⟨rfl,Nat.zero_le _,rfl,rfl,hv⟩) (fun g B1 hle1 hI=>?_)))))))
 obtain ⟨rfl,hi,hle,ht,hw⟩:=hI
 refine ZC [(0,_),(1,_),(4,_),(5,_)] [_] t4 rfl (Zc (Za (xM (h:=xM (h:=xV Tryz.underlying91 (h:=ZF (h:=Zb rfl (fun g1=>?_) (fun g1=>?_))))))))
 try simp only [sQ,ne_eq] at g1
 refine wSk (Zc (Zh (Za (xM (h:=xM (h:=xM (h:=?_)))))))
 obtain ⟨z1,hz1⟩:=ZY (xs:=g.2.2) (i:=g.1) om
 obtain ⟨bb3,_,hp3,⟨rfl,hb3⟩,hw3,hc3⟩:=hw.row hz1
 refine xIp hp3 Tryz.underlying91 Zf7 (h:=xW Zeg (h:=Zk (Zf8 (k:=g.1) (off:=0) (⟨((k+3*g.1:Nat):Int),z1.flags,z1.text⟩) [_] 0 hw hp3 hz1 rfl rfl sz3 rfl rfl rfl rfl rfl rfl (by rintro _ ⟨rfl,e1⟩;exact ⟨rfl,e1⟩) (fun l4 hv4=>?_))))
 refine tL1 (Za (xM (h:=xD (h:=xA (h:=Za (xM (h:=xM (h:=xM (h:=?_)))))))))
 obtain ⟨z2,hz2⟩:=ZY (xs:=(g.2.2.set g.1 (⟨((k+3*g.1:Nat):Int),z1.flags,z1.text⟩))) (i:=g.1) om
 obtain ⟨bb6,_,hp6,⟨rfl,hb6⟩,hw6,hc6⟩:=hv4.row hz2
 refine xIp hp6 Tryz.underlying91 Zf7 (h:=xW Zf0 (h:=Zk (Zf8 (k:=g.1) (off:=1) (⟨z2.uid,((k+3*g.1+1:Nat):Int),z2.text⟩) [_] 0 hv4 hp6 hz2 rfl rfl sz3 rfl rfl rfl rfl rfl rfl (by rintro _ ⟨rfl,e1⟩;exact ⟨rfl,e1⟩) (fun l7 hv7=>?_))))
 refine tL1 (Za (xM (h:=xD (h:=xA (h:=Za (xM (h:=xM (h:=xM (h:=xR Zjw rfl (Zah (((k+3*g.1)+1)+1) oz _) (h:=?_))))))))))
 obtain ⟨z3,hz3⟩:=ZY (xs:=((g.2.2.set g.1 (⟨((k+3*g.1:Nat):Int),z1.flags,z1.text⟩)).set g.1 (⟨z2.uid,((k+3*g.1+1:Nat):Int),z2.text⟩))) (i:=g.1) om
 obtain ⟨bb10,_,hp10,⟨rfl,hb10⟩,hw10,hc10⟩:=hv7.row hz3
 refine xIp hp10 Tryz.underlying91 Zf7 (h:=xW ZfZ (h:=Zk (Zf8 (k:=g.1) (off:=2) (⟨z3.uid,z3.flags,ZT (k+3*g.1+1+1)⟩) [_] 0 hv7 hp10 hz3 rfl rfl sz9 rfl rfl rfl rfl rfl rfl (by rintro _ ⟨rfl,e1⟩;exact ⟨rfl,show (ZT (k+3*g.1+1+1)).length≤2000000 from Nat.le_trans (Zb7 (k:=k+3*g.1+1+1) oz) (by decide)⟩) (fun l11 hv11=>?_))))
 refine tL1 (Zf (xM (h:=xD (h:=xA (h:=ZP (Zo (Zf (xM (h:=xD (h:=xA (h:=?_)))))))))))
 exact ZD (g.1+1,l11,(((g.2.2.set g.1 (⟨((k+3*g.1:Nat):Int),z1.flags,z1.text⟩)).set g.1 (⟨z2.uid,((k+3*g.1+1:Nat):Int),z2.text⟩)).set g.1 (⟨z3.uid,z3.flags,ZT (k+3*g.1+1+1)⟩))) [0] so2 ⟨rfl,so,by simp only [List.length_set];exact hle,Zka ht hz1 hz2 hz3,hv11⟩ t4 rfl
 try simp only [sQ,ne_eq] at g1
 have he:=Zj8 ht oz
 have hgi:g.1=xs.length:=by omega
 rw [hgi] at he
 refine ZE (ZV (ZH (Zw (Zo (Za (xM (h:=xA (h:=Ze ?_))))))))
 exact ZeC .ret (.inl rfl) [_] [0] rfl ⟨rfl,trivial⟩ ⟨rfl,_,rfl,by rw [hgi];rfl,by rw [← he];exact hw⟩

theorem Zke (q:Option Addr) (cp:Nat) (xs:List DGrant) (l:Cells) (k:Nat) (hk:k≤900000000000000) (hn:xs.length≤2000000) (B:Kn) (hv:ZN B l q cp 259 2 Z5 xs):Zv (pj J) 114 [.slice q xs.length cp,.int .i64 k] B [l] (fun v B' Ls=>B'=B∧∃l',Ls=[l']∧v = .int .i64 ((k+2*xs.length:Nat):Int)∧ZN B l' q cp 259 2 Z5 (ZaC k xs.length)):=by
 refine cB 28 Tryz.func114 (h:=?_)
 have hvc:=hv.cap
 refine Za (xA (h:=Zc (Za (xA (h:=Zh (Zz (α:=Nat × Cells × List DGrant) [4] (fun g=>[(0,.slice q xs.length cp),(1,.int .i64 ((k+2*g.1:Nat):Int)),(5,.int .i64 g.1)]) [0] (fun g=>[g.2.1]) (fun g Bx=>Bx=B∧g.1≤xs.length∧g.2.2.length=xs.length∧g.2.2.take g.1=ZaC k g.1∧ZN Bx g.2.1 q cp 259 2 Z5 g.2.2) (fun g=>xs.length - g.1) (0,l,xs) t3 rfl (⟨rfl,Nat.zero_le _,rfl,rfl,hv⟩) (fun g B1 hle1 hI=>?_)))))))
 obtain ⟨rfl,hi,hle,ht,hw⟩:=hI
 refine ZC [(0,_),(1,_),(4,_),(5,_)] [_] t4 rfl (Zc (Za (xM (h:=xM (h:=xV Tryz.underlying94 (h:=ZF (h:=Zb rfl (fun g1=>?_) (fun g1=>?_))))))))
 try simp only [sQ,ne_eq] at g1
 refine wSk (Zc (Zh (Za (xM (h:=xM (h:=xM (h:=xR Zjw rfl (Zah (k+2*g.1) oz _) (h:=?_))))))))
 obtain ⟨z1,hz1⟩:=ZY (xs:=g.2.2) (i:=g.1) om
 obtain ⟨bb4,_,hp4,⟨rfl,hb4⟩,hw4,hc4⟩:=hw.row hz1
 refine xIp hp4 Tryz.underlying94 Zds (h:=xW Zcd (h:=Zk (Zf8 (k:=g.1) (off:=0) (⟨ZT (k+2*g.1),z1.rights⟩) [_] 0 hw hp4 hz1 rfl rfl sz9 rfl rfl rfl rfl rfl rfl (by rintro _ ⟨rfl,e1⟩;exact ⟨rfl,show (ZT (k+2*g.1)).length≤2000000 from Nat.le_trans (Zb7 (k:=k+2*g.1) oz) (by decide)⟩) (fun l5 hv5=>?_))))
 refine tL1 (Za (xM (h:=xD (h:=xA (h:=Za (xM (h:=xM (h:=xM (h:=?_)))))))))
 obtain ⟨z2,hz2⟩:=ZY (xs:=(g.2.2.set g.1 (⟨ZT (k+2*g.1),z1.rights⟩))) (i:=g.1) om
 obtain ⟨bb7,_,hp7,⟨rfl,hb7⟩,hw7,hc7⟩:=hv5.row hz2
 refine xIp hp7 Tryz.underlying94 Zds (h:=xW Zc8 (h:=Zk (Zf8 (k:=g.1) (off:=1) (⟨z2.user,((k+2*g.1+1:Nat):Int)⟩) [_] 0 hv5 hp7 hz2 rfl rfl sz3 rfl rfl rfl rfl rfl rfl (by rintro _ ⟨rfl,e1⟩;exact ⟨rfl,e1⟩) (fun l8 hv8=>?_))))
 refine tL1 (Zf (xM (h:=xD (h:=xA (h:=ZP (Zo (Zf (xM (h:=xD (h:=xA (h:=?_)))))))))))
 exact ZD (g.1+1,l8,((g.2.2.set g.1 (⟨ZT (k+2*g.1),z1.rights⟩)).set g.1 (⟨z2.user,((k+2*g.1+1:Nat):Int)⟩))) [0] so2 ⟨rfl,so,by simp only [List.length_set];exact hle,ZiS ht hz1 hz2,hv8⟩ t4 rfl
 try simp only [sQ,ne_eq] at g1
 have he:=Zj8 ht oz
 have hgi:g.1=xs.length:=by omega
 rw [hgi] at he
 refine ZE (ZV (ZH (Zw (Zo (Za (xM (h:=xA (h:=Ze ?_))))))))
 exact ZeC .ret (.inl rfl) [_] [0] rfl ⟨rfl,trivial⟩ ⟨rfl,_,rfl,by rw [hgi];rfl,by rw [← he];exact hw⟩

theorem Zly (q:Option Addr) (cp:Nat) (xs:List DUser) (l:Cells) (k:Nat) (hk:k≤900000000000000) (hn:xs.length≤2000000) (B:Kn) (hv:ZN B l q cp 141 3 Zs xs):Zv (pj J) 62 [.slice q xs.length cp,.int .i64 k] B [l] (fun v B' Ls=>B'=B∧∃l',Ls=[l']∧v = .int .i64 ((k+3*xs.length:Nat):Int)∧ZN B l' q cp 141 3 Zs (Zcr k xs.length)):=by
 refine cB 36 Tryz.func62 (h:=?_)
 have hvc:=hv.cap
 refine Za (xA (h:=Zc (Za (xA (h:=Zh (Zz (α:=Nat × Cells × List DUser) [4] (fun g=>[(0,.slice q xs.length cp),(1,.int .i64 ((k+3*g.1:Nat):Int)),(5,.int .i64 g.1)]) [0] (fun g=>[g.2.1]) (fun g Bx=>Bx=B∧g.1≤xs.length∧g.2.2.length=xs.length∧g.2.2.take g.1=Zcr k g.1∧ZN Bx g.2.1 q cp 141 3 Zs g.2.2) (fun g=>xs.length - g.1) (0,l,xs) t3 rfl (⟨rfl,Nat.zero_le _,rfl,rfl,hv⟩) (fun g B1 hle1 hI=>?_)))))))
 obtain ⟨rfl,hi,hle,ht,hw⟩:=hI
 refine ZC [(0,_),(1,_),(4,_),(5,_)] [_] t4 rfl (Zc (Za (xM (h:=xM (h:=xV Tryz.underlying23 (h:=ZF (h:=Zb rfl (fun g1=>?_) (fun g1=>?_))))))))
 try simp only [sQ,ne_eq] at g1
 refine wSk (Zc (Zh (Za (xM (h:=xM (h:=xM (h:=xR Zjw rfl (Zah (k+3*g.1) oz _) (h:=?_))))))))
 obtain ⟨z1,hz1⟩:=ZY (xs:=g.2.2) (i:=g.1) om
 obtain ⟨bb4,_,hp4,⟨rfl,hb4,hb4b⟩,hw4,hc4⟩:=hw.row hz1
 refine xIp hp4 Tryz.underlying23 Zbh (h:=xW Za7 (h:=Zk (Zf8 (k:=g.1) (off:=0) (⟨ZT (k+3*g.1),z1.pass,z1.quota⟩) [_] 0 hw hp4 hz1 rfl rfl sz9 rfl rfl rfl rfl rfl rfl (by rintro _ ⟨rfl,e1,e2⟩;exact ⟨rfl,show (ZT (k+3*g.1)).length≤2000000 from Nat.le_trans (Zb7 (k:=k+3*g.1) oz) (by decide),e2⟩) (fun l5 hv5=>?_))))
 refine tL1 (Za (xM (h:=xD (h:=xA (h:=Za (xM (h:=xM (h:=xM (h:=xR Zjw rfl (Zah ((k+3*g.1)+1) oz _) (h:=?_))))))))))
 obtain ⟨z2,hz2⟩:=ZY (xs:=(g.2.2.set g.1 (⟨ZT (k+3*g.1),z1.pass,z1.quota⟩))) (i:=g.1) om
 obtain ⟨bb8,_,hp8,⟨rfl,hb8,hb8b⟩,hw8,hc8⟩:=hv5.row hz2
 refine xIp hp8 Tryz.underlying23 Zbh (h:=xW Zfz (h:=Zk (Zf8 (k:=g.1) (off:=1) (⟨z2.name,ZT (k+3*g.1+1),z2.quota⟩) [_] 0 hv5 hp8 hz2 rfl rfl sz9 rfl rfl rfl rfl rfl rfl (by rintro _ ⟨rfl,e1,e2⟩;exact ⟨rfl,e1,show (ZT (k+3*g.1+1)).length≤2000000 from Nat.le_trans (Zb7 (k:=k+3*g.1+1) oz) (by decide)⟩) (fun l9 hv9=>?_))))
 refine tL1 (Za (xM (h:=xD (h:=xA (h:=Za (xM (h:=xM (h:=xM (h:=?_)))))))))
 obtain ⟨z3,hz3⟩:=ZY (xs:=((g.2.2.set g.1 (⟨ZT (k+3*g.1),z1.pass,z1.quota⟩)).set g.1 (⟨z2.name,ZT (k+3*g.1+1),z2.quota⟩))) (i:=g.1) om
 obtain ⟨bb11,_,hp11,⟨rfl,hb11,hb11b⟩,hw11,hc11⟩:=hv9.row hz3
 refine xIp hp11 Tryz.underlying23 Zbh (h:=xW Zdu (h:=Zk (Zf8 (k:=g.1) (off:=2) (⟨z3.name,z3.pass,((k+3*g.1+1+1:Nat):Int)⟩) [_] 0 hv9 hp11 hz3 rfl rfl sz3 rfl rfl rfl rfl rfl rfl (by rintro _ ⟨rfl,e1,e2⟩;exact ⟨rfl,e1,e2⟩) (fun l12 hv12=>?_))))
 refine tL1 (Zf (xM (h:=xD (h:=xA (h:=ZP (Zo (Zf (xM (h:=xD (h:=xA (h:=?_)))))))))))
 exact ZD (g.1+1,l12,(((g.2.2.set g.1 (⟨ZT (k+3*g.1),z1.pass,z1.quota⟩)).set g.1 (⟨z2.name,ZT (k+3*g.1+1),z2.quota⟩)).set g.1 (⟨z3.name,z3.pass,((k+3*g.1+1+1:Nat):Int)⟩))) [0] so2 ⟨rfl,so,by simp only [List.length_set];exact hle,Zj9 ht hz1 hz2 hz3,hv12⟩ t4 rfl
 try simp only [sQ,ne_eq] at g1
 have he:=Zj8 ht oz
 have hgi:g.1=xs.length:=by omega
 rw [hgi] at he
 refine ZE (ZV (ZH (Zw (Zo (Za (xM (h:=xA (h:=Ze ?_))))))))
 exact ZeC .ret (.inl rfl) [_] [0] rfl ⟨rfl,trivial⟩ ⟨rfl,_,rfl,by rw [hgi];rfl,by rw [← he];exact hw⟩

theorem ZiU (q:Option Addr) (cp:Nat) (xs:List Str) (l:Cells) (k:Nat) (hk:k≤900000000000000) (hn:xs.length≤2000000) (B:Kn) (hv:ZN B l q cp 9 1 Zde xs):Zv (pj J) 179 [.slice q xs.length cp,.int .i64 k] B [l] (fun v B' Ls=>B'=B∧∃l',Ls=[l']∧v = .int .i64 ((k+1*xs.length:Nat):Int)∧ZN B l' q cp 9 1 Zde (Zc5 k xs.length)):=by
 refine cB 20 Tryz.func179 (h:=?_)
 have hvc:=hv.cap
 refine Za (xA (h:=Zc (Za (xA (h:=Zh (Zz (α:=Nat × Cells × List Str) [4] (fun g=>[(0,.slice q xs.length cp),(1,.int .i64 ((k+1*g.1:Nat):Int)),(5,.int .i64 g.1)]) [0] (fun g=>[g.2.1]) (fun g Bx=>Bx=B∧g.1≤xs.length∧g.2.2.length=xs.length∧g.2.2.take g.1=Zc5 k g.1∧ZN Bx g.2.1 q cp 9 1 Zde g.2.2) (fun g=>xs.length - g.1) (0,l,xs) t3 rfl (⟨rfl,Nat.zero_le _,rfl,rfl,hv⟩) (fun g B1 hle1 hI=>?_)))))))
 obtain ⟨rfl,hi,hle,ht,hw⟩:=hI
 refine ZC [(0,_),(1,_),(4,_),(5,_)] [_] t4 rfl (Zc (Za (xM (h:=xM (h:=xV Tryz.underlying143 (h:=ZF (h:=Zb rfl (fun g1=>?_) (fun g1=>?_))))))))
 try simp only [sQ,ne_eq] at g1
 refine wSk (Zc (Zh (Za (xM (h:=xM (h:=xM (h:=xR Zjw rfl (Zah (k+1*g.1) oz _) (h:=?_))))))))
 obtain ⟨z1,hz1⟩:=ZY (xs:=g.2.2) (i:=g.1) om
 obtain ⟨bb4,_,hp4,⟨rfl,hb4⟩,hw4,hc4⟩:=hw.row hz1
 refine xIp hp4 Tryz.underlying143 sz9 (h:=Zk (Zf8 (k:=g.1) (off:=0) (ZT (k+1*g.1)) [_] 0 hw hp4 hz1 rfl rfl sz9 rfl rfl rfl rfl rfl rfl (by rintro _ ⟨rfl,e1⟩;exact ⟨rfl,show (ZT (k+1*g.1)).length≤2000000 from Nat.le_trans (Zb7 (k:=k+1*g.1) oz) (by decide)⟩) (fun l5 hv5=>?_)))
 refine tL1 (Zf (xM (h:=xD (h:=xA (h:=ZP (Zo (Zf (xM (h:=xD (h:=xA (h:=?_)))))))))))
 exact ZD (g.1+1,l5,(g.2.2.set g.1 (ZT (k+1*g.1)))) [0] so2 ⟨rfl,so,by simp only [List.length_set];exact hle,Zls ht hz1,hv5⟩ t4 rfl
 try simp only [sQ,ne_eq] at g1
 have he:=Zj8 ht oz
 have hgi:g.1=xs.length:=by omega
 rw [hgi] at he
 refine ZE (ZV (ZH (Zw (Zo (Za (xM (h:=xA (h:=Ze ?_))))))))
 exact ZeC .ret (.inl rfl) [_] [0] rfl ⟨rfl,trivial⟩ ⟨rfl,_,rfl,by rw [hgi];rfl,by rw [← he];exact hw⟩

theorem ZiZ (k:Nat) (hk:k<6) (B:Kn):Zaa (pj J) 224 [.int .i64 k] B (.int .i64 (Zcg k)):=by
 refine cB 7 Tryz.func224 (h:=?_)
 refine Za (xA (h:=Za (xBs [(0,_),(1,_),(2,_),(3,_),(4,_),(5,_)] [_,_,_,_,_,_] Tryz.underlying65 sz3 zo3 (h:=fun b1=>?_))))
 have hvq:ZN B (ZK b1 (([1,2,4,8,16,32]:List Int).map fun x=>.int .i64 x) 3) (some ⟨b1,0,none⟩) 6 3 1 Zag ([1,2,4,8,16,32]:List Int):=ZN.ints
 refine xM (h:=?_)
 obtain ⟨e,he⟩:=ZY (xs:=([1,2,4,8,16,32]:List Int)) (i:=k) om
 obtain ⟨bb3,_,hp3,rfl,hw3,hc3⟩:=hvq.row he
 refine xIp hp3 Tryz.underlying65 sz3 (h:=Zk (Zm rfl rfl lk3 rfl (hc3 _ 0 rfl 0 _ rfl) (xA (h:=tL1 (Ze ?_)))))
 exact eR t1 ⟨ZG (ZrB he),rfl,rfl⟩

end Go.Proofs.YtkppijmhadbpdaaGreatDoor
