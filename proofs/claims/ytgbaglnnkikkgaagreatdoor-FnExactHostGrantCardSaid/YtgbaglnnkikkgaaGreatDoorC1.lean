/-
  WHAT THE FUNCTIONS THAT THE LAWS REACH COMPUTE: each function's contract, proved off its printed body (the text is written by program). No condition beyond those that each theorem states.
-/
import Derived.Test.YtgbaglnnkikkgaaGreatDoorC0
namespace Go.Proofs.YtgbaglnnkikkgaaGreatDoor
open Go Go.BL
set_option linter.unusedVariables false
set_option linter.unusedSimpArgs false
set_option maxRecDepth 4000
set_option maxHeartbeats 6400000
variable {J : JoinT}
theorem Zkb (q1 q2 q3:Option Addr) (c1 c2 c3:Nat) (x:DHost) (B:Kn) (hu:SlK B q1 c1 3 Zr x.users) (hf:SlK B q2 c2 5 Zs x.folders):Z6 (pj J) 56 [.agg #[str x.domain,.slice q1 x.users.length c1,.slice q2 x.folders.length c2,.int .i64 x.queue.next,.slice q3 x.queue.items.length c3]] B (.bool (Zb3 x.users x.folders)):=by
 refine cB 60 Tryz.func56 (h:=?_)
 have hfn:=hf.len
 have hun:=hu.len
 refine Za (xBx [_,_,_,_,_] (h:=fun b1=>xA (h:=tL1 (Zc (Za (xA (h:=Zi (Zw (α:=Nat × Option DFolder) [0,1] (fun g=>[(3,.int .i64 g.1)]) [] (fun g=>[]) (fun g Bx=>Bx=B∧g.1≤x.folders.length∧ZcV x.users (x.folders.take g.1)=(true,g.2)∧Prev some none x.folders g.1 g.2) (fun g=>x.folders.length - g.1) (0,none) t1 rfl (⟨rfl,Nat.zero_le _,Zfi,.zero⟩) (fun g B2 hle2 hI=>?_)))))))))
 obtain ⟨rfl,hk,hs,hp⟩:=hI
 refine ZB [(0,_),(1,_),(3,_)] [_] t3 rfl (Zc (Za (xM (h:=xW Zal (h:=x1 Zec 0 (h:=xV Tryz.underlying31 (h:=ZE (h:=Zb rfl (fun g1=>?_) (fun g1=>?_)))))))))
 try simp only [sQ,ne_eq] at g1
 refine wSk (Zc (Zi (Za (xW Zal (h:=x1 Zec 0 (h:=xM (h:=?_)))))))
 obtain ⟨m,hm⟩:=ZU (xs:=x.folders) (i:=g.1) om
 obtain ⟨bb4,oo4,rfl⟩:=hf.base hm
 obtain ⟨_,⟨qg5,cg5,qm5,cm5,rfl,hg5,hm5,hb5,hb5b⟩,hc5⟩:=hf.elem hm
 have hg5n:=hg5.len
 have hm5n:=hm5.len
 have hm5s:=Zad hm5
 refine xIx Tryz.underlying31 Zbw (h:=yL [_,_,_,_,_] ZhQ hc5 0 (h:=xAl [_,_,_,_,_] Zf5 (h:=fun b6=>xS [_,_,_,_,_] 1 [_,_,_,_,_] Zbw (h:=tL2 (Zc (Z2 (same _ _) mo kr ⟨rfl,rfl⟩ (fun _ _=>?_)))))))
 refine aW 0 rfl ZbC (h:=aT 1 rfl (Zag fun D=>Zn rfl rfl Zib rfl (atL 0 rfl rfl rfl) r4) (h:=aW 2 rfl Zb5 (h:=aT 3 rfl (Zag fun D=>Zn rfl rfl lk9 rfl (atL 1 rfl rfl rfl) r4) (h:=aT 4 rfl (Zag fun D=>Zaf rfl rfl Zve rfl (Zer _ _ _ _ _ hu) r4) (h:=ZrY 5 rfl (h:=aM 6 rfl (h:=Zav (d:=23) rfl (fun g2=>?_) (fun g2=>?_))))))))
 try simp only [sQ,ne_eq] at g2
 refine aZ 7 rfl (h:=aZ 8 rfl (h:=aZ 9 rfl (h:=aZ 10 rfl (h:=aPT 11 rfl (h:=aM 12 rfl (h:=aZ 13 rfl (h:=aZ 14 rfl (h:=aZ 15 rfl (h:=aZ 16 rfl (h:=aPT 17 rfl (h:=aM 18 rfl (h:=aZ 19 rfl (h:=aZ 20 rfl (h:=aZ 21 rfl (h:=aZ 22 rfl (h:=aPT 23 rfl (h:=aM 24 rfl (h:=aZ 25 rfl (h:=aZ 26 rfl (h:=aZ 27 rfl (h:=aZ 28 rfl (h:=aZ 29 rfl (h:=aZ 30 rfl (h:=aZ 31 rfl (h:=aZ 32 rfl (h:=aZ 33 rfl (h:=aZ 34 rfl (h:=aZ 35 rfl (h:=aZ 36 rfl (h:=aZ 37 rfl (h:=aPT 38 rfl (h:=Zx kr kr ?_))))))))))))))))))))))))))))))))
 refine Zo (Zb (t:=true) rfl (fun _=>Za (xA (h:=Zd (Zy (Zl (ZO (Zy (Zl ?_)))))))) (fun h=>Bool.noConfusion h))
 exact eR t1 ⟨Ze (Zb2 hm hs (by simp [Zbi,ZX,DFolder.box,g1,g2];try omega)).symm,rfl,rfl⟩
 try simp only [sQ,ne_eq] at g2
 refine aW 7 rfl ZdI (h:=aT 8 rfl (Zag fun D=>Zn rfl rfl lk9 rfl (atL 1 rfl rfl rfl) r4) (h:=aT 9 rfl (Zag fun D=>Zaf rfl rfl Zsy rfl (ZbP _ om2 _) r4) (h:=?_)))
 refine aN 10 rfl (h:=aPF 11 rfl (h:=aM 12 rfl (h:=Zav (d:=29) rfl (fun g3=>?_) (fun g3=>?_))))
 try simp only [sQ,ne_eq] at g3
 refine aZ 13 rfl (h:=aZ 14 rfl (h:=aZ 15 rfl (h:=aZ 16 rfl (h:=aPT 17 rfl (h:=aM 18 rfl (h:=aZ 19 rfl (h:=aZ 20 rfl (h:=aZ 21 rfl (h:=aZ 22 rfl (h:=aPT 23 rfl (h:=aM 24 rfl (h:=aZ 25 rfl (h:=aZ 26 rfl (h:=aZ 27 rfl (h:=aZ 28 rfl (h:=aZ 29 rfl (h:=aZ 30 rfl (h:=aZ 31 rfl (h:=aZ 32 rfl (h:=aZ 33 rfl (h:=aZ 34 rfl (h:=aZ 35 rfl (h:=aZ 36 rfl (h:=aZ 37 rfl (h:=aPT 38 rfl (h:=Zx kr kr ?_))))))))))))))))))))))))))
 refine Zo (Zb (t:=true) rfl (fun _=>Za (xA (h:=Zd (Zy (Zl (ZO (Zy (Zl ?_)))))))) (fun h=>Bool.noConfusion h))
 exact eR t1 ⟨Ze (Zb2 hm hs (by simp [Zbi,ZX,DFolder.box,g1,g2,g3];try omega)).symm,rfl,rfl⟩
 try simp only [sQ,ne_eq] at g3
 refine aW 13 rfl ZbB (h:=aT 14 rfl (Zag fun D=>Zn rfl rfl Zms rfl (atL 1 rfl rfl rfl) r4) (h:=aT 15 rfl (Zag fun D=>Zaf rfl rfl ZvB rfl (ZfJ _ _ _ _ hg5) r4) (h:=aN 16 rfl (h:=aPF 17 rfl (h:=aM 18 rfl (h:=Zav (d:=35) rfl (fun g4=>?_) (fun g4=>?_)))))))
 try simp only [sQ,ne_eq] at g4
 refine aZ 19 rfl (h:=aZ 20 rfl (h:=aZ 21 rfl (h:=aZ 22 rfl (h:=aPT 23 rfl (h:=aM 24 rfl (h:=aZ 25 rfl (h:=aZ 26 rfl (h:=aZ 27 rfl (h:=aZ 28 rfl (h:=aZ 29 rfl (h:=aZ 30 rfl (h:=aZ 31 rfl (h:=aZ 32 rfl (h:=aZ 33 rfl (h:=aZ 34 rfl (h:=aZ 35 rfl (h:=aZ 36 rfl (h:=aZ 37 rfl (h:=aPT 38 rfl (h:=Zx kr kr ?_))))))))))))))))))))
 refine Zo (Zb (t:=true) rfl (fun _=>Za (xA (h:=Zd (Zy (Zl (ZO (Zy (Zl ?_)))))))) (fun h=>Bool.noConfusion h))
 exact eR t1 ⟨Ze (Zb2 hm hs (by simp [Zbi,ZX,DFolder.box,g1,g2,g3,g4];try omega)).symm,rfl,rfl⟩
 try simp only [sQ,ne_eq] at g4
 refine aW 19 rfl Zda (h:=aT 20 rfl (Zag fun D=>Zaj [_,_] rfl rfl Zmr rfl (ZcF 1 rfl rfl rfl) r4) (h:=aT 21 rfl (Zag fun D=>Zaf rfl rfl Zyy rfl (ZoA _ _ (⟨m.next,m.mail⟩:DBox) _ hm5) r4) (h:=aN 22 rfl (h:=aPF 23 rfl (h:=aM 24 rfl (h:=Zav (d:=41) rfl (fun g5=>?_) (fun g5=>?_)))))))
 try simp only [sQ,ne_eq] at g5
 refine aZ 25 rfl (h:=aZ 26 rfl (h:=aZ 27 rfl (h:=aZ 28 rfl (h:=aZ 29 rfl (h:=aZ 30 rfl (h:=aZ 31 rfl (h:=aZ 32 rfl (h:=aZ 33 rfl (h:=aZ 34 rfl (h:=aZ 35 rfl (h:=aZ 36 rfl (h:=aZ 37 rfl (h:=aPT 38 rfl (h:=Zx kr kr ?_))))))))))))))
 refine Zo (Zb (t:=true) rfl (fun _=>Za (xA (h:=Zd (Zy (Zl (ZO (Zy (Zl ?_)))))))) (fun h=>Bool.noConfusion h))
 exact eR t1 ⟨Ze (Zb2 hm hs (by simp [Zbi,ZX,DFolder.box,g1,g2,g3,g4,g5];try omega)).symm,rfl,rfl⟩
 try simp only [sQ,ne_eq] at g5
 refine aM 25 rfl (h:=ZnR 26 rfl (h:=aM 27 rfl (h:=Zav (d:=44) rfl (fun g6=>?_) (fun g6=>?_))))
 try simp only [sQ,ne_eq] at g6
 refine aW 28 rfl Zal (h:=aT 29 rfl (Zag fun D=>Zn rfl rfl Zec rfl (atL 0 rfl rfl rfl) r4) (h:=aM 30 rfl (h:=aU 31 rfl (h:=?_))))
 obtain ⟨y,hy⟩:=Zsk (xs:=x.folders) (i:=(↑g.1 - 1)) om om
 obtain ⟨_,⟨qg12,cg12,qm12,cm12,rfl,hg12,hm12,hb12,hb12b⟩,hc12⟩:=hf.elem hy
 have hg12n:=hg12.len
 have hm12n:=hm12.len
 have hm12s:=Zad hm12
 refine aIx 32 rfl Tryz.underlying31 Zbw (h:=?_)
 have hpe:=hp.at hy oz
 refine aT 33 rfl (Zag fun D=>Zaj [_,_,_,_,_] rfl rfl ZhQ rfl (Zmg hc12 0 rfl rfl) r4) (h:=aT 34 rfl (Zag fun D=>Zaj [_,_,_,_,_] rfl rfl ZhQ rfl (ZcF 1 rfl rfl rfl) r4) (h:=aT 35 rfl (Zag fun D=>Zaf rfl rfl Zy6 rfl (Zo7 y m _ _ _ _ _ _ _ _ _) r4) (h:=aN 36 rfl (h:=aPT 37 rfl (h:=aPF 38 rfl (h:=Zx kr kr ?_))))))
 refine Zo (Zb rfl (fun g7=>?_) (fun g7=>?_))
 try simp only [sQ,ne_eq] at g7
 refine Za (xA (h:=Zd (Zy (Zl (ZO (Zy (Zl ?_)))))))
 exact eR t1 ⟨Ze (Zb2 hm hs (by simp [Zbi,ZX,DFolder.box,g1,g2,g3,g4,g5,g6,g7,hpe];try omega)).symm,rfl,rfl⟩
 try simp only [sQ,ne_eq] at g7
 refine ZT (ZM (Zo (Zf (xM (h:=xD (h:=xA (h:=?_)))))))
 exact ZA (g.1+1,some m) [0] so2 ⟨rfl,oz,Zcn hm hs (by rw [hpe];simp [Zbi,ZX,DFolder.box,g3,g4,g5,g7];omega),.succ hm⟩ t3 rfl
 try simp only [sQ,ne_eq] at g6
 refine aZ 28 rfl (h:=aZ 29 rfl (h:=aZ 30 rfl (h:=aZ 31 rfl (h:=aZ 32 rfl (h:=aZ 33 rfl (h:=aZ 34 rfl (h:=aZ 35 rfl (h:=aZ 36 rfl (h:=aPF 37 rfl (h:=aPF 38 rfl (h:=Zx kr kr ?_)))))))))))
 refine Zo (Zb (t:=false) rfl (fun h=>Bool.noConfusion h) (fun _=>ZT (ZM (Zo (Zf (xM (h:=xD (h:=xA (h:=?_)))))))))
 exact ZA (g.1+1,some m) [0] so2 ⟨rfl,oz,Zcn hm hs (by rw [hp.at0 oz];simp [Zbi,ZX,DFolder.box,g3,g4,g5];omega),.succ hm⟩ t3 rfl
 try simp only [sQ,ne_eq] at g1
 refine ZC (ZV (ZG (Zu (Zo (Za (xW Zal (h:=x1 Zec 0 (h:=xV Tryz.underlying31 (h:=Zb7 (h:=xA (h:=Zd ?_)))))))))))
 exact eR t1 ⟨Ze (by rw [Zja (ZdX hs oz),Bool.eq_iff_iff];simp;try omega),rfl,rfl⟩

theorem Zm4 (q1 q2 q3:Option Addr) (c1 c2 c3:Nat) (x:DHost) (hd:x.domain.length≤2000000) (B:Kn) (hu:SlK B q1 c1 3 Zr x.users) (hf:SlK B q2 c2 5 Zs x.folders) (hi:SlK B q3 c3 4 ZK x.queue.items):Z6 (pj J) 17 [.agg #[str x.domain,.slice q1 x.users.length c1,.slice q2 x.folders.length c2,.int .i64 x.queue.next,.slice q3 x.queue.items.length c3]] B (.bool (Z7 x)):=by
 refine cB 87 Tryz.func17 (h:=?_)
 have hfn:=hf.len
 have hun:=hu.len
 have hin:=hi.len
 refine Za (xBx [_,_,_,_,_] (h:=fun b1=>xA (h:=tL1 (Zc (Za (xW Zhw (h:=x1 lk9 0 (h:=xR Zy1 rfl (ZjM _ om2 _) (h:=?_)))))))))
 refine xN (h:=xM (h:=Zt (d:=10) rfl (fun g1=>?_) (fun g1=>?_)))
 try simp only [sQ,ne_eq] at g1
 refine xP (h:=xP (h:=xP (h:=xP (h:=xT (h:=xM (h:=xP (h:=xP (h:=xP (h:=xP (h:=xT (h:=xM (h:=xP (h:=xP (h:=xP (h:=xT (h:=Zb (t:=true) rfl (fun _=>Za (xA (h:=Zd (Zl ?_)))) (fun h=>Bool.noConfusion h)))))))))))))))))
 exact eR t1 ⟨Ze (by simp [Z7,g1]),rfl,rfl⟩
 try simp only [sQ,ne_eq] at g1
 refine xW ZbC (h:=x1 Zib 0 (h:=xR Zy0 rfl (Zk0 _ _ _ _ hu) (h:=xN (h:=xF (h:=xM (h:=Zt (d:=16) rfl (fun g2=>?_) (fun g2=>?_)))))))
 try simp only [sQ,ne_eq] at g2
 refine xP (h:=xP (h:=xP (h:=xP (h:=xT (h:=xM (h:=xP (h:=xP (h:=xP (h:=xT (h:=Zb (t:=true) rfl (fun _=>Za (xA (h:=Zd (Zl ?_)))) (fun h=>Bool.noConfusion h)))))))))))
 exact eR t1 ⟨Ze (by simp [Z7,g1,g2]),rfl,rfl⟩
 try simp only [sQ,ne_eq] at g2
 refine xW Zee (h:=xL [_,_] ZkL 0 (h:=xR ZyZ rfl (Zk1 _ _ x.queue _ hi) (h:=xN (h:=xF (h:=xM (h:=Zt (d:=22) rfl (fun g3=>?_) (fun g3=>?_)))))))
 try simp only [sQ,ne_eq] at g3
 refine xP (h:=xP (h:=xP (h:=xT (h:=Zb (t:=true) rfl (fun _=>Za (xA (h:=Zd (Zl ?_)))) (fun h=>Bool.noConfusion h)))))
 exact eR t1 ⟨Ze (by simp [Z7,g1,g2,g3]),rfl,rfl⟩
 try simp only [sQ,ne_eq] at g3
 refine xL [_,_,_,_,_] ZcN 0 (h:=xR ZyY rfl (Zkb _ _ _ _ _ _ x _ hu hf) (h:=xN (h:=xF (h:=Zb rfl (fun g4=>?_) (fun g4=>?_)))))
 try simp only [sQ,ne_eq] at g4
 refine Za (xA (h:=Zd (Zl ?_)))
 exact eR t1 ⟨Ze (by simp [Z7,g1,g2,g3,g4]),rfl,rfl⟩
 try simp only [sQ,ne_eq] at g4
 refine wSk (Zc (Za (xA (h:=Zi (Zw (α:=Nat) [0,1,26] (fun k=>[(3,.int .i64 k)]) [] (fun k=>[]) (fun k Bx=>Bx=B∧k≤x.users.length∧∀z,z∈x.users.take k→ZaY x.folders z=true) (fun k=>x.users.length - k) 0 t1 rfl (⟨rfl,Nat.zero_le _,by simp⟩) (fun k B6 hle6 hI=>?_))))))
 obtain ⟨rfl,hk,ha⟩:=hI
 refine ZB [(0,_),(1,_),(3,_),(26,_)] [_] t4 rfl (Zc (Za (xM (h:=xW ZbC (h:=x1 Zib 0 (h:=xV Tryz.underlying30 (h:=ZE (h:=Zb rfl (fun g5=>?_) (fun g5=>?_)))))))))
 try simp only [sQ,ne_eq] at g5
 refine wSk (Zc (Zi (Zc (Z2 (same _ _) mo kr ⟨rfl,rfl⟩ (fun _ _=>?_)))))
 refine aT 0 rfl (Zag fun D=>Zaj [_,_,_,_,_] rfl rfl ZcN rfl (ZcF 0 rfl rfl rfl) r4) (h:=aW 1 rfl ZbC (h:=aT 2 rfl (Zag fun D=>Zn rfl rfl Zib rfl (atL 0 rfl rfl rfl) r4) (h:=aM 3 rfl (h:=?_))))
 obtain ⟨w,hw⟩:=ZU (xs:=x.users) (i:=k) om
 obtain ⟨bb8,oo8,rfl⟩:=hu.base hw
 obtain ⟨_,⟨rfl,hb9,hb9b⟩,hc9⟩:=hu.elem hw
 refine aIx 4 rfl Tryz.underlying30 Zek (h:=aW 5 rfl Zb4 (h:=aT 6 rfl (Zag fun D=>Zn rfl rfl lk9 rfl (hc9 _ 0 _ rfl) r4) (h:=aT 7 rfl (Zag fun D=>Zaf rfl rfl Zya rfl (Zkc _ _ _ _ _ _ x w.name [105,110,98,111,120] om2 om2 _ hf) r4) (h:=?_))))
 refine ZrY 8 rfl (h:=aM 9 rfl (h:=Zav (d:=43) rfl (fun g6=>?_) (fun g6=>?_)))
 try simp only [sQ,ne_eq] at g6
 refine aZ 10 rfl (h:=aZ 11 rfl (h:=aZ 12 rfl (h:=aZ 13 rfl (h:=aZ 14 rfl (h:=aZ 15 rfl (h:=aZ 16 rfl (h:=aZ 17 rfl (h:=aZ 18 rfl (h:=aZ 19 rfl (h:=aZ 20 rfl (h:=aZ 21 rfl (h:=aZ 22 rfl (h:=aZ 23 rfl (h:=aZ 24 rfl (h:=aPT 25 rfl (h:=Zx kr kr ?_))))))))))))))))
 refine Zo (Zb (t:=true) rfl (fun _=>Za (xA (h:=Zd (Zy (Zl (ZO (Zy (Zl ?_)))))))) (fun h=>Bool.noConfusion h))
 exact eR t1 ⟨Ze (Zhn hw (ZjF g6)).symm,rfl,rfl⟩
 try simp only [sQ,ne_eq] at g6
 refine aT 10 rfl (Zag fun D=>Zaj [_,_,_,_,_] rfl rfl ZcN rfl (ZcF 0 rfl rfl rfl) r4) (h:=aW 11 rfl ZbC (h:=aT 12 rfl (Zag fun D=>Zn rfl rfl Zib rfl (atL 0 rfl rfl rfl) r4) (h:=aM 13 rfl (h:=aIx 14 rfl Tryz.underlying30 Zek (h:=aW 15 rfl Zb4 (h:=aT 16 rfl (Zag fun D=>Zn rfl rfl lk9 rfl (hc9 _ 0 _ rfl) r4) (h:=aT 17 rfl (Zag fun D=>Zaf rfl rfl ZyX rfl (Zo6 _ _ _ _ _ _ x _ _ hf) r4) (h:=aW 18 rfl ZbC (h:=aT 19 rfl (Zag fun D=>Zn rfl rfl Zib rfl (atL 0 rfl rfl rfl) r4) (h:=aM 20 rfl (h:=aIx 21 rfl Tryz.underlying30 Zek (h:=aW 22 rfl Ze5 (h:=aT 23 rfl (Zag fun D=>Zn rfl rfl lk3 rfl (hc9 _ 2 _ rfl) r4) (h:=ZnR 24 rfl (h:=aPF 25 rfl (h:=Zx kr kr ?_))))))))))))))))
 refine Zo (Zb rfl (fun g7=>?_) (fun g7=>?_))
 try simp only [sQ,ne_eq] at g7
 refine Za (xA (h:=Zd (Zy (Zl (ZO (Zy (Zl ?_)))))))
 exact eR t1 ⟨Ze (Zhn hw (ZjE g7)).symm,rfl,rfl⟩
 try simp only [sQ,ne_eq] at g7
 refine ZT (ZM (Zo (Zf (xM (h:=xD (h:=xA (h:=?_)))))))
 exact ZA (k+1) [0] so2 ⟨rfl,oz,Zba hw ha (ZjD g6 g7)⟩ t4 rfl
 try simp only [sQ,ne_eq] at g5
 refine ZC (ZV (ZG (Zu (Zo (Zc (Za (xA (h:=Zi (Zw (α:=Nat) [0,1,3,26,31] (fun j=>[(4,.int .i64 j)]) [] (fun j=>[]) (fun j Bx=>Bx=B6∧j≤x.queue.items.length∧∀z,z∈x.queue.items.take j→ZaM x.users z=true) (fun j=>x.queue.items.length - j) 0 t1 rfl (⟨rfl,Nat.zero_le _,by simp⟩) (fun j B12 hle12 hI=>?_))))))))))
 obtain ⟨rfl,hj,hb⟩:=hI
 refine ZB [(0,_),(1,_),(3,_),(4,_),(26,_),(31,_)] [_] t6 rfl (Zc (Za (xM (h:=xW Zee (h:=xW ZbD (h:=x1 Zia 0 (h:=xV Tryz.underlying32 (h:=ZE (h:=Zb rfl (fun g8=>?_) (fun g8=>?_))))))))))
 try simp only [sQ,ne_eq] at g8
 refine wSk (Zc (Zi (Za (xW Zee (h:=xW ZbD (h:=x1 Zia 0 (h:=xM (h:=?_))))))))
 obtain ⟨y,hy⟩:=ZU (xs:=x.queue.items) (i:=j) om
 obtain ⟨bb14,oo14,rfl⟩:=hi.base hy
 obtain ⟨_,⟨qi15,ci15,rfl,hi15,hb15,hb15b⟩,hc15⟩:=hi.elem hy
 have hi15n:=hi15.len
 refine xIx Tryz.underlying32 Zbl (h:=yL [_,_,_,_] Zeo hc15 0 (h:=xAl [_,_,_,_] ZeV (h:=fun b16=>xS [_,_,_,_] 1 [_,_,_,_] Zbl (h:=tL2 (Za (xW ZbC (h:=x1 Zib 0 (h:=xW Zd5 (h:=x1 lk9 1 (h:=xR Zve rfl (Zer _ _ _ _ _ hu) (h:=ZE (h:=xM (h:=Zt (d:=80) rfl (fun g9=>?_) (fun g9=>?_))))))))))))))
 try simp only [sQ,ne_eq] at g9
 refine xP (h:=xP (h:=xP (h:=xP (h:=xP (h:=xT (h:=Zb (t:=true) rfl (fun _=>Za (xA (h:=Zd (Zy (Zl (ZO (Zy (Zl ?_)))))))) (fun h=>Bool.noConfusion h)))))))
 exact eR t1 ⟨Ze (Zhp hy (Zi0 g9)).symm,rfl,rfl⟩
 try simp only [sQ,ne_eq] at g9
 refine xL [_,_,_,_,_] ZcN 0 (h:=xW Zci (h:=x1 Zj7 1 (h:=xR ZyW rfl (Zni _ _ _ _ _ _ x _ _ y.left _ hu hi15) (h:=xN (h:=xF (h:=Zb rfl (fun ga=>?_) (fun ga=>?_)))))))
 try simp only [sQ,ne_eq] at ga
 refine Za (xA (h:=Zd (Zy (Zl (ZO (Zy (Zl ?_)))))))
 exact eR t1 ⟨Ze (Zhp hy (ZiZ ga)).symm,rfl,rfl⟩
 try simp only [sQ,ne_eq] at ga
 refine ZT (ZM (Zo (Zf (xM (h:=xD (h:=xA (h:=?_)))))))
 exact ZA (j+1) [0] so2 ⟨rfl,oz,Zba hy hb (ZiY g9 ga)⟩ t6 rfl
 try simp only [sQ,ne_eq] at g8
 refine ZC (ZV (ZG (Zu (Zo (Za (xA (h:=Zd ?_)))))))
 exact eR t1 ⟨Ze (Zno g1 g2 g3 g4 (ZeS (Zbk oz ha)) (ZeS (Zbk oz hb))).symm,rfl,rfl⟩

theorem Zjn (q:Option Addr) (cp:Nat) (gs:List DGrant) (B:Kn) (hg:SlK B q cp 2 ZD gs):Zv (pj J) 72 [.slice q gs.length cp] B [] (ZlW gs B):=by
 refine cB 46 Tryz.func72 (h:=?_)
 have hgn:=hg.len
 refine Za (xA (h:=xA (h:=Zc (Za (xM (h:=xV Tryz.underlying54 (h:=Zdx (h:=Zb rfl (fun g0=>?_) (fun g0=>?_)))))))))
 try simp only [sQ,ne_eq] at g0
 refine Za (xA (h:=xA (h:=Zd (Zl ?_))))
 exact Zhz .ret (.inl rfl) [_,_] t2 (by simp [ZaF];omega)
 try simp only [sQ,ne_eq] at g0
 refine wSk (Za (Zk (Zn7 rfl rfl (fun b1 l1 hl1=>xA (h:=tL1 (Za (xA (h:=Zc (Za (xM (h:=xV Tryz.underlying54 (h:=xM (h:=Zi (Zw (α:=Nat × Str × Cells) [0,4,10,12,13] (fun g=>[(5,str g.2.1),(14,.int .i64 g.1)]) [0] (fun g=>[g.2.2]) (fun g Bx=>Bx=B∧g.1≤gs.length∧Zb1 (gs.take g.1)=(true,g.2.1)∧g.2.1.length≤2000000∧Zjs g.2.2 b1 (ZcB (gs.take g.1))) (fun g=>gs.length - g.1) (0,[],_) t2 rfl (⟨rfl,Nat.zero_le _,Zfi,by simp,hl1⟩) (fun g B2 hle2 hI=>?_)))))))))))))))
 obtain ⟨rfl,hk,hs,hnm,hml⟩:=hI
 refine ZB [(0,_),(4,_),(5,_),(10,_),(12,_),(13,_),(14,_)] [_] t7 rfl (Za (ZE (h:=Zc (Zb rfl (fun g1=>?_) (fun g1=>?_)))))
 try simp only [sQ,ne_eq] at g1
 refine wSk (Zc (Zi (Za ?_)))
 obtain ⟨m,hm⟩:=ZU (xs:=gs) (i:=g.1) om
 obtain ⟨bb4,oo4,rfl⟩:=hg.base hm
 obtain ⟨_,⟨rfl,hb5⟩,hc5⟩:=hg.elem hm
 refine xIx Tryz.underlying54 ZaQ (h:=yL [_,_] Zj9 hc5 0 (h:=xAl [_,_] ZcI (h:=fun b6=>xS [_,_] 1 [_,_] ZaQ (h:=tL2 (Zc (Za (xW Za7 (h:=x1 lk9 1 (h:=xR ZrE rfl (Zbo _ om2 _) (h:=?_))))))))))
 refine xN (h:=xM (h:=Zt (d:=22) rfl (fun g2=>?_) (fun g2=>?_)))
 try simp only [sQ,ne_eq] at g2
 refine xP (h:=xP (h:=xP (h:=xP (h:=xT (h:=Zb (t:=true) rfl (fun _=>Za (xA (h:=xA (h:=Zd (Zl (Zy (Zl (ZO (Zy (Zl ?_)))))))))) (fun h=>Bool.noConfusion h))))))
 exact Zhz .ret (.inl rfl) [_,_] t2 (Zdh hm hs (by rw [Za1,Zay g.2.1 m.user];simp [g2];try omega))
 try simp only [sQ,ne_eq] at g2
 refine xW Za7 (h:=x1 lk9 1 (h:=xM (h:=Zk (Zr9 rfl rfl rfl rfl (xF (h:=Zb rfl (fun g3=>?_) (fun g3=>?_)))))))
 try simp only [sQ,ne_eq] at g3
 refine Za (xA (h:=xA (h:=Zd (Zl (Zy (Zl (ZO (Zy (Zl ?_)))))))))
 exact Zhz .ret (.inl rfl) [_,_] t2 (Zdh hm hs (by rw [Za1,Zay g.2.1 m.user];simp [g3];try omega))
 try simp only [sQ,ne_eq] at g3
 refine wSk (Zc (Za (xW Zdb (h:=x1 lk3 1 (h:=ZE (h:=xM (h:=Zt (d:=31) rfl (fun g4=>?_) (fun g4=>?_))))))))
 try simp only [sQ,ne_eq] at g4
 refine xP (h:=xP (h:=xP (h:=xP (h:=xT (h:=Zb (t:=true) rfl (fun _=>Za (xA (h:=xA (h:=Zd (Zl (Zy (Zl (ZO (Zy (Zl ?_)))))))))) (fun h=>Bool.noConfusion h))))))
 exact Zhz .ret (.inl rfl) [_,_] t2 (Zdh hm hs (by rw [Za1,Zay g.2.1 m.user];simp [g4];try omega))
 try simp only [sQ,ne_eq] at g4
 refine xW Zdb (h:=x1 lk3 1 (h:=xR Zwl rfl (ZiI _ _) (h:=xN (h:=xF (h:=Zb rfl (fun g5=>?_) (fun g5=>?_))))))
 try simp only [sQ,ne_eq] at g5
 refine Za (xA (h:=xA (h:=Zd (Zl (Zy (Zl (ZO (Zy (Zl ?_)))))))))
 exact Zhz .ret (.inl rfl) [_,_] t2 (Zdh hm hs (Bool.eq_false_iff.2 fun hc=>by simp only [Za1,Bool.and_eq_true,decide_eq_true_eq] at hc;simp only [Bool.and_eq_false_iff,decide_eq_false_iff_not] at g5;omega))
 try simp only [sQ,ne_eq] at g5
 refine wSk (Za (xM (h:=xW Za7 (h:=x1 lk9 1 (h:=xW Zdb (h:=x1 lk3 1 (h:=Zk (Zg0 (k:=m.user) (v:=m.rights) 0 rfl hml rfl rfl Tryz.underlying117 Tryz.underlying9 rfl rfl rfl (fun l9 hl9=>tL2 (Zf (xW Za7 (h:=x1 lk9 1 (h:=xA (h:=ZM (Zo (Zf (xD (h:=xM (h:=?_)))))))))))))))))))
 exact ZA (g.1+1,m.user,l9) [0] so2 ⟨rfl,so,Zcn hm hs (by rw [Za1,Zay g.2.1 m.user,g2,g3];simp at g5 ⊢;omega),oy,by rw [← Ztk hm hs (by rw [Zay g.2.1 m.user,g3];rfl)];exact hl9⟩ t7 rfl
 try simp only [sQ,ne_eq] at g1
 refine ZC (ZV (ZG (Zu (Zo (Za (xM (h:=xA (h:=xA (h:=Zd ?_)))))))))
 exact ZtN .ret (.inl rfl) [_,_] rfl t2 (by rw [ZkD (ZdX hs oz)];simp;omega) (by have e:=hml;rw [List.take_of_length_le oz] at e;exact e)

theorem Zpe (q:Option Addr) (cp:Nat) (gs:List DGrant) (B:Kn) (hg:SlK B q cp 2 ZD gs):Z6 (pj J) 141 [.slice q gs.length cp] B (.bool (ZaF gs)):=by
 refine cB 11 Tryz.func141 (h:=?_)
 refine Za (xA (h:=Za (xM (h:=xC Zwk rfl (Zjn _ _ _ _ hg) (h:=?_)))))
 rintro _ B1 _ hle1 ⟨m1,l1,rfl,rfl,rfl,hl1⟩
 refine xM (h:=xE (h:=xE (h:=xA (h:=xA (h:=tL1 (Za (xM (h:=xA (h:=Zd ?_)))))))))
 exact eR t1 ⟨rfl,rfl,rfl⟩

theorem Zvj (a b:Str) (B:Kn):Z6 (pj J) 123 [str a,str b] B (.int .i64 (Lib.compareBytes a b)):=by
 refine cB 8 Tryz.func123 (h:=?_)
 refine Za (xA (h:=Za (xM (h:=xM (h:=Zk (ZvQ (fn:=Tryz.f157) rfl rfl Tryz.func157 rfl rfl Zu5 Zu6 rfl rfl (xA (h:=Zd ?_))))))))
 exact eR t1 ⟨rfl,rfl,rfl⟩

theorem Zsz (a b:Str) (B:Kn):Z6 (pj J) 88 [str a,str b] B (.int .i64 (Lib.compareBytes a b)):=by
 refine cB 8 Tryz.func88 (h:=?_)
 refine Za (xA (h:=Za (xM (h:=xM (h:=xR Zxi rfl (Zvj a b _) (h:=xA (h:=Zd ?_)))))))
 exact eR t1 ⟨rfl,rfl,rfl⟩

theorem ZlA (f:DFolder) (qa qb:Option Addr) (ca cb:Nat) (ow nm:Str) (B:Kn):Z6 (pj J) 47 [.agg #[str f.owner,str f.name,.slice qa f.grants.length ca,.int .i64 f.next,.slice qb f.mail.length cb],str ow,str nm] B (.int .i64 (Zvi f ow nm)):=by
 refine cB 19 Tryz.func47 (h:=?_)
 refine Za (xBx [_,_,_,_,_] (h:=fun b1=>xA (h:=tL1 (Zc (Za (xW Zb5 (h:=x1 lk9 0 (h:=xM (h:=xR Zx2 rfl (Zsz f.owner ow _) (h:=xA (h:=Za (xM (h:=ZaO (h:=Zb rfl (fun g1=>?_) (fun g1=>?_)))))))))))))))
 try simp only [sQ,ne_eq] at g1
 refine Za (xM (h:=xA (h:=Zd (Zl ?_))))
 exact eR t1 ⟨ZF (by rw [Zvi,if_pos g1]),rfl,rfl⟩
 try simp only [sQ,ne_eq] at g1
 refine wSk (Za (xW ZdI (h:=x1 lk9 0 (h:=xM (h:=xR Zx2 rfl (Zsz f.name nm _) (h:=xA (h:=Zd ?_)))))))
 exact eR t1 ⟨ZF (by rw [Zvi,if_neg (fun h=>h g1)]),rfl,rfl⟩

theorem Zux (b o:Nat) (q1 q2 q3:Option Addr) (c1 c2 c3:Nat) (x:DHost) (u:Str) (B:Kn) (hh:Zae B b o [str x.domain,.slice q1 x.users.length c1,.slice q2 x.folders.length c2,.int .i64 x.queue.next,.slice q3 x.queue.items.length c3]) (hf:SlK B q2 c2 5 Zs x.folders):Z6 (pj J) 187 [ptr ⟨b,o,none⟩,str u] B (.int .i64 (Zff x.folders u)):=by
 refine cB 28 Tryz.func187 (h:=?_)
 have hfn:=hf.len
 refine Za (xA (h:=Za (xA (h:=Zc (Za (xM (h:=xNc (h:=xW Zal (h:=Zk (Zn rfl rfl Zec rfl (hh _ 2 _ rfl) (xV Tryz.underlying31 (h:=xM (h:=Zi (Zw (α:=Nat × Int) [0,1,4,11,12] (fun g=>[(5,.int .i64 g.2),(13,.int .i64 g.1)]) [] (fun g=>[]) (fun g Bx=>Bx=B∧g.1≤x.folders.length∧g.2=Zff (x.folders.take g.1) u∧-1*g.1≤g.2∧g.2≤g.1*200) (fun g=>x.folders.length - g.1) (0,0) t2 rfl (⟨rfl,Nat.zero_le _,by simp [Zff],by simp,by simp⟩) (fun g B1 hle1 hI=>?_)))))))))))))))
 obtain ⟨rfl,hk,hs,hl0,hl1⟩:=hI
 refine ZB [(0,_),(1,_),(4,_),(5,_),(11,_),(12,_),(13,_)] [] t7 rfl (Za (ZE (h:=Zc (Zb rfl (fun g1=>?_) (fun g1=>?_)))))
 try simp only [sQ,ne_eq] at g1
 refine wSk (Zc (Zi (Za ?_)))
 obtain ⟨m,hm⟩:=ZU (xs:=x.folders) (i:=g.1) om
 obtain ⟨bb3,oo3,rfl⟩:=hf.base hm
 obtain ⟨_,⟨qg4,cg4,qm4,cm4,rfl,hg4,hm4,hb4,hb4b⟩,hc4⟩:=hf.elem hm
 have hg4n:=hg4.len
 have hm4n:=hm4.len
 have hm4s:=Zad hm4
 refine xIx Tryz.underlying31 Zbw (h:=yL [_,_,_,_,_] ZhQ hc4 0 (h:=xAl [_,_,_,_,_] Zf5 (h:=fun b5=>xS [_,_,_,_,_] 0 [_,_,_,_,_] Zbw (h:=tL1 (Za (xW Zb5 (h:=x1 lk9 0 (h:=xM (h:=Zdz (h:=Zb rfl (fun g2=>?_) (fun g2=>?_)))))))))))
 try simp only [sQ,ne_eq] at g2
 have hbs:=Zip (⟨m.next,m.mail⟩:DBox)
 refine Zf (xM (h:=xW Zda (h:=xL [_,_] Zmr 0 (h:=xR Zwu rfl (Zp6 _ _ (⟨m.next,m.mail⟩:DBox) _ hm4) (h:=xD (h:=xA (h:=ZM (Zo (Zf (xD (h:=xM (h:=?_))))))))))))
 exact ZA (g.1+1,g.2+Zdw ⟨m.next,m.mail⟩) [] so2 ⟨rfl,so,by rw [Zh0 hm,← hs,if_pos g2],so,so⟩ t7 rfl
 try simp only [sQ,ne_eq] at g2
 refine ZT (ZM (Zo (Zf (xD (h:=xM (h:=?_))))))
 exact ZA (g.1+1,g.2) [] so2 ⟨rfl,so,by rw [Zh0 hm,← hs,if_neg g2,Int.add_zero],so,so⟩ t7 rfl
 try simp only [sQ,ne_eq] at g1
 refine ZC (ZV (ZG (Zu (Zo (Za (xM (h:=xA (h:=Zd ?_))))))))
 exact eR t1 ⟨ZF (by rw [← Zof hs oz]),rfl,rfl⟩

theorem ZpF (b o:Nat) (q1 q2 q3:Option Addr) (c1 c2 c3:Nat) (x:DHost) (u:Str) (more:Int) (hn:u.length≤2000000) (hm0:0≤more) (hm1:more≤2000000) (B:Kn) (hh:Zae B b o [str x.domain,.slice q1 x.users.length c1,.slice q2 x.folders.length c2,.int .i64 x.queue.next,.slice q3 x.queue.items.length c3]) (hu:SlK B q1 c1 3 Zr x.users) (hf:SlK B q2 c2 5 Zs x.folders):Z6 (pj J) 145 [ptr ⟨b,o,none⟩,str u,.int .i64 more] B (.bool (Zd7 x u more)):=by
 refine cB 30 Tryz.func145 (h:=?_)
 have hfn:=hf.len
 have hub:=Zqy x.folders u
 refine Za (xA (h:=Za (xM (h:=xNc (h:=xW ZbC (h:=Zk (Zn rfl rfl Zib rfl (hh _ 1 _ rfl) (xM (h:=xR Zx4 rfl (Zg5 _ _ _ u om2 _ hu) (h:=?_))))))))))
 refine xM (h:=xE (h:=xE (h:=xAl [_,_,_] Ziv (h:=fun b2=>xS [_,_,_] 0 [_,_,_] Zek (h:=xA (h:=tL1 (Zc (Z2 (same _ _) mo kr ⟨rfl,rfl⟩ (fun _ _=>?_)))))))))
 refine aM 0 rfl (h:=aN 1 rfl (h:=aM 2 rfl (h:=Zav (d:=20) rfl (fun g1=>?_) (fun g1=>?_))))
 refine aZ 3 rfl (h:=aZ 4 rfl (h:=aZ 5 rfl (h:=aZ 6 rfl (h:=aZ 7 rfl (h:=aZ 8 rfl (h:=aZ 9 rfl (h:=aZ 10 rfl (h:=aPT 11 rfl (h:=aA 12 rfl (h:=Zx kr kr ?_))))))))))
 refine Zo (Zd ?_)
 exact eR t1 ⟨Ze (by rw [Zd7,g1];rfl),rfl,rfl⟩
 refine aM 3 rfl (h:=aM 4 rfl (h:=aT 5 rfl (Zag fun D=>Zaf rfl rfl ZwG rfl (Zux _ _ _ _ _ _ _ _ x u _ hh hf) r4) (h:=aM 6 rfl (h:=aD 7 rfl (h:=aW 8 rfl Ze5 (h:=aT 9 rfl (Zag fun D=>Zn rfl rfl lk3 rfl (atL 0 rfl rfl rfl) r4) (h:=ZnR 10 rfl (h:=aPF 11 rfl (h:=aA 12 rfl (h:=Zx kr kr ?_))))))))))
 refine Zo (Zd ?_)
 exact eR t1 ⟨Ze (by rw [Zd7,g1];rfl),rfl,rfl⟩

theorem ZmU (b o:Nat) (q1 q2 q3:Option Addr) (c1 c2 c3:Nat) (x:DHost) (B:Kn) (hh:Zae B b o [str x.domain,.slice q1 x.users.length c1,.slice q2 x.folders.length c2,.int .i64 x.queue.next,.slice q3 x.queue.items.length c3]) (hu:SlK B q1 c1 3 Zr x.users) (hf:SlK B q2 c2 5 Zs x.folders):Z6 (pj J) 107 [ptr ⟨b,o,none⟩] B (.bool (Zg4 x)):=by
 refine cB 26 Tryz.func107 (h:=?_)
 have hfn:=hf.len
 have hun:=hu.len
 refine Za (xA (h:=Zc (Za (xM (h:=xNc (h:=xW ZbC (h:=Zk (Zn rfl rfl Zib rfl (hh _ 1 _ rfl) (xV Tryz.underlying30 (h:=xM (h:=Zi (Zw (α:=Nat) [0,8,9] (fun k=>[(10,.int .i64 k)]) [] (fun k=>[]) (fun k Bx=>Bx=B∧k≤x.users.length∧∀z,z∈x.users.take k→Zcm x z=true) (fun k=>x.users.length - k) 0 t1 rfl (⟨rfl,Nat.zero_le _,by simp⟩) (fun k B1 hle1 hI=>?_)))))))))))))
 obtain ⟨rfl,hk,ha⟩:=hI
 refine ZB [(0,_),(8,_),(9,_),(10,_)] [] t4 rfl (Za (ZE (h:=Zc (Zb rfl (fun g1=>?_) (fun g1=>?_)))))
 try simp only [sQ,ne_eq] at g1
 refine wSk (Zc (Zi (Za ?_)))
 obtain ⟨w,hw⟩:=ZU (xs:=x.users) (i:=k) om
 obtain ⟨bb3,oo3,rfl⟩:=hu.base hw
 obtain ⟨_,⟨rfl,hb4,hb4b⟩,hc4⟩:=hu.elem hw
 refine xIx Tryz.underlying30 Zek (h:=yL [_,_,_] ZkJ hc4 0 (h:=xAl [_,_,_] Ziv (h:=fun b5=>xS [_,_,_] 0 [_,_,_] Zek (h:=tL1 (Za (xM (h:=xW Zb4 (h:=x1 lk9 0 (h:=xR Zx7 rfl (Zsx _ _ _ _ _ _ _ _ x w.name [105,110,98,111,120] om2 om2 _ hh hf) (h:=?_))))))))))
 refine ZE (h:=xM (h:=Zt (d:=19) rfl (fun g2=>?_) (fun g2=>?_)))
 try simp only [sQ,ne_eq] at g2
 refine xP (h:=xP (h:=xP (h:=xP (h:=xT (h:=Zb (t:=true) rfl (fun _=>Za (xA (h:=Zd (Zy (Zl (ZO (Zy (Zl ?_)))))))) (fun h=>Bool.noConfusion h))))))
 exact eR t1 ⟨Ze (Zdq hw (ZjI g2)).symm,rfl,rfl⟩
 try simp only [sQ,ne_eq] at g2
 refine xM (h:=xW Zb4 (h:=x1 lk9 0 (h:=xR Zw1 rfl (ZpF _ _ _ _ _ _ _ _ x w.name 0 om2 om2 om2 _ hh hu hf) (h:=?_))))
 refine xF (h:=Zb rfl (fun g3=>?_) (fun g3=>?_))
 try simp only [sQ,ne_eq] at g3
 refine Za (xA (h:=Zd (Zy (Zl (ZO (Zy (Zl ?_)))))))
 exact eR t1 ⟨Ze (Zdq hw (ZjH g3)).symm,rfl,rfl⟩
 try simp only [sQ,ne_eq] at g3
 refine ZT (ZM (Zo (Zf (xD (h:=xM (h:=?_))))))
 exact ZA (k+1) [] so2 ⟨rfl,oz,Zba hw ha (ZjG g2 g3)⟩ t4 rfl
 try simp only [sQ,ne_eq] at g1
 refine ZC (ZV (ZG (Zu (Zo (Za (xA (h:=Zd ?_)))))))
 exact eR t1 ⟨Ze (ZeS (Zbk oz ha)).symm,rfl,rfl⟩

theorem Zri (q:Option Addr) (cp:Nat) (bs:List Bool) (v:Bool) (B:Kn) (hb:SlK B q cp 1 Zt2 bs):Z6 (pj J) 186 [.slice q bs.length cp,.bool v] B (.int .i64 (Zb8 (fun y=>decide (v=y)) bs)):=by
 refine cB 19 Tryz.func186 (h:=?_)
 have hbn:=hb.len
 refine Za (xA (h:=Zc (Za (xM (h:=xV Tryz.underlying178 (h:=xM (h:=Zi (Zw (α:=Nat) [0,1,7] (fun k=>[(8,.int .i64 k)]) [] (fun k=>[]) (fun k Bx=>Bx=B∧k≤bs.length∧∀y,y∈bs.take k→decide (v=y)=false) (fun k=>bs.length - k) 0 t1 rfl (⟨rfl,Nat.zero_le _,by simp⟩) (fun k B1 hle1 hI=>?_)))))))))
 obtain ⟨rfl,hk,ha⟩:=hI
 refine ZB [(0,_),(1,_),(7,_),(8,_)] [] t4 rfl (Za (ZE (h:=Zc (Zb rfl (fun g1=>?_) (fun g1=>?_)))))
 try simp only [sQ,ne_eq] at g1
 refine wSk (Zc (Zi (Za (xM (h:=xA (h:=Za (xM (h:=xM (h:=xM (h:=?_))))))))))
 obtain ⟨y,hy⟩:=ZU (xs:=bs) (i:=k) om
 obtain ⟨bb3,oo3,rfl⟩:=hb.base hy
 obtain ⟨_,rfl,hc4⟩:=hb.elem hy
 refine xIx Tryz.underlying178 sz4 (h:=y1 lk4 hc4 0 (h:=Zk (Zuq rfl rfl rfl rfl rfl (Zvb Tryz.underlying4) (Zb rfl (fun g2=>?_) (fun g2=>?_)))))
 try simp only [sQ,ne_eq] at g2
 refine Za (xM (h:=xA (h:=Zd (Zy (Zl (ZO (Zy (Zl ?_))))))))
 exact eR t1 ⟨ZF (ZgS hy (decide_eq_true g2) ha).symm,rfl,rfl⟩
 try simp only [sQ,ne_eq] at g2
 refine ZT (ZM (Zo (Zf (xD (h:=xM (h:=?_))))))
 exact ZA (k+1) [] so2 ⟨rfl,oz,Zba hy ha (decide_eq_false g2)⟩ t4 rfl
 try simp only [sQ,ne_eq] at g1
 refine ZC (ZV (ZG (Zu (Zo (Za (xA (h:=Zd ?_)))))))
 exact eR t1 ⟨ZF (Zev (Zbk oz ha)).symm,rfl,rfl⟩

theorem ZlJ (q:Option Addr) (cp:Nat) (bs:List Bool) (v:Bool) (B:Kn) (hb:SlK B q cp 1 Zt2 bs):Z6 (pj J) 144 [.slice q bs.length cp,.bool v] B (.bool (decide (0≤Zb8 (fun y=>decide (v=y)) bs))):=by
 refine cB 9 Tryz.func144 (h:=?_)
 refine Za (xA (h:=Za (xM (h:=xM (h:=xR ZwH rfl (Zri _ _ _ _ _ hb) (h:=Zdy (h:=xA (h:=Zd ?_))))))))
 exact eR t1 ⟨rfl,rfl,rfl⟩

theorem Zkg (l:Str) (hl:l.length≤2000000) (B:Kn):Z6 (pj J) 103 [str l] B (.bool (Zcz l)):=by
 refine cB 16 Tryz.func103 (h:=?_)
 refine Za (xA (h:=Za (xM (h:=xB [(0,_)] [_,_] [_,_] ZuI Zqo (h:=xAl [_,_] Zqo (h:=fun b1=>xS [_,_] 0 [_,_] ZuE (h:=tL1 (Za (Zk (ZhX 0 rfl rfl rfl Zw9 rfl (ZrG _ _ 0 oz oz _) ?_))))))))))
 refine xM (h:=xE (h:=xE (h:=xA (h:=xA (h:=Za (xM (h:=xM (h:=Zt (d:=13) rfl (fun g1=>?_) (fun g1=>?_)))))))))
 refine Zk (ZgY 0 rfl rfl rfl ZvA rfl (ZmH _ _ (dom l 0).2 (Zvh (Nat.zero_le _)) oz _) ?_)
 refine xT (h:=xA (h:=Zd ?_))
 exact eR t1 ⟨Ze (by rw [Bool.eq_iff_iff,← Zks];simp [ZlH] at g1;simp [g1];try omega),rfl,rfl⟩
 refine xP (h:=xF (h:=xA (h:=Zd ?_)))
 exact eR t1 ⟨Ze (by symm;rw [Bool.eq_false_iff,ne_eq,← Zks];intro hc;simp [ZlH,hc.1] at g1;omega),rfl,rfl⟩

theorem Zi9 (Wg C n i b o b1 b3 b5 b6:Nat) (q1 q2 q3:Option Addr) (c1 c2 c3:Nat) (x:DHost) (m:DFolder) (qg qm:Option Addr) (cg cm:Nat) (hin:i<n) (B:Kn) (hc900:Zae B b o [str x.domain,.slice q1 x.users.length c1,.slice q2 x.folders.length c2,.int .i64 x.queue.next,.slice q3 x.queue.items.length c3]) (hu:SlK B q1 c1 3 Zr x.users) (hc901:Zae B b1 0 [ptr ⟨b,o,none⟩]) (hc903:Zae B b3 0 [.slice (some ⟨C,0,none⟩) n n]) (hc905:Zae B b5 0 [.int .i64 i]) (hc906:Zae B b6 0 [str m.owner,str m.name,.slice qg m.grants.length cg,.int .i64 m.next,.slice qm m.mail.length cm]) (hg:SlK B qg cg 2 ZD m.grants) (hm:SlK B qm cm 3 Zam m.mail) (ho:m.owner.length≤2000000) (hnm:m.name.length≤2000000):@Zd9 ⟨4⟩ Tryz.prog wgL.tWg Wg C n i (.bool (ZaD x.users m)) (Go.Conc.G (Frame.enter Tryz.prog 139 #[ptr ⟨Wg,0,none⟩,ptr ⟨b1,0,none⟩,ptr ⟨b6,0,none⟩,ptr ⟨b3,0,none⟩,ptr ⟨b5,0,none⟩] .deferred) [Zfx Tryz.prog]) B []:=by
 letI:Go.ConcR.Payload:=⟨4⟩
 refine ZsH (Lk:=wgL) (P:=Tryz.prog) (caps:=[ptr ⟨Wg,0,none⟩,ptr ⟨b1,0,none⟩,ptr ⟨b6,0,none⟩,ptr ⟨b3,0,none⟩,ptr ⟨b5,0,none⟩]) (nt:=27) (I:=keeps B [] []) (K:=fun _ _ _ _=>False) ZkN Tryz.func139 rfl rfl (Nat.le_of_ble_eq_true rfl) rfl mo kr ⟨Kn.le.refl _,Zbr.refl _ _⟩ (fun _ _ _ _ h=>h) ?_
 refine aT 0 rfl (ZR fun D B L hI=>Zn rfl rfl ZuR rfl ((hc903.mono hI.1) _ 0 _ rfl) r4) (h:=aT 1 rfl (ZR fun D B L hI=>Zn rfl rfl lk3 rfl ((hc905.mono hI.1) _ 0 _ rfl) r4) (h:=aT 2 rfl (ZR fun D B L hI=>Zn rfl rfl Zv5 rfl ((hc901.mono hI.1) _ 0 _ rfl) r4) (h:=aW 3 rfl Zb5 (h:=aT 4 rfl (ZR fun D B L hI=>Zn rfl rfl lk9 rfl ((hc906.mono hI.1) _ 0 _ rfl) r4) (h:=aT 5 rfl (ZR fun D B L hI=>Zaf rfl rfl Zvc rfl (ZfR _ _ _ _ _ _ _ _ x m.owner om2 _ (hc900.mono hI.1) (hu.mono Zr.mono hI.1)) r4) (h:=?_))))))
 refine aM 6 rfl (h:=Zav (d:=11) rfl (fun g1=>?_) (fun g1=>?_))
 refine aW 7 rfl ZdI (h:=aT 8 rfl (ZR fun D B L hI=>Zn rfl rfl lk9 rfl ((hc906.mono hI.1) _ 1 _ rfl) r4) (h:=aT 9 rfl (ZR fun D B L hI=>Zaf rfl rfl ZrE rfl (Zbo _ om2 _) r4) (h:=?_)))
 refine aPT 10 rfl (h:=aM 11 rfl (h:=Zav (d:=16) rfl (fun g2=>?_) (fun g2=>?_)))
 refine aW 12 rfl ZbB (h:=aT 13 rfl (ZR fun D B L hI=>Zn rfl rfl Zms rfl ((hc906.mono hI.1) _ 2 _ rfl) r4) (h:=aT 14 rfl (ZR fun D B L hI=>Zaf rfl rfl Zw4 rfl (Zpe _ _ _ _ (hg.mono ZD.mono hI.1)) r4) (h:=aPT 15 rfl (h:=aM 16 rfl (h:=Zav (d:=21) rfl (fun g3=>?_) (fun g3=>?_))))))
 refine aW 17 rfl Zda (h:=aT 18 rfl (ZR fun D B L hI=>Zaj [_,_] rfl rfl Zmr rfl (Zmg (hc906.mono hI.1) 3 rfl rfl) r4) (h:=aT 19 rfl (ZR fun D B L hI=>Zaf rfl rfl Zvf rfl (Zkh _ _ (⟨m.next,m.mail⟩:DBox) _ (hm.mono Zam.mono hI.1)) r4) (h:=aPT 20 rfl (h:=aT 21 rfl (ZR fun D B L hI=>ZbH rfl rfl Tryz.underlying178 sz4 rfl rfl oz oz r4) (h:=?_)))))
 refine ZgU 22 kr rfl kr kr kr (fun T hn hT=>?_)
 refine ZfB (L:=[]) hT ZkN (by simp [ZaD,DFolder.box,g1,g2,g3]) rfl hin rfl Tryz.sizeOf4 (ZcL sz4) (by exact ZgO C i) rfl kr Tryz.func139 rfl
 refine aZ 17 rfl (h:=aZ 18 rfl (h:=aZ 19 rfl (h:=aPF 20 rfl (h:=aT 21 rfl (ZR fun D B L hI=>ZbH rfl rfl Tryz.underlying178 sz4 rfl rfl oz oz r4) (h:=?_)))))
 refine ZgU 22 kr rfl kr kr kr (fun T hn hT=>?_)
 refine ZfB (L:=[]) hT ZkN (by simp [ZaD,DFolder.box,g1,g2,g3]) rfl hin rfl Tryz.sizeOf4 (ZcL sz4) (by exact ZgO C i) rfl kr Tryz.func139 rfl
 refine aZ 12 rfl (h:=aZ 13 rfl (h:=aZ 14 rfl (h:=aPF 15 rfl (h:=aM 16 rfl (h:=aZ 17 rfl (h:=aZ 18 rfl (h:=aZ 19 rfl (h:=aPF 20 rfl (h:=aT 21 rfl (ZR fun D B L hI=>ZbH rfl rfl Tryz.underlying178 sz4 rfl rfl oz oz r4) (h:=?_))))))))))
 refine ZgU 22 kr rfl kr kr kr (fun T hn hT=>?_)
 refine ZfB (L:=[]) hT ZkN (by simp [ZaD,DFolder.box,g1,g2]) rfl hin rfl Tryz.sizeOf4 (ZcL sz4) (by exact ZgO C i) rfl kr Tryz.func139 rfl
 refine aZ 7 rfl (h:=aZ 8 rfl (h:=aZ 9 rfl (h:=aPF 10 rfl (h:=aM 11 rfl (h:=aZ 12 rfl (h:=aZ 13 rfl (h:=aZ 14 rfl (h:=aPF 15 rfl (h:=aM 16 rfl (h:=aZ 17 rfl (h:=aZ 18 rfl (h:=aZ 19 rfl (h:=aPF 20 rfl (h:=aT 21 rfl (ZR fun D B L hI=>ZbH rfl rfl Tryz.underlying178 sz4 rfl rfl oz oz r4) (h:=?_)))))))))))))))
 refine ZgU 22 kr rfl kr kr kr (fun T hn hT=>?_)
 refine ZfB (L:=[]) hT ZkN (by simp [ZaD,DFolder.box,g1]) rfl hin rfl Tryz.sizeOf4 (ZcL sz4) (by exact ZgO C i) rfl kr Tryz.func139 rfl

theorem ZhT (hJ:Joins Tryz.prog J) (b o:Nat) (q1 q2 q3:Option Addr) (c1 c2 c3:Nat) (x:DHost) (B:Kn) (hc900:Zae B b o [str x.domain,.slice q1 x.users.length c1,.slice q2 x.folders.length c2,.int .i64 x.queue.next,.slice q3 x.queue.items.length c3]) (hu:SlK B q1 c1 3 Zr x.users) (hf:SlK B q2 c2 5 Zs x.folders):Zv (pj J) 106 [ptr ⟨b,o,none⟩] B [] (fun v B' Ls=>Ls=[]∧v = .bool (x.folders.all (ZaD x.users))):=by
 have hfn:=hf.len
 letI:Go.ConcR.Payload:=⟨4⟩
 refine ZrK 30 Tryz.func106 rfl rfl (Nat.le_of_ble_eq_true rfl) fun X kind c cs F T0 hk hke hA hn0 hT0=>?_
 let C0:Cx (pj J):=⟨X,fb 106 kind,c :: cs,F,hke⟩
 refine ZeA (C:=C0) (L:=[]) (Zin (C:=C0) (L:=[]) hn0 hT0 (xBx [_] (h:=fun b1=>xA (h:=?_))))
 intro T1 hn1 hT1
 refine Zku (C:=C0) rfl 0 rfl fun B1 hle1 hm1=>?_
 have hc901:=ZaT hm1
 replace hc900:=hc900.mono hle1
 obtain ⟨hu,hf⟩:=up2 hle1 hu hf
 replace hA:=fun v B' Ls' h=>hA v B' Ls' (hle1.trans h)
 refine ZeA (C:=C0) (L:=[[]]) (Zin (C:=C0) (L:=[[]]) hn1 hT1 (y1 Zv5 hc901 0 (h:=xNc (h:=xW Zal (h:=y1 Zec hc900 2 (h:=xV Tryz.underlying31 (h:=Zk (ZaX (m:=x.folders.length) (c:=x.folders.length) (by_:=1) [.bool false] rfl rfl Zwi zo4 rfl rfl ⟨_,_,rfl,rfl⟩ ⟨_,_,rfl,rfl⟩ (Nat.le_refl _) oz (fun Cb=>?_)))))))))
 refine xAl [_] ZvJ (h:=fun b2=>xS [_] 2 [_] Zv0 (h:=?_))
 intro T2 hn2 hT2
 refine Zku (C:=C0) rfl 2 rfl fun B2 hle2 hm2=>?_
 have hc903:=ZaT hm2
 replace hc900:=hc900.mono hle2
 obtain ⟨hu,hf⟩:=up2 hle2 hu hf
 replace hc901:=hc901.mono hle2
 replace hA:=fun v B' Ls' h=>hA v B' Ls' (hle2.trans h)
 refine ZeA (C:=C0) (L:=[[],Zar Cb (zrow [.bool false] x.folders.length) 4,[]]) (ZfY (C:=C0) (L:=[[],Zar Cb (zrow [.bool false] x.folders.length) 4,[]]) (ZqU (C:=Cb) (n:=x.folders.length) (val:=Zqk x) (L₁:=F) (cells:=(zrow [.bool false] x.folders.length).toArray) (i:=0) (todo:=[]) hJ rfl hke ZvI rfl oz (by simp [ZbV]) (.refl _) (fun hmain Wg hW1 hW2=>?_)))
 let C1:Cx (.lone Tryz.prog):=⟨phL Tryz.prog 188 Wg Cb x.folders.length (Zqk x) X.R .a5 (0),fb 106 kind,c :: cs,F,hke⟩
 have hT3:=hT2.putT (n:=30) (dst:=some 4) hn2 rfl (ptr ⟨Wg,0,none⟩)
 have hn3:(putT T2 (some 4) (ptr ⟨Wg,0,none⟩)).size=30:=by rw [Za0,hn2]
 refine ZcP (C:=C1) (L:=[]) (ZeA (C:=C1) (L:=[]) (ZeA (C:=C1) (L:=[]) (Zin (C:=C1) (L:=[]) hn3 hT3 (y1 Zv5 hc901 0 (h:=xNc (h:=xW Zal (h:=y1 Zec hc900 2 (h:=xV Tryz.underlying31 (h:=xM (h:=?_))))))))))
 intro T4 hn4 hT4
 refine ZmJ (C:=C1) (L:=[]) (Zs5 (nt:=30) (fun j=>[(1,ptr ⟨b1,0,none⟩),(3,ptr ⟨b2,0,none⟩),(4,ptr ⟨Wg,0,none⟩),(16,.slice q2 x.folders.length c2),(17,.int .i64 x.folders.length),(18,.int .i64 ((j:Nat):Int))]) (fun j hj B3 T5 hle3 hn5 hT5 hnext=>?_) hn4 (hT4.sub' t6))
 replace hc900:=hc900.mono hle3
 obtain ⟨hu,hf⟩:=up2 hle3 hu hf
 replace hc901:=hc901.mono hle3
 replace hc903:=hc903.mono hle3
 replace hA:=fun v B' Ls' h=>hA v B' Ls' (hle3.trans h)
 let C2:Cx (.lone Tryz.prog):=⟨phL Tryz.prog 188 Wg Cb x.folders.length (Zqk x) X.R .a5 (j),fb 106 kind,c :: cs,F,hke⟩
 refine ZeA (C:=C2) (L:=[]) (Zin (C:=C2) (L:=[]) hn5 hT5 (ZE (h:=?_)))
 intro T6 hn6 hT6
 refine ZeA (C:=C2) (L:=[]) ?_
 rcases Nat.lt_or_ge j x.folders.length with hlt | hge
 refine ZpW (C:=C2) (L:=[]) (t:=true) (by exact congrArg (fun t=>some (Value.bool t)) (decide_eq_true oz)) hT6 ?_
 refine ZtR (C:=C2) (L:=[]) (ZeA (C:=C2) (L:=[]) (ZmJ (C:=C2) (L:=[]) (ZeA (C:=C2) (L:=[]) (Zin (C:=C2) (L:=[]) hn6 hT6 (xM (h:=?_))))))
 obtain ⟨m,hm⟩:=ZU (xs:=x.folders) (i:=j) om
 obtain ⟨bb4,oo4,rfl⟩:=hf.base hm
 obtain ⟨_,⟨qg5,cg5,qm5,cm5,rfl,hg5,hm5,hb5,hb5b⟩,hc5⟩:=hf.elem hm
 have hg5n:=hg5.len
 have hm5n:=hm5.len
 have hm5s:=Zad hm5
 refine xIx Tryz.underlying31 Zbw (h:=yL [_,_,_,_,_] ZhQ hc5 0 (h:=xAl [_] zo3 (h:=fun b6=>xAl [_,_,_,_,_] Zf5 (h:=fun b7=>xS [_] 0 [_] sz3 (h:=xS [_,_,_,_,_] 1 [_,_,_,_,_] Zbw (h:=?_))))))
 intro T7 hn7 hT7
 refine Zku (C:=C2) rfl 0 rfl fun B4 hle4 hpm4=>?_
 have hc905:=ZaT hpm4
 refine Zku (C:=C2) rfl 1 rfl fun B5 hle5 hpm5=>?_
 have hc906:=ZaT hpm5
 replace hc905:=hc905.mono hle5
 replace hc900:=hc900.mono (hle4.trans hle5)
 replace hu:=hu.mono Zr.mono (hle4.trans hle5)
 replace hc901:=hc901.mono (hle4.trans hle5)
 replace hc903:=hc903.mono (hle4.trans hle5)
 replace hg5:=hg5.mono ZD.mono (hle4.trans hle5)
 replace hm5:=hm5.mono Zam.mono (hle4.trans hle5)
 refine ZeA (C:=C2) (L:=[[],[]]) (ZfY (C:=C2) (L:=[[],[]]) (ZuJ (Lk:=wgL) (i:=0) (todo:=[]) ZkN hlt rfl Zw5 rfl rfl hT7 hke ?_))
 let C3:Cx (.lone Tryz.prog):=⟨phL Tryz.prog 188 Wg Cb x.folders.length (Zqk x) X.R .a2 (j),fb 106 kind,c :: cs,F,hke⟩
 have hT8:=hT7.putT (n:=30) (dst:=(some 23)) hn7 rfl (.tuple #[])
 have hn8:(putT T7 (some 23) (.tuple #[])).size=30:=by rw [Za0,hn7]
 refine ZcP (C:=C3) (L:=[]) (ZfY (C:=C3) (L:=[]) (ZxE (C:=C3) (L:=[]) (i:=0) (todo:=[1]) rfl hn8 hT8 (Zk (ZcQ (xs:=[]) (ys:=[.tmp 4,.tmp 1,.tmp 6,.tmp 3,.tmp 5]) rfl rfl rfl rfl ?_))))
 intro T9 hn9 hT9
 refine Zv3 (i:=1) (todo:=[]) rfl rfl hT9 hke Tryz.func139 rfl rfl (by rw [Zl2 hm];exact Zi9 Wg Cb x.folders.length j b o b1 b2 b6 b7 _ _ _ _ _ _ x m _ _ _ _ hlt B5 hc900 hu hc901 hc903 hc905 hc906 hg5 hm5 hb5 hb5b) ?_
 let C4:Cx (.lone Tryz.prog):=⟨phL Tryz.prog 188 Wg Cb x.folders.length (Zqk x) X.R .a5 (j+1),fb 106 kind,c :: cs,F,hke⟩
 refine ZcP (C:=C4) (L:=[]) (ZnE (C:=C4) (L:=[]) ?_)
 have hn10:=hn9
 have hT10:=hT9
 refine Zin (C:=C4) (L:=[]) hn10 hT10 (xD (h:=xM (h:=?_)))
 intro T11 hn11 hT11
 exact hnext hlt _ _ (hle4.trans hle5) hn11 (hT11.sub' t6)
 obtain rfl:j=x.folders.length:=by omega
 refine ZpW (C:=C2) (L:=[]) (t:=false) (by exact congrArg (fun t=>some (Value.bool t)) (decide_eq_false oz)) hT6 ?_
 refine ZtS (C:=C2) (L:=[]) (by rfl) ?_
 refine ZeA (C:=C2) (L:=[]) (ZfY (C:=C2) (L:=[]) (Zs4 (Lk:=wgL) (X:=X) (i:=0) (todo:=[]) ZkN oz rfl Zw3 rfl hT6 hke (fun _ _ _ h=>h) ?_))
 have hT7:=hT6.putT (n:=30) (dst:=(some 26)) hn6 rfl (.tuple #[])
 have hn7:(putT T6 (some 26) (.tuple #[])).size=30:=by rw [Za0,hn6]
 refine ZcP (C:=C0) (L:=[[(Cb,Obj.cells ((List.range x.folders.length).map (Zqk x)).toArray 4 (0,0))]]) (Zku (C:=C0) (L:=[[(Cb,Obj.cells ((List.range x.folders.length).map (Zqk x)).toArray 4 (0,0))]]) rfl 0 rfl fun B4 hle4 hm4=>?_)
 have hvb:=Zoe hm4 hfn
 replace hc903:=hc903.mono hle4
 replace hA:=fun v B' Ls' h=>hA v B' Ls' (hle4.trans h)
 refine ZtG Tryz.func106 rfl hk hke hn7 hT7 hA ?_
 rw [show (x.folders.length:Nat)=(x.folders.map (ZaD x.users)).length from (List.length_map ..).symm] at hc903
 refine Za (y1 ZuR hc903 0 (h:=xR Zw2 rfl (ZlJ _ _ _ _ _ hvb) (h:=xN (h:=xA (h:=tL1 (Zd ?_))))))
 exact eR t1 ⟨rfl,congrArg Value.bool Zjk⟩

theorem Zlu (hJ:Joins Tryz.prog J) (q1 q2 q3:Option Addr) (c1 c2 c3:Nat) (x:DHost) (hd:x.domain.length≤2000000) (B:Kn) (hu:SlK B q1 c1 3 Zr x.users) (hf:SlK B q2 c2 5 Zs x.folders) (hi:SlK B q3 c3 4 ZK x.queue.items):Zv (pj J) 67 [.agg #[str x.domain,.slice q1 x.users.length c1,.slice q2 x.folders.length c2,.int .i64 x.queue.next,.slice q3 x.queue.items.length c3]] B [] (fun v B' Ls=>Ls=[]∧v = .bool (Z7 x)):=by
 refine cB 63 Tryz.func67 (h:=?_)
 rw [← Znp]
 have hfn:=hf.len
 have hun:=hu.len
 have hin:=hi.len
 refine Za (xBx [_,_,_,_,_] (h:=fun b1=>xA (h:=tL1 (Zjv 0 rfl (fun B2 hle2 hpm2=>?_)))))
 have hc2:=ZaT hpm2
 obtain ⟨hu,hf,hi⟩:=up3 hle2 hu hf hi
 refine Zc (Za (xW Zhw (h:=y1 lk9 hc2 0 (h:=xR ZxA rfl (Zkg _ om2 _) (h:=?_)))))
 refine xN (h:=xM (h:=Zt (d:=10) rfl (fun g1=>?_) (fun g1=>?_)))
 try simp only [sQ,ne_eq] at g1
 refine xP (h:=xP (h:=xP (h:=xP (h:=xT (h:=xM (h:=xP (h:=xP (h:=xP (h:=xP (h:=xT (h:=xM (h:=xP (h:=xP (h:=xP (h:=xP (h:=xT (h:=tL1 (Zb (t:=true) rfl (fun _=>Za (xA (h:=Zd (Zl ?_)))) (fun h=>Bool.noConfusion h)))))))))))))))))))
 exact eR t1 ⟨rfl,Ze (by simp [Zc8,g1])⟩
 try simp only [sQ,ne_eq] at g1
 refine xW ZbC (h:=y1 Zib hc2 1 (h:=xR Zvg rfl (Zhl _ _ _ _ hu) (h:=xN (h:=xF (h:=xM (h:=Zt (d:=16) rfl (fun g2=>?_) (fun g2=>?_)))))))
 try simp only [sQ,ne_eq] at g2
 refine xP (h:=xP (h:=xP (h:=xP (h:=xT (h:=xM (h:=xP (h:=xP (h:=xP (h:=xP (h:=xT (h:=tL1 (Zb (t:=true) rfl (fun _=>Za (xA (h:=Zd (Zl ?_)))) (fun h=>Bool.noConfusion h)))))))))))))
 exact eR t1 ⟨rfl,Ze (by simp [Zc8,g1,g2])⟩
 try simp only [sQ,ne_eq] at g2
 refine xW Zee (h:=yL [_,_] ZkL hc2 3 (h:=xR Zxz rfl (Zlr _ _ x.queue _ hi) (h:=xN (h:=xF (h:=xM (h:=Zt (d:=22) rfl (fun g3=>?_) (fun g3=>?_)))))))
 try simp only [sQ,ne_eq] at g3
 refine xP (h:=xP (h:=xP (h:=xP (h:=xT (h:=tL1 (Zb (t:=true) rfl (fun _=>Za (xA (h:=Zd (Zl ?_)))) (fun h=>Bool.noConfusion h)))))))
 exact eR t1 ⟨rfl,Ze (by simp [Zc8,g1,g2,g3])⟩
 try simp only [sQ,ne_eq] at g3
 refine xW Zal (h:=y1 Zec hc2 2 (h:=xV Tryz.underlying31 (h:=Zdx (h:=xF (h:=tL1 (Zb rfl (fun g4=>?_) (fun g4=>?_)))))))
 try simp only [sQ,ne_eq] at g4
 refine Za (xA (h:=Zd (Zl ?_)))
 exact eR t1 ⟨rfl,Ze (by simp [Zc8];intros;omega)⟩
 try simp only [sQ,ne_eq] at g4
 refine wSk (Zc (Za (xW Zal (h:=y1 Zec hc2 2 (h:=xW Zal (h:=y1 Zec hc2 2 (h:=xV Tryz.underlying31 (h:=xU (h:=Zk (ZvP (m:=(x.folders.length - 1)) rfl rfl rfl rfl om ?_))))))))))
 have hsl:((x.folders.take (x.folders.length - 1)).drop 0).length=x.folders.length - 1:=by simp
 obtain ⟨hq6,q6,cp6,hv6,hr6⟩:=hf.cutE 0 (x.folders.length - 1) om om
 have hr6n:=hr6.len
 refine Zk (Zoa (a:=0) (b:=(x.folders.length - 1)) hv6 om hq6 rfl rfl Tryz.underlying31 Zbw rfl rfl ⟨_,_,rfl,by first | omega | (simp;done) | (simp;omega)⟩ ?_)
 refine xV Tryz.underlying31 (h:=xM (h:=Zi (Zw (α:=Nat) [0,1,27,35,36] (fun k=>[(37,.int .i64 k)]) [] (fun k=>[]) (fun k Bx=>Bx=B2∧k≤x.folders.length - 1∧Zr0 x.folders k) (fun k=>x.folders.length - k) 0 t1 rfl (⟨rfl,Nat.zero_le _,Znb⟩) (fun k B7 hle7 hI=>?_))))
 obtain ⟨rfl,hk,hord⟩:=hI
 refine ZB [(0,_),(1,_),(27,_),(35,_),(36,_),(37,_)] [_] t6 rfl (Za (ZE (h:=Zc (Zb rfl (fun g5=>?_) (fun g5=>?_)))))
 try simp only [sQ,ne_eq] at g5
 refine wSk (Zc (Zi (Za (xM (h:=?_)))))
 obtain ⟨fa,hfa⟩:=ZU (xs:=((x.folders.take (x.folders.length - 1)).drop 0)) (i:=k) om
 obtain ⟨bb9,oo9,rfl⟩:=hr6.base hfa
 obtain ⟨_,⟨qg10,cg10,qm10,cm10,rfl,hg10,hm10,hb10,hb10b⟩,hc10⟩:=hr6.elem hfa
 have hg10n:=hg10.len
 have hm10n:=hm10.len
 have hm10s:=Zad hm10
 refine xIx Tryz.underlying31 Zbw (h:=?_)
 have hfa0:x.folders[k]? = some fa:=by rw [List.drop_zero,List.getElem?_take] at hfa;split at hfa <;> simp_all
 refine yL [_,_,_,_,_] ZhQ hc10 0 (h:=xAl [_,_,_,_,_] Zf5 (h:=fun b11=>xA (h:=xS [_,_,_,_,_] 1 [_,_,_,_,_] Zbw (h:=tL2 (Za (xW Zal (h:=y1 Zec hc2 2 (h:=xM (h:=xD (h:=?_))))))))))
 obtain ⟨fb,hfb⟩:=ZU (xs:=x.folders) (i:=(k+1)) om
 obtain ⟨bb13,oo13,rfl⟩:=hf.base hfb
 obtain ⟨_,⟨qg14,cg14,qm14,cm14,rfl,hg14,hm14,hb14,hb14b⟩,hc14⟩:=hf.elem hfb
 have hg14n:=hg14.len
 have hm14n:=hm14.len
 have hm14s:=Zad hm14
 refine xIx Tryz.underlying31 Zbw (h:=yL [_,_,_,_,_] ZhQ hc14 0 (h:=xAl [_,_,_,_,_] Zf5 (h:=fun b15=>xS [_,_,_,_,_] 2 [_,_,_,_,_] Zbw (h:=tL3 (Za (xL [_,_,_,_,_] ZhQ 1 (h:=xW Zb5 (h:=x1 lk9 2 (h:=xW ZdI (h:=x1 lk9 2 (h:=xR Zy5 rfl (ZlA fa _ _ _ _ fb.owner fb.name _) (h:=Zdy (h:=Zb rfl (fun g6=>?_) (fun g6=>?_))))))))))))))
 try simp only [sQ,ne_eq] at g6
 refine Za (xA (h:=Zd (Zy (Zl (ZO (Zy (Zl ?_)))))))
 exact eR t1 ⟨rfl,Ze (by simp [Zc8,ZqZ hfa0 hfb ((Zkw fa fb).1 g6)])⟩
 try simp only [sQ,ne_eq] at g6
 refine ZT (ZM (Zo (Zf (xD (h:=xM (h:=?_))))))
 exact ZA (k+1) [0] so2 ⟨rfl,oz,Znc hord hfa0 hfb (by rw [← Bool.not_eq_false,← Zkw];omega)⟩ t6 rfl
 try simp only [sQ,ne_eq] at g5
 have ho:=ZqY (fs:=x.folders) (fun i a b h=>hord i a b oz)
 refine ZC (ZV (ZG (Zu (Zo (Za (xQ Zxy rfl (ZhT hJ _ _ _ _ _ _ _ _ x _ hc2 hu hf) (h:=?_)))))))
 intro v17 B17 hle17
 rintro rfl
 obtain ⟨hu,hf,hi⟩:=up3 hle17 hu hf hi
 replace hc2:=hc2.mono hle17
 refine xM (h:=Zt (d:=57) rfl (fun g7=>?_) (fun g7=>?_))
 try simp only [sQ,ne_eq] at g7
 refine xR Zxx rfl (ZmU _ _ _ _ _ _ _ _ x _ hc2 hu hf) (h:=xT (h:=xM (h:=Zt (d:=60) rfl (fun g8=>?_) (fun g8=>?_))))
 try simp only [sQ,ne_eq] at g8
 refine xR Zxw rfl (Zk8 _ _ _ _ _ _ _ _ x _ hc2 hu hi) (h:=xT (h:=xA (h:=Zd ?_)))
 exact eR t1 ⟨rfl,Ze (by simp [Zc8,g1,g2,g3,ho,g7,g8];try omega)⟩
 try simp only [sQ,ne_eq] at g8
 refine xP (h:=xF (h:=xA (h:=Zd ?_)))
 exact eR t1 ⟨rfl,Ze (by simp [Zc8,g1,g2,g3,ho,g7,g8];try omega)⟩
 try simp only [sQ,ne_eq] at g7
 refine xP (h:=xF (h:=xM (h:=xP (h:=xF (h:=xA (h:=Zd ?_))))))
 exact eR t1 ⟨rfl,Ze (by simp [Zc8,g7])⟩

theorem ZqE (x:DUser) (h1:x.name.length≤140737488355328) (h2:x.pass.length≤140737488355328) (left:Int) (hl0:0≤left) (hl1:left≤1048576) (B:Kn)  : Z6 (pj J) 50 [.agg #[str x.name,str x.pass,.int .i64 x.quota],.int .i64 left] B (.int .i64 (szI left (Zc1 x))):=by
 refine cB 20 Tryz.func50 (h:=?_)
 refine Za (xBx [_,_,_] (h:=fun b1=>xA (h:=tL1 (Za (xM (h:=xW Zsr (h:=x1 lk9 0 (h:=xVs Tryz.underlying9 (h:=xU (h:=xA (h:=Zc (Za (xM (h:=ZE (h:=Zb rfl (fun g1=>?_) (fun g1=>?_))))))))))))))))
 try simp only [sQ,ne_eq] at g1
 refine Za (xA (h:=Zd (Zl ?_)))
 exact eR t1 ⟨ZF (by first | (unfold szI Zc1;split <;> omega)),rfl,rfl⟩
 try simp only [sQ,ne_eq] at g1
 refine wSk (Za (xM (h:=xW Zsq (h:=x1 lk9 0 (h:=xVs Tryz.underlying9 (h:=xU (h:=xA (h:=Zc (Za (xM (h:=ZE (h:=Zb rfl (fun g2=>?_) (fun g2=>?_)))))))))))))
 try simp only [sQ,ne_eq] at g2
 refine Za (xA (h:=Zd (Zl ?_)))
 exact eR t1 ⟨ZF (by first | (unfold szI Zc1;split <;> omega)),rfl,rfl⟩
 try simp only [sQ,ne_eq] at g2
 refine wSk (Za (xM (h:=xA (h:=Zd ?_))))
 exact eR t1 ⟨ZF (by first | (unfold szI Zc1;split <;> omega)),rfl,rfl⟩

theorem Zot (x:DGrant) (h1:x.user.length≤140737488355328) (left:Int) (hl0:0≤left) (hl1:left≤1048576) (B:Kn)  : Z6 (pj J) 125 [.agg #[str x.user,.int .i64 x.rights],.int .i64 left] B (.int .i64 (szI left (Zce x))):=by
 refine cB 13 Tryz.func125 (h:=?_)
 refine Za (xBx [_,_] (h:=fun b1=>xA (h:=tL1 (Za (xM (h:=xW Zpw (h:=x1 lk9 0 (h:=xVs Tryz.underlying9 (h:=xU (h:=xA (h:=Zc (Za (xM (h:=ZE (h:=Zb rfl (fun g1=>?_) (fun g1=>?_))))))))))))))))
 try simp only [sQ,ne_eq] at g1
 refine Za (xA (h:=Zd (Zl ?_)))
 exact eR t1 ⟨ZF (by first | (unfold szI Zce;split <;> omega)),rfl,rfl⟩
 try simp only [sQ,ne_eq] at g1
 refine wSk (Za (xM (h:=xA (h:=Zd ?_))))
 exact eR t1 ⟨ZF (by first | (unfold szI Zce;split <;> omega)),rfl,rfl⟩

theorem ZqG (x:DMail) (h1:x.text.length≤140737488355328) (left:Int) (hl0:0≤left) (hl1:left≤1048576) (B:Kn)  : Z6 (pj J) 159 [.agg #[.int .i64 x.uid,.int .i64 x.flags,str x.text],.int .i64 left] B (.int .i64 (szI left (Zdo x))):=by
 refine cB 13 Tryz.func159 (h:=?_)
 refine Za (xBx [_,_,_] (h:=fun b1=>xA (h:=tL1 (Za (xM (h:=xW Zpv (h:=x1 lk9 0 (h:=xVs Tryz.underlying9 (h:=xU (h:=xA (h:=Zc (Za (xM (h:=ZE (h:=Zb rfl (fun g1=>?_) (fun g1=>?_))))))))))))))))
 try simp only [sQ,ne_eq] at g1
 refine Za (xA (h:=Zd (Zl ?_)))
 exact eR t1 ⟨ZF (by first | (unfold szI Zdo;split <;> omega)),rfl,rfl⟩
 try simp only [sQ,ne_eq] at g1
 refine wSk (Za (xM (h:=xA (h:=Zd ?_))))
 exact eR t1 ⟨ZF (by first | (unfold szI Zdo;split <;> omega)),rfl,rfl⟩

theorem ZqF (q:Option Addr) (cp:Nat) (xs:List Str) (left:Int) (hl0:0≤left) (hl1:left≤1048576) (B:Kn) (hx:SlB B q cp 1 ZkH xs):Z6 (pj J) 127 [.slice q xs.length cp,.int .i64 left] B (.int .i64 (szI left (szL List.length xs))):=by
 refine cB 28 Tryz.func127 (h:=?_)
 have hxn:=hx.len
 refine Za (xA (h:=Za (xM (h:=xM (h:=xV Tryz.underlying99 (h:=xU (h:=xA (h:=Zc (Za (xM (h:=ZE (h:=Zb rfl (fun g1=>?_) (fun g1=>?_)))))))))))))
 try simp only [sQ,ne_eq] at g1
 refine Za (xA (h:=Zd (Zl ?_)))
 exact eR t1 ⟨ZF (Zf9 oz).symm,rfl,rfl⟩
 try simp only [sQ,ne_eq] at g1
 refine ZT ?_
 refine Zo ?_
 refine Zc ?_
 refine Za ?_
 refine Zk (ZcJ rfl rfl rfl ?_)
 refine Zi ?_
 refine Zw (α:=Nat × Int) [0,11] (fun g=>[(1,.int .i64 g.2),(5,.int .i64 g.1)]) [] (fun g=>[]) (fun g Bx=>Bx=B∧g.1≤xs.length∧g.2=left - xs.length - ((xs.take g.1).map List.length).sum∧0≤g.2) (fun g=>xs.length - g.1) (0,left - ↑xs.length) ⟨rfl,rfl,trivial⟩ rfl (⟨rfl,Nat.zero_le _,by simp,g1⟩) (fun g B1 hle1 hI=>?_)
 obtain ⟨rfl,hk,hs,hl⟩:=hI
 refine ZB [(0,_),(1,_),(5,_),(11,_)] [] t4 rfl (Zc (Za (xM (h:=xM (h:=xV Tryz.underlying99 (h:=ZE (h:=Zb rfl (fun g2=>?_) (fun g2=>?_))))))))
 try simp only [sQ,ne_eq] at g2
 refine wSk (Zc (Zi (Za (xM (h:=xM (h:=xM (h:=?_)))))))
 obtain ⟨z,hz⟩:=ZU (xs:=xs) (i:=g.1) om
 obtain ⟨bb3,oo3,rfl⟩:=hx.base hz
 obtain ⟨_,⟨rfl,hb4⟩,hc4⟩:=hx.elem hz
 refine xIx Tryz.underlying99 sz9 (h:=y1 lk9 hc4 0 (h:=xVs Tryz.underlying9 (h:=xU (h:=xA (h:=Za (xM (h:=ZE (h:=Zb rfl (fun g3=>?_) (fun g3=>?_)))))))))
 try simp only [sQ,ne_eq] at g3
 refine Za (xA (h:=Zd (Zy (Zl (ZO (Zy (Zl ?_)))))))
 exact eR t1 ⟨ZF (Zf7 hz hs oz).symm,rfl,rfl⟩
 try simp only [sQ,ne_eq] at g3
 refine ZT (ZM (Zo (Zf (xM (h:=xD (h:=xA (h:=?_)))))))
 exact ZA (g.1+1,g.2 - z.length) [] so2 ⟨rfl,so,by rw [ZdT _ hz,hs];omega,g3⟩ t4 rfl
 try simp only [sQ,ne_eq] at g2
 refine ZC (ZV (ZG (Zu (Zo (Za (xM (h:=xA (h:=Zd ?_))))))))
 exact eR t1 ⟨ZF (Zf8 hs hl oz).symm,rfl,rfl⟩

theorem Zop (q:Option Addr) (cp:Nat) (xs:List DUser) (left:Int) (hl0:0≤left) (hl1:left≤1048576) (B:Kn) (hx:SlB B q cp 3 ZkG xs):Z6 (pj J) 14 [.slice q xs.length cp,.int .i64 left] B (.int .i64 (szI left (szL Zc1 xs))):=by
 refine cB 27 Tryz.func14 (h:=?_)
 have hxn:=hx.len
 refine Za (xA (h:=Za (xM (h:=xM (h:=xV Tryz.underlying22 (h:=xU (h:=xA (h:=Zc (Za (xM (h:=ZE (h:=Zb rfl (fun g1=>?_) (fun g1=>?_)))))))))))))
 try simp only [sQ,ne_eq] at g1
 refine Za (xA (h:=Zd (Zl ?_)))
 exact eR t1 ⟨ZF (Zf9 oz).symm,rfl,rfl⟩
 try simp only [sQ,ne_eq] at g1
 refine ZT ?_
 refine Zo ?_
 refine Zc ?_
 refine Za ?_
 refine Zk (ZcJ rfl rfl rfl ?_)
 refine Zi ?_
 refine Zw (α:=Nat × Int) [0,11] (fun g=>[(1,.int .i64 g.2),(5,.int .i64 g.1)]) [] (fun g=>[]) (fun g Bx=>Bx=B∧g.1≤xs.length∧g.2=left - xs.length - ((xs.take g.1).map Zc1).sum∧0≤g.2) (fun g=>xs.length - g.1) (0,left - ↑xs.length) ⟨rfl,rfl,trivial⟩ rfl (⟨rfl,Nat.zero_le _,by simp,g1⟩) (fun g B1 hle1 hI=>?_)
 obtain ⟨rfl,hk,hs,hl⟩:=hI
 refine ZB [(0,_),(1,_),(5,_),(11,_)] [] t4 rfl (Zc (Za (xM (h:=xM (h:=xV Tryz.underlying22 (h:=ZE (h:=Zb rfl (fun g2=>?_) (fun g2=>?_))))))))
 try simp only [sQ,ne_eq] at g2
 refine wSk (Zc (Zi (Za (xM (h:=xM (h:=?_))))))
 obtain ⟨z,hz⟩:=ZU (xs:=xs) (i:=g.1) om
 obtain ⟨bb3,oo3,rfl⟩:=hx.base hz
 obtain ⟨_,⟨rfl,hb4,hb4b⟩,hc4⟩:=hx.elem hz
 refine xIx Tryz.underlying22 ZxL (h:=yL [_,_,_] ZxX hc4 0 (h:=xM (h:=xR Zy4 rfl (ZqE z om om g.2 om om _) (h:=?_))))
 refine xA (h:=Za (xM (h:=ZE (h:=Zb rfl (fun g3=>?_) (fun g3=>?_)))))
 try simp only [sQ,ne_eq] at g3
 refine Za (xA (h:=Zd (Zy (Zl (ZO (Zy (Zl ?_)))))))
 exact eR t1 ⟨ZF (Zf7 hz hs ((Zcd hl).1 g3)).symm,rfl,rfl⟩
 try simp only [sQ,ne_eq] at g3
 refine ZT (ZM (Zo (Zf (xM (h:=xD (h:=xA (h:=?_)))))))
 exact ZA (g.1+1,szI g.2 (Zc1 z)) [] so2 ⟨rfl,so,by have:=(Zcy hl g3).1;rw [ZdT _ hz];simp only [];omega,g3⟩ t4 rfl
 try simp only [sQ,ne_eq] at g2
 refine ZC (ZV (ZG (Zu (Zo (Za (xM (h:=xA (h:=Zd ?_))))))))
 exact eR t1 ⟨ZF (Zf8 hs hl oz).symm,rfl,rfl⟩

theorem ZmY (q:Option Addr) (cp:Nat) (xs:List DGrant) (left:Int) (hl0:0≤left) (hl1:left≤1048576) (B:Kn) (hx:SlB B q cp 2 ZhP xs):Z6 (pj J) 91 [.slice q xs.length cp,.int .i64 left] B (.int .i64 (szI left (szL Zce xs))):=by
 refine cB 27 Tryz.func91 (h:=?_)
 have hxn:=hx.len
 refine Za (xA (h:=Za (xM (h:=xM (h:=xV Tryz.underlying88 (h:=xU (h:=xA (h:=Zc (Za (xM (h:=ZE (h:=Zb rfl (fun g1=>?_) (fun g1=>?_)))))))))))))
 try simp only [sQ,ne_eq] at g1
 refine Za (xA (h:=Zd (Zl ?_)))
 exact eR t1 ⟨ZF (Zf9 oz).symm,rfl,rfl⟩
 try simp only [sQ,ne_eq] at g1
 refine ZT ?_
 refine Zo ?_
 refine Zc ?_
 refine Za ?_
 refine Zk (ZcJ rfl rfl rfl ?_)
 refine Zi ?_
 refine Zw (α:=Nat × Int) [0,11] (fun g=>[(1,.int .i64 g.2),(5,.int .i64 g.1)]) [] (fun g=>[]) (fun g Bx=>Bx=B∧g.1≤xs.length∧g.2=left - xs.length - ((xs.take g.1).map Zce).sum∧0≤g.2) (fun g=>xs.length - g.1) (0,left - ↑xs.length) ⟨rfl,rfl,trivial⟩ rfl (⟨rfl,Nat.zero_le _,by simp,g1⟩) (fun g B1 hle1 hI=>?_)
 obtain ⟨rfl,hk,hs,hl⟩:=hI
 refine ZB [(0,_),(1,_),(5,_),(11,_)] [] t4 rfl (Zc (Za (xM (h:=xM (h:=xV Tryz.underlying88 (h:=ZE (h:=Zb rfl (fun g2=>?_) (fun g2=>?_))))))))
 try simp only [sQ,ne_eq] at g2
 refine wSk (Zc (Zi (Za (xM (h:=xM (h:=?_))))))
 obtain ⟨z,hz⟩:=ZU (xs:=xs) (i:=g.1) om
 obtain ⟨bb3,oo3,rfl⟩:=hx.base hz
 obtain ⟨_,⟨rfl,hb4⟩,hc4⟩:=hx.elem hz
 refine xIx Tryz.underlying88 ZuC (h:=yL [_,_] ZuS hc4 0 (h:=xM (h:=xR Zxh rfl (Zot z om g.2 om om _) (h:=?_))))
 refine xA (h:=Za (xM (h:=ZE (h:=Zb rfl (fun g3=>?_) (fun g3=>?_)))))
 try simp only [sQ,ne_eq] at g3
 refine Za (xA (h:=Zd (Zy (Zl (ZO (Zy (Zl ?_)))))))
 exact eR t1 ⟨ZF (Zf7 hz hs ((Zcd hl).1 g3)).symm,rfl,rfl⟩
 try simp only [sQ,ne_eq] at g3
 refine ZT (ZM (Zo (Zf (xM (h:=xD (h:=xA (h:=?_)))))))
 exact ZA (g.1+1,szI g.2 (Zce z)) [] so2 ⟨rfl,so,by have:=(Zcy hl g3).1;rw [ZdT _ hz];simp only [];omega,g3⟩ t4 rfl
 try simp only [sQ,ne_eq] at g2
 refine ZC (ZV (ZG (Zu (Zo (Za (xM (h:=xA (h:=Zd ?_))))))))
 exact eR t1 ⟨ZF (Zf8 hs hl oz).symm,rfl,rfl⟩

theorem Zor (q:Option Addr) (cp:Nat) (xs:List DMail) (left:Int) (hl0:0≤left) (hl1:left≤1048576) (B:Kn) (hx:SlB B q cp 3 ZhV xs):Z6 (pj J) 126 [.slice q xs.length cp,.int .i64 left] B (.int .i64 (szI left (szL Zdo xs))):=by
 refine cB 27 Tryz.func126 (h:=?_)
 have hxn:=hx.len
 refine Za (xA (h:=Za (xM (h:=xM (h:=xV Tryz.underlying89 (h:=xU (h:=xA (h:=Zc (Za (xM (h:=ZE (h:=Zb rfl (fun g1=>?_) (fun g1=>?_)))))))))))))
 try simp only [sQ,ne_eq] at g1
 refine Za (xA (h:=Zd (Zl ?_)))
 exact eR t1 ⟨ZF (Zf9 oz).symm,rfl,rfl⟩
 try simp only [sQ,ne_eq] at g1
 refine ZT ?_
 refine Zo ?_
 refine Zc ?_
 refine Za ?_
 refine Zk (ZcJ rfl rfl rfl ?_)
 refine Zi ?_
 refine Zw (α:=Nat × Int) [0,11] (fun g=>[(1,.int .i64 g.2),(5,.int .i64 g.1)]) [] (fun g=>[]) (fun g Bx=>Bx=B∧g.1≤xs.length∧g.2=left - xs.length - ((xs.take g.1).map Zdo).sum∧0≤g.2) (fun g=>xs.length - g.1) (0,left - ↑xs.length) ⟨rfl,rfl,trivial⟩ rfl (⟨rfl,Nat.zero_le _,by simp,g1⟩) (fun g B1 hle1 hI=>?_)
 obtain ⟨rfl,hk,hs,hl⟩:=hI
 refine ZB [(0,_),(1,_),(5,_),(11,_)] [] t4 rfl (Zc (Za (xM (h:=xM (h:=xV Tryz.underlying89 (h:=ZE (h:=Zb rfl (fun g2=>?_) (fun g2=>?_))))))))
 try simp only [sQ,ne_eq] at g2
 refine wSk (Zc (Zi (Za (xM (h:=xM (h:=?_))))))
 obtain ⟨z,hz⟩:=ZU (xs:=xs) (i:=g.1) om
 obtain ⟨bb3,oo3,rfl⟩:=hx.base hz
 obtain ⟨_,⟨rfl,hb4⟩,hc4⟩:=hx.elem hz
 refine xIx Tryz.underlying89 ZuB (h:=yL [_,_,_] ZuQ hc4 0 (h:=xM (h:=xR ZwQ rfl (ZqG z om g.2 om om _) (h:=?_))))
 refine xA (h:=Za (xM (h:=ZE (h:=Zb rfl (fun g3=>?_) (fun g3=>?_)))))
 try simp only [sQ,ne_eq] at g3
 refine Za (xA (h:=Zd (Zy (Zl (ZO (Zy (Zl ?_)))))))
 exact eR t1 ⟨ZF (Zf7 hz hs ((Zcd hl).1 g3)).symm,rfl,rfl⟩
 try simp only [sQ,ne_eq] at g3
 refine ZT (ZM (Zo (Zf (xM (h:=xD (h:=xA (h:=?_)))))))
 exact ZA (g.1+1,szI g.2 (Zdo z)) [] so2 ⟨rfl,so,by have:=(Zcy hl g3).1;rw [ZdT _ hz];simp only [];omega,g3⟩ t4 rfl
 try simp only [sQ,ne_eq] at g2
 refine ZC (ZV (ZG (Zu (Zo (Za (xM (h:=xA (h:=Zd ?_))))))))
 exact eR t1 ⟨ZF (Zf8 hs hl oz).symm,rfl,rfl⟩

theorem ZqH (q:Option Addr) (cp:Nat) (x:DItem) (h1:x.fr.length≤140737488355328) (h2:x.text.length≤140737488355328) (left:Int) (hl0:0≤left) (hl1:left≤1048576) (B:Kn) (hx:SlB B q cp 1 ZkH x.left):Z6 (pj J) 93 [.agg #[.int .i64 x.id,str x.fr,str x.text,.slice q x.left.length cp],.int .i64 left] B (.int .i64 (szI left (Zbv x))):=by
 refine cB 26 Tryz.func93 (h:=?_)
 have hxn:=hx.len
 refine Za (xBx [_,_,_,_] (h:=fun b1=>xA (h:=tL1 (Za (xM (h:=xW ZpB (h:=x1 lk9 0 (h:=xVs Tryz.underlying9 (h:=xU (h:=xA (h:=Zc (Za (xM (h:=ZE (h:=Zb rfl (fun g1=>?_) (fun g1=>?_))))))))))))))))
 try simp only [sQ,ne_eq] at g1
 refine Za (xA (h:=Zd (Zl ?_)))
 exact eR t1 ⟨ZF (by rw [ZbI (by unfold Zbv;omega)]),rfl,rfl⟩
 try simp only [sQ,ne_eq] at g1
 refine wSk (Za (xM (h:=xW ZpA (h:=x1 lk9 0 (h:=xVs Tryz.underlying9 (h:=xU (h:=xA (h:=Zc (Za (xM (h:=ZE (h:=Zb rfl (fun g2=>?_) (fun g2=>?_)))))))))))))
 try simp only [sQ,ne_eq] at g2
 refine Za (xA (h:=Zd (Zl ?_)))
 exact eR t1 ⟨ZF (by rw [ZbI (by unfold Zbv;omega)]),rfl,rfl⟩
 try simp only [sQ,ne_eq] at g2
 refine wSk (Za (xW Zpz (h:=x1 Zj7 0 (h:=xM (h:=?_)))))
 have hq2:=ZqF (J:=J) _ _ x.left ((left - ↑x.fr.length) - ↑x.text.length) om om _ hx
 refine xR Zxf rfl hq2 (h:=xA (h:=Zc (Za (xM (h:=ZE (h:=Zb rfl (fun g3=>?_) (fun g3=>?_)))))))
 try simp only [sQ,ne_eq] at g3
 have g3x:=(Zcd oz).1 g3
 refine Za (xA (h:=Zd (Zl ?_)))
 exact eR t1 ⟨ZF (by rw [ZbI (by unfold Zbv Ze2;omega)]),rfl,rfl⟩
 try simp only [sQ,ne_eq] at g3
 have g3x:=Zcy oz g3
 refine wSk (Za (xM (h:=xA (h:=Zd ?_))))
 exact eR t1 ⟨ZF (by (try dsimp only at *);rw [Zl7 (left:=left) (s:=Zbv x) (by unfold Zbv Ze2;omega)];unfold Zbv Ze2;omega),rfl,rfl⟩

theorem Zos (q:Option Addr) (cp:Nat) (xs:List DItem) (left:Int) (hl0:0≤left) (hl1:left≤1048576) (B:Kn) (hx:SlB B q cp 4 ZhO xs):Z6 (pj J) 52 [.slice q xs.length cp,.int .i64 left] B (.int .i64 (szI left (szL Zbv xs))):=by
 refine cB 27 Tryz.func52 (h:=?_)
 have hxn:=hx.len
 refine Za (xA (h:=Za (xM (h:=xM (h:=xV Tryz.underlying24 (h:=xU (h:=xA (h:=Zc (Za (xM (h:=ZE (h:=Zb rfl (fun g1=>?_) (fun g1=>?_)))))))))))))
 try simp only [sQ,ne_eq] at g1
 refine Za (xA (h:=Zd (Zl ?_)))
 exact eR t1 ⟨ZF (Zf9 oz).symm,rfl,rfl⟩
 try simp only [sQ,ne_eq] at g1
 refine ZT ?_
 refine Zo ?_
 refine Zc ?_
 refine Za ?_
 refine Zk (ZcJ rfl rfl rfl ?_)
 refine Zi ?_
 refine Zw (α:=Nat × Int) [0,11] (fun g=>[(1,.int .i64 g.2),(5,.int .i64 g.1)]) [] (fun g=>[]) (fun g Bx=>Bx=B∧g.1≤xs.length∧g.2=left - xs.length - ((xs.take g.1).map Zbv).sum∧0≤g.2) (fun g=>xs.length - g.1) (0,left - ↑xs.length) ⟨rfl,rfl,trivial⟩ rfl (⟨rfl,Nat.zero_le _,by simp,g1⟩) (fun g B1 hle1 hI=>?_)
 obtain ⟨rfl,hk,hs,hl⟩:=hI
 refine ZB [(0,_),(1,_),(5,_),(11,_)] [] t4 rfl (Zc (Za (xM (h:=xM (h:=xV Tryz.underlying24 (h:=ZE (h:=Zb rfl (fun g2=>?_) (fun g2=>?_))))))))
 try simp only [sQ,ne_eq] at g2
 refine wSk (Zc (Zi (Za (xM (h:=xM (h:=?_))))))
 obtain ⟨z,hz⟩:=ZU (xs:=xs) (i:=g.1) om
 obtain ⟨bb3,oo3,rfl⟩:=hx.base hz
 obtain ⟨_,⟨qi4,ci4,rfl,hi4,hb4,hb4b⟩,hc4⟩:=hx.elem hz
 have hi4n:=hi4.len
 refine xIx Tryz.underlying24 ZuD (h:=yL [_,_,_,_] ZuT hc4 0 (h:=xM (h:=?_)))
 have hq5:=ZqH (J:=J) _ _ z om om g.2 om om _ hi4
 refine xR ZyB rfl hq5 (h:=xA (h:=Za (xM (h:=ZE (h:=Zb rfl (fun g3=>?_) (fun g3=>?_))))))
 try simp only [sQ,ne_eq] at g3
 refine Za (xA (h:=Zd (Zy (Zl (ZO (Zy (Zl ?_)))))))
 exact eR t1 ⟨ZF (Zf7 hz hs ((Zcd hl).1 g3)).symm,rfl,rfl⟩
 try simp only [sQ,ne_eq] at g3
 refine ZT (ZM (Zo (Zf (xM (h:=xD (h:=xA (h:=?_)))))))
 exact ZA (g.1+1,szI g.2 (Zbv z)) [] so2 ⟨rfl,so,by have:=(Zcy hl g3).1;rw [ZdT _ hz];simp only [];omega,g3⟩ t4 rfl
 try simp only [sQ,ne_eq] at g2
 refine ZC (ZV (ZG (Zu (Zo (Za (xM (h:=xA (h:=Zd ?_))))))))
 exact eR t1 ⟨ZF (Zf8 hs hl oz).symm,rfl,rfl⟩

theorem ZsT (q:Option Addr) (cp:Nat) (x:DBox) (left:Int) (hl0:0≤left) (hl1:left≤1048576) (B:Kn) (hx:SlB B q cp 3 ZhV x.mail):Z6 (pj J) 92 [.agg #[.int .i64 x.next,.slice q x.mail.length cp],.int .i64 left] B (.int .i64 (szI left (szL Zdo x.mail))):=by
 refine cB 12 Tryz.func92 (h:=?_)
 have hxn:=hx.len
 refine Za (xBx [_,_] (h:=fun b1=>xA (h:=tL1 (Za (xW Zsp (h:=x1 ZxV 0 (h:=xM (h:=?_))))))))
 have hq2:=Zor (J:=J) _ _ x.mail left om om _ hx
 refine xR Zxg rfl hq2 (h:=xA (h:=Zc (Za (xM (h:=ZE (h:=Zb rfl (fun g1=>?_) (fun g1=>?_)))))))
 try simp only [sQ,ne_eq] at g1
 have g1x:=(Zcd oz).1 g1
 refine Za (xA (h:=Zd (Zl ?_)))
 exact eR t1 ⟨ZF (by rw [ZbI g1x]),rfl,rfl⟩
 try simp only [sQ,ne_eq] at g1
 refine wSk (Za (xM (h:=xA (h:=Zd ?_))))
 exact eR t1 ⟨rfl,rfl,rfl⟩

theorem Zoq (q:Option Addr) (cp:Nat) (x:DQueue) (left:Int) (hl0:0≤left) (hl1:left≤1048576) (B:Kn) (hx:SlB B q cp 4 ZhO x.items):Z6 (pj J) 16 [.agg #[.int .i64 x.next,.slice q x.items.length cp],.int .i64 left] B (.int .i64 (szI left (szL Zbv x.items))):=by
 refine cB 12 Tryz.func16 (h:=?_)
 have hxn:=hx.len
 refine Za (xBx [_,_] (h:=fun b1=>xA (h:=tL1 (Za (xW Zsw (h:=x1 ZxZ 0 (h:=xM (h:=?_))))))))
 have hq2:=Zos (J:=J) _ _ x.items left om om _ hx
 refine xR Zy2 rfl hq2 (h:=xA (h:=Zc (Za (xM (h:=ZE (h:=Zb rfl (fun g1=>?_) (fun g1=>?_)))))))
 try simp only [sQ,ne_eq] at g1
 have g1x:=(Zcd oz).1 g1
 refine Za (xA (h:=Zd (Zl ?_)))
 exact eR t1 ⟨ZF (by rw [ZbI g1x]),rfl,rfl⟩
 try simp only [sQ,ne_eq] at g1
 refine wSk (Za (xM (h:=xA (h:=Zd ?_))))
 exact eR t1 ⟨rfl,rfl,rfl⟩

theorem ZmZ (qa qb:Option Addr) (ca cb:Nat) (x:DFolder) (h1:x.owner.length≤140737488355328) (h2:x.name.length≤140737488355328) (left:Int) (hl0:0≤left) (hl1:left≤1048576) (B:Kn) (hx:SlB B qa ca 2 ZhP x.grants) (hy:SlB B qb cb 3 ZhV x.mail):Z6 (pj J) 51 [.agg #[str x.owner,str x.name,.slice qa x.grants.length ca,.int .i64 x.next,.slice qb x.mail.length cb],.int .i64 left] B (.int .i64 (szI left (Zat x))):=by
 refine cB 32 Tryz.func51 (h:=?_)
 have hxn:=hx.len
 have hyn:=hy.len
 refine Za (xBx [_,_,_,_,_] (h:=fun b1=>xA (h:=tL1 (Za (xM (h:=xW Zso (h:=x1 lk9 0 (h:=xVs Tryz.underlying9 (h:=xU (h:=xA (h:=Zc (Za (xM (h:=ZE (h:=Zb rfl (fun g1=>?_) (fun g1=>?_))))))))))))))))
 try simp only [sQ,ne_eq] at g1
 refine Za (xA (h:=Zd (Zl ?_)))
 exact eR t1 ⟨ZF (by rw [ZbI (by unfold Zat;omega)]),rfl,rfl⟩
 try simp only [sQ,ne_eq] at g1
 refine wSk (Za (xM (h:=xW Zsn (h:=x1 lk9 0 (h:=xVs Tryz.underlying9 (h:=xU (h:=xA (h:=Zc (Za (xM (h:=ZE (h:=Zb rfl (fun g2=>?_) (fun g2=>?_)))))))))))))
 try simp only [sQ,ne_eq] at g2
 refine Za (xA (h:=Zd (Zl ?_)))
 exact eR t1 ⟨ZF (by rw [ZbI (by unfold Zat;omega)]),rfl,rfl⟩
 try simp only [sQ,ne_eq] at g2
 refine wSk (Za (xW Zsm (h:=x1 ZxW 0 (h:=xM (h:=?_)))))
 have hq2:=ZmY (J:=J) _ _ x.grants ((left - ↑x.owner.length) - ↑x.name.length) om om _ hx
 refine xR ZyD rfl hq2 (h:=xA (h:=Zc (Za (xM (h:=ZE (h:=Zb rfl (fun g3=>?_) (fun g3=>?_)))))))
 try simp only [sQ,ne_eq] at g3
 have g3x:=(Zcd oz).1 g3
 refine Za (xA (h:=Zd (Zl ?_)))
 exact eR t1 ⟨ZF (by rw [ZbI (by unfold Zat;omega)]),rfl,rfl⟩
 try simp only [sQ,ne_eq] at g3
 have g3x:=Zcy oz g3
 refine wSk (Za (xW Zsl (h:=xL [_,_] ZxU 0 (h:=xM (h:=?_)))))
 have hq3:=ZsT (J:=J) _ _ (⟨x.next,x.mail⟩:DBox) (szI ((left - ↑x.owner.length) - ↑x.name.length) (szL Zce x.grants)) om om _ hy
 refine xR ZyC rfl hq3 (h:=xA (h:=Zc (Za (xM (h:=ZE (h:=Zb rfl (fun g4=>?_) (fun g4=>?_)))))))
 try simp only [sQ,ne_eq] at g4
 have g4x:=(Zcd oz).1 g4
 refine Za (xA (h:=Zd (Zl ?_)))
 exact eR t1 ⟨ZF (by rw [ZbI (by unfold Zat;omega)]),rfl,rfl⟩
 try simp only [sQ,ne_eq] at g4
 have g4x:=Zcy oz g4
 refine wSk (Za (xM (h:=xA (h:=Zd ?_))))
 exact eR t1 ⟨ZF (by (try dsimp only at *);rw [Zl7 (left:=left) (s:=Zat x) (by unfold Zat;omega)];unfold Zat;omega),rfl,rfl⟩

theorem ZkU (q:Option Addr) (cp:Nat) (xs:List DFolder) (left:Int) (hl0:0≤left) (hl1:left≤1048576) (B:Kn) (hx:SlB B q cp 5 ZeD xs):Z6 (pj J) 15 [.slice q xs.length cp,.int .i64 left] B (.int .i64 (szI left (szL Zat xs))):=by
 refine cB 27 Tryz.func15 (h:=?_)
 have hxn:=hx.len
 refine Za (xA (h:=Za (xM (h:=xM (h:=xV Tryz.underlying23 (h:=xU (h:=xA (h:=Zc (Za (xM (h:=ZE (h:=Zb rfl (fun g1=>?_) (fun g1=>?_)))))))))))))
 try simp only [sQ,ne_eq] at g1
 refine Za (xA (h:=Zd (Zl ?_)))
 exact eR t1 ⟨ZF (Zf9 oz).symm,rfl,rfl⟩
 try simp only [sQ,ne_eq] at g1
 refine ZT ?_
 refine Zo ?_
 refine Zc ?_
 refine Za ?_
 refine Zk (ZcJ rfl rfl rfl ?_)
 refine Zi ?_
 refine Zw (α:=Nat × Int) [0,11] (fun g=>[(1,.int .i64 g.2),(5,.int .i64 g.1)]) [] (fun g=>[]) (fun g Bx=>Bx=B∧g.1≤xs.length∧g.2=left - xs.length - ((xs.take g.1).map Zat).sum∧0≤g.2) (fun g=>xs.length - g.1) (0,left - ↑xs.length) ⟨rfl,rfl,trivial⟩ rfl (⟨rfl,Nat.zero_le _,by simp,g1⟩) (fun g B1 hle1 hI=>?_)
 obtain ⟨rfl,hk,hs,hl⟩:=hI
 refine ZB [(0,_),(1,_),(5,_),(11,_)] [] t4 rfl (Zc (Za (xM (h:=xM (h:=xV Tryz.underlying23 (h:=ZE (h:=Zb rfl (fun g2=>?_) (fun g2=>?_))))))))
 try simp only [sQ,ne_eq] at g2
 refine wSk (Zc (Zi (Za (xM (h:=xM (h:=?_))))))
 obtain ⟨z,hz⟩:=ZU (xs:=xs) (i:=g.1) om
 obtain ⟨bb3,oo3,rfl⟩:=hx.base hz
 obtain ⟨_,⟨qg4,cg4,qm4,cm4,rfl,hg4,hm4,hb4,hb4b⟩,hc4⟩:=hx.elem hz
 have hg4n:=hg4.len
 have hm4n:=hm4.len
 refine xIx Tryz.underlying23 ZxK (h:=yL [_,_,_,_,_] ZxT hc4 0 (h:=xM (h:=?_)))
 have hq5:=ZmZ (J:=J) _ _ _ _ z om om g.2 om om _ hg4 hm4
 refine xR Zy3 rfl hq5 (h:=xA (h:=Za (xM (h:=ZE (h:=Zb rfl (fun g3=>?_) (fun g3=>?_))))))
 try simp only [sQ,ne_eq] at g3
 refine Za (xA (h:=Zd (Zy (Zl (ZO (Zy (Zl ?_)))))))
 exact eR t1 ⟨ZF (Zf7 hz hs ((Zcd hl).1 g3)).symm,rfl,rfl⟩
 try simp only [sQ,ne_eq] at g3
 refine ZT (ZM (Zo (Zf (xM (h:=xD (h:=xA (h:=?_)))))))
 exact ZA (g.1+1,szI g.2 (Zat z)) [] so2 ⟨rfl,so,by have:=(Zcy hl g3).1;rw [ZdT _ hz];simp only [];omega,g3⟩ t4 rfl
 try simp only [sQ,ne_eq] at g2
 refine ZC (ZV (ZG (Zu (Zo (Za (xM (h:=xA (h:=Zd ?_))))))))
 exact eR t1 ⟨ZF (Zf8 hs hl oz).symm,rfl,rfl⟩

theorem ZqI (q1 q2 q3:Option Addr) (c1 c2 c3:Nat) (x:DHost) (hd:x.domain.length≤140737488355328) (left:Int) (hl0:0≤left) (hl1:left≤1048576) (B:Kn) (hu:SlB B q1 c1 3 ZkG x.users) (hf:SlB B q2 c2 5 ZeD x.folders) (hi:SlB B q3 c3 4 ZhO x.queue.items):Z6 (pj J) 5 [.agg #[str x.domain,.slice q1 x.users.length c1,.slice q2 x.folders.length c2,.int .i64 x.queue.next,.slice q3 x.queue.items.length c3],.int .i64 left] B (.int .i64 (szI left (Zdp x))):=by
 refine cB 31 Tryz.func5 (h:=?_)
 have hun:=hu.len
 have hfn:=hf.len
 have hin:=hi.len
 refine Za (xBx [_,_,_,_,_] (h:=fun b1=>xA (h:=tL1 (Za (xM (h:=xW Zsv (h:=x1 lk9 0 (h:=xVs Tryz.underlying9 (h:=xU (h:=xA (h:=Zc (Za (xM (h:=ZE (h:=Zb rfl (fun g1=>?_) (fun g1=>?_))))))))))))))))
 try simp only [sQ,ne_eq] at g1
 refine Za (xA (h:=Zd (Zl ?_)))
 exact eR t1 ⟨ZF (by rw [ZbI (by unfold Zdp;omega)]),rfl,rfl⟩
 try simp only [sQ,ne_eq] at g1
 refine wSk (Za (xW Zsu (h:=x1 Zx1 0 (h:=xM (h:=?_)))))
 have hq2:=Zop (J:=J) _ _ x.users (left - ↑x.domain.length) om om _ hu
 refine xR Zzr rfl hq2 (h:=xA (h:=Zc (Za (xM (h:=ZE (h:=Zb rfl (fun g2=>?_) (fun g2=>?_)))))))
 try simp only [sQ,ne_eq] at g2
 have g2x:=(Zcd oz).1 g2
 refine Za (xA (h:=Zd (Zl ?_)))
 exact eR t1 ⟨ZF (by rw [ZbI (by unfold Zdp;omega)]),rfl,rfl⟩
 try simp only [sQ,ne_eq] at g2
 have g2x:=Zcy oz g2
 refine wSk (Za (xW Zst (h:=x1 Zx0 0 (h:=xM (h:=?_)))))
 have hq3:=ZkU (J:=J) _ _ x.folders (szI (left - ↑x.domain.length) (szL Zc1 x.users)) om om _ hf
 refine xR Zzq rfl hq3 (h:=xA (h:=Zc (Za (xM (h:=ZE (h:=Zb rfl (fun g3=>?_) (fun g3=>?_)))))))
 try simp only [sQ,ne_eq] at g3
 have g3x:=(Zcd oz).1 g3
 refine Za (xA (h:=Zd (Zl ?_)))
 exact eR t1 ⟨ZF (by rw [ZbI (by unfold Zdp;omega)]),rfl,rfl⟩
 try simp only [sQ,ne_eq] at g3
 have g3x:=Zcy oz g3
 refine wSk (Za (xW Zss (h:=xL [_,_] ZxY 0 (h:=xM (h:=?_)))))
 have hq4:=Zoq (J:=J) _ _ (⟨x.queue.next,x.queue.items⟩:DQueue) (szI (szI (left - ↑x.domain.length) (szL Zc1 x.users)) (szL Zat x.folders)) om om _ hi
 refine xR Zzp rfl hq4 (h:=xA (h:=Zc (Za (xM (h:=ZE (h:=Zb rfl (fun g4=>?_) (fun g4=>?_)))))))
 try simp only [sQ,ne_eq] at g4
 have g4x:=(Zcd oz).1 g4
 refine Za (xA (h:=Zd (Zl ?_)))
 exact eR t1 ⟨ZF (by rw [ZbI (by unfold Zdp;omega)]),rfl,rfl⟩
 try simp only [sQ,ne_eq] at g4
 have g4x:=Zcy oz g4
 refine wSk (Za (xM (h:=xA (h:=Zd ?_))))
 exact eR t1 ⟨ZF (by (try dsimp only at *);rw [Zl7 (left:=left) (s:=Zdp x) (by unfold Zdp;omega)];unfold Zdp;omega),rfl,rfl⟩

theorem Zqz (x:DUser)  (B:Kn):Z6 (pj J) 64 [.agg #[str x.name,str x.pass,.int .i64 x.quota]] B (.agg #[str x.name,str x.pass,.int .i64 x.quota]):=by
 refine cB 14 Tryz.func64 (h:=?_)
 refine Za (xBx [_,_,_] (h:=fun b1=>xAl [_,_,_] Ziv (h:=fun b2=>tL2 (Za (xAl [_,_,_] Ziv (h:=fun b3=>tL3 (Za (xW Zsr (h:=x1 lk9 0 (h:=xW Zb4 (h:=xS [_] 2 [_,_,_] sz9 (h:=tL3 (Za (xW Zsq (h:=x1 lk9 0 (h:=xW Zhv (h:=xS [_] 2 [_,_,_] sz9 (h:=tL3 (Za (xW Zu3 (h:=x1 lk3 0 (h:=xW Ze5 (h:=xS [_] 2 [_,_,_] sz3 (h:=tL3 (Za (xL [_,_,_] ZkJ 2 (h:=xS [_,_,_] 1 [_,_,_] Zek (h:=tL3 (Zd ?_)))))))))))))))))))))))))))))
 exact eR ⟨⟨_,rfl,.inr ⟨[_,_,_],ZkJ,ZcF 1 rfl rfl rfl,rfl⟩⟩,trivial⟩ ⟨rfl,rfl,rfl⟩

theorem Zol (x:DGrant)  (B:Kn):Z6 (pj J) 131 [.agg #[str x.user,.int .i64 x.rights]] B (.agg #[str x.user,.int .i64 x.rights]):=by
 refine cB 11 Tryz.func131 (h:=?_)
 refine Za (xBx [_,_] (h:=fun b1=>xAl [_,_] ZcI (h:=fun b2=>tL2 (Za (xAl [_,_] ZcI (h:=fun b3=>tL3 (Za (xW Zpw (h:=x1 lk9 0 (h:=xW Za7 (h:=xS [_] 2 [_,_] sz9 (h:=tL3 (Za (xW ZtD (h:=x1 lk3 0 (h:=xW Zdb (h:=xS [_] 2 [_,_] sz3 (h:=tL3 (Za (xL [_,_] Zj9 2 (h:=xS [_,_] 1 [_,_] ZaQ (h:=tL3 (Zd ?_)))))))))))))))))))))))
 exact eR ⟨⟨_,rfl,.inr ⟨[_,_],Zj9,ZcF 1 rfl rfl rfl,rfl⟩⟩,trivial⟩ ⟨rfl,rfl,rfl⟩

theorem ZqB (x:DMail)  (B:Kn):Z6 (pj J) 162 [.agg #[.int .i64 x.uid,.int .i64 x.flags,str x.text]] B (.agg #[.int .i64 x.uid,.int .i64 x.flags,str x.text]):=by
 refine cB 14 Tryz.func162 (h:=?_)
 refine Za (xBx [_,_,_] (h:=fun b1=>xAl [_,_,_] ZkM (h:=fun b2=>tL2 (Za (xAl [_,_,_] ZkM (h:=fun b3=>tL3 (Za (xW ZtC (h:=x1 lk3 0 (h:=xW ZcC (h:=xS [_] 2 [_,_,_] sz3 (h:=tL3 (Za (xW ZtB (h:=x1 lk3 0 (h:=xW Zfs (h:=xS [_] 2 [_,_,_] sz3 (h:=tL3 (Za (xW Zpv (h:=x1 lk9 0 (h:=xW Zd4 (h:=xS [_] 2 [_,_,_] sz9 (h:=tL3 (Za (xL [_,_,_] Zj8 2 (h:=xS [_,_,_] 1 [_,_,_] Zdu (h:=tL3 (Zd ?_)))))))))))))))))))))))))))))
 exact eR ⟨⟨_,rfl,.inr ⟨[_,_,_],Zj8,ZcF 1 rfl rfl rfl,rfl⟩⟩,trivial⟩ ⟨rfl,rfl,rfl⟩

theorem ZqA (q:Option Addr) (cp:Nat) (xs:List Str) (hx20:Ze2 xs≤1048576) (B:Kn) (hx:SlK B q cp 1 ZbU xs):Zv (pj J) 133 [.slice q xs.length cp] B [] (fun v B' Ls=>∃q c l,v = .slice q xs.length c∧B'=B∧Ls=[l]∧ZP Kn.none l q c 9 1 ZbU xs):=by
 refine cB 22 Tryz.func133 (h:=?_)
 have hxn:=hx.len
 have hx21:=ZsW hx20
 refine Za (xA (h:=Za (xM (h:=xV Tryz.underlying99 (h:=Zk (ZaX (m:=xs.length) (c:=xs.length) (by_:=16) [.string ⟨#[]⟩] rfl rfl Zt4 zo9 rfl rfl ⟨_,_,rfl,by first | omega | (simp;done) | (simp;omega)⟩ ⟨_,_,rfl,by first | omega | (simp;done) | (simp;omega)⟩ om om (fun b1=>?_)))))))
 have hv1:=ZP.zeros (B:=Kn.none) (b:=b1) (T:=9) (R:=ZbU) (d:=([]:Str)) (m:=xs.length) (c:=xs.length) (zs:=[.string ⟨#[]⟩]) rfl (⟨rfl,by simp⟩) om
 refine xA (h:=tL1 (Zc (Za (xA (h:=Zi (Zw (α:=Nat × Cells) [0,2] (fun g=>[(3,.slice (some ⟨b1,0,none⟩) xs.length xs.length),(4,.int .i64 g.1)]) [0] (fun g=>[g.2]) (fun g Bx=>Bx=B∧g.1≤xs.length∧ZP Kn.none g.2 (some ⟨b1,0,none⟩) xs.length 9 1 ZbU (fill xs ([]:Str) g.1)) (fun g=>xs.length - g.1) (0,_) t2 rfl (⟨rfl,Nat.zero_le _,by rw [ZdK];exact hv1⟩) (fun g B2 hle2 hI=>?_)))))))
 obtain ⟨rfl,hk,hvl⟩:=hI
 have hfl:=ZeN (d:=([]:Str)) hk
 refine ZB [(0,_),(2,_),(3,_),(4,_)] [_] t4 rfl (Zc (Za (xM (h:=xM (h:=xV Tryz.underlying99 (h:=ZE (h:=Zb rfl (fun g1=>?_) (fun g1=>?_))))))))
 try simp only [sQ,ne_eq] at g1
 refine wSk (Zc (Zi (Zf (xM (h:=xM (h:=xM (h:=xM (h:=?_))))))))
 obtain ⟨z,hz⟩:=ZU (xs:=xs) (i:=g.1) om
 obtain ⟨bb4,oo4,rfl⟩:=hx.base hz
 obtain ⟨_,⟨rfl,hb5⟩,hc5⟩:=hx.elem hz
 refine xIx Tryz.underlying99 sz9 (h:=y1 lk9 hc5 0 (h:=xIp rfl Tryz.underlying99 sz9 (h:=Zk (Zqr (R:=ZbU) (k:=g.1) (z) 0 rfl hvl rfl om rfl rfl sz9 rfl rfl rfl rfl rfl (⟨rfl,by first | assumption | omega | (simp;omega)⟩) (fun l7 hv7=>?_)))))
 refine ZM (Zo (Zf (xM (h:=xD (h:=xA (h:=?_))))))
 exact ZA (g.1+1,l7) [0] so2 ⟨rfl,so,by rw [← ZdL hz];exact hv7⟩ t4 rfl
 try simp only [sQ,ne_eq] at g1
 refine ZC (ZV (ZG (Zu (Zo (Za (xM (h:=xA (h:=Zd ?_))))))))
 exact eN [0] rfl t1 ⟨_,_,_,rfl,rfl,rfl,by have e:=hvl;rw [ZeO oz] at e;exact e⟩

theorem Zoh (q:Option Addr) (cp:Nat) (xs:List DUser) (hx20:szL Zc1 xs≤1048576) (B:Kn) (hx:SlK B q cp 3 Zr xs):Zv (pj J) 24 [.slice q xs.length cp] B [] (fun v B' Ls=>∃q c l,v = .slice q xs.length c∧B'=B∧Ls=[l]∧ZP Kn.none l q c 97 3 Zr xs):=by
 refine cB 23 Tryz.func24 (h:=?_)
 have hxn:=hx.len
 have hx21:=(ZaR hx20).1
 refine Za (xA (h:=Za (xM (h:=xV Tryz.underlying22 (h:=Zk (ZaX (m:=xs.length) (c:=xs.length) (by_:=40) [.string ⟨#[]⟩,.string ⟨#[]⟩,.int .i64 0] rfl rfl ZnD Ziv rfl rfl ⟨_,_,rfl,by first | omega | (simp;done) | (simp;omega)⟩ ⟨_,_,rfl,by first | omega | (simp;done) | (simp;omega)⟩ om om (fun b1=>?_)))))))
 have hv1:=ZP.zeros (B:=Kn.none) (b:=b1) (T:=97) (R:=Zr) (d:=(⟨[],[],0⟩:DUser)) (m:=xs.length) (c:=xs.length) (zs:=[.string ⟨#[]⟩,.string ⟨#[]⟩,.int .i64 0]) rfl (⟨rfl,by simp,by simp⟩) om
 refine xA (h:=tL1 (Zc (Za (xA (h:=Zi (Zw (α:=Nat × Cells) [0,2] (fun g=>[(3,.slice (some ⟨b1,0,none⟩) xs.length xs.length),(4,.int .i64 g.1)]) [0] (fun g=>[g.2]) (fun g Bx=>Bx=B∧g.1≤xs.length∧ZP Kn.none g.2 (some ⟨b1,0,none⟩) xs.length 97 3 Zr (fill xs (⟨[],[],0⟩:DUser) g.1)) (fun g=>xs.length - g.1) (0,_) t2 rfl (⟨rfl,Nat.zero_le _,by rw [ZdK];exact hv1⟩) (fun g B2 hle2 hI=>?_)))))))
 obtain ⟨rfl,hk,hvl⟩:=hI
 have hfl:=ZeN (d:=(⟨[],[],0⟩:DUser)) hk
 refine ZB [(0,_),(2,_),(3,_),(4,_)] [_] t4 rfl (Zc (Za (xM (h:=xM (h:=xV Tryz.underlying22 (h:=ZE (h:=Zb rfl (fun g1=>?_) (fun g1=>?_))))))))
 try simp only [sQ,ne_eq] at g1
 refine wSk (Zc (Zi (Zf (xM (h:=xM (h:=xM (h:=xM (h:=?_))))))))
 obtain ⟨z,hz⟩:=ZU (xs:=xs) (i:=g.1) om
 obtain ⟨bb4,oo4,rfl⟩:=hx.base hz
 obtain ⟨_,⟨rfl,hb5,hb5b⟩,hc5⟩:=hx.elem hz
 refine xIx Tryz.underlying22 ZxL (h:=yL [_,_,_] ZxX hc5 0 (h:=xR ZyU rfl (Zqz z  _) (h:=xIp rfl Tryz.underlying30 Zek (h:=Zk (Zqr (R:=Zr) (k:=g.1) (z) 0 rfl hvl rfl om rfl rfl Zek rfl rfl rfl rfl rfl (⟨rfl,by first | assumption | omega | (simp;done) | (simp;omega),by first | assumption | omega | (simp;done) | (simp;omega)⟩) (fun l8 hv8=>?_))))))
 refine ZM (Zo (Zf (xM (h:=xD (h:=xA (h:=?_))))))
 exact ZA (g.1+1,l8) [0] so2 ⟨rfl,so,by rw [← ZdL hz];exact hv8⟩ t4 rfl
 try simp only [sQ,ne_eq] at g1
 refine ZC (ZV (ZG (Zu (Zo (Za (xM (h:=xA (h:=Zd ?_))))))))
 exact eN [0] rfl t1 ⟨_,_,_,rfl,rfl,rfl,by have e:=hvl;rw [ZeO oz] at e;exact e⟩

theorem ZmW (q:Option Addr) (cp:Nat) (xs:List DGrant) (hx20:szL Zce xs≤1048576) (B:Kn) (hx:SlK B q cp 2 ZD xs):Zv (pj J) 100 [.slice q xs.length cp] B [] (fun v B' Ls=>∃q c l,v = .slice q xs.length c∧B'=B∧Ls=[l]∧ZP Kn.none l q c 109 2 ZD xs):=by
 refine cB 23 Tryz.func100 (h:=?_)
 have hxn:=hx.len
 have hx21:=(ZaR hx20).1
 refine Za (xA (h:=Za (xM (h:=xV Tryz.underlying88 (h:=Zk (ZaX (m:=xs.length) (c:=xs.length) (by_:=24) [.string ⟨#[]⟩,.int .i64 0] rfl rfl ZnC ZcI rfl rfl ⟨_,_,rfl,by first | omega | (simp;done) | (simp;omega)⟩ ⟨_,_,rfl,by first | omega | (simp;done) | (simp;omega)⟩ om om (fun b1=>?_)))))))
 have hv1:=ZP.zeros (B:=Kn.none) (b:=b1) (T:=109) (R:=ZD) (d:=(⟨[],0⟩:DGrant)) (m:=xs.length) (c:=xs.length) (zs:=[.string ⟨#[]⟩,.int .i64 0]) rfl (⟨rfl,by simp⟩) om
 refine xA (h:=tL1 (Zc (Za (xA (h:=Zi (Zw (α:=Nat × Cells) [0,2] (fun g=>[(3,.slice (some ⟨b1,0,none⟩) xs.length xs.length),(4,.int .i64 g.1)]) [0] (fun g=>[g.2]) (fun g Bx=>Bx=B∧g.1≤xs.length∧ZP Kn.none g.2 (some ⟨b1,0,none⟩) xs.length 109 2 ZD (fill xs (⟨[],0⟩:DGrant) g.1)) (fun g=>xs.length - g.1) (0,_) t2 rfl (⟨rfl,Nat.zero_le _,by rw [ZdK];exact hv1⟩) (fun g B2 hle2 hI=>?_)))))))
 obtain ⟨rfl,hk,hvl⟩:=hI
 have hfl:=ZeN (d:=(⟨[],0⟩:DGrant)) hk
 refine ZB [(0,_),(2,_),(3,_),(4,_)] [_] t4 rfl (Zc (Za (xM (h:=xM (h:=xV Tryz.underlying88 (h:=ZE (h:=Zb rfl (fun g1=>?_) (fun g1=>?_))))))))
 try simp only [sQ,ne_eq] at g1
 refine wSk (Zc (Zi (Zf (xM (h:=xM (h:=xM (h:=xM (h:=?_))))))))
 obtain ⟨z,hz⟩:=ZU (xs:=xs) (i:=g.1) om
 obtain ⟨bb4,oo4,rfl⟩:=hx.base hz
 obtain ⟨_,⟨rfl,hb5⟩,hc5⟩:=hx.elem hz
 refine xIx Tryz.underlying88 ZuC (h:=yL [_,_] ZuS hc5 0 (h:=xR Zxc rfl (Zol z  _) (h:=xIp rfl Tryz.underlying54 ZaQ (h:=Zk (Zqr (R:=ZD) (k:=g.1) (z) 0 rfl hvl rfl om rfl rfl ZaQ rfl rfl rfl rfl rfl (⟨rfl,by first | assumption | omega | (simp;done) | (simp;omega)⟩) (fun l8 hv8=>?_))))))
 refine ZM (Zo (Zf (xM (h:=xD (h:=xA (h:=?_))))))
 exact ZA (g.1+1,l8) [0] so2 ⟨rfl,so,by rw [← ZdL hz];exact hv8⟩ t4 rfl
 try simp only [sQ,ne_eq] at g1
 refine ZC (ZV (ZG (Zu (Zo (Za (xM (h:=xA (h:=Zd ?_))))))))
 exact eN [0] rfl t1 ⟨_,_,_,rfl,rfl,rfl,by have e:=hvl;rw [ZeO oz] at e;exact e⟩

theorem Zoj (q:Option Addr) (cp:Nat) (xs:List DMail) (hx20:szL Zdo xs≤1048576) (B:Kn) (hx:SlK B q cp 3 Zam xs):Zv (pj J) 132 [.slice q xs.length cp] B [] (fun v B' Ls=>∃q c l,v = .slice q xs.length c∧B'=B∧Ls=[l]∧ZP Kn.none l q c 164 3 Zam xs):=by
 refine cB 23 Tryz.func132 (h:=?_)
 have hxn:=hx.len
 have hx21:=(ZaR hx20).1
 refine Za (xA (h:=Za (xM (h:=xV Tryz.underlying89 (h:=Zk (ZaX (m:=xs.length) (c:=xs.length) (by_:=32) [.int .i64 0,.int .i64 0,.string ⟨#[]⟩] rfl rfl Zwf ZkM rfl rfl ⟨_,_,rfl,by first | omega | (simp;done) | (simp;omega)⟩ ⟨_,_,rfl,by first | omega | (simp;done) | (simp;omega)⟩ om om (fun b1=>?_)))))))
 have hv1:=ZP.zeros (B:=Kn.none) (b:=b1) (T:=164) (R:=Zam) (d:=(⟨0,0,[]⟩:DMail)) (m:=xs.length) (c:=xs.length) (zs:=[.int .i64 0,.int .i64 0,.string ⟨#[]⟩]) rfl (⟨rfl,by simp⟩) om
 refine xA (h:=tL1 (Zc (Za (xA (h:=Zi (Zw (α:=Nat × Cells) [0,2] (fun g=>[(3,.slice (some ⟨b1,0,none⟩) xs.length xs.length),(4,.int .i64 g.1)]) [0] (fun g=>[g.2]) (fun g Bx=>Bx=B∧g.1≤xs.length∧ZP Kn.none g.2 (some ⟨b1,0,none⟩) xs.length 164 3 Zam (fill xs (⟨0,0,[]⟩:DMail) g.1)) (fun g=>xs.length - g.1) (0,_) t2 rfl (⟨rfl,Nat.zero_le _,by rw [ZdK];exact hv1⟩) (fun g B2 hle2 hI=>?_)))))))
 obtain ⟨rfl,hk,hvl⟩:=hI
 have hfl:=ZeN (d:=(⟨0,0,[]⟩:DMail)) hk
 refine ZB [(0,_),(2,_),(3,_),(4,_)] [_] t4 rfl (Zc (Za (xM (h:=xM (h:=xV Tryz.underlying89 (h:=ZE (h:=Zb rfl (fun g1=>?_) (fun g1=>?_))))))))
 try simp only [sQ,ne_eq] at g1
 refine wSk (Zc (Zi (Zf (xM (h:=xM (h:=xM (h:=xM (h:=?_))))))))
 obtain ⟨z,hz⟩:=ZU (xs:=xs) (i:=g.1) om
 obtain ⟨bb4,oo4,rfl⟩:=hx.base hz
 obtain ⟨_,⟨rfl,hb5⟩,hc5⟩:=hx.elem hz
 refine xIx Tryz.underlying89 ZuB (h:=yL [_,_,_] ZuQ hc5 0 (h:=xR ZwN rfl (ZqB z  _) (h:=xIp rfl Tryz.underlying57 Zdu (h:=Zk (Zqr (R:=Zam) (k:=g.1) (z) 0 rfl hvl rfl om rfl rfl Zdu rfl rfl rfl rfl rfl (⟨rfl,by first | assumption | omega | (simp;done) | (simp;omega)⟩) (fun l8 hv8=>?_))))))
 refine ZM (Zo (Zf (xM (h:=xD (h:=xA (h:=?_))))))
 exact ZA (g.1+1,l8) [0] so2 ⟨rfl,so,by rw [← ZdL hz];exact hv8⟩ t4 rfl
 try simp only [sQ,ne_eq] at g1
 refine ZC (ZV (ZG (Zu (Zo (Za (xM (h:=xA (h:=Zd ?_))))))))
 exact eN [0] rfl t1 ⟨_,_,_,rfl,rfl,rfl,by have e:=hvl;rw [ZeO oz] at e;exact e⟩

theorem ZqC (q:Option Addr) (cp:Nat) (x:DItem) (B:Kn) (hx:SlK B q cp 1 ZbU x.left) (hl:Ze2 x.left≤1048576):Zv (pj J) 102 [.agg #[.int .i64 x.id,str x.fr,str x.text,.slice q x.left.length cp]] B [] (fun v B' Ls=>∃q0 c0 l0,v = .agg #[.int .i64 x.id,str x.fr,str x.text,.slice q0 x.left.length c0]∧B'=B∧Ls=[l0]∧ZP Kn.none l0 q0 c0 9 1 ZbU x.left):=by
 refine cB 18 Tryz.func102 (h:=?_)
 refine Za (xBx [_,_,_,_] (h:=fun b1=>xAl [_,_,_,_] ZeV (h:=fun b2=>tL2 (Za (xAl [_,_,_,_] ZeV (h:=fun b3=>tL3 (Za (xW ZtE (h:=x1 lk3 0 (h:=xW Zd6 (h:=xS [_] 2 [_,_,_,_] sz3 (h:=tL3 (Za (xW ZpB (h:=x1 lk9 0 (h:=xW Zd5 (h:=xS [_] 2 [_,_,_,_] sz9 (h:=tL3 (Za (xW ZpA (h:=x1 lk9 0 (h:=xW Zft (h:=xS [_] 2 [_,_,_,_] sz9 (h:=tL3 (Za (xW Zpz (h:=x1 Zj7 0 (h:=xC Zxa rfl (ZqA _ _ x.left om2 _ hx) (h:=?_)))))))))))))))))))))))))))))
 rintro _ B4 _ hle4 ⟨q4,c4,l4,rfl,rfl,rfl,hv4⟩
 refine xW Zci (h:=xS [_] 2 [_,_,_,_] Zvw (h:=tL4 (Za (xL [_,_,_,_] Zeo 2 (h:=xS [_,_,_,_] 1 [_,_,_,_] Zbl (h:=tL4 (Zd ?_)))))))
 exact eN [3] rfl ⟨⟨_,rfl,.inr ⟨[_,_,_,_],Zeo,ZcF 1 rfl rfl rfl,rfl⟩⟩,trivial⟩ ⟨_,_,_,rfl,rfl,rfl,hv4⟩

theorem Zok (q:Option Addr) (cp:Nat) (xs:List DItem) (hx20:szL Zbv xs≤1048576) (B:Kn) (hx:SlK B q cp 4 ZK xs):Zv (pj J) 66 [.slice q xs.length cp] B [] (fun v B' Ls=>∃q c l,v = .slice q xs.length c∧B'=B∧Ls=[l]∧ZaV l q c 101 4 (Za8 9) xs):=by
 refine cB 23 Tryz.func66 (h:=?_)
 have hxn:=hx.len
 have hx21:=(ZaR hx20).1
 refine Za (xA (h:=Za (xM (h:=xV Tryz.underlying24 (h:=Zk (ZaX (m:=xs.length) (c:=xs.length) (by_:=64) [.int .i64 0,.string ⟨#[]⟩,.string ⟨#[]⟩,.slice none 0 0] rfl rfl Zwg ZeV rfl rfl ⟨_,_,rfl,by first | omega | (simp;done) | (simp;omega)⟩ ⟨_,_,rfl,by first | omega | (simp;done) | (simp;omega)⟩ om om (fun b1=>?_)))))))
 have hd1:=ZaV.zeros (b:=b1) (T:=101) (R:=Za8 9) (d:=(⟨0,[],[],[]⟩:DItem)) (m:=xs.length) (c:=xs.length) (zs:=[.int .i64 0,.string ⟨#[]⟩,.string ⟨#[]⟩,.slice none 0 0]) rfl (⟨_,_,rfl,ZP.nil,by simp,by simp,by simp⟩) om
 refine xA (h:=tL1 (Zc (Za (xA (h:=Zi (Zw (α:=Nat × Cells) [0,2] (fun g=>[(3,.slice (some ⟨b1,0,none⟩) xs.length xs.length),(4,.int .i64 g.1)]) [0] (fun g=>[g.2]) (fun g Bx=>Bx=B∧g.1≤xs.length∧ZaV g.2 (some ⟨b1,0,none⟩) xs.length 101 4 (Za8 9) (fill xs (⟨0,[],[],[]⟩:DItem) g.1)) (fun g=>xs.length - g.1) (0,_) t2 rfl (⟨rfl,Nat.zero_le _,by rw [ZdK];exact hd1⟩) (fun g B2 hle2 hI=>?_)))))))
 obtain ⟨rfl,hk,hvl⟩:=hI
 have hfl:=ZeN (d:=(⟨0,[],[],[]⟩:DItem)) hk
 refine ZB [(0,_),(2,_),(3,_),(4,_)] [_] t4 rfl (Zc (Za (xM (h:=xM (h:=xV Tryz.underlying24 (h:=ZE (h:=Zb rfl (fun g1=>?_) (fun g1=>?_))))))))
 try simp only [sQ,ne_eq] at g1
 refine wSk (Zc (Zi (Zf (xM (h:=xM (h:=xM (h:=xM (h:=?_))))))))
 obtain ⟨z,hz⟩:=ZU (xs:=xs) (i:=g.1) om
 obtain ⟨bb4,oo4,rfl⟩:=hx.base hz
 obtain ⟨_,⟨qi5,ci5,rfl,hi5,hb5,hb5b⟩,hc5⟩:=hx.elem hz
 have hi5n:=hi5.len
 refine xIx Tryz.underlying24 ZuD (h:=?_)
 have hzz:=(ZaR hx20).2 z (List.mem_of_getElem? hz)
 have hza:=Ztp hzz
 refine yL [_,_,_,_] ZuT hc5 0 (h:=xC ZxB rfl (ZqC _ _ z _ hi5 om2) (h:=?_))
 rintro _ B6 _ hle6 ⟨q6,c6,l6,rfl,rfl,rfl,hv6⟩
 refine xIp rfl Tryz.underlying32 Zbl (h:=Zk (Zt9 (R:=Za8 9) (k:=g.1) (z) 0 [1] rfl rfl hvl rfl om rfl rfl Zbl rfl rfl rfl rfl rfl (l6) (by simp) (⟨_,_,rfl,hv6,by first | assumption | omega | (simp;done) | (simp;omega),by first | assumption | omega | (simp;done) | (simp;omega),by first | assumption | omega | (simp;done) | (simp;omega)⟩) (fun l8 hd8=>?_)))
 refine ZM (Zo (Zf (xM (h:=xD (h:=xA (h:=?_))))))
 exact ZA (g.1+1,l8) [0] so2 ⟨rfl,so,by rw [← ZdL hz];exact hd8⟩ t4 rfl
 try simp only [sQ,ne_eq] at g1
 refine ZC (ZV (ZG (Zu (Zo (Za (xM (h:=xA (h:=Zd ?_))))))))
 exact eN [0] rfl t1 ⟨_,_,_,rfl,rfl,rfl,by have e:=hvl;rw [ZeO oz] at e;exact e⟩

theorem Zoi (q:Option Addr) (cp:Nat) (x:DQueue) (B:Kn) (hx:SlK B q cp 4 ZK x.items) (hl:szL Zbv x.items≤1048576):Zv (pj J) 26 [.agg #[.int .i64 x.next,.slice q x.items.length cp]] B [] (fun v B' Ls=>∃q0 c0 l0,v = .agg #[.int .i64 x.next,.slice q0 x.items.length c0]∧B'=B∧Ls=[l0]∧ZaV l0 q0 c0 101 4 (Za8 9) x.items):=by
 refine cB 12 Tryz.func26 (h:=?_)
 refine Za (xBx [_,_] (h:=fun b1=>xAl [_,_] Zqn (h:=fun b2=>tL2 (Za (xAl [_,_] Zqn (h:=fun b3=>tL3 (Za (xW Zu4 (h:=x1 lk3 0 (h:=xW ZfW (h:=xS [_] 2 [_,_] sz3 (h:=tL3 (Za (xW Zsw (h:=x1 ZxZ 0 (h:=xC ZyS rfl (Zok _ _ x.items om2 _ hx) (h:=?_)))))))))))))))))
 rintro _ B4 _ hle4 ⟨q4,c4,l4,rfl,rfl,rfl,hv4⟩
 refine xW ZbD (h:=xS [_] 2 [_,_] ZvY (h:=tL4 (Za (xL [_,_] ZkL 2 (h:=xS [_,_] 1 [_,_] ZsV (h:=tL4 (Zd ?_)))))))
 exact eN [3] rfl ⟨⟨_,rfl,.inr ⟨[_,_],ZkL,ZcF 1 rfl rfl rfl,rfl⟩⟩,trivial⟩ ⟨_,_,_,rfl,rfl,rfl,hv4⟩

theorem ZsR (q:Option Addr) (cp:Nat) (x:DBox) (B:Kn) (hx:SlK B q cp 3 Zam x.mail) (hl:szL Zdo x.mail≤1048576):Zv (pj J) 101 [.agg #[.int .i64 x.next,.slice q x.mail.length cp]] B [] (fun v B' Ls=>∃q0 c0 l0,v = .agg #[.int .i64 x.next,.slice q0 x.mail.length c0]∧B'=B∧Ls=[l0]∧ZP Kn.none l0 q0 c0 164 3 Zam x.mail):=by
 refine cB 12 Tryz.func101 (h:=?_)
 refine Za (xBx [_,_] (h:=fun b1=>xAl [_,_] Zt5 (h:=fun b2=>tL2 (Za (xAl [_,_] Zt5 (h:=fun b3=>tL3 (Za (xW Zu2 (h:=x1 lk3 0 (h:=xW ZfV (h:=xS [_] 2 [_,_] sz3 (h:=tL3 (Za (xW Zsp (h:=x1 ZxV 0 (h:=xC Zxb rfl (Zoj _ _ x.mail om2 _ hx) (h:=?_)))))))))))))))))
 rintro _ B4 _ hle4 ⟨q4,c4,l4,rfl,rfl,rfl,hv4⟩
 refine xW Zcc (h:=xS [_] 2 [_,_] ZxM (h:=tL4 (Za (xL [_,_] Zmr 2 (h:=xS [_,_] 1 [_,_] Zt3 (h:=tL4 (Zd ?_)))))))
 exact eN [3] rfl ⟨⟨_,rfl,.inr ⟨[_,_],Zmr,ZcF 1 rfl rfl rfl,rfl⟩⟩,trivial⟩ ⟨_,_,_,rfl,rfl,rfl,hv4⟩

theorem ZmX (qa qb:Option Addr) (ca cb:Nat) (x:DFolder) (B:Kn) (hx:SlK B qa ca 2 ZD x.grants) (hy:SlK B qb cb 3 Zam x.mail) (hl:szL Zce x.grants≤1048576) (hl2:szL Zdo x.mail≤1048576):Zv (pj J) 65 [.agg #[str x.owner,str x.name,.slice qa x.grants.length ca,.int .i64 x.next,.slice qb x.mail.length cb]] B [] (fun v B' Ls=>∃q0 c0 l0 q1 c1 l1,v = .agg #[str x.owner,str x.name,.slice q0 x.grants.length c0,.int .i64 x.next,.slice q1 x.mail.length c1]∧B'=B∧Ls=[l0,l1]∧ZP Kn.none l0 q0 c0 109 2 ZD x.grants∧ZP Kn.none l1 q1 c1 164 3 Zam x.mail):=by
 refine cB 19 Tryz.func65 (h:=?_)
 refine Za (xBx [_,_,_,_,_] (h:=fun b1=>xAl [_,_,_,_,_] Zf5 (h:=fun b2=>tL2 (Za (xAl [_,_,_,_,_] Zf5 (h:=fun b3=>tL3 (Za (xW Zso (h:=x1 lk9 0 (h:=xW Zb5 (h:=xS [_] 2 [_,_,_,_,_] sz9 (h:=tL3 (Za (xW Zsn (h:=x1 lk9 0 (h:=xW ZdI (h:=xS [_] 2 [_,_,_,_,_] sz9 (h:=tL3 (Za (xW Zsm (h:=x1 ZxW 0 (h:=xC ZxD rfl (ZmW _ _ x.grants om2 _ hx) (h:=?_)))))))))))))))))))))))
 rintro _ B4 _ hle4 ⟨q4,c4,l4,rfl,rfl,rfl,hv4⟩
 refine xW ZbB (h:=xS [_] 2 [_,_,_,_,_] ZsU (h:=tL4 (Za (xW Zsl (h:=xL [_,_] ZxU 0 (h:=xC ZxC rfl (ZsR _ _ ⟨x.next,x.mail⟩ _ hy om2) (h:=?_)))))))
 rintro _ B5 _ hle5 ⟨q5,c5,l5,rfl,rfl,rfl,hv5⟩
 refine xW Zda (h:=xS [_,_] 2 [_,_,_,_,_] Zt3 (h:=tL5 (Za (xL [_,_,_,_,_] ZhQ 2 (h:=xS [_,_,_,_,_] 1 [_,_,_,_,_] Zbw (h:=tL5 (Zd ?_)))))))
 exact eN [3,4] rfl ⟨⟨_,rfl,.inr ⟨[_,_,_,_,_],ZhQ,ZcF 1 rfl rfl rfl,rfl⟩⟩,trivial⟩ ⟨_,_,_,_,_,_,rfl,rfl,rfl,hv4,hv5⟩

theorem ZkT (q:Option Addr) (cp:Nat) (xs:List DFolder) (hx20:szL Zat xs≤1048576) (B:Kn) (hx:SlK B q cp 5 Zs xs):Zv (pj J) 25 [.slice q xs.length cp] B [] (fun v B' Ls=>∃q c l,v = .slice q xs.length c∧B'=B∧Ls=[l]∧ZaV l q c 61 5 (Z1 109 164) xs):=by
 refine cB 23 Tryz.func25 (h:=?_)
 have hxn:=hx.len
 have hx21:=(ZaR hx20).1
 refine Za (xA (h:=Za (xM (h:=xV Tryz.underlying23 (h:=Zk (ZaX (m:=xs.length) (c:=xs.length) (by_:=88) [.string ⟨#[]⟩,.string ⟨#[]⟩,.slice none 0 0,.int .i64 0,.slice none 0 0] rfl rfl Zvz Zf5 rfl rfl ⟨_,_,rfl,by first | omega | (simp;done) | (simp;omega)⟩ ⟨_,_,rfl,by first | omega | (simp;done) | (simp;omega)⟩ om om (fun b1=>?_)))))))
 have hd1:=ZaV.zeros (b:=b1) (T:=61) (R:=(Z1 109 164)) (d:=(⟨[],[],[],0,[]⟩:DFolder)) (m:=xs.length) (c:=xs.length) (zs:=[.string ⟨#[]⟩,.string ⟨#[]⟩,.slice none 0 0,.int .i64 0,.slice none 0 0]) rfl (⟨_,_,_,_,[],[],rfl,rfl,ZP.nil,ZP.nil,by simp,by simp,by simp,by simp⟩) om
 refine xA (h:=tL1 (Zc (Za (xA (h:=Zi (Zw (α:=Nat × Cells) [0,2] (fun g=>[(3,.slice (some ⟨b1,0,none⟩) xs.length xs.length),(4,.int .i64 g.1)]) [0] (fun g=>[g.2]) (fun g Bx=>Bx=B∧g.1≤xs.length∧ZaV g.2 (some ⟨b1,0,none⟩) xs.length 61 5 (Z1 109 164) (fill xs (⟨[],[],[],0,[]⟩:DFolder) g.1)) (fun g=>xs.length - g.1) (0,_) t2 rfl (⟨rfl,Nat.zero_le _,by rw [ZdK];exact hd1⟩) (fun g B2 hle2 hI=>?_)))))))
 obtain ⟨rfl,hk,hvl⟩:=hI
 have hfl:=ZeN (d:=(⟨[],[],[],0,[]⟩:DFolder)) hk
 refine ZB [(0,_),(2,_),(3,_),(4,_)] [_] t4 rfl (Zc (Za (xM (h:=xM (h:=xV Tryz.underlying23 (h:=ZE (h:=Zb rfl (fun g1=>?_) (fun g1=>?_))))))))
 try simp only [sQ,ne_eq] at g1
 refine wSk (Zc (Zi (Zf (xM (h:=xM (h:=xM (h:=xM (h:=?_))))))))
 obtain ⟨z,hz⟩:=ZU (xs:=xs) (i:=g.1) om
 obtain ⟨bb4,oo4,rfl⟩:=hx.base hz
 obtain ⟨_,⟨qg5,cg5,qm5,cm5,rfl,hg5,hm5,hb5,hb5b⟩,hc5⟩:=hx.elem hz
 have hg5n:=hg5.len
 have hm5n:=hm5.len
 have hm5s:=Zad hm5
 refine xIx Tryz.underlying23 ZxK (h:=?_)
 have hzz:=(ZaR hx20).2 z (List.mem_of_getElem? hz)
 have hza:=Zpu hzz
 refine yL [_,_,_,_,_] ZxT hc5 0 (h:=xC ZyT rfl (ZmX _ _ _ _ z _ hg5 hm5 om2 om2) (h:=?_))
 rintro _ B6 _ hle6 ⟨q6,c6,l6,q6b,c6b,l6b,rfl,rfl,rfl,hv6,hv6b⟩
 refine xIp rfl Tryz.underlying31 Zbw (h:=Zk (Zt9 (R:=(Z1 109 164)) (k:=g.1) (z) 0 [1,2] rfl rfl hvl rfl om rfl rfl Zbw rfl rfl rfl rfl rfl (l6 ++ l6b) (by simp) (⟨_,_,_,_,_,_,rfl,rfl,(hv6.anyK ZD.any),(hv6b.anyK Zam.any),by first | assumption | omega | (simp;done) | (simp;omega),by first | assumption | omega | (simp;done) | (simp;omega),by first | assumption | omega | (simp;done) | (simp;omega),by first | assumption | omega | (simp;done) | (simp;omega)⟩) (fun l8 hd8=>?_)))
 refine ZM (Zo (Zf (xM (h:=xD (h:=xA (h:=?_))))))
 exact ZA (g.1+1,l8) [0] so2 ⟨rfl,so,by rw [← ZdL hz];exact hd8⟩ t4 rfl
 try simp only [sQ,ne_eq] at g1
 refine ZC (ZV (ZG (Zu (Zo (Za (xM (h:=xA (h:=Zd ?_))))))))
 exact eN [0] rfl t1 ⟨_,_,_,rfl,rfl,rfl,by have e:=hvl;rw [ZeO oz] at e;exact e⟩

theorem ZgM (q1 q2 q3:Option Addr) (c1 c2 c3:Nat) (x:DHost) (B:Kn) (hu:SlK B q1 c1 3 Zr x.users) (hf:SlK B q2 c2 5 Zs x.folders) (hi:SlK B q3 c3 4 ZK x.queue.items) (hsz:Zdp x≤1048576):Zv (pj J) 7 [.agg #[str x.domain,.slice q1 x.users.length c1,.slice q2 x.folders.length c2,.int .i64 x.queue.next,.slice q3 x.queue.items.length c3]] B [] (fun v B' Ls=>∃q0 c0 l0 q1 c1 l1 q2 c2 l2,v = .agg #[str x.domain,.slice q0 x.users.length c0,.slice q1 x.folders.length c1,.int .i64 x.queue.next,.slice q2 x.queue.items.length c2]∧B'=B∧Ls=[l0,l1,l2]∧ZP Kn.none l0 q0 c0 97 3 Zr x.users∧ZaV l1 q1 c1 61 5 (Z1 109 164) x.folders∧ZaV l2 q2 c2 101 4 (Za8 9) x.queue.items):=by
 refine cB 20 Tryz.func7 (h:=?_)
 have hsz2:=Zph hsz
 refine Za (xBx [_,_,_,_,_] (h:=fun b1=>xAl [_,_,_,_,_] Zcx (h:=fun b2=>tL2 (Za (xAl [_,_,_,_,_] Zcx (h:=fun b3=>tL3 (Za (xW Zsv (h:=x1 lk9 0 (h:=xW Zhw (h:=xS [_] 2 [_,_,_,_,_] sz9 (h:=tL3 (Za (xW Zsu (h:=x1 Zx1 0 (h:=xC Zzl rfl (Zoh _ _ x.users om2 _ hu) (h:=?_)))))))))))))))))
 rintro _ B4 _ hle4 ⟨q4,c4,l4,rfl,rfl,rfl,hv4⟩
 refine xW ZbC (h:=xS [_] 2 [_,_,_,_,_] Zyl (h:=tL4 (Za (xW Zst (h:=x1 Zx0 0 (h:=xC Zzk rfl (ZkT _ _ x.folders om2 _ hf) (h:=?_)))))))
 rintro _ B5 _ hle5 ⟨q5,c5,l5,rfl,rfl,rfl,hv5⟩
 refine xW Zal (h:=xS [_] 2 [_,_,_,_,_] ZxN (h:=tL5 (Za (xW Zss (h:=xL [_,_] ZxY 0 (h:=xC Zzj rfl (Zoi _ _ ⟨x.queue.next,x.queue.items⟩ _ hi om2) (h:=?_)))))))
 rintro _ B6 _ hle6 ⟨q6,c6,l6,rfl,rfl,rfl,hv6⟩
 refine xW Zee (h:=xS [_,_] 2 [_,_,_,_,_] ZsV (h:=tL6 (Za (xL [_,_,_,_,_] ZcN 2 (h:=xS [_,_,_,_,_] 1 [_,_,_,_,_] ZdA (h:=tL6 (Zd ?_)))))))
 exact eN [3,4,5] rfl ⟨⟨_,rfl,.inr ⟨[_,_,_,_,_],ZcN,ZcF 1 rfl rfl rfl,rfl⟩⟩,trivial⟩ ⟨_,_,_,_,_,_,_,_,_,rfl,rfl,rfl,hv4,hv5,hv6⟩

theorem Zrz   (a b:DUser) (B:Kn)   : Z6 (pj J) 74 [.agg #[str a.name,str a.pass,.int .i64 a.quota],.agg #[str b.name,str b.pass,.int .i64 b.quota]] B (.bool (decide (a=b))):=by
 refine cB 20 Tryz.func74 (h:=?_)
 refine Za (xBx [_,_,_] (h:=fun b1=>xBx [_,_,_] (h:=fun b2=>xA (h:=tL2 (Zc (Za (xW Zb4 (h:=x1 lk9 0 (h:=xW Zb4 (h:=x1 lk9 1 (h:=ZcD (h:=Zb rfl (fun g1=>?_) (fun g1=>?_)))))))))))))
 try simp only [sQ,ne_eq] at g1
 refine Za (xA (h:=Zd (Zl ?_)))
 exact eR t1 ⟨Ze (by symm;rw [decide_eq_false_iff_not];rintro rfl;exact g1 rfl),rfl,rfl⟩
 try simp only [sQ,ne_eq] at g1
 refine wSk (Zc (Za (xW Zhv (h:=x1 lk9 0 (h:=xW Zhv (h:=x1 lk9 1 (h:=ZcD (h:=Zb rfl (fun g2=>?_) (fun g2=>?_)))))))))
 try simp only [sQ,ne_eq] at g2
 refine Za (xA (h:=Zd (Zl ?_)))
 exact eR t1 ⟨Ze (by symm;rw [decide_eq_false_iff_not];rintro rfl;exact g2 rfl),rfl,rfl⟩
 try simp only [sQ,ne_eq] at g2
 refine wSk (Zc (Za (xW Ze5 (h:=x1 lk3 0 (h:=xW Ze5 (h:=x1 lk3 1 (h:=ZaO (h:=Zb rfl (fun g3=>?_) (fun g3=>?_)))))))))
 try simp only [sQ,ne_eq] at g3
 refine Za (xA (h:=Zd (Zl ?_)))
 exact eR t1 ⟨Ze (by symm;rw [decide_eq_false_iff_not];rintro rfl;exact g3 rfl),rfl,rfl⟩
 try simp only [sQ,ne_eq] at g3
 refine wSk (Za (xA (h:=Zd ?_)))
 exact eR t1 ⟨Ze (by symm;rw [decide_eq_true_eq];cases a;cases b;simp_all),rfl,rfl⟩

theorem ZpN   (a b:DGrant) (B:Kn)   : Z6 (pj J) 154 [.agg #[str a.user,.int .i64 a.rights],.agg #[str b.user,.int .i64 b.rights]] B (.bool (decide (a=b))):=by
 refine cB 15 Tryz.func154 (h:=?_)
 refine Za (xBx [_,_] (h:=fun b1=>xBx [_,_] (h:=fun b2=>xA (h:=tL2 (Zc (Za (xW Za7 (h:=x1 lk9 0 (h:=xW Za7 (h:=x1 lk9 1 (h:=ZcD (h:=Zb rfl (fun g1=>?_) (fun g1=>?_)))))))))))))
 try simp only [sQ,ne_eq] at g1
 refine Za (xA (h:=Zd (Zl ?_)))
 exact eR t1 ⟨Ze (by symm;rw [decide_eq_false_iff_not];rintro rfl;exact g1 rfl),rfl,rfl⟩
 try simp only [sQ,ne_eq] at g1
 refine wSk (Zc (Za (xW Zdb (h:=x1 lk3 0 (h:=xW Zdb (h:=x1 lk3 1 (h:=ZaO (h:=Zb rfl (fun g2=>?_) (fun g2=>?_)))))))))
 try simp only [sQ,ne_eq] at g2
 refine Za (xA (h:=Zd (Zl ?_)))
 exact eR t1 ⟨Ze (by symm;rw [decide_eq_false_iff_not];rintro rfl;exact g2 rfl),rfl,rfl⟩
 try simp only [sQ,ne_eq] at g2
 refine wSk (Za (xA (h:=Zd ?_)))
 exact eR t1 ⟨Ze (by symm;rw [decide_eq_true_eq];cases a;cases b;simp_all),rfl,rfl⟩

theorem ZrB   (a b:DMail) (B:Kn)   : Z6 (pj J) 194 [.agg #[.int .i64 a.uid,.int .i64 a.flags,str a.text],.agg #[.int .i64 b.uid,.int .i64 b.flags,str b.text]] B (.bool (decide (a=b))):=by
 refine cB 20 Tryz.func194 (h:=?_)
 refine Za (xBx [_,_,_] (h:=fun b1=>xBx [_,_,_] (h:=fun b2=>xA (h:=tL2 (Zc (Za (xW ZcC (h:=x1 lk3 0 (h:=xW ZcC (h:=x1 lk3 1 (h:=ZaO (h:=Zb rfl (fun g1=>?_) (fun g1=>?_)))))))))))))
 try simp only [sQ,ne_eq] at g1
 refine Za (xA (h:=Zd (Zl ?_)))
 exact eR t1 ⟨Ze (by symm;rw [decide_eq_false_iff_not];rintro rfl;exact g1 rfl),rfl,rfl⟩
 try simp only [sQ,ne_eq] at g1
 refine wSk (Zc (Za (xW Zfs (h:=x1 lk3 0 (h:=xW Zfs (h:=x1 lk3 1 (h:=ZaO (h:=Zb rfl (fun g2=>?_) (fun g2=>?_)))))))))
 try simp only [sQ,ne_eq] at g2
 refine Za (xA (h:=Zd (Zl ?_)))
 exact eR t1 ⟨Ze (by symm;rw [decide_eq_false_iff_not];rintro rfl;exact g2 rfl),rfl,rfl⟩
 try simp only [sQ,ne_eq] at g2
 refine wSk (Zc (Za (xW Zd4 (h:=x1 lk9 0 (h:=xW Zd4 (h:=x1 lk9 1 (h:=ZcD (h:=Zb rfl (fun g3=>?_) (fun g3=>?_)))))))))
 try simp only [sQ,ne_eq] at g3
 refine Za (xA (h:=Zd (Zl ?_)))
 exact eR t1 ⟨Ze (by symm;rw [decide_eq_false_iff_not];rintro rfl;exact g3 rfl),rfl,rfl⟩
 try simp only [sQ,ne_eq] at g3
 refine wSk (Za (xA (h:=Zd ?_)))
 exact eR t1 ⟨Ze (by symm;rw [decide_eq_true_eq];cases a;cases b;simp_all),rfl,rfl⟩

theorem ZpJ (q q':Option Addr) (cp cp':Nat) (xs ys:List DUser) (B:Kn) (ha:SlK B q cp 3 Zr xs) (hb:SlK B q' cp' 3 Zr ys):Z6 (pj J) 33 [.slice q xs.length cp,.slice q' ys.length cp'] B (.bool (decide (xs=ys))):=by
 refine cB 27 Tryz.func33 (h:=?_)
 have han:=ha.len
 have hbn:=hb.len
 refine Za (xA (h:=Zc (Za (xM (h:=xV Tryz.underlying30 (h:=xM (h:=xV Tryz.underlying30 (h:=ZaO (h:=Zb rfl (fun g1=>?_) (fun g1=>?_))))))))))
 try simp only [sQ,ne_eq] at g1
 refine Za (xA (h:=Zd (Zl ?_)))
 exact eR t1 ⟨Ze (Zgo g1),rfl,rfl⟩
 try simp only [sQ,ne_eq] at g1
 refine wSk (Zc (Za (xA (h:=Zi (Zw (α:=Nat) [0,1,10] (fun k=>[(5,.int .i64 k)]) [] (fun k=>[]) (fun k Bx=>Bx=B∧k≤xs.length∧xs.take k=ys.take k) (fun k=>xs.length - k) 0 t1 rfl (⟨rfl,Nat.zero_le _,by simp⟩) (fun k B1 hle1 hI=>?_))))))
 obtain ⟨rfl,hk,he⟩:=hI
 refine ZB [(0,_),(1,_),(5,_),(10,_)] [] t4 rfl (Zc (Za (xM (h:=xM (h:=xV Tryz.underlying30 (h:=ZE (h:=Zb rfl (fun g2=>?_) (fun g2=>?_))))))))
 try simp only [sQ,ne_eq] at g2
 refine wSk (Zc (Zi (Zc (Z2 (same _ _) mo kr ⟨rfl,rfl⟩ (fun _ _=>?_)))))
 refine aM 0 rfl (h:=aM 1 rfl (h:=?_))
 obtain ⟨x,hx⟩:=ZU (xs:=xs) (i:=k) om
 obtain ⟨bb3,oo3,rfl⟩:=ha.base hx
 obtain ⟨_,⟨rfl,hb4,hb4b⟩,hc4⟩:=ha.elem hx
 refine aIx 2 rfl Tryz.underlying30 Zek (h:=aT 3 rfl (Zag fun D=>Zaj [_,_,_] rfl rfl ZkJ rfl (Zmg hc4 0 rfl rfl) r4) (h:=aM 4 rfl (h:=aM 5 rfl (h:=?_))))
 obtain ⟨y,hy⟩:=ZU (xs:=ys) (i:=k) om
 obtain ⟨bb6,oo6,rfl⟩:=hb.base hy
 obtain ⟨_,⟨rfl,hb7,hb7b⟩,hc7⟩:=hb.elem hy
 refine aIx 6 rfl Tryz.underlying30 Zek (h:=aT 7 rfl (Zag fun D=>Zaj [_,_,_] rfl rfl ZkJ rfl (Zmg hc7 0 rfl rfl) r4) (h:=aT 8 rfl (Zag fun D=>Zaf rfl rfl ZyO rfl (Zrz x y _ ) r4) (h:=aN 9 rfl (h:=Zx kr kr ?_))))
 refine Zo (Zb rfl (fun g3=>?_) (fun g3=>?_))
 try simp only [sQ,ne_eq] at g3
 refine Za (xA (h:=Zd (Zy (Zl (ZO (Zy (Zl ?_)))))))
 exact eR t1 ⟨Ze (ZeR hx hy g3),rfl,rfl⟩
 try simp only [sQ,ne_eq] at g3
 refine ZT (ZM (Zo (Zf (xM (h:=xD (h:=xA (h:=?_)))))))
 exact ZA (k+1) [] so2 ⟨rfl,oz,ZbO hx hy g3 he⟩ t4 rfl
 try simp only [sQ,ne_eq] at g2
 refine ZC (ZV (ZG (Zu (Zo (Za (xA (h:=Zd ?_)))))))
 exact eR t1 ⟨Ze (eqT oz oz he),rfl,rfl⟩

theorem ZnA (q q':Option Addr) (cp cp':Nat) (xs ys:List DGrant) (B:Kn) (ha:SlK B q cp 2 ZD xs) (hb:SlK B q' cp' 2 ZD ys):Z6 (pj J) 117 [.slice q xs.length cp,.slice q' ys.length cp'] B (.bool (decide (xs=ys))):=by
 refine cB 27 Tryz.func117 (h:=?_)
 have han:=ha.len
 have hbn:=hb.len
 refine Za (xA (h:=Zc (Za (xM (h:=xV Tryz.underlying54 (h:=xM (h:=xV Tryz.underlying54 (h:=ZaO (h:=Zb rfl (fun g1=>?_) (fun g1=>?_))))))))))
 try simp only [sQ,ne_eq] at g1
 refine Za (xA (h:=Zd (Zl ?_)))
 exact eR t1 ⟨Ze (Zgo g1),rfl,rfl⟩
 try simp only [sQ,ne_eq] at g1
 refine wSk (Zc (Za (xA (h:=Zi (Zw (α:=Nat) [0,1,10] (fun k=>[(5,.int .i64 k)]) [] (fun k=>[]) (fun k Bx=>Bx=B∧k≤xs.length∧xs.take k=ys.take k) (fun k=>xs.length - k) 0 t1 rfl (⟨rfl,Nat.zero_le _,by simp⟩) (fun k B1 hle1 hI=>?_))))))
 obtain ⟨rfl,hk,he⟩:=hI
 refine ZB [(0,_),(1,_),(5,_),(10,_)] [] t4 rfl (Zc (Za (xM (h:=xM (h:=xV Tryz.underlying54 (h:=ZE (h:=Zb rfl (fun g2=>?_) (fun g2=>?_))))))))
 try simp only [sQ,ne_eq] at g2
 refine wSk (Zc (Zi (Zc (Z2 (same _ _) mo kr ⟨rfl,rfl⟩ (fun _ _=>?_)))))
 refine aM 0 rfl (h:=aM 1 rfl (h:=?_))
 obtain ⟨x,hx⟩:=ZU (xs:=xs) (i:=k) om
 obtain ⟨bb3,oo3,rfl⟩:=ha.base hx
 obtain ⟨_,⟨rfl,hb4⟩,hc4⟩:=ha.elem hx
 refine aIx 2 rfl Tryz.underlying54 ZaQ (h:=aT 3 rfl (Zag fun D=>Zaj [_,_] rfl rfl Zj9 rfl (Zmg hc4 0 rfl rfl) r4) (h:=aM 4 rfl (h:=aM 5 rfl (h:=?_))))
 obtain ⟨y,hy⟩:=ZU (xs:=ys) (i:=k) om
 obtain ⟨bb6,oo6,rfl⟩:=hb.base hy
 obtain ⟨_,⟨rfl,hb7⟩,hc7⟩:=hb.elem hy
 refine aIx 6 rfl Tryz.underlying54 ZaQ (h:=aT 7 rfl (Zag fun D=>Zaj [_,_] rfl rfl Zj9 rfl (Zmg hc7 0 rfl rfl) r4) (h:=aT 8 rfl (Zag fun D=>Zaf rfl rfl ZwT rfl (ZpN x y _ ) r4) (h:=aN 9 rfl (h:=Zx kr kr ?_))))
 refine Zo (Zb rfl (fun g3=>?_) (fun g3=>?_))
 try simp only [sQ,ne_eq] at g3
 refine Za (xA (h:=Zd (Zy (Zl (ZO (Zy (Zl ?_)))))))
 exact eR t1 ⟨Ze (ZeR hx hy g3),rfl,rfl⟩
 try simp only [sQ,ne_eq] at g3
 refine ZT (ZM (Zo (Zf (xM (h:=xD (h:=xA (h:=?_)))))))
 exact ZA (k+1) [] so2 ⟨rfl,oz,ZbO hx hy g3 he⟩ t4 rfl
 try simp only [sQ,ne_eq] at g2
 refine ZC (ZV (ZG (Zu (Zo (Za (xA (h:=Zd ?_)))))))
 exact eR t1 ⟨Ze (eqT oz oz he),rfl,rfl⟩

theorem ZpL (q q':Option Addr) (cp cp':Nat) (xs ys:List DMail) (B:Kn) (ha:SlK B q cp 3 Zam xs) (hb:SlK B q' cp' 3 Zam ys):Z6 (pj J) 155 [.slice q xs.length cp,.slice q' ys.length cp'] B (.bool (decide (xs=ys))):=by
 refine cB 27 Tryz.func155 (h:=?_)
 have han:=ha.len
 have hbn:=hb.len
 refine Za (xA (h:=Zc (Za (xM (h:=xV Tryz.underlying57 (h:=xM (h:=xV Tryz.underlying57 (h:=ZaO (h:=Zb rfl (fun g1=>?_) (fun g1=>?_))))))))))
 try simp only [sQ,ne_eq] at g1
 refine Za (xA (h:=Zd (Zl ?_)))
 exact eR t1 ⟨Ze (Zgo g1),rfl,rfl⟩
 try simp only [sQ,ne_eq] at g1
 refine wSk (Zc (Za (xA (h:=Zi (Zw (α:=Nat) [0,1,10] (fun k=>[(5,.int .i64 k)]) [] (fun k=>[]) (fun k Bx=>Bx=B∧k≤xs.length∧xs.take k=ys.take k) (fun k=>xs.length - k) 0 t1 rfl (⟨rfl,Nat.zero_le _,by simp⟩) (fun k B1 hle1 hI=>?_))))))
 obtain ⟨rfl,hk,he⟩:=hI
 refine ZB [(0,_),(1,_),(5,_),(10,_)] [] t4 rfl (Zc (Za (xM (h:=xM (h:=xV Tryz.underlying57 (h:=ZE (h:=Zb rfl (fun g2=>?_) (fun g2=>?_))))))))
 try simp only [sQ,ne_eq] at g2
 refine wSk (Zc (Zi (Zc (Z2 (same _ _) mo kr ⟨rfl,rfl⟩ (fun _ _=>?_)))))
 refine aM 0 rfl (h:=aM 1 rfl (h:=?_))
 obtain ⟨x,hx⟩:=ZU (xs:=xs) (i:=k) om
 obtain ⟨bb3,oo3,rfl⟩:=ha.base hx
 obtain ⟨_,⟨rfl,hb4⟩,hc4⟩:=ha.elem hx
 refine aIx 2 rfl Tryz.underlying57 Zdu (h:=aT 3 rfl (Zag fun D=>Zaj [_,_,_] rfl rfl Zj8 rfl (Zmg hc4 0 rfl rfl) r4) (h:=aM 4 rfl (h:=aM 5 rfl (h:=?_))))
 obtain ⟨y,hy⟩:=ZU (xs:=ys) (i:=k) om
 obtain ⟨bb6,oo6,rfl⟩:=hb.base hy
 obtain ⟨_,⟨rfl,hb7⟩,hc7⟩:=hb.elem hy
 refine aIx 6 rfl Tryz.underlying57 Zdu (h:=aT 7 rfl (Zag fun D=>Zaj [_,_,_] rfl rfl Zj8 rfl (Zmg hc7 0 rfl rfl) r4) (h:=aT 8 rfl (Zag fun D=>Zaf rfl rfl Zwz rfl (ZrB x y _ ) r4) (h:=aN 9 rfl (h:=Zx kr kr ?_))))
 refine Zo (Zb rfl (fun g3=>?_) (fun g3=>?_))
 try simp only [sQ,ne_eq] at g3
 refine Za (xA (h:=Zd (Zy (Zl (ZO (Zy (Zl ?_)))))))
 exact eR t1 ⟨Ze (ZeR hx hy g3),rfl,rfl⟩
 try simp only [sQ,ne_eq] at g3
 refine ZT (ZM (Zo (Zf (xM (h:=xD (h:=xA (h:=?_)))))))
 exact ZA (k+1) [] so2 ⟨rfl,oz,ZbO hx hy g3 he⟩ t4 rfl
 try simp only [sQ,ne_eq] at g2
 refine ZC (ZV (ZG (Zu (Zo (Za (xA (h:=Zd ?_)))))))
 exact eR t1 ⟨Ze (eqT oz oz he),rfl,rfl⟩

theorem ZrC (q1:Option Addr) (cp1:Nat) (q2:Option Addr) (cp2:Nat) (a b:DItem) (B:Kn) (h1:SlK B q1 cp1 1 ZbU a.left) (h2:SlK B q2 cp2 1 ZbU b.left):Z6 (pj J) 119 [.agg #[.int .i64 a.id,str a.fr,str a.text,.slice q1 a.left.length cp1],.agg #[.int .i64 b.id,str b.fr,str b.text,.slice q2 b.left.length cp2]] B (.bool (decide (a=b))):=by
 refine cB 26 Tryz.func119 (h:=?_)
 refine Za (xBx [_,_,_,_] (h:=fun b1=>xBx [_,_,_,_] (h:=fun b2=>xA (h:=tL2 (Zc (Za (xW Zd6 (h:=x1 lk3 0 (h:=xW Zd6 (h:=x1 lk3 1 (h:=ZaO (h:=Zb rfl (fun g1=>?_) (fun g1=>?_)))))))))))))
 try simp only [sQ,ne_eq] at g1
 refine Za (xA (h:=Zd (Zl ?_)))
 exact eR t1 ⟨Ze (by symm;rw [decide_eq_false_iff_not];rintro rfl;exact g1 rfl),rfl,rfl⟩
 try simp only [sQ,ne_eq] at g1
 refine wSk (Zc (Za (xW Zd5 (h:=x1 lk9 0 (h:=xW Zd5 (h:=x1 lk9 1 (h:=ZcD (h:=Zb rfl (fun g2=>?_) (fun g2=>?_)))))))))
 try simp only [sQ,ne_eq] at g2
 refine Za (xA (h:=Zd (Zl ?_)))
 exact eR t1 ⟨Ze (by symm;rw [decide_eq_false_iff_not];rintro rfl;exact g2 rfl),rfl,rfl⟩
 try simp only [sQ,ne_eq] at g2
 refine wSk (Zc (Za (xW Zft (h:=x1 lk9 0 (h:=xW Zft (h:=x1 lk9 1 (h:=ZcD (h:=Zb rfl (fun g3=>?_) (fun g3=>?_)))))))))
 try simp only [sQ,ne_eq] at g3
 refine Za (xA (h:=Zd (Zl ?_)))
 exact eR t1 ⟨Ze (by symm;rw [decide_eq_false_iff_not];rintro rfl;exact g3 rfl),rfl,rfl⟩
 try simp only [sQ,ne_eq] at g3
 refine wSk (Zc (Za (xW Zci (h:=x1 Zj7 0 (h:=xW Zci (h:=x1 Zj7 1 (h:=xR ZwR rfl (ZlE _ _ _ _ _ _ _ h1 h2) (h:=xN (h:=Zb rfl (fun g4=>?_) (fun g4=>?_))))))))))
 try simp only [sQ,ne_eq] at g4
 refine Za (xA (h:=Zd (Zl ?_)))
 exact eR t1 ⟨Ze (by symm;rw [decide_eq_false_iff_not];rintro rfl;exact g4 rfl),rfl,rfl⟩
 try simp only [sQ,ne_eq] at g4
 refine wSk (Za (xA (h:=Zd ?_)))
 exact eR t1 ⟨Ze (by symm;rw [decide_eq_true_eq];cases a;cases b;simp_all),rfl,rfl⟩

theorem ZpM (q q':Option Addr) (cp cp':Nat) (xs ys:List DItem) (B:Kn) (ha:SlK B q cp 4 ZK xs) (hb:SlK B q' cp' 4 ZK ys):Z6 (pj J) 76 [.slice q xs.length cp,.slice q' ys.length cp'] B (.bool (decide (xs=ys))):=by
 refine cB 27 Tryz.func76 (h:=?_)
 have han:=ha.len
 have hbn:=hb.len
 refine Za (xA (h:=Zc (Za (xM (h:=xV Tryz.underlying32 (h:=xM (h:=xV Tryz.underlying32 (h:=ZaO (h:=Zb rfl (fun g1=>?_) (fun g1=>?_))))))))))
 try simp only [sQ,ne_eq] at g1
 refine Za (xA (h:=Zd (Zl ?_)))
 exact eR t1 ⟨Ze (Zgo g1),rfl,rfl⟩
 try simp only [sQ,ne_eq] at g1
 refine wSk (Zc (Za (xA (h:=Zi (Zw (α:=Nat) [0,1,10] (fun k=>[(5,.int .i64 k)]) [] (fun k=>[]) (fun k Bx=>Bx=B∧k≤xs.length∧xs.take k=ys.take k) (fun k=>xs.length - k) 0 t1 rfl (⟨rfl,Nat.zero_le _,by simp⟩) (fun k B1 hle1 hI=>?_))))))
 obtain ⟨rfl,hk,he⟩:=hI
 refine ZB [(0,_),(1,_),(5,_),(10,_)] [] t4 rfl (Zc (Za (xM (h:=xM (h:=xV Tryz.underlying32 (h:=ZE (h:=Zb rfl (fun g2=>?_) (fun g2=>?_))))))))
 try simp only [sQ,ne_eq] at g2
 refine wSk (Zc (Zi (Zc (Z2 (same _ _) mo kr ⟨rfl,rfl⟩ (fun _ _=>?_)))))
 refine aM 0 rfl (h:=aM 1 rfl (h:=?_))
 obtain ⟨x,hx⟩:=ZU (xs:=xs) (i:=k) om
 obtain ⟨bb3,oo3,rfl⟩:=ha.base hx
 obtain ⟨_,⟨qi4,ci4,rfl,hi4,hb4,hb4b⟩,hc4⟩:=ha.elem hx
 have hi4n:=hi4.len
 refine aIx 2 rfl Tryz.underlying32 Zbl (h:=aT 3 rfl (Zag fun D=>Zaj [_,_,_,_] rfl rfl Zeo rfl (Zmg hc4 0 rfl rfl) r4) (h:=aM 4 rfl (h:=aM 5 rfl (h:=?_))))
 obtain ⟨y,hy⟩:=ZU (xs:=ys) (i:=k) om
 obtain ⟨bb6,oo6,rfl⟩:=hb.base hy
 obtain ⟨_,⟨qi7,ci7,rfl,hi7,hb7,hb7b⟩,hc7⟩:=hb.elem hy
 have hi7n:=hi7.len
 refine aIx 6 rfl Tryz.underlying32 Zbl (h:=aT 7 rfl (Zag fun D=>Zaj [_,_,_,_] rfl rfl Zeo rfl (Zmg hc7 0 rfl rfl) r4) (h:=aT 8 rfl (Zag fun D=>Zaf rfl rfl Zxm rfl (ZrC _ _ _ _ x y _ hi4 hi7) r4) (h:=aN 9 rfl (h:=Zx kr kr ?_))))
 refine Zo (Zb rfl (fun g3=>?_) (fun g3=>?_))
 try simp only [sQ,ne_eq] at g3
 refine Za (xA (h:=Zd (Zy (Zl (ZO (Zy (Zl ?_)))))))
 exact eR t1 ⟨Ze (ZeR hx hy g3),rfl,rfl⟩
 try simp only [sQ,ne_eq] at g3
 refine ZT (ZM (Zo (Zf (xM (h:=xD (h:=xA (h:=?_)))))))
 exact ZA (k+1) [] so2 ⟨rfl,oz,ZbO hx hy g3 he⟩ t4 rfl
 try simp only [sQ,ne_eq] at g2
 refine ZC (ZV (ZG (Zu (Zo (Za (xA (h:=Zd ?_)))))))
 exact eR t1 ⟨Ze (eqT oz oz he),rfl,rfl⟩

theorem ZpK (q1:Option Addr) (cp1:Nat) (q2:Option Addr) (cp2:Nat) (a b:DQueue) (B:Kn) (h1:SlK B q1 cp1 4 ZK a.items) (h2:SlK B q2 cp2 4 ZK b.items):Z6 (pj J) 35 [.agg #[.int .i64 a.next,.slice q1 a.items.length cp1],.agg #[.int .i64 b.next,.slice q2 b.items.length cp2]] B (.bool (decide (a=b))):=by
 refine cB 16 Tryz.func35 (h:=?_)
 refine Za (xBx [_,_] (h:=fun b1=>xBx [_,_] (h:=fun b2=>xA (h:=tL2 (Zc (Za (xW ZfW (h:=x1 lk3 0 (h:=xW ZfW (h:=x1 lk3 1 (h:=ZaO (h:=Zb rfl (fun g1=>?_) (fun g1=>?_)))))))))))))
 try simp only [sQ,ne_eq] at g1
 refine Za (xA (h:=Zd (Zl ?_)))
 exact eR t1 ⟨Ze (by symm;rw [decide_eq_false_iff_not];rintro rfl;exact g1 rfl),rfl,rfl⟩
 try simp only [sQ,ne_eq] at g1
 refine wSk (Zc (Za (xW ZbD (h:=x1 Zia 0 (h:=xW ZbD (h:=x1 Zia 1 (h:=xR ZyM rfl (ZpM _ _ _ _ _ _ _ h1 h2) (h:=xN (h:=Zb rfl (fun g2=>?_) (fun g2=>?_))))))))))
 try simp only [sQ,ne_eq] at g2
 refine Za (xA (h:=Zd (Zl ?_)))
 exact eR t1 ⟨Ze (by symm;rw [decide_eq_false_iff_not];rintro rfl;exact g2 rfl),rfl,rfl⟩
 try simp only [sQ,ne_eq] at g2
 refine wSk (Za (xA (h:=Zd ?_)))
 exact eR t1 ⟨Ze (by symm;rw [decide_eq_true_eq];cases a;cases b;simp_all),rfl,rfl⟩

theorem ZtM (q1:Option Addr) (cp1:Nat) (q2:Option Addr) (cp2:Nat) (a b:DBox) (B:Kn) (h1:SlK B q1 cp1 3 Zam a.mail) (h2:SlK B q2 cp2 3 Zam b.mail):Z6 (pj J) 118 [.agg #[.int .i64 a.next,.slice q1 a.mail.length cp1],.agg #[.int .i64 b.next,.slice q2 b.mail.length cp2]] B (.bool (decide (a=b))):=by
 refine cB 16 Tryz.func118 (h:=?_)
 refine Za (xBx [_,_] (h:=fun b1=>xBx [_,_] (h:=fun b2=>xA (h:=tL2 (Zc (Za (xW ZfV (h:=x1 lk3 0 (h:=xW ZfV (h:=x1 lk3 1 (h:=ZaO (h:=Zb rfl (fun g1=>?_) (fun g1=>?_)))))))))))))
 try simp only [sQ,ne_eq] at g1
 refine Za (xA (h:=Zd (Zl ?_)))
 exact eR t1 ⟨Ze (by symm;rw [decide_eq_false_iff_not];rintro rfl;exact g1 rfl),rfl,rfl⟩
 try simp only [sQ,ne_eq] at g1
 refine wSk (Zc (Za (xW Zcc (h:=x1 ZkK 0 (h:=xW Zcc (h:=x1 ZkK 1 (h:=xR ZwS rfl (ZpL _ _ _ _ _ _ _ h1 h2) (h:=xN (h:=Zb rfl (fun g2=>?_) (fun g2=>?_))))))))))
 try simp only [sQ,ne_eq] at g2
 refine Za (xA (h:=Zd (Zl ?_)))
 exact eR t1 ⟨Ze (by symm;rw [decide_eq_false_iff_not];rintro rfl;exact g2 rfl),rfl,rfl⟩
 try simp only [sQ,ne_eq] at g2
 refine wSk (Za (xA (h:=Zd ?_)))
 exact eR t1 ⟨Ze (by symm;rw [decide_eq_true_eq];cases a;cases b;simp_all),rfl,rfl⟩

theorem ZnB (qa1 qb1:Option Addr) (ca1 cb1:Nat) (qa2 qb2:Option Addr) (ca2 cb2:Nat) (a b:DFolder) (B:Kn) (hg1:SlK B qa1 ca1 2 ZD a.grants) (hm1:SlK B qb1 cb1 3 Zam a.mail) (hg2:SlK B qa2 ca2 2 ZD b.grants) (hm2:SlK B qb2 cb2 3 Zam b.mail):Z6 (pj J) 75 [.agg #[str a.owner,str a.name,.slice qa1 a.grants.length ca1,.int .i64 a.next,.slice qb1 a.mail.length cb1],.agg #[str b.owner,str b.name,.slice qa2 b.grants.length ca2,.int .i64 b.next,.slice qb2 b.mail.length cb2]] B (.bool (decide (a=b))):=by
 refine cB 27 Tryz.func75 (h:=?_)
 refine Za (xBx [_,_,_,_,_] (h:=fun b1=>xBx [_,_,_,_,_] (h:=fun b2=>xA (h:=tL2 (Zc (Za (xW Zb5 (h:=x1 lk9 0 (h:=xW Zb5 (h:=x1 lk9 1 (h:=ZcD (h:=Zb rfl (fun g1=>?_) (fun g1=>?_)))))))))))))
 try simp only [sQ,ne_eq] at g1
 refine Za (xA (h:=Zd (Zl ?_)))
 exact eR t1 ⟨Ze (by symm;rw [decide_eq_false_iff_not];rintro rfl;exact g1 rfl),rfl,rfl⟩
 try simp only [sQ,ne_eq] at g1
 refine wSk (Zc (Za (xW ZdI (h:=x1 lk9 0 (h:=xW ZdI (h:=x1 lk9 1 (h:=ZcD (h:=Zb rfl (fun g2=>?_) (fun g2=>?_)))))))))
 try simp only [sQ,ne_eq] at g2
 refine Za (xA (h:=Zd (Zl ?_)))
 exact eR t1 ⟨Ze (by symm;rw [decide_eq_false_iff_not];rintro rfl;exact g2 rfl),rfl,rfl⟩
 try simp only [sQ,ne_eq] at g2
 refine wSk (Zc (Za (xW ZbB (h:=x1 Zms 0 (h:=xW ZbB (h:=x1 Zms 1 (h:=xR Zxo rfl (ZnA _ _ _ _ _ _ _ hg1 hg2) (h:=xN (h:=Zb rfl (fun g3=>?_) (fun g3=>?_))))))))))
 try simp only [sQ,ne_eq] at g3
 refine Za (xA (h:=Zd (Zl ?_)))
 exact eR t1 ⟨Ze (by symm;rw [decide_eq_false_iff_not];rintro rfl;exact g3 rfl),rfl,rfl⟩
 try simp only [sQ,ne_eq] at g3
 refine wSk (Zc (Za (xW Zda (h:=xL [_,_] Zmr 0 (h:=xW Zda (h:=xL [_,_] Zmr 1 (h:=xR Zxn rfl (ZtM _ _ _ _ (⟨a.next,a.mail⟩:DBox) (⟨b.next,b.mail⟩:DBox) _ hm1 hm2) (h:=xN (h:=Zb rfl (fun g4=>?_) (fun g4=>?_))))))))))
 try simp only [sQ,ne_eq] at g4
 refine Za (xA (h:=Zd (Zl ?_)))
 exact eR t1 ⟨Ze (by symm;rw [decide_eq_false_iff_not];rintro rfl;exact g4 rfl),rfl,rfl⟩
 try simp only [sQ,ne_eq] at g4
 refine wSk (Za (xA (h:=Zd ?_)))
 exact eR t1 ⟨Ze (by symm;rw [decide_eq_true_eq];cases a;cases b;simp_all),rfl,rfl⟩

theorem ZlF (q q':Option Addr) (cp cp':Nat) (xs ys:List DFolder) (B:Kn) (ha:SlK B q cp 5 Zs xs) (hb:SlK B q' cp' 5 Zs ys):Z6 (pj J) 34 [.slice q xs.length cp,.slice q' ys.length cp'] B (.bool (decide (xs=ys))):=by
 refine cB 27 Tryz.func34 (h:=?_)
 have han:=ha.len
 have hbn:=hb.len
 refine Za (xA (h:=Zc (Za (xM (h:=xV Tryz.underlying31 (h:=xM (h:=xV Tryz.underlying31 (h:=ZaO (h:=Zb rfl (fun g1=>?_) (fun g1=>?_))))))))))
 try simp only [sQ,ne_eq] at g1
 refine Za (xA (h:=Zd (Zl ?_)))
 exact eR t1 ⟨Ze (Zgo g1),rfl,rfl⟩
 try simp only [sQ,ne_eq] at g1
 refine wSk (Zc (Za (xA (h:=Zi (Zw (α:=Nat) [0,1,10] (fun k=>[(5,.int .i64 k)]) [] (fun k=>[]) (fun k Bx=>Bx=B∧k≤xs.length∧xs.take k=ys.take k) (fun k=>xs.length - k) 0 t1 rfl (⟨rfl,Nat.zero_le _,by simp⟩) (fun k B1 hle1 hI=>?_))))))
 obtain ⟨rfl,hk,he⟩:=hI
 refine ZB [(0,_),(1,_),(5,_),(10,_)] [] t4 rfl (Zc (Za (xM (h:=xM (h:=xV Tryz.underlying31 (h:=ZE (h:=Zb rfl (fun g2=>?_) (fun g2=>?_))))))))
 try simp only [sQ,ne_eq] at g2
 refine wSk (Zc (Zi (Zc (Z2 (same _ _) mo kr ⟨rfl,rfl⟩ (fun _ _=>?_)))))
 refine aM 0 rfl (h:=aM 1 rfl (h:=?_))
 obtain ⟨x,hx⟩:=ZU (xs:=xs) (i:=k) om
 obtain ⟨bb3,oo3,rfl⟩:=ha.base hx
 obtain ⟨_,⟨qg4,cg4,qm4,cm4,rfl,hg4,hm4,hb4,hb4b⟩,hc4⟩:=ha.elem hx
 have hg4n:=hg4.len
 have hm4n:=hm4.len
 have hm4s:=Zad hm4
 refine aIx 2 rfl Tryz.underlying31 Zbw (h:=aT 3 rfl (Zag fun D=>Zaj [_,_,_,_,_] rfl rfl ZhQ rfl (Zmg hc4 0 rfl rfl) r4) (h:=aM 4 rfl (h:=aM 5 rfl (h:=?_))))
 obtain ⟨y,hy⟩:=ZU (xs:=ys) (i:=k) om
 obtain ⟨bb6,oo6,rfl⟩:=hb.base hy
 obtain ⟨_,⟨qg7,cg7,qm7,cm7,rfl,hg7,hm7,hb7,hb7b⟩,hc7⟩:=hb.elem hy
 have hg7n:=hg7.len
 have hm7n:=hm7.len
 have hm7s:=Zad hm7
 refine aIx 6 rfl Tryz.underlying31 Zbw (h:=aT 7 rfl (Zag fun D=>Zaj [_,_,_,_,_] rfl rfl ZhQ rfl (Zmg hc7 0 rfl rfl) r4) (h:=aT 8 rfl (Zag fun D=>Zaf rfl rfl ZyN rfl (ZnB _ _ _ _ _ _ _ _ x y _ hg4 hm4 hg7 hm7) r4) (h:=aN 9 rfl (h:=Zx kr kr ?_))))
 refine Zo (Zb rfl (fun g3=>?_) (fun g3=>?_))
 try simp only [sQ,ne_eq] at g3
 refine Za (xA (h:=Zd (Zy (Zl (ZO (Zy (Zl ?_)))))))
 exact eR t1 ⟨Ze (ZeR hx hy g3),rfl,rfl⟩
 try simp only [sQ,ne_eq] at g3
 refine ZT (ZM (Zo (Zf (xM (h:=xD (h:=xA (h:=?_)))))))
 exact ZA (k+1) [] so2 ⟨rfl,oz,ZbO hx hy g3 he⟩ t4 rfl
 try simp only [sQ,ne_eq] at g2
 refine ZC (ZV (ZG (Zu (Zo (Za (xA (h:=Zd ?_)))))))
 exact eR t1 ⟨Ze (eqT oz oz he),rfl,rfl⟩

theorem ZgT (qa1 qb1 qc1:Option Addr) (ca1 cb1 cc1:Nat) (qa2 qb2 qc2:Option Addr) (ca2 cb2 cc2:Nat) (a b:DHost) (B:Kn) (hu1:SlK B qa1 ca1 3 Zr a.users) (hf1:SlK B qb1 cb1 5 Zs a.folders) (hi1:SlK B qc1 cc1 4 ZK a.queue.items) (hu2:SlK B qa2 ca2 3 Zr b.users) (hf2:SlK B qb2 cb2 5 Zs b.folders) (hi2:SlK B qc2 cc2 4 ZK b.queue.items):Z6 (pj J) 9 [.agg #[str a.domain,.slice qa1 a.users.length ca1,.slice qb1 a.folders.length cb1,.int .i64 a.queue.next,.slice qc1 a.queue.items.length cc1],.agg #[str b.domain,.slice qa2 b.users.length ca2,.slice qb2 b.folders.length cb2,.int .i64 b.queue.next,.slice qc2 b.queue.items.length cc2]] B (.bool (decide (a=b))):=by
 refine cB 28 Tryz.func9 (h:=?_)
 refine Za (xBx [_,_,_,_,_] (h:=fun b1=>xBx [_,_,_,_,_] (h:=fun b2=>xA (h:=tL2 (Zc (Za (xW Zhw (h:=x1 lk9 0 (h:=xW Zhw (h:=x1 lk9 1 (h:=ZcD (h:=Zb rfl (fun g1=>?_) (fun g1=>?_)))))))))))))
 try simp only [sQ,ne_eq] at g1
 refine Za (xA (h:=Zd (Zl ?_)))
 exact eR t1 ⟨Ze (by symm;rw [decide_eq_false_iff_not];rintro rfl;exact g1 rfl),rfl,rfl⟩
 try simp only [sQ,ne_eq] at g1
 refine wSk (Zc (Za (xW ZbC (h:=x1 Zib 0 (h:=xW ZbC (h:=x1 Zib 1 (h:=xR Zzf rfl (ZpJ _ _ _ _ _ _ _ hu1 hu2) (h:=xN (h:=Zb rfl (fun g2=>?_) (fun g2=>?_))))))))))
 try simp only [sQ,ne_eq] at g2
 refine Za (xA (h:=Zd (Zl ?_)))
 exact eR t1 ⟨Ze (by symm;rw [decide_eq_false_iff_not];rintro rfl;exact g2 rfl),rfl,rfl⟩
 try simp only [sQ,ne_eq] at g2
 refine wSk (Zc (Za (xW Zal (h:=x1 Zec 0 (h:=xW Zal (h:=x1 Zec 1 (h:=xR Zze rfl (ZlF _ _ _ _ _ _ _ hf1 hf2) (h:=xN (h:=Zb rfl (fun g3=>?_) (fun g3=>?_))))))))))
 try simp only [sQ,ne_eq] at g3
 refine Za (xA (h:=Zd (Zl ?_)))
 exact eR t1 ⟨Ze (by symm;rw [decide_eq_false_iff_not];rintro rfl;exact g3 rfl),rfl,rfl⟩
 try simp only [sQ,ne_eq] at g3
 refine wSk (Zc (Za (xW Zee (h:=xL [_,_] ZkL 0 (h:=xW Zee (h:=xL [_,_] ZkL 1 (h:=xR Zzd rfl (ZpK _ _ _ _ a.queue b.queue _ hi1 hi2) (h:=xN (h:=Zb rfl (fun g4=>?_) (fun g4=>?_))))))))))
 try simp only [sQ,ne_eq] at g4
 refine Za (xA (h:=Zd (Zl ?_)))
 exact eR t1 ⟨Ze (by symm;rw [decide_eq_false_iff_not];rintro rfl;exact g4 rfl),rfl,rfl⟩
 try simp only [sQ,ne_eq] at g4
 refine wSk (Za (xA (h:=Zd ?_)))
 exact eR t1 ⟨Ze (by symm;rw [decide_eq_true_eq];cases a;cases b;simp_all),rfl,rfl⟩

theorem ZnI (q:Option Addr) (cp:Nat) (x:DBox) (B:Kn) (hm:SlK B q cp 3 Zam x.mail):Zv (pj J) 188 [.agg #[.int .i64 x.next,.slice q x.mail.length cp]] B [] (fun v B' Ls=>B'=B∧∃l a c,Ls=[l]∧v = .agg #[.int .i64 x.next,.slice a x.mail.length c]∧ZP B l a c 164 3 Zam x.mail):=by
 refine cB 10 Tryz.func188 (h:=?_)
 have hxn:=hm.len
 refine Za (xBx [_,_] (h:=fun b1=>xAl [_,_] Zt5 (h:=fun b2=>tL2 (Zc (Z2 (keeps _ [0] _) mo kr ⟨Kn.le.refl _,Zbr.refl _ _⟩ (fun _ _=>?_))))))
 refine aW 0 rfl ZfV (h:=aT 1 rfl (ZR fun D B L hI=>Zn rfl rfl lk3 rfl (atL 0 (hI.2.1.trans rfl) rfl rfl) r4) (h:=aW 3 rfl Zcc (h:=aT 4 rfl (ZR fun D B L hI=>Zn rfl rfl ZkK rfl (atL 0 (hI.2.1.trans rfl) rfl rfl) r4) (h:=ZL 2 kr rfl kr (ZJ (parts:=[]) [] rfl rfl Tryz.underlying57 Zdu ZkM rfl rfl rfl rfl rfl (fun b3=>?_))))))
 refine ⟨⟨Kn.le.refl _,t1⟩,(ZL 5 kr rfl kr (Zbu (R:=Zam) 2 rfl (ZP.lit0 (R:=Zam)) rfl rfl rfl Zwf ZxO rfl rfl rfl hm.rows Zam.one rfl om (fun l4 p4 c4 hv4=>?_)))⟩
 refine ⟨⟨Kn.le.refl _,t1⟩,(aT 6 rfl (ZR fun D B L hI=>ZaB (parts:=[(0,_),(1,_)]) [_,_] [_,_] rfl rfl Zyo Zt5 rfl rfl rfl r4) (h:=Zak 7 kr rfl kr kr kr (Z0 [_,_] 1 [_,_] rfl rfl Zt3 rfl rfl rfl rfl rfl rfl rfl rfl ?_)))⟩
 refine Zo (tL3 (Zd ?_))
 exact eN [2] rfl ⟨⟨_,rfl,.inr ⟨[_,_],Zmr,ZcF 1 rfl rfl rfl,rfl⟩⟩,trivial⟩ ⟨rfl,_,_,_,rfl,rfl,hv4⟩

theorem Zjb (qa qb:Option Addr) (ca cb:Nat) (x:DFolder) (B:Kn) (hg:SlK B qa ca 2 ZD x.grants) (hm:SlK B qb cb 3 Zam x.mail):Zv (pj J) 146 [.agg #[str x.owner,str x.name,.slice qa x.grants.length ca,.int .i64 x.next,.slice qb x.mail.length cb]] B [] (fun v B' Ls=>B'=B∧∃l a c l' a' c',Ls=[l,l']∧v = .agg #[str x.owner,str x.name,.slice a x.grants.length c,.int .i64 x.next,.slice a' x.mail.length c']∧ZP B l a c 109 2 ZD x.grants∧ZP B l' a' c' 164 3 Zam x.mail):=by
 refine cB 13 Tryz.func146 (h:=?_)
 have hgn:=hg.len
 have hmn:=hm.len
 refine Za (xBx [_,_,_,_,_] (h:=fun b1=>xAl [_,_,_,_,_] Zf5 (h:=fun b2=>tL2 (Za (xBs [] [] Tryz.underlying54 ZaQ ZcI (h:=fun b3=>xW ZbB (h:=x1 Zms 0 (h:=Zk (Zbu (R:=ZD) 2 rfl (ZP.lit0 (R:=ZD)) rfl rfl rfl ZnC Zow rfl rfl rfl hg.rows ZD.one rfl om (fun l4 p4 c4 hv4=>?_))))))))))
 refine xW ZbB (h:=xS [_] 0 [_,_,_,_,_] ZsU (h:=tL3 (Za (xW Zda (h:=xL [_,_] Zmr 0 (h:=xC ZwF rfl (ZnI _ _ (⟨x.next,x.mail⟩:DBox) _ hm) (h:=?_)))))))
 rintro _ B5 _ hle5 ⟨rfl,l5,a5,c5,rfl,rfl,hs5⟩
 refine xW Zda (h:=xS [_,_] 0 [_,_,_,_,_] Zt3 (h:=tL4 (Za (xL [_,_,_,_,_] ZhQ 0 (h:=xS [_,_,_,_,_] 1 [_,_,_,_,_] Zbw (h:=tL4 (Zd ?_)))))))
 exact eN [2,3] rfl ⟨⟨_,rfl,.inr ⟨[_,_,_,_,_],ZhQ,ZcF 1 rfl rfl rfl,rfl⟩⟩,trivial⟩ ⟨rfl,_,_,_,_,_,_,rfl,rfl,hv4,hs5⟩

theorem Zab (k:Nat) (hk:k≤1000000000000000) (B:Kn):Z6 (pj J) 77 [.int .i64 k] B (str (ZQ k)):=by
 refine cB 20 Tryz.func77 (h:=?_)
 refine Za (xA (h:=Zc (Za (xM (h:=Zb7 (h:=Zb rfl (fun g1=>?_) (fun g1=>?_)))))))
 try simp only [sQ,ne_eq] at g1
 refine Za (xA (h:=Zd (Zl ?_)))
 exact eR t1 ⟨Zsg (by rw [ZQ,if_pos oz]),rfl,rfl⟩
 try simp only [sQ,ne_eq] at g1
 refine wSk (Za (xA (h:=Zc (Zi (Zw (α:=Nat × Str) [2,5] (fun g=>[(0,.int .i64 g.1),(3,str g.2)]) [] (fun g=>[]) (fun g Bx=>Bx=B∧g.1≤k∧digs k=digs g.1 ++ g.2) (fun g=>g.1) (k,[]) t2 rfl (⟨rfl,Nat.le_refl _,by simp⟩) (fun g B1 hle1 hI=>?_))))))
 obtain ⟨rfl,hl,hs⟩:=hI
 have hgl:=ZtQ hk hs
 refine ZB [(0,_),(2,_),(3,_),(5,_)] [] t4 rfl (Zc (Za (xM (h:=Zdx (h:=Zb rfl (fun g2=>?_) (fun g2=>?_))))))
 try simp only [sQ,ne_eq] at g2
 refine wSk (Zi (Za (xM (h:=Zk (Zqs (a:=(g.1:Int)) (b:=10) (r:=((g.1 % 10:Nat):Int)) rfl rfl rfl rfl (by decide) rfl ?_)))))
 refine xD (h:=Zk (Ziy rfl rfl Tryz.underlying3 Tryz.underlying5 rfl (by first | exact Zbd om om | rfl) ?_))
 refine xBs [(0,_)] [_] Tryz.underlying162 sz5 zo5 (h:=fun b2=>Zk (Zoc rfl rfl Tryz.underlying162 Tryz.underlying9 Tryz.underlying5 rfl (Zb6.box 0 rfl) (xM (h:=Zk (Zut (a:=dig g.1) (b:=g.2) rfl rfl rfl rfl (by simp [dig];omega) ?_)))))
 refine xA (h:=tL1 (Zf (xM (h:=Zk (Zn4 (a:=(g.1:Int)) (b:=10) (r:=((g.1 / 10:Nat):Int)) rfl rfl rfl rfl (by decide) (by rw [show Int.tdiv (g.1:Int) 10=((g.1 / 10:Nat):Int) from rfl];exact Zbd oz oz) ?_)))))
 refine xA (h:=ZM ?_)
 exact ZA (g.1 / 10,dig g.1 ++ g.2) [] so2 ⟨rfl,so,ZpU hs oz⟩ t4 rfl
 try simp only [sQ,ne_eq] at g2
 refine ZC (ZV (ZG (Zu (Zo (Za (xM (h:=Zk (Zut rfl rfl rfl rfl (by first | omega | (simp;omega)) ?_))))))))
 refine xA (h:=Zd ?_)
 exact eR t1 ⟨Zsg (by rw [ZQ,if_neg oz,hs,show g.1=0 from by omega,Zkt];rfl),rfl,rfl⟩

theorem Zli (q:Option Addr) (cp:Nat) (xs:List DMail) (l:Cells) (k:Nat) (hk:k≤900000000000000) (hn:xs.length≤2000000) (B:Kn) (hv:ZP B l q cp 164 3 Zam xs):Zv (pj J) 79 [.slice q xs.length cp,.int .i64 k] B [l] (fun v B' Ls=>B'=B∧∃l',Ls=[l']∧v = .int .i64 ((k+3*xs.length:Nat):Int)∧ZP B l' q cp 164 3 Zam (ZbM k xs.length)):=by
 refine cB 35 Tryz.func79 (h:=?_)
 have hvc:=hv.cap
 refine Za (xA (h:=Zc (Za (xA (h:=Zi (Zw (α:=Nat × Cells × List DMail) [4] (fun g=>[(0,.slice q xs.length cp),(1,.int .i64 ((k+3*g.1:Nat):Int)),(5,.int .i64 g.1)]) [0] (fun g=>[g.2.1]) (fun g Bx=>Bx=B∧g.1≤xs.length∧g.2.2.length=xs.length∧g.2.2.take g.1=ZbM k g.1∧ZP Bx g.2.1 q cp 164 3 Zam g.2.2) (fun g=>xs.length - g.1) (0,l,xs) t3 rfl (⟨rfl,Nat.zero_le _,rfl,rfl,hv⟩) (fun g B1 hle1 hI=>?_)))))))
 obtain ⟨rfl,hi,hle,ht,hw⟩:=hI
 refine ZB [(0,_),(1,_),(4,_),(5,_)] [_] t4 rfl (Zc (Za (xM (h:=xM (h:=xV Tryz.underlying57 (h:=ZE (h:=Zb rfl (fun g1=>?_) (fun g1=>?_))))))))
 try simp only [sQ,ne_eq] at g1
 refine wSk (Zc (Zi (Za (xM (h:=xM (h:=xM (h:=?_)))))))
 obtain ⟨z1,hz1⟩:=ZU (xs:=g.2.2) (i:=g.1) om
 obtain ⟨bb3,_,hp3,⟨rfl,hb3⟩,hw3,hc3⟩:=hw.row hz1
 refine xIp hp3 Tryz.underlying57 Zdu (h:=xW ZcC (h:=Zk (Zel (k:=g.1) (off:=0) (⟨((k+3*g.1:Nat):Int),z1.flags,z1.text⟩) [_] 0 hw hp3 hz1 rfl rfl sz3 rfl rfl rfl rfl rfl rfl (by rintro _ ⟨rfl,e1⟩;exact ⟨rfl,e1⟩) (fun l4 hv4=>?_))))
 refine tL1 (Za (xM (h:=xD (h:=xA (h:=Za (xM (h:=xM (h:=xM (h:=?_)))))))))
 obtain ⟨z2,hz2⟩:=ZU (xs:=(g.2.2.set g.1 (⟨((k+3*g.1:Nat):Int),z1.flags,z1.text⟩))) (i:=g.1) om
 obtain ⟨bb6,_,hp6,⟨rfl,hb6⟩,hw6,hc6⟩:=hv4.row hz2
 refine xIp hp6 Tryz.underlying57 Zdu (h:=xW Zfs (h:=Zk (Zel (k:=g.1) (off:=1) (⟨z2.uid,((k+3*g.1+1:Nat):Int),z2.text⟩) [_] 0 hv4 hp6 hz2 rfl rfl sz3 rfl rfl rfl rfl rfl rfl (by rintro _ ⟨rfl,e1⟩;exact ⟨rfl,e1⟩) (fun l7 hv7=>?_))))
 refine tL1 (Za (xM (h:=xD (h:=xA (h:=Za (xM (h:=xM (h:=xM (h:=xR Zjr rfl (Zab (((k+3*g.1)+1)+1) oz _) (h:=?_))))))))))
 obtain ⟨z3,hz3⟩:=ZU (xs:=((g.2.2.set g.1 (⟨((k+3*g.1:Nat):Int),z1.flags,z1.text⟩)).set g.1 (⟨z2.uid,((k+3*g.1+1:Nat):Int),z2.text⟩))) (i:=g.1) om
 obtain ⟨bb10,_,hp10,⟨rfl,hb10⟩,hw10,hc10⟩:=hv7.row hz3
 refine xIp hp10 Tryz.underlying57 Zdu (h:=xW Zd4 (h:=Zk (Zel (k:=g.1) (off:=2) (⟨z3.uid,z3.flags,ZQ (k+3*g.1+1+1)⟩) [_] 0 hv7 hp10 hz3 rfl rfl sz9 rfl rfl rfl rfl rfl rfl (by rintro _ ⟨rfl,e1⟩;exact ⟨rfl,show (ZQ (k+3*g.1+1+1)).length≤2000000 from Nat.le_trans (ZbZ (k:=k+3*g.1+1+1) oz) (by decide)⟩) (fun l11 hv11=>?_))))
 refine tL1 (Zf (xM (h:=xD (h:=xA (h:=ZM (Zo (Zf (xM (h:=xD (h:=xA (h:=?_)))))))))))
 exact ZA (g.1+1,l11,(((g.2.2.set g.1 (⟨((k+3*g.1:Nat):Int),z1.flags,z1.text⟩)).set g.1 (⟨z2.uid,((k+3*g.1+1:Nat):Int),z2.text⟩)).set g.1 (⟨z3.uid,z3.flags,ZQ (k+3*g.1+1+1)⟩))) [0] so2 ⟨rfl,so,by simp only [List.length_set];exact hle,Zj1 ht hz1 hz2 hz3,hv11⟩ t4 rfl
 try simp only [sQ,ne_eq] at g1
 have he:=Zmo ht oz
 have hgi:g.1=xs.length:=by omega
 rw [hgi] at he
 refine ZC (ZV (ZG (Zu (Zo (Za (xM (h:=xA (h:=Zd ?_))))))))
 exact Zdl .ret (.inl rfl) [_] [0] rfl ⟨rfl,trivial⟩ ⟨rfl,_,rfl,by rw [hgi];rfl,by rw [← he];exact hw⟩

theorem Zj5 (q:Option Addr) (cp:Nat) (xs:List DGrant) (l:Cells) (k:Nat) (hk:k≤900000000000000) (hn:xs.length≤2000000) (B:Kn) (hv:ZP B l q cp 109 2 ZD xs):Zv (pj J) 78 [.slice q xs.length cp,.int .i64 k] B [l] (fun v B' Ls=>B'=B∧∃l',Ls=[l']∧v = .int .i64 ((k+2*xs.length:Nat):Int)∧ZP B l' q cp 109 2 ZD (Zaw k xs.length)):=by
 refine cB 28 Tryz.func78 (h:=?_)
 have hvc:=hv.cap
 refine Za (xA (h:=Zc (Za (xA (h:=Zi (Zw (α:=Nat × Cells × List DGrant) [4] (fun g=>[(0,.slice q xs.length cp),(1,.int .i64 ((k+2*g.1:Nat):Int)),(5,.int .i64 g.1)]) [0] (fun g=>[g.2.1]) (fun g Bx=>Bx=B∧g.1≤xs.length∧g.2.2.length=xs.length∧g.2.2.take g.1=Zaw k g.1∧ZP Bx g.2.1 q cp 109 2 ZD g.2.2) (fun g=>xs.length - g.1) (0,l,xs) t3 rfl (⟨rfl,Nat.zero_le _,rfl,rfl,hv⟩) (fun g B1 hle1 hI=>?_)))))))
 obtain ⟨rfl,hi,hle,ht,hw⟩:=hI
 refine ZB [(0,_),(1,_),(4,_),(5,_)] [_] t4 rfl (Zc (Za (xM (h:=xM (h:=xV Tryz.underlying54 (h:=ZE (h:=Zb rfl (fun g1=>?_) (fun g1=>?_))))))))
 try simp only [sQ,ne_eq] at g1
 refine wSk (Zc (Zi (Za (xM (h:=xM (h:=xM (h:=xR Zjr rfl (Zab (k+2*g.1) oz _) (h:=?_))))))))
 obtain ⟨z1,hz1⟩:=ZU (xs:=g.2.2) (i:=g.1) om
 obtain ⟨bb4,_,hp4,⟨rfl,hb4⟩,hw4,hc4⟩:=hw.row hz1
 refine xIp hp4 Tryz.underlying54 ZaQ (h:=xW Za7 (h:=Zk (Zel (k:=g.1) (off:=0) (⟨ZQ (k+2*g.1),z1.rights⟩) [_] 0 hw hp4 hz1 rfl rfl sz9 rfl rfl rfl rfl rfl rfl (by rintro _ ⟨rfl,e1⟩;exact ⟨rfl,show (ZQ (k+2*g.1)).length≤2000000 from Nat.le_trans (ZbZ (k:=k+2*g.1) oz) (by decide)⟩) (fun l5 hv5=>?_))))
 refine tL1 (Za (xM (h:=xD (h:=xA (h:=Za (xM (h:=xM (h:=xM (h:=?_)))))))))
 obtain ⟨z2,hz2⟩:=ZU (xs:=(g.2.2.set g.1 (⟨ZQ (k+2*g.1),z1.rights⟩))) (i:=g.1) om
 obtain ⟨bb7,_,hp7,⟨rfl,hb7⟩,hw7,hc7⟩:=hv5.row hz2
 refine xIp hp7 Tryz.underlying54 ZaQ (h:=xW Zdb (h:=Zk (Zel (k:=g.1) (off:=1) (⟨z2.user,((k+2*g.1+1:Nat):Int)⟩) [_] 0 hv5 hp7 hz2 rfl rfl sz3 rfl rfl rfl rfl rfl rfl (by rintro _ ⟨rfl,e1⟩;exact ⟨rfl,e1⟩) (fun l8 hv8=>?_))))
 refine tL1 (Zf (xM (h:=xD (h:=xA (h:=ZM (Zo (Zf (xM (h:=xD (h:=xA (h:=?_)))))))))))
 exact ZA (g.1+1,l8,((g.2.2.set g.1 (⟨ZQ (k+2*g.1),z1.rights⟩)).set g.1 (⟨z2.user,((k+2*g.1+1:Nat):Int)⟩))) [0] so2 ⟨rfl,so,by simp only [List.length_set];exact hle,ZiP ht hz1 hz2,hv8⟩ t4 rfl
 try simp only [sQ,ne_eq] at g1
 have he:=Zmo ht oz
 have hgi:g.1=xs.length:=by omega
 rw [hgi] at he
 refine ZC (ZV (ZG (Zu (Zo (Za (xM (h:=xA (h:=Zd ?_))))))))
 exact Zdl .ret (.inl rfl) [_] [0] rfl ⟨rfl,trivial⟩ ⟨rfl,_,rfl,by rw [hgi];rfl,by rw [← he];exact hw⟩

theorem Zlg (q:Option Addr) (cp:Nat) (xs:List DUser) (l:Cells) (k:Nat) (hk:k≤900000000000000) (hn:xs.length≤2000000) (B:Kn) (hv:ZP B l q cp 97 3 Zr xs):Zv (pj J) 36 [.slice q xs.length cp,.int .i64 k] B [l] (fun v B' Ls=>B'=B∧∃l',Ls=[l']∧v = .int .i64 ((k+3*xs.length:Nat):Int)∧ZP B l' q cp 97 3 Zr (Zch k xs.length)):=by
 refine cB 36 Tryz.func36 (h:=?_)
 have hvc:=hv.cap
 refine Za (xA (h:=Zc (Za (xA (h:=Zi (Zw (α:=Nat × Cells × List DUser) [4] (fun g=>[(0,.slice q xs.length cp),(1,.int .i64 ((k+3*g.1:Nat):Int)),(5,.int .i64 g.1)]) [0] (fun g=>[g.2.1]) (fun g Bx=>Bx=B∧g.1≤xs.length∧g.2.2.length=xs.length∧g.2.2.take g.1=Zch k g.1∧ZP Bx g.2.1 q cp 97 3 Zr g.2.2) (fun g=>xs.length - g.1) (0,l,xs) t3 rfl (⟨rfl,Nat.zero_le _,rfl,rfl,hv⟩) (fun g B1 hle1 hI=>?_)))))))
 obtain ⟨rfl,hi,hle,ht,hw⟩:=hI
 refine ZB [(0,_),(1,_),(4,_),(5,_)] [_] t4 rfl (Zc (Za (xM (h:=xM (h:=xV Tryz.underlying30 (h:=ZE (h:=Zb rfl (fun g1=>?_) (fun g1=>?_))))))))
 try simp only [sQ,ne_eq] at g1
 refine wSk (Zc (Zi (Za (xM (h:=xM (h:=xM (h:=xR Zjr rfl (Zab (k+3*g.1) oz _) (h:=?_))))))))
 obtain ⟨z1,hz1⟩:=ZU (xs:=g.2.2) (i:=g.1) om
 obtain ⟨bb4,_,hp4,⟨rfl,hb4,hb4b⟩,hw4,hc4⟩:=hw.row hz1
 refine xIp hp4 Tryz.underlying30 Zek (h:=xW Zb4 (h:=Zk (Zel (k:=g.1) (off:=0) (⟨ZQ (k+3*g.1),z1.pass,z1.quota⟩) [_] 0 hw hp4 hz1 rfl rfl sz9 rfl rfl rfl rfl rfl rfl (by rintro _ ⟨rfl,e1,e2⟩;exact ⟨rfl,show (ZQ (k+3*g.1)).length≤2000000 from Nat.le_trans (ZbZ (k:=k+3*g.1) oz) (by decide),e2⟩) (fun l5 hv5=>?_))))
 refine tL1 (Za (xM (h:=xD (h:=xA (h:=Za (xM (h:=xM (h:=xM (h:=xR Zjr rfl (Zab ((k+3*g.1)+1) oz _) (h:=?_))))))))))
 obtain ⟨z2,hz2⟩:=ZU (xs:=(g.2.2.set g.1 (⟨ZQ (k+3*g.1),z1.pass,z1.quota⟩))) (i:=g.1) om
 obtain ⟨bb8,_,hp8,⟨rfl,hb8,hb8b⟩,hw8,hc8⟩:=hv5.row hz2
 refine xIp hp8 Tryz.underlying30 Zek (h:=xW Zhv (h:=Zk (Zel (k:=g.1) (off:=1) (⟨z2.name,ZQ (k+3*g.1+1),z2.quota⟩) [_] 0 hv5 hp8 hz2 rfl rfl sz9 rfl rfl rfl rfl rfl rfl (by rintro _ ⟨rfl,e1,e2⟩;exact ⟨rfl,e1,show (ZQ (k+3*g.1+1)).length≤2000000 from Nat.le_trans (ZbZ (k:=k+3*g.1+1) oz) (by decide)⟩) (fun l9 hv9=>?_))))
 refine tL1 (Za (xM (h:=xD (h:=xA (h:=Za (xM (h:=xM (h:=xM (h:=?_)))))))))
 obtain ⟨z3,hz3⟩:=ZU (xs:=((g.2.2.set g.1 (⟨ZQ (k+3*g.1),z1.pass,z1.quota⟩)).set g.1 (⟨z2.name,ZQ (k+3*g.1+1),z2.quota⟩))) (i:=g.1) om
 obtain ⟨bb11,_,hp11,⟨rfl,hb11,hb11b⟩,hw11,hc11⟩:=hv9.row hz3
 refine xIp hp11 Tryz.underlying30 Zek (h:=xW Ze5 (h:=Zk (Zel (k:=g.1) (off:=2) (⟨z3.name,z3.pass,((k+3*g.1+1+1:Nat):Int)⟩) [_] 0 hv9 hp11 hz3 rfl rfl sz3 rfl rfl rfl rfl rfl rfl (by rintro _ ⟨rfl,e1,e2⟩;exact ⟨rfl,e1,e2⟩) (fun l12 hv12=>?_))))
 refine tL1 (Zf (xM (h:=xD (h:=xA (h:=ZM (Zo (Zf (xM (h:=xD (h:=xA (h:=?_)))))))))))
 exact ZA (g.1+1,l12,(((g.2.2.set g.1 (⟨ZQ (k+3*g.1),z1.pass,z1.quota⟩)).set g.1 (⟨z2.name,ZQ (k+3*g.1+1),z2.quota⟩)).set g.1 (⟨z3.name,z3.pass,((k+3*g.1+1+1:Nat):Int)⟩))) [0] so2 ⟨rfl,so,by simp only [List.length_set];exact hle,Zj0 ht hz1 hz2 hz3,hv12⟩ t4 rfl
 try simp only [sQ,ne_eq] at g1
 have he:=Zmo ht oz
 have hgi:g.1=xs.length:=by omega
 rw [hgi] at he
 refine ZC (ZV (ZG (Zu (Zo (Za (xM (h:=xA (h:=Zd ?_))))))))
 exact Zdl .ret (.inl rfl) [_] [0] rfl ⟨rfl,trivial⟩ ⟨rfl,_,rfl,by rw [hgi];rfl,by rw [← he];exact hw⟩

theorem ZiS (q:Option Addr) (cp:Nat) (xs:List Str) (l:Cells) (k:Nat) (hk:k≤900000000000000) (hn:xs.length≤2000000) (B:Kn) (hv:ZP B l q cp 9 1 ZbU xs):Zv (pj J) 120 [.slice q xs.length cp,.int .i64 k] B [l] (fun v B' Ls=>B'=B∧∃l',Ls=[l']∧v = .int .i64 ((k+1*xs.length:Nat):Int)∧ZP B l' q cp 9 1 ZbU (Zc7 k xs.length)):=by
 refine cB 20 Tryz.func120 (h:=?_)
 have hvc:=hv.cap
 refine Za (xA (h:=Zc (Za (xA (h:=Zi (Zw (α:=Nat × Cells × List Str) [4] (fun g=>[(0,.slice q xs.length cp),(1,.int .i64 ((k+1*g.1:Nat):Int)),(5,.int .i64 g.1)]) [0] (fun g=>[g.2.1]) (fun g Bx=>Bx=B∧g.1≤xs.length∧g.2.2.length=xs.length∧g.2.2.take g.1=Zc7 k g.1∧ZP Bx g.2.1 q cp 9 1 ZbU g.2.2) (fun g=>xs.length - g.1) (0,l,xs) t3 rfl (⟨rfl,Nat.zero_le _,rfl,rfl,hv⟩) (fun g B1 hle1 hI=>?_)))))))
 obtain ⟨rfl,hi,hle,ht,hw⟩:=hI
 refine ZB [(0,_),(1,_),(4,_),(5,_)] [_] t4 rfl (Zc (Za (xM (h:=xM (h:=xV Tryz.underlying99 (h:=ZE (h:=Zb rfl (fun g1=>?_) (fun g1=>?_))))))))
 try simp only [sQ,ne_eq] at g1
 refine wSk (Zc (Zi (Za (xM (h:=xM (h:=xM (h:=xR Zjr rfl (Zab (k+1*g.1) oz _) (h:=?_))))))))
 obtain ⟨z1,hz1⟩:=ZU (xs:=g.2.2) (i:=g.1) om
 obtain ⟨bb4,_,hp4,⟨rfl,hb4⟩,hw4,hc4⟩:=hw.row hz1
 refine xIp hp4 Tryz.underlying99 sz9 (h:=Zk (Zel (k:=g.1) (off:=0) (ZQ (k+1*g.1)) [_] 0 hw hp4 hz1 rfl rfl sz9 rfl rfl rfl rfl rfl rfl (by rintro _ ⟨rfl,e1⟩;exact ⟨rfl,show (ZQ (k+1*g.1)).length≤2000000 from Nat.le_trans (ZbZ (k:=k+1*g.1) oz) (by decide)⟩) (fun l5 hv5=>?_)))
 refine tL1 (Zf (xM (h:=xD (h:=xA (h:=ZM (Zo (Zf (xM (h:=xD (h:=xA (h:=?_)))))))))))
 exact ZA (g.1+1,l5,(g.2.2.set g.1 (ZQ (k+1*g.1)))) [0] so2 ⟨rfl,so,by simp only [List.length_set];exact hle,Zlb ht hz1,hv5⟩ t4 rfl
 try simp only [sQ,ne_eq] at g1
 have he:=Zmo ht oz
 have hgi:g.1=xs.length:=by omega
 rw [hgi] at he
 refine ZC (ZV (ZG (Zu (Zo (Za (xM (h:=xA (h:=Zd ?_))))))))
 exact Zdl .ret (.inl rfl) [_] [0] rfl ⟨rfl,trivial⟩ ⟨rfl,_,rfl,by rw [hgi];rfl,by rw [← he];exact hw⟩

theorem ZiW (k:Nat) (hk:k<6) (B:Kn):Z6 (pj J) 130 [.int .i64 k] B (.int .i64 (Zca k)):=by
 refine cB 7 Tryz.func130 (h:=?_)
 refine Za (xA (h:=Za (xBs [(0,_),(1,_),(2,_),(3,_),(4,_),(5,_)] [_,_,_,_,_,_] Tryz.underlying207 sz3 zo3 (h:=fun b1=>?_))))
 have hvq:ZP B (Zar b1 (([1,2,4,8,16,32]:List Int).map fun x=>.int .i64 x) 3) (some ⟨b1,0,none⟩) 6 3 1 Zea ([1,2,4,8,16,32]:List Int):=ZP.ints
 refine xM (h:=?_)
 obtain ⟨e,he⟩:=ZU (xs:=([1,2,4,8,16,32]:List Int)) (i:=k) om
 obtain ⟨bb3,_,hp3,rfl,hw3,hc3⟩:=hvq.row he
 refine xIp hp3 Tryz.underlying207 sz3 (h:=Zk (Zn rfl rfl lk3 rfl (hc3 _ 0 rfl 0 _ rfl) (xA (h:=tL1 (Zd ?_)))))
 exact eR t1 ⟨ZF (ZqS he),rfl,rfl⟩

end Go.Proofs.YtgbaglnnkikkgaaGreatDoor
