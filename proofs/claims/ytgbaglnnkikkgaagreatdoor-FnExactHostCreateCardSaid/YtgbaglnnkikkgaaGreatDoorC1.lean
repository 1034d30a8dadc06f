/-
  WHAT THE FUNCTIONS THAT THE LAWS REACH COMPUTE: each function's contract, proved off its printed body (the text is written by program). No condition beyond those that each theorem states.
-/
import Derived.Test.YtgbaglnnkikkgaaGreatDoorC0
namespace Go.Proofs.YtgbaglnnkikkgaaGreatDoor
open Go Go.BL
set_option linter.unusedVariables false
set_option linter.unusedSimpArgs false
set_option maxRecDepth 4000
set_option maxHeartbeats 6400000
variable {J : JoinT}
theorem ZiX (q1 q2 q3:Option Addr) (c1 c2 c3:Nat) (x:DHost) (B:Kn) (hu:SlK B q1 c1 3 Zt x.users) (hf:SlK B q2 c2 5 Zn x.folders):Zaa (pj J) 56 [.agg #[str x.domain,.slice q1 x.users.length c1,.slice q2 x.folders.length c2,.int .i64 x.queue.next,.slice q3 x.queue.items.length c3]] B (.bool (ZbO x.users x.folders)):=by
 refine cB 60 Tryz.func56 (h:=?_)
 have hfn:=hf.len
 have hun:=hu.len
 refine Za (xBx [_,_,_,_,_] (h:=fun b1=>xA (h:=tL1 (Zc (Za (xA (h:=Zh (Zx (α:=Nat × Option DFolder) [0,1] (fun g=>[(3,.int .i64 g.1)]) [] (fun g=>[]) (fun g Bx=>Bx=B∧g.1≤x.folders.length∧Zcy x.users (x.folders.take g.1)=(true,g.2)∧Prev some none x.folders g.1 g.2) (fun g=>x.folders.length - g.1) (0,none) t1 rfl (⟨rfl,Nat.zero_le _,ZeQ,.zero⟩) (fun g B2 hle2 hI=>?_)))))))))
 obtain ⟨rfl,hk,hs,hp⟩:=hI
 refine ZC [(0,_),(1,_),(3,_)] [_] t3 rfl (Zc (Za (xM (h:=xW Z3 (h:=x1 ZdN 0 (h:=xV Tryz.underlying31 (h:=ZF (h:=Zb rfl (fun g1=>?_) (fun g1=>?_)))))))))
 try simp only [sQ,ne_eq] at g1
 refine wSk (Zc (Zh (Za (xW Z3 (h:=x1 ZdN 0 (h:=xM (h:=?_)))))))
 obtain ⟨m,hm⟩:=ZX (xs:=x.folders) (i:=g.1) om
 obtain ⟨bb4,oo4,rfl⟩:=hf.base hm
 obtain ⟨_,⟨qg5,cg5,qm5,cm5,rfl,hg5,hm5,hb5,hb5b⟩,hc5⟩:=hf.elem hm
 have hg5n:=hg5.len
 have hm5n:=hm5.len
 have hm5s:=Zau hm5
 refine xIx Tryz.underlying31 ZaW (h:=yL [_,_,_,_,_] ZfZ hc5 0 (h:=xAl [_,_,_,_,_] Zc4 (h:=fun b6=>xS [_,_,_,_,_] 1 [_,_,_,_,_] ZaW (h:=tL2 (Zc (Z2 (same _ _) mo kr ⟨rfl,rfl⟩ (fun _ _=>?_)))))))
 refine aW 0 rfl ZbB (h:=aT 1 rfl (Zal fun D=>Zp rfl rfl ZhV rfl (atL 0 rfl rfl rfl) r4) (h:=aW 2 rfl Zcg (h:=aT 3 rfl (Zal fun D=>Zp rfl rfl lk9 rfl (atL 1 rfl rfl rfl) r4) (h:=aT 4 rfl (Zal fun D=>Zae rfl rfl Ztt rfl (Zfi _ _ _ _ _ hu) r4) (h:=ZkF 5 rfl (h:=aM 6 rfl (h:=Zay (d:=23) rfl (fun g2=>?_) (fun g2=>?_))))))))
 try simp only [sQ,ne_eq] at g2
 refine aZ 7 rfl (h:=aZ 8 rfl (h:=aZ 9 rfl (h:=aZ 10 rfl (h:=aPT 11 rfl (h:=aM 12 rfl (h:=aZ 13 rfl (h:=aZ 14 rfl (h:=aZ 15 rfl (h:=aZ 16 rfl (h:=aPT 17 rfl (h:=aM 18 rfl (h:=aZ 19 rfl (h:=aZ 20 rfl (h:=aZ 21 rfl (h:=aZ 22 rfl (h:=aPT 23 rfl (h:=aM 24 rfl (h:=aZ 25 rfl (h:=aZ 26 rfl (h:=aZ 27 rfl (h:=aZ 28 rfl (h:=aZ 29 rfl (h:=aZ 30 rfl (h:=aZ 31 rfl (h:=aZ 32 rfl (h:=aZ 33 rfl (h:=aZ 34 rfl (h:=aZ 35 rfl (h:=aZ 36 rfl (h:=aZ 37 rfl (h:=aPT 38 rfl (h:=ZB kr kr ?_))))))))))))))))))))))))))))))))
 refine Zo (Zb (t:=true) rfl (fun _=>Za (xA (h:=Ze (Zy (Zk (ZN (Zy (Zk ?_)))))))) (fun h=>Bool.noConfusion h))
 exact eR t1 ⟨Zd (ZbN hm hs (by simp [Zbb,Zaj,DFolder.box,g1,g2];try omega)).symm,rfl,rfl⟩
 try simp only [sQ,ne_eq] at g2
 refine aW 7 rfl Zdh (h:=aT 8 rfl (Zal fun D=>Zp rfl rfl lk9 rfl (atL 1 rfl rfl rfl) r4) (h:=aT 9 rfl (Zal fun D=>Zae rfl rfl Zqw rfl (Zbx _ om2 _) r4) (h:=?_)))
 refine aN 10 rfl (h:=aPF 11 rfl (h:=aM 12 rfl (h:=Zay (d:=29) rfl (fun g3=>?_) (fun g3=>?_))))
 try simp only [sQ,ne_eq] at g3
 refine aZ 13 rfl (h:=aZ 14 rfl (h:=aZ 15 rfl (h:=aZ 16 rfl (h:=aPT 17 rfl (h:=aM 18 rfl (h:=aZ 19 rfl (h:=aZ 20 rfl (h:=aZ 21 rfl (h:=aZ 22 rfl (h:=aPT 23 rfl (h:=aM 24 rfl (h:=aZ 25 rfl (h:=aZ 26 rfl (h:=aZ 27 rfl (h:=aZ 28 rfl (h:=aZ 29 rfl (h:=aZ 30 rfl (h:=aZ 31 rfl (h:=aZ 32 rfl (h:=aZ 33 rfl (h:=aZ 34 rfl (h:=aZ 35 rfl (h:=aZ 36 rfl (h:=aZ 37 rfl (h:=aPT 38 rfl (h:=ZB kr kr ?_))))))))))))))))))))))))))
 refine Zo (Zb (t:=true) rfl (fun _=>Za (xA (h:=Ze (Zy (Zk (ZN (Zy (Zk ?_)))))))) (fun h=>Bool.noConfusion h))
 exact eR t1 ⟨Zd (ZbN hm hs (by simp [Zbb,Zaj,DFolder.box,g1,g2,g3];try omega)).symm,rfl,rfl⟩
 try simp only [sQ,ne_eq] at g3
 refine aW 13 rfl Zd9 (h:=aT 14 rfl (Zal fun D=>Zp rfl rfl Zqg rfl (atL 1 rfl rfl rfl) r4) (h:=aT 15 rfl (Zal fun D=>Zae rfl rfl Zwu rfl (ZmX _ _ _ _ hg5) r4) (h:=aN 16 rfl (h:=aPF 17 rfl (h:=aM 18 rfl (h:=Zay (d:=35) rfl (fun g4=>?_) (fun g4=>?_)))))))
 try simp only [sQ,ne_eq] at g4
 refine aZ 19 rfl (h:=aZ 20 rfl (h:=aZ 21 rfl (h:=aZ 22 rfl (h:=aPT 23 rfl (h:=aM 24 rfl (h:=aZ 25 rfl (h:=aZ 26 rfl (h:=aZ 27 rfl (h:=aZ 28 rfl (h:=aZ 29 rfl (h:=aZ 30 rfl (h:=aZ 31 rfl (h:=aZ 32 rfl (h:=aZ 33 rfl (h:=aZ 34 rfl (h:=aZ 35 rfl (h:=aZ 36 rfl (h:=aZ 37 rfl (h:=aPT 38 rfl (h:=ZB kr kr ?_))))))))))))))))))))
 refine Zo (Zb (t:=true) rfl (fun _=>Za (xA (h:=Ze (Zy (Zk (ZN (Zy (Zk ?_)))))))) (fun h=>Bool.noConfusion h))
 exact eR t1 ⟨Zd (ZbN hm hs (by simp [Zbb,Zaj,DFolder.box,g1,g2,g3,g4];try omega)).symm,rfl,rfl⟩
 try simp only [sQ,ne_eq] at g4
 refine aW 19 rfl ZcO (h:=aT 20 rfl (Zal fun D=>Z6 [_,_] rfl rfl Zk5 rfl (ZbX 1 rfl rfl rfl) r4) (h:=aT 21 rfl (Zal fun D=>Zae rfl rfl Zv6 rfl (ZmW _ _ (⟨m.next,m.mail⟩:DBox) _ hm5) r4) (h:=aN 22 rfl (h:=aPF 23 rfl (h:=aM 24 rfl (h:=Zay (d:=41) rfl (fun g5=>?_) (fun g5=>?_)))))))
 try simp only [sQ,ne_eq] at g5
 refine aZ 25 rfl (h:=aZ 26 rfl (h:=aZ 27 rfl (h:=aZ 28 rfl (h:=aZ 29 rfl (h:=aZ 30 rfl (h:=aZ 31 rfl (h:=aZ 32 rfl (h:=aZ 33 rfl (h:=aZ 34 rfl (h:=aZ 35 rfl (h:=aZ 36 rfl (h:=aZ 37 rfl (h:=aPT 38 rfl (h:=ZB kr kr ?_))))))))))))))
 refine Zo (Zb (t:=true) rfl (fun _=>Za (xA (h:=Ze (Zy (Zk (ZN (Zy (Zk ?_)))))))) (fun h=>Bool.noConfusion h))
 exact eR t1 ⟨Zd (ZbN hm hs (by simp [Zbb,Zaj,DFolder.box,g1,g2,g3,g4,g5];try omega)).symm,rfl,rfl⟩
 try simp only [sQ,ne_eq] at g5
 refine aM 25 rfl (h:=Zol 26 rfl (h:=aM 27 rfl (h:=Zay (d:=44) rfl (fun g6=>?_) (fun g6=>?_))))
 try simp only [sQ,ne_eq] at g6
 refine aW 28 rfl Z3 (h:=aT 29 rfl (Zal fun D=>Zp rfl rfl ZdN rfl (atL 0 rfl rfl rfl) r4) (h:=aM 30 rfl (h:=aU 31 rfl (h:=?_))))
 obtain ⟨y,hy⟩:=Ztp (xs:=x.folders) (i:=(↑g.1 - 1)) om om
 obtain ⟨_,⟨qg12,cg12,qm12,cm12,rfl,hg12,hm12,hb12,hb12b⟩,hc12⟩:=hf.elem hy
 have hg12n:=hg12.len
 have hm12n:=hm12.len
 have hm12s:=Zau hm12
 refine aIx 32 rfl Tryz.underlying31 ZaW (h:=?_)
 have hpe:=hp.at hy oz
 refine aT 33 rfl (Zal fun D=>Z6 [_,_,_,_,_] rfl rfl ZfZ rfl (ZjQ hc12 0 rfl rfl) r4) (h:=aT 34 rfl (Zal fun D=>Z6 [_,_,_,_,_] rfl rfl ZfZ rfl (ZbX 1 rfl rfl rfl) r4) (h:=aT 35 rfl (Zal fun D=>Zae rfl rfl ZvK rfl (ZiW y m _ _ _ _ _ _ _ _ _) r4) (h:=aN 36 rfl (h:=aPT 37 rfl (h:=aPF 38 rfl (h:=ZB kr kr ?_))))))
 refine Zo (Zb rfl (fun g7=>?_) (fun g7=>?_))
 try simp only [sQ,ne_eq] at g7
 refine Za (xA (h:=Ze (Zy (Zk (ZN (Zy (Zk ?_)))))))
 exact eR t1 ⟨Zd (ZbN hm hs (by simp [Zbb,Zaj,DFolder.box,g1,g2,g3,g4,g5,g6,g7,hpe];try omega)).symm,rfl,rfl⟩
 try simp only [sQ,ne_eq] at g7
 refine ZY (ZS (Zo (Zj (xM (h:=xD (h:=xA (h:=?_)))))))
 exact ZE (g.1+1,some m) [0] so2 ⟨rfl,oz,Zb9 hm hs (by rw [hpe];simp [Zbb,Zaj,DFolder.box,g3,g4,g5,g7];omega),.succ hm⟩ t3 rfl
 try simp only [sQ,ne_eq] at g6
 refine aZ 28 rfl (h:=aZ 29 rfl (h:=aZ 30 rfl (h:=aZ 31 rfl (h:=aZ 32 rfl (h:=aZ 33 rfl (h:=aZ 34 rfl (h:=aZ 35 rfl (h:=aZ 36 rfl (h:=aPF 37 rfl (h:=aPF 38 rfl (h:=ZB kr kr ?_)))))))))))
 refine Zo (Zb (t:=false) rfl (fun h=>Bool.noConfusion h) (fun _=>ZY (ZS (Zo (Zj (xM (h:=xD (h:=xA (h:=?_)))))))))
 exact ZE (g.1+1,some m) [0] so2 ⟨rfl,oz,Zb9 hm hs (by rw [hp.at0 oz];simp [Zbb,Zaj,DFolder.box,g3,g4,g5];omega),.succ hm⟩ t3 rfl
 try simp only [sQ,ne_eq] at g1
 refine ZD (ZW (ZG (Zs (Zo (Za (xW Z3 (h:=x1 ZdN 0 (h:=xV Tryz.underlying31 (h:=ZbT (h:=xA (h:=Ze ?_)))))))))))
 exact eR t1 ⟨Zd (by rw [Zh8 (ZdA hs oz),Bool.eq_iff_iff];simp;try omega),rfl,rfl⟩

theorem ZlA (q1 q2 q3:Option Addr) (c1 c2 c3:Nat) (x:DHost) (hd:x.domain.length≤2000000) (B:Kn) (hu:SlK B q1 c1 3 Zt x.users) (hf:SlK B q2 c2 5 Zn x.folders) (hi:SlK B q3 c3 4 ZI x.queue.items):Zaa (pj J) 17 [.agg #[str x.domain,.slice q1 x.users.length c1,.slice q2 x.folders.length c2,.int .i64 x.queue.next,.slice q3 x.queue.items.length c3]] B (.bool (Zah x)):=by
 refine cB 87 Tryz.func17 (h:=?_)
 have hfn:=hf.len
 have hun:=hu.len
 have hin:=hi.len
 refine Za (xBx [_,_,_,_,_] (h:=fun b1=>xA (h:=tL1 (Zc (Za (xW ZgK (h:=x1 lk9 0 (h:=xR ZwB rfl (ZiA _ om2 _) (h:=?_)))))))))
 refine xN (h:=xM (h:=Zv (d:=10) rfl (fun g1=>?_) (fun g1=>?_)))
 try simp only [sQ,ne_eq] at g1
 refine xP (h:=xP (h:=xP (h:=xP (h:=xT (h:=xM (h:=xP (h:=xP (h:=xP (h:=xP (h:=xT (h:=xM (h:=xP (h:=xP (h:=xP (h:=xT (h:=Zb (t:=true) rfl (fun _=>Za (xA (h:=Ze (Zk ?_)))) (fun h=>Bool.noConfusion h)))))))))))))))))
 exact eR t1 ⟨Zd (by simp [Zah,g1]),rfl,rfl⟩
 try simp only [sQ,ne_eq] at g1
 refine xW ZbB (h:=x1 ZhV 0 (h:=xR ZwA rfl (ZjO _ _ _ _ hu) (h:=xN (h:=xF (h:=xM (h:=Zv (d:=16) rfl (fun g2=>?_) (fun g2=>?_)))))))
 try simp only [sQ,ne_eq] at g2
 refine xP (h:=xP (h:=xP (h:=xP (h:=xT (h:=xM (h:=xP (h:=xP (h:=xP (h:=xT (h:=Zb (t:=true) rfl (fun _=>Za (xA (h:=Ze (Zk ?_)))) (fun h=>Bool.noConfusion h)))))))))))
 exact eR t1 ⟨Zd (by simp [Zah,g1,g2]),rfl,rfl⟩
 try simp only [sQ,ne_eq] at g2
 refine xW ZdL (h:=xL [_,_] Zjz 0 (h:=xR Zwz rfl (ZjP _ _ x.queue _ hi) (h:=xN (h:=xF (h:=xM (h:=Zv (d:=22) rfl (fun g3=>?_) (fun g3=>?_)))))))
 try simp only [sQ,ne_eq] at g3
 refine xP (h:=xP (h:=xP (h:=xT (h:=Zb (t:=true) rfl (fun _=>Za (xA (h:=Ze (Zk ?_)))) (fun h=>Bool.noConfusion h)))))
 exact eR t1 ⟨Zd (by simp [Zah,g1,g2,g3]),rfl,rfl⟩
 try simp only [sQ,ne_eq] at g3
 refine xL [_,_,_,_,_] Zcj 0 (h:=xR Zwy rfl (ZiX _ _ _ _ _ _ x _ hu hf) (h:=xN (h:=xF (h:=Zb rfl (fun g4=>?_) (fun g4=>?_)))))
 try simp only [sQ,ne_eq] at g4
 refine Za (xA (h:=Ze (Zk ?_)))
 exact eR t1 ⟨Zd (by simp [Zah,g1,g2,g3,g4]),rfl,rfl⟩
 try simp only [sQ,ne_eq] at g4
 refine wSk (Zc (Za (xA (h:=Zh (Zx (α:=Nat) [0,1,26] (fun k=>[(3,.int .i64 k)]) [] (fun k=>[]) (fun k Bx=>Bx=B∧k≤x.users.length∧∀z,z∈x.users.take k→ZaV x.folders z=true) (fun k=>x.users.length - k) 0 t1 rfl (⟨rfl,Nat.zero_le _,by simp⟩) (fun k B6 hle6 hI=>?_))))))
 obtain ⟨rfl,hk,ha⟩:=hI
 refine ZC [(0,_),(1,_),(3,_),(26,_)] [_] t4 rfl (Zc (Za (xM (h:=xW ZbB (h:=x1 ZhV 0 (h:=xV Tryz.underlying30 (h:=ZF (h:=Zb rfl (fun g5=>?_) (fun g5=>?_)))))))))
 try simp only [sQ,ne_eq] at g5
 refine wSk (Zc (Zh (Zc (Z2 (same _ _) mo kr ⟨rfl,rfl⟩ (fun _ _=>?_)))))
 refine aT 0 rfl (Zal fun D=>Z6 [_,_,_,_,_] rfl rfl Zcj rfl (ZbX 0 rfl rfl rfl) r4) (h:=aW 1 rfl ZbB (h:=aT 2 rfl (Zal fun D=>Zp rfl rfl ZhV rfl (atL 0 rfl rfl rfl) r4) (h:=aM 3 rfl (h:=?_))))
 obtain ⟨w,hw⟩:=ZX (xs:=x.users) (i:=k) om
 obtain ⟨bb8,oo8,rfl⟩:=hu.base hw
 obtain ⟨_,⟨rfl,hb9,hb9b⟩,hc9⟩:=hu.elem hw
 refine aIx 4 rfl Tryz.underlying30 ZdR (h:=aW 5 rfl ZbP (h:=aT 6 rfl (Zal fun D=>Zp rfl rfl lk9 rfl (hc9 _ 0 _ rfl) r4) (h:=aT 7 rfl (Zal fun D=>Zae rfl rfl ZvL rfl (ZiY _ _ _ _ _ _ x w.name [105,110,98,111,120] om2 om2 _ hf) r4) (h:=?_))))
 refine ZkF 8 rfl (h:=aM 9 rfl (h:=Zay (d:=43) rfl (fun g6=>?_) (fun g6=>?_)))
 try simp only [sQ,ne_eq] at g6
 refine aZ 10 rfl (h:=aZ 11 rfl (h:=aZ 12 rfl (h:=aZ 13 rfl (h:=aZ 14 rfl (h:=aZ 15 rfl (h:=aZ 16 rfl (h:=aZ 17 rfl (h:=aZ 18 rfl (h:=aZ 19 rfl (h:=aZ 20 rfl (h:=aZ 21 rfl (h:=aZ 22 rfl (h:=aZ 23 rfl (h:=aZ 24 rfl (h:=aPT 25 rfl (h:=ZB kr kr ?_))))))))))))))))
 refine Zo (Zb (t:=true) rfl (fun _=>Za (xA (h:=Ze (Zy (Zk (ZN (Zy (Zk ?_)))))))) (fun h=>Bool.noConfusion h))
 exact eR t1 ⟨Zd (ZgC hw (Ziu g6)).symm,rfl,rfl⟩
 try simp only [sQ,ne_eq] at g6
 refine aT 10 rfl (Zal fun D=>Z6 [_,_,_,_,_] rfl rfl Zcj rfl (ZbX 0 rfl rfl rfl) r4) (h:=aW 11 rfl ZbB (h:=aT 12 rfl (Zal fun D=>Zp rfl rfl ZhV rfl (atL 0 rfl rfl rfl) r4) (h:=aM 13 rfl (h:=aIx 14 rfl Tryz.underlying30 ZdR (h:=aW 15 rfl ZbP (h:=aT 16 rfl (Zal fun D=>Zp rfl rfl lk9 rfl (hc9 _ 0 _ rfl) r4) (h:=aT 17 rfl (Zal fun D=>Zae rfl rfl Zwx rfl (Znr _ _ _ _ _ _ x _ _ hf) r4) (h:=aW 18 rfl ZbB (h:=aT 19 rfl (Zal fun D=>Zp rfl rfl ZhV rfl (atL 0 rfl rfl rfl) r4) (h:=aM 20 rfl (h:=aIx 21 rfl Tryz.underlying30 ZdR (h:=aW 22 rfl ZeE (h:=aT 23 rfl (Zal fun D=>Zp rfl rfl lk3 rfl (hc9 _ 2 _ rfl) r4) (h:=Zol 24 rfl (h:=aPF 25 rfl (h:=ZB kr kr ?_))))))))))))))))
 refine Zo (Zb rfl (fun g7=>?_) (fun g7=>?_))
 try simp only [sQ,ne_eq] at g7
 refine Za (xA (h:=Ze (Zy (Zk (ZN (Zy (Zk ?_)))))))
 exact eR t1 ⟨Zd (ZgC hw (Zit g7)).symm,rfl,rfl⟩
 try simp only [sQ,ne_eq] at g7
 refine ZY (ZS (Zo (Zj (xM (h:=xD (h:=xA (h:=?_)))))))
 exact ZE (k+1) [0] so2 ⟨rfl,oz,ZaM hw ha (Zis g6 g7)⟩ t4 rfl
 try simp only [sQ,ne_eq] at g5
 refine ZD (ZW (ZG (Zs (Zo (Zc (Za (xA (h:=Zh (Zx (α:=Nat) [0,1,3,26,31] (fun j=>[(4,.int .i64 j)]) [] (fun j=>[]) (fun j Bx=>Bx=B6∧j≤x.queue.items.length∧∀z,z∈x.queue.items.take j→ZaH x.users z=true) (fun j=>x.queue.items.length - j) 0 t1 rfl (⟨rfl,Nat.zero_le _,by simp⟩) (fun j B12 hle12 hI=>?_))))))))))
 obtain ⟨rfl,hj,hb⟩:=hI
 refine ZC [(0,_),(1,_),(3,_),(4,_),(26,_),(31,_)] [_] t6 rfl (Zc (Za (xM (h:=xW ZdL (h:=xW Zbp (h:=x1 Zhm 0 (h:=xV Tryz.underlying32 (h:=ZF (h:=Zb rfl (fun g8=>?_) (fun g8=>?_))))))))))
 try simp only [sQ,ne_eq] at g8
 refine wSk (Zc (Zh (Za (xW ZdL (h:=xW Zbp (h:=x1 Zhm 0 (h:=xM (h:=?_))))))))
 obtain ⟨y,hy⟩:=ZX (xs:=x.queue.items) (i:=j) om
 obtain ⟨bb14,oo14,rfl⟩:=hi.base hy
 obtain ⟨_,⟨qi15,ci15,rfl,hi15,hb15,hb15b⟩,hc15⟩:=hi.elem hy
 have hi15n:=hi15.len
 refine xIx Tryz.underlying32 Zbd (h:=yL [_,_,_,_] Zd2 hc15 0 (h:=xAl [_,_,_,_] Zeu (h:=fun b16=>xS [_,_,_,_] 1 [_,_,_,_] Zbd (h:=tL2 (Za (xW ZbB (h:=x1 ZhV 0 (h:=xW ZdF (h:=x1 lk9 1 (h:=xR Ztt rfl (Zfi _ _ _ _ _ hu) (h:=ZF (h:=xM (h:=Zv (d:=80) rfl (fun g9=>?_) (fun g9=>?_))))))))))))))
 try simp only [sQ,ne_eq] at g9
 refine xP (h:=xP (h:=xP (h:=xP (h:=xP (h:=xT (h:=Zb (t:=true) rfl (fun _=>Za (xA (h:=Ze (Zy (Zk (ZN (Zy (Zk ?_)))))))) (fun h=>Bool.noConfusion h)))))))
 exact eR t1 ⟨Zd (ZgD hy (Zh1 g9)).symm,rfl,rfl⟩
 try simp only [sQ,ne_eq] at g9
 refine xL [_,_,_,_,_] Zcj 0 (h:=xW Zb5 (h:=x1 Zj6 1 (h:=xR Zww rfl (ZlM _ _ _ _ _ _ x _ _ y.left _ hu hi15) (h:=xN (h:=xF (h:=Zb rfl (fun ga=>?_) (fun ga=>?_)))))))
 try simp only [sQ,ne_eq] at ga
 refine Za (xA (h:=Ze (Zy (Zk (ZN (Zy (Zk ?_)))))))
 exact eR t1 ⟨Zd (ZgD hy (Zh0 ga)).symm,rfl,rfl⟩
 try simp only [sQ,ne_eq] at ga
 refine ZY (ZS (Zo (Zj (xM (h:=xD (h:=xA (h:=?_)))))))
 exact ZE (j+1) [0] so2 ⟨rfl,oz,ZaM hy hb (ZhZ g9 ga)⟩ t6 rfl
 try simp only [sQ,ne_eq] at g8
 refine ZD (ZW (ZG (Zs (Zo (Za (xA (h:=Ze ?_)))))))
 exact eR t1 ⟨Zd (ZlR g1 g2 g3 g4 (Zet (Zbc oz ha)) (Zet (Zbc oz hb))).symm,rfl,rfl⟩

theorem ZpT (q:Option Addr) (cp:Nat) (gs:List DGrant) (B:Kn) (hg:SlK B q cp 2 ZZ gs):ZA (pj J) 72 [.slice q gs.length cp] B [] (ZkG gs B):=by
 refine cB 46 Tryz.func72 (h:=?_)
 have hgn:=hg.len
 refine Za (xA (h:=xA (h:=Zc (Za (xM (h:=xV Tryz.underlying54 (h:=ZdM (h:=Zb rfl (fun g0=>?_) (fun g0=>?_)))))))))
 try simp only [sQ,ne_eq] at g0
 refine Za (xA (h:=xA (h:=Ze (Zk ?_))))
 exact ZgO .ret (.inl rfl) [_,_] t2 (by simp [Zey];omega)
 try simp only [sQ,ne_eq] at g0
 refine wSk (Za (Zq (Zmw rfl rfl (fun b1 l1 hl1=>xA (h:=tL1 (Za (xA (h:=Zc (Za (xM (h:=xV Tryz.underlying54 (h:=xM (h:=Zh (Zx (α:=Nat × Str × Cells) [0,4,10,12,13] (fun g=>[(5,str g.2.1),(14,.int .i64 g.1)]) [0] (fun g=>[g.2.2]) (fun g Bx=>Bx=B∧g.1≤gs.length∧ZcN (gs.take g.1)=(true,g.2.1)∧g.2.1.length≤2000000∧ZrZ g.2.2 b1 (Zqh (gs.take g.1))) (fun g=>gs.length - g.1) (0,[],_) t2 rfl (⟨rfl,Nat.zero_le _,ZeQ,by simp,hl1⟩) (fun g B2 hle2 hI=>?_)))))))))))))))
 obtain ⟨rfl,hk,hs,hnm,hml⟩:=hI
 refine ZC [(0,_),(4,_),(5,_),(10,_),(12,_),(13,_),(14,_)] [_] t7 rfl (Za (ZF (h:=Zc (Zb rfl (fun g1=>?_) (fun g1=>?_)))))
 try simp only [sQ,ne_eq] at g1
 refine wSk (Zc (Zh (Za ?_)))
 obtain ⟨m,hm⟩:=ZX (xs:=gs) (i:=g.1) om
 obtain ⟨bb4,oo4,rfl⟩:=hg.base hm
 obtain ⟨_,⟨rfl,hb5⟩,hc5⟩:=hg.elem hm
 refine xIx Tryz.underlying54 Zdu (h:=yL [_,_] Znn hc5 0 (h:=xAl [_,_] Zij (h:=fun b6=>xS [_,_] 1 [_,_] Zdu (h:=tL2 (Zc (Za (xW Zco (h:=x1 lk9 1 (h:=xR ZrM rfl (Zb4 _ om2 _) (h:=?_))))))))))
 refine xN (h:=xM (h:=Zv (d:=22) rfl (fun g2=>?_) (fun g2=>?_)))
 try simp only [sQ,ne_eq] at g2
 refine xP (h:=xP (h:=xP (h:=xP (h:=xT (h:=Zb (t:=true) rfl (fun _=>Za (xA (h:=xA (h:=Ze (Zk (Zy (Zk (ZN (Zy (Zk ?_)))))))))) (fun h=>Bool.noConfusion h))))))
 exact ZgO .ret (.inl rfl) [_,_] t2 (ZcS hm hs (by rw [Zcq,ZaP g.2.1 m.user];simp [g2];try omega))
 try simp only [sQ,ne_eq] at g2
 refine xW Zco (h:=x1 lk9 1 (h:=xM (h:=Zq (Zp4 rfl rfl rfl rfl (xF (h:=Zb rfl (fun g3=>?_) (fun g3=>?_)))))))
 try simp only [sQ,ne_eq] at g3
 refine Za (xA (h:=xA (h:=Ze (Zk (Zy (Zk (ZN (Zy (Zk ?_)))))))))
 exact ZgO .ret (.inl rfl) [_,_] t2 (ZcS hm hs (by rw [Zcq,ZaP g.2.1 m.user];simp [g3];try omega))
 try simp only [sQ,ne_eq] at g3
 refine wSk (Zc (Za (xW ZdE (h:=x1 lk3 1 (h:=ZF (h:=xM (h:=Zv (d:=31) rfl (fun g4=>?_) (fun g4=>?_))))))))
 try simp only [sQ,ne_eq] at g4
 refine xP (h:=xP (h:=xP (h:=xP (h:=xT (h:=Zb (t:=true) rfl (fun _=>Za (xA (h:=xA (h:=Ze (Zk (Zy (Zk (ZN (Zy (Zk ?_)))))))))) (fun h=>Bool.noConfusion h))))))
 exact ZgO .ret (.inl rfl) [_,_] t2 (ZcS hm hs (by rw [Zcq,ZaP g.2.1 m.user];simp [g4];try omega))
 try simp only [sQ,ne_eq] at g4
 refine xW ZdE (h:=x1 lk3 1 (h:=xR ZwR rfl (ZoS _ _) (h:=xN (h:=xF (h:=Zb rfl (fun g5=>?_) (fun g5=>?_))))))
 try simp only [sQ,ne_eq] at g5
 refine Za (xA (h:=xA (h:=Ze (Zk (Zy (Zk (ZN (Zy (Zk ?_)))))))))
 exact ZgO .ret (.inl rfl) [_,_] t2 (ZcS hm hs (Bool.eq_false_iff.2 fun hc=>by simp only [Zcq,Bool.and_eq_true,decide_eq_true_eq] at hc;simp only [Bool.and_eq_false_iff,decide_eq_false_iff_not] at g5;omega))
 try simp only [sQ,ne_eq] at g5
 refine wSk (Za (xM (h:=xW Zco (h:=x1 lk9 1 (h:=xW ZdE (h:=x1 lk3 1 (h:=Zq (ZjB (k:=m.user) (v:=m.rights) 0 rfl hml rfl rfl Tryz.underlying117 Tryz.underlying9 rfl rfl rfl (fun l9 hl9=>tL2 (Zj (xW Zco (h:=x1 lk9 1 (h:=xA (h:=ZS (Zo (Zj (xD (h:=xM (h:=?_)))))))))))))))))))
 exact ZE (g.1+1,m.user,l9) [0] so2 ⟨rfl,so,Zb9 hm hs (by rw [Zcq,ZaP g.2.1 m.user,g2,g3];simp at g5 ⊢;omega),oy,by rw [← Zri hm hs (by rw [ZaP g.2.1 m.user,g3];rfl)];exact hl9⟩ t7 rfl
 try simp only [sQ,ne_eq] at g1
 refine ZD (ZW (ZG (Zs (Zo (Za (xM (h:=xA (h:=xA (h:=Ze ?_)))))))))
 exact ZrK .ret (.inl rfl) [_,_] rfl t2 (by rw [Zjt (ZdA hs oz)];simp;omega) (by have e:=hml;rw [List.take_of_length_le oz] at e;exact e)

theorem Zny (q:Option Addr) (cp:Nat) (gs:List DGrant) (B:Kn) (hg:SlK B q cp 2 ZZ gs):Zaa (pj J) 141 [.slice q gs.length cp] B (.bool (Zey gs)):=by
 refine cB 11 Tryz.func141 (h:=?_)
 refine Za (xA (h:=Za (xM (h:=xC Zwn rfl (ZpT _ _ _ _ hg) (h:=?_)))))
 rintro _ B1 _ hle1 ⟨m1,l1,rfl,rfl,rfl,hl1⟩
 refine xM (h:=xE (h:=xE (h:=xA (h:=xA (h:=tL1 (Za (xM (h:=xA (h:=Ze ?_)))))))))
 exact eR t1 ⟨rfl,rfl,rfl⟩

theorem Zta (a b:Str) (B:Kn):Zaa (pj J) 123 [str a,str b] B (.int .i64 (Lib.compareBytes a b)):=by
 refine cB 8 Tryz.func123 (h:=?_)
 refine Za (xA (h:=Za (xM (h:=xM (h:=Zq (ZtI (fn:=Tryz.f157) rfl rfl Tryz.func157 rfl rfl ZsW ZsX rfl rfl (xA (h:=Ze ?_))))))))
 exact eR t1 ⟨rfl,rfl,rfl⟩

theorem Zqx (a b:Str) (B:Kn):Zaa (pj J) 88 [str a,str b] B (.int .i64 (Lib.compareBytes a b)):=by
 refine cB 8 Tryz.func88 (h:=?_)
 refine Za (xA (h:=Za (xM (h:=xM (h:=xR Zu2 rfl (Zta a b _) (h:=xA (h:=Ze ?_)))))))
 exact eR t1 ⟨rfl,rfl,rfl⟩

theorem ZgI (f:DFolder) (qa qb:Option Addr) (ca cb:Nat) (ow nm:Str) (B:Kn):Zaa (pj J) 47 [.agg #[str f.owner,str f.name,.slice qa f.grants.length ca,.int .i64 f.next,.slice qb f.mail.length cb],str ow,str nm] B (.int .i64 (Zqy f ow nm)):=by
 refine cB 19 Tryz.func47 (h:=?_)
 refine Za (xBx [_,_,_,_,_] (h:=fun b1=>xA (h:=tL1 (Zc (Za (xW Zcg (h:=x1 lk9 0 (h:=xM (h:=xR ZvG rfl (Zqx f.owner ow _) (h:=xA (h:=Za (xM (h:=ZaS (h:=Zb rfl (fun g1=>?_) (fun g1=>?_)))))))))))))))
 try simp only [sQ,ne_eq] at g1
 refine Za (xM (h:=xA (h:=Ze (Zk ?_))))
 exact eR t1 ⟨ZJ (by rw [Zqy,if_pos g1]),rfl,rfl⟩
 try simp only [sQ,ne_eq] at g1
 refine wSk (Za (xW Zdh (h:=x1 lk9 0 (h:=xM (h:=xR ZvG rfl (Zqx f.name nm _) (h:=xA (h:=Ze ?_)))))))
 exact eR t1 ⟨ZJ (by rw [Zqy,if_neg (fun h=>h g1)]),rfl,rfl⟩

theorem Zsq (b o:Nat) (q1 q2 q3:Option Addr) (c1 c2 c3:Nat) (x:DHost) (u:Str) (B:Kn) (hh:ZaB B b o [str x.domain,.slice q1 x.users.length c1,.slice q2 x.folders.length c2,.int .i64 x.queue.next,.slice q3 x.queue.items.length c3]) (hf:SlK B q2 c2 5 Zn x.folders):Zaa (pj J) 187 [ptr ⟨b,o,none⟩,str u] B (.int .i64 (ZeN x.folders u)):=by
 refine cB 28 Tryz.func187 (h:=?_)
 have hfn:=hf.len
 refine Za (xA (h:=Za (xA (h:=Zc (Za (xM (h:=xNc (h:=xW Z3 (h:=Zq (Zp rfl rfl ZdN rfl (hh _ 2 _ rfl) (xV Tryz.underlying31 (h:=xM (h:=Zh (Zx (α:=Nat × Int) [0,1,4,11,12] (fun g=>[(5,.int .i64 g.2),(13,.int .i64 g.1)]) [] (fun g=>[]) (fun g Bx=>Bx=B∧g.1≤x.folders.length∧g.2=ZeN (x.folders.take g.1) u∧-1*g.1≤g.2∧g.2≤g.1*200) (fun g=>x.folders.length - g.1) (0,0) t2 rfl (⟨rfl,Nat.zero_le _,by simp [ZeN],by simp,by simp⟩) (fun g B1 hle1 hI=>?_)))))))))))))))
 obtain ⟨rfl,hk,hs,hl0,hl1⟩:=hI
 refine ZC [(0,_),(1,_),(4,_),(5,_),(11,_),(12,_),(13,_)] [] t7 rfl (Za (ZF (h:=Zc (Zb rfl (fun g1=>?_) (fun g1=>?_)))))
 try simp only [sQ,ne_eq] at g1
 refine wSk (Zc (Zh (Za ?_)))
 obtain ⟨m,hm⟩:=ZX (xs:=x.folders) (i:=g.1) om
 obtain ⟨bb3,oo3,rfl⟩:=hf.base hm
 obtain ⟨_,⟨qg4,cg4,qm4,cm4,rfl,hg4,hm4,hb4,hb4b⟩,hc4⟩:=hf.elem hm
 have hg4n:=hg4.len
 have hm4n:=hm4.len
 have hm4s:=Zau hm4
 refine xIx Tryz.underlying31 ZaW (h:=yL [_,_,_,_,_] ZfZ hc4 0 (h:=xAl [_,_,_,_,_] Zc4 (h:=fun b5=>xS [_,_,_,_,_] 0 [_,_,_,_,_] ZaW (h:=tL1 (Za (xW Zcg (h:=x1 lk9 0 (h:=xM (h:=ZdS (h:=Zb rfl (fun g2=>?_) (fun g2=>?_)))))))))))
 try simp only [sQ,ne_eq] at g2
 have hbs:=Zhy (⟨m.next,m.mail⟩:DBox)
 refine Zj (xM (h:=xW ZcO (h:=xL [_,_] Zk5 0 (h:=xR Zuk rfl (Zof _ _ (⟨m.next,m.mail⟩:DBox) _ hm4) (h:=xD (h:=xA (h:=ZS (Zo (Zj (xD (h:=xM (h:=?_))))))))))))
 exact ZE (g.1+1,g.2+Zc7 ⟨m.next,m.mail⟩) [] so2 ⟨rfl,so,by rw [Zha hm,← hs,if_pos g2],so,so⟩ t7 rfl
 try simp only [sQ,ne_eq] at g2
 refine ZY (ZS (Zo (Zj (xD (h:=xM (h:=?_))))))
 exact ZE (g.1+1,g.2) [] so2 ⟨rfl,so,by rw [Zha hm,← hs,if_neg g2,Int.add_zero],so,so⟩ t7 rfl
 try simp only [sQ,ne_eq] at g1
 refine ZD (ZW (ZG (Zs (Zo (Za (xM (h:=xA (h:=Ze ?_))))))))
 exact eR t1 ⟨ZJ (by rw [← ZmC hs oz]),rfl,rfl⟩

theorem ZnU (b o:Nat) (q1 q2 q3:Option Addr) (c1 c2 c3:Nat) (x:DHost) (u:Str) (more:Int) (hn:u.length≤2000000) (hm0:0≤more) (hm1:more≤2000000) (B:Kn) (hh:ZaB B b o [str x.domain,.slice q1 x.users.length c1,.slice q2 x.folders.length c2,.int .i64 x.queue.next,.slice q3 x.queue.items.length c3]) (hu:SlK B q1 c1 3 Zt x.users) (hf:SlK B q2 c2 5 Zn x.folders):Zaa (pj J) 145 [ptr ⟨b,o,none⟩,str u,.int .i64 more] B (.bool (ZdH x u more)):=by
 refine cB 30 Tryz.func145 (h:=?_)
 have hfn:=hf.len
 have hub:=ZoC x.folders u
 refine Za (xA (h:=Za (xM (h:=xNc (h:=xW ZbB (h:=Zq (Zp rfl rfl ZhV rfl (hh _ 1 _ rfl) (xM (h:=xR ZvH rfl (Zgn _ _ _ u om2 _ hu) (h:=?_))))))))))
 refine xM (h:=xE (h:=xE (h:=xAl [_,_,_] ZhB (h:=fun b2=>xS [_,_,_] 0 [_,_,_] ZdR (h:=xA (h:=tL1 (Zc (Z2 (same _ _) mo kr ⟨rfl,rfl⟩ (fun _ _=>?_)))))))))
 refine aM 0 rfl (h:=aN 1 rfl (h:=aM 2 rfl (h:=Zay (d:=20) rfl (fun g1=>?_) (fun g1=>?_))))
 refine aZ 3 rfl (h:=aZ 4 rfl (h:=aZ 5 rfl (h:=aZ 6 rfl (h:=aZ 7 rfl (h:=aZ 8 rfl (h:=aZ 9 rfl (h:=aZ 10 rfl (h:=aPT 11 rfl (h:=aA 12 rfl (h:=ZB kr kr ?_))))))))))
 refine Zo (Ze ?_)
 exact eR t1 ⟨Zd (by rw [ZdH,g1];rfl),rfl,rfl⟩
 refine aM 3 rfl (h:=aM 4 rfl (h:=aT 5 rfl (Zal fun D=>Zae rfl rfl Zut rfl (Zsq _ _ _ _ _ _ _ _ x u _ hh hf) r4) (h:=aM 6 rfl (h:=aD 7 rfl (h:=aW 8 rfl ZeE (h:=aT 9 rfl (Zal fun D=>Zp rfl rfl lk3 rfl (atL 0 rfl rfl rfl) r4) (h:=Zol 10 rfl (h:=aPF 11 rfl (h:=aA 12 rfl (h:=ZB kr kr ?_))))))))))
 refine Zo (Ze ?_)
 exact eR t1 ⟨Zd (by rw [ZdH,g1];rfl),rfl,rfl⟩

theorem Zlq (b o:Nat) (q1 q2 q3:Option Addr) (c1 c2 c3:Nat) (x:DHost) (B:Kn) (hh:ZaB B b o [str x.domain,.slice q1 x.users.length c1,.slice q2 x.folders.length c2,.int .i64 x.queue.next,.slice q3 x.queue.items.length c3]) (hu:SlK B q1 c1 3 Zt x.users) (hf:SlK B q2 c2 5 Zn x.folders):Zaa (pj J) 107 [ptr ⟨b,o,none⟩] B (.bool (Zgm x)):=by
 refine cB 26 Tryz.func107 (h:=?_)
 have hfn:=hf.len
 have hun:=hu.len
 refine Za (xA (h:=Zc (Za (xM (h:=xNc (h:=xW ZbB (h:=Zq (Zp rfl rfl ZhV rfl (hh _ 1 _ rfl) (xV Tryz.underlying30 (h:=xM (h:=Zh (Zx (α:=Nat) [0,8,9] (fun k=>[(10,.int .i64 k)]) [] (fun k=>[]) (fun k Bx=>Bx=B∧k≤x.users.length∧∀z,z∈x.users.take k→Zb8 x z=true) (fun k=>x.users.length - k) 0 t1 rfl (⟨rfl,Nat.zero_le _,by simp⟩) (fun k B1 hle1 hI=>?_)))))))))))))
 obtain ⟨rfl,hk,ha⟩:=hI
 refine ZC [(0,_),(8,_),(9,_),(10,_)] [] t4 rfl (Za (ZF (h:=Zc (Zb rfl (fun g1=>?_) (fun g1=>?_)))))
 try simp only [sQ,ne_eq] at g1
 refine wSk (Zc (Zh (Za ?_)))
 obtain ⟨w,hw⟩:=ZX (xs:=x.users) (i:=k) om
 obtain ⟨bb3,oo3,rfl⟩:=hu.base hw
 obtain ⟨_,⟨rfl,hb4,hb4b⟩,hc4⟩:=hu.elem hw
 refine xIx Tryz.underlying30 ZdR (h:=yL [_,_,_] Zjx hc4 0 (h:=xAl [_,_,_] ZhB (h:=fun b5=>xS [_,_,_] 0 [_,_,_] ZdR (h:=tL1 (Za (xM (h:=xW ZbP (h:=x1 lk9 0 (h:=xR ZvJ rfl (Zqv _ _ _ _ _ _ _ _ x w.name [105,110,98,111,120] om2 om2 _ hh hf) (h:=?_))))))))))
 refine ZF (h:=xM (h:=Zv (d:=19) rfl (fun g2=>?_) (fun g2=>?_)))
 try simp only [sQ,ne_eq] at g2
 refine xP (h:=xP (h:=xP (h:=xP (h:=xT (h:=Zb (t:=true) rfl (fun _=>Za (xA (h:=Ze (Zy (Zk (ZN (Zy (Zk ?_)))))))) (fun h=>Bool.noConfusion h))))))
 exact eR t1 ⟨Zd (Zc3 hw (Zix g2)).symm,rfl,rfl⟩
 try simp only [sQ,ne_eq] at g2
 refine xM (h:=xW ZbP (h:=x1 lk9 0 (h:=xR ZuL rfl (ZnU _ _ _ _ _ _ _ _ x w.name 0 om2 om2 om2 _ hh hu hf) (h:=?_))))
 refine xF (h:=Zb rfl (fun g3=>?_) (fun g3=>?_))
 try simp only [sQ,ne_eq] at g3
 refine Za (xA (h:=Ze (Zy (Zk (ZN (Zy (Zk ?_)))))))
 exact eR t1 ⟨Zd (Zc3 hw (Ziw g3)).symm,rfl,rfl⟩
 try simp only [sQ,ne_eq] at g3
 refine ZY (ZS (Zo (Zj (xD (h:=xM (h:=?_))))))
 exact ZE (k+1) [] so2 ⟨rfl,oz,ZaM hw ha (Ziv g2 g3)⟩ t4 rfl
 try simp only [sQ,ne_eq] at g1
 refine ZD (ZW (ZG (Zs (Zo (Za (xA (h:=Ze ?_)))))))
 exact eR t1 ⟨Zd (Zet (Zbc oz ha)).symm,rfl,rfl⟩

theorem Zpj (q:Option Addr) (cp:Nat) (bs:List Bool) (v:Bool) (B:Kn) (hb:SlK B q cp 1 ZrX bs):Zaa (pj J) 186 [.slice q bs.length cp,.bool v] B (.int .i64 (ZeD (fun y=>decide (v=y)) bs)):=by
 refine cB 19 Tryz.func186 (h:=?_)
 have hbn:=hb.len
 refine Za (xA (h:=Zc (Za (xM (h:=xV Tryz.underlying178 (h:=xM (h:=Zh (Zx (α:=Nat) [0,1,7] (fun k=>[(8,.int .i64 k)]) [] (fun k=>[]) (fun k Bx=>Bx=B∧k≤bs.length∧∀y,y∈bs.take k→decide (v=y)=false) (fun k=>bs.length - k) 0 t1 rfl (⟨rfl,Nat.zero_le _,by simp⟩) (fun k B1 hle1 hI=>?_)))))))))
 obtain ⟨rfl,hk,ha⟩:=hI
 refine ZC [(0,_),(1,_),(7,_),(8,_)] [] t4 rfl (Za (ZF (h:=Zc (Zb rfl (fun g1=>?_) (fun g1=>?_)))))
 try simp only [sQ,ne_eq] at g1
 refine wSk (Zc (Zh (Za (xM (h:=xA (h:=Za (xM (h:=xM (h:=xM (h:=?_))))))))))
 obtain ⟨y,hy⟩:=ZX (xs:=bs) (i:=k) om
 obtain ⟨bb3,oo3,rfl⟩:=hb.base hy
 obtain ⟨_,rfl,hc4⟩:=hb.elem hy
 refine xIx Tryz.underlying178 sz4 (h:=y1 lk4 hc4 0 (h:=Zq (Zsj rfl rfl rfl rfl rfl (Zs2 Tryz.underlying4) (Zb rfl (fun g2=>?_) (fun g2=>?_)))))
 try simp only [sQ,ne_eq] at g2
 refine Za (xM (h:=xA (h:=Ze (Zy (Zk (ZN (Zy (Zk ?_))))))))
 exact eR t1 ⟨ZJ (Zga hy (decide_eq_true g2) ha).symm,rfl,rfl⟩
 try simp only [sQ,ne_eq] at g2
 refine ZY (ZS (Zo (Zj (xD (h:=xM (h:=?_))))))
 exact ZE (k+1) [] so2 ⟨rfl,oz,ZaM hy ha (decide_eq_false g2)⟩ t4 rfl
 try simp only [sQ,ne_eq] at g1
 refine ZD (ZW (ZG (Zs (Zo (Za (xA (h:=Ze ?_)))))))
 exact eR t1 ⟨ZJ (Zd6 (Zbc oz ha)).symm,rfl,rfl⟩

theorem Zkx (q:Option Addr) (cp:Nat) (bs:List Bool) (v:Bool) (B:Kn) (hb:SlK B q cp 1 ZrX bs):Zaa (pj J) 144 [.slice q bs.length cp,.bool v] B (.bool (decide (0≤ZeD (fun y=>decide (v=y)) bs))):=by
 refine cB 9 Tryz.func144 (h:=?_)
 refine Za (xA (h:=Za (xM (h:=xM (h:=xR Zuu rfl (Zpj _ _ _ _ _ hb) (h:=Zdp (h:=xA (h:=Ze ?_))))))))
 exact eR t1 ⟨rfl,rfl,rfl⟩

theorem Zi1 (l:Str) (hl:l.length≤2000000) (B:Kn):Zaa (pj J) 103 [str l] B (.bool (Zcl l)):=by
 refine cB 16 Tryz.func103 (h:=?_)
 refine Za (xA (h:=Za (xM (h:=xB [(0,_)] [_,_] [_,_] ZsC Zos (h:=xAl [_,_] Zos (h:=fun b1=>xS [_,_] 0 [_,_] Zsz (h:=tL1 (Za (Zq (Zg7 0 rfl rfl rfl ZuT rfl (ZpG _ _ 0 oz oz _) ?_))))))))))
 refine xM (h:=xE (h:=xE (h:=xA (h:=xA (h:=Za (xM (h:=xM (h:=Zv (d:=13) rfl (fun g1=>?_) (fun g1=>?_)))))))))
 refine Zq (Zim 0 rfl rfl rfl Ztr rfl (Zlg _ _ (dom l 0).2 (Zs8 (Nat.zero_le _)) oz _) ?_)
 refine xT (h:=xA (h:=Ze ?_))
 exact eR t1 ⟨Zd (by rw [Bool.eq_iff_iff,← Zjf];simp [Zkv] at g1;simp [g1];try omega),rfl,rfl⟩
 refine xP (h:=xF (h:=xA (h:=Ze ?_)))
 exact eR t1 ⟨Zd (by symm;rw [Bool.eq_false_iff,ne_eq,← Zjf];intro hc;simp [Zkv,hc.1] at g1;omega),rfl,rfl⟩

theorem Zh7 (Wg C n i b o b1 b3 b5 b6:Nat) (q1 q2 q3:Option Addr) (c1 c2 c3:Nat) (x:DHost) (m:DFolder) (qg qm:Option Addr) (cg cm:Nat) (hin:i<n) (B:Kn) (hc900:ZaB B b o [str x.domain,.slice q1 x.users.length c1,.slice q2 x.folders.length c2,.int .i64 x.queue.next,.slice q3 x.queue.items.length c3]) (hu:SlK B q1 c1 3 Zt x.users) (hc901:ZaB B b1 0 [ptr ⟨b,o,none⟩]) (hc903:ZaB B b3 0 [.slice (some ⟨C,0,none⟩) n n]) (hc905:ZaB B b5 0 [.int .i64 i]) (hc906:ZaB B b6 0 [str m.owner,str m.name,.slice qg m.grants.length cg,.int .i64 m.next,.slice qm m.mail.length cm]) (hg:SlK B qg cg 2 ZZ m.grants) (hm:SlK B qm cm 3 Z9 m.mail) (ho:m.owner.length≤2000000) (hnm:m.name.length≤2000000):@ZdJ ⟨4⟩ Tryz.prog wgL.tWg Wg C n i (.bool (Zax x.users m)) (Go.Conc.G (Frame.enter Tryz.prog 139 #[ptr ⟨Wg,0,none⟩,ptr ⟨b1,0,none⟩,ptr ⟨b6,0,none⟩,ptr ⟨b3,0,none⟩,ptr ⟨b5,0,none⟩] .deferred) [ZeZ Tryz.prog]) B []:=by
 letI:Go.ConcR.Payload:=⟨4⟩
 refine ZqH (Lk:=wgL) (P:=Tryz.prog) (caps:=[ptr ⟨Wg,0,none⟩,ptr ⟨b1,0,none⟩,ptr ⟨b6,0,none⟩,ptr ⟨b3,0,none⟩,ptr ⟨b5,0,none⟩]) (nt:=27) (I:=keeps B [] []) (K:=fun _ _ _ _=>False) ZjA Tryz.func139 rfl rfl (Nat.le_of_ble_eq_true rfl) rfl mo kr ⟨Kn.le.refl _,Zba.refl _ _⟩ (fun _ _ _ _ h=>h) ?_
 refine aT 0 rfl (ZR fun D B L hI=>Zp rfl rfl ZsK rfl ((hc903.mono hI.1) _ 0 _ rfl) r4) (h:=aT 1 rfl (ZR fun D B L hI=>Zp rfl rfl lk3 rfl ((hc905.mono hI.1) _ 0 _ rfl) r4) (h:=aT 2 rfl (ZR fun D B L hI=>Zp rfl rfl Zt1 rfl ((hc901.mono hI.1) _ 0 _ rfl) r4) (h:=aW 3 rfl Zcg (h:=aT 4 rfl (ZR fun D B L hI=>Zp rfl rfl lk9 rfl ((hc906.mono hI.1) _ 0 _ rfl) r4) (h:=aT 5 rfl (ZR fun D B L hI=>Zae rfl rfl Zts rfl (Zf8 _ _ _ _ _ _ _ _ x m.owner om2 _ (hc900.mono hI.1) (hu.mono Zt.mono hI.1)) r4) (h:=?_))))))
 refine aM 6 rfl (h:=Zay (d:=11) rfl (fun g1=>?_) (fun g1=>?_))
 refine aW 7 rfl Zdh (h:=aT 8 rfl (ZR fun D B L hI=>Zp rfl rfl lk9 rfl ((hc906.mono hI.1) _ 1 _ rfl) r4) (h:=aT 9 rfl (ZR fun D B L hI=>Zae rfl rfl ZrM rfl (Zb4 _ om2 _) r4) (h:=?_)))
 refine aPT 10 rfl (h:=aM 11 rfl (h:=Zay (d:=16) rfl (fun g2=>?_) (fun g2=>?_)))
 refine aW 12 rfl Zd9 (h:=aT 13 rfl (ZR fun D B L hI=>Zp rfl rfl Zqg rfl ((hc906.mono hI.1) _ 2 _ rfl) r4) (h:=aT 14 rfl (ZR fun D B L hI=>Zae rfl rfl ZuO rfl (Zny _ _ _ _ (hg.mono ZZ.mono hI.1)) r4) (h:=aPT 15 rfl (h:=aM 16 rfl (h:=Zay (d:=21) rfl (fun g3=>?_) (fun g3=>?_))))))
 refine aW 17 rfl ZcO (h:=aT 18 rfl (ZR fun D B L hI=>Z6 [_,_] rfl rfl Zk5 rfl (ZjQ (hc906.mono hI.1) 3 rfl rfl) r4) (h:=aT 19 rfl (ZR fun D B L hI=>Zae rfl rfl Zs6 rfl (Zi2 _ _ (⟨m.next,m.mail⟩:DBox) _ (hm.mono Z9.mono hI.1)) r4) (h:=aPT 20 rfl (h:=aT 21 rfl (ZR fun D B L hI=>Zbs rfl rfl Tryz.underlying178 sz4 rfl rfl oz oz r4) (h:=?_)))))
 refine Zgd 22 kr rfl kr kr kr (fun T hn hT=>?_)
 refine Ze3 (L:=[]) hT ZjA (by simp [Zax,DFolder.box,g1,g2,g3]) rfl hin rfl Tryz.sizeOf4 (Zct sz4) (by exact Zf7 C i) rfl kr Tryz.func139 rfl
 refine aZ 17 rfl (h:=aZ 18 rfl (h:=aZ 19 rfl (h:=aPF 20 rfl (h:=aT 21 rfl (ZR fun D B L hI=>Zbs rfl rfl Tryz.underlying178 sz4 rfl rfl oz oz r4) (h:=?_)))))
 refine Zgd 22 kr rfl kr kr kr (fun T hn hT=>?_)
 refine Ze3 (L:=[]) hT ZjA (by simp [Zax,DFolder.box,g1,g2,g3]) rfl hin rfl Tryz.sizeOf4 (Zct sz4) (by exact Zf7 C i) rfl kr Tryz.func139 rfl
 refine aZ 12 rfl (h:=aZ 13 rfl (h:=aZ 14 rfl (h:=aPF 15 rfl (h:=aM 16 rfl (h:=aZ 17 rfl (h:=aZ 18 rfl (h:=aZ 19 rfl (h:=aPF 20 rfl (h:=aT 21 rfl (ZR fun D B L hI=>Zbs rfl rfl Tryz.underlying178 sz4 rfl rfl oz oz r4) (h:=?_))))))))))
 refine Zgd 22 kr rfl kr kr kr (fun T hn hT=>?_)
 refine Ze3 (L:=[]) hT ZjA (by simp [Zax,DFolder.box,g1,g2]) rfl hin rfl Tryz.sizeOf4 (Zct sz4) (by exact Zf7 C i) rfl kr Tryz.func139 rfl
 refine aZ 7 rfl (h:=aZ 8 rfl (h:=aZ 9 rfl (h:=aPF 10 rfl (h:=aM 11 rfl (h:=aZ 12 rfl (h:=aZ 13 rfl (h:=aZ 14 rfl (h:=aPF 15 rfl (h:=aM 16 rfl (h:=aZ 17 rfl (h:=aZ 18 rfl (h:=aZ 19 rfl (h:=aPF 20 rfl (h:=aT 21 rfl (ZR fun D B L hI=>Zbs rfl rfl Tryz.underlying178 sz4 rfl rfl oz oz r4) (h:=?_)))))))))))))))
 refine Zgd 22 kr rfl kr kr kr (fun T hn hT=>?_)
 refine Ze3 (L:=[]) hT ZjA (by simp [Zax,DFolder.box,g1]) rfl hin rfl Tryz.sizeOf4 (Zct sz4) (by exact Zf7 C i) rfl kr Tryz.func139 rfl

theorem Zg3 (hJ:Joins Tryz.prog J) (b o:Nat) (q1 q2 q3:Option Addr) (c1 c2 c3:Nat) (x:DHost) (B:Kn) (hc900:ZaB B b o [str x.domain,.slice q1 x.users.length c1,.slice q2 x.folders.length c2,.int .i64 x.queue.next,.slice q3 x.queue.items.length c3]) (hu:SlK B q1 c1 3 Zt x.users) (hf:SlK B q2 c2 5 Zn x.folders):ZA (pj J) 106 [ptr ⟨b,o,none⟩] B [] (fun v B' Ls=>Ls=[]∧v = .bool (x.folders.all (Zax x.users))):=by
 have hfn:=hf.len
 letI:Go.ConcR.Payload:=⟨4⟩
 refine ZpL 30 Tryz.func106 rfl rfl (Nat.le_of_ble_eq_true rfl) fun X kind c cs F T0 hk hke hA hn0 hT0=>?_
 let C0:Cx (pj J):=⟨X,fb 106 kind,c :: cs,F,hke⟩
 refine Zec (C:=C0) (L:=[]) (Zhw (C:=C0) (L:=[]) hn0 hT0 (xBx [_] (h:=fun b1=>xA (h:=?_))))
 intro T1 hn1 hT1
 refine Zjh (C:=C0) rfl 0 rfl fun B1 hle1 hm1=>?_
 have hc901:=ZbH hm1
 replace hc900:=hc900.mono hle1
 obtain ⟨hu,hf⟩:=up2 hle1 hu hf
 replace hA:=fun v B' Ls' h=>hA v B' Ls' (hle1.trans h)
 refine Zec (C:=C0) (L:=[[]]) (Zhw (C:=C0) (L:=[[]]) hn1 hT1 (y1 Zt1 hc901 0 (h:=xNc (h:=xW Z3 (h:=y1 ZdN hc900 2 (h:=xV Tryz.underlying31 (h:=Zq (Za7 (m:=x.folders.length) (c:=x.folders.length) (by_:=1) [.bool false] rfl rfl Zue zo4 rfl rfl ⟨_,_,rfl,rfl⟩ ⟨_,_,rfl,rfl⟩ (Nat.le_refl _) oz (fun Cb=>?_)))))))))
 refine xAl [_] ZtB (h:=fun b2=>xS [_] 2 [_] ZtU (h:=?_))
 intro T2 hn2 hT2
 refine Zjh (C:=C0) rfl 2 rfl fun B2 hle2 hm2=>?_
 have hc903:=ZbH hm2
 replace hc900:=hc900.mono hle2
 obtain ⟨hu,hf⟩:=up2 hle2 hu hf
 replace hc901:=hc901.mono hle2
 replace hA:=fun v B' Ls' h=>hA v B' Ls' (hle2.trans h)
 refine Zec (C:=C0) (L:=[[],Zap Cb (zrow [.bool false] x.folders.length) 4,[]]) (Zfp (C:=C0) (L:=[[],Zap Cb (zrow [.bool false] x.folders.length) 4,[]]) (ZoX (C:=Cb) (n:=x.folders.length) (val:=Zoq x) (L₁:=F) (cells:=(zrow [.bool false] x.folders.length).toArray) (i:=0) (todo:=[]) hJ rfl hke ZtA rfl oz (by simp [ZbE]) (.refl _) (fun hmain Wg hW1 hW2=>?_)))
 let C1:Cx (.lone Tryz.prog):=⟨phL Tryz.prog 188 Wg Cb x.folders.length (Zoq x) X.R .a5 (0),fb 106 kind,c :: cs,F,hke⟩
 have hT3:=hT2.putT (n:=30) (dst:=some 4) hn2 rfl (ptr ⟨Wg,0,none⟩)
 have hn3:(putT T2 (some 4) (ptr ⟨Wg,0,none⟩)).size=30:=by rw [ZaY,hn2]
 refine Zcw (C:=C1) (L:=[]) (Zec (C:=C1) (L:=[]) (Zec (C:=C1) (L:=[]) (Zhw (C:=C1) (L:=[]) hn3 hT3 (y1 Zt1 hc901 0 (h:=xNc (h:=xW Z3 (h:=y1 ZdN hc900 2 (h:=xV Tryz.underlying31 (h:=xM (h:=?_))))))))))
 intro T4 hn4 hT4
 refine Zli (C:=C1) (L:=[]) (Zq5 (nt:=30) (fun j=>[(1,ptr ⟨b1,0,none⟩),(3,ptr ⟨b2,0,none⟩),(4,ptr ⟨Wg,0,none⟩),(16,.slice q2 x.folders.length c2),(17,.int .i64 x.folders.length),(18,.int .i64 ((j:Nat):Int))]) (fun j hj B3 T5 hle3 hn5 hT5 hnext=>?_) hn4 (hT4.sub' t6))
 replace hc900:=hc900.mono hle3
 obtain ⟨hu,hf⟩:=up2 hle3 hu hf
 replace hc901:=hc901.mono hle3
 replace hc903:=hc903.mono hle3
 replace hA:=fun v B' Ls' h=>hA v B' Ls' (hle3.trans h)
 let C2:Cx (.lone Tryz.prog):=⟨phL Tryz.prog 188 Wg Cb x.folders.length (Zoq x) X.R .a5 (j),fb 106 kind,c :: cs,F,hke⟩
 refine Zec (C:=C2) (L:=[]) (Zhw (C:=C2) (L:=[]) hn5 hT5 (ZF (h:=?_)))
 intro T6 hn6 hT6
 refine Zec (C:=C2) (L:=[]) ?_
 rcases Nat.lt_or_ge j x.folders.length with hlt | hge
 refine Zob (C:=C2) (L:=[]) (t:=true) (by exact congrArg (fun t=>some (Value.bool t)) (decide_eq_true oz)) hT6 ?_
 refine ZrO (C:=C2) (L:=[]) (Zec (C:=C2) (L:=[]) (Zli (C:=C2) (L:=[]) (Zec (C:=C2) (L:=[]) (Zhw (C:=C2) (L:=[]) hn6 hT6 (xM (h:=?_))))))
 obtain ⟨m,hm⟩:=ZX (xs:=x.folders) (i:=j) om
 obtain ⟨bb4,oo4,rfl⟩:=hf.base hm
 obtain ⟨_,⟨qg5,cg5,qm5,cm5,rfl,hg5,hm5,hb5,hb5b⟩,hc5⟩:=hf.elem hm
 have hg5n:=hg5.len
 have hm5n:=hm5.len
 have hm5s:=Zau hm5
 refine xIx Tryz.underlying31 ZaW (h:=yL [_,_,_,_,_] ZfZ hc5 0 (h:=xAl [_] zo3 (h:=fun b6=>xAl [_,_,_,_,_] Zc4 (h:=fun b7=>xS [_] 0 [_] sz3 (h:=xS [_,_,_,_,_] 1 [_,_,_,_,_] ZaW (h:=?_))))))
 intro T7 hn7 hT7
 refine Zjh (C:=C2) rfl 0 rfl fun B4 hle4 hpm4=>?_
 have hc905:=ZbH hpm4
 refine Zjh (C:=C2) rfl 1 rfl fun B5 hle5 hpm5=>?_
 have hc906:=ZbH hpm5
 replace hc905:=hc905.mono hle5
 replace hc900:=hc900.mono (hle4.trans hle5)
 replace hu:=hu.mono Zt.mono (hle4.trans hle5)
 replace hc901:=hc901.mono (hle4.trans hle5)
 replace hc903:=hc903.mono (hle4.trans hle5)
 replace hg5:=hg5.mono ZZ.mono (hle4.trans hle5)
 replace hm5:=hm5.mono Z9.mono (hle4.trans hle5)
 refine Zec (C:=C2) (L:=[[],[]]) (Zfp (C:=C2) (L:=[[],[]]) (ZsD (Lk:=wgL) (i:=0) (todo:=[]) ZjA hlt rfl ZuP rfl rfl hT7 hke ?_))
 let C3:Cx (.lone Tryz.prog):=⟨phL Tryz.prog 188 Wg Cb x.folders.length (Zoq x) X.R .a2 (j),fb 106 kind,c :: cs,F,hke⟩
 have hT8:=hT7.putT (n:=30) (dst:=(some 23)) hn7 rfl (.tuple #[])
 have hn8:(putT T7 (some 23) (.tuple #[])).size=30:=by rw [ZaY,hn7]
 refine Zcw (C:=C3) (L:=[]) (Zfp (C:=C3) (L:=[]) (Zvl (C:=C3) (L:=[]) (i:=0) (todo:=[1]) rfl hn8 hT8 (Zq (Zc8 (xs:=[]) (ys:=[.tmp 4,.tmp 1,.tmp 6,.tmp 3,.tmp 5]) rfl rfl rfl rfl ?_))))
 intro T9 hn9 hT9
 refine ZtY (i:=1) (todo:=[]) rfl rfl hT9 hke Tryz.func139 rfl rfl (by rw [ZkK hm];exact Zh7 Wg Cb x.folders.length j b o b1 b2 b6 b7 _ _ _ _ _ _ x m _ _ _ _ hlt B5 hc900 hu hc901 hc903 hc905 hc906 hg5 hm5 hb5 hb5b) ?_
 let C4:Cx (.lone Tryz.prog):=⟨phL Tryz.prog 188 Wg Cb x.folders.length (Zoq x) X.R .a5 (j+1),fb 106 kind,c :: cs,F,hke⟩
 refine Zcw (C:=C4) (L:=[]) (Zl9 (C:=C4) (L:=[]) ?_)
 have hn10:=hn9
 have hT10:=hT9
 refine Zhw (C:=C4) (L:=[]) hn10 hT10 (xD (h:=xM (h:=?_)))
 intro T11 hn11 hT11
 exact hnext hlt _ _ (hle4.trans hle5) hn11 (hT11.sub' t6)
 obtain rfl:j=x.folders.length:=by omega
 refine Zob (C:=C2) (L:=[]) (t:=false) (by exact congrArg (fun t=>some (Value.bool t)) (decide_eq_false oz)) hT6 ?_
 refine ZrP (C:=C2) (L:=[]) (by rfl) ?_
 refine Zec (C:=C2) (L:=[]) (Zfp (C:=C2) (L:=[]) (Zq4 (Lk:=wgL) (X:=X) (i:=0) (todo:=[]) ZjA oz rfl ZuN rfl hT6 hke (fun _ _ _ h=>h) ?_))
 have hT7:=hT6.putT (n:=30) (dst:=(some 26)) hn6 rfl (.tuple #[])
 have hn7:(putT T6 (some 26) (.tuple #[])).size=30:=by rw [ZaY,hn6]
 refine Zcw (C:=C0) (L:=[[(Cb,Obj.cells ((List.range x.folders.length).map (Zoq x)).toArray 4 (0,0))]]) (Zjh (C:=C0) (L:=[[(Cb,Obj.cells ((List.range x.folders.length).map (Zoq x)).toArray 4 (0,0))]]) rfl 0 rfl fun B4 hle4 hm4=>?_)
 have hvb:=ZmB hm4 hfn
 replace hc903:=hc903.mono hle4
 replace hA:=fun v B' Ls' h=>hA v B' Ls' (hle4.trans h)
 refine ZrC Tryz.func106 rfl hk hke hn7 hT7 hA ?_
 rw [show (x.folders.length:Nat)=(x.folders.map (Zax x.users)).length from (List.length_map ..).symm] at hc903
 refine Za (y1 ZsK hc903 0 (h:=xR ZuM rfl (Zkx _ _ _ _ _ hvb) (h:=xN (h:=xA (h:=tL1 (Ze ?_))))))
 exact eR t1 ⟨rfl,congrArg Value.bool Zih⟩

theorem Zkh (hJ:Joins Tryz.prog J) (q1 q2 q3:Option Addr) (c1 c2 c3:Nat) (x:DHost) (hd:x.domain.length≤2000000) (B:Kn) (hu:SlK B q1 c1 3 Zt x.users) (hf:SlK B q2 c2 5 Zn x.folders) (hi:SlK B q3 c3 4 ZI x.queue.items):ZA (pj J) 67 [.agg #[str x.domain,.slice q1 x.users.length c1,.slice q2 x.folders.length c2,.int .i64 x.queue.next,.slice q3 x.queue.items.length c3]] B [] (fun v B' Ls=>Ls=[]∧v = .bool (Zah x)):=by
 refine cB 63 Tryz.func67 (h:=?_)
 rw [← ZlS]
 have hfn:=hf.len
 have hun:=hu.len
 have hin:=hi.len
 refine Za (xBx [_,_,_,_,_] (h:=fun b1=>xA (h:=tL1 (Zow 0 rfl (fun B2 hle2 hpm2=>?_)))))
 have hc2:=ZbH hpm2
 obtain ⟨hu,hf,hi⟩:=up3 hle2 hu hf hi
 refine Zc (Za (xW ZgK (h:=y1 lk9 hc2 0 (h:=xR Zvh rfl (Zi1 _ om2 _) (h:=?_)))))
 refine xN (h:=xM (h:=Zv (d:=10) rfl (fun g1=>?_) (fun g1=>?_)))
 try simp only [sQ,ne_eq] at g1
 refine xP (h:=xP (h:=xP (h:=xP (h:=xT (h:=xM (h:=xP (h:=xP (h:=xP (h:=xP (h:=xT (h:=xM (h:=xP (h:=xP (h:=xP (h:=xP (h:=xT (h:=tL1 (Zb (t:=true) rfl (fun _=>Za (xA (h:=Ze (Zk ?_)))) (fun h=>Bool.noConfusion h)))))))))))))))))))
 exact eR t1 ⟨rfl,Zd (by simp [ZcM,g1])⟩
 try simp only [sQ,ne_eq] at g1
 refine xW ZbB (h:=y1 ZhV hc2 1 (h:=xR Zs7 rfl (ZgB _ _ _ _ hu) (h:=xN (h:=xF (h:=xM (h:=Zv (d:=16) rfl (fun g2=>?_) (fun g2=>?_)))))))
 try simp only [sQ,ne_eq] at g2
 refine xP (h:=xP (h:=xP (h:=xP (h:=xT (h:=xM (h:=xP (h:=xP (h:=xP (h:=xP (h:=xT (h:=tL1 (Zb (t:=true) rfl (fun _=>Za (xA (h:=Ze (Zk ?_)))) (fun h=>Bool.noConfusion h)))))))))))))
 exact eR t1 ⟨rfl,Zd (by simp [ZcM,g1,g2])⟩
 try simp only [sQ,ne_eq] at g2
 refine xW ZdL (h:=yL [_,_] Zjz hc2 3 (h:=xR Zvg rfl (Zkd _ _ x.queue _ hi) (h:=xN (h:=xF (h:=xM (h:=Zv (d:=22) rfl (fun g3=>?_) (fun g3=>?_)))))))
 try simp only [sQ,ne_eq] at g3
 refine xP (h:=xP (h:=xP (h:=xP (h:=xT (h:=tL1 (Zb (t:=true) rfl (fun _=>Za (xA (h:=Ze (Zk ?_)))) (fun h=>Bool.noConfusion h)))))))
 exact eR t1 ⟨rfl,Zd (by simp [ZcM,g1,g2,g3])⟩
 try simp only [sQ,ne_eq] at g3
 refine xW Z3 (h:=y1 ZdN hc2 2 (h:=xV Tryz.underlying31 (h:=ZdM (h:=xF (h:=tL1 (Zb rfl (fun g4=>?_) (fun g4=>?_)))))))
 try simp only [sQ,ne_eq] at g4
 refine Za (xA (h:=Ze (Zk ?_)))
 exact eR t1 ⟨rfl,Zd (by simp [ZcM];intros;omega)⟩
 try simp only [sQ,ne_eq] at g4
 refine wSk (Zc (Za (xW Z3 (h:=y1 ZdN hc2 2 (h:=xW Z3 (h:=y1 ZdN hc2 2 (h:=xV Tryz.underlying31 (h:=xU (h:=Zq (ZtH (m:=(x.folders.length - 1)) rfl rfl rfl rfl om ?_))))))))))
 have hsl:((x.folders.take (x.folders.length - 1)).drop 0).length=x.folders.length - 1:=by simp
 obtain ⟨hq6,q6,cp6,hv6,hr6⟩:=hf.cutE 0 (x.folders.length - 1) om om
 have hr6n:=hr6.len
 refine Zq (ZdT (a:=0) (b:=(x.folders.length - 1)) hv6 om hq6 rfl rfl Tryz.underlying31 ZaW rfl rfl ⟨_,_,rfl,by first | omega | (simp;done) | (simp;omega)⟩ ?_)
 refine xV Tryz.underlying31 (h:=xM (h:=Zh (Zx (α:=Nat) [0,1,27,35,36] (fun k=>[(37,.int .i64 k)]) [] (fun k=>[]) (fun k Bx=>Bx=B2∧k≤x.folders.length - 1∧ZpV x.folders k) (fun k=>x.folders.length - k) 0 t1 rfl (⟨rfl,Nat.zero_le _,ZlF⟩) (fun k B7 hle7 hI=>?_))))
 obtain ⟨rfl,hk,hord⟩:=hI
 refine ZC [(0,_),(1,_),(27,_),(35,_),(36,_),(37,_)] [_] t6 rfl (Za (ZF (h:=Zc (Zb rfl (fun g5=>?_) (fun g5=>?_)))))
 try simp only [sQ,ne_eq] at g5
 refine wSk (Zc (Zh (Za (xM (h:=?_)))))
 obtain ⟨fa,hfa⟩:=ZX (xs:=((x.folders.take (x.folders.length - 1)).drop 0)) (i:=k) om
 obtain ⟨bb9,oo9,rfl⟩:=hr6.base hfa
 obtain ⟨_,⟨qg10,cg10,qm10,cm10,rfl,hg10,hm10,hb10,hb10b⟩,hc10⟩:=hr6.elem hfa
 have hg10n:=hg10.len
 have hm10n:=hm10.len
 have hm10s:=Zau hm10
 refine xIx Tryz.underlying31 ZaW (h:=?_)
 have hfa0:x.folders[k]? = some fa:=by rw [List.drop_zero,List.getElem?_take] at hfa;split at hfa <;> simp_all
 refine yL [_,_,_,_,_] ZfZ hc10 0 (h:=xAl [_,_,_,_,_] Zc4 (h:=fun b11=>xA (h:=xS [_,_,_,_,_] 1 [_,_,_,_,_] ZaW (h:=tL2 (Za (xW Z3 (h:=y1 ZdN hc2 2 (h:=xM (h:=xD (h:=?_))))))))))
 obtain ⟨fb,hfb⟩:=ZX (xs:=x.folders) (i:=(k+1)) om
 obtain ⟨bb13,oo13,rfl⟩:=hf.base hfb
 obtain ⟨_,⟨qg14,cg14,qm14,cm14,rfl,hg14,hm14,hb14,hb14b⟩,hc14⟩:=hf.elem hfb
 have hg14n:=hg14.len
 have hm14n:=hm14.len
 have hm14s:=Zau hm14
 refine xIx Tryz.underlying31 ZaW (h:=yL [_,_,_,_,_] ZfZ hc14 0 (h:=xAl [_,_,_,_,_] Zc4 (h:=fun b15=>xS [_,_,_,_,_] 2 [_,_,_,_,_] ZaW (h:=tL3 (Za (xL [_,_,_,_,_] ZfZ 1 (h:=xW Zcg (h:=x1 lk9 2 (h:=xW Zdh (h:=x1 lk9 2 (h:=xR ZvI rfl (ZgI fa _ _ _ _ fb.owner fb.name _) (h:=Zdp (h:=Zb rfl (fun g6=>?_) (fun g6=>?_))))))))))))))
 try simp only [sQ,ne_eq] at g6
 refine Za (xA (h:=Ze (Zy (Zk (ZN (Zy (Zk ?_)))))))
 exact eR t1 ⟨rfl,Zd (by simp [ZcM,Zo1 hfa0 hfb ((Zfq fa fb).1 g6)])⟩
 try simp only [sQ,ne_eq] at g6
 refine ZY (ZS (Zo (Zj (xD (h:=xM (h:=?_))))))
 exact ZE (k+1) [0] so2 ⟨rfl,oz,ZlG hord hfa0 hfb (by rw [← Bool.not_eq_false,← Zfq];omega)⟩ t6 rfl
 try simp only [sQ,ne_eq] at g5
 have ho:=Zo0 (fs:=x.folders) (fun i a b h=>hord i a b oz)
 refine ZD (ZW (ZG (Zs (Zo (Za (xQ Zvf rfl (Zg3 hJ _ _ _ _ _ _ _ _ x _ hc2 hu hf) (h:=?_)))))))
 intro v17 B17 hle17
 rintro rfl
 obtain ⟨hu,hf,hi⟩:=up3 hle17 hu hf hi
 replace hc2:=hc2.mono hle17
 refine xM (h:=Zv (d:=57) rfl (fun g7=>?_) (fun g7=>?_))
 try simp only [sQ,ne_eq] at g7
 refine xR Zve rfl (Zlq _ _ _ _ _ _ _ _ x _ hc2 hu hf) (h:=xT (h:=xM (h:=Zv (d:=60) rfl (fun g8=>?_) (fun g8=>?_))))
 try simp only [sQ,ne_eq] at g8
 refine xR Zvd rfl (ZjV _ _ _ _ _ _ _ _ x _ hc2 hu hi) (h:=xT (h:=xA (h:=Ze ?_)))
 exact eR t1 ⟨rfl,Zd (by simp [ZcM,g1,g2,g3,ho,g7,g8];try omega)⟩
 try simp only [sQ,ne_eq] at g8
 refine xP (h:=xF (h:=xA (h:=Ze ?_)))
 exact eR t1 ⟨rfl,Zd (by simp [ZcM,g1,g2,g3,ho,g7,g8];try omega)⟩
 try simp only [sQ,ne_eq] at g7
 refine xP (h:=xF (h:=xM (h:=xP (h:=xF (h:=xA (h:=Ze ?_))))))
 exact eR t1 ⟨rfl,Zd (by simp [ZcM,g7])⟩

theorem ZoI (x:DUser) (h1:x.name.length≤140737488355328) (h2:x.pass.length≤140737488355328) (left:Int) (hl0:0≤left) (hl1:left≤1048576) (B:Kn)  : Zaa (pj J) 50 [.agg #[str x.name,str x.pass,.int .i64 x.quota],.int .i64 left] B (.int .i64 (szI left (ZcD x))):=by
 refine cB 20 Tryz.func50 (h:=?_)
 refine Za (xBx [_,_,_] (h:=fun b1=>xA (h:=tL1 (Za (xM (h:=xW Zqp (h:=x1 lk9 0 (h:=xVs Tryz.underlying9 (h:=xU (h:=xA (h:=Zc (Za (xM (h:=ZF (h:=Zb rfl (fun g1=>?_) (fun g1=>?_))))))))))))))))
 try simp only [sQ,ne_eq] at g1
 refine Za (xA (h:=Ze (Zk ?_)))
 exact eR t1 ⟨ZJ (by first | (unfold szI ZcD;split <;> omega)),rfl,rfl⟩
 try simp only [sQ,ne_eq] at g1
 refine wSk (Za (xM (h:=xW Zqo (h:=x1 lk9 0 (h:=xVs Tryz.underlying9 (h:=xU (h:=xA (h:=Zc (Za (xM (h:=ZF (h:=Zb rfl (fun g2=>?_) (fun g2=>?_)))))))))))))
 try simp only [sQ,ne_eq] at g2
 refine Za (xA (h:=Ze (Zk ?_)))
 exact eR t1 ⟨ZJ (by first | (unfold szI ZcD;split <;> omega)),rfl,rfl⟩
 try simp only [sQ,ne_eq] at g2
 refine wSk (Za (xM (h:=xA (h:=Ze ?_))))
 exact eR t1 ⟨ZJ (by first | (unfold szI ZcD;split <;> omega)),rfl,rfl⟩

theorem ZmR (x:DGrant) (h1:x.user.length≤140737488355328) (left:Int) (hl0:0≤left) (hl1:left≤1048576) (B:Kn)  : Zaa (pj J) 125 [.agg #[str x.user,.int .i64 x.rights],.int .i64 left] B (.int .i64 (szI left (ZbV x))):=by
 refine cB 13 Tryz.func125 (h:=?_)
 refine Za (xBx [_,_] (h:=fun b1=>xA (h:=tL1 (Za (xM (h:=xW ZnL (h:=x1 lk9 0 (h:=xVs Tryz.underlying9 (h:=xU (h:=xA (h:=Zc (Za (xM (h:=ZF (h:=Zb rfl (fun g1=>?_) (fun g1=>?_))))))))))))))))
 try simp only [sQ,ne_eq] at g1
 refine Za (xA (h:=Ze (Zk ?_)))
 exact eR t1 ⟨ZJ (by first | (unfold szI ZbV;split <;> omega)),rfl,rfl⟩
 try simp only [sQ,ne_eq] at g1
 refine wSk (Za (xM (h:=xA (h:=Ze ?_))))
 exact eR t1 ⟨ZJ (by first | (unfold szI ZbV;split <;> omega)),rfl,rfl⟩

theorem ZoK (x:DMail) (h1:x.text.length≤140737488355328) (left:Int) (hl0:0≤left) (hl1:left≤1048576) (B:Kn)  : Zaa (pj J) 159 [.agg #[.int .i64 x.uid,.int .i64 x.flags,str x.text],.int .i64 left] B (.int .i64 (szI left (ZcZ x))):=by
 refine cB 13 Tryz.func159 (h:=?_)
 refine Za (xBx [_,_,_] (h:=fun b1=>xA (h:=tL1 (Za (xM (h:=xW ZnK (h:=x1 lk9 0 (h:=xVs Tryz.underlying9 (h:=xU (h:=xA (h:=Zc (Za (xM (h:=ZF (h:=Zb rfl (fun g1=>?_) (fun g1=>?_))))))))))))))))
 try simp only [sQ,ne_eq] at g1
 refine Za (xA (h:=Ze (Zk ?_)))
 exact eR t1 ⟨ZJ (by first | (unfold szI ZcZ;split <;> omega)),rfl,rfl⟩
 try simp only [sQ,ne_eq] at g1
 refine wSk (Za (xM (h:=xA (h:=Ze ?_))))
 exact eR t1 ⟨ZJ (by first | (unfold szI ZcZ;split <;> omega)),rfl,rfl⟩

theorem ZoJ (q:Option Addr) (cp:Nat) (xs:List Str) (left:Int) (hl0:0≤left) (hl1:left≤1048576) (B:Kn) (hx:SlB B q cp 1 Zjw xs):Zaa (pj J) 127 [.slice q xs.length cp,.int .i64 left] B (.int .i64 (szI left (szL List.length xs))):=by
 refine cB 28 Tryz.func127 (h:=?_)
 have hxn:=hx.len
 refine Za (xA (h:=Za (xM (h:=xM (h:=xV Tryz.underlying99 (h:=xU (h:=xA (h:=Zc (Za (xM (h:=ZF (h:=Zb rfl (fun g1=>?_) (fun g1=>?_)))))))))))))
 try simp only [sQ,ne_eq] at g1
 refine Za (xA (h:=Ze (Zk ?_)))
 exact eR t1 ⟨ZJ (Zfz oz).symm,rfl,rfl⟩
 try simp only [sQ,ne_eq] at g1
 refine ZY ?_
 refine Zo ?_
 refine Zc ?_
 refine Za ?_
 refine Zq (Zcr rfl rfl rfl ?_)
 refine Zh ?_
 refine Zx (α:=Nat × Int) [0,11] (fun g=>[(1,.int .i64 g.2),(5,.int .i64 g.1)]) [] (fun g=>[]) (fun g Bx=>Bx=B∧g.1≤xs.length∧g.2=left - xs.length - ((xs.take g.1).map List.length).sum∧0≤g.2) (fun g=>xs.length - g.1) (0,left - ↑xs.length) ⟨rfl,rfl,trivial⟩ rfl (⟨rfl,Nat.zero_le _,by simp,g1⟩) (fun g B1 hle1 hI=>?_)
 obtain ⟨rfl,hk,hs,hl⟩:=hI
 refine ZC [(0,_),(1,_),(5,_),(11,_)] [] t4 rfl (Zc (Za (xM (h:=xM (h:=xV Tryz.underlying99 (h:=ZF (h:=Zb rfl (fun g2=>?_) (fun g2=>?_))))))))
 try simp only [sQ,ne_eq] at g2
 refine wSk (Zc (Zh (Za (xM (h:=xM (h:=xM (h:=?_)))))))
 obtain ⟨z,hz⟩:=ZX (xs:=xs) (i:=g.1) om
 obtain ⟨bb3,oo3,rfl⟩:=hx.base hz
 obtain ⟨_,⟨rfl,hb4⟩,hc4⟩:=hx.elem hz
 refine xIx Tryz.underlying99 sz9 (h:=y1 lk9 hc4 0 (h:=xVs Tryz.underlying9 (h:=xU (h:=xA (h:=Za (xM (h:=ZF (h:=Zb rfl (fun g3=>?_) (fun g3=>?_)))))))))
 try simp only [sQ,ne_eq] at g3
 refine Za (xA (h:=Ze (Zy (Zk (ZN (Zy (Zk ?_)))))))
 exact eR t1 ⟨ZJ (Zfx hz hs oz).symm,rfl,rfl⟩
 try simp only [sQ,ne_eq] at g3
 refine ZY (ZS (Zo (Zj (xM (h:=xD (h:=xA (h:=?_)))))))
 exact ZE (g.1+1,g.2 - z.length) [] so2 ⟨rfl,so,by rw [Zdv _ hz,hs];omega,g3⟩ t4 rfl
 try simp only [sQ,ne_eq] at g2
 refine ZD (ZW (ZG (Zs (Zo (Za (xM (h:=xA (h:=Ze ?_))))))))
 exact eR t1 ⟨ZJ (Zfy hs hl oz).symm,rfl,rfl⟩

theorem ZmN (q:Option Addr) (cp:Nat) (xs:List DUser) (left:Int) (hl0:0≤left) (hl1:left≤1048576) (B:Kn) (hx:SlB B q cp 3 Zjv xs):Zaa (pj J) 14 [.slice q xs.length cp,.int .i64 left] B (.int .i64 (szI left (szL ZcD xs))):=by
 refine cB 27 Tryz.func14 (h:=?_)
 have hxn:=hx.len
 refine Za (xA (h:=Za (xM (h:=xM (h:=xV Tryz.underlying22 (h:=xU (h:=xA (h:=Zc (Za (xM (h:=ZF (h:=Zb rfl (fun g1=>?_) (fun g1=>?_)))))))))))))
 try simp only [sQ,ne_eq] at g1
 refine Za (xA (h:=Ze (Zk ?_)))
 exact eR t1 ⟨ZJ (Zfz oz).symm,rfl,rfl⟩
 try simp only [sQ,ne_eq] at g1
 refine ZY ?_
 refine Zo ?_
 refine Zc ?_
 refine Za ?_
 refine Zq (Zcr rfl rfl rfl ?_)
 refine Zh ?_
 refine Zx (α:=Nat × Int) [0,11] (fun g=>[(1,.int .i64 g.2),(5,.int .i64 g.1)]) [] (fun g=>[]) (fun g Bx=>Bx=B∧g.1≤xs.length∧g.2=left - xs.length - ((xs.take g.1).map ZcD).sum∧0≤g.2) (fun g=>xs.length - g.1) (0,left - ↑xs.length) ⟨rfl,rfl,trivial⟩ rfl (⟨rfl,Nat.zero_le _,by simp,g1⟩) (fun g B1 hle1 hI=>?_)
 obtain ⟨rfl,hk,hs,hl⟩:=hI
 refine ZC [(0,_),(1,_),(5,_),(11,_)] [] t4 rfl (Zc (Za (xM (h:=xM (h:=xV Tryz.underlying22 (h:=ZF (h:=Zb rfl (fun g2=>?_) (fun g2=>?_))))))))
 try simp only [sQ,ne_eq] at g2
 refine wSk (Zc (Zh (Za (xM (h:=xM (h:=?_))))))
 obtain ⟨z,hz⟩:=ZX (xs:=xs) (i:=g.1) om
 obtain ⟨bb3,oo3,rfl⟩:=hx.base hz
 obtain ⟨_,⟨rfl,hb4,hb4b⟩,hc4⟩:=hx.elem hz
 refine xIx Tryz.underlying22 Zvq (h:=yL [_,_,_] ZvB hc4 0 (h:=xM (h:=xR ZwE rfl (ZoI z om om g.2 om om _) (h:=?_))))
 refine xA (h:=Za (xM (h:=ZF (h:=Zb rfl (fun g3=>?_) (fun g3=>?_)))))
 try simp only [sQ,ne_eq] at g3
 refine Za (xA (h:=Ze (Zy (Zk (ZN (Zy (Zk ?_)))))))
 exact eR t1 ⟨ZJ (Zfx hz hs ((ZbU hl).1 g3)).symm,rfl,rfl⟩
 try simp only [sQ,ne_eq] at g3
 refine ZY (ZS (Zo (Zj (xM (h:=xD (h:=xA (h:=?_)))))))
 exact ZE (g.1+1,szI g.2 (ZcD z)) [] so2 ⟨rfl,so,by have:=(Zck hl g3).1;rw [Zdv _ hz];simp only [];omega,g3⟩ t4 rfl
 try simp only [sQ,ne_eq] at g2
 refine ZD (ZW (ZG (Zs (Zo (Za (xM (h:=xA (h:=Ze ?_))))))))
 exact eR t1 ⟨ZJ (Zfy hs hl oz).symm,rfl,rfl⟩

theorem Zlu (q:Option Addr) (cp:Nat) (xs:List DGrant) (left:Int) (hl0:0≤left) (hl1:left≤1048576) (B:Kn) (hx:SlB B q cp 2 ZgY xs):Zaa (pj J) 91 [.slice q xs.length cp,.int .i64 left] B (.int .i64 (szI left (szL ZbV xs))):=by
 refine cB 27 Tryz.func91 (h:=?_)
 have hxn:=hx.len
 refine Za (xA (h:=Za (xM (h:=xM (h:=xV Tryz.underlying88 (h:=xU (h:=xA (h:=Zc (Za (xM (h:=ZF (h:=Zb rfl (fun g1=>?_) (fun g1=>?_)))))))))))))
 try simp only [sQ,ne_eq] at g1
 refine Za (xA (h:=Ze (Zk ?_)))
 exact eR t1 ⟨ZJ (Zfz oz).symm,rfl,rfl⟩
 try simp only [sQ,ne_eq] at g1
 refine ZY ?_
 refine Zo ?_
 refine Zc ?_
 refine Za ?_
 refine Zq (Zcr rfl rfl rfl ?_)
 refine Zh ?_
 refine Zx (α:=Nat × Int) [0,11] (fun g=>[(1,.int .i64 g.2),(5,.int .i64 g.1)]) [] (fun g=>[]) (fun g Bx=>Bx=B∧g.1≤xs.length∧g.2=left - xs.length - ((xs.take g.1).map ZbV).sum∧0≤g.2) (fun g=>xs.length - g.1) (0,left - ↑xs.length) ⟨rfl,rfl,trivial⟩ rfl (⟨rfl,Nat.zero_le _,by simp,g1⟩) (fun g B1 hle1 hI=>?_)
 obtain ⟨rfl,hk,hs,hl⟩:=hI
 refine ZC [(0,_),(1,_),(5,_),(11,_)] [] t4 rfl (Zc (Za (xM (h:=xM (h:=xV Tryz.underlying88 (h:=ZF (h:=Zb rfl (fun g2=>?_) (fun g2=>?_))))))))
 try simp only [sQ,ne_eq] at g2
 refine wSk (Zc (Zh (Za (xM (h:=xM (h:=?_))))))
 obtain ⟨z,hz⟩:=ZX (xs:=xs) (i:=g.1) om
 obtain ⟨bb3,oo3,rfl⟩:=hx.base hz
 obtain ⟨_,⟨rfl,hb4⟩,hc4⟩:=hx.elem hz
 refine xIx Tryz.underlying88 Zsx (h:=yL [_,_] ZsL hc4 0 (h:=xM (h:=xR Zu1 rfl (ZmR z om g.2 om om _) (h:=?_))))
 refine xA (h:=Za (xM (h:=ZF (h:=Zb rfl (fun g3=>?_) (fun g3=>?_)))))
 try simp only [sQ,ne_eq] at g3
 refine Za (xA (h:=Ze (Zy (Zk (ZN (Zy (Zk ?_)))))))
 exact eR t1 ⟨ZJ (Zfx hz hs ((ZbU hl).1 g3)).symm,rfl,rfl⟩
 try simp only [sQ,ne_eq] at g3
 refine ZY (ZS (Zo (Zj (xM (h:=xD (h:=xA (h:=?_)))))))
 exact ZE (g.1+1,szI g.2 (ZbV z)) [] so2 ⟨rfl,so,by have:=(Zck hl g3).1;rw [Zdv _ hz];simp only [];omega,g3⟩ t4 rfl
 try simp only [sQ,ne_eq] at g2
 refine ZD (ZW (ZG (Zs (Zo (Za (xM (h:=xA (h:=Ze ?_))))))))
 exact eR t1 ⟨ZJ (Zfy hs hl oz).symm,rfl,rfl⟩

theorem ZmP (q:Option Addr) (cp:Nat) (xs:List DMail) (left:Int) (hl0:0≤left) (hl1:left≤1048576) (B:Kn) (hx:SlB B q cp 3 Zg5 xs):Zaa (pj J) 126 [.slice q xs.length cp,.int .i64 left] B (.int .i64 (szI left (szL ZcZ xs))):=by
 refine cB 27 Tryz.func126 (h:=?_)
 have hxn:=hx.len
 refine Za (xA (h:=Za (xM (h:=xM (h:=xV Tryz.underlying89 (h:=xU (h:=xA (h:=Zc (Za (xM (h:=ZF (h:=Zb rfl (fun g1=>?_) (fun g1=>?_)))))))))))))
 try simp only [sQ,ne_eq] at g1
 refine Za (xA (h:=Ze (Zk ?_)))
 exact eR t1 ⟨ZJ (Zfz oz).symm,rfl,rfl⟩
 try simp only [sQ,ne_eq] at g1
 refine ZY ?_
 refine Zo ?_
 refine Zc ?_
 refine Za ?_
 refine Zq (Zcr rfl rfl rfl ?_)
 refine Zh ?_
 refine Zx (α:=Nat × Int) [0,11] (fun g=>[(1,.int .i64 g.2),(5,.int .i64 g.1)]) [] (fun g=>[]) (fun g Bx=>Bx=B∧g.1≤xs.length∧g.2=left - xs.length - ((xs.take g.1).map ZcZ).sum∧0≤g.2) (fun g=>xs.length - g.1) (0,left - ↑xs.length) ⟨rfl,rfl,trivial⟩ rfl (⟨rfl,Nat.zero_le _,by simp,g1⟩) (fun g B1 hle1 hI=>?_)
 obtain ⟨rfl,hk,hs,hl⟩:=hI
 refine ZC [(0,_),(1,_),(5,_),(11,_)] [] t4 rfl (Zc (Za (xM (h:=xM (h:=xV Tryz.underlying89 (h:=ZF (h:=Zb rfl (fun g2=>?_) (fun g2=>?_))))))))
 try simp only [sQ,ne_eq] at g2
 refine wSk (Zc (Zh (Za (xM (h:=xM (h:=?_))))))
 obtain ⟨z,hz⟩:=ZX (xs:=xs) (i:=g.1) om
 obtain ⟨bb3,oo3,rfl⟩:=hx.base hz
 obtain ⟨_,⟨rfl,hb4⟩,hc4⟩:=hx.elem hz
 refine xIx Tryz.underlying89 Zsw (h:=yL [_,_,_] ZsJ hc4 0 (h:=xM (h:=xR ZuD rfl (ZoK z om g.2 om om _) (h:=?_))))
 refine xA (h:=Za (xM (h:=ZF (h:=Zb rfl (fun g3=>?_) (fun g3=>?_)))))
 try simp only [sQ,ne_eq] at g3
 refine Za (xA (h:=Ze (Zy (Zk (ZN (Zy (Zk ?_)))))))
 exact eR t1 ⟨ZJ (Zfx hz hs ((ZbU hl).1 g3)).symm,rfl,rfl⟩
 try simp only [sQ,ne_eq] at g3
 refine ZY (ZS (Zo (Zj (xM (h:=xD (h:=xA (h:=?_)))))))
 exact ZE (g.1+1,szI g.2 (ZcZ z)) [] so2 ⟨rfl,so,by have:=(Zck hl g3).1;rw [Zdv _ hz];simp only [];omega,g3⟩ t4 rfl
 try simp only [sQ,ne_eq] at g2
 refine ZD (ZW (ZG (Zs (Zo (Za (xM (h:=xA (h:=Ze ?_))))))))
 exact eR t1 ⟨ZJ (Zfy hs hl oz).symm,rfl,rfl⟩

theorem ZoL (q:Option Addr) (cp:Nat) (x:DItem) (h1:x.fr.length≤140737488355328) (h2:x.text.length≤140737488355328) (left:Int) (hl0:0≤left) (hl1:left≤1048576) (B:Kn) (hx:SlB B q cp 1 Zjw x.left):Zaa (pj J) 93 [.agg #[.int .i64 x.id,str x.fr,str x.text,.slice q x.left.length cp],.int .i64 left] B (.int .i64 (szI left (Zbk x))):=by
 refine cB 26 Tryz.func93 (h:=?_)
 have hxn:=hx.len
 refine Za (xBx [_,_,_,_] (h:=fun b1=>xA (h:=tL1 (Za (xM (h:=xW ZnQ (h:=x1 lk9 0 (h:=xVs Tryz.underlying9 (h:=xU (h:=xA (h:=Zc (Za (xM (h:=ZF (h:=Zb rfl (fun g1=>?_) (fun g1=>?_))))))))))))))))
 try simp only [sQ,ne_eq] at g1
 refine Za (xA (h:=Ze (Zk ?_)))
 exact eR t1 ⟨ZJ (by rw [Zbt (by unfold Zbk;omega)]),rfl,rfl⟩
 try simp only [sQ,ne_eq] at g1
 refine wSk (Za (xM (h:=xW ZnP (h:=x1 lk9 0 (h:=xVs Tryz.underlying9 (h:=xU (h:=xA (h:=Zc (Za (xM (h:=ZF (h:=Zb rfl (fun g2=>?_) (fun g2=>?_)))))))))))))
 try simp only [sQ,ne_eq] at g2
 refine Za (xA (h:=Ze (Zk ?_)))
 exact eR t1 ⟨ZJ (by rw [Zbt (by unfold Zbk;omega)]),rfl,rfl⟩
 try simp only [sQ,ne_eq] at g2
 refine wSk (Za (xW ZnO (h:=x1 Zj6 0 (h:=xM (h:=?_)))))
 have hq2:=ZoJ (J:=J) _ _ x.left ((left - ↑x.fr.length) - ↑x.text.length) om om _ hx
 refine xR ZuZ rfl hq2 (h:=xA (h:=Zc (Za (xM (h:=ZF (h:=Zb rfl (fun g3=>?_) (fun g3=>?_)))))))
 try simp only [sQ,ne_eq] at g3
 have g3x:=(ZbU oz).1 g3
 refine Za (xA (h:=Ze (Zk ?_)))
 exact eR t1 ⟨ZJ (by rw [Zbt (by unfold Zbk ZeB;omega)]),rfl,rfl⟩
 try simp only [sQ,ne_eq] at g3
 have g3x:=Zck oz g3
 refine wSk (Za (xM (h:=xA (h:=Ze ?_))))
 exact eR t1 ⟨ZJ (by (try dsimp only at *);rw [ZkN (left:=left) (s:=Zbk x) (by unfold Zbk ZeB;omega)];unfold Zbk ZeB;omega),rfl,rfl⟩

theorem ZmQ (q:Option Addr) (cp:Nat) (xs:List DItem) (left:Int) (hl0:0≤left) (hl1:left≤1048576) (B:Kn) (hx:SlB B q cp 4 ZgX xs):Zaa (pj J) 52 [.slice q xs.length cp,.int .i64 left] B (.int .i64 (szI left (szL Zbk xs))):=by
 refine cB 27 Tryz.func52 (h:=?_)
 have hxn:=hx.len
 refine Za (xA (h:=Za (xM (h:=xM (h:=xV Tryz.underlying24 (h:=xU (h:=xA (h:=Zc (Za (xM (h:=ZF (h:=Zb rfl (fun g1=>?_) (fun g1=>?_)))))))))))))
 try simp only [sQ,ne_eq] at g1
 refine Za (xA (h:=Ze (Zk ?_)))
 exact eR t1 ⟨ZJ (Zfz oz).symm,rfl,rfl⟩
 try simp only [sQ,ne_eq] at g1
 refine ZY ?_
 refine Zo ?_
 refine Zc ?_
 refine Za ?_
 refine Zq (Zcr rfl rfl rfl ?_)
 refine Zh ?_
 refine Zx (α:=Nat × Int) [0,11] (fun g=>[(1,.int .i64 g.2),(5,.int .i64 g.1)]) [] (fun g=>[]) (fun g Bx=>Bx=B∧g.1≤xs.length∧g.2=left - xs.length - ((xs.take g.1).map Zbk).sum∧0≤g.2) (fun g=>xs.length - g.1) (0,left - ↑xs.length) ⟨rfl,rfl,trivial⟩ rfl (⟨rfl,Nat.zero_le _,by simp,g1⟩) (fun g B1 hle1 hI=>?_)
 obtain ⟨rfl,hk,hs,hl⟩:=hI
 refine ZC [(0,_),(1,_),(5,_),(11,_)] [] t4 rfl (Zc (Za (xM (h:=xM (h:=xV Tryz.underlying24 (h:=ZF (h:=Zb rfl (fun g2=>?_) (fun g2=>?_))))))))
 try simp only [sQ,ne_eq] at g2
 refine wSk (Zc (Zh (Za (xM (h:=xM (h:=?_))))))
 obtain ⟨z,hz⟩:=ZX (xs:=xs) (i:=g.1) om
 obtain ⟨bb3,oo3,rfl⟩:=hx.base hz
 obtain ⟨_,⟨qi4,ci4,rfl,hi4,hb4,hb4b⟩,hc4⟩:=hx.elem hz
 have hi4n:=hi4.len
 refine xIx Tryz.underlying24 Zsy (h:=yL [_,_,_,_] ZsM hc4 0 (h:=xM (h:=?_)))
 have hq5:=ZoL (J:=J) _ _ z om om g.2 om om _ hi4
 refine xR Zv9 rfl hq5 (h:=xA (h:=Za (xM (h:=ZF (h:=Zb rfl (fun g3=>?_) (fun g3=>?_))))))
 try simp only [sQ,ne_eq] at g3
 refine Za (xA (h:=Ze (Zy (Zk (ZN (Zy (Zk ?_)))))))
 exact eR t1 ⟨ZJ (Zfx hz hs ((ZbU hl).1 g3)).symm,rfl,rfl⟩
 try simp only [sQ,ne_eq] at g3
 refine ZY (ZS (Zo (Zj (xM (h:=xD (h:=xA (h:=?_)))))))
 exact ZE (g.1+1,szI g.2 (Zbk z)) [] so2 ⟨rfl,so,by have:=(Zck hl g3).1;rw [Zdv _ hz];simp only [];omega,g3⟩ t4 rfl
 try simp only [sQ,ne_eq] at g2
 refine ZD (ZW (ZG (Zs (Zo (Za (xM (h:=xA (h:=Ze ?_))))))))
 exact eR t1 ⟨ZJ (Zfy hs hl oz).symm,rfl,rfl⟩

theorem ZqT (q:Option Addr) (cp:Nat) (x:DBox) (left:Int) (hl0:0≤left) (hl1:left≤1048576) (B:Kn) (hx:SlB B q cp 3 Zg5 x.mail):Zaa (pj J) 92 [.agg #[.int .i64 x.next,.slice q x.mail.length cp],.int .i64 left] B (.int .i64 (szI left (szL ZcZ x.mail))):=by
 refine cB 12 Tryz.func92 (h:=?_)
 have hxn:=hx.len
 refine Za (xBx [_,_] (h:=fun b1=>xA (h:=tL1 (Za (xW Zqn (h:=x1 Zvz 0 (h:=xM (h:=?_))))))))
 have hq2:=ZmP (J:=J) _ _ x.mail left om om _ hx
 refine xR Zu0 rfl hq2 (h:=xA (h:=Zc (Za (xM (h:=ZF (h:=Zb rfl (fun g1=>?_) (fun g1=>?_)))))))
 try simp only [sQ,ne_eq] at g1
 have g1x:=(ZbU oz).1 g1
 refine Za (xA (h:=Ze (Zk ?_)))
 exact eR t1 ⟨ZJ (by rw [Zbt g1x]),rfl,rfl⟩
 try simp only [sQ,ne_eq] at g1
 refine wSk (Za (xM (h:=xA (h:=Ze ?_))))
 exact eR t1 ⟨rfl,rfl,rfl⟩

theorem ZmO (q:Option Addr) (cp:Nat) (x:DQueue) (left:Int) (hl0:0≤left) (hl1:left≤1048576) (B:Kn) (hx:SlB B q cp 4 ZgX x.items):Zaa (pj J) 16 [.agg #[.int .i64 x.next,.slice q x.items.length cp],.int .i64 left] B (.int .i64 (szI left (szL Zbk x.items))):=by
 refine cB 12 Tryz.func16 (h:=?_)
 have hxn:=hx.len
 refine Za (xBx [_,_] (h:=fun b1=>xA (h:=tL1 (Za (xW Zqu (h:=x1 ZvD 0 (h:=xM (h:=?_))))))))
 have hq2:=ZmQ (J:=J) _ _ x.items left om om _ hx
 refine xR ZwC rfl hq2 (h:=xA (h:=Zc (Za (xM (h:=ZF (h:=Zb rfl (fun g1=>?_) (fun g1=>?_)))))))
 try simp only [sQ,ne_eq] at g1
 have g1x:=(ZbU oz).1 g1
 refine Za (xA (h:=Ze (Zk ?_)))
 exact eR t1 ⟨ZJ (by rw [Zbt g1x]),rfl,rfl⟩
 try simp only [sQ,ne_eq] at g1
 refine wSk (Za (xM (h:=xA (h:=Ze ?_))))
 exact eR t1 ⟨rfl,rfl,rfl⟩

theorem Zlv (qa qb:Option Addr) (ca cb:Nat) (x:DFolder) (h1:x.owner.length≤140737488355328) (h2:x.name.length≤140737488355328) (left:Int) (hl0:0≤left) (hl1:left≤1048576) (B:Kn) (hx:SlB B qa ca 2 ZgY x.grants) (hy:SlB B qb cb 3 Zg5 x.mail):Zaa (pj J) 51 [.agg #[str x.owner,str x.name,.slice qa x.grants.length ca,.int .i64 x.next,.slice qb x.mail.length cb],.int .i64 left] B (.int .i64 (szI left (Zaq x))):=by
 refine cB 32 Tryz.func51 (h:=?_)
 have hxn:=hx.len
 have hyn:=hy.len
 refine Za (xBx [_,_,_,_,_] (h:=fun b1=>xA (h:=tL1 (Za (xM (h:=xW Zqm (h:=x1 lk9 0 (h:=xVs Tryz.underlying9 (h:=xU (h:=xA (h:=Zc (Za (xM (h:=ZF (h:=Zb rfl (fun g1=>?_) (fun g1=>?_))))))))))))))))
 try simp only [sQ,ne_eq] at g1
 refine Za (xA (h:=Ze (Zk ?_)))
 exact eR t1 ⟨ZJ (by rw [Zbt (by unfold Zaq;omega)]),rfl,rfl⟩
 try simp only [sQ,ne_eq] at g1
 refine wSk (Za (xM (h:=xW Zql (h:=x1 lk9 0 (h:=xVs Tryz.underlying9 (h:=xU (h:=xA (h:=Zc (Za (xM (h:=ZF (h:=Zb rfl (fun g2=>?_) (fun g2=>?_)))))))))))))
 try simp only [sQ,ne_eq] at g2
 refine Za (xA (h:=Ze (Zk ?_)))
 exact eR t1 ⟨ZJ (by rw [Zbt (by unfold Zaq;omega)]),rfl,rfl⟩
 try simp only [sQ,ne_eq] at g2
 refine wSk (Za (xW Zqk (h:=x1 ZvA 0 (h:=xM (h:=?_)))))
 have hq2:=Zlu (J:=J) _ _ x.grants ((left - ↑x.owner.length) - ↑x.name.length) om om _ hx
 refine xR Zwb rfl hq2 (h:=xA (h:=Zc (Za (xM (h:=ZF (h:=Zb rfl (fun g3=>?_) (fun g3=>?_)))))))
 try simp only [sQ,ne_eq] at g3
 have g3x:=(ZbU oz).1 g3
 refine Za (xA (h:=Ze (Zk ?_)))
 exact eR t1 ⟨ZJ (by rw [Zbt (by unfold Zaq;omega)]),rfl,rfl⟩
 try simp only [sQ,ne_eq] at g3
 have g3x:=Zck oz g3
 refine wSk (Za (xW Zqj (h:=xL [_,_] Zvy 0 (h:=xM (h:=?_)))))
 have hq3:=ZqT (J:=J) _ _ (⟨x.next,x.mail⟩:DBox) (szI ((left - ↑x.owner.length) - ↑x.name.length) (szL ZbV x.grants)) om om _ hy
 refine xR Zwa rfl hq3 (h:=xA (h:=Zc (Za (xM (h:=ZF (h:=Zb rfl (fun g4=>?_) (fun g4=>?_)))))))
 try simp only [sQ,ne_eq] at g4
 have g4x:=(ZbU oz).1 g4
 refine Za (xA (h:=Ze (Zk ?_)))
 exact eR t1 ⟨ZJ (by rw [Zbt (by unfold Zaq;omega)]),rfl,rfl⟩
 try simp only [sQ,ne_eq] at g4
 have g4x:=Zck oz g4
 refine wSk (Za (xM (h:=xA (h:=Ze ?_))))
 exact eR t1 ⟨ZJ (by (try dsimp only at *);rw [ZkN (left:=left) (s:=Zaq x) (by unfold Zaq;omega)];unfold Zaq;omega),rfl,rfl⟩

theorem ZjJ (q:Option Addr) (cp:Nat) (xs:List DFolder) (left:Int) (hl0:0≤left) (hl1:left≤1048576) (B:Kn) (hx:SlB B q cp 5 Zef xs):Zaa (pj J) 15 [.slice q xs.length cp,.int .i64 left] B (.int .i64 (szI left (szL Zaq xs))):=by
 refine cB 27 Tryz.func15 (h:=?_)
 have hxn:=hx.len
 refine Za (xA (h:=Za (xM (h:=xM (h:=xV Tryz.underlying23 (h:=xU (h:=xA (h:=Zc (Za (xM (h:=ZF (h:=Zb rfl (fun g1=>?_) (fun g1=>?_)))))))))))))
 try simp only [sQ,ne_eq] at g1
 refine Za (xA (h:=Ze (Zk ?_)))
 exact eR t1 ⟨ZJ (Zfz oz).symm,rfl,rfl⟩
 try simp only [sQ,ne_eq] at g1
 refine ZY ?_
 refine Zo ?_
 refine Zc ?_
 refine Za ?_
 refine Zq (Zcr rfl rfl rfl ?_)
 refine Zh ?_
 refine Zx (α:=Nat × Int) [0,11] (fun g=>[(1,.int .i64 g.2),(5,.int .i64 g.1)]) [] (fun g=>[]) (fun g Bx=>Bx=B∧g.1≤xs.length∧g.2=left - xs.length - ((xs.take g.1).map Zaq).sum∧0≤g.2) (fun g=>xs.length - g.1) (0,left - ↑xs.length) ⟨rfl,rfl,trivial⟩ rfl (⟨rfl,Nat.zero_le _,by simp,g1⟩) (fun g B1 hle1 hI=>?_)
 obtain ⟨rfl,hk,hs,hl⟩:=hI
 refine ZC [(0,_),(1,_),(5,_),(11,_)] [] t4 rfl (Zc (Za (xM (h:=xM (h:=xV Tryz.underlying23 (h:=ZF (h:=Zb rfl (fun g2=>?_) (fun g2=>?_))))))))
 try simp only [sQ,ne_eq] at g2
 refine wSk (Zc (Zh (Za (xM (h:=xM (h:=?_))))))
 obtain ⟨z,hz⟩:=ZX (xs:=xs) (i:=g.1) om
 obtain ⟨bb3,oo3,rfl⟩:=hx.base hz
 obtain ⟨_,⟨qg4,cg4,qm4,cm4,rfl,hg4,hm4,hb4,hb4b⟩,hc4⟩:=hx.elem hz
 have hg4n:=hg4.len
 have hm4n:=hm4.len
 refine xIx Tryz.underlying23 Zvp (h:=yL [_,_,_,_,_] Zvx hc4 0 (h:=xM (h:=?_)))
 have hq5:=Zlv (J:=J) _ _ _ _ z om om g.2 om om _ hg4 hm4
 refine xR ZwD rfl hq5 (h:=xA (h:=Za (xM (h:=ZF (h:=Zb rfl (fun g3=>?_) (fun g3=>?_))))))
 try simp only [sQ,ne_eq] at g3
 refine Za (xA (h:=Ze (Zy (Zk (ZN (Zy (Zk ?_)))))))
 exact eR t1 ⟨ZJ (Zfx hz hs ((ZbU hl).1 g3)).symm,rfl,rfl⟩
 try simp only [sQ,ne_eq] at g3
 refine ZY (ZS (Zo (Zj (xM (h:=xD (h:=xA (h:=?_)))))))
 exact ZE (g.1+1,szI g.2 (Zaq z)) [] so2 ⟨rfl,so,by have:=(Zck hl g3).1;rw [Zdv _ hz];simp only [];omega,g3⟩ t4 rfl
 try simp only [sQ,ne_eq] at g2
 refine ZD (ZW (ZG (Zs (Zo (Za (xM (h:=xA (h:=Ze ?_))))))))
 exact eR t1 ⟨ZJ (Zfy hs hl oz).symm,rfl,rfl⟩

theorem ZoM (q1 q2 q3:Option Addr) (c1 c2 c3:Nat) (x:DHost) (hd:x.domain.length≤140737488355328) (left:Int) (hl0:0≤left) (hl1:left≤1048576) (B:Kn) (hu:SlB B q1 c1 3 Zjv x.users) (hf:SlB B q2 c2 5 Zef x.folders) (hi:SlB B q3 c3 4 ZgX x.queue.items):Zaa (pj J) 5 [.agg #[str x.domain,.slice q1 x.users.length c1,.slice q2 x.folders.length c2,.int .i64 x.queue.next,.slice q3 x.queue.items.length c3],.int .i64 left] B (.int .i64 (szI left (Zc0 x))):=by
 refine cB 31 Tryz.func5 (h:=?_)
 have hun:=hu.len
 have hfn:=hf.len
 have hin:=hi.len
 refine Za (xBx [_,_,_,_,_] (h:=fun b1=>xA (h:=tL1 (Za (xM (h:=xW Zqt (h:=x1 lk9 0 (h:=xVs Tryz.underlying9 (h:=xU (h:=xA (h:=Zc (Za (xM (h:=ZF (h:=Zb rfl (fun g1=>?_) (fun g1=>?_))))))))))))))))
 try simp only [sQ,ne_eq] at g1
 refine Za (xA (h:=Ze (Zk ?_)))
 exact eR t1 ⟨ZJ (by rw [Zbt (by unfold Zc0;omega)]),rfl,rfl⟩
 try simp only [sQ,ne_eq] at g1
 refine wSk (Za (xW Zqs (h:=x1 ZvF 0 (h:=xM (h:=?_)))))
 have hq2:=ZmN (J:=J) _ _ x.users (left - ↑x.domain.length) om om _ hu
 refine xR Zw0 rfl hq2 (h:=xA (h:=Zc (Za (xM (h:=ZF (h:=Zb rfl (fun g2=>?_) (fun g2=>?_)))))))
 try simp only [sQ,ne_eq] at g2
 have g2x:=(ZbU oz).1 g2
 refine Za (xA (h:=Ze (Zk ?_)))
 exact eR t1 ⟨ZJ (by rw [Zbt (by unfold Zc0;omega)]),rfl,rfl⟩
 try simp only [sQ,ne_eq] at g2
 have g2x:=Zck oz g2
 refine wSk (Za (xW Zqr (h:=x1 ZvE 0 (h:=xM (h:=?_)))))
 have hq3:=ZjJ (J:=J) _ _ x.folders (szI (left - ↑x.domain.length) (szL ZcD x.users)) om om _ hf
 refine xR ZwZ rfl hq3 (h:=xA (h:=Zc (Za (xM (h:=ZF (h:=Zb rfl (fun g3=>?_) (fun g3=>?_)))))))
 try simp only [sQ,ne_eq] at g3
 have g3x:=(ZbU oz).1 g3
 refine Za (xA (h:=Ze (Zk ?_)))
 exact eR t1 ⟨ZJ (by rw [Zbt (by unfold Zc0;omega)]),rfl,rfl⟩
 try simp only [sQ,ne_eq] at g3
 have g3x:=Zck oz g3
 refine wSk (Za (xW Zqq (h:=xL [_,_] ZvC 0 (h:=xM (h:=?_)))))
 have hq4:=ZmO (J:=J) _ _ (⟨x.queue.next,x.queue.items⟩:DQueue) (szI (szI (left - ↑x.domain.length) (szL ZcD x.users)) (szL Zaq x.folders)) om om _ hi
 refine xR ZwY rfl hq4 (h:=xA (h:=Zc (Za (xM (h:=ZF (h:=Zb rfl (fun g4=>?_) (fun g4=>?_)))))))
 try simp only [sQ,ne_eq] at g4
 have g4x:=(ZbU oz).1 g4
 refine Za (xA (h:=Ze (Zk ?_)))
 exact eR t1 ⟨ZJ (by rw [Zbt (by unfold Zc0;omega)]),rfl,rfl⟩
 try simp only [sQ,ne_eq] at g4
 have g4x:=Zck oz g4
 refine wSk (Za (xM (h:=xA (h:=Ze ?_))))
 exact eR t1 ⟨ZJ (by (try dsimp only at *);rw [ZkN (left:=left) (s:=Zc0 x) (by unfold Zc0;omega)];unfold Zc0;omega),rfl,rfl⟩

theorem ZoD (x:DUser)  (B:Kn):Zaa (pj J) 64 [.agg #[str x.name,str x.pass,.int .i64 x.quota]] B (.agg #[str x.name,str x.pass,.int .i64 x.quota]):=by
 refine cB 14 Tryz.func64 (h:=?_)
 refine Za (xBx [_,_,_] (h:=fun b1=>xAl [_,_,_] ZhB (h:=fun b2=>tL2 (Za (xAl [_,_,_] ZhB (h:=fun b3=>tL3 (Za (xW Zqp (h:=x1 lk9 0 (h:=xW ZbP (h:=xS [_] 2 [_,_,_] sz9 (h:=tL3 (Za (xW Zqo (h:=x1 lk9 0 (h:=xW ZgJ (h:=xS [_] 2 [_,_,_] sz9 (h:=tL3 (Za (xW ZsU (h:=x1 lk3 0 (h:=xW ZeE (h:=xS [_] 2 [_,_,_] sz3 (h:=tL3 (Za (xL [_,_,_] Zjx 2 (h:=xS [_,_,_] 1 [_,_,_] ZdR (h:=tL3 (Ze ?_)))))))))))))))))))))))))))))
 exact eR ⟨⟨_,rfl,.inr ⟨[_,_,_],Zjx,ZbX 1 rfl rfl rfl,rfl⟩⟩,trivial⟩ ⟨rfl,rfl,rfl⟩

theorem ZmJ (x:DGrant)  (B:Kn):Zaa (pj J) 131 [.agg #[str x.user,.int .i64 x.rights]] B (.agg #[str x.user,.int .i64 x.rights]):=by
 refine cB 11 Tryz.func131 (h:=?_)
 refine Za (xBx [_,_] (h:=fun b1=>xAl [_,_] Zij (h:=fun b2=>tL2 (Za (xAl [_,_] Zij (h:=fun b3=>tL3 (Za (xW ZnL (h:=x1 lk9 0 (h:=xW Zco (h:=xS [_] 2 [_,_] sz9 (h:=tL3 (Za (xW Zrz (h:=x1 lk3 0 (h:=xW ZdE (h:=xS [_] 2 [_,_] sz3 (h:=tL3 (Za (xL [_,_] Znn 2 (h:=xS [_,_] 1 [_,_] Zdu (h:=tL3 (Ze ?_)))))))))))))))))))))))
 exact eR ⟨⟨_,rfl,.inr ⟨[_,_],Znn,ZbX 1 rfl rfl rfl,rfl⟩⟩,trivial⟩ ⟨rfl,rfl,rfl⟩

theorem ZoF (x:DMail)  (B:Kn):Zaa (pj J) 162 [.agg #[.int .i64 x.uid,.int .i64 x.flags,str x.text]] B (.agg #[.int .i64 x.uid,.int .i64 x.flags,str x.text]):=by
 refine cB 14 Tryz.func162 (h:=?_)
 refine Za (xBx [_,_,_] (h:=fun b1=>xAl [_,_,_] ZhC (h:=fun b2=>tL2 (Za (xAl [_,_,_] ZhC (h:=fun b3=>tL3 (Za (xW Zry (h:=x1 lk3 0 (h:=xW Zcn (h:=xS [_] 2 [_,_,_] sz3 (h:=tL3 (Za (xW Zrx (h:=x1 lk3 0 (h:=xW ZeW (h:=xS [_] 2 [_,_,_] sz3 (h:=tL3 (Za (xW ZnK (h:=x1 lk9 0 (h:=xW ZdD (h:=xS [_] 2 [_,_,_] sz9 (h:=tL3 (Za (xL [_,_,_] ZiV 2 (h:=xS [_,_,_] 1 [_,_,_] ZcE (h:=tL3 (Ze ?_)))))))))))))))))))))))))))))
 exact eR ⟨⟨_,rfl,.inr ⟨[_,_,_],ZiV,ZbX 1 rfl rfl rfl,rfl⟩⟩,trivial⟩ ⟨rfl,rfl,rfl⟩

theorem ZoE (q:Option Addr) (cp:Nat) (xs:List Str) (hx20:ZeB xs≤1048576) (B:Kn) (hx:SlK B q cp 1 ZcT xs):ZA (pj J) 133 [.slice q xs.length cp] B [] (fun v B' Ls=>∃q c l,v = .slice q xs.length c∧B'=B∧Ls=[l]∧ZU Kn.none l q c 9 1 ZcT xs):=by
 refine cB 22 Tryz.func133 (h:=?_)
 have hxn:=hx.len
 have hx21:=ZqV hx20
 refine Za (xA (h:=Za (xM (h:=xV Tryz.underlying99 (h:=Zq (Za7 (m:=xs.length) (c:=xs.length) (by_:=16) [.string ⟨#[]⟩] rfl rfl Zs3 zo9 rfl rfl ⟨_,_,rfl,by first | omega | (simp;done) | (simp;omega)⟩ ⟨_,_,rfl,by first | omega | (simp;done) | (simp;omega)⟩ om om (fun b1=>?_)))))))
 have hv1:=ZU.zeros (B:=Kn.none) (b:=b1) (T:=9) (R:=ZcT) (d:=([]:Str)) (m:=xs.length) (c:=xs.length) (zs:=[.string ⟨#[]⟩]) rfl (⟨rfl,by simp⟩) om
 refine xA (h:=tL1 (Zc (Za (xA (h:=Zh (Zx (α:=Nat × Cells) [0,2] (fun g=>[(3,.slice (some ⟨b1,0,none⟩) xs.length xs.length),(4,.int .i64 g.1)]) [0] (fun g=>[g.2]) (fun g Bx=>Bx=B∧g.1≤xs.length∧ZU Kn.none g.2 (some ⟨b1,0,none⟩) xs.length 9 1 ZcT (fill xs ([]:Str) g.1)) (fun g=>xs.length - g.1) (0,_) t2 rfl (⟨rfl,Nat.zero_le _,by rw [Zdk];exact hv1⟩) (fun g B2 hle2 hI=>?_)))))))
 obtain ⟨rfl,hk,hvl⟩:=hI
 have hfl:=Zen (d:=([]:Str)) hk
 refine ZC [(0,_),(2,_),(3,_),(4,_)] [_] t4 rfl (Zc (Za (xM (h:=xM (h:=xV Tryz.underlying99 (h:=ZF (h:=Zb rfl (fun g1=>?_) (fun g1=>?_))))))))
 try simp only [sQ,ne_eq] at g1
 refine wSk (Zc (Zh (Zj (xM (h:=xM (h:=xM (h:=xM (h:=?_))))))))
 obtain ⟨z,hz⟩:=ZX (xs:=xs) (i:=g.1) om
 obtain ⟨bb4,oo4,rfl⟩:=hx.base hz
 obtain ⟨_,⟨rfl,hb5⟩,hc5⟩:=hx.elem hz
 refine xIx Tryz.underlying99 sz9 (h:=y1 lk9 hc5 0 (h:=xIp rfl Tryz.underlying99 sz9 (h:=Zq (Zov (R:=ZcT) (k:=g.1) (z) 0 rfl hvl rfl om rfl rfl sz9 rfl rfl rfl rfl rfl (⟨rfl,by first | assumption | omega | (simp;omega)⟩) (fun l7 hv7=>?_)))))
 refine ZS (Zo (Zj (xM (h:=xD (h:=xA (h:=?_))))))
 exact ZE (g.1+1,l7) [0] so2 ⟨rfl,so,by rw [← Zdl hz];exact hv7⟩ t4 rfl
 try simp only [sQ,ne_eq] at g1
 refine ZD (ZW (ZG (Zs (Zo (Za (xM (h:=xA (h:=Ze ?_))))))))
 exact eN [0] rfl t1 ⟨_,_,_,rfl,rfl,rfl,by have e:=hvl;rw [Zeo oz] at e;exact e⟩

theorem ZmF (q:Option Addr) (cp:Nat) (xs:List DUser) (hx20:szL ZcD xs≤1048576) (B:Kn) (hx:SlK B q cp 3 Zt xs):ZA (pj J) 24 [.slice q xs.length cp] B [] (fun v B' Ls=>∃q c l,v = .slice q xs.length c∧B'=B∧Ls=[l]∧ZU Kn.none l q c 97 3 Zt xs):=by
 refine cB 23 Tryz.func24 (h:=?_)
 have hxn:=hx.len
 have hx21:=(ZaN hx20).1
 refine Za (xA (h:=Za (xM (h:=xV Tryz.underlying22 (h:=Zq (Za7 (m:=xs.length) (c:=xs.length) (by_:=40) [.string ⟨#[]⟩,.string ⟨#[]⟩,.int .i64 0] rfl rfl Zl8 ZhB rfl rfl ⟨_,_,rfl,by first | omega | (simp;done) | (simp;omega)⟩ ⟨_,_,rfl,by first | omega | (simp;done) | (simp;omega)⟩ om om (fun b1=>?_)))))))
 have hv1:=ZU.zeros (B:=Kn.none) (b:=b1) (T:=97) (R:=Zt) (d:=(⟨[],[],0⟩:DUser)) (m:=xs.length) (c:=xs.length) (zs:=[.string ⟨#[]⟩,.string ⟨#[]⟩,.int .i64 0]) rfl (⟨rfl,by simp,by simp⟩) om
 refine xA (h:=tL1 (Zc (Za (xA (h:=Zh (Zx (α:=Nat × Cells) [0,2] (fun g=>[(3,.slice (some ⟨b1,0,none⟩) xs.length xs.length),(4,.int .i64 g.1)]) [0] (fun g=>[g.2]) (fun g Bx=>Bx=B∧g.1≤xs.length∧ZU Kn.none g.2 (some ⟨b1,0,none⟩) xs.length 97 3 Zt (fill xs (⟨[],[],0⟩:DUser) g.1)) (fun g=>xs.length - g.1) (0,_) t2 rfl (⟨rfl,Nat.zero_le _,by rw [Zdk];exact hv1⟩) (fun g B2 hle2 hI=>?_)))))))
 obtain ⟨rfl,hk,hvl⟩:=hI
 have hfl:=Zen (d:=(⟨[],[],0⟩:DUser)) hk
 refine ZC [(0,_),(2,_),(3,_),(4,_)] [_] t4 rfl (Zc (Za (xM (h:=xM (h:=xV Tryz.underlying22 (h:=ZF (h:=Zb rfl (fun g1=>?_) (fun g1=>?_))))))))
 try simp only [sQ,ne_eq] at g1
 refine wSk (Zc (Zh (Zj (xM (h:=xM (h:=xM (h:=xM (h:=?_))))))))
 obtain ⟨z,hz⟩:=ZX (xs:=xs) (i:=g.1) om
 obtain ⟨bb4,oo4,rfl⟩:=hx.base hz
 obtain ⟨_,⟨rfl,hb5,hb5b⟩,hc5⟩:=hx.elem hz
 refine xIx Tryz.underlying22 Zvq (h:=yL [_,_,_] ZvB hc5 0 (h:=xR Zwt rfl (ZoD z  _) (h:=xIp rfl Tryz.underlying30 ZdR (h:=Zq (Zov (R:=Zt) (k:=g.1) (z) 0 rfl hvl rfl om rfl rfl ZdR rfl rfl rfl rfl rfl (⟨rfl,by first | assumption | omega | (simp;done) | (simp;omega),by first | assumption | omega | (simp;done) | (simp;omega)⟩) (fun l8 hv8=>?_))))))
 refine ZS (Zo (Zj (xM (h:=xD (h:=xA (h:=?_))))))
 exact ZE (g.1+1,l8) [0] so2 ⟨rfl,so,by rw [← Zdl hz];exact hv8⟩ t4 rfl
 try simp only [sQ,ne_eq] at g1
 refine ZD (ZW (ZG (Zs (Zo (Za (xM (h:=xA (h:=Ze ?_))))))))
 exact eN [0] rfl t1 ⟨_,_,_,rfl,rfl,rfl,by have e:=hvl;rw [Zeo oz] at e;exact e⟩

theorem Zls (q:Option Addr) (cp:Nat) (xs:List DGrant) (hx20:szL ZbV xs≤1048576) (B:Kn) (hx:SlK B q cp 2 ZZ xs):ZA (pj J) 100 [.slice q xs.length cp] B [] (fun v B' Ls=>∃q c l,v = .slice q xs.length c∧B'=B∧Ls=[l]∧ZU Kn.none l q c 109 2 ZZ xs):=by
 refine cB 23 Tryz.func100 (h:=?_)
 have hxn:=hx.len
 have hx21:=(ZaN hx20).1
 refine Za (xA (h:=Za (xM (h:=xV Tryz.underlying88 (h:=Zq (Za7 (m:=xs.length) (c:=xs.length) (by_:=24) [.string ⟨#[]⟩,.int .i64 0] rfl rfl Zub Zij rfl rfl ⟨_,_,rfl,by first | omega | (simp;done) | (simp;omega)⟩ ⟨_,_,rfl,by first | omega | (simp;done) | (simp;omega)⟩ om om (fun b1=>?_)))))))
 have hv1:=ZU.zeros (B:=Kn.none) (b:=b1) (T:=109) (R:=ZZ) (d:=(⟨[],0⟩:DGrant)) (m:=xs.length) (c:=xs.length) (zs:=[.string ⟨#[]⟩,.int .i64 0]) rfl (⟨rfl,by simp⟩) om
 refine xA (h:=tL1 (Zc (Za (xA (h:=Zh (Zx (α:=Nat × Cells) [0,2] (fun g=>[(3,.slice (some ⟨b1,0,none⟩) xs.length xs.length),(4,.int .i64 g.1)]) [0] (fun g=>[g.2]) (fun g Bx=>Bx=B∧g.1≤xs.length∧ZU Kn.none g.2 (some ⟨b1,0,none⟩) xs.length 109 2 ZZ (fill xs (⟨[],0⟩:DGrant) g.1)) (fun g=>xs.length - g.1) (0,_) t2 rfl (⟨rfl,Nat.zero_le _,by rw [Zdk];exact hv1⟩) (fun g B2 hle2 hI=>?_)))))))
 obtain ⟨rfl,hk,hvl⟩:=hI
 have hfl:=Zen (d:=(⟨[],0⟩:DGrant)) hk
 refine ZC [(0,_),(2,_),(3,_),(4,_)] [_] t4 rfl (Zc (Za (xM (h:=xM (h:=xV Tryz.underlying88 (h:=ZF (h:=Zb rfl (fun g1=>?_) (fun g1=>?_))))))))
 try simp only [sQ,ne_eq] at g1
 refine wSk (Zc (Zh (Zj (xM (h:=xM (h:=xM (h:=xM (h:=?_))))))))
 obtain ⟨z,hz⟩:=ZX (xs:=xs) (i:=g.1) om
 obtain ⟨bb4,oo4,rfl⟩:=hx.base hz
 obtain ⟨_,⟨rfl,hb5⟩,hc5⟩:=hx.elem hz
 refine xIx Tryz.underlying88 Zsx (h:=yL [_,_] ZsL hc5 0 (h:=xR ZuW rfl (ZmJ z  _) (h:=xIp rfl Tryz.underlying54 Zdu (h:=Zq (Zov (R:=ZZ) (k:=g.1) (z) 0 rfl hvl rfl om rfl rfl Zdu rfl rfl rfl rfl rfl (⟨rfl,by first | assumption | omega | (simp;done) | (simp;omega)⟩) (fun l8 hv8=>?_))))))
 refine ZS (Zo (Zj (xM (h:=xD (h:=xA (h:=?_))))))
 exact ZE (g.1+1,l8) [0] so2 ⟨rfl,so,by rw [← Zdl hz];exact hv8⟩ t4 rfl
 try simp only [sQ,ne_eq] at g1
 refine ZD (ZW (ZG (Zs (Zo (Za (xM (h:=xA (h:=Ze ?_))))))))
 exact eN [0] rfl t1 ⟨_,_,_,rfl,rfl,rfl,by have e:=hvl;rw [Zeo oz] at e;exact e⟩

theorem ZmH (q:Option Addr) (cp:Nat) (xs:List DMail) (hx20:szL ZcZ xs≤1048576) (B:Kn) (hx:SlK B q cp 3 Z9 xs):ZA (pj J) 132 [.slice q xs.length cp] B [] (fun v B' Ls=>∃q c l,v = .slice q xs.length c∧B'=B∧Ls=[l]∧ZU Kn.none l q c 164 3 Z9 xs):=by
 refine cB 23 Tryz.func132 (h:=?_)
 have hxn:=hx.len
 have hx21:=(ZaN hx20).1
 refine Za (xA (h:=Za (xM (h:=xV Tryz.underlying89 (h:=Zq (Za7 (m:=xs.length) (c:=xs.length) (by_:=32) [.int .i64 0,.int .i64 0,.string ⟨#[]⟩] rfl rfl Zua ZhC rfl rfl ⟨_,_,rfl,by first | omega | (simp;done) | (simp;omega)⟩ ⟨_,_,rfl,by first | omega | (simp;done) | (simp;omega)⟩ om om (fun b1=>?_)))))))
 have hv1:=ZU.zeros (B:=Kn.none) (b:=b1) (T:=164) (R:=Z9) (d:=(⟨0,0,[]⟩:DMail)) (m:=xs.length) (c:=xs.length) (zs:=[.int .i64 0,.int .i64 0,.string ⟨#[]⟩]) rfl (⟨rfl,by simp⟩) om
 refine xA (h:=tL1 (Zc (Za (xA (h:=Zh (Zx (α:=Nat × Cells) [0,2] (fun g=>[(3,.slice (some ⟨b1,0,none⟩) xs.length xs.length),(4,.int .i64 g.1)]) [0] (fun g=>[g.2]) (fun g Bx=>Bx=B∧g.1≤xs.length∧ZU Kn.none g.2 (some ⟨b1,0,none⟩) xs.length 164 3 Z9 (fill xs (⟨0,0,[]⟩:DMail) g.1)) (fun g=>xs.length - g.1) (0,_) t2 rfl (⟨rfl,Nat.zero_le _,by rw [Zdk];exact hv1⟩) (fun g B2 hle2 hI=>?_)))))))
 obtain ⟨rfl,hk,hvl⟩:=hI
 have hfl:=Zen (d:=(⟨0,0,[]⟩:DMail)) hk
 refine ZC [(0,_),(2,_),(3,_),(4,_)] [_] t4 rfl (Zc (Za (xM (h:=xM (h:=xV Tryz.underlying89 (h:=ZF (h:=Zb rfl (fun g1=>?_) (fun g1=>?_))))))))
 try simp only [sQ,ne_eq] at g1
 refine wSk (Zc (Zh (Zj (xM (h:=xM (h:=xM (h:=xM (h:=?_))))))))
 obtain ⟨z,hz⟩:=ZX (xs:=xs) (i:=g.1) om
 obtain ⟨bb4,oo4,rfl⟩:=hx.base hz
 obtain ⟨_,⟨rfl,hb5⟩,hc5⟩:=hx.elem hz
 refine xIx Tryz.underlying89 Zsw (h:=yL [_,_,_] ZsJ hc5 0 (h:=xR ZuA rfl (ZoF z  _) (h:=xIp rfl Tryz.underlying57 ZcE (h:=Zq (Zov (R:=Z9) (k:=g.1) (z) 0 rfl hvl rfl om rfl rfl ZcE rfl rfl rfl rfl rfl (⟨rfl,by first | assumption | omega | (simp;done) | (simp;omega)⟩) (fun l8 hv8=>?_))))))
 refine ZS (Zo (Zj (xM (h:=xD (h:=xA (h:=?_))))))
 exact ZE (g.1+1,l8) [0] so2 ⟨rfl,so,by rw [← Zdl hz];exact hv8⟩ t4 rfl
 try simp only [sQ,ne_eq] at g1
 refine ZD (ZW (ZG (Zs (Zo (Za (xM (h:=xA (h:=Ze ?_))))))))
 exact eN [0] rfl t1 ⟨_,_,_,rfl,rfl,rfl,by have e:=hvl;rw [Zeo oz] at e;exact e⟩

theorem ZoG (q:Option Addr) (cp:Nat) (x:DItem) (B:Kn) (hx:SlK B q cp 1 ZcT x.left) (hl:ZeB x.left≤1048576):ZA (pj J) 102 [.agg #[.int .i64 x.id,str x.fr,str x.text,.slice q x.left.length cp]] B [] (fun v B' Ls=>∃q0 c0 l0,v = .agg #[.int .i64 x.id,str x.fr,str x.text,.slice q0 x.left.length c0]∧B'=B∧Ls=[l0]∧ZU Kn.none l0 q0 c0 9 1 ZcT x.left):=by
 refine cB 18 Tryz.func102 (h:=?_)
 refine Za (xBx [_,_,_,_] (h:=fun b1=>xAl [_,_,_,_] Zeu (h:=fun b2=>tL2 (Za (xAl [_,_,_,_] Zeu (h:=fun b3=>tL3 (Za (xW ZrA (h:=x1 lk3 0 (h:=xW ZdG (h:=xS [_] 2 [_,_,_,_] sz3 (h:=tL3 (Za (xW ZnQ (h:=x1 lk9 0 (h:=xW ZdF (h:=xS [_] 2 [_,_,_,_] sz9 (h:=tL3 (Za (xW ZnP (h:=x1 lk9 0 (h:=xW ZeX (h:=xS [_] 2 [_,_,_,_] sz9 (h:=tL3 (Za (xW ZnO (h:=x1 Zj6 0 (h:=xC ZuU rfl (ZoE _ _ x.left om2 _ hx) (h:=?_)))))))))))))))))))))))))))))
 rintro _ B4 _ hle4 ⟨q4,c4,l4,rfl,rfl,rfl,hv4⟩
 refine xW Zb5 (h:=xS [_] 2 [_,_,_,_] ZtQ (h:=tL4 (Za (xL [_,_,_,_] Zd2 2 (h:=xS [_,_,_,_] 1 [_,_,_,_] Zbd (h:=tL4 (Ze ?_)))))))
 exact eN [3] rfl ⟨⟨_,rfl,.inr ⟨[_,_,_,_],Zd2,ZbX 1 rfl rfl rfl,rfl⟩⟩,trivial⟩ ⟨_,_,_,rfl,rfl,rfl,hv4⟩

theorem ZmI (q:Option Addr) (cp:Nat) (xs:List DItem) (hx20:szL Zbk xs≤1048576) (B:Kn) (hx:SlK B q cp 4 ZI xs):ZA (pj J) 66 [.slice q xs.length cp] B [] (fun v B' Ls=>∃q c l,v = .slice q xs.length c∧B'=B∧Ls=[l]∧ZaR l q c 101 4 (Za4 9) xs):=by
 refine cB 23 Tryz.func66 (h:=?_)
 have hxn:=hx.len
 have hx21:=(ZaN hx20).1
 refine Za (xA (h:=Za (xM (h:=xV Tryz.underlying24 (h:=Zq (Za7 (m:=xs.length) (c:=xs.length) (by_:=64) [.int .i64 0,.string ⟨#[]⟩,.string ⟨#[]⟩,.slice none 0 0] rfl rfl Zuc Zeu rfl rfl ⟨_,_,rfl,by first | omega | (simp;done) | (simp;omega)⟩ ⟨_,_,rfl,by first | omega | (simp;done) | (simp;omega)⟩ om om (fun b1=>?_)))))))
 have hd1:=ZaR.zeros (b:=b1) (T:=101) (R:=Za4 9) (d:=(⟨0,[],[],[]⟩:DItem)) (m:=xs.length) (c:=xs.length) (zs:=[.int .i64 0,.string ⟨#[]⟩,.string ⟨#[]⟩,.slice none 0 0]) rfl (⟨_,_,rfl,ZU.nil,by simp,by simp,by simp⟩) om
 refine xA (h:=tL1 (Zc (Za (xA (h:=Zh (Zx (α:=Nat × Cells) [0,2] (fun g=>[(3,.slice (some ⟨b1,0,none⟩) xs.length xs.length),(4,.int .i64 g.1)]) [0] (fun g=>[g.2]) (fun g Bx=>Bx=B∧g.1≤xs.length∧ZaR g.2 (some ⟨b1,0,none⟩) xs.length 101 4 (Za4 9) (fill xs (⟨0,[],[],[]⟩:DItem) g.1)) (fun g=>xs.length - g.1) (0,_) t2 rfl (⟨rfl,Nat.zero_le _,by rw [Zdk];exact hd1⟩) (fun g B2 hle2 hI=>?_)))))))
 obtain ⟨rfl,hk,hvl⟩:=hI
 have hfl:=Zen (d:=(⟨0,[],[],[]⟩:DItem)) hk
 refine ZC [(0,_),(2,_),(3,_),(4,_)] [_] t4 rfl (Zc (Za (xM (h:=xM (h:=xV Tryz.underlying24 (h:=ZF (h:=Zb rfl (fun g1=>?_) (fun g1=>?_))))))))
 try simp only [sQ,ne_eq] at g1
 refine wSk (Zc (Zh (Zj (xM (h:=xM (h:=xM (h:=xM (h:=?_))))))))
 obtain ⟨z,hz⟩:=ZX (xs:=xs) (i:=g.1) om
 obtain ⟨bb4,oo4,rfl⟩:=hx.base hz
 obtain ⟨_,⟨qi5,ci5,rfl,hi5,hb5,hb5b⟩,hc5⟩:=hx.elem hz
 have hi5n:=hi5.len
 refine xIx Tryz.underlying24 Zsy (h:=?_)
 have hzz:=(ZaN hx20).2 z (List.mem_of_getElem? hz)
 have hza:=Zrm hzz
 refine yL [_,_,_,_] ZsM hc5 0 (h:=xC Zvi rfl (ZoG _ _ z _ hi5 om2) (h:=?_))
 rintro _ B6 _ hle6 ⟨q6,c6,l6,rfl,rfl,rfl,hv6⟩
 refine xIp rfl Tryz.underlying32 Zbd (h:=Zq (Zr2 (R:=Za4 9) (k:=g.1) (z) 0 [1] rfl rfl hvl rfl om rfl rfl Zbd rfl rfl rfl rfl rfl (l6) (by simp) (⟨_,_,rfl,hv6,by first | assumption | omega | (simp;done) | (simp;omega),by first | assumption | omega | (simp;done) | (simp;omega),by first | assumption | omega | (simp;done) | (simp;omega)⟩) (fun l8 hd8=>?_)))
 refine ZS (Zo (Zj (xM (h:=xD (h:=xA (h:=?_))))))
 exact ZE (g.1+1,l8) [0] so2 ⟨rfl,so,by rw [← Zdl hz];exact hd8⟩ t4 rfl
 try simp only [sQ,ne_eq] at g1
 refine ZD (ZW (ZG (Zs (Zo (Za (xM (h:=xA (h:=Ze ?_))))))))
 exact eN [0] rfl t1 ⟨_,_,_,rfl,rfl,rfl,by have e:=hvl;rw [Zeo oz] at e;exact e⟩

theorem ZmG (q:Option Addr) (cp:Nat) (x:DQueue) (B:Kn) (hx:SlK B q cp 4 ZI x.items) (hl:szL Zbk x.items≤1048576):ZA (pj J) 26 [.agg #[.int .i64 x.next,.slice q x.items.length cp]] B [] (fun v B' Ls=>∃q0 c0 l0,v = .agg #[.int .i64 x.next,.slice q0 x.items.length c0]∧B'=B∧Ls=[l0]∧ZaR l0 q0 c0 101 4 (Za4 9) x.items):=by
 refine cB 12 Tryz.func26 (h:=?_)
 refine Za (xBx [_,_] (h:=fun b1=>xAl [_,_] Zor (h:=fun b2=>tL2 (Za (xAl [_,_] Zor (h:=fun b3=>tL3 (Za (xW ZsV (h:=x1 lk3 0 (h:=xW Zfn (h:=xS [_] 2 [_,_] sz3 (h:=tL3 (Za (xW Zqu (h:=x1 ZvD 0 (h:=xC Zwr rfl (ZmI _ _ x.items om2 _ hx) (h:=?_)))))))))))))))))
 rintro _ B4 _ hle4 ⟨q4,c4,l4,rfl,rfl,rfl,hv4⟩
 refine xW Zbp (h:=xS [_] 2 [_,_] ZtS (h:=tL4 (Za (xL [_,_] Zjz 2 (h:=xS [_,_] 1 [_,_] ZqU (h:=tL4 (Ze ?_)))))))
 exact eN [3] rfl ⟨⟨_,rfl,.inr ⟨[_,_],Zjz,ZbX 1 rfl rfl rfl,rfl⟩⟩,trivial⟩ ⟨_,_,_,rfl,rfl,rfl,hv4⟩

theorem ZqQ (q:Option Addr) (cp:Nat) (x:DBox) (B:Kn) (hx:SlK B q cp 3 Z9 x.mail) (hl:szL ZcZ x.mail≤1048576):ZA (pj J) 101 [.agg #[.int .i64 x.next,.slice q x.mail.length cp]] B [] (fun v B' Ls=>∃q0 c0 l0,v = .agg #[.int .i64 x.next,.slice q0 x.mail.length c0]∧B'=B∧Ls=[l0]∧ZU Kn.none l0 q0 c0 164 3 Z9 x.mail):=by
 refine cB 12 Tryz.func101 (h:=?_)
 refine Za (xBx [_,_] (h:=fun b1=>xAl [_,_] ZqE (h:=fun b2=>tL2 (Za (xAl [_,_] ZqE (h:=fun b3=>tL3 (Za (xW ZsT (h:=x1 lk3 0 (h:=xW Zfm (h:=xS [_] 2 [_,_] sz3 (h:=tL3 (Za (xW Zqn (h:=x1 Zvz 0 (h:=xC ZuV rfl (ZmH _ _ x.mail om2 _ hx) (h:=?_)))))))))))))))))
 rintro _ B4 _ hle4 ⟨q4,c4,l4,rfl,rfl,rfl,hv4⟩
 refine xW ZbS (h:=xS [_] 2 [_,_] Zvr (h:=tL4 (Za (xL [_,_] Zk5 2 (h:=xS [_,_] 1 [_,_] ZrY (h:=tL4 (Ze ?_)))))))
 exact eN [3] rfl ⟨⟨_,rfl,.inr ⟨[_,_],Zk5,ZbX 1 rfl rfl rfl,rfl⟩⟩,trivial⟩ ⟨_,_,_,rfl,rfl,rfl,hv4⟩

theorem Zlt (qa qb:Option Addr) (ca cb:Nat) (x:DFolder) (B:Kn) (hx:SlK B qa ca 2 ZZ x.grants) (hy:SlK B qb cb 3 Z9 x.mail) (hl:szL ZbV x.grants≤1048576) (hl2:szL ZcZ x.mail≤1048576):ZA (pj J) 65 [.agg #[str x.owner,str x.name,.slice qa x.grants.length ca,.int .i64 x.next,.slice qb x.mail.length cb]] B [] (fun v B' Ls=>∃q0 c0 l0 q1 c1 l1,v = .agg #[str x.owner,str x.name,.slice q0 x.grants.length c0,.int .i64 x.next,.slice q1 x.mail.length c1]∧B'=B∧Ls=[l0,l1]∧ZU Kn.none l0 q0 c0 109 2 ZZ x.grants∧ZU Kn.none l1 q1 c1 164 3 Z9 x.mail):=by
 refine cB 19 Tryz.func65 (h:=?_)
 refine Za (xBx [_,_,_,_,_] (h:=fun b1=>xAl [_,_,_,_,_] Zc4 (h:=fun b2=>tL2 (Za (xAl [_,_,_,_,_] Zc4 (h:=fun b3=>tL3 (Za (xW Zqm (h:=x1 lk9 0 (h:=xW Zcg (h:=xS [_] 2 [_,_,_,_,_] sz9 (h:=tL3 (Za (xW Zql (h:=x1 lk9 0 (h:=xW Zdh (h:=xS [_] 2 [_,_,_,_,_] sz9 (h:=tL3 (Za (xW Zqk (h:=x1 ZvA 0 (h:=xC Zvk rfl (Zls _ _ x.grants om2 _ hx) (h:=?_)))))))))))))))))))))))
 rintro _ B4 _ hle4 ⟨q4,c4,l4,rfl,rfl,rfl,hv4⟩
 refine xW Zd9 (h:=xS [_] 2 [_,_,_,_,_] ZtR (h:=tL4 (Za (xW Zqj (h:=xL [_,_] Zvy 0 (h:=xC Zvj rfl (ZqQ _ _ ⟨x.next,x.mail⟩ _ hy om2) (h:=?_)))))))
 rintro _ B5 _ hle5 ⟨q5,c5,l5,rfl,rfl,rfl,hv5⟩
 refine xW ZcO (h:=xS [_,_] 2 [_,_,_,_,_] ZrY (h:=tL5 (Za (xL [_,_,_,_,_] ZfZ 2 (h:=xS [_,_,_,_,_] 1 [_,_,_,_,_] ZaW (h:=tL5 (Ze ?_)))))))
 exact eN [3,4] rfl ⟨⟨_,rfl,.inr ⟨[_,_,_,_,_],ZfZ,ZbX 1 rfl rfl rfl,rfl⟩⟩,trivial⟩ ⟨_,_,_,_,_,_,rfl,rfl,rfl,hv4,hv5⟩

theorem ZjI (q:Option Addr) (cp:Nat) (xs:List DFolder) (hx20:szL Zaq xs≤1048576) (B:Kn) (hx:SlK B q cp 5 Zn xs):ZA (pj J) 25 [.slice q xs.length cp] B [] (fun v B' Ls=>∃q c l,v = .slice q xs.length c∧B'=B∧Ls=[l]∧ZaR l q c 61 5 (Z4 109 164) xs):=by
 refine cB 23 Tryz.func25 (h:=?_)
 have hxn:=hx.len
 have hx21:=(ZaN hx20).1
 refine Za (xA (h:=Za (xM (h:=xV Tryz.underlying23 (h:=Zq (Za7 (m:=xs.length) (c:=xs.length) (by_:=88) [.string ⟨#[]⟩,.string ⟨#[]⟩,.slice none 0 0,.int .i64 0,.slice none 0 0] rfl rfl Zgc Zc4 rfl rfl ⟨_,_,rfl,by first | omega | (simp;done) | (simp;omega)⟩ ⟨_,_,rfl,by first | omega | (simp;done) | (simp;omega)⟩ om om (fun b1=>?_)))))))
 have hd1:=ZaR.zeros (b:=b1) (T:=61) (R:=(Z4 109 164)) (d:=(⟨[],[],[],0,[]⟩:DFolder)) (m:=xs.length) (c:=xs.length) (zs:=[.string ⟨#[]⟩,.string ⟨#[]⟩,.slice none 0 0,.int .i64 0,.slice none 0 0]) rfl (⟨_,_,_,_,[],[],rfl,rfl,ZU.nil,ZU.nil,by simp,by simp,by simp,by simp⟩) om
 refine xA (h:=tL1 (Zc (Za (xA (h:=Zh (Zx (α:=Nat × Cells) [0,2] (fun g=>[(3,.slice (some ⟨b1,0,none⟩) xs.length xs.length),(4,.int .i64 g.1)]) [0] (fun g=>[g.2]) (fun g Bx=>Bx=B∧g.1≤xs.length∧ZaR g.2 (some ⟨b1,0,none⟩) xs.length 61 5 (Z4 109 164) (fill xs (⟨[],[],[],0,[]⟩:DFolder) g.1)) (fun g=>xs.length - g.1) (0,_) t2 rfl (⟨rfl,Nat.zero_le _,by rw [Zdk];exact hd1⟩) (fun g B2 hle2 hI=>?_)))))))
 obtain ⟨rfl,hk,hvl⟩:=hI
 have hfl:=Zen (d:=(⟨[],[],[],0,[]⟩:DFolder)) hk
 refine ZC [(0,_),(2,_),(3,_),(4,_)] [_] t4 rfl (Zc (Za (xM (h:=xM (h:=xV Tryz.underlying23 (h:=ZF (h:=Zb rfl (fun g1=>?_) (fun g1=>?_))))))))
 try simp only [sQ,ne_eq] at g1
 refine wSk (Zc (Zh (Zj (xM (h:=xM (h:=xM (h:=xM (h:=?_))))))))
 obtain ⟨z,hz⟩:=ZX (xs:=xs) (i:=g.1) om
 obtain ⟨bb4,oo4,rfl⟩:=hx.base hz
 obtain ⟨_,⟨qg5,cg5,qm5,cm5,rfl,hg5,hm5,hb5,hb5b⟩,hc5⟩:=hx.elem hz
 have hg5n:=hg5.len
 have hm5n:=hm5.len
 have hm5s:=Zau hm5
 refine xIx Tryz.underlying23 Zvp (h:=?_)
 have hzz:=(ZaN hx20).2 z (List.mem_of_getElem? hz)
 have hza:=ZnJ hzz
 refine yL [_,_,_,_,_] Zvx hc5 0 (h:=xC Zws rfl (Zlt _ _ _ _ z _ hg5 hm5 om2 om2) (h:=?_))
 rintro _ B6 _ hle6 ⟨q6,c6,l6,q6b,c6b,l6b,rfl,rfl,rfl,hv6,hv6b⟩
 refine xIp rfl Tryz.underlying31 ZaW (h:=Zq (Zr2 (R:=(Z4 109 164)) (k:=g.1) (z) 0 [1,2] rfl rfl hvl rfl om rfl rfl ZaW rfl rfl rfl rfl rfl (l6 ++ l6b) (by simp) (⟨_,_,_,_,_,_,rfl,rfl,(hv6.anyK ZZ.any),(hv6b.anyK Z9.any),by first | assumption | omega | (simp;done) | (simp;omega),by first | assumption | omega | (simp;done) | (simp;omega),by first | assumption | omega | (simp;done) | (simp;omega),by first | assumption | omega | (simp;done) | (simp;omega)⟩) (fun l8 hd8=>?_)))
 refine ZS (Zo (Zj (xM (h:=xD (h:=xA (h:=?_))))))
 exact ZE (g.1+1,l8) [0] so2 ⟨rfl,so,by rw [← Zdl hz];exact hd8⟩ t4 rfl
 try simp only [sQ,ne_eq] at g1
 refine ZD (ZW (ZG (Zs (Zo (Za (xM (h:=xA (h:=Ze ?_))))))))
 exact eN [0] rfl t1 ⟨_,_,_,rfl,rfl,rfl,by have e:=hvl;rw [Zeo oz] at e;exact e⟩

theorem Zf6 (q1 q2 q3:Option Addr) (c1 c2 c3:Nat) (x:DHost) (B:Kn) (hu:SlK B q1 c1 3 Zt x.users) (hf:SlK B q2 c2 5 Zn x.folders) (hi:SlK B q3 c3 4 ZI x.queue.items) (hsz:Zc0 x≤1048576):ZA (pj J) 7 [.agg #[str x.domain,.slice q1 x.users.length c1,.slice q2 x.folders.length c2,.int .i64 x.queue.next,.slice q3 x.queue.items.length c3]] B [] (fun v B' Ls=>∃q0 c0 l0 q1 c1 l1 q2 c2 l2,v = .agg #[str x.domain,.slice q0 x.users.length c0,.slice q1 x.folders.length c1,.int .i64 x.queue.next,.slice q2 x.queue.items.length c2]∧B'=B∧Ls=[l0,l1,l2]∧ZU Kn.none l0 q0 c0 97 3 Zt x.users∧ZaR l1 q1 c1 61 5 (Z4 109 164) x.folders∧ZaR l2 q2 c2 101 4 (Za4 9) x.queue.items):=by
 refine cB 20 Tryz.func7 (h:=?_)
 have hsz2:=ZnC hsz
 refine Za (xBx [_,_,_,_,_] (h:=fun b1=>xAl [_,_,_,_,_] Zci (h:=fun b2=>tL2 (Za (xAl [_,_,_,_,_] Zci (h:=fun b3=>tL3 (Za (xW Zqt (h:=x1 lk9 0 (h:=xW ZgK (h:=xS [_] 2 [_,_,_,_,_] sz9 (h:=tL3 (Za (xW Zqs (h:=x1 ZvF 0 (h:=xC ZwV rfl (ZmF _ _ x.users om2 _ hu) (h:=?_)))))))))))))))))
 rintro _ B4 _ hle4 ⟨q4,c4,l4,rfl,rfl,rfl,hv4⟩
 refine xW ZbB (h:=xS [_] 2 [_,_,_,_,_] ZvU (h:=tL4 (Za (xW Zqr (h:=x1 ZvE 0 (h:=xC ZwU rfl (ZjI _ _ x.folders om2 _ hf) (h:=?_)))))))
 rintro _ B5 _ hle5 ⟨q5,c5,l5,rfl,rfl,rfl,hv5⟩
 refine xW Z3 (h:=xS [_] 2 [_,_,_,_,_] ZoN (h:=tL5 (Za (xW Zqq (h:=xL [_,_] ZvC 0 (h:=xC ZwT rfl (ZmG _ _ ⟨x.queue.next,x.queue.items⟩ _ hi om2) (h:=?_)))))))
 rintro _ B6 _ hle6 ⟨q6,c6,l6,rfl,rfl,rfl,hv6⟩
 refine xW ZdL (h:=xS [_,_] 2 [_,_,_,_,_] ZqU (h:=tL6 (Za (xL [_,_,_,_,_] Zcj 2 (h:=xS [_,_,_,_,_] 1 [_,_,_,_,_] Zc1 (h:=tL6 (Ze ?_)))))))
 exact eN [3,4,5] rfl ⟨⟨_,rfl,.inr ⟨[_,_,_,_,_],Zcj,ZbX 1 rfl rfl rfl,rfl⟩⟩,trivial⟩ ⟨_,_,_,_,_,_,_,_,_,rfl,rfl,rfl,hv4,hv5,hv6⟩

theorem ZpA   (a b:DUser) (B:Kn)   : Zaa (pj J) 74 [.agg #[str a.name,str a.pass,.int .i64 a.quota],.agg #[str b.name,str b.pass,.int .i64 b.quota]] B (.bool (decide (a=b))):=by
 refine cB 20 Tryz.func74 (h:=?_)
 refine Za (xBx [_,_,_] (h:=fun b1=>xBx [_,_,_] (h:=fun b2=>xA (h:=tL2 (Zc (Za (xW ZbP (h:=x1 lk9 0 (h:=xW ZbP (h:=x1 lk9 1 (h:=Zez (h:=Zb rfl (fun g1=>?_) (fun g1=>?_)))))))))))))
 try simp only [sQ,ne_eq] at g1
 refine Za (xA (h:=Ze (Zk ?_)))
 exact eR t1 ⟨Zd (by symm;rw [decide_eq_false_iff_not];rintro rfl;exact g1 rfl),rfl,rfl⟩
 try simp only [sQ,ne_eq] at g1
 refine wSk (Zc (Za (xW ZgJ (h:=x1 lk9 0 (h:=xW ZgJ (h:=x1 lk9 1 (h:=Zez (h:=Zb rfl (fun g2=>?_) (fun g2=>?_)))))))))
 try simp only [sQ,ne_eq] at g2
 refine Za (xA (h:=Ze (Zk ?_)))
 exact eR t1 ⟨Zd (by symm;rw [decide_eq_false_iff_not];rintro rfl;exact g2 rfl),rfl,rfl⟩
 try simp only [sQ,ne_eq] at g2
 refine wSk (Zc (Za (xW ZeE (h:=x1 lk3 0 (h:=xW ZeE (h:=x1 lk3 1 (h:=ZaS (h:=Zb rfl (fun g3=>?_) (fun g3=>?_)))))))))
 try simp only [sQ,ne_eq] at g3
 refine Za (xA (h:=Ze (Zk ?_)))
 exact eR t1 ⟨Zd (by symm;rw [decide_eq_false_iff_not];rintro rfl;exact g3 rfl),rfl,rfl⟩
 try simp only [sQ,ne_eq] at g3
 refine wSk (Za (xA (h:=Ze ?_)))
 exact eR t1 ⟨Zd (by symm;rw [decide_eq_true_eq];cases a;cases b;simp_all),rfl,rfl⟩

theorem Zn2   (a b:DGrant) (B:Kn)   : Zaa (pj J) 154 [.agg #[str a.user,.int .i64 a.rights],.agg #[str b.user,.int .i64 b.rights]] B (.bool (decide (a=b))):=by
 refine cB 15 Tryz.func154 (h:=?_)
 refine Za (xBx [_,_] (h:=fun b1=>xBx [_,_] (h:=fun b2=>xA (h:=tL2 (Zc (Za (xW Zco (h:=x1 lk9 0 (h:=xW Zco (h:=x1 lk9 1 (h:=Zez (h:=Zb rfl (fun g1=>?_) (fun g1=>?_)))))))))))))
 try simp only [sQ,ne_eq] at g1
 refine Za (xA (h:=Ze (Zk ?_)))
 exact eR t1 ⟨Zd (by symm;rw [decide_eq_false_iff_not];rintro rfl;exact g1 rfl),rfl,rfl⟩
 try simp only [sQ,ne_eq] at g1
 refine wSk (Zc (Za (xW ZdE (h:=x1 lk3 0 (h:=xW ZdE (h:=x1 lk3 1 (h:=ZaS (h:=Zb rfl (fun g2=>?_) (fun g2=>?_)))))))))
 try simp only [sQ,ne_eq] at g2
 refine Za (xA (h:=Ze (Zk ?_)))
 exact eR t1 ⟨Zd (by symm;rw [decide_eq_false_iff_not];rintro rfl;exact g2 rfl),rfl,rfl⟩
 try simp only [sQ,ne_eq] at g2
 refine wSk (Za (xA (h:=Ze ?_)))
 exact eR t1 ⟨Zd (by symm;rw [decide_eq_true_eq];cases a;cases b;simp_all),rfl,rfl⟩

theorem ZpC   (a b:DMail) (B:Kn)   : Zaa (pj J) 194 [.agg #[.int .i64 a.uid,.int .i64 a.flags,str a.text],.agg #[.int .i64 b.uid,.int .i64 b.flags,str b.text]] B (.bool (decide (a=b))):=by
 refine cB 20 Tryz.func194 (h:=?_)
 refine Za (xBx [_,_,_] (h:=fun b1=>xBx [_,_,_] (h:=fun b2=>xA (h:=tL2 (Zc (Za (xW Zcn (h:=x1 lk3 0 (h:=xW Zcn (h:=x1 lk3 1 (h:=ZaS (h:=Zb rfl (fun g1=>?_) (fun g1=>?_)))))))))))))
 try simp only [sQ,ne_eq] at g1
 refine Za (xA (h:=Ze (Zk ?_)))
 exact eR t1 ⟨Zd (by symm;rw [decide_eq_false_iff_not];rintro rfl;exact g1 rfl),rfl,rfl⟩
 try simp only [sQ,ne_eq] at g1
 refine wSk (Zc (Za (xW ZeW (h:=x1 lk3 0 (h:=xW ZeW (h:=x1 lk3 1 (h:=ZaS (h:=Zb rfl (fun g2=>?_) (fun g2=>?_)))))))))
 try simp only [sQ,ne_eq] at g2
 refine Za (xA (h:=Ze (Zk ?_)))
 exact eR t1 ⟨Zd (by symm;rw [decide_eq_false_iff_not];rintro rfl;exact g2 rfl),rfl,rfl⟩
 try simp only [sQ,ne_eq] at g2
 refine wSk (Zc (Za (xW ZdD (h:=x1 lk9 0 (h:=xW ZdD (h:=x1 lk9 1 (h:=Zez (h:=Zb rfl (fun g3=>?_) (fun g3=>?_)))))))))
 try simp only [sQ,ne_eq] at g3
 refine Za (xA (h:=Ze (Zk ?_)))
 exact eR t1 ⟨Zd (by symm;rw [decide_eq_false_iff_not];rintro rfl;exact g3 rfl),rfl,rfl⟩
 try simp only [sQ,ne_eq] at g3
 refine wSk (Za (xA (h:=Ze ?_)))
 exact eR t1 ⟨Zd (by symm;rw [decide_eq_true_eq];cases a;cases b;simp_all),rfl,rfl⟩

theorem ZnY (q q':Option Addr) (cp cp':Nat) (xs ys:List DUser) (B:Kn) (ha:SlK B q cp 3 Zt xs) (hb:SlK B q' cp' 3 Zt ys):Zaa (pj J) 33 [.slice q xs.length cp,.slice q' ys.length cp'] B (.bool (decide (xs=ys))):=by
 refine cB 27 Tryz.func33 (h:=?_)
 have han:=ha.len
 have hbn:=hb.len
 refine Za (xA (h:=Zc (Za (xM (h:=xV Tryz.underlying30 (h:=xM (h:=xV Tryz.underlying30 (h:=ZaS (h:=Zb rfl (fun g1=>?_) (fun g1=>?_))))))))))
 try simp only [sQ,ne_eq] at g1
 refine Za (xA (h:=Ze (Zk ?_)))
 exact eR t1 ⟨Zd (ZfN g1),rfl,rfl⟩
 try simp only [sQ,ne_eq] at g1
 refine wSk (Zc (Za (xA (h:=Zh (Zx (α:=Nat) [0,1,10] (fun k=>[(5,.int .i64 k)]) [] (fun k=>[]) (fun k Bx=>Bx=B∧k≤xs.length∧xs.take k=ys.take k) (fun k=>xs.length - k) 0 t1 rfl (⟨rfl,Nat.zero_le _,by simp⟩) (fun k B1 hle1 hI=>?_))))))
 obtain ⟨rfl,hk,he⟩:=hI
 refine ZC [(0,_),(1,_),(5,_),(10,_)] [] t4 rfl (Zc (Za (xM (h:=xM (h:=xV Tryz.underlying30 (h:=ZF (h:=Zb rfl (fun g2=>?_) (fun g2=>?_))))))))
 try simp only [sQ,ne_eq] at g2
 refine wSk (Zc (Zh (Zc (Z2 (same _ _) mo kr ⟨rfl,rfl⟩ (fun _ _=>?_)))))
 refine aM 0 rfl (h:=aM 1 rfl (h:=?_))
 obtain ⟨x,hx⟩:=ZX (xs:=xs) (i:=k) om
 obtain ⟨bb3,oo3,rfl⟩:=ha.base hx
 obtain ⟨_,⟨rfl,hb4,hb4b⟩,hc4⟩:=ha.elem hx
 refine aIx 2 rfl Tryz.underlying30 ZdR (h:=aT 3 rfl (Zal fun D=>Z6 [_,_,_] rfl rfl Zjx rfl (ZjQ hc4 0 rfl rfl) r4) (h:=aM 4 rfl (h:=aM 5 rfl (h:=?_))))
 obtain ⟨y,hy⟩:=ZX (xs:=ys) (i:=k) om
 obtain ⟨bb6,oo6,rfl⟩:=hb.base hy
 obtain ⟨_,⟨rfl,hb7,hb7b⟩,hc7⟩:=hb.elem hy
 refine aIx 6 rfl Tryz.underlying30 ZdR (h:=aT 7 rfl (Zal fun D=>Z6 [_,_,_] rfl rfl Zjx rfl (ZjQ hc7 0 rfl rfl) r4) (h:=aT 8 rfl (Zal fun D=>Zae rfl rfl Zwm rfl (ZpA x y _ ) r4) (h:=aN 9 rfl (h:=ZB kr kr ?_))))
 refine Zo (Zb rfl (fun g3=>?_) (fun g3=>?_))
 try simp only [sQ,ne_eq] at g3
 refine Za (xA (h:=Ze (Zy (Zk (ZN (Zy (Zk ?_)))))))
 exact eR t1 ⟨Zd (Zer hx hy g3),rfl,rfl⟩
 try simp only [sQ,ne_eq] at g3
 refine ZY (ZS (Zo (Zj (xM (h:=xD (h:=xA (h:=?_)))))))
 exact ZE (k+1) [] so2 ⟨rfl,oz,Zbw hx hy g3 he⟩ t4 rfl
 try simp only [sQ,ne_eq] at g2
 refine ZD (ZW (ZG (Zs (Zo (Za (xA (h:=Ze ?_)))))))
 exact eR t1 ⟨Zd (eqT oz oz he),rfl,rfl⟩

theorem Zl6 (q q':Option Addr) (cp cp':Nat) (xs ys:List DGrant) (B:Kn) (ha:SlK B q cp 2 ZZ xs) (hb:SlK B q' cp' 2 ZZ ys):Zaa (pj J) 117 [.slice q xs.length cp,.slice q' ys.length cp'] B (.bool (decide (xs=ys))):=by
 refine cB 27 Tryz.func117 (h:=?_)
 have han:=ha.len
 have hbn:=hb.len
 refine Za (xA (h:=Zc (Za (xM (h:=xV Tryz.underlying54 (h:=xM (h:=xV Tryz.underlying54 (h:=ZaS (h:=Zb rfl (fun g1=>?_) (fun g1=>?_))))))))))
 try simp only [sQ,ne_eq] at g1
 refine Za (xA (h:=Ze (Zk ?_)))
 exact eR t1 ⟨Zd (ZfN g1),rfl,rfl⟩
 try simp only [sQ,ne_eq] at g1
 refine wSk (Zc (Za (xA (h:=Zh (Zx (α:=Nat) [0,1,10] (fun k=>[(5,.int .i64 k)]) [] (fun k=>[]) (fun k Bx=>Bx=B∧k≤xs.length∧xs.take k=ys.take k) (fun k=>xs.length - k) 0 t1 rfl (⟨rfl,Nat.zero_le _,by simp⟩) (fun k B1 hle1 hI=>?_))))))
 obtain ⟨rfl,hk,he⟩:=hI
 refine ZC [(0,_),(1,_),(5,_),(10,_)] [] t4 rfl (Zc (Za (xM (h:=xM (h:=xV Tryz.underlying54 (h:=ZF (h:=Zb rfl (fun g2=>?_) (fun g2=>?_))))))))
 try simp only [sQ,ne_eq] at g2
 refine wSk (Zc (Zh (Zc (Z2 (same _ _) mo kr ⟨rfl,rfl⟩ (fun _ _=>?_)))))
 refine aM 0 rfl (h:=aM 1 rfl (h:=?_))
 obtain ⟨x,hx⟩:=ZX (xs:=xs) (i:=k) om
 obtain ⟨bb3,oo3,rfl⟩:=ha.base hx
 obtain ⟨_,⟨rfl,hb4⟩,hc4⟩:=ha.elem hx
 refine aIx 2 rfl Tryz.underlying54 Zdu (h:=aT 3 rfl (Zal fun D=>Z6 [_,_] rfl rfl Znn rfl (ZjQ hc4 0 rfl rfl) r4) (h:=aM 4 rfl (h:=aM 5 rfl (h:=?_))))
 obtain ⟨y,hy⟩:=ZX (xs:=ys) (i:=k) om
 obtain ⟨bb6,oo6,rfl⟩:=hb.base hy
 obtain ⟨_,⟨rfl,hb7⟩,hc7⟩:=hb.elem hy
 refine aIx 6 rfl Tryz.underlying54 Zdu (h:=aT 7 rfl (Zal fun D=>Z6 [_,_] rfl rfl Znn rfl (ZjQ hc7 0 rfl rfl) r4) (h:=aT 8 rfl (Zal fun D=>Zae rfl rfl ZuG rfl (Zn2 x y _ ) r4) (h:=aN 9 rfl (h:=ZB kr kr ?_))))
 refine Zo (Zb rfl (fun g3=>?_) (fun g3=>?_))
 try simp only [sQ,ne_eq] at g3
 refine Za (xA (h:=Ze (Zy (Zk (ZN (Zy (Zk ?_)))))))
 exact eR t1 ⟨Zd (Zer hx hy g3),rfl,rfl⟩
 try simp only [sQ,ne_eq] at g3
 refine ZY (ZS (Zo (Zj (xM (h:=xD (h:=xA (h:=?_)))))))
 exact ZE (k+1) [] so2 ⟨rfl,oz,Zbw hx hy g3 he⟩ t4 rfl
 try simp only [sQ,ne_eq] at g2
 refine ZD (ZW (ZG (Zs (Zo (Za (xA (h:=Ze ?_)))))))
 exact eR t1 ⟨Zd (eqT oz oz he),rfl,rfl⟩

theorem Zn0 (q q':Option Addr) (cp cp':Nat) (xs ys:List DMail) (B:Kn) (ha:SlK B q cp 3 Z9 xs) (hb:SlK B q' cp' 3 Z9 ys):Zaa (pj J) 155 [.slice q xs.length cp,.slice q' ys.length cp'] B (.bool (decide (xs=ys))):=by
 refine cB 27 Tryz.func155 (h:=?_)
 have han:=ha.len
 have hbn:=hb.len
 refine Za (xA (h:=Zc (Za (xM (h:=xV Tryz.underlying57 (h:=xM (h:=xV Tryz.underlying57 (h:=ZaS (h:=Zb rfl (fun g1=>?_) (fun g1=>?_))))))))))
 try simp only [sQ,ne_eq] at g1
 refine Za (xA (h:=Ze (Zk ?_)))
 exact eR t1 ⟨Zd (ZfN g1),rfl,rfl⟩
 try simp only [sQ,ne_eq] at g1
 refine wSk (Zc (Za (xA (h:=Zh (Zx (α:=Nat) [0,1,10] (fun k=>[(5,.int .i64 k)]) [] (fun k=>[]) (fun k Bx=>Bx=B∧k≤xs.length∧xs.take k=ys.take k) (fun k=>xs.length - k) 0 t1 rfl (⟨rfl,Nat.zero_le _,by simp⟩) (fun k B1 hle1 hI=>?_))))))
 obtain ⟨rfl,hk,he⟩:=hI
 refine ZC [(0,_),(1,_),(5,_),(10,_)] [] t4 rfl (Zc (Za (xM (h:=xM (h:=xV Tryz.underlying57 (h:=ZF (h:=Zb rfl (fun g2=>?_) (fun g2=>?_))))))))
 try simp only [sQ,ne_eq] at g2
 refine wSk (Zc (Zh (Zc (Z2 (same _ _) mo kr ⟨rfl,rfl⟩ (fun _ _=>?_)))))
 refine aM 0 rfl (h:=aM 1 rfl (h:=?_))
 obtain ⟨x,hx⟩:=ZX (xs:=xs) (i:=k) om
 obtain ⟨bb3,oo3,rfl⟩:=ha.base hx
 obtain ⟨_,⟨rfl,hb4⟩,hc4⟩:=ha.elem hx
 refine aIx 2 rfl Tryz.underlying57 ZcE (h:=aT 3 rfl (Zal fun D=>Z6 [_,_,_] rfl rfl ZiV rfl (ZjQ hc4 0 rfl rfl) r4) (h:=aM 4 rfl (h:=aM 5 rfl (h:=?_))))
 obtain ⟨y,hy⟩:=ZX (xs:=ys) (i:=k) om
 obtain ⟨bb6,oo6,rfl⟩:=hb.base hy
 obtain ⟨_,⟨rfl,hb7⟩,hc7⟩:=hb.elem hy
 refine aIx 6 rfl Tryz.underlying57 ZcE (h:=aT 7 rfl (Zal fun D=>Z6 [_,_,_] rfl rfl ZiV rfl (ZjQ hc7 0 rfl rfl) r4) (h:=aT 8 rfl (Zal fun D=>Zae rfl rfl Zup rfl (ZpC x y _ ) r4) (h:=aN 9 rfl (h:=ZB kr kr ?_))))
 refine Zo (Zb rfl (fun g3=>?_) (fun g3=>?_))
 try simp only [sQ,ne_eq] at g3
 refine Za (xA (h:=Ze (Zy (Zk (ZN (Zy (Zk ?_)))))))
 exact eR t1 ⟨Zd (Zer hx hy g3),rfl,rfl⟩
 try simp only [sQ,ne_eq] at g3
 refine ZY (ZS (Zo (Zj (xM (h:=xD (h:=xA (h:=?_)))))))
 exact ZE (k+1) [] so2 ⟨rfl,oz,Zbw hx hy g3 he⟩ t4 rfl
 try simp only [sQ,ne_eq] at g2
 refine ZD (ZW (ZG (Zs (Zo (Za (xA (h:=Ze ?_)))))))
 exact eR t1 ⟨Zd (eqT oz oz he),rfl,rfl⟩

theorem ZpD (q1:Option Addr) (cp1:Nat) (q2:Option Addr) (cp2:Nat) (a b:DItem) (B:Kn) (h1:SlK B q1 cp1 1 ZcT a.left) (h2:SlK B q2 cp2 1 ZcT b.left):Zaa (pj J) 119 [.agg #[.int .i64 a.id,str a.fr,str a.text,.slice q1 a.left.length cp1],.agg #[.int .i64 b.id,str b.fr,str b.text,.slice q2 b.left.length cp2]] B (.bool (decide (a=b))):=by
 refine cB 26 Tryz.func119 (h:=?_)
 refine Za (xBx [_,_,_,_] (h:=fun b1=>xBx [_,_,_,_] (h:=fun b2=>xA (h:=tL2 (Zc (Za (xW ZdG (h:=x1 lk3 0 (h:=xW ZdG (h:=x1 lk3 1 (h:=ZaS (h:=Zb rfl (fun g1=>?_) (fun g1=>?_)))))))))))))
 try simp only [sQ,ne_eq] at g1
 refine Za (xA (h:=Ze (Zk ?_)))
 exact eR t1 ⟨Zd (by symm;rw [decide_eq_false_iff_not];rintro rfl;exact g1 rfl),rfl,rfl⟩
 try simp only [sQ,ne_eq] at g1
 refine wSk (Zc (Za (xW ZdF (h:=x1 lk9 0 (h:=xW ZdF (h:=x1 lk9 1 (h:=Zez (h:=Zb rfl (fun g2=>?_) (fun g2=>?_)))))))))
 try simp only [sQ,ne_eq] at g2
 refine Za (xA (h:=Ze (Zk ?_)))
 exact eR t1 ⟨Zd (by symm;rw [decide_eq_false_iff_not];rintro rfl;exact g2 rfl),rfl,rfl⟩
 try simp only [sQ,ne_eq] at g2
 refine wSk (Zc (Za (xW ZeX (h:=x1 lk9 0 (h:=xW ZeX (h:=x1 lk9 1 (h:=Zez (h:=Zb rfl (fun g3=>?_) (fun g3=>?_)))))))))
 try simp only [sQ,ne_eq] at g3
 refine Za (xA (h:=Ze (Zk ?_)))
 exact eR t1 ⟨Zd (by symm;rw [decide_eq_false_iff_not];rintro rfl;exact g3 rfl),rfl,rfl⟩
 try simp only [sQ,ne_eq] at g3
 refine wSk (Zc (Za (xW Zb5 (h:=x1 Zj6 0 (h:=xW Zb5 (h:=x1 Zj6 1 (h:=xR ZuE rfl (Zks _ _ _ _ _ _ _ h1 h2) (h:=xN (h:=Zb rfl (fun g4=>?_) (fun g4=>?_))))))))))
 try simp only [sQ,ne_eq] at g4
 refine Za (xA (h:=Ze (Zk ?_)))
 exact eR t1 ⟨Zd (by symm;rw [decide_eq_false_iff_not];rintro rfl;exact g4 rfl),rfl,rfl⟩
 try simp only [sQ,ne_eq] at g4
 refine wSk (Za (xA (h:=Ze ?_)))
 exact eR t1 ⟨Zd (by symm;rw [decide_eq_true_eq];cases a;cases b;simp_all),rfl,rfl⟩

theorem Zn1 (q q':Option Addr) (cp cp':Nat) (xs ys:List DItem) (B:Kn) (ha:SlK B q cp 4 ZI xs) (hb:SlK B q' cp' 4 ZI ys):Zaa (pj J) 76 [.slice q xs.length cp,.slice q' ys.length cp'] B (.bool (decide (xs=ys))):=by
 refine cB 27 Tryz.func76 (h:=?_)
 have han:=ha.len
 have hbn:=hb.len
 refine Za (xA (h:=Zc (Za (xM (h:=xV Tryz.underlying32 (h:=xM (h:=xV Tryz.underlying32 (h:=ZaS (h:=Zb rfl (fun g1=>?_) (fun g1=>?_))))))))))
 try simp only [sQ,ne_eq] at g1
 refine Za (xA (h:=Ze (Zk ?_)))
 exact eR t1 ⟨Zd (ZfN g1),rfl,rfl⟩
 try simp only [sQ,ne_eq] at g1
 refine wSk (Zc (Za (xA (h:=Zh (Zx (α:=Nat) [0,1,10] (fun k=>[(5,.int .i64 k)]) [] (fun k=>[]) (fun k Bx=>Bx=B∧k≤xs.length∧xs.take k=ys.take k) (fun k=>xs.length - k) 0 t1 rfl (⟨rfl,Nat.zero_le _,by simp⟩) (fun k B1 hle1 hI=>?_))))))
 obtain ⟨rfl,hk,he⟩:=hI
 refine ZC [(0,_),(1,_),(5,_),(10,_)] [] t4 rfl (Zc (Za (xM (h:=xM (h:=xV Tryz.underlying32 (h:=ZF (h:=Zb rfl (fun g2=>?_) (fun g2=>?_))))))))
 try simp only [sQ,ne_eq] at g2
 refine wSk (Zc (Zh (Zc (Z2 (same _ _) mo kr ⟨rfl,rfl⟩ (fun _ _=>?_)))))
 refine aM 0 rfl (h:=aM 1 rfl (h:=?_))
 obtain ⟨x,hx⟩:=ZX (xs:=xs) (i:=k) om
 obtain ⟨bb3,oo3,rfl⟩:=ha.base hx
 obtain ⟨_,⟨qi4,ci4,rfl,hi4,hb4,hb4b⟩,hc4⟩:=ha.elem hx
 have hi4n:=hi4.len
 refine aIx 2 rfl Tryz.underlying32 Zbd (h:=aT 3 rfl (Zal fun D=>Z6 [_,_,_,_] rfl rfl Zd2 rfl (ZjQ hc4 0 rfl rfl) r4) (h:=aM 4 rfl (h:=aM 5 rfl (h:=?_))))
 obtain ⟨y,hy⟩:=ZX (xs:=ys) (i:=k) om
 obtain ⟨bb6,oo6,rfl⟩:=hb.base hy
 obtain ⟨_,⟨qi7,ci7,rfl,hi7,hb7,hb7b⟩,hc7⟩:=hb.elem hy
 have hi7n:=hi7.len
 refine aIx 6 rfl Tryz.underlying32 Zbd (h:=aT 7 rfl (Zal fun D=>Z6 [_,_,_,_] rfl rfl Zd2 rfl (ZjQ hc7 0 rfl rfl) r4) (h:=aT 8 rfl (Zal fun D=>Zae rfl rfl Zu6 rfl (ZpD _ _ _ _ x y _ hi4 hi7) r4) (h:=aN 9 rfl (h:=ZB kr kr ?_))))
 refine Zo (Zb rfl (fun g3=>?_) (fun g3=>?_))
 try simp only [sQ,ne_eq] at g3
 refine Za (xA (h:=Ze (Zy (Zk (ZN (Zy (Zk ?_)))))))
 exact eR t1 ⟨Zd (Zer hx hy g3),rfl,rfl⟩
 try simp only [sQ,ne_eq] at g3
 refine ZY (ZS (Zo (Zj (xM (h:=xD (h:=xA (h:=?_)))))))
 exact ZE (k+1) [] so2 ⟨rfl,oz,Zbw hx hy g3 he⟩ t4 rfl
 try simp only [sQ,ne_eq] at g2
 refine ZD (ZW (ZG (Zs (Zo (Za (xA (h:=Ze ?_)))))))
 exact eR t1 ⟨Zd (eqT oz oz he),rfl,rfl⟩

theorem ZnZ (q1:Option Addr) (cp1:Nat) (q2:Option Addr) (cp2:Nat) (a b:DQueue) (B:Kn) (h1:SlK B q1 cp1 4 ZI a.items) (h2:SlK B q2 cp2 4 ZI b.items):Zaa (pj J) 35 [.agg #[.int .i64 a.next,.slice q1 a.items.length cp1],.agg #[.int .i64 b.next,.slice q2 b.items.length cp2]] B (.bool (decide (a=b))):=by
 refine cB 16 Tryz.func35 (h:=?_)
 refine Za (xBx [_,_] (h:=fun b1=>xBx [_,_] (h:=fun b2=>xA (h:=tL2 (Zc (Za (xW Zfn (h:=x1 lk3 0 (h:=xW Zfn (h:=x1 lk3 1 (h:=ZaS (h:=Zb rfl (fun g1=>?_) (fun g1=>?_)))))))))))))
 try simp only [sQ,ne_eq] at g1
 refine Za (xA (h:=Ze (Zk ?_)))
 exact eR t1 ⟨Zd (by symm;rw [decide_eq_false_iff_not];rintro rfl;exact g1 rfl),rfl,rfl⟩
 try simp only [sQ,ne_eq] at g1
 refine wSk (Zc (Za (xW Zbp (h:=x1 Zhm 0 (h:=xW Zbp (h:=x1 Zhm 1 (h:=xR Zwk rfl (Zn1 _ _ _ _ _ _ _ h1 h2) (h:=xN (h:=Zb rfl (fun g2=>?_) (fun g2=>?_))))))))))
 try simp only [sQ,ne_eq] at g2
 refine Za (xA (h:=Ze (Zk ?_)))
 exact eR t1 ⟨Zd (by symm;rw [decide_eq_false_iff_not];rintro rfl;exact g2 rfl),rfl,rfl⟩
 try simp only [sQ,ne_eq] at g2
 refine wSk (Za (xA (h:=Ze ?_)))
 exact eR t1 ⟨Zd (by symm;rw [decide_eq_true_eq];cases a;cases b;simp_all),rfl,rfl⟩

theorem ZrI (q1:Option Addr) (cp1:Nat) (q2:Option Addr) (cp2:Nat) (a b:DBox) (B:Kn) (h1:SlK B q1 cp1 3 Z9 a.mail) (h2:SlK B q2 cp2 3 Z9 b.mail):Zaa (pj J) 118 [.agg #[.int .i64 a.next,.slice q1 a.mail.length cp1],.agg #[.int .i64 b.next,.slice q2 b.mail.length cp2]] B (.bool (decide (a=b))):=by
 refine cB 16 Tryz.func118 (h:=?_)
 refine Za (xBx [_,_] (h:=fun b1=>xBx [_,_] (h:=fun b2=>xA (h:=tL2 (Zc (Za (xW Zfm (h:=x1 lk3 0 (h:=xW Zfm (h:=x1 lk3 1 (h:=ZaS (h:=Zb rfl (fun g1=>?_) (fun g1=>?_)))))))))))))
 try simp only [sQ,ne_eq] at g1
 refine Za (xA (h:=Ze (Zk ?_)))
 exact eR t1 ⟨Zd (by symm;rw [decide_eq_false_iff_not];rintro rfl;exact g1 rfl),rfl,rfl⟩
 try simp only [sQ,ne_eq] at g1
 refine wSk (Zc (Za (xW ZbS (h:=x1 Zjy 0 (h:=xW ZbS (h:=x1 Zjy 1 (h:=xR ZuF rfl (Zn0 _ _ _ _ _ _ _ h1 h2) (h:=xN (h:=Zb rfl (fun g2=>?_) (fun g2=>?_))))))))))
 try simp only [sQ,ne_eq] at g2
 refine Za (xA (h:=Ze (Zk ?_)))
 exact eR t1 ⟨Zd (by symm;rw [decide_eq_false_iff_not];rintro rfl;exact g2 rfl),rfl,rfl⟩
 try simp only [sQ,ne_eq] at g2
 refine wSk (Za (xA (h:=Ze ?_)))
 exact eR t1 ⟨Zd (by symm;rw [decide_eq_true_eq];cases a;cases b;simp_all),rfl,rfl⟩

theorem Zl7 (qa1 qb1:Option Addr) (ca1 cb1:Nat) (qa2 qb2:Option Addr) (ca2 cb2:Nat) (a b:DFolder) (B:Kn) (hg1:SlK B qa1 ca1 2 ZZ a.grants) (hm1:SlK B qb1 cb1 3 Z9 a.mail) (hg2:SlK B qa2 ca2 2 ZZ b.grants) (hm2:SlK B qb2 cb2 3 Z9 b.mail):Zaa (pj J) 75 [.agg #[str a.owner,str a.name,.slice qa1 a.grants.length ca1,.int .i64 a.next,.slice qb1 a.mail.length cb1],.agg #[str b.owner,str b.name,.slice qa2 b.grants.length ca2,.int .i64 b.next,.slice qb2 b.mail.length cb2]] B (.bool (decide (a=b))):=by
 refine cB 27 Tryz.func75 (h:=?_)
 refine Za (xBx [_,_,_,_,_] (h:=fun b1=>xBx [_,_,_,_,_] (h:=fun b2=>xA (h:=tL2 (Zc (Za (xW Zcg (h:=x1 lk9 0 (h:=xW Zcg (h:=x1 lk9 1 (h:=Zez (h:=Zb rfl (fun g1=>?_) (fun g1=>?_)))))))))))))
 try simp only [sQ,ne_eq] at g1
 refine Za (xA (h:=Ze (Zk ?_)))
 exact eR t1 ⟨Zd (by symm;rw [decide_eq_false_iff_not];rintro rfl;exact g1 rfl),rfl,rfl⟩
 try simp only [sQ,ne_eq] at g1
 refine wSk (Zc (Za (xW Zdh (h:=x1 lk9 0 (h:=xW Zdh (h:=x1 lk9 1 (h:=Zez (h:=Zb rfl (fun g2=>?_) (fun g2=>?_)))))))))
 try simp only [sQ,ne_eq] at g2
 refine Za (xA (h:=Ze (Zk ?_)))
 exact eR t1 ⟨Zd (by symm;rw [decide_eq_false_iff_not];rintro rfl;exact g2 rfl),rfl,rfl⟩
 try simp only [sQ,ne_eq] at g2
 refine wSk (Zc (Za (xW Zd9 (h:=x1 Zqg 0 (h:=xW Zd9 (h:=x1 Zqg 1 (h:=xR Zu8 rfl (Zl6 _ _ _ _ _ _ _ hg1 hg2) (h:=xN (h:=Zb rfl (fun g3=>?_) (fun g3=>?_))))))))))
 try simp only [sQ,ne_eq] at g3
 refine Za (xA (h:=Ze (Zk ?_)))
 exact eR t1 ⟨Zd (by symm;rw [decide_eq_false_iff_not];rintro rfl;exact g3 rfl),rfl,rfl⟩
 try simp only [sQ,ne_eq] at g3
 refine wSk (Zc (Za (xW ZcO (h:=xL [_,_] Zk5 0 (h:=xW ZcO (h:=xL [_,_] Zk5 1 (h:=xR Zu7 rfl (ZrI _ _ _ _ (⟨a.next,a.mail⟩:DBox) (⟨b.next,b.mail⟩:DBox) _ hm1 hm2) (h:=xN (h:=Zb rfl (fun g4=>?_) (fun g4=>?_))))))))))
 try simp only [sQ,ne_eq] at g4
 refine Za (xA (h:=Ze (Zk ?_)))
 exact eR t1 ⟨Zd (by symm;rw [decide_eq_false_iff_not];rintro rfl;exact g4 rfl),rfl,rfl⟩
 try simp only [sQ,ne_eq] at g4
 refine wSk (Za (xA (h:=Ze ?_)))
 exact eR t1 ⟨Zd (by symm;rw [decide_eq_true_eq];cases a;cases b;simp_all),rfl,rfl⟩

theorem Zkt (q q':Option Addr) (cp cp':Nat) (xs ys:List DFolder) (B:Kn) (ha:SlK B q cp 5 Zn xs) (hb:SlK B q' cp' 5 Zn ys):Zaa (pj J) 34 [.slice q xs.length cp,.slice q' ys.length cp'] B (.bool (decide (xs=ys))):=by
 refine cB 27 Tryz.func34 (h:=?_)
 have han:=ha.len
 have hbn:=hb.len
 refine Za (xA (h:=Zc (Za (xM (h:=xV Tryz.underlying31 (h:=xM (h:=xV Tryz.underlying31 (h:=ZaS (h:=Zb rfl (fun g1=>?_) (fun g1=>?_))))))))))
 try simp only [sQ,ne_eq] at g1
 refine Za (xA (h:=Ze (Zk ?_)))
 exact eR t1 ⟨Zd (ZfN g1),rfl,rfl⟩
 try simp only [sQ,ne_eq] at g1
 refine wSk (Zc (Za (xA (h:=Zh (Zx (α:=Nat) [0,1,10] (fun k=>[(5,.int .i64 k)]) [] (fun k=>[]) (fun k Bx=>Bx=B∧k≤xs.length∧xs.take k=ys.take k) (fun k=>xs.length - k) 0 t1 rfl (⟨rfl,Nat.zero_le _,by simp⟩) (fun k B1 hle1 hI=>?_))))))
 obtain ⟨rfl,hk,he⟩:=hI
 refine ZC [(0,_),(1,_),(5,_),(10,_)] [] t4 rfl (Zc (Za (xM (h:=xM (h:=xV Tryz.underlying31 (h:=ZF (h:=Zb rfl (fun g2=>?_) (fun g2=>?_))))))))
 try simp only [sQ,ne_eq] at g2
 refine wSk (Zc (Zh (Zc (Z2 (same _ _) mo kr ⟨rfl,rfl⟩ (fun _ _=>?_)))))
 refine aM 0 rfl (h:=aM 1 rfl (h:=?_))
 obtain ⟨x,hx⟩:=ZX (xs:=xs) (i:=k) om
 obtain ⟨bb3,oo3,rfl⟩:=ha.base hx
 obtain ⟨_,⟨qg4,cg4,qm4,cm4,rfl,hg4,hm4,hb4,hb4b⟩,hc4⟩:=ha.elem hx
 have hg4n:=hg4.len
 have hm4n:=hm4.len
 have hm4s:=Zau hm4
 refine aIx 2 rfl Tryz.underlying31 ZaW (h:=aT 3 rfl (Zal fun D=>Z6 [_,_,_,_,_] rfl rfl ZfZ rfl (ZjQ hc4 0 rfl rfl) r4) (h:=aM 4 rfl (h:=aM 5 rfl (h:=?_))))
 obtain ⟨y,hy⟩:=ZX (xs:=ys) (i:=k) om
 obtain ⟨bb6,oo6,rfl⟩:=hb.base hy
 obtain ⟨_,⟨qg7,cg7,qm7,cm7,rfl,hg7,hm7,hb7,hb7b⟩,hc7⟩:=hb.elem hy
 have hg7n:=hg7.len
 have hm7n:=hm7.len
 have hm7s:=Zau hm7
 refine aIx 6 rfl Tryz.underlying31 ZaW (h:=aT 7 rfl (Zal fun D=>Z6 [_,_,_,_,_] rfl rfl ZfZ rfl (ZjQ hc7 0 rfl rfl) r4) (h:=aT 8 rfl (Zal fun D=>Zae rfl rfl Zwl rfl (Zl7 _ _ _ _ _ _ _ _ x y _ hg4 hm4 hg7 hm7) r4) (h:=aN 9 rfl (h:=ZB kr kr ?_))))
 refine Zo (Zb rfl (fun g3=>?_) (fun g3=>?_))
 try simp only [sQ,ne_eq] at g3
 refine Za (xA (h:=Ze (Zy (Zk (ZN (Zy (Zk ?_)))))))
 exact eR t1 ⟨Zd (Zer hx hy g3),rfl,rfl⟩
 try simp only [sQ,ne_eq] at g3
 refine ZY (ZS (Zo (Zj (xM (h:=xD (h:=xA (h:=?_)))))))
 exact ZE (k+1) [] so2 ⟨rfl,oz,Zbw hx hy g3 he⟩ t4 rfl
 try simp only [sQ,ne_eq] at g2
 refine ZD (ZW (ZG (Zs (Zo (Za (xA (h:=Ze ?_)))))))
 exact eR t1 ⟨Zd (eqT oz oz he),rfl,rfl⟩

theorem Zgb (qa1 qb1 qc1:Option Addr) (ca1 cb1 cc1:Nat) (qa2 qb2 qc2:Option Addr) (ca2 cb2 cc2:Nat) (a b:DHost) (B:Kn) (hu1:SlK B qa1 ca1 3 Zt a.users) (hf1:SlK B qb1 cb1 5 Zn a.folders) (hi1:SlK B qc1 cc1 4 ZI a.queue.items) (hu2:SlK B qa2 ca2 3 Zt b.users) (hf2:SlK B qb2 cb2 5 Zn b.folders) (hi2:SlK B qc2 cc2 4 ZI b.queue.items):Zaa (pj J) 9 [.agg #[str a.domain,.slice qa1 a.users.length ca1,.slice qb1 a.folders.length cb1,.int .i64 a.queue.next,.slice qc1 a.queue.items.length cc1],.agg #[str b.domain,.slice qa2 b.users.length ca2,.slice qb2 b.folders.length cb2,.int .i64 b.queue.next,.slice qc2 b.queue.items.length cc2]] B (.bool (decide (a=b))):=by
 refine cB 28 Tryz.func9 (h:=?_)
 refine Za (xBx [_,_,_,_,_] (h:=fun b1=>xBx [_,_,_,_,_] (h:=fun b2=>xA (h:=tL2 (Zc (Za (xW ZgK (h:=x1 lk9 0 (h:=xW ZgK (h:=x1 lk9 1 (h:=Zez (h:=Zb rfl (fun g1=>?_) (fun g1=>?_)))))))))))))
 try simp only [sQ,ne_eq] at g1
 refine Za (xA (h:=Ze (Zk ?_)))
 exact eR t1 ⟨Zd (by symm;rw [decide_eq_false_iff_not];rintro rfl;exact g1 rfl),rfl,rfl⟩
 try simp only [sQ,ne_eq] at g1
 refine wSk (Zc (Za (xW ZbB (h:=x1 ZhV 0 (h:=xW ZbB (h:=x1 ZhV 1 (h:=xR ZwQ rfl (ZnY _ _ _ _ _ _ _ hu1 hu2) (h:=xN (h:=Zb rfl (fun g2=>?_) (fun g2=>?_))))))))))
 try simp only [sQ,ne_eq] at g2
 refine Za (xA (h:=Ze (Zk ?_)))
 exact eR t1 ⟨Zd (by symm;rw [decide_eq_false_iff_not];rintro rfl;exact g2 rfl),rfl,rfl⟩
 try simp only [sQ,ne_eq] at g2
 refine wSk (Zc (Za (xW Z3 (h:=x1 ZdN 0 (h:=xW Z3 (h:=x1 ZdN 1 (h:=xR ZwP rfl (Zkt _ _ _ _ _ _ _ hf1 hf2) (h:=xN (h:=Zb rfl (fun g3=>?_) (fun g3=>?_))))))))))
 try simp only [sQ,ne_eq] at g3
 refine Za (xA (h:=Ze (Zk ?_)))
 exact eR t1 ⟨Zd (by symm;rw [decide_eq_false_iff_not];rintro rfl;exact g3 rfl),rfl,rfl⟩
 try simp only [sQ,ne_eq] at g3
 refine wSk (Zc (Za (xW ZdL (h:=xL [_,_] Zjz 0 (h:=xW ZdL (h:=xL [_,_] Zjz 1 (h:=xR ZwO rfl (ZnZ _ _ _ _ a.queue b.queue _ hi1 hi2) (h:=xN (h:=Zb rfl (fun g4=>?_) (fun g4=>?_))))))))))
 try simp only [sQ,ne_eq] at g4
 refine Za (xA (h:=Ze (Zk ?_)))
 exact eR t1 ⟨Zd (by symm;rw [decide_eq_false_iff_not];rintro rfl;exact g4 rfl),rfl,rfl⟩
 try simp only [sQ,ne_eq] at g4
 refine wSk (Za (xA (h:=Ze ?_)))
 exact eR t1 ⟨Zd (by symm;rw [decide_eq_true_eq];cases a;cases b;simp_all),rfl,rfl⟩

theorem Zmd (q:Option Addr) (cp:Nat) (x:DBox) (B:Kn) (hm:SlK B q cp 3 Z9 x.mail):ZA (pj J) 188 [.agg #[.int .i64 x.next,.slice q x.mail.length cp]] B [] (fun v B' Ls=>B'=B∧∃l a c,Ls=[l]∧v = .agg #[.int .i64 x.next,.slice a x.mail.length c]∧ZU B l a c 164 3 Z9 x.mail):=by
 refine cB 10 Tryz.func188 (h:=?_)
 have hxn:=hm.len
 refine Za (xBx [_,_] (h:=fun b1=>xAl [_,_] ZqE (h:=fun b2=>tL2 (Zc (Z2 (keeps _ [0] _) mo kr ⟨Kn.le.refl _,Zba.refl _ _⟩ (fun _ _=>?_))))))
 refine aW 0 rfl Zfm (h:=aT 1 rfl (ZR fun D B L hI=>Zp rfl rfl lk3 rfl (atL 0 (hI.2.1.trans rfl) rfl rfl) r4) (h:=aW 3 rfl ZbS (h:=aT 4 rfl (ZR fun D B L hI=>Zp rfl rfl Zjy rfl (atL 0 (hI.2.1.trans rfl) rfl rfl) r4) (h:=Zz 2 kr rfl kr (Zu (parts:=[]) [] rfl rfl Tryz.underlying57 ZcE ZhC rfl rfl rfl rfl rfl (fun b3=>?_))))))
 refine ⟨⟨Kn.le.refl _,t1⟩,(Zz 5 kr rfl kr (ZaG (R:=Z9) 2 rfl (ZU.lit0 (R:=Z9)) rfl rfl rfl Zua Zvs rfl rfl rfl hm.rows Z9.one rfl om (fun l4 p4 c4 hv4=>?_)))⟩
 refine ⟨⟨Kn.le.refl _,t1⟩,(aT 6 rfl (ZR fun D B L hI=>Zav (parts:=[(0,_),(1,_)]) [_,_] [_,_] rfl rfl ZtW ZqE rfl rfl rfl r4) (h:=Z0 7 kr rfl kr kr kr (ZV [_,_] 1 [_,_] rfl rfl ZrY rfl rfl rfl rfl rfl rfl rfl rfl ?_)))⟩
 refine Zo (tL3 (Ze ?_))
 exact eN [2] rfl ⟨⟨_,rfl,.inr ⟨[_,_],Zk5,ZbX 1 rfl rfl rfl,rfl⟩⟩,trivial⟩ ⟨rfl,_,_,_,rfl,rfl,hv4⟩

theorem Zh9 (qa qb:Option Addr) (ca cb:Nat) (x:DFolder) (B:Kn) (hg:SlK B qa ca 2 ZZ x.grants) (hm:SlK B qb cb 3 Z9 x.mail):ZA (pj J) 146 [.agg #[str x.owner,str x.name,.slice qa x.grants.length ca,.int .i64 x.next,.slice qb x.mail.length cb]] B [] (fun v B' Ls=>B'=B∧∃l a c l' a' c',Ls=[l,l']∧v = .agg #[str x.owner,str x.name,.slice a x.grants.length c,.int .i64 x.next,.slice a' x.mail.length c']∧ZU B l a c 109 2 ZZ x.grants∧ZU B l' a' c' 164 3 Z9 x.mail):=by
 refine cB 13 Tryz.func146 (h:=?_)
 have hgn:=hg.len
 have hmn:=hm.len
 refine Za (xBx [_,_,_,_,_] (h:=fun b1=>xAl [_,_,_,_,_] Zc4 (h:=fun b2=>tL2 (Za (xBs [] [] Tryz.underlying54 Zdu Zij (h:=fun b3=>xW Zd9 (h:=x1 Zqg 0 (h:=Zq (ZaG (R:=ZZ) 2 rfl (ZU.lit0 (R:=ZZ)) rfl rfl rfl Zub Zvt rfl rfl rfl hg.rows ZZ.one rfl om (fun l4 p4 c4 hv4=>?_))))))))))
 refine xW Zd9 (h:=xS [_] 0 [_,_,_,_,_] ZtR (h:=tL3 (Za (xW ZcO (h:=xL [_,_] Zk5 0 (h:=xC Zus rfl (Zmd _ _ (⟨x.next,x.mail⟩:DBox) _ hm) (h:=?_)))))))
 rintro _ B5 _ hle5 ⟨rfl,l5,a5,c5,rfl,rfl,hs5⟩
 refine xW ZcO (h:=xS [_,_] 0 [_,_,_,_,_] ZrY (h:=tL4 (Za (xL [_,_,_,_,_] ZfZ 0 (h:=xS [_,_,_,_,_] 1 [_,_,_,_,_] ZaW (h:=tL4 (Ze ?_)))))))
 exact eN [2,3] rfl ⟨⟨_,rfl,.inr ⟨[_,_,_,_,_],ZfZ,ZbX 1 rfl rfl rfl,rfl⟩⟩,trivial⟩ ⟨rfl,_,_,_,_,_,_,rfl,rfl,hv4,hs5⟩

theorem Z7 (k:Nat) (hk:k≤1000000000000000) (B:Kn):Zaa (pj J) 77 [.int .i64 k] B (str (ZO k)):=by
 refine cB 20 Tryz.func77 (h:=?_)
 refine Za (xA (h:=Zc (Za (xM (h:=ZbT (h:=Zb rfl (fun g1=>?_) (fun g1=>?_)))))))
 try simp only [sQ,ne_eq] at g1
 refine Za (xA (h:=Ze (Zk ?_)))
 exact eR t1 ⟨Zqb (by rw [ZO,if_pos oz]),rfl,rfl⟩
 try simp only [sQ,ne_eq] at g1
 refine wSk (Za (xA (h:=Zc (Zh (Zx (α:=Nat × Str) [2,5] (fun g=>[(0,.int .i64 g.1),(3,str g.2)]) [] (fun g=>[]) (fun g Bx=>Bx=B∧g.1≤k∧digs k=digs g.1 ++ g.2) (fun g=>g.1) (k,[]) t2 rfl (⟨rfl,Nat.le_refl _,by simp⟩) (fun g B1 hle1 hI=>?_))))))
 obtain ⟨rfl,hl,hs⟩:=hI
 have hgl:=ZrN hk hs
 refine ZC [(0,_),(2,_),(3,_),(5,_)] [] t4 rfl (Zc (Za (xM (h:=ZdM (h:=Zb rfl (fun g2=>?_) (fun g2=>?_))))))
 try simp only [sQ,ne_eq] at g2
 refine wSk (Zh (Za (xM (h:=Zq (ZtF (a:=(g.1:Int)) (b:=10) (r:=((g.1 % 10:Nat):Int)) rfl rfl rfl rfl (by decide) rfl ?_)))))
 refine xD (h:=Zq (ZqI rfl rfl Tryz.underlying3 Tryz.underlying5 rfl (by first | exact ZbQ om om | rfl) ?_))
 refine xBs [(0,_)] [_] Tryz.underlying162 sz5 zo5 (h:=fun b2=>Zq (Zmy rfl rfl Tryz.underlying162 Tryz.underlying9 Tryz.underlying5 rfl (Za6.box 0 rfl) (xM (h:=Zq (Zsl (a:=dig g.1) (b:=g.2) rfl rfl rfl rfl (by simp [dig];omega) ?_)))))
 refine xA (h:=tL1 (Zj (xM (h:=Zq (Zr4 (a:=(g.1:Int)) (b:=10) (r:=((g.1 / 10:Nat):Int)) rfl rfl rfl rfl (by decide) (by rw [show Int.tdiv (g.1:Int) 10=((g.1 / 10:Nat):Int) from rfl];exact ZbQ oz oz) ?_)))))
 refine xA (h:=ZS ?_)
 exact ZE (g.1 / 10,dig g.1 ++ g.2) [] so2 ⟨rfl,so,Zn9 hs oz⟩ t4 rfl
 try simp only [sQ,ne_eq] at g2
 refine ZD (ZW (ZG (Zs (Zo (Za (xM (h:=Zq (Zsl rfl rfl rfl rfl (by first | omega | (simp;omega)) ?_))))))))
 refine xA (h:=Ze ?_)
 exact eR t1 ⟨Zqb (by rw [ZO,if_neg oz,hs,show g.1=0 from by omega,Zjg];rfl),rfl,rfl⟩

theorem Zj3 (q:Option Addr) (cp:Nat) (xs:List DMail) (l:Cells) (k:Nat) (hk:k≤900000000000000) (hn:xs.length≤2000000) (B:Kn) (hv:ZU B l q cp 164 3 Z9 xs):ZA (pj J) 79 [.slice q xs.length cp,.int .i64 k] B [l] (fun v B' Ls=>B'=B∧∃l',Ls=[l']∧v = .int .i64 ((k+3*xs.length:Nat):Int)∧ZU B l' q cp 164 3 Z9 (Zbu k xs.length)):=by
 refine cB 35 Tryz.func79 (h:=?_)
 have hvc:=hv.cap
 refine Za (xA (h:=Zc (Za (xA (h:=Zh (Zx (α:=Nat × Cells × List DMail) [4] (fun g=>[(0,.slice q xs.length cp),(1,.int .i64 ((k+3*g.1:Nat):Int)),(5,.int .i64 g.1)]) [0] (fun g=>[g.2.1]) (fun g Bx=>Bx=B∧g.1≤xs.length∧g.2.2.length=xs.length∧g.2.2.take g.1=Zbu k g.1∧ZU Bx g.2.1 q cp 164 3 Z9 g.2.2) (fun g=>xs.length - g.1) (0,l,xs) t3 rfl (⟨rfl,Nat.zero_le _,rfl,rfl,hv⟩) (fun g B1 hle1 hI=>?_)))))))
 obtain ⟨rfl,hi,hle,ht,hw⟩:=hI
 refine ZC [(0,_),(1,_),(4,_),(5,_)] [_] t4 rfl (Zc (Za (xM (h:=xM (h:=xV Tryz.underlying57 (h:=ZF (h:=Zb rfl (fun g1=>?_) (fun g1=>?_))))))))
 try simp only [sQ,ne_eq] at g1
 refine wSk (Zc (Zh (Za (xM (h:=xM (h:=xM (h:=?_)))))))
 obtain ⟨z1,hz1⟩:=ZX (xs:=g.2.2) (i:=g.1) om
 obtain ⟨bb3,_,hp3,⟨rfl,hb3⟩,hw3,hc3⟩:=hw.row hz1
 refine xIp hp3 Tryz.underlying57 ZcE (h:=xW Zcn (h:=Zq (Zgf (k:=g.1) (off:=0) (⟨((k+3*g.1:Nat):Int),z1.flags,z1.text⟩) [_] 0 hw hp3 hz1 rfl rfl sz3 rfl rfl rfl rfl rfl rfl (by rintro _ ⟨rfl,e1⟩;exact ⟨rfl,e1⟩) (fun l4 hv4=>?_))))
 refine tL1 (Za (xM (h:=xD (h:=xA (h:=Za (xM (h:=xM (h:=xM (h:=?_)))))))))
 obtain ⟨z2,hz2⟩:=ZX (xs:=(g.2.2.set g.1 (⟨((k+3*g.1:Nat):Int),z1.flags,z1.text⟩))) (i:=g.1) om
 obtain ⟨bb6,_,hp6,⟨rfl,hb6⟩,hw6,hc6⟩:=hv4.row hz2
 refine xIp hp6 Tryz.underlying57 ZcE (h:=xW ZeW (h:=Zq (Zgf (k:=g.1) (off:=1) (⟨z2.uid,((k+3*g.1+1:Nat):Int),z2.text⟩) [_] 0 hv4 hp6 hz2 rfl rfl sz3 rfl rfl rfl rfl rfl rfl (by rintro _ ⟨rfl,e1⟩;exact ⟨rfl,e1⟩) (fun l7 hv7=>?_))))
 refine tL1 (Za (xM (h:=xD (h:=xA (h:=Za (xM (h:=xM (h:=xM (h:=xR Zii rfl (Z7 (((k+3*g.1)+1)+1) oz _) (h:=?_))))))))))
 obtain ⟨z3,hz3⟩:=ZX (xs:=((g.2.2.set g.1 (⟨((k+3*g.1:Nat):Int),z1.flags,z1.text⟩)).set g.1 (⟨z2.uid,((k+3*g.1+1:Nat):Int),z2.text⟩))) (i:=g.1) om
 obtain ⟨bb10,_,hp10,⟨rfl,hb10⟩,hw10,hc10⟩:=hv7.row hz3
 refine xIp hp10 Tryz.underlying57 ZcE (h:=xW ZdD (h:=Zq (Zgf (k:=g.1) (off:=2) (⟨z3.uid,z3.flags,ZO (k+3*g.1+1+1)⟩) [_] 0 hv7 hp10 hz3 rfl rfl sz9 rfl rfl rfl rfl rfl rfl (by rintro _ ⟨rfl,e1⟩;exact ⟨rfl,show (ZO (k+3*g.1+1+1)).length≤2000000 from Nat.le_trans (ZbJ (k:=k+3*g.1+1+1) oz) (by decide)⟩) (fun l11 hv11=>?_))))
 refine tL1 (Zj (xM (h:=xD (h:=xA (h:=ZS (Zo (Zj (xM (h:=xD (h:=xA (h:=?_)))))))))))
 exact ZE (g.1+1,l11,(((g.2.2.set g.1 (⟨((k+3*g.1:Nat):Int),z1.flags,z1.text⟩)).set g.1 (⟨z2.uid,((k+3*g.1+1:Nat):Int),z2.text⟩)).set g.1 (⟨z3.uid,z3.flags,ZO (k+3*g.1+1+1)⟩))) [0] so2 ⟨rfl,so,by simp only [List.length_set];exact hle,ZiP ht hz1 hz2 hz3,hv11⟩ t4 rfl
 try simp only [sQ,ne_eq] at g1
 have he:=Zk2 ht oz
 have hgi:g.1=xs.length:=by omega
 rw [hgi] at he
 refine ZD (ZW (ZG (Zs (Zo (Za (xM (h:=xA (h:=Ze ?_))))))))
 exact Zes .ret (.inl rfl) [_] [0] rfl ⟨rfl,trivial⟩ ⟨rfl,_,rfl,by rw [hgi];rfl,by rw [← he];exact hw⟩

theorem ZiT (q:Option Addr) (cp:Nat) (xs:List DGrant) (l:Cells) (k:Nat) (hk:k≤900000000000000) (hn:xs.length≤2000000) (B:Kn) (hv:ZU B l q cp 109 2 ZZ xs):ZA (pj J) 78 [.slice q xs.length cp,.int .i64 k] B [l] (fun v B' Ls=>B'=B∧∃l',Ls=[l']∧v = .int .i64 ((k+2*xs.length:Nat):Int)∧ZU B l' q cp 109 2 ZZ (Zar k xs.length)):=by
 refine cB 28 Tryz.func78 (h:=?_)
 have hvc:=hv.cap
 refine Za (xA (h:=Zc (Za (xA (h:=Zh (Zx (α:=Nat × Cells × List DGrant) [4] (fun g=>[(0,.slice q xs.length cp),(1,.int .i64 ((k+2*g.1:Nat):Int)),(5,.int .i64 g.1)]) [0] (fun g=>[g.2.1]) (fun g Bx=>Bx=B∧g.1≤xs.length∧g.2.2.length=xs.length∧g.2.2.take g.1=Zar k g.1∧ZU Bx g.2.1 q cp 109 2 ZZ g.2.2) (fun g=>xs.length - g.1) (0,l,xs) t3 rfl (⟨rfl,Nat.zero_le _,rfl,rfl,hv⟩) (fun g B1 hle1 hI=>?_)))))))
 obtain ⟨rfl,hi,hle,ht,hw⟩:=hI
 refine ZC [(0,_),(1,_),(4,_),(5,_)] [_] t4 rfl (Zc (Za (xM (h:=xM (h:=xV Tryz.underlying54 (h:=ZF (h:=Zb rfl (fun g1=>?_) (fun g1=>?_))))))))
 try simp only [sQ,ne_eq] at g1
 refine wSk (Zc (Zh (Za (xM (h:=xM (h:=xM (h:=xR Zii rfl (Z7 (k+2*g.1) oz _) (h:=?_))))))))
 obtain ⟨z1,hz1⟩:=ZX (xs:=g.2.2) (i:=g.1) om
 obtain ⟨bb4,_,hp4,⟨rfl,hb4⟩,hw4,hc4⟩:=hw.row hz1
 refine xIp hp4 Tryz.underlying54 Zdu (h:=xW Zco (h:=Zq (Zgf (k:=g.1) (off:=0) (⟨ZO (k+2*g.1),z1.rights⟩) [_] 0 hw hp4 hz1 rfl rfl sz9 rfl rfl rfl rfl rfl rfl (by rintro _ ⟨rfl,e1⟩;exact ⟨rfl,show (ZO (k+2*g.1)).length≤2000000 from Nat.le_trans (ZbJ (k:=k+2*g.1) oz) (by decide)⟩) (fun l5 hv5=>?_))))
 refine tL1 (Za (xM (h:=xD (h:=xA (h:=Za (xM (h:=xM (h:=xM (h:=?_)))))))))
 obtain ⟨z2,hz2⟩:=ZX (xs:=(g.2.2.set g.1 (⟨ZO (k+2*g.1),z1.rights⟩))) (i:=g.1) om
 obtain ⟨bb7,_,hp7,⟨rfl,hb7⟩,hw7,hc7⟩:=hv5.row hz2
 refine xIp hp7 Tryz.underlying54 Zdu (h:=xW ZdE (h:=Zq (Zgf (k:=g.1) (off:=1) (⟨z2.user,((k+2*g.1+1:Nat):Int)⟩) [_] 0 hv5 hp7 hz2 rfl rfl sz3 rfl rfl rfl rfl rfl rfl (by rintro _ ⟨rfl,e1⟩;exact ⟨rfl,e1⟩) (fun l8 hv8=>?_))))
 refine tL1 (Zj (xM (h:=xD (h:=xA (h:=ZS (Zo (Zj (xM (h:=xD (h:=xA (h:=?_)))))))))))
 exact ZE (g.1+1,l8,((g.2.2.set g.1 (⟨ZO (k+2*g.1),z1.rights⟩)).set g.1 (⟨z2.user,((k+2*g.1+1:Nat):Int)⟩))) [0] so2 ⟨rfl,so,by simp only [List.length_set];exact hle,ZhS ht hz1 hz2,hv8⟩ t4 rfl
 try simp only [sQ,ne_eq] at g1
 have he:=Zk2 ht oz
 have hgi:g.1=xs.length:=by omega
 rw [hgi] at he
 refine ZD (ZW (ZG (Zs (Zo (Za (xM (h:=xA (h:=Ze ?_))))))))
 exact Zes .ret (.inl rfl) [_] [0] rfl ⟨rfl,trivial⟩ ⟨rfl,_,rfl,by rw [hgi];rfl,by rw [← he];exact hw⟩

theorem Zj1 (q:Option Addr) (cp:Nat) (xs:List DUser) (l:Cells) (k:Nat) (hk:k≤900000000000000) (hn:xs.length≤2000000) (B:Kn) (hv:ZU B l q cp 97 3 Zt xs):ZA (pj J) 36 [.slice q xs.length cp,.int .i64 k] B [l] (fun v B' Ls=>B'=B∧∃l',Ls=[l']∧v = .int .i64 ((k+3*xs.length:Nat):Int)∧ZU B l' q cp 97 3 Zt (Zb3 k xs.length)):=by
 refine cB 36 Tryz.func36 (h:=?_)
 have hvc:=hv.cap
 refine Za (xA (h:=Zc (Za (xA (h:=Zh (Zx (α:=Nat × Cells × List DUser) [4] (fun g=>[(0,.slice q xs.length cp),(1,.int .i64 ((k+3*g.1:Nat):Int)),(5,.int .i64 g.1)]) [0] (fun g=>[g.2.1]) (fun g Bx=>Bx=B∧g.1≤xs.length∧g.2.2.length=xs.length∧g.2.2.take g.1=Zb3 k g.1∧ZU Bx g.2.1 q cp 97 3 Zt g.2.2) (fun g=>xs.length - g.1) (0,l,xs) t3 rfl (⟨rfl,Nat.zero_le _,rfl,rfl,hv⟩) (fun g B1 hle1 hI=>?_)))))))
 obtain ⟨rfl,hi,hle,ht,hw⟩:=hI
 refine ZC [(0,_),(1,_),(4,_),(5,_)] [_] t4 rfl (Zc (Za (xM (h:=xM (h:=xV Tryz.underlying30 (h:=ZF (h:=Zb rfl (fun g1=>?_) (fun g1=>?_))))))))
 try simp only [sQ,ne_eq] at g1
 refine wSk (Zc (Zh (Za (xM (h:=xM (h:=xM (h:=xR Zii rfl (Z7 (k+3*g.1) oz _) (h:=?_))))))))
 obtain ⟨z1,hz1⟩:=ZX (xs:=g.2.2) (i:=g.1) om
 obtain ⟨bb4,_,hp4,⟨rfl,hb4,hb4b⟩,hw4,hc4⟩:=hw.row hz1
 refine xIp hp4 Tryz.underlying30 ZdR (h:=xW ZbP (h:=Zq (Zgf (k:=g.1) (off:=0) (⟨ZO (k+3*g.1),z1.pass,z1.quota⟩) [_] 0 hw hp4 hz1 rfl rfl sz9 rfl rfl rfl rfl rfl rfl (by rintro _ ⟨rfl,e1,e2⟩;exact ⟨rfl,show (ZO (k+3*g.1)).length≤2000000 from Nat.le_trans (ZbJ (k:=k+3*g.1) oz) (by decide),e2⟩) (fun l5 hv5=>?_))))
 refine tL1 (Za (xM (h:=xD (h:=xA (h:=Za (xM (h:=xM (h:=xM (h:=xR Zii rfl (Z7 ((k+3*g.1)+1) oz _) (h:=?_))))))))))
 obtain ⟨z2,hz2⟩:=ZX (xs:=(g.2.2.set g.1 (⟨ZO (k+3*g.1),z1.pass,z1.quota⟩))) (i:=g.1) om
 obtain ⟨bb8,_,hp8,⟨rfl,hb8,hb8b⟩,hw8,hc8⟩:=hv5.row hz2
 refine xIp hp8 Tryz.underlying30 ZdR (h:=xW ZgJ (h:=Zq (Zgf (k:=g.1) (off:=1) (⟨z2.name,ZO (k+3*g.1+1),z2.quota⟩) [_] 0 hv5 hp8 hz2 rfl rfl sz9 rfl rfl rfl rfl rfl rfl (by rintro _ ⟨rfl,e1,e2⟩;exact ⟨rfl,e1,show (ZO (k+3*g.1+1)).length≤2000000 from Nat.le_trans (ZbJ (k:=k+3*g.1+1) oz) (by decide)⟩) (fun l9 hv9=>?_))))
 refine tL1 (Za (xM (h:=xD (h:=xA (h:=Za (xM (h:=xM (h:=xM (h:=?_)))))))))
 obtain ⟨z3,hz3⟩:=ZX (xs:=((g.2.2.set g.1 (⟨ZO (k+3*g.1),z1.pass,z1.quota⟩)).set g.1 (⟨z2.name,ZO (k+3*g.1+1),z2.quota⟩))) (i:=g.1) om
 obtain ⟨bb11,_,hp11,⟨rfl,hb11,hb11b⟩,hw11,hc11⟩:=hv9.row hz3
 refine xIp hp11 Tryz.underlying30 ZdR (h:=xW ZeE (h:=Zq (Zgf (k:=g.1) (off:=2) (⟨z3.name,z3.pass,((k+3*g.1+1+1:Nat):Int)⟩) [_] 0 hv9 hp11 hz3 rfl rfl sz3 rfl rfl rfl rfl rfl rfl (by rintro _ ⟨rfl,e1,e2⟩;exact ⟨rfl,e1,e2⟩) (fun l12 hv12=>?_))))
 refine tL1 (Zj (xM (h:=xD (h:=xA (h:=ZS (Zo (Zj (xM (h:=xD (h:=xA (h:=?_)))))))))))
 exact ZE (g.1+1,l12,(((g.2.2.set g.1 (⟨ZO (k+3*g.1),z1.pass,z1.quota⟩)).set g.1 (⟨z2.name,ZO (k+3*g.1+1),z2.quota⟩)).set g.1 (⟨z3.name,z3.pass,((k+3*g.1+1+1:Nat):Int)⟩))) [0] so2 ⟨rfl,so,by simp only [List.length_set];exact hle,ZiO ht hz1 hz2 hz3,hv12⟩ t4 rfl
 try simp only [sQ,ne_eq] at g1
 have he:=Zk2 ht oz
 have hgi:g.1=xs.length:=by omega
 rw [hgi] at he
 refine ZD (ZW (ZG (Zs (Zo (Za (xM (h:=xA (h:=Ze ?_))))))))
 exact Zes .ret (.inl rfl) [_] [0] rfl ⟨rfl,trivial⟩ ⟨rfl,_,rfl,by rw [hgi];rfl,by rw [← he];exact hw⟩

theorem ZhT (q:Option Addr) (cp:Nat) (xs:List Str) (l:Cells) (k:Nat) (hk:k≤900000000000000) (hn:xs.length≤2000000) (B:Kn) (hv:ZU B l q cp 9 1 ZcT xs):ZA (pj J) 120 [.slice q xs.length cp,.int .i64 k] B [l] (fun v B' Ls=>B'=B∧∃l',Ls=[l']∧v = .int .i64 ((k+1*xs.length:Nat):Int)∧ZU B l' q cp 9 1 ZcT (ZcL k xs.length)):=by
 refine cB 20 Tryz.func120 (h:=?_)
 have hvc:=hv.cap
 refine Za (xA (h:=Zc (Za (xA (h:=Zh (Zx (α:=Nat × Cells × List Str) [4] (fun g=>[(0,.slice q xs.length cp),(1,.int .i64 ((k+1*g.1:Nat):Int)),(5,.int .i64 g.1)]) [0] (fun g=>[g.2.1]) (fun g Bx=>Bx=B∧g.1≤xs.length∧g.2.2.length=xs.length∧g.2.2.take g.1=ZcL k g.1∧ZU Bx g.2.1 q cp 9 1 ZcT g.2.2) (fun g=>xs.length - g.1) (0,l,xs) t3 rfl (⟨rfl,Nat.zero_le _,rfl,rfl,hv⟩) (fun g B1 hle1 hI=>?_)))))))
 obtain ⟨rfl,hi,hle,ht,hw⟩:=hI
 refine ZC [(0,_),(1,_),(4,_),(5,_)] [_] t4 rfl (Zc (Za (xM (h:=xM (h:=xV Tryz.underlying99 (h:=ZF (h:=Zb rfl (fun g1=>?_) (fun g1=>?_))))))))
 try simp only [sQ,ne_eq] at g1
 refine wSk (Zc (Zh (Za (xM (h:=xM (h:=xM (h:=xR Zii rfl (Z7 (k+1*g.1) oz _) (h:=?_))))))))
 obtain ⟨z1,hz1⟩:=ZX (xs:=g.2.2) (i:=g.1) om
 obtain ⟨bb4,_,hp4,⟨rfl,hb4⟩,hw4,hc4⟩:=hw.row hz1
 refine xIp hp4 Tryz.underlying99 sz9 (h:=Zq (Zgf (k:=g.1) (off:=0) (ZO (k+1*g.1)) [_] 0 hw hp4 hz1 rfl rfl sz9 rfl rfl rfl rfl rfl rfl (by rintro _ ⟨rfl,e1⟩;exact ⟨rfl,show (ZO (k+1*g.1)).length≤2000000 from Nat.le_trans (ZbJ (k:=k+1*g.1) oz) (by decide)⟩) (fun l5 hv5=>?_)))
 refine tL1 (Zj (xM (h:=xD (h:=xA (h:=ZS (Zo (Zj (xM (h:=xD (h:=xA (h:=?_)))))))))))
 exact ZE (g.1+1,l5,(g.2.2.set g.1 (ZO (k+1*g.1)))) [0] so2 ⟨rfl,so,by simp only [List.length_set];exact hle,ZjX ht hz1,hv5⟩ t4 rfl
 try simp only [sQ,ne_eq] at g1
 have he:=Zk2 ht oz
 have hgi:g.1=xs.length:=by omega
 rw [hgi] at he
 refine ZD (ZW (ZG (Zs (Zo (Za (xM (h:=xA (h:=Ze ?_))))))))
 exact Zes .ret (.inl rfl) [_] [0] rfl ⟨rfl,trivial⟩ ⟨rfl,_,rfl,by rw [hgi];rfl,by rw [← he];exact hw⟩

theorem Znv (q:Option Addr) (cp:Nat) (x:DBox) (B:Kn) (hm:SlK B q cp 3 Z9 x.mail):ZA (pj J) 98 [.agg #[.int .i64 x.next,.slice q x.mail.length cp]] B [] (fun v B' Ls=>B'=B∧∃l a c,Ls=[l]∧v = .agg #[.int .i64 x.next,.slice a x.mail.length c]∧ZU B l a c 164 3 Z9 x.mail):=by
 refine cB 9 Tryz.func98 (h:=?_)
 have hxn:=hm.len
 refine Za (xBx [_,_] (h:=fun b1=>xAl [_,_] ZqE (h:=fun b2=>tL2 (Za (xBs [] [] Tryz.underlying57 ZcE ZhC (h:=fun b3=>xW ZbS (h:=x1 Zjy 0 (h:=Zq (ZaG (R:=Z9) 2 rfl (ZU.lit0 (R:=Z9)) rfl rfl rfl Zua Zvs rfl rfl rfl hm.rows Z9.one rfl om (fun l4 p4 c4 hv4=>?_))))))))))
 refine xW ZbS (h:=xS [_] 0 [_,_] Zvr (h:=tL3 (Za (xL [_,_] Zk5 0 (h:=xS [_,_] 1 [_,_] ZrY (h:=tL3 (Ze ?_)))))))
 exact eN [2] rfl ⟨⟨_,rfl,.inr ⟨[_,_],Zk5,ZbX 1 rfl rfl rfl,rfl⟩⟩,trivial⟩ ⟨rfl,_,_,_,rfl,rfl,hv4⟩

theorem Zj8 (qa qb:Option Addr) (ca cb:Nat) (x:DFolder) (B:Kn) (hg:SlK B qa ca 2 ZZ x.grants) (hm:SlK B qb cb 3 Z9 x.mail):ZA (pj J) 61 [.agg #[str x.owner,str x.name,.slice qa x.grants.length ca,.int .i64 x.next,.slice qb x.mail.length cb]] B [] (fun v B' Ls=>B'=B∧∃l a c l' a' c',Ls=[l,l']∧v = .agg #[str x.owner,str x.name,.slice a x.grants.length c,.int .i64 x.next,.slice a' x.mail.length c']∧ZU B l a c 109 2 ZZ x.grants∧ZU B l' a' c' 164 3 Z9 x.mail):=by
 refine cB 13 Tryz.func61 (h:=?_)
 have hgn:=hg.len
 have hmn:=hm.len
 refine Za (xBx [_,_,_,_,_] (h:=fun b1=>xAl [_,_,_,_,_] Zc4 (h:=fun b2=>tL2 (Za (xBs [] [] Tryz.underlying54 Zdu Zij (h:=fun b3=>xW Zd9 (h:=x1 Zqg 0 (h:=Zq (ZaG (R:=ZZ) 2 rfl (ZU.lit0 (R:=ZZ)) rfl rfl rfl Zub Zvt rfl rfl rfl hg.rows ZZ.one rfl om (fun l4 p4 c4 hv4=>?_))))))))))
 refine xW Zd9 (h:=xS [_] 0 [_,_,_,_,_] ZtR (h:=tL3 (Za (xW ZcO (h:=xL [_,_] Zk5 0 (h:=xC Zv4 rfl (Znv _ _ (⟨x.next,x.mail⟩:DBox) _ hm) (h:=?_)))))))
 rintro _ B5 _ hle5 ⟨hB5,l5,a5,c5,rfl,rfl,hs5⟩
 have hB5:=hB5.symm
 subst hB5
 refine xW ZcO (h:=xS [_,_] 0 [_,_,_,_,_] ZrY (h:=tL4 (Za (xL [_,_,_,_,_] ZfZ 0 (h:=xS [_,_,_,_,_] 1 [_,_,_,_,_] ZaW (h:=tL4 (Ze ?_)))))))
 exact eN [2,3] rfl ⟨⟨_,rfl,.inr ⟨[_,_,_,_,_],ZfZ,ZbX 1 rfl rfl rfl,rfl⟩⟩,trivial⟩ ⟨rfl,_,_,_,_,_,_,rfl,rfl,hv4,hs5⟩

end Go.Proofs.YtgbaglnnkikkgaaGreatDoor
