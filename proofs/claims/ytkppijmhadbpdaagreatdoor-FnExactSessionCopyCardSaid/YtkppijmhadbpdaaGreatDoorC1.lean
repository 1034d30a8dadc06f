/-
  WHAT THE FUNCTIONS THAT THE LAWS REACH COMPUTE: each function's contract, proved off its printed body (the text is written by program). No condition beyond those that each theorem states.
-/
import Derived.Test.YtkppijmhadbpdaaGreatDoorC0
namespace Go.Proofs.YtkppijmhadbpdaaGreatDoor
open Go Go.BL
set_option linter.unusedVariables false
set_option linter.unusedSimpArgs false
set_option maxRecDepth 4000
set_option maxHeartbeats 6400000
variable {J : JoinT}
theorem Zlb (q1 q2 q3:Option Addr) (c1 c2 c3:Nat) (x:DHost) (B:Kn) (hu:SlK B q1 c1 3 Zn x.users) (hf:SlK B q2 c2 5 Zk x.folders):Zac (pj J) 94 [.agg #[str x.domain,.slice q1 x.users.length c1,.slice q2 x.folders.length c2,.int .i64 x.queue.next,.slice q3 x.queue.items.length c3]] B (.bool (Zcy x.users x.folders)):=by
 refine cB 60 Tryz.func94 (h:=?_)
 have hfn:=hf.len
 have hun:=hu.len
 refine Za (xBx [_,_,_,_,_] (h:=fun b1=>xA (h:=tL1 (Zc (Za (xA (h:=Zg (Zz (α:=Nat × Option DFolder) [0,1] (fun g=>[(3,.int .i64 g.1)]) [] (fun g=>[]) (fun g Bx=>Bx=B∧g.1≤x.folders.length∧Zdl x.users (x.folders.take g.1)=(true,g.2)∧Prev some none x.folders g.1 g.2) (fun g=>x.folders.length - g.1) (0,none) t1 rfl (⟨rfl,Nat.zero_le _,ZfR,.zero⟩) (fun g B2 hle2 hI=>?_)))))))))
 obtain ⟨rfl,hk,hs,hp⟩:=hI
 refine ZD [(0,_),(1,_),(3,_)] [_] t3 rfl (Zc (Za (xM (h:=xW Zat (h:=x1 ZeB 0 (h:=xV Tryz.underlying24 (h:=ZF (h:=Zb rfl (fun g1=>?_) (fun g1=>?_)))))))))
 try simp only [sQ,ne_eq] at g1
 refine wSk (Zc (Zg (Za (xW Zat (h:=x1 ZeB 0 (h:=xM (h:=?_)))))))
 obtain ⟨m,hm⟩:=ZY (xs:=x.folders) (i:=g.1) om
 obtain ⟨bb4,oo4,rfl⟩:=hf.base hm
 obtain ⟨_,⟨qg5,cg5,qm5,cm5,rfl,hg5,hm5,hb5,hb5b⟩,hc5⟩:=hf.elem hm
 have hg5n:=hg5.len
 have hm5n:=hm5.len
 have hm5s:=Zao hm5
 refine xIx Tryz.underlying24 ZbM (h:=yL [_,_,_,_,_] ZiB hc5 0 (h:=xAl [_,_,_,_,_] Zgx (h:=fun b6=>xS [_,_,_,_,_] 1 [_,_,_,_,_] ZbM (h:=tL2 (Zc (Z2 (same _ _) mo kr ⟨rfl,rfl⟩ (fun _ _=>?_)))))))
 refine aW 0 rfl ZbL (h:=aT 1 rfl (Zae fun D=>Zo rfl rfl ZiE rfl (atL 0 rfl rfl rfl) r4) (h:=aW 2 rfl ZbW (h:=aT 3 rfl (Zae fun D=>Zo rfl rfl lk9 rfl (atL 1 rfl rfl rfl) r4) (h:=aT 4 rfl (Zae fun D=>Z7 rfl rfl ZxC rfl (Ze4 _ _ _ _ _ hu) r4) (h:=Zt8 5 rfl (h:=aM 6 rfl (h:=ZaK (d:=23) rfl (fun g2=>?_) (fun g2=>?_))))))))
 try simp only [sQ,ne_eq] at g2
 refine aZ 7 rfl (h:=aZ 8 rfl (h:=aZ 9 rfl (h:=aZ 10 rfl (h:=aPT 11 rfl (h:=aM 12 rfl (h:=aZ 13 rfl (h:=aZ 14 rfl (h:=aZ 15 rfl (h:=aZ 16 rfl (h:=aPT 17 rfl (h:=aM 18 rfl (h:=aZ 19 rfl (h:=aZ 20 rfl (h:=aZ 21 rfl (h:=aZ 22 rfl (h:=aPT 23 rfl (h:=aM 24 rfl (h:=aZ 25 rfl (h:=aZ 26 rfl (h:=aZ 27 rfl (h:=aZ 28 rfl (h:=aZ 29 rfl (h:=aZ 30 rfl (h:=aZ 31 rfl (h:=aZ 32 rfl (h:=aZ 33 rfl (h:=aZ 34 rfl (h:=aZ 35 rfl (h:=aZ 36 rfl (h:=aZ 37 rfl (h:=aPT 38 rfl (h:=Zu kr kr ?_))))))))))))))))))))))))))))))))
 refine Zp (Zb (t:=true) rfl (fun _=>Za (xA (h:=Zd (ZB (Zm (ZM (ZB (Zm ?_)))))))) (fun h=>Bool.noConfusion h))
 exact eR t1 ⟨Ze (Zcx hm hs (by simp [ZbB,ZZ,DFolder.box,g1,g2];try omega)).symm,rfl,rfl⟩
 try simp only [sQ,ne_eq] at g2
 refine aW 7 rfl Zeh (h:=aT 8 rfl (Zae fun D=>Zo rfl rfl lk9 rfl (atL 1 rfl rfl rfl) r4) (h:=aT 9 rfl (Zae fun D=>Z7 rfl rfl ZmX rfl (ZcM _ om2 _) r4) (h:=?_)))
 refine aN 10 rfl (h:=aPF 11 rfl (h:=aM 12 rfl (h:=ZaK (d:=29) rfl (fun g3=>?_) (fun g3=>?_))))
 try simp only [sQ,ne_eq] at g3
 refine aZ 13 rfl (h:=aZ 14 rfl (h:=aZ 15 rfl (h:=aZ 16 rfl (h:=aPT 17 rfl (h:=aM 18 rfl (h:=aZ 19 rfl (h:=aZ 20 rfl (h:=aZ 21 rfl (h:=aZ 22 rfl (h:=aPT 23 rfl (h:=aM 24 rfl (h:=aZ 25 rfl (h:=aZ 26 rfl (h:=aZ 27 rfl (h:=aZ 28 rfl (h:=aZ 29 rfl (h:=aZ 30 rfl (h:=aZ 31 rfl (h:=aZ 32 rfl (h:=aZ 33 rfl (h:=aZ 34 rfl (h:=aZ 35 rfl (h:=aZ 36 rfl (h:=aZ 37 rfl (h:=aPT 38 rfl (h:=Zu kr kr ?_))))))))))))))))))))))))))
 refine Zp (Zb (t:=true) rfl (fun _=>Za (xA (h:=Zd (ZB (Zm (ZM (ZB (Zm ?_)))))))) (fun h=>Bool.noConfusion h))
 exact eR t1 ⟨Ze (Zcx hm hs (by simp [ZbB,ZZ,DFolder.box,g1,g2,g3];try omega)).symm,rfl,rfl⟩
 try simp only [sQ,ne_eq] at g3
 refine aW 13 rfl Zeg (h:=aT 14 rfl (Zae fun D=>Zo rfl rfl Zr2 rfl (atL 1 rfl rfl rfl) r4) (h:=aT 15 rfl (Zae fun D=>Z7 rfl rfl ZAa rfl (ZpY _ _ _ _ hg5) r4) (h:=aN 16 rfl (h:=aPF 17 rfl (h:=aM 18 rfl (h:=ZaK (d:=35) rfl (fun g4=>?_) (fun g4=>?_)))))))
 try simp only [sQ,ne_eq] at g4
 refine aZ 19 rfl (h:=aZ 20 rfl (h:=aZ 21 rfl (h:=aZ 22 rfl (h:=aPT 23 rfl (h:=aM 24 rfl (h:=aZ 25 rfl (h:=aZ 26 rfl (h:=aZ 27 rfl (h:=aZ 28 rfl (h:=aZ 29 rfl (h:=aZ 30 rfl (h:=aZ 31 rfl (h:=aZ 32 rfl (h:=aZ 33 rfl (h:=aZ 34 rfl (h:=aZ 35 rfl (h:=aZ 36 rfl (h:=aZ 37 rfl (h:=aPT 38 rfl (h:=Zu kr kr ?_))))))))))))))))))))
 refine Zp (Zb (t:=true) rfl (fun _=>Za (xA (h:=Zd (ZB (Zm (ZM (ZB (Zm ?_)))))))) (fun h=>Bool.noConfusion h))
 exact eR t1 ⟨Ze (Zcx hm hs (by simp [ZbB,ZZ,DFolder.box,g1,g2,g3,g4];try omega)).symm,rfl,rfl⟩
 try simp only [sQ,ne_eq] at g4
 refine aW 19 rfl Zbv (h:=aT 20 rfl (Zae fun D=>ZW [_,_] rfl rfl Zfl rfl (Zbw 1 rfl rfl rfl) r4) (h:=aT 21 rfl (Zae fun D=>Z7 rfl rfl ZAw rfl (ZpX _ _ (⟨m.next,m.mail⟩:DBox) _ hm5) r4) (h:=aN 22 rfl (h:=aPF 23 rfl (h:=aM 24 rfl (h:=ZaK (d:=41) rfl (fun g5=>?_) (fun g5=>?_)))))))
 try simp only [sQ,ne_eq] at g5
 refine aZ 25 rfl (h:=aZ 26 rfl (h:=aZ 27 rfl (h:=aZ 28 rfl (h:=aZ 29 rfl (h:=aZ 30 rfl (h:=aZ 31 rfl (h:=aZ 32 rfl (h:=aZ 33 rfl (h:=aZ 34 rfl (h:=aZ 35 rfl (h:=aZ 36 rfl (h:=aZ 37 rfl (h:=aPT 38 rfl (h:=Zu kr kr ?_))))))))))))))
 refine Zp (Zb (t:=true) rfl (fun _=>Za (xA (h:=Zd (ZB (Zm (ZM (ZB (Zm ?_)))))))) (fun h=>Bool.noConfusion h))
 exact eR t1 ⟨Ze (Zcx hm hs (by simp [ZbB,ZZ,DFolder.box,g1,g2,g3,g4,g5];try omega)).symm,rfl,rfl⟩
 try simp only [sQ,ne_eq] at g5
 refine aM 25 rfl (h:=Zo9 26 rfl (h:=aM 27 rfl (h:=ZaK (d:=44) rfl (fun g6=>?_) (fun g6=>?_))))
 try simp only [sQ,ne_eq] at g6
 refine aW 28 rfl Zat (h:=aT 29 rfl (Zae fun D=>Zo rfl rfl ZeB rfl (atL 0 rfl rfl rfl) r4) (h:=aM 30 rfl (h:=aU 31 rfl (h:=?_))))
 obtain ⟨y,hy⟩:=ZtF (xs:=x.folders) (i:=(↑g.1 - 1)) om om
 obtain ⟨_,⟨qg12,cg12,qm12,cm12,rfl,hg12,hm12,hb12,hb12b⟩,hc12⟩:=hf.elem hy
 have hg12n:=hg12.len
 have hm12n:=hm12.len
 have hm12s:=Zao hm12
 refine aIx 32 rfl Tryz.underlying24 ZbM (h:=?_)
 have hpe:=hp.at hy oz
 refine aT 33 rfl (Zae fun D=>ZW [_,_,_,_,_] rfl rfl ZiB rfl (Zkf hc12 0 rfl rfl) r4) (h:=aT 34 rfl (Zae fun D=>ZW [_,_,_,_,_] rfl rfl ZiB rfl (Zbw 1 rfl rfl rfl) r4) (h:=aT 35 rfl (Zae fun D=>Z7 rfl rfl Zz9 rfl (ZqE y m _ _ _ _ _ _ _ _ _) r4) (h:=aN 36 rfl (h:=aPT 37 rfl (h:=aPF 38 rfl (h:=Zu kr kr ?_))))))
 refine Zp (Zb rfl (fun g7=>?_) (fun g7=>?_))
 try simp only [sQ,ne_eq] at g7
 refine Za (xA (h:=Zd (ZB (Zm (ZM (ZB (Zm ?_)))))))
 exact eR t1 ⟨Ze (Zcx hm hs (by simp [ZbB,ZZ,DFolder.box,g1,g2,g3,g4,g5,g6,g7,hpe];try omega)).symm,rfl,rfl⟩
 try simp only [sQ,ne_eq] at g7
 refine ZS (ZK (Zp (Zf (xM (h:=xD (h:=xA (h:=?_)))))))
 exact ZC (g.1+1,some m) [0] so2 ⟨rfl,oz,ZcV hm hs (by rw [hpe];simp [ZbB,ZZ,DFolder.box,g3,g4,g5,g7];omega),.succ hm⟩ t3 rfl
 try simp only [sQ,ne_eq] at g6
 refine aZ 28 rfl (h:=aZ 29 rfl (h:=aZ 30 rfl (h:=aZ 31 rfl (h:=aZ 32 rfl (h:=aZ 33 rfl (h:=aZ 34 rfl (h:=aZ 35 rfl (h:=aZ 36 rfl (h:=aPF 37 rfl (h:=aPF 38 rfl (h:=Zu kr kr ?_)))))))))))
 refine Zp (Zb (t:=false) rfl (fun h=>Bool.noConfusion h) (fun _=>ZS (ZK (Zp (Zf (xM (h:=xD (h:=xA (h:=?_)))))))))
 exact ZC (g.1+1,some m) [0] so2 ⟨rfl,oz,ZcV hm hs (by rw [hp.at0 oz];simp [ZbB,ZZ,DFolder.box,g3,g4,g5];omega),.succ hm⟩ t3 rfl
 try simp only [sQ,ne_eq] at g1
 refine ZE (ZV (ZG (Zt (Zp (Za (xW Zat (h:=x1 ZeB 0 (h:=xV Tryz.underlying24 (h:=Zb4 (h:=xA (h:=Zd ?_)))))))))))
 exact eR t1 ⟨Ze (by rw [ZjW (Zey hs oz),Bool.eq_iff_iff];simp;try omega),rfl,rfl⟩

theorem Zok (q1 q2 q3:Option Addr) (c1 c2 c3:Nat) (x:DHost) (hd:x.domain.length≤2000000) (B:Kn) (hu:SlK B q1 c1 3 Zn x.users) (hf:SlK B q2 c2 5 Zk x.folders) (hi:SlK B q3 c3 4 Zy x.queue.items):Zac (pj J) 40 [.agg #[str x.domain,.slice q1 x.users.length c1,.slice q2 x.folders.length c2,.int .i64 x.queue.next,.slice q3 x.queue.items.length c3]] B (.bool (ZQ x)):=by
 refine cB 87 Tryz.func40 (h:=?_)
 have hfn:=hf.len
 have hun:=hu.len
 have hin:=hi.len
 refine Za (xBx [_,_,_,_,_] (h:=fun b1=>xA (h:=tL1 (Zc (Za (xW Zif (h:=x1 lk9 0 (h:=xR ZBy rfl (ZkE _ om2 _) (h:=?_)))))))))
 refine xN (h:=xM (h:=Zx (d:=10) rfl (fun g1=>?_) (fun g1=>?_)))
 try simp only [sQ,ne_eq] at g1
 refine xP (h:=xP (h:=xP (h:=xP (h:=xT (h:=xM (h:=xP (h:=xP (h:=xP (h:=xP (h:=xT (h:=xM (h:=xP (h:=xP (h:=xP (h:=xT (h:=Zb (t:=true) rfl (fun _=>Za (xA (h:=Zd (Zm ?_)))) (fun h=>Bool.noConfusion h)))))))))))))))))
 exact eR t1 ⟨Ze (by simp [ZQ,g1]),rfl,rfl⟩
 try simp only [sQ,ne_eq] at g1
 refine xW ZbL (h:=x1 ZiE 0 (h:=xR ZBx rfl (Zmb _ _ _ _ hu) (h:=xN (h:=xF (h:=xM (h:=Zx (d:=16) rfl (fun g2=>?_) (fun g2=>?_)))))))
 try simp only [sQ,ne_eq] at g2
 refine xP (h:=xP (h:=xP (h:=xP (h:=xT (h:=xM (h:=xP (h:=xP (h:=xP (h:=xT (h:=Zb (t:=true) rfl (fun _=>Za (xA (h:=Zd (Zm ?_)))) (fun h=>Bool.noConfusion h)))))))))))
 exact eR t1 ⟨Ze (by simp [ZQ,g1,g2]),rfl,rfl⟩
 try simp only [sQ,ne_eq] at g2
 refine xW ZeS (h:=xL [_,_] ZlS 0 (h:=xR ZBw rfl (Zmc _ _ x.queue _ hi) (h:=xN (h:=xF (h:=xM (h:=Zx (d:=22) rfl (fun g3=>?_) (fun g3=>?_)))))))
 try simp only [sQ,ne_eq] at g3
 refine xP (h:=xP (h:=xP (h:=xT (h:=Zb (t:=true) rfl (fun _=>Za (xA (h:=Zd (Zm ?_)))) (fun h=>Bool.noConfusion h)))))
 exact eR t1 ⟨Ze (by simp [ZQ,g1,g2,g3]),rfl,rfl⟩
 try simp only [sQ,ne_eq] at g3
 refine xL [_,_,_,_,_] Zcd 0 (h:=xR ZBv rfl (Zlb _ _ _ _ _ _ x _ hu hf) (h:=xN (h:=xF (h:=Zb rfl (fun g4=>?_) (fun g4=>?_)))))
 try simp only [sQ,ne_eq] at g4
 refine Za (xA (h:=Zd (Zm ?_)))
 exact eR t1 ⟨Ze (by simp [ZQ,g1,g2,g3,g4]),rfl,rfl⟩
 try simp only [sQ,ne_eq] at g4
 refine wSk (Zc (Za (xA (h:=Zg (Zz (α:=Nat) [0,1,26] (fun k=>[(3,.int .i64 k)]) [] (fun k=>[]) (fun k Bx=>Bx=B∧k≤x.users.length∧∀z,z∈x.users.take k→Zbd x.folders z=true) (fun k=>x.users.length - k) 0 t1 rfl (⟨rfl,Nat.zero_le _,by simp⟩) (fun k B6 hle6 hI=>?_))))))
 obtain ⟨rfl,hk,ha⟩:=hI
 refine ZD [(0,_),(1,_),(3,_),(26,_)] [_] t4 rfl (Zc (Za (xM (h:=xW ZbL (h:=x1 ZiE 0 (h:=xV Tryz.underlying23 (h:=ZF (h:=Zb rfl (fun g5=>?_) (fun g5=>?_)))))))))
 try simp only [sQ,ne_eq] at g5
 refine wSk (Zc (Zg (Zc (Z2 (same _ _) mo kr ⟨rfl,rfl⟩ (fun _ _=>?_)))))
 refine aT 0 rfl (Zae fun D=>ZW [_,_,_,_,_] rfl rfl Zcd rfl (Zbw 0 rfl rfl rfl) r4) (h:=aW 1 rfl ZbL (h:=aT 2 rfl (Zae fun D=>Zo rfl rfl ZiE rfl (atL 0 rfl rfl rfl) r4) (h:=aM 3 rfl (h:=?_))))
 obtain ⟨w,hw⟩:=ZY (xs:=x.users) (i:=k) om
 obtain ⟨bb8,oo8,rfl⟩:=hu.base hw
 obtain ⟨_,⟨rfl,hb9,hb9b⟩,hc9⟩:=hu.elem hw
 refine aIx 4 rfl Tryz.underlying23 Zbq (h:=aW 5 rfl Zbi (h:=aT 6 rfl (Zae fun D=>Zo rfl rfl lk9 rfl (hc9 _ 0 _ rfl) r4) (h:=aT 7 rfl (Zae fun D=>Z7 rfl rfl Zy8 rfl (Zh2 _ _ _ _ _ _ x w.name [105,110,98,111,120] om2 om2 _ hf) r4) (h:=?_))))
 refine Zt8 8 rfl (h:=aM 9 rfl (h:=ZaK (d:=43) rfl (fun g6=>?_) (fun g6=>?_)))
 try simp only [sQ,ne_eq] at g6
 refine aZ 10 rfl (h:=aZ 11 rfl (h:=aZ 12 rfl (h:=aZ 13 rfl (h:=aZ 14 rfl (h:=aZ 15 rfl (h:=aZ 16 rfl (h:=aZ 17 rfl (h:=aZ 18 rfl (h:=aZ 19 rfl (h:=aZ 20 rfl (h:=aZ 21 rfl (h:=aZ 22 rfl (h:=aZ 23 rfl (h:=aZ 24 rfl (h:=aPT 25 rfl (h:=Zu kr kr ?_))))))))))))))))
 refine Zp (Zb (t:=true) rfl (fun _=>Za (xA (h:=Zd (ZB (Zm (ZM (ZB (Zm ?_)))))))) (fun h=>Bool.noConfusion h))
 exact eR t1 ⟨Ze (Zh8 hw (Zkv g6)).symm,rfl,rfl⟩
 try simp only [sQ,ne_eq] at g6
 refine aT 10 rfl (Zae fun D=>ZW [_,_,_,_,_] rfl rfl Zcd rfl (Zbw 0 rfl rfl rfl) r4) (h:=aW 11 rfl ZbL (h:=aT 12 rfl (Zae fun D=>Zo rfl rfl ZiE rfl (atL 0 rfl rfl rfl) r4) (h:=aM 13 rfl (h:=aIx 14 rfl Tryz.underlying23 Zbq (h:=aW 15 rfl Zbi (h:=aT 16 rfl (Zae fun D=>Zo rfl rfl lk9 rfl (hc9 _ 0 _ rfl) r4) (h:=aT 17 rfl (Zae fun D=>Z7 rfl rfl ZA8 rfl (Zla _ _ _ _ _ _ x _ _ hf) r4) (h:=aW 18 rfl ZbL (h:=aT 19 rfl (Zae fun D=>Zo rfl rfl ZiE rfl (atL 0 rfl rfl rfl) r4) (h:=aM 20 rfl (h:=aIx 21 rfl Tryz.underlying23 Zbq (h:=aW 22 rfl ZdD (h:=aT 23 rfl (Zae fun D=>Zo rfl rfl lk3 rfl (hc9 _ 2 _ rfl) r4) (h:=Zo9 24 rfl (h:=aPF 25 rfl (h:=Zu kr kr ?_))))))))))))))))
 refine Zp (Zb rfl (fun g7=>?_) (fun g7=>?_))
 try simp only [sQ,ne_eq] at g7
 refine Za (xA (h:=Zd (ZB (Zm (ZM (ZB (Zm ?_)))))))
 exact eR t1 ⟨Ze (Zh8 hw (Zku g7)).symm,rfl,rfl⟩
 try simp only [sQ,ne_eq] at g7
 refine ZS (ZK (Zp (Zf (xM (h:=xD (h:=xA (h:=?_)))))))
 exact ZC (k+1) [0] so2 ⟨rfl,oz,Za8 hw ha (Zkt g6 g7)⟩ t4 rfl
 try simp only [sQ,ne_eq] at g5
 refine ZE (ZV (ZG (Zt (Zp (Zc (Za (xA (h:=Zg (Zz (α:=Nat) [0,1,3,26,31] (fun j=>[(4,.int .i64 j)]) [] (fun j=>[]) (fun j Bx=>Bx=B6∧j≤x.queue.items.length∧∀z,z∈x.queue.items.take j→Za1 x.users z=true) (fun j=>x.queue.items.length - j) 0 t1 rfl (⟨rfl,Nat.zero_le _,by simp⟩) (fun j B12 hle12 hI=>?_))))))))))
 obtain ⟨rfl,hj,hb⟩:=hI
 refine ZD [(0,_),(1,_),(3,_),(4,_),(26,_),(31,_)] [_] t6 rfl (Zc (Za (xM (h:=xW ZeS (h:=xW ZbX (h:=x1 Zi5 0 (h:=xV Tryz.underlying25 (h:=ZF (h:=Zb rfl (fun g8=>?_) (fun g8=>?_))))))))))
 try simp only [sQ,ne_eq] at g8
 refine wSk (Zc (Zg (Za (xW ZeS (h:=xW ZbX (h:=x1 Zi5 0 (h:=xM (h:=?_))))))))
 obtain ⟨y,hy⟩:=ZY (xs:=x.queue.items) (i:=j) om
 obtain ⟨bb14,oo14,rfl⟩:=hi.base hy
 obtain ⟨_,⟨qi15,ci15,rfl,hi15,hb15,hb15b⟩,hc15⟩:=hi.elem hy
 have hi15n:=hi15.len
 refine xIx Tryz.underlying25 ZbC (h:=yL [_,_,_,_] Ze1 hc15 0 (h:=xAl [_,_,_,_] Zfs (h:=fun b16=>xS [_,_,_,_] 1 [_,_,_,_] ZbC (h:=tL2 (Za (xW ZbL (h:=x1 ZiE 0 (h:=xW ZeE (h:=x1 lk9 1 (h:=xR ZxC rfl (Ze4 _ _ _ _ _ hu) (h:=ZF (h:=xM (h:=Zx (d:=80) rfl (fun g9=>?_) (fun g9=>?_))))))))))))))
 try simp only [sQ,ne_eq] at g9
 refine xP (h:=xP (h:=xP (h:=xP (h:=xP (h:=xT (h:=Zb (t:=true) rfl (fun _=>Za (xA (h:=Zd (ZB (Zm (ZM (ZB (Zm ?_)))))))) (fun h=>Bool.noConfusion h)))))))
 exact eR t1 ⟨Ze (Zh9 hy (ZjO g9)).symm,rfl,rfl⟩
 try simp only [sQ,ne_eq] at g9
 refine xL [_,_,_,_,_] Zcd 0 (h:=xW ZcQ (h:=x1 ZfV 1 (h:=xR ZBu rfl (ZoF _ _ _ _ _ _ x _ _ y.left _ hu hi15) (h:=xN (h:=xF (h:=Zb rfl (fun ga=>?_) (fun ga=>?_)))))))
 try simp only [sQ,ne_eq] at ga
 refine Za (xA (h:=Zd (ZB (Zm (ZM (ZB (Zm ?_)))))))
 exact eR t1 ⟨Ze (Zh9 hy (ZjN ga)).symm,rfl,rfl⟩
 try simp only [sQ,ne_eq] at ga
 refine ZS (ZK (Zp (Zf (xM (h:=xD (h:=xA (h:=?_)))))))
 exact ZC (j+1) [0] so2 ⟨rfl,oz,Za8 hy hb (ZjM g9 ga)⟩ t6 rfl
 try simp only [sQ,ne_eq] at g8
 refine ZE (ZV (ZG (Zt (Zp (Za (xA (h:=Zd ?_)))))))
 exact eR t1 ⟨Ze (ZoL g1 g2 g3 g4 (ZdX (Zbe oz ha)) (ZdX (Zbe oz hb))).symm,rfl,rfl⟩

theorem Zn2 (q:Option Addr) (cp:Nat) (gs:List DGrant) (B:Kn) (hg:SlK B q cp 2 Z8 gs):Zv (pj J) 216 [.slice q gs.length cp] B [] (Znc gs B):=by
 refine cB 46 Tryz.func216 (h:=?_)
 have hgn:=hg.len
 refine Za (xA (h:=xA (h:=Zc (Za (xM (h:=xV Tryz.underlying94 (h:=ZdP (h:=Zb rfl (fun g0=>?_) (fun g0=>?_)))))))))
 try simp only [sQ,ne_eq] at g0
 refine Za (xA (h:=xA (h:=Zd (Zm ?_))))
 exact Zik .ret (.inl rfl) [_,_] t2 (by simp [Zdh];omega)
 try simp only [sQ,ne_eq] at g0
 refine wSk (Za (Zl (Zpr rfl rfl (fun b1 l1 hl1=>xA (h:=tL1 (Za (xA (h:=Zc (Za (xM (h:=xV Tryz.underlying94 (h:=xM (h:=Zg (Zz (α:=Nat × Str × Cells) [0,4,10,12,13] (fun g=>[(5,str g.2.1),(14,.int .i64 g.1)]) [0] (fun g=>[g.2.2]) (fun g Bx=>Bx=B∧g.1≤gs.length∧Zc0 (gs.take g.1)=(true,g.2.1)∧g.2.1.length≤2000000∧Zwj g.2.2 b1 (Ze5 (gs.take g.1))) (fun g=>gs.length - g.1) (0,[],_) t2 rfl (⟨rfl,Nat.zero_le _,ZfR,by simp,hl1⟩) (fun g B2 hle2 hI=>?_)))))))))))))))
 obtain ⟨rfl,hk,hs,hnm,hml⟩:=hI
 refine ZD [(0,_),(4,_),(5,_),(10,_),(12,_),(13,_),(14,_)] [_] t7 rfl (Za (ZF (h:=Zc (Zb rfl (fun g1=>?_) (fun g1=>?_)))))
 try simp only [sQ,ne_eq] at g1
 refine wSk (Zc (Zg (Za ?_)))
 obtain ⟨m,hm⟩:=ZY (xs:=gs) (i:=g.1) om
 obtain ⟨bb4,oo4,rfl⟩:=hg.base hm
 obtain ⟨_,⟨rfl,hb5⟩,hc5⟩:=hg.elem hm
 refine xIx Tryz.underlying94 Zd0 (h:=yL [_,_] ZqA hc5 0 (h:=xAl [_,_] Zn3 (h:=fun b6=>xS [_,_] 1 [_,_] Zd0 (h:=tL2 (Zc (Za (xW Zcz (h:=x1 lk9 1 (h:=xR Zlw rfl (Zck _ om2 _) (h:=?_))))))))))
 refine xN (h:=xM (h:=Zx (d:=22) rfl (fun g2=>?_) (fun g2=>?_)))
 try simp only [sQ,ne_eq] at g2
 refine xP (h:=xP (h:=xP (h:=xP (h:=xT (h:=Zb (t:=true) rfl (fun _=>Za (xA (h:=xA (h:=Zd (Zm (ZB (Zm (ZM (ZB (Zm ?_)))))))))) (fun h=>Bool.noConfusion h))))))
 exact Zik .ret (.inl rfl) [_,_] t2 (ZdL hm hs (by rw [Zcm,ZbF g.2.1 m.user];simp [g2];try omega))
 try simp only [sQ,ne_eq] at g2
 refine xW Zcz (h:=x1 lk9 1 (h:=xM (h:=Zl (Zuj rfl rfl rfl rfl (xF (h:=Zb rfl (fun g3=>?_) (fun g3=>?_)))))))
 try simp only [sQ,ne_eq] at g3
 refine Za (xA (h:=xA (h:=Zd (Zm (ZB (Zm (ZM (ZB (Zm ?_)))))))))
 exact Zik .ret (.inl rfl) [_,_] t2 (ZdL hm hs (by rw [Zcm,ZbF g.2.1 m.user];simp [g3];try omega))
 try simp only [sQ,ne_eq] at g3
 refine wSk (Zc (Za (xW ZdC (h:=x1 lk3 1 (h:=ZF (h:=xM (h:=Zx (d:=31) rfl (fun g4=>?_) (fun g4=>?_))))))))
 try simp only [sQ,ne_eq] at g4
 refine xP (h:=xP (h:=xP (h:=xP (h:=xT (h:=Zb (t:=true) rfl (fun _=>Za (xA (h:=xA (h:=Zd (Zm (ZB (Zm (ZM (ZB (Zm ?_)))))))))) (fun h=>Bool.noConfusion h))))))
 exact Zik .ret (.inl rfl) [_,_] t2 (ZdL hm hs (by rw [Zcm,ZbF g.2.1 m.user];simp [g4];try omega))
 try simp only [sQ,ne_eq] at g4
 refine xW ZdC (h:=x1 lk3 1 (h:=xR Zzm rfl (ZsJ _ _) (h:=xN (h:=xF (h:=Zb rfl (fun g5=>?_) (fun g5=>?_))))))
 try simp only [sQ,ne_eq] at g5
 refine Za (xA (h:=xA (h:=Zd (Zm (ZB (Zm (ZM (ZB (Zm ?_)))))))))
 exact Zik .ret (.inl rfl) [_,_] t2 (ZdL hm hs (Bool.eq_false_iff.2 fun hc=>by simp only [Zcm,Bool.and_eq_true,decide_eq_true_eq] at hc;simp only [Bool.and_eq_false_iff,decide_eq_false_iff_not] at g5;omega))
 try simp only [sQ,ne_eq] at g5
 refine wSk (Za (xM (h:=xW Zcz (h:=x1 lk9 1 (h:=xW ZdC (h:=x1 lk3 1 (h:=Zl (ZlW (k:=m.user) (v:=m.rights) 0 rfl hml rfl rfl Tryz.underlying295 Tryz.underlying9 rfl rfl rfl (fun l9 hl9=>tL2 (Zf (xW Zcz (h:=x1 lk9 1 (h:=xA (h:=ZK (Zp (Zf (xD (h:=xM (h:=?_)))))))))))))))))))
 exact ZC (g.1+1,m.user,l9) [0] so2 ⟨rfl,so,ZcV hm hs (by rw [Zcm,ZbF g.2.1 m.user,g2,g3];simp at g5 ⊢;omega),oy,by rw [← Zvt hm hs (by rw [ZbF g.2.1 m.user,g3];rfl)];exact hl9⟩ t7 rfl
 try simp only [sQ,ne_eq] at g1
 refine ZE (ZV (ZG (Zt (Zp (Za (xM (h:=xA (h:=xA (h:=Zd ?_)))))))))
 exact ZvY .ret (.inl rfl) [_,_] rfl t2 (by rw [ZlP (Zey hs oz)];simp;omega) (by have e:=hml;rw [List.take_of_length_le oz] at e;exact e)

theorem ZqI (q:Option Addr) (cp:Nat) (gs:List DGrant) (B:Kn) (hg:SlK B q cp 2 Z8 gs):Zac (pj J) 150 [.slice q gs.length cp] B (.bool (Zdh gs)):=by
 refine cB 11 Tryz.func150 (h:=?_)
 refine Za (xA (h:=Za (xM (h:=xC ZxG rfl (Zn2 _ _ _ _ hg) (h:=?_)))))
 rintro _ B1 _ hle1 ⟨m1,l1,rfl,rfl,rfl,hl1⟩
 refine xM (h:=xE (h:=xE (h:=xA (h:=xA (h:=tL1 (Za (xM (h:=xA (h:=Zd ?_)))))))))
 exact eR t1 ⟨rfl,rfl,rfl⟩

theorem ZxR (a b:Str) (B:Kn):Zac (pj J) 202 [str a,str b] B (.int .i64 (Lib.compareBytes a b)):=by
 refine cB 8 Tryz.func202 (h:=?_)
 refine Za (xA (h:=Za (xM (h:=xM (h:=Zl (Zyu (fn:=Tryz.f257) rfl rfl Tryz.func257 rfl rfl Zxv Zxw rfl rfl (xA (h:=Zd ?_))))))))
 exact eR t1 ⟨rfl,rfl,rfl⟩

theorem ZuD (a b:Str) (B:Kn):Zac (pj J) 144 [str a,str b] B (.int .i64 (Lib.compareBytes a b)):=by
 refine cB 8 Tryz.func144 (h:=?_)
 refine Za (xA (h:=Za (xM (h:=xM (h:=xR ZzK rfl (ZxR a b _) (h:=xA (h:=Zd ?_)))))))
 exact eR t1 ⟨rfl,rfl,rfl⟩

theorem ZmT (f:DFolder) (qa qb:Option Addr) (ca cb:Nat) (ow nm:Str) (B:Kn):Zac (pj J) 84 [.agg #[str f.owner,str f.name,.slice qa f.grants.length ca,.int .i64 f.next,.slice qb f.mail.length cb],str ow,str nm] B (.int .i64 (ZxQ f ow nm)):=by
 refine cB 19 Tryz.func84 (h:=?_)
 refine Za (xBx [_,_,_,_,_] (h:=fun b1=>xA (h:=tL1 (Zc (Za (xW ZbW (h:=x1 lk9 0 (h:=xM (h:=xR ZxL rfl (ZuD f.owner ow _) (h:=xA (h:=Za (xM (h:=ZaH (h:=Zb rfl (fun g1=>?_) (fun g1=>?_)))))))))))))))
 try simp only [sQ,ne_eq] at g1
 refine Za (xM (h:=xA (h:=Zd (Zm ?_))))
 exact eR t1 ⟨ZH (by rw [ZxQ,if_pos g1]),rfl,rfl⟩
 try simp only [sQ,ne_eq] at g1
 refine wSk (Za (xW Zeh (h:=x1 lk9 0 (h:=xM (h:=xR ZxL rfl (ZuD f.name nm _) (h:=xA (h:=Zd ?_)))))))
 exact eR t1 ⟨ZH (by rw [ZxQ,if_neg (fun h=>h g1)]),rfl,rfl⟩

theorem ZwM (b o:Nat) (q1 q2 q3:Option Addr) (c1 c2 c3:Nat) (x:DHost) (u:Str) (B:Kn) (hh:Zal B b o [str x.domain,.slice q1 x.users.length c1,.slice q2 x.folders.length c2,.int .i64 x.queue.next,.slice q3 x.queue.items.length c3]) (hf:SlK B q2 c2 5 Zk x.folders):Zac (pj J) 187 [ptr ⟨b,o,none⟩,str u] B (.int .i64 (Zft x.folders u)):=by
 refine cB 28 Tryz.func187 (h:=?_)
 have hfn:=hf.len
 refine Za (xA (h:=Za (xA (h:=Zc (Za (xM (h:=xNc (h:=xW Zat (h:=Zl (Zo rfl rfl ZeB rfl (hh _ 2 _ rfl) (xV Tryz.underlying24 (h:=xM (h:=Zg (Zz (α:=Nat × Int) [0,1,4,11,12] (fun g=>[(5,.int .i64 g.2),(13,.int .i64 g.1)]) [] (fun g=>[]) (fun g Bx=>Bx=B∧g.1≤x.folders.length∧g.2=Zft (x.folders.take g.1) u∧-1*g.1≤g.2∧g.2≤g.1*200) (fun g=>x.folders.length - g.1) (0,0) t2 rfl (⟨rfl,Nat.zero_le _,by simp [Zft],by simp,by simp⟩) (fun g B1 hle1 hI=>?_)))))))))))))))
 obtain ⟨rfl,hk,hs,hl0,hl1⟩:=hI
 refine ZD [(0,_),(1,_),(4,_),(5,_),(11,_),(12,_),(13,_)] [] t7 rfl (Za (ZF (h:=Zc (Zb rfl (fun g1=>?_) (fun g1=>?_)))))
 try simp only [sQ,ne_eq] at g1
 refine wSk (Zc (Zg (Za ?_)))
 obtain ⟨m,hm⟩:=ZY (xs:=x.folders) (i:=g.1) om
 obtain ⟨bb3,oo3,rfl⟩:=hf.base hm
 obtain ⟨_,⟨qg4,cg4,qm4,cm4,rfl,hg4,hm4,hb4,hb4b⟩,hc4⟩:=hf.elem hm
 have hg4n:=hg4.len
 have hm4n:=hm4.len
 have hm4s:=Zao hm4
 refine xIx Tryz.underlying24 ZbM (h:=yL [_,_,_,_,_] ZiB hc4 0 (h:=xAl [_,_,_,_,_] Zgx (h:=fun b5=>xS [_,_,_,_,_] 0 [_,_,_,_,_] ZbM (h:=tL1 (Za (xW ZbW (h:=x1 lk9 0 (h:=xM (h:=Zd4 (h:=Zb rfl (fun g2=>?_) (fun g2=>?_)))))))))))
 try simp only [sQ,ne_eq] at g2
 have hbs:=Zjj (⟨m.next,m.mail⟩:DBox)
 refine Zf (xM (h:=xW Zbv (h:=xL [_,_] Zfl 0 (h:=xR Zzr rfl (ZrM _ _ (⟨m.next,m.mail⟩:DBox) _ hm4) (h:=xD (h:=xA (h:=ZK (Zp (Zf (xD (h:=xM (h:=?_))))))))))))
 exact ZC (g.1+1,g.2+Zd3 ⟨m.next,m.mail⟩) [] so2 ⟨rfl,so,by rw [ZiO hm,← hs,if_pos g2],so,so⟩ t7 rfl
 try simp only [sQ,ne_eq] at g2
 refine ZS (ZK (Zp (Zf (xD (h:=xM (h:=?_))))))
 exact ZC (g.1+1,g.2) [] so2 ⟨rfl,so,by rw [ZiO hm,← hs,if_neg g2,Int.add_zero],so,so⟩ t7 rfl
 try simp only [sQ,ne_eq] at g1
 refine ZE (ZV (ZG (Zt (Zp (Za (xM (h:=xA (h:=Zd ?_))))))))
 exact eR t1 ⟨ZH (by rw [← ZpC hs oz]),rfl,rfl⟩

theorem Zlt (b o:Nat) (q1 q2 q3:Option Addr) (c1 c2 c3:Nat) (x:DHost) (u:Str) (more:Int) (hn:u.length≤2000000) (hm0:0≤more) (hm1:more≤2000000) (B:Kn) (hh:Zal B b o [str x.domain,.slice q1 x.users.length c1,.slice q2 x.folders.length c2,.int .i64 x.queue.next,.slice q3 x.queue.items.length c3]) (hu:SlK B q1 c1 3 Zn x.users) (hf:SlK B q2 c2 5 Zk x.folders):Zac (pj J) 128 [ptr ⟨b,o,none⟩,str u,.int .i64 more] B (.bool (Zb1 x u more)):=by
 refine cB 30 Tryz.func128 (h:=?_)
 have hfn:=hf.len
 have hub:=Zsr x.folders u
 refine Za (xA (h:=Za (xM (h:=xNc (h:=xW ZbL (h:=Zl (Zo rfl rfl ZiE rfl (hh _ 1 _ rfl) (xM (h:=xR ZxH rfl (ZhN _ _ _ u om2 _ hu) (h:=?_))))))))))
 refine xM (h:=xE (h:=xE (h:=xAl [_,_,_] Zeo (h:=fun b2=>xS [_,_,_] 0 [_,_,_] Zbq (h:=xA (h:=tL1 (Zc (Z2 (same _ _) mo kr ⟨rfl,rfl⟩ (fun _ _=>?_)))))))))
 refine aM 0 rfl (h:=aN 1 rfl (h:=aM 2 rfl (h:=ZaK (d:=20) rfl (fun g1=>?_) (fun g1=>?_))))
 refine aZ 3 rfl (h:=aZ 4 rfl (h:=aZ 5 rfl (h:=aZ 6 rfl (h:=aZ 7 rfl (h:=aZ 8 rfl (h:=aZ 9 rfl (h:=aZ 10 rfl (h:=aPT 11 rfl (h:=aA 12 rfl (h:=Zu kr kr ?_))))))))))
 refine Zp (Zd ?_)
 exact eR t1 ⟨Ze (by rw [Zb1,g1];rfl),rfl,rfl⟩
 refine aM 3 rfl (h:=aM 4 rfl (h:=aT 5 rfl (Zae fun D=>Z7 rfl rfl ZzP rfl (ZwM _ _ _ _ _ _ _ _ x u _ hh hf) r4) (h:=aM 6 rfl (h:=aD 7 rfl (h:=aW 8 rfl ZdD (h:=aT 9 rfl (Zae fun D=>Zo rfl rfl lk3 rfl (atL 0 rfl rfl rfl) r4) (h:=Zo9 10 rfl (h:=aPF 11 rfl (h:=aA 12 rfl (h:=Zu kr kr ?_))))))))))
 refine Zp (Zd ?_)
 exact eR t1 ⟨Ze (by rw [Zb1,g1];rfl),rfl,rfl⟩

theorem Zn9 (b o:Nat) (q1 q2 q3:Option Addr) (c1 c2 c3:Nat) (x:DHost) (B:Kn) (hh:Zal B b o [str x.domain,.slice q1 x.users.length c1,.slice q2 x.folders.length c2,.int .i64 x.queue.next,.slice q3 x.queue.items.length c3]) (hu:SlK B q1 c1 3 Zn x.users) (hf:SlK B q2 c2 5 Zk x.folders):Zac (pj J) 86 [ptr ⟨b,o,none⟩] B (.bool (ZhM x)):=by
 refine cB 26 Tryz.func86 (h:=?_)
 have hfn:=hf.len
 have hun:=hu.len
 refine Za (xA (h:=Zc (Za (xM (h:=xNc (h:=xW ZbL (h:=Zl (Zo rfl rfl ZiE rfl (hh _ 1 _ rfl) (xV Tryz.underlying23 (h:=xM (h:=Zg (Zz (α:=Nat) [0,8,9] (fun k=>[(10,.int .i64 k)]) [] (fun k=>[]) (fun k Bx=>Bx=B∧k≤x.users.length∧∀z,z∈x.users.take k→ZcU x z=true) (fun k=>x.users.length - k) 0 t1 rfl (⟨rfl,Nat.zero_le _,by simp⟩) (fun k B1 hle1 hI=>?_)))))))))))))
 obtain ⟨rfl,hk,ha⟩:=hI
 refine ZD [(0,_),(8,_),(9,_),(10,_)] [] t4 rfl (Za (ZF (h:=Zc (Zb rfl (fun g1=>?_) (fun g1=>?_)))))
 try simp only [sQ,ne_eq] at g1
 refine wSk (Zc (Zg (Za ?_)))
 obtain ⟨w,hw⟩:=ZY (xs:=x.users) (i:=k) om
 obtain ⟨bb3,oo3,rfl⟩:=hu.base hw
 obtain ⟨_,⟨rfl,hb4,hb4b⟩,hc4⟩:=hu.elem hw
 refine xIx Tryz.underlying23 Zbq (h:=yL [_,_,_] Zfv hc4 0 (h:=xAl [_,_,_] Zeo (h:=fun b5=>xS [_,_,_] 0 [_,_,_] Zbq (h:=tL1 (Za (xM (h:=xW Zbi (h:=x1 lk9 0 (h:=xR ZBa rfl (ZuC _ _ _ _ _ _ _ _ x w.name [105,110,98,111,120] om2 om2 _ hh hf) (h:=?_))))))))))
 refine ZF (h:=xM (h:=Zx (d:=19) rfl (fun g2=>?_) (fun g2=>?_)))
 try simp only [sQ,ne_eq] at g2
 refine xP (h:=xP (h:=xP (h:=xP (h:=xT (h:=Zb (t:=true) rfl (fun _=>Za (xA (h:=Zd (ZB (Zm (ZM (ZB (Zm ?_)))))))) (fun h=>Bool.noConfusion h))))))
 exact eR t1 ⟨Ze (Zb2 hw (Zky g2)).symm,rfl,rfl⟩
 try simp only [sQ,ne_eq] at g2
 refine xM (h:=xW Zbi (h:=x1 lk9 0 (h:=xR ZxM rfl (Zlt _ _ _ _ _ _ _ _ x w.name 0 om2 om2 om2 _ hh hu hf) (h:=?_))))
 refine xF (h:=Zb rfl (fun g3=>?_) (fun g3=>?_))
 try simp only [sQ,ne_eq] at g3
 refine Za (xA (h:=Zd (ZB (Zm (ZM (ZB (Zm ?_)))))))
 exact eR t1 ⟨Ze (Zb2 hw (Zkx g3)).symm,rfl,rfl⟩
 try simp only [sQ,ne_eq] at g3
 refine ZS (ZK (Zp (Zf (xD (h:=xM (h:=?_))))))
 exact ZC (k+1) [] so2 ⟨rfl,oz,Za8 hw ha (Zkw g2 g3)⟩ t4 rfl
 try simp only [sQ,ne_eq] at g1
 refine ZE (ZV (ZG (Zt (Zp (Za (xA (h:=Zd ?_)))))))
 exact eR t1 ⟨Ze (ZdX (Zbe oz ha)).symm,rfl,rfl⟩

theorem Ztn (q:Option Addr) (cp:Nat) (bs:List Bool) (v:Bool) (B:Kn) (hb:SlK B q cp 1 Zwl bs):Zac (pj J) 222 [.slice q bs.length cp,.bool v] B (.int .i64 (ZaN (fun y=>decide (v=y)) bs)):=by
 refine cB 19 Tryz.func222 (h:=?_)
 have hbn:=hb.len
 refine Za (xA (h:=Zc (Za (xM (h:=xV Tryz.underlying224 (h:=xM (h:=Zg (Zz (α:=Nat) [0,1,7] (fun k=>[(8,.int .i64 k)]) [] (fun k=>[]) (fun k Bx=>Bx=B∧k≤bs.length∧∀y,y∈bs.take k→decide (v=y)=false) (fun k=>bs.length - k) 0 t1 rfl (⟨rfl,Nat.zero_le _,by simp⟩) (fun k B1 hle1 hI=>?_)))))))))
 obtain ⟨rfl,hk,ha⟩:=hI
 refine ZD [(0,_),(1,_),(7,_),(8,_)] [] t4 rfl (Za (ZF (h:=Zc (Zb rfl (fun g1=>?_) (fun g1=>?_)))))
 try simp only [sQ,ne_eq] at g1
 refine wSk (Zc (Zg (Za (xM (h:=xA (h:=Za (xM (h:=xM (h:=xM (h:=?_))))))))))
 obtain ⟨y,hy⟩:=ZY (xs:=bs) (i:=k) om
 obtain ⟨bb3,oo3,rfl⟩:=hb.base hy
 obtain ⟨_,rfl,hc4⟩:=hb.elem hy
 refine xIx Tryz.underlying224 sz4 (h:=y1 lk4 hc4 0 (h:=Zl (Zpv rfl rfl rfl rfl rfl (ZxB Tryz.underlying4) (Zb rfl (fun g2=>?_) (fun g2=>?_)))))
 try simp only [sQ,ne_eq] at g2
 refine Za (xM (h:=xA (h:=Zd (ZB (Zm (ZM (ZB (Zm ?_))))))))
 exact eR t1 ⟨ZH (Zhx hy (decide_eq_true g2) ha).symm,rfl,rfl⟩
 try simp only [sQ,ne_eq] at g2
 refine ZS (ZK (Zp (Zf (xD (h:=xM (h:=?_))))))
 exact ZC (k+1) [] so2 ⟨rfl,oz,Za8 hy ha (decide_eq_false g2)⟩ t4 rfl
 try simp only [sQ,ne_eq] at g1
 refine ZE (ZV (ZG (Zt (Zp (Za (xA (h:=Zd ?_)))))))
 exact eR t1 ⟨ZH (Ze8 (Zbe oz ha)).symm,rfl,rfl⟩

theorem Zm2 (q:Option Addr) (cp:Nat) (bs:List Bool) (v:Bool) (B:Kn) (hb:SlK B q cp 1 Zwl bs):Zac (pj J) 152 [.slice q bs.length cp,.bool v] B (.bool (decide (0≤ZaN (fun y=>decide (v=y)) bs))):=by
 refine cB 9 Tryz.func152 (h:=?_)
 refine Za (xA (h:=Za (xM (h:=xM (h:=xR ZzJ rfl (Ztn _ _ _ _ _ hb) (h:=Zep (h:=xA (h:=Zd ?_))))))))
 exact eR t1 ⟨rfl,rfl,rfl⟩

theorem Zlg (l:Str) (hl:l.length≤2000000) (B:Kn):Zac (pj J) 81 [str l] B (.bool (Zc2 l)):=by
 refine cB 16 Tryz.func81 (h:=?_)
 refine Za (xA (h:=Za (xM (h:=xB [(0,_)] [_,_] [_,_] Zw4 Zr5 (h:=xAl [_,_] Zr5 (h:=fun b1=>xS [_,_] 0 [_,_] ZwX (h:=tL1 (Za (Zl (ZiL 0 rfl rfl rfl ZAo rfl (ZtO _ _ 0 oz oz _) ?_))))))))))
 refine xM (h:=xE (h:=xE (h:=xA (h:=xA (h:=Za (xM (h:=xM (h:=Zx (d:=13) rfl (fun g1=>?_) (fun g1=>?_)))))))))
 refine Zl (ZiN 0 rfl rfl rfl ZtN rfl (ZnR _ _ (dom l 0).2 (ZxP (Nat.zero_le _)) oz _) ?_)
 refine xT (h:=xA (h:=Zd ?_))
 exact eR t1 ⟨Ze (by rw [Bool.eq_iff_iff,← Zlx];simp [ZmZ] at g1;simp [g1];try omega),rfl,rfl⟩
 refine xP (h:=xF (h:=xA (h:=Zd ?_)))
 exact eR t1 ⟨Ze (by symm;rw [Bool.eq_false_iff,ne_eq,← Zlx];intro hc;simp [ZmZ,hc.1] at g1;omega),rfl,rfl⟩

theorem ZjV (Wg C n i b o b1 b3 b5 b6:Nat) (q1 q2 q3:Option Addr) (c1 c2 c3:Nat) (x:DHost) (m:DFolder) (qg qm:Option Addr) (cg cm:Nat) (hin:i<n) (B:Kn) (hc900:Zal B b o [str x.domain,.slice q1 x.users.length c1,.slice q2 x.folders.length c2,.int .i64 x.queue.next,.slice q3 x.queue.items.length c3]) (hu:SlK B q1 c1 3 Zn x.users) (hc901:Zal B b1 0 [ptr ⟨b,o,none⟩]) (hc903:Zal B b3 0 [.slice (some ⟨C,0,none⟩) n n]) (hc905:Zal B b5 0 [.int .i64 i]) (hc906:Zal B b6 0 [str m.owner,str m.name,.slice qg m.grants.length cg,.int .i64 m.next,.slice qm m.mail.length cm]) (hg:SlK B qg cg 2 Z8 m.grants) (hm:SlK B qm cm 3 Z5 m.mail) (ho:m.owner.length≤2000000) (hnm:m.name.length≤2000000):@ZeN ⟨4⟩ Tryz.prog wgL.tWg Wg C n i (.bool (ZaP x.users m)) (Go.Conc.G (Frame.enter Tryz.prog 146 #[ptr ⟨Wg,0,none⟩,ptr ⟨b1,0,none⟩,ptr ⟨b6,0,none⟩,ptr ⟨b3,0,none⟩,ptr ⟨b5,0,none⟩] .deferred) [Zf5 Tryz.prog]) B []:=by
 letI:Go.ConcR.Payload:=⟨4⟩
 refine ZuL (Lk:=wgL) (P:=Tryz.prog) (caps:=[ptr ⟨Wg,0,none⟩,ptr ⟨b1,0,none⟩,ptr ⟨b6,0,none⟩,ptr ⟨b3,0,none⟩,ptr ⟨b5,0,none⟩]) (nt:=27) (I:=keeps B [] []) (K:=fun _ _ _ _=>False) ZlV Tryz.func146 rfl rfl (Nat.le_of_ble_eq_true rfl) rfl mo kr ⟨Kn.le.refl _,Za6.refl _ _⟩ (fun _ _ _ _ h=>h) ?_
 refine aT 0 rfl (ZO fun D B L hI=>Zo rfl rfl Zxh rfl ((hc903.mono hI.1) _ 0 _ rfl) r4) (h:=aT 1 rfl (ZO fun D B L hI=>Zo rfl rfl lk3 rfl ((hc905.mono hI.1) _ 0 _ rfl) r4) (h:=aT 2 rfl (ZO fun D B L hI=>Zo rfl rfl ZyR rfl ((hc901.mono hI.1) _ 0 _ rfl) r4) (h:=aW 3 rfl ZbW (h:=aT 4 rfl (ZO fun D B L hI=>Zo rfl rfl lk9 rfl ((hc906.mono hI.1) _ 0 _ rfl) r4) (h:=aT 5 rfl (ZO fun D B L hI=>Z7 rfl rfl ZtM rfl (Zhw _ _ _ _ _ _ _ _ x m.owner om2 _ (hc900.mono hI.1) (hu.mono Zn.mono hI.1)) r4) (h:=?_))))))
 refine aM 6 rfl (h:=ZaK (d:=11) rfl (fun g1=>?_) (fun g1=>?_))
 refine aW 7 rfl Zeh (h:=aT 8 rfl (ZO fun D B L hI=>Zo rfl rfl lk9 rfl ((hc906.mono hI.1) _ 1 _ rfl) r4) (h:=aT 9 rfl (ZO fun D B L hI=>Z7 rfl rfl Zlw rfl (Zck _ om2 _) r4) (h:=?_)))
 refine aPT 10 rfl (h:=aM 11 rfl (h:=ZaK (d:=16) rfl (fun g2=>?_) (fun g2=>?_)))
 refine aW 12 rfl Zeg (h:=aT 13 rfl (ZO fun D B L hI=>Zo rfl rfl Zr2 rfl ((hc906.mono hI.1) _ 2 _ rfl) r4) (h:=aT 14 rfl (ZO fun D B L hI=>Z7 rfl rfl ZAj rfl (ZqI _ _ _ _ (hg.mono Z8.mono hI.1)) r4) (h:=aPT 15 rfl (h:=aM 16 rfl (h:=ZaK (d:=21) rfl (fun g3=>?_) (fun g3=>?_))))))
 refine aW 17 rfl Zbv (h:=aT 18 rfl (ZO fun D B L hI=>ZW [_,_] rfl rfl Zfl rfl (Zkf (hc906.mono hI.1) 3 rfl rfl) r4) (h:=aT 19 rfl (ZO fun D B L hI=>Z7 rfl rfl Zv6 rfl (Zh7 _ _ (⟨m.next,m.mail⟩:DBox) _ (hm.mono Z5.mono hI.1)) r4) (h:=aPT 20 rfl (h:=aT 21 rfl (ZO fun D B L hI=>Zb5 rfl rfl Tryz.underlying224 sz4 rfl rfl oz oz r4) (h:=?_)))))
 refine ZhB 22 kr rfl kr kr kr (fun T hn hT=>?_)
 refine Zf9 (L:=[]) hT ZlV (by simp [ZaP,DFolder.box,g1,g2,g3]) rfl hin rfl Tryz.sizeOf4 (Zdc sz4) (by exact Zht C i) rfl kr Tryz.func146 rfl
 refine aZ 17 rfl (h:=aZ 18 rfl (h:=aZ 19 rfl (h:=aPF 20 rfl (h:=aT 21 rfl (ZO fun D B L hI=>Zb5 rfl rfl Tryz.underlying224 sz4 rfl rfl oz oz r4) (h:=?_)))))
 refine ZhB 22 kr rfl kr kr kr (fun T hn hT=>?_)
 refine Zf9 (L:=[]) hT ZlV (by simp [ZaP,DFolder.box,g1,g2,g3]) rfl hin rfl Tryz.sizeOf4 (Zdc sz4) (by exact Zht C i) rfl kr Tryz.func146 rfl
 refine aZ 12 rfl (h:=aZ 13 rfl (h:=aZ 14 rfl (h:=aPF 15 rfl (h:=aM 16 rfl (h:=aZ 17 rfl (h:=aZ 18 rfl (h:=aZ 19 rfl (h:=aPF 20 rfl (h:=aT 21 rfl (ZO fun D B L hI=>Zb5 rfl rfl Tryz.underlying224 sz4 rfl rfl oz oz r4) (h:=?_))))))))))
 refine ZhB 22 kr rfl kr kr kr (fun T hn hT=>?_)
 refine Zf9 (L:=[]) hT ZlV (by simp [ZaP,DFolder.box,g1,g2]) rfl hin rfl Tryz.sizeOf4 (Zdc sz4) (by exact Zht C i) rfl kr Tryz.func146 rfl
 refine aZ 7 rfl (h:=aZ 8 rfl (h:=aZ 9 rfl (h:=aPF 10 rfl (h:=aM 11 rfl (h:=aZ 12 rfl (h:=aZ 13 rfl (h:=aZ 14 rfl (h:=aPF 15 rfl (h:=aM 16 rfl (h:=aZ 17 rfl (h:=aZ 18 rfl (h:=aZ 19 rfl (h:=aPF 20 rfl (h:=aT 21 rfl (ZO fun D B L hI=>Zb5 rfl rfl Tryz.underlying224 sz4 rfl rfl oz oz r4) (h:=?_)))))))))))))))
 refine ZhB 22 kr rfl kr kr kr (fun T hn hT=>?_)
 refine Zf9 (L:=[]) hT ZlV (by simp [ZaP,DFolder.box,g1]) rfl hin rfl Tryz.sizeOf4 (Zdc sz4) (by exact Zht C i) rfl kr Tryz.func146 rfl

theorem ZiH (hJ:Joins Tryz.prog J) (b o:Nat) (q1 q2 q3:Option Addr) (c1 c2 c3:Nat) (x:DHost) (B:Kn) (hc900:Zal B b o [str x.domain,.slice q1 x.users.length c1,.slice q2 x.folders.length c2,.int .i64 x.queue.next,.slice q3 x.queue.items.length c3]) (hu:SlK B q1 c1 3 Zn x.users) (hf:SlK B q2 c2 5 Zk x.folders):Zv (pj J) 85 [ptr ⟨b,o,none⟩] B [] (fun v B' Ls=>Ls=[]∧v = .bool (x.folders.all (ZaP x.users))):=by
 have hfn:=hf.len
 letI:Go.ConcR.Payload:=⟨4⟩
 refine ZhA 30 Tryz.func85 rfl rfl (Nat.le_of_ble_eq_true rfl) fun X kind c cs F T0 hk hke hA hn0 hT0=>?_
 let C0:Cx (pj J):=⟨X,fb 85 kind,c :: cs,F,hke⟩
 refine Zbn (C:=C0) (L:=[]) (Zjh (C:=C0) (L:=[]) hn0 hT0 (xBx [_] (h:=fun b1=>xA (h:=?_))))
 intro T1 hn1 hT1
 refine Zlz (C:=C0) rfl 0 rfl fun B1 hle1 hm1=>?_
 have hc901:=Za0 hm1
 replace hc900:=hc900.mono hle1
 obtain ⟨hu,hf⟩:=up2 hle1 hu hf
 replace hA:=fun v B' Ls' h=>hA v B' Ls' (hle1.trans h)
 refine Zbn (C:=C0) (L:=[[]]) (Zjh (C:=C0) (L:=[[]]) hn1 hT1 (y1 ZyR hc901 0 (h:=xNc (h:=xW Zat (h:=y1 ZeB hc900 2 (h:=xV Tryz.underlying24 (h:=Zl (Za3 (m:=x.folders.length) (c:=x.folders.length) (by_:=1) [.bool false] rfl rfl Zy6 zo4 rfl rfl ⟨_,_,rfl,rfl⟩ ⟨_,_,rfl,rfl⟩ (Nat.le_refl _) oz (fun Cb=>?_)))))))))
 refine xAl [_] Zyk (h:=fun b2=>xS [_] 2 [_] ZyG (h:=?_))
 intro T2 hn2 hT2
 refine Zlz (C:=C0) rfl 2 rfl fun B2 hle2 hm2=>?_
 have hc903:=Za0 hm2
 replace hc900:=hc900.mono hle2
 obtain ⟨hu,hf⟩:=up2 hle2 hu hf
 replace hc901:=hc901.mono hle2
 replace hA:=fun v B' Ls' h=>hA v B' Ls' (hle2.trans h)
 refine Zbn (C:=C0) (L:=[[],ZN Cb (zrow [.bool false] x.folders.length) 4,[]]) (ZaG (C:=C0) (L:=[[],ZN Cb (zrow [.bool false] x.folders.length) 4,[]]) (ZsR (C:=Cb) (n:=x.folders.length) (val:=Zr1 x) (L₁:=F) (cells:=(zrow [.bool false] x.folders.length).toArray) (i:=0) (todo:=[]) hJ rfl hke Zyj rfl oz (by simp [Zcq]) (.refl _) (fun hmain Wg hW1 hW2=>?_)))
 let C1:Cx (.lone Tryz.prog):=⟨phL Tryz.prog 231 Wg Cb x.folders.length (Zr1 x) X.R .a5 (0),fb 85 kind,c :: cs,F,hke⟩
 have hT3:=hT2.putT (n:=30) (dst:=some 4) hn2 rfl (ptr ⟨Wg,0,none⟩)
 have hn3:(putT T2 (some 4) (ptr ⟨Wg,0,none⟩)).size=30:=by rw [Zar,hn2]
 refine Z4 (C:=C1) (L:=[]) (Zbn (C:=C1) (L:=[]) (Zbn (C:=C1) (L:=[]) (Zjh (C:=C1) (L:=[]) hn3 hT3 (y1 ZyR hc901 0 (h:=xNc (h:=xW Zat (h:=y1 ZeB hc900 2 (h:=xV Tryz.underlying24 (h:=xM (h:=?_))))))))))
 intro T4 hn4 hT4
 refine ZnT (C:=C1) (L:=[]) (Zvc (nt:=30) (fun j=>[(1,ptr ⟨b1,0,none⟩),(3,ptr ⟨b2,0,none⟩),(4,ptr ⟨Wg,0,none⟩),(16,.slice q2 x.folders.length c2),(17,.int .i64 x.folders.length),(18,.int .i64 ((j:Nat):Int))]) (fun j hj B3 T5 hle3 hn5 hT5 hnext=>?_) hn4 (hT4.sub' t6))
 replace hc900:=hc900.mono hle3
 obtain ⟨hu,hf⟩:=up2 hle3 hu hf
 replace hc901:=hc901.mono hle3
 replace hc903:=hc903.mono hle3
 replace hA:=fun v B' Ls' h=>hA v B' Ls' (hle3.trans h)
 let C2:Cx (.lone Tryz.prog):=⟨phL Tryz.prog 231 Wg Cb x.folders.length (Zr1 x) X.R .a5 (j),fb 85 kind,c :: cs,F,hke⟩
 refine Zbn (C:=C2) (L:=[]) (Zjh (C:=C2) (L:=[]) hn5 hT5 (ZF (h:=?_)))
 intro T6 hn6 hT6
 refine Zbn (C:=C2) (L:=[]) ?_
 rcases Nat.lt_or_ge j x.folders.length with hlt | hge
 refine Zg1 (C:=C2) (L:=[]) (t:=true) (by exact congrArg (fun t=>some (Value.bool t)) (decide_eq_true oz)) hT6 ?_
 refine ZrD (C:=C2) (L:=[]) (Zbn (C:=C2) (L:=[]) (ZnT (C:=C2) (L:=[]) (Zbn (C:=C2) (L:=[]) (Zjh (C:=C2) (L:=[]) hn6 hT6 (xM (h:=?_))))))
 obtain ⟨m,hm⟩:=ZY (xs:=x.folders) (i:=j) om
 obtain ⟨bb4,oo4,rfl⟩:=hf.base hm
 obtain ⟨_,⟨qg5,cg5,qm5,cm5,rfl,hg5,hm5,hb5,hb5b⟩,hc5⟩:=hf.elem hm
 have hg5n:=hg5.len
 have hm5n:=hm5.len
 have hm5s:=Zao hm5
 refine xIx Tryz.underlying24 ZbM (h:=yL [_,_,_,_,_] ZiB hc5 0 (h:=xAl [_] zo3 (h:=fun b6=>xAl [_,_,_,_,_] Zgx (h:=fun b7=>xS [_] 0 [_] sz3 (h:=xS [_,_,_,_,_] 1 [_,_,_,_,_] ZbM (h:=?_))))))
 intro T7 hn7 hT7
 refine Zlz (C:=C2) rfl 0 rfl fun B4 hle4 hpm4=>?_
 have hc905:=Za0 hpm4
 refine Zlz (C:=C2) rfl 1 rfl fun B5 hle5 hpm5=>?_
 have hc906:=Za0 hpm5
 replace hc905:=hc905.mono hle5
 replace hc900:=hc900.mono (hle4.trans hle5)
 replace hu:=hu.mono Zn.mono (hle4.trans hle5)
 replace hc901:=hc901.mono (hle4.trans hle5)
 replace hc903:=hc903.mono (hle4.trans hle5)
 replace hg5:=hg5.mono Z8.mono (hle4.trans hle5)
 replace hm5:=hm5.mono Z5.mono (hle4.trans hle5)
 refine Zbn (C:=C2) (L:=[[],[]]) (ZaG (C:=C2) (L:=[[],[]]) (Zw7 (Lk:=wgL) (i:=0) (todo:=[]) ZlV hlt rfl ZAk rfl rfl hT7 hke ?_))
 let C3:Cx (.lone Tryz.prog):=⟨phL Tryz.prog 231 Wg Cb x.folders.length (Zr1 x) X.R .a2 (j),fb 85 kind,c :: cs,F,hke⟩
 have hT8:=hT7.putT (n:=30) (dst:=(some 23)) hn7 rfl (.tuple #[])
 have hn8:(putT T7 (some 23) (.tuple #[])).size=30:=by rw [Zar,hn7]
 refine Z4 (C:=C3) (L:=[]) (ZaG (C:=C3) (L:=[]) (Zcp (C:=C3) (L:=[]) (i:=0) (todo:=[1]) rfl hn8 hT8 (Zl (Zd5 (xs:=[]) (ys:=[.tmp 4,.tmp 1,.tmp 6,.tmp 3,.tmp 5]) rfl rfl rfl rfl ?_))))
 intro T9 hn9 hT9
 refine ZyN (i:=1) (todo:=[]) rfl rfl hT9 hke Tryz.func146 rfl rfl (by rw [Zno hm];exact ZjV Wg Cb x.folders.length j b o b1 b2 b6 b7 _ _ _ _ _ _ x m _ _ _ _ hlt B5 hc900 hu hc901 hc903 hc905 hc906 hg5 hm5 hb5 hb5b) ?_
 let C4:Cx (.lone Tryz.prog):=⟨phL Tryz.prog 231 Wg Cb x.folders.length (Zr1 x) X.R .a5 (j+1),fb 85 kind,c :: cs,F,hke⟩
 refine Z4 (C:=C4) (L:=[]) (Zo0 (C:=C4) (L:=[]) ?_)
 have hn10:=hn9
 have hT10:=hT9
 refine Zjh (C:=C4) (L:=[]) hn10 hT10 (xD (h:=xM (h:=?_)))
 intro T11 hn11 hT11
 exact hnext hlt _ _ (hle4.trans hle5) hn11 (hT11.sub' t6)
 obtain rfl:j=x.folders.length:=by omega
 refine Zg1 (C:=C2) (L:=[]) (t:=false) (by exact congrArg (fun t=>some (Value.bool t)) (decide_eq_false oz)) hT6 ?_
 refine Zv9 (C:=C2) (L:=[]) (by rfl) ?_
 refine Zbn (C:=C2) (L:=[]) (ZaG (C:=C2) (L:=[]) (Zvb (Lk:=wgL) (X:=X) (i:=0) (todo:=[]) ZlV oz rfl ZAi rfl hT6 hke (fun _ _ _ h=>h) ?_))
 have hT7:=hT6.putT (n:=30) (dst:=(some 26)) hn6 rfl (.tuple #[])
 have hn7:(putT T6 (some 26) (.tuple #[])).size=30:=by rw [Zar,hn6]
 refine Z4 (C:=C0) (L:=[[(Cb,Obj.cells ((List.range x.folders.length).map (Zr1 x)).toArray 4 (0,0))]]) (Zlz (C:=C0) (L:=[[(Cb,Obj.cells ((List.range x.folders.length).map (Zr1 x)).toArray 4 (0,0))]]) rfl 0 rfl fun B4 hle4 hm4=>?_)
 have hvb:=ZpA hm4 hfn
 replace hc903:=hc903.mono hle4
 replace hA:=fun v B' Ls' h=>hA v B' Ls' (hle4.trans h)
 refine ZvQ Tryz.func85 rfl hk hke hn7 hT7 hA ?_
 rw [show (x.folders.length:Nat)=(x.folders.map (ZaP x.users)).length from (List.length_map ..).symm] at hc903
 refine Za (y1 Zxh hc903 0 (h:=xR ZAh rfl (Zm2 _ _ _ _ _ hvb) (h:=xN (h:=xA (h:=tL1 (Zd ?_))))))
 exact eR t1 ⟨rfl,congrArg Value.bool Zkb⟩

theorem ZmL (hJ:Joins Tryz.prog J) (q1 q2 q3:Option Addr) (c1 c2 c3:Nat) (x:DHost) (hd:x.domain.length≤2000000) (B:Kn) (hu:SlK B q1 c1 3 Zn x.users) (hf:SlK B q2 c2 5 Zk x.folders) (hi:SlK B q3 c3 4 Zy x.queue.items):Zv (pj J) 37 [.agg #[str x.domain,.slice q1 x.users.length c1,.slice q2 x.folders.length c2,.int .i64 x.queue.next,.slice q3 x.queue.items.length c3]] B [] (fun v B' Ls=>Ls=[]∧v = .bool (ZQ x)):=by
 refine cB 63 Tryz.func37 (h:=?_)
 rw [← ZoM]
 have hfn:=hf.len
 have hun:=hu.len
 have hin:=hi.len
 refine Za (xBx [_,_,_,_,_] (h:=fun b1=>xA (h:=tL1 (Zjp 0 rfl (fun B2 hle2 hpm2=>?_)))))
 have hc2:=Za0 hpm2
 obtain ⟨hu,hf,hi⟩:=up3 hle2 hu hf hi
 refine Zc (Za (xW Zif (h:=y1 lk9 hc2 0 (h:=xR ZBE rfl (Zlg _ om2 _) (h:=?_)))))
 refine xN (h:=xM (h:=Zx (d:=10) rfl (fun g1=>?_) (fun g1=>?_)))
 try simp only [sQ,ne_eq] at g1
 refine xP (h:=xP (h:=xP (h:=xP (h:=xT (h:=xM (h:=xP (h:=xP (h:=xP (h:=xP (h:=xT (h:=xM (h:=xP (h:=xP (h:=xP (h:=xP (h:=xT (h:=tL1 (Zb (t:=true) rfl (fun _=>Za (xA (h:=Zd (Zm ?_)))) (fun h=>Bool.noConfusion h)))))))))))))))))))
 exact eR t1 ⟨rfl,Ze (by simp [ZdA,g1])⟩
 try simp only [sQ,ne_eq] at g1
 refine xW ZbL (h:=y1 ZiE hc2 1 (h:=xR ZBb rfl (Zh5 _ _ _ _ hu) (h:=xN (h:=xF (h:=xM (h:=Zx (d:=16) rfl (fun g2=>?_) (fun g2=>?_)))))))
 try simp only [sQ,ne_eq] at g2
 refine xP (h:=xP (h:=xP (h:=xP (h:=xT (h:=xM (h:=xP (h:=xP (h:=xP (h:=xP (h:=xT (h:=tL1 (Zb (t:=true) rfl (fun _=>Za (xA (h:=Zd (Zm ?_)))) (fun h=>Bool.noConfusion h)))))))))))))
 exact eR t1 ⟨rfl,Ze (by simp [ZdA,g1,g2])⟩
 try simp only [sQ,ne_eq] at g2
 refine xW ZeS (h:=yL [_,_] ZlS hc2 3 (h:=xR ZBD rfl (ZmJ _ _ x.queue _ hi) (h:=xN (h:=xF (h:=xM (h:=Zx (d:=22) rfl (fun g3=>?_) (fun g3=>?_)))))))
 try simp only [sQ,ne_eq] at g3
 refine xP (h:=xP (h:=xP (h:=xP (h:=xT (h:=tL1 (Zb (t:=true) rfl (fun _=>Za (xA (h:=Zd (Zm ?_)))) (fun h=>Bool.noConfusion h)))))))
 exact eR t1 ⟨rfl,Ze (by simp [ZdA,g1,g2,g3])⟩
 try simp only [sQ,ne_eq] at g3
 refine xW Zat (h:=y1 ZeB hc2 2 (h:=xV Tryz.underlying24 (h:=ZdP (h:=xF (h:=tL1 (Zb rfl (fun g4=>?_) (fun g4=>?_)))))))
 try simp only [sQ,ne_eq] at g4
 refine Za (xA (h:=Zd (Zm ?_)))
 exact eR t1 ⟨rfl,Ze (by simp [ZdA];intros;omega)⟩
 try simp only [sQ,ne_eq] at g4
 refine wSk (Zc (Za (xW Zat (h:=y1 ZeB hc2 2 (h:=xW Zat (h:=y1 ZeB hc2 2 (h:=xV Tryz.underlying24 (h:=xU (h:=Zl (Zyt (m:=(x.folders.length - 1)) rfl rfl rfl rfl om ?_))))))))))
 have hsl:((x.folders.take (x.folders.length - 1)).drop 0).length=x.folders.length - 1:=by simp
 obtain ⟨hq6,q6,cp6,hv6,hr6⟩:=hf.cutE 0 (x.folders.length - 1) om om
 have hr6n:=hr6.len
 refine Zl (Zpw (a:=0) (b:=(x.folders.length - 1)) hv6 om hq6 rfl rfl Tryz.underlying24 ZbM rfl rfl ⟨_,_,rfl,by first | omega | (simp;done) | (simp;omega)⟩ ?_)
 refine xV Tryz.underlying24 (h:=xM (h:=Zg (Zz (α:=Nat) [0,1,27,35,36] (fun k=>[(37,.int .i64 k)]) [] (fun k=>[]) (fun k Bx=>Bx=B2∧k≤x.folders.length - 1∧Zt9 x.folders k) (fun k=>x.folders.length - k) 0 t1 rfl (⟨rfl,Nat.zero_le _,Zos⟩) (fun k B7 hle7 hI=>?_))))
 obtain ⟨rfl,hk,hord⟩:=hI
 refine ZD [(0,_),(1,_),(27,_),(35,_),(36,_),(37,_)] [_] t6 rfl (Za (ZF (h:=Zc (Zb rfl (fun g5=>?_) (fun g5=>?_)))))
 try simp only [sQ,ne_eq] at g5
 refine wSk (Zc (Zg (Za (xM (h:=?_)))))
 obtain ⟨fa,hfa⟩:=ZY (xs:=((x.folders.take (x.folders.length - 1)).drop 0)) (i:=k) om
 obtain ⟨bb9,oo9,rfl⟩:=hr6.base hfa
 obtain ⟨_,⟨qg10,cg10,qm10,cm10,rfl,hg10,hm10,hb10,hb10b⟩,hc10⟩:=hr6.elem hfa
 have hg10n:=hg10.len
 have hm10n:=hm10.len
 have hm10s:=Zao hm10
 refine xIx Tryz.underlying24 ZbM (h:=?_)
 have hfa0:x.folders[k]? = some fa:=by rw [List.drop_zero,List.getElem?_take] at hfa;split at hfa <;> simp_all
 refine yL [_,_,_,_,_] ZiB hc10 0 (h:=xAl [_,_,_,_,_] Zgx (h:=fun b11=>xA (h:=xS [_,_,_,_,_] 1 [_,_,_,_,_] ZbM (h:=tL2 (Za (xW Zat (h:=y1 ZeB hc2 2 (h:=xM (h:=xD (h:=?_))))))))))
 obtain ⟨fb,hfb⟩:=ZY (xs:=x.folders) (i:=(k+1)) om
 obtain ⟨bb13,oo13,rfl⟩:=hf.base hfb
 obtain ⟨_,⟨qg14,cg14,qm14,cm14,rfl,hg14,hm14,hb14,hb14b⟩,hc14⟩:=hf.elem hfb
 have hg14n:=hg14.len
 have hm14n:=hm14.len
 have hm14s:=Zao hm14
 refine xIx Tryz.underlying24 ZbM (h:=yL [_,_,_,_,_] ZiB hc14 0 (h:=xAl [_,_,_,_,_] Zgx (h:=fun b15=>xS [_,_,_,_,_] 2 [_,_,_,_,_] ZbM (h:=tL3 (Za (xL [_,_,_,_,_] ZiB 1 (h:=xW ZbW (h:=x1 lk9 2 (h:=xW Zeh (h:=x1 lk9 2 (h:=xR ZBC rfl (ZmT fa _ _ _ _ fb.owner fb.name _) (h:=Zep (h:=Zb rfl (fun g6=>?_) (fun g6=>?_))))))))))))))
 try simp only [sQ,ne_eq] at g6
 refine Za (xA (h:=Zd (ZB (Zm (ZM (ZB (Zm ?_)))))))
 exact eR t1 ⟨rfl,Ze (by simp [ZdA,ZsV hfa0 hfb ((ZlC fa fb).1 g6)])⟩
 try simp only [sQ,ne_eq] at g6
 refine ZS (ZK (Zp (Zf (xD (h:=xM (h:=?_))))))
 exact ZC (k+1) [0] so2 ⟨rfl,oz,Zot hord hfa0 hfb (by rw [← Bool.not_eq_false,← ZlC];omega)⟩ t6 rfl
 try simp only [sQ,ne_eq] at g5
 have ho:=ZsU (fs:=x.folders) (fun i a b h=>hord i a b oz)
 refine ZE (ZV (ZG (Zt (Zp (Za (xQ ZBB rfl (ZiH hJ _ _ _ _ _ _ _ _ x _ hc2 hu hf) (h:=?_)))))))
 intro v17 B17 hle17
 rintro rfl
 obtain ⟨hu,hf,hi⟩:=up3 hle17 hu hf hi
 replace hc2:=hc2.mono hle17
 refine xM (h:=Zx (d:=57) rfl (fun g7=>?_) (fun g7=>?_))
 try simp only [sQ,ne_eq] at g7
 refine xR ZBA rfl (Zn9 _ _ _ _ _ _ _ _ x _ hc2 hu hf) (h:=xT (h:=xM (h:=Zx (d:=60) rfl (fun g8=>?_) (fun g8=>?_))))
 try simp only [sQ,ne_eq] at g8
 refine xR ZBz rfl (Zmj _ _ _ _ _ _ _ _ x _ hc2 hu hi) (h:=xT (h:=xA (h:=Zd ?_)))
 exact eR t1 ⟨rfl,Ze (by simp [ZdA,g1,g2,g3,ho,g7,g8];try omega)⟩
 try simp only [sQ,ne_eq] at g8
 refine xP (h:=xF (h:=xA (h:=Zd ?_)))
 exact eR t1 ⟨rfl,Ze (by simp [ZdA,g1,g2,g3,ho,g7,g8];try omega)⟩
 try simp only [sQ,ne_eq] at g7
 refine xP (h:=xF (h:=xM (h:=xP (h:=xF (h:=xA (h:=Zd ?_))))))
 exact eR t1 ⟨rfl,Ze (by simp [ZdA,g7])⟩

theorem Zsy (x:DUser) (h1:x.name.length≤140737488355328) (h2:x.pass.length≤140737488355328) (left:Int) (hl0:0≤left) (hl1:left≤1048576) (B:Kn)  : Zac (pj J) 103 [.agg #[str x.name,str x.pass,.int .i64 x.quota],.int .i64 left] B (.int .i64 (szI left (Zdr x))):=by
 refine cB 20 Tryz.func103 (h:=?_)
 refine Za (xBx [_,_,_] (h:=fun b1=>xA (h:=tL1 (Za (xM (h:=xW Zrc (h:=x1 lk9 0 (h:=xVs Tryz.underlying9 (h:=xU (h:=xA (h:=Zc (Za (xM (h:=ZF (h:=Zb rfl (fun g1=>?_) (fun g1=>?_))))))))))))))))
 try simp only [sQ,ne_eq] at g1
 refine Za (xA (h:=Zd (Zm ?_)))
 exact eR t1 ⟨ZH (by first | (unfold szI Zdr;split <;> omega)),rfl,rfl⟩
 try simp only [sQ,ne_eq] at g1
 refine wSk (Za (xM (h:=xW Zrb (h:=x1 lk9 0 (h:=xVs Tryz.underlying9 (h:=xU (h:=xA (h:=Zc (Za (xM (h:=ZF (h:=Zb rfl (fun g2=>?_) (fun g2=>?_)))))))))))))
 try simp only [sQ,ne_eq] at g2
 refine Za (xA (h:=Zd (Zm ?_)))
 exact eR t1 ⟨ZH (by first | (unfold szI Zdr;split <;> omega)),rfl,rfl⟩
 try simp only [sQ,ne_eq] at g2
 refine wSk (Za (xM (h:=xA (h:=Zd ?_))))
 exact eR t1 ⟨ZH (by first | (unfold szI Zdr;split <;> omega)),rfl,rfl⟩

theorem ZpR (x:DGrant) (h1:x.user.length≤140737488355328) (left:Int) (hl0:0≤left) (hl1:left≤1048576) (B:Kn)  : Zac (pj J) 230 [.agg #[str x.user,.int .i64 x.rights],.int .i64 left] B (.int .i64 (szI left (ZcK x))):=by
 refine cB 13 Tryz.func230 (h:=?_)
 refine Za (xBx [_,_] (h:=fun b1=>xA (h:=tL1 (Za (xM (h:=xW ZqY (h:=x1 lk9 0 (h:=xVs Tryz.underlying9 (h:=xU (h:=xA (h:=Zc (Za (xM (h:=ZF (h:=Zb rfl (fun g1=>?_) (fun g1=>?_))))))))))))))))
 try simp only [sQ,ne_eq] at g1
 refine Za (xA (h:=Zd (Zm ?_)))
 exact eR t1 ⟨ZH (by first | (unfold szI ZcK;split <;> omega)),rfl,rfl⟩
 try simp only [sQ,ne_eq] at g1
 refine wSk (Za (xM (h:=xA (h:=Zd ?_))))
 exact eR t1 ⟨ZH (by first | (unfold szI ZcK;split <;> omega)),rfl,rfl⟩

theorem ZsA (x:DMail) (h1:x.text.length≤140737488355328) (left:Int) (hl0:0≤left) (hl1:left≤1048576) (B:Kn)  : Zac (pj J) 271 [.agg #[.int .i64 x.uid,.int .i64 x.flags,str x.text],.int .i64 left] B (.int .i64 (szI left (ZdS x))):=by
 refine cB 13 Tryz.func271 (h:=?_)
 refine Za (xBx [_,_,_] (h:=fun b1=>xA (h:=tL1 (Za (xM (h:=xW ZqV (h:=x1 lk9 0 (h:=xVs Tryz.underlying9 (h:=xU (h:=xA (h:=Zc (Za (xM (h:=ZF (h:=Zb rfl (fun g1=>?_) (fun g1=>?_))))))))))))))))
 try simp only [sQ,ne_eq] at g1
 refine Za (xA (h:=Zd (Zm ?_)))
 exact eR t1 ⟨ZH (by first | (unfold szI ZdS;split <;> omega)),rfl,rfl⟩
 try simp only [sQ,ne_eq] at g1
 refine wSk (Za (xM (h:=xA (h:=Zd ?_))))
 exact eR t1 ⟨ZH (by first | (unfold szI ZdS;split <;> omega)),rfl,rfl⟩

theorem Zsz (q:Option Addr) (cp:Nat) (xs:List Str) (left:Int) (hl0:0≤left) (hl1:left≤1048576) (B:Kn) (hx:SlB B q cp 1 Zjm xs):Zac (pj J) 232 [.slice q xs.length cp,.int .i64 left] B (.int .i64 (szI left (szL List.length xs))):=by
 refine cB 28 Tryz.func232 (h:=?_)
 have hxn:=hx.len
 refine Za (xA (h:=Za (xM (h:=xM (h:=xV Tryz.underlying143 (h:=xU (h:=xA (h:=Zc (Za (xM (h:=ZF (h:=Zb rfl (fun g1=>?_) (fun g1=>?_)))))))))))))
 try simp only [sQ,ne_eq] at g1
 refine Za (xA (h:=Zd (Zm ?_)))
 exact eR t1 ⟨ZH (ZgE oz).symm,rfl,rfl⟩
 try simp only [sQ,ne_eq] at g1
 refine ZS ?_
 refine Zp ?_
 refine Zc ?_
 refine Za ?_
 refine Zl (Zcs rfl rfl rfl ?_)
 refine Zg ?_
 refine Zz (α:=Nat × Int) [0,11] (fun g=>[(1,.int .i64 g.2),(5,.int .i64 g.1)]) [] (fun g=>[]) (fun g Bx=>Bx=B∧g.1≤xs.length∧g.2=left - xs.length - ((xs.take g.1).map List.length).sum∧0≤g.2) (fun g=>xs.length - g.1) (0,left - ↑xs.length) ⟨rfl,rfl,trivial⟩ rfl (⟨rfl,Nat.zero_le _,by simp,g1⟩) (fun g B1 hle1 hI=>?_)
 obtain ⟨rfl,hk,hs,hl⟩:=hI
 refine ZD [(0,_),(1,_),(5,_),(11,_)] [] t4 rfl (Zc (Za (xM (h:=xM (h:=xV Tryz.underlying143 (h:=ZF (h:=Zb rfl (fun g2=>?_) (fun g2=>?_))))))))
 try simp only [sQ,ne_eq] at g2
 refine wSk (Zc (Zg (Za (xM (h:=xM (h:=xM (h:=?_)))))))
 obtain ⟨z,hz⟩:=ZY (xs:=xs) (i:=g.1) om
 obtain ⟨bb3,oo3,rfl⟩:=hx.base hz
 obtain ⟨_,⟨rfl,hb4⟩,hc4⟩:=hx.elem hz
 refine xIx Tryz.underlying143 sz9 (h:=y1 lk9 hc4 0 (h:=xVs Tryz.underlying9 (h:=xU (h:=xA (h:=Za (xM (h:=ZF (h:=Zb rfl (fun g3=>?_) (fun g3=>?_)))))))))
 try simp only [sQ,ne_eq] at g3
 refine Za (xA (h:=Zd (ZB (Zm (ZM (ZB (Zm ?_)))))))
 exact eR t1 ⟨ZH (ZgC hz hs oz).symm,rfl,rfl⟩
 try simp only [sQ,ne_eq] at g3
 refine ZS (ZK (Zp (Zf (xM (h:=xD (h:=xA (h:=?_)))))))
 exact ZC (g.1+1,g.2 - z.length) [] so2 ⟨rfl,so,by rw [Zeu _ hz,hs];omega,g3⟩ t4 rfl
 try simp only [sQ,ne_eq] at g2
 refine ZE (ZV (ZG (Zt (Zp (Za (xM (h:=xA (h:=Zd ?_))))))))
 exact eR t1 ⟨ZH (ZgD hs hl oz).symm,rfl,rfl⟩

theorem ZpM (q:Option Addr) (cp:Nat) (xs:List DUser) (left:Int) (hl0:0≤left) (hl1:left≤1048576) (B:Kn) (hx:SlB B q cp 3 ZlR xs):Zac (pj J) 47 [.slice q xs.length cp,.int .i64 left] B (.int .i64 (szI left (szL Zdr xs))):=by
 refine cB 27 Tryz.func47 (h:=?_)
 have hxn:=hx.len
 refine Za (xA (h:=Za (xM (h:=xM (h:=xV Tryz.underlying43 (h:=xU (h:=xA (h:=Zc (Za (xM (h:=ZF (h:=Zb rfl (fun g1=>?_) (fun g1=>?_)))))))))))))
 try simp only [sQ,ne_eq] at g1
 refine Za (xA (h:=Zd (Zm ?_)))
 exact eR t1 ⟨ZH (ZgE oz).symm,rfl,rfl⟩
 try simp only [sQ,ne_eq] at g1
 refine ZS ?_
 refine Zp ?_
 refine Zc ?_
 refine Za ?_
 refine Zl (Zcs rfl rfl rfl ?_)
 refine Zg ?_
 refine Zz (α:=Nat × Int) [0,11] (fun g=>[(1,.int .i64 g.2),(5,.int .i64 g.1)]) [] (fun g=>[]) (fun g Bx=>Bx=B∧g.1≤xs.length∧g.2=left - xs.length - ((xs.take g.1).map Zdr).sum∧0≤g.2) (fun g=>xs.length - g.1) (0,left - ↑xs.length) ⟨rfl,rfl,trivial⟩ rfl (⟨rfl,Nat.zero_le _,by simp,g1⟩) (fun g B1 hle1 hI=>?_)
 obtain ⟨rfl,hk,hs,hl⟩:=hI
 refine ZD [(0,_),(1,_),(5,_),(11,_)] [] t4 rfl (Zc (Za (xM (h:=xM (h:=xV Tryz.underlying43 (h:=ZF (h:=Zb rfl (fun g2=>?_) (fun g2=>?_))))))))
 try simp only [sQ,ne_eq] at g2
 refine wSk (Zc (Zg (Za (xM (h:=xM (h:=?_))))))
 obtain ⟨z,hz⟩:=ZY (xs:=xs) (i:=g.1) om
 obtain ⟨bb3,oo3,rfl⟩:=hx.base hz
 obtain ⟨_,⟨rfl,hb4,hb4b⟩,hc4⟩:=hx.elem hz
 refine xIx Tryz.underlying43 ZwZ (h:=yL [_,_,_] Zxm hc4 0 (h:=xM (h:=xR ZAK rfl (Zsy z om om g.2 om om _) (h:=?_))))
 refine xA (h:=Za (xM (h:=ZF (h:=Zb rfl (fun g3=>?_) (fun g3=>?_)))))
 try simp only [sQ,ne_eq] at g3
 refine Za (xA (h:=Zd (ZB (Zm (ZM (ZB (Zm ?_)))))))
 exact eR t1 ⟨ZH (ZgC hz hs ((ZcJ hl).1 g3)).symm,rfl,rfl⟩
 try simp only [sQ,ne_eq] at g3
 refine ZS (ZK (Zp (Zf (xM (h:=xD (h:=xA (h:=?_)))))))
 exact ZC (g.1+1,szI g.2 (Zdr z)) [] so2 ⟨rfl,so,by have:=(Zct hl g3).1;rw [Zeu _ hz];simp only [];omega,g3⟩ t4 rfl
 try simp only [sQ,ne_eq] at g2
 refine ZE (ZV (ZG (Zt (Zp (Za (xM (h:=xA (h:=Zd ?_))))))))
 exact eR t1 ⟨ZH (ZgD hs hl oz).symm,rfl,rfl⟩

theorem Zod (q:Option Addr) (cp:Nat) (xs:List DGrant) (left:Int) (hl0:0≤left) (hl1:left≤1048576) (B:Kn) (hx:SlB B q cp 2 ZiA xs):Zac (pj J) 169 [.slice q xs.length cp,.int .i64 left] B (.int .i64 (szI left (szL ZcK xs))):=by
 refine cB 27 Tryz.func169 (h:=?_)
 have hxn:=hx.len
 refine Za (xA (h:=Za (xM (h:=xM (h:=xV Tryz.underlying170 (h:=xU (h:=xA (h:=Zc (Za (xM (h:=ZF (h:=Zb rfl (fun g1=>?_) (fun g1=>?_)))))))))))))
 try simp only [sQ,ne_eq] at g1
 refine Za (xA (h:=Zd (Zm ?_)))
 exact eR t1 ⟨ZH (ZgE oz).symm,rfl,rfl⟩
 try simp only [sQ,ne_eq] at g1
 refine ZS ?_
 refine Zp ?_
 refine Zc ?_
 refine Za ?_
 refine Zl (Zcs rfl rfl rfl ?_)
 refine Zg ?_
 refine Zz (α:=Nat × Int) [0,11] (fun g=>[(1,.int .i64 g.2),(5,.int .i64 g.1)]) [] (fun g=>[]) (fun g Bx=>Bx=B∧g.1≤xs.length∧g.2=left - xs.length - ((xs.take g.1).map ZcK).sum∧0≤g.2) (fun g=>xs.length - g.1) (0,left - ↑xs.length) ⟨rfl,rfl,trivial⟩ rfl (⟨rfl,Nat.zero_le _,by simp,g1⟩) (fun g B1 hle1 hI=>?_)
 obtain ⟨rfl,hk,hs,hl⟩:=hI
 refine ZD [(0,_),(1,_),(5,_),(11,_)] [] t4 rfl (Zc (Za (xM (h:=xM (h:=xV Tryz.underlying170 (h:=ZF (h:=Zb rfl (fun g2=>?_) (fun g2=>?_))))))))
 try simp only [sQ,ne_eq] at g2
 refine wSk (Zc (Zg (Za (xM (h:=xM (h:=?_))))))
 obtain ⟨z,hz⟩:=ZY (xs:=xs) (i:=g.1) om
 obtain ⟨bb3,oo3,rfl⟩:=hx.base hz
 obtain ⟨_,⟨rfl,hb4⟩,hc4⟩:=hx.elem hz
 refine xIx Tryz.underlying170 ZwU (h:=yL [_,_] Zxf hc4 0 (h:=xM (h:=xR ZzD rfl (ZpR z om g.2 om om _) (h:=?_))))
 refine xA (h:=Za (xM (h:=ZF (h:=Zb rfl (fun g3=>?_) (fun g3=>?_)))))
 try simp only [sQ,ne_eq] at g3
 refine Za (xA (h:=Zd (ZB (Zm (ZM (ZB (Zm ?_)))))))
 exact eR t1 ⟨ZH (ZgC hz hs ((ZcJ hl).1 g3)).symm,rfl,rfl⟩
 try simp only [sQ,ne_eq] at g3
 refine ZS (ZK (Zp (Zf (xM (h:=xD (h:=xA (h:=?_)))))))
 exact ZC (g.1+1,szI g.2 (ZcK z)) [] so2 ⟨rfl,so,by have:=(Zct hl g3).1;rw [Zeu _ hz];simp only [];omega,g3⟩ t4 rfl
 try simp only [sQ,ne_eq] at g2
 refine ZE (ZV (ZG (Zt (Zp (Za (xM (h:=xA (h:=Zd ?_))))))))
 exact eR t1 ⟨ZH (ZgD hs hl oz).symm,rfl,rfl⟩

theorem ZpP (q:Option Addr) (cp:Nat) (xs:List DMail) (left:Int) (hl0:0≤left) (hl1:left≤1048576) (B:Kn) (hx:SlB B q cp 3 ZiJ xs):Zac (pj J) 231 [.slice q xs.length cp,.int .i64 left] B (.int .i64 (szI left (szL ZdS xs))):=by
 refine cB 27 Tryz.func231 (h:=?_)
 have hxn:=hx.len
 refine Za (xA (h:=Za (xM (h:=xM (h:=xV Tryz.underlying171 (h:=xU (h:=xA (h:=Zc (Za (xM (h:=ZF (h:=Zb rfl (fun g1=>?_) (fun g1=>?_)))))))))))))
 try simp only [sQ,ne_eq] at g1
 refine Za (xA (h:=Zd (Zm ?_)))
 exact eR t1 ⟨ZH (ZgE oz).symm,rfl,rfl⟩
 try simp only [sQ,ne_eq] at g1
 refine ZS ?_
 refine Zp ?_
 refine Zc ?_
 refine Za ?_
 refine Zl (Zcs rfl rfl rfl ?_)
 refine Zg ?_
 refine Zz (α:=Nat × Int) [0,11] (fun g=>[(1,.int .i64 g.2),(5,.int .i64 g.1)]) [] (fun g=>[]) (fun g Bx=>Bx=B∧g.1≤xs.length∧g.2=left - xs.length - ((xs.take g.1).map ZdS).sum∧0≤g.2) (fun g=>xs.length - g.1) (0,left - ↑xs.length) ⟨rfl,rfl,trivial⟩ rfl (⟨rfl,Nat.zero_le _,by simp,g1⟩) (fun g B1 hle1 hI=>?_)
 obtain ⟨rfl,hk,hs,hl⟩:=hI
 refine ZD [(0,_),(1,_),(5,_),(11,_)] [] t4 rfl (Zc (Za (xM (h:=xM (h:=xV Tryz.underlying171 (h:=ZF (h:=Zb rfl (fun g2=>?_) (fun g2=>?_))))))))
 try simp only [sQ,ne_eq] at g2
 refine wSk (Zc (Zg (Za (xM (h:=xM (h:=?_))))))
 obtain ⟨z,hz⟩:=ZY (xs:=xs) (i:=g.1) om
 obtain ⟨bb3,oo3,rfl⟩:=hx.base hz
 obtain ⟨_,⟨rfl,hb4⟩,hc4⟩:=hx.elem hz
 refine xIx Tryz.underlying171 ZwT (h:=yL [_,_,_] Zxe hc4 0 (h:=xM (h:=xR Zzi rfl (ZsA z om g.2 om om _) (h:=?_))))
 refine xA (h:=Za (xM (h:=ZF (h:=Zb rfl (fun g3=>?_) (fun g3=>?_)))))
 try simp only [sQ,ne_eq] at g3
 refine Za (xA (h:=Zd (ZB (Zm (ZM (ZB (Zm ?_)))))))
 exact eR t1 ⟨ZH (ZgC hz hs ((ZcJ hl).1 g3)).symm,rfl,rfl⟩
 try simp only [sQ,ne_eq] at g3
 refine ZS (ZK (Zp (Zf (xM (h:=xD (h:=xA (h:=?_)))))))
 exact ZC (g.1+1,szI g.2 (ZdS z)) [] so2 ⟨rfl,so,by have:=(Zct hl g3).1;rw [Zeu _ hz];simp only [];omega,g3⟩ t4 rfl
 try simp only [sQ,ne_eq] at g2
 refine ZE (ZV (ZG (Zt (Zp (Za (xM (h:=xA (h:=Zd ?_))))))))
 exact eR t1 ⟨ZH (ZgD hs hl oz).symm,rfl,rfl⟩

theorem ZsB (q:Option Addr) (cp:Nat) (x:DItem) (h1:x.fr.length≤140737488355328) (h2:x.text.length≤140737488355328) (left:Int) (hl0:0≤left) (hl1:left≤1048576) (B:Kn) (hx:SlB B q cp 1 Zjm x.left):Zac (pj J) 171 [.agg #[.int .i64 x.id,str x.fr,str x.text,.slice q x.left.length cp],.int .i64 left] B (.int .i64 (szI left (ZbP x))):=by
 refine cB 26 Tryz.func171 (h:=?_)
 have hxn:=hx.len
 refine Za (xBx [_,_,_,_] (h:=fun b1=>xA (h:=tL1 (Za (xM (h:=xW Zq1 (h:=x1 lk9 0 (h:=xVs Tryz.underlying9 (h:=xU (h:=xA (h:=Zc (Za (xM (h:=ZF (h:=Zb rfl (fun g1=>?_) (fun g1=>?_))))))))))))))))
 try simp only [sQ,ne_eq] at g1
 refine Za (xA (h:=Zd (Zm ?_)))
 exact eR t1 ⟨ZH (by rw [Zb7 (by unfold ZbP;omega)]),rfl,rfl⟩
 try simp only [sQ,ne_eq] at g1
 refine wSk (Za (xM (h:=xW Zq0 (h:=x1 lk9 0 (h:=xVs Tryz.underlying9 (h:=xU (h:=xA (h:=Zc (Za (xM (h:=ZF (h:=Zb rfl (fun g2=>?_) (fun g2=>?_)))))))))))))
 try simp only [sQ,ne_eq] at g2
 refine Za (xA (h:=Zd (Zm ?_)))
 exact eR t1 ⟨ZH (by rw [Zb7 (by unfold ZbP;omega)]),rfl,rfl⟩
 try simp only [sQ,ne_eq] at g2
 refine wSk (Za (xW ZqZ (h:=x1 ZfV 0 (h:=xM (h:=?_)))))
 have hq2:=Zsz (J:=J) _ _ x.left ((left - ↑x.fr.length) - ↑x.text.length) om om _ hx
 refine xR ZzB rfl hq2 (h:=xA (h:=Zc (Za (xM (h:=ZF (h:=Zb rfl (fun g3=>?_) (fun g3=>?_)))))))
 try simp only [sQ,ne_eq] at g3
 have g3x:=(ZcJ oz).1 g3
 refine Za (xA (h:=Zd (Zm ?_)))
 exact eR t1 ⟨ZH (by rw [Zb7 (by unfold ZbP ZfC;omega)]),rfl,rfl⟩
 try simp only [sQ,ne_eq] at g3
 have g3x:=Zct oz g3
 refine wSk (Za (xM (h:=xA (h:=Zd ?_))))
 exact eR t1 ⟨ZH (by (try dsimp only at *);rw [Znq (left:=left) (s:=ZbP x) (by unfold ZbP ZfC;omega)];unfold ZbP ZfC;omega),rfl,rfl⟩

theorem ZpQ (q:Option Addr) (cp:Nat) (xs:List DItem) (left:Int) (hl0:0≤left) (hl1:left≤1048576) (B:Kn) (hx:SlB B q cp 4 Ziz xs):Zac (pj J) 105 [.slice q xs.length cp,.int .i64 left] B (.int .i64 (szI left (szL ZbP xs))):=by
 refine cB 27 Tryz.func105 (h:=?_)
 have hxn:=hx.len
 refine Za (xA (h:=Za (xM (h:=xM (h:=xV Tryz.underlying45 (h:=xU (h:=xA (h:=Zc (Za (xM (h:=ZF (h:=Zb rfl (fun g1=>?_) (fun g1=>?_)))))))))))))
 try simp only [sQ,ne_eq] at g1
 refine Za (xA (h:=Zd (Zm ?_)))
 exact eR t1 ⟨ZH (ZgE oz).symm,rfl,rfl⟩
 try simp only [sQ,ne_eq] at g1
 refine ZS ?_
 refine Zp ?_
 refine Zc ?_
 refine Za ?_
 refine Zl (Zcs rfl rfl rfl ?_)
 refine Zg ?_
 refine Zz (α:=Nat × Int) [0,11] (fun g=>[(1,.int .i64 g.2),(5,.int .i64 g.1)]) [] (fun g=>[]) (fun g Bx=>Bx=B∧g.1≤xs.length∧g.2=left - xs.length - ((xs.take g.1).map ZbP).sum∧0≤g.2) (fun g=>xs.length - g.1) (0,left - ↑xs.length) ⟨rfl,rfl,trivial⟩ rfl (⟨rfl,Nat.zero_le _,by simp,g1⟩) (fun g B1 hle1 hI=>?_)
 obtain ⟨rfl,hk,hs,hl⟩:=hI
 refine ZD [(0,_),(1,_),(5,_),(11,_)] [] t4 rfl (Zc (Za (xM (h:=xM (h:=xV Tryz.underlying45 (h:=ZF (h:=Zb rfl (fun g2=>?_) (fun g2=>?_))))))))
 try simp only [sQ,ne_eq] at g2
 refine wSk (Zc (Zg (Za (xM (h:=xM (h:=?_))))))
 obtain ⟨z,hz⟩:=ZY (xs:=xs) (i:=g.1) om
 obtain ⟨bb3,oo3,rfl⟩:=hx.base hz
 obtain ⟨_,⟨qi4,ci4,rfl,hi4,hb4,hb4b⟩,hc4⟩:=hx.elem hz
 have hi4n:=hi4.len
 refine xIx Tryz.underlying45 ZwW (h:=yL [_,_,_,_] Zxg hc4 0 (h:=xM (h:=?_)))
 have hq5:=ZsB (J:=J) _ _ z om om g.2 om om _ hi4
 refine xR Zz1 rfl hq5 (h:=xA (h:=Za (xM (h:=ZF (h:=Zb rfl (fun g3=>?_) (fun g3=>?_))))))
 try simp only [sQ,ne_eq] at g3
 refine Za (xA (h:=Zd (ZB (Zm (ZM (ZB (Zm ?_)))))))
 exact eR t1 ⟨ZH (ZgC hz hs ((ZcJ hl).1 g3)).symm,rfl,rfl⟩
 try simp only [sQ,ne_eq] at g3
 refine ZS (ZK (Zp (Zf (xM (h:=xD (h:=xA (h:=?_)))))))
 exact ZC (g.1+1,szI g.2 (ZbP z)) [] so2 ⟨rfl,so,by have:=(Zct hl g3).1;rw [Zeu _ hz];simp only [];omega,g3⟩ t4 rfl
 try simp only [sQ,ne_eq] at g2
 refine ZE (ZV (ZG (Zt (Zp (Za (xM (h:=xA (h:=Zd ?_))))))))
 exact eR t1 ⟨ZH (ZgD hs hl oz).symm,rfl,rfl⟩

theorem ZuZ (q:Option Addr) (cp:Nat) (x:DBox) (left:Int) (hl0:0≤left) (hl1:left≤1048576) (B:Kn) (hx:SlB B q cp 3 ZiJ x.mail):Zac (pj J) 170 [.agg #[.int .i64 x.next,.slice q x.mail.length cp],.int .i64 left] B (.int .i64 (szI left (szL ZdS x.mail))):=by
 refine cB 12 Tryz.func170 (h:=?_)
 have hxn:=hx.len
 refine Za (xBx [_,_] (h:=fun b1=>xA (h:=tL1 (Za (xW Zra (h:=x1 Zxk 0 (h:=xM (h:=?_))))))))
 have hq2:=ZpP (J:=J) _ _ x.mail left om om _ hx
 refine xR ZzC rfl hq2 (h:=xA (h:=Zc (Za (xM (h:=ZF (h:=Zb rfl (fun g1=>?_) (fun g1=>?_)))))))
 try simp only [sQ,ne_eq] at g1
 have g1x:=(ZcJ oz).1 g1
 refine Za (xA (h:=Zd (Zm ?_)))
 exact eR t1 ⟨ZH (by rw [Zb7 g1x]),rfl,rfl⟩
 try simp only [sQ,ne_eq] at g1
 refine wSk (Za (xM (h:=xA (h:=Zd ?_))))
 exact eR t1 ⟨rfl,rfl,rfl⟩

theorem ZpO (q:Option Addr) (cp:Nat) (x:DQueue) (left:Int) (hl0:0≤left) (hl1:left≤1048576) (B:Kn) (hx:SlB B q cp 4 Ziz x.items):Zac (pj J) 49 [.agg #[.int .i64 x.next,.slice q x.items.length cp],.int .i64 left] B (.int .i64 (szI left (szL ZbP x.items))):=by
 refine cB 12 Tryz.func49 (h:=?_)
 have hxn:=hx.len
 refine Za (xBx [_,_] (h:=fun b1=>xA (h:=tL1 (Za (xW ZuB (h:=x1 ZAZ 0 (h:=xM (h:=?_))))))))
 have hq2:=ZpQ (J:=J) _ _ x.items left om om _ hx
 refine xR ZAI rfl hq2 (h:=xA (h:=Zc (Za (xM (h:=ZF (h:=Zb rfl (fun g1=>?_) (fun g1=>?_)))))))
 try simp only [sQ,ne_eq] at g1
 have g1x:=(ZcJ oz).1 g1
 refine Za (xA (h:=Zd (Zm ?_)))
 exact eR t1 ⟨ZH (by rw [Zb7 g1x]),rfl,rfl⟩
 try simp only [sQ,ne_eq] at g1
 refine wSk (Za (xM (h:=xA (h:=Zd ?_))))
 exact eR t1 ⟨rfl,rfl,rfl⟩

theorem Zoe (qa qb:Option Addr) (ca cb:Nat) (x:DFolder) (h1:x.owner.length≤140737488355328) (h2:x.name.length≤140737488355328) (left:Int) (hl0:0≤left) (hl1:left≤1048576) (B:Kn) (hx:SlB B qa ca 2 ZiA x.grants) (hy:SlB B qb cb 3 ZiJ x.mail):Zac (pj J) 104 [.agg #[str x.owner,str x.name,.slice qa x.grants.length ca,.int .i64 x.next,.slice qb x.mail.length cb],.int .i64 left] B (.int .i64 (szI left (ZaE x))):=by
 refine cB 32 Tryz.func104 (h:=?_)
 have hxn:=hx.len
 have hyn:=hy.len
 refine Za (xBx [_,_,_,_,_] (h:=fun b1=>xA (h:=tL1 (Za (xM (h:=xW Zq9 (h:=x1 lk9 0 (h:=xVs Tryz.underlying9 (h:=xU (h:=xA (h:=Zc (Za (xM (h:=ZF (h:=Zb rfl (fun g1=>?_) (fun g1=>?_))))))))))))))))
 try simp only [sQ,ne_eq] at g1
 refine Za (xA (h:=Zd (Zm ?_)))
 exact eR t1 ⟨ZH (by rw [Zb7 (by unfold ZaE;omega)]),rfl,rfl⟩
 try simp only [sQ,ne_eq] at g1
 refine wSk (Za (xM (h:=xW Zq8 (h:=x1 lk9 0 (h:=xVs Tryz.underlying9 (h:=xU (h:=xA (h:=Zc (Za (xM (h:=ZF (h:=Zb rfl (fun g2=>?_) (fun g2=>?_)))))))))))))
 try simp only [sQ,ne_eq] at g2
 refine Za (xA (h:=Zd (Zm ?_)))
 exact eR t1 ⟨ZH (by rw [Zb7 (by unfold ZaE;omega)]),rfl,rfl⟩
 try simp only [sQ,ne_eq] at g2
 refine wSk (Za (xW Zq7 (h:=x1 Zxl 0 (h:=xM (h:=?_)))))
 have hq2:=Zod (J:=J) _ _ x.grants ((left - ↑x.owner.length) - ↑x.name.length) om om _ hx
 refine xR Zz3 rfl hq2 (h:=xA (h:=Zc (Za (xM (h:=ZF (h:=Zb rfl (fun g3=>?_) (fun g3=>?_)))))))
 try simp only [sQ,ne_eq] at g3
 have g3x:=(ZcJ oz).1 g3
 refine Za (xA (h:=Zd (Zm ?_)))
 exact eR t1 ⟨ZH (by rw [Zb7 (by unfold ZaE;omega)]),rfl,rfl⟩
 try simp only [sQ,ne_eq] at g3
 have g3x:=Zct oz g3
 refine wSk (Za (xW Zq6 (h:=xL [_,_] Zxj 0 (h:=xM (h:=?_)))))
 have hq3:=ZuZ (J:=J) _ _ (⟨x.next,x.mail⟩:DBox) (szI ((left - ↑x.owner.length) - ↑x.name.length) (szL ZcK x.grants)) om om _ hy
 refine xR Zz2 rfl hq3 (h:=xA (h:=Zc (Za (xM (h:=ZF (h:=Zb rfl (fun g4=>?_) (fun g4=>?_)))))))
 try simp only [sQ,ne_eq] at g4
 have g4x:=(ZcJ oz).1 g4
 refine Za (xA (h:=Zd (Zm ?_)))
 exact eR t1 ⟨ZH (by rw [Zb7 (by unfold ZaE;omega)]),rfl,rfl⟩
 try simp only [sQ,ne_eq] at g4
 have g4x:=Zct oz g4
 refine wSk (Za (xM (h:=xA (h:=Zd ?_))))
 exact eR t1 ⟨ZH (by (try dsimp only at *);rw [Znq (left:=left) (s:=ZaE x) (by unfold ZaE;omega)];unfold ZaE;omega),rfl,rfl⟩

theorem Zl5 (q:Option Addr) (cp:Nat) (xs:List DFolder) (left:Int) (hl0:0≤left) (hl1:left≤1048576) (B:Kn) (hx:SlB B q cp 5 Zff xs):Zac (pj J) 48 [.slice q xs.length cp,.int .i64 left] B (.int .i64 (szI left (szL ZaE xs))):=by
 refine cB 27 Tryz.func48 (h:=?_)
 have hxn:=hx.len
 refine Za (xA (h:=Za (xM (h:=xM (h:=xV Tryz.underlying44 (h:=xU (h:=xA (h:=Zc (Za (xM (h:=ZF (h:=Zb rfl (fun g1=>?_) (fun g1=>?_)))))))))))))
 try simp only [sQ,ne_eq] at g1
 refine Za (xA (h:=Zd (Zm ?_)))
 exact eR t1 ⟨ZH (ZgE oz).symm,rfl,rfl⟩
 try simp only [sQ,ne_eq] at g1
 refine ZS ?_
 refine Zp ?_
 refine Zc ?_
 refine Za ?_
 refine Zl (Zcs rfl rfl rfl ?_)
 refine Zg ?_
 refine Zz (α:=Nat × Int) [0,11] (fun g=>[(1,.int .i64 g.2),(5,.int .i64 g.1)]) [] (fun g=>[]) (fun g Bx=>Bx=B∧g.1≤xs.length∧g.2=left - xs.length - ((xs.take g.1).map ZaE).sum∧0≤g.2) (fun g=>xs.length - g.1) (0,left - ↑xs.length) ⟨rfl,rfl,trivial⟩ rfl (⟨rfl,Nat.zero_le _,by simp,g1⟩) (fun g B1 hle1 hI=>?_)
 obtain ⟨rfl,hk,hs,hl⟩:=hI
 refine ZD [(0,_),(1,_),(5,_),(11,_)] [] t4 rfl (Zc (Za (xM (h:=xM (h:=xV Tryz.underlying44 (h:=ZF (h:=Zb rfl (fun g2=>?_) (fun g2=>?_))))))))
 try simp only [sQ,ne_eq] at g2
 refine wSk (Zc (Zg (Za (xM (h:=xM (h:=?_))))))
 obtain ⟨z,hz⟩:=ZY (xs:=xs) (i:=g.1) om
 obtain ⟨bb3,oo3,rfl⟩:=hx.base hz
 obtain ⟨_,⟨qg4,cg4,qm4,cm4,rfl,hg4,hm4,hb4,hb4b⟩,hc4⟩:=hx.elem hz
 have hg4n:=hg4.len
 have hm4n:=hm4.len
 refine xIx Tryz.underlying44 ZwY (h:=yL [_,_,_,_,_] Zxi hc4 0 (h:=xM (h:=?_)))
 have hq5:=Zoe (J:=J) _ _ _ _ z om om g.2 om om _ hg4 hm4
 refine xR ZAJ rfl hq5 (h:=xA (h:=Za (xM (h:=ZF (h:=Zb rfl (fun g3=>?_) (fun g3=>?_))))))
 try simp only [sQ,ne_eq] at g3
 refine Za (xA (h:=Zd (ZB (Zm (ZM (ZB (Zm ?_)))))))
 exact eR t1 ⟨ZH (ZgC hz hs ((ZcJ hl).1 g3)).symm,rfl,rfl⟩
 try simp only [sQ,ne_eq] at g3
 refine ZS (ZK (Zp (Zf (xM (h:=xD (h:=xA (h:=?_)))))))
 exact ZC (g.1+1,szI g.2 (ZaE z)) [] so2 ⟨rfl,so,by have:=(Zct hl g3).1;rw [Zeu _ hz];simp only [];omega,g3⟩ t4 rfl
 try simp only [sQ,ne_eq] at g2
 refine ZE (ZV (ZG (Zt (Zp (Za (xM (h:=xA (h:=Zd ?_))))))))
 exact eR t1 ⟨ZH (ZgD hs hl oz).symm,rfl,rfl⟩

theorem ZsC (q1 q2 q3:Option Addr) (c1 c2 c3:Nat) (x:DHost) (hd:x.domain.length≤140737488355328) (left:Int) (hl0:0≤left) (hl1:left≤1048576) (B:Kn) (hu:SlB B q1 c1 3 ZlR x.users) (hf:SlB B q2 c2 5 Zff x.folders) (hi:SlB B q3 c3 4 Ziz x.queue.items):Zac (pj J) 11 [.agg #[str x.domain,.slice q1 x.users.length c1,.slice q2 x.folders.length c2,.int .i64 x.queue.next,.slice q3 x.queue.items.length c3],.int .i64 left] B (.int .i64 (szI left (Zc8 x))):=by
 refine cB 31 Tryz.func11 (h:=?_)
 have hun:=hu.len
 have hfn:=hf.len
 have hin:=hi.len
 refine Za (xBx [_,_,_,_,_] (h:=fun b1=>xA (h:=tL1 (Za (xM (h:=xW ZuA (h:=x1 lk9 0 (h:=xVs Tryz.underlying9 (h:=xU (h:=xA (h:=Zc (Za (xM (h:=ZF (h:=Zb rfl (fun g1=>?_) (fun g1=>?_))))))))))))))))
 try simp only [sQ,ne_eq] at g1
 refine Za (xA (h:=Zd (Zm ?_)))
 exact eR t1 ⟨ZH (by rw [Zb7 (by unfold Zc8;omega)]),rfl,rfl⟩
 try simp only [sQ,ne_eq] at g1
 refine wSk (Za (xW Zuz (h:=x1 ZA1 0 (h:=xM (h:=?_)))))
 have hq2:=ZpM (J:=J) _ _ x.users (left - ↑x.domain.length) om om _ hu
 refine xR ZB0 rfl hq2 (h:=xA (h:=Zc (Za (xM (h:=ZF (h:=Zb rfl (fun g2=>?_) (fun g2=>?_)))))))
 try simp only [sQ,ne_eq] at g2
 have g2x:=(ZcJ oz).1 g2
 refine Za (xA (h:=Zd (Zm ?_)))
 exact eR t1 ⟨ZH (by rw [Zb7 (by unfold Zc8;omega)]),rfl,rfl⟩
 try simp only [sQ,ne_eq] at g2
 have g2x:=Zct oz g2
 refine wSk (Za (xW Zuy (h:=x1 ZA0 0 (h:=xM (h:=?_)))))
 have hq3:=Zl5 (J:=J) _ _ x.folders (szI (left - ↑x.domain.length) (szL Zdr x.users)) om om _ hf
 refine xR ZBZ rfl hq3 (h:=xA (h:=Zc (Za (xM (h:=ZF (h:=Zb rfl (fun g3=>?_) (fun g3=>?_)))))))
 try simp only [sQ,ne_eq] at g3
 have g3x:=(ZcJ oz).1 g3
 refine Za (xA (h:=Zd (Zm ?_)))
 exact eR t1 ⟨ZH (by rw [Zb7 (by unfold Zc8;omega)]),rfl,rfl⟩
 try simp only [sQ,ne_eq] at g3
 have g3x:=Zct oz g3
 refine wSk (Za (xW Zux (h:=xL [_,_] ZAY 0 (h:=xM (h:=?_)))))
 have hq4:=ZpO (J:=J) _ _ (⟨x.queue.next,x.queue.items⟩:DQueue) (szI (szI (left - ↑x.domain.length) (szL Zdr x.users)) (szL ZaE x.folders)) om om _ hi
 refine xR ZBY rfl hq4 (h:=xA (h:=Zc (Za (xM (h:=ZF (h:=Zb rfl (fun g4=>?_) (fun g4=>?_)))))))
 try simp only [sQ,ne_eq] at g4
 have g4x:=(ZcJ oz).1 g4
 refine Za (xA (h:=Zd (Zm ?_)))
 exact eR t1 ⟨ZH (by rw [Zb7 (by unfold Zc8;omega)]),rfl,rfl⟩
 try simp only [sQ,ne_eq] at g4
 have g4x:=Zct oz g4
 refine wSk (Za (xM (h:=xA (h:=Zd ?_))))
 exact eR t1 ⟨ZH (by (try dsimp only at *);rw [Znq (left:=left) (s:=Zc8 x) (by unfold Zc8;omega)];unfold Zc8;omega),rfl,rfl⟩

theorem Zss (x:DUser)  (B:Kn):Zac (pj J) 108 [.agg #[str x.name,str x.pass,.int .i64 x.quota]] B (.agg #[str x.name,str x.pass,.int .i64 x.quota]):=by
 refine cB 14 Tryz.func108 (h:=?_)
 refine Za (xBx [_,_,_] (h:=fun b1=>xAl [_,_,_] Zeo (h:=fun b2=>tL2 (Za (xAl [_,_,_] Zeo (h:=fun b3=>tL3 (Za (xW Zrc (h:=x1 lk9 0 (h:=xW Zbi (h:=xS [_] 2 [_,_,_] sz9 (h:=tL3 (Za (xW Zrb (h:=x1 lk9 0 (h:=xW ZfZ (h:=xS [_] 2 [_,_,_] sz9 (h:=tL3 (Za (xW ZvM (h:=x1 lk3 0 (h:=xW ZdD (h:=xS [_] 2 [_,_,_] sz3 (h:=tL3 (Za (xL [_,_,_] Zfv 2 (h:=xS [_,_,_] 1 [_,_,_] Zbq (h:=tL3 (Zd ?_)))))))))))))))))))))))))))))
 exact eR ⟨⟨_,rfl,.inr ⟨[_,_,_],Zfv,Zbw 1 rfl rfl rfl,rfl⟩⟩,trivial⟩ ⟨rfl,rfl,rfl⟩

theorem ZpI (x:DGrant)  (B:Kn):Zac (pj J) 233 [.agg #[str x.user,.int .i64 x.rights]] B (.agg #[str x.user,.int .i64 x.rights]):=by
 refine cB 11 Tryz.func233 (h:=?_)
 refine Za (xBx [_,_] (h:=fun b1=>xAl [_,_] Zn3 (h:=fun b2=>tL2 (Za (xAl [_,_] Zn3 (h:=fun b3=>tL3 (Za (xW ZqY (h:=x1 lk9 0 (h:=xW Zcz (h:=xS [_] 2 [_,_] sz9 (h:=tL3 (Za (xW ZvI (h:=x1 lk3 0 (h:=xW ZdC (h:=xS [_] 2 [_,_] sz3 (h:=tL3 (Za (xL [_,_] ZqA 2 (h:=xS [_,_] 1 [_,_] Zd0 (h:=tL3 (Zd ?_)))))))))))))))))))))))
 exact eR ⟨⟨_,rfl,.inr ⟨[_,_],ZqA,Zbw 1 rfl rfl rfl,rfl⟩⟩,trivial⟩ ⟨rfl,rfl,rfl⟩

theorem Zsv (x:DMail)  (B:Kn):Zac (pj J) 272 [.agg #[.int .i64 x.uid,.int .i64 x.flags,str x.text]] B (.agg #[.int .i64 x.uid,.int .i64 x.flags,str x.text]):=by
 refine cB 14 Tryz.func272 (h:=?_)
 refine Za (xBx [_,_,_] (h:=fun b1=>xAl [_,_,_] ZlU (h:=fun b2=>tL2 (Za (xAl [_,_,_] ZlU (h:=fun b3=>tL3 (Za (xW ZvF (h:=x1 lk3 0 (h:=xW ZeR (h:=xS [_] 2 [_,_,_] sz3 (h:=tL3 (Za (xW ZvE (h:=x1 lk3 0 (h:=xW Zgr (h:=xS [_] 2 [_,_,_] sz3 (h:=tL3 (Za (xW ZqV (h:=x1 lk9 0 (h:=xW Zfa (h:=xS [_] 2 [_,_,_] sz9 (h:=tL3 (Za (xL [_,_,_] ZmA 2 (h:=xS [_,_,_] 1 [_,_,_] Zgg (h:=tL3 (Zd ?_)))))))))))))))))))))))))))))
 exact eR ⟨⟨_,rfl,.inr ⟨[_,_,_],ZmA,Zbw 1 rfl rfl rfl,rfl⟩⟩,trivial⟩ ⟨rfl,rfl,rfl⟩

theorem Zst (q:Option Addr) (cp:Nat) (xs:List Str) (hx20:ZfC xs≤1048576) (B:Kn) (hx:SlK B q cp 1 ZdM xs):Zv (pj J) 235 [.slice q xs.length cp] B [] (fun v B' Ls=>∃q c l,v = .slice q xs.length c∧B'=B∧Ls=[l]∧ZT Kn.none l q c 9 1 ZdM xs):=by
 refine cB 22 Tryz.func235 (h:=?_)
 have hxn:=hx.len
 have hx21:=Zu3 hx20
 refine Za (xA (h:=Za (xM (h:=xV Tryz.underlying143 (h:=Zl (Za3 (m:=xs.length) (c:=xs.length) (by_:=16) [.string ⟨#[]⟩] rfl rfl Zrt zo9 rfl rfl ⟨_,_,rfl,by first | omega | (simp;done) | (simp;omega)⟩ ⟨_,_,rfl,by first | omega | (simp;done) | (simp;omega)⟩ om om (fun b1=>?_)))))))
 have hv1:=ZT.zeros (B:=Kn.none) (b:=b1) (T:=9) (R:=ZdM) (d:=([]:Str)) (m:=xs.length) (c:=xs.length) (zs:=[.string ⟨#[]⟩]) rfl (⟨rfl,by simp⟩) om
 refine xA (h:=tL1 (Zc (Za (xA (h:=Zg (Zz (α:=Nat × Cells) [0,2] (fun g=>[(3,.slice (some ⟨b1,0,none⟩) xs.length xs.length),(4,.int .i64 g.1)]) [0] (fun g=>[g.2]) (fun g Bx=>Bx=B∧g.1≤xs.length∧ZT Kn.none g.2 (some ⟨b1,0,none⟩) xs.length 9 1 ZdM (fill xs ([]:Str) g.1)) (fun g=>xs.length - g.1) (0,_) t2 rfl (⟨rfl,Nat.zero_le _,by rw [ZdE];exact hv1⟩) (fun g B2 hle2 hI=>?_)))))))
 obtain ⟨rfl,hk,hvl⟩:=hI
 have hfl:=ZeH (d:=([]:Str)) hk
 refine ZD [(0,_),(2,_),(3,_),(4,_)] [_] t4 rfl (Zc (Za (xM (h:=xM (h:=xV Tryz.underlying143 (h:=ZF (h:=Zb rfl (fun g1=>?_) (fun g1=>?_))))))))
 try simp only [sQ,ne_eq] at g1
 refine wSk (Zc (Zg (Zf (xM (h:=xM (h:=xM (h:=xM (h:=?_))))))))
 obtain ⟨z,hz⟩:=ZY (xs:=xs) (i:=g.1) om
 obtain ⟨bb4,oo4,rfl⟩:=hx.base hz
 obtain ⟨_,⟨rfl,hb5⟩,hc5⟩:=hx.elem hz
 refine xIx Tryz.underlying143 sz9 (h:=y1 lk9 hc5 0 (h:=xIp rfl Tryz.underlying143 sz9 (h:=Zl (Zpl (R:=ZdM) (k:=g.1) (z) 0 rfl hvl rfl om rfl rfl sz9 rfl rfl rfl rfl rfl (⟨rfl,by first | assumption | omega | (simp;omega)⟩) (fun l7 hv7=>?_)))))
 refine ZK (Zp (Zf (xM (h:=xD (h:=xA (h:=?_))))))
 exact ZC (g.1+1,l7) [0] so2 ⟨rfl,so,by rw [← ZdF hz];exact hv7⟩ t4 rfl
 try simp only [sQ,ne_eq] at g1
 refine ZE (ZV (ZG (Zt (Zp (Za (xM (h:=xA (h:=Zd ?_))))))))
 exact eN [0] rfl t1 ⟨_,_,_,rfl,rfl,rfl,by have e:=hvl;rw [ZeI oz] at e;exact e⟩

theorem ZpE (q:Option Addr) (cp:Nat) (xs:List DUser) (hx20:szL Zdr xs≤1048576) (B:Kn) (hx:SlK B q cp 3 Zn xs):Zv (pj J) 53 [.slice q xs.length cp] B [] (fun v B' Ls=>∃q c l,v = .slice q xs.length c∧B'=B∧Ls=[l]∧ZT Kn.none l q c 141 3 Zn xs):=by
 refine cB 23 Tryz.func53 (h:=?_)
 have hxn:=hx.len
 have hx21:=(Za9 hx20).1
 refine Za (xA (h:=Za (xM (h:=xV Tryz.underlying43 (h:=Zl (Za3 (m:=xs.length) (c:=xs.length) (by_:=40) [.string ⟨#[]⟩,.string ⟨#[]⟩,.int .i64 0] rfl rfl ZoY Zeo rfl rfl ⟨_,_,rfl,by first | omega | (simp;done) | (simp;omega)⟩ ⟨_,_,rfl,by first | omega | (simp;done) | (simp;omega)⟩ om om (fun b1=>?_)))))))
 have hv1:=ZT.zeros (B:=Kn.none) (b:=b1) (T:=141) (R:=Zn) (d:=(⟨[],[],0⟩:DUser)) (m:=xs.length) (c:=xs.length) (zs:=[.string ⟨#[]⟩,.string ⟨#[]⟩,.int .i64 0]) rfl (⟨rfl,by simp,by simp⟩) om
 refine xA (h:=tL1 (Zc (Za (xA (h:=Zg (Zz (α:=Nat × Cells) [0,2] (fun g=>[(3,.slice (some ⟨b1,0,none⟩) xs.length xs.length),(4,.int .i64 g.1)]) [0] (fun g=>[g.2]) (fun g Bx=>Bx=B∧g.1≤xs.length∧ZT Kn.none g.2 (some ⟨b1,0,none⟩) xs.length 141 3 Zn (fill xs (⟨[],[],0⟩:DUser) g.1)) (fun g=>xs.length - g.1) (0,_) t2 rfl (⟨rfl,Nat.zero_le _,by rw [ZdE];exact hv1⟩) (fun g B2 hle2 hI=>?_)))))))
 obtain ⟨rfl,hk,hvl⟩:=hI
 have hfl:=ZeH (d:=(⟨[],[],0⟩:DUser)) hk
 refine ZD [(0,_),(2,_),(3,_),(4,_)] [_] t4 rfl (Zc (Za (xM (h:=xM (h:=xV Tryz.underlying43 (h:=ZF (h:=Zb rfl (fun g1=>?_) (fun g1=>?_))))))))
 try simp only [sQ,ne_eq] at g1
 refine wSk (Zc (Zg (Zf (xM (h:=xM (h:=xM (h:=xM (h:=?_))))))))
 obtain ⟨z,hz⟩:=ZY (xs:=xs) (i:=g.1) om
 obtain ⟨bb4,oo4,rfl⟩:=hx.base hz
 obtain ⟨_,⟨rfl,hb5,hb5b⟩,hc5⟩:=hx.elem hz
 refine xIx Tryz.underlying43 ZwZ (h:=yL [_,_,_] Zxm hc5 0 (h:=xR ZAG rfl (Zss z  _) (h:=xIp rfl Tryz.underlying23 Zbq (h:=Zl (Zpl (R:=Zn) (k:=g.1) (z) 0 rfl hvl rfl om rfl rfl Zbq rfl rfl rfl rfl rfl (⟨rfl,by first | assumption | omega | (simp;done) | (simp;omega),by first | assumption | omega | (simp;done) | (simp;omega)⟩) (fun l8 hv8=>?_))))))
 refine ZK (Zp (Zf (xM (h:=xD (h:=xA (h:=?_))))))
 exact ZC (g.1+1,l8) [0] so2 ⟨rfl,so,by rw [← ZdF hz];exact hv8⟩ t4 rfl
 try simp only [sQ,ne_eq] at g1
 refine ZE (ZV (ZG (Zt (Zp (Za (xM (h:=xA (h:=Zd ?_))))))))
 exact eN [0] rfl t1 ⟨_,_,_,rfl,rfl,rfl,by have e:=hvl;rw [ZeI oz] at e;exact e⟩

theorem Zob (q:Option Addr) (cp:Nat) (xs:List DGrant) (hx20:szL ZcK xs≤1048576) (B:Kn) (hx:SlK B q cp 2 Z8 xs):Zv (pj J) 173 [.slice q xs.length cp] B [] (fun v B' Ls=>∃q c l,v = .slice q xs.length c∧B'=B∧Ls=[l]∧ZT Kn.none l q c 259 2 Z8 xs):=by
 refine cB 23 Tryz.func173 (h:=?_)
 have hxn:=hx.len
 have hx21:=(Za9 hx20).1
 refine Za (xA (h:=Za (xM (h:=xV Tryz.underlying170 (h:=Zl (Za3 (m:=xs.length) (c:=xs.length) (by_:=24) [.string ⟨#[]⟩,.int .i64 0] rfl rfl Zy3 Zn3 rfl rfl ⟨_,_,rfl,by first | omega | (simp;done) | (simp;omega)⟩ ⟨_,_,rfl,by first | omega | (simp;done) | (simp;omega)⟩ om om (fun b1=>?_)))))))
 have hv1:=ZT.zeros (B:=Kn.none) (b:=b1) (T:=259) (R:=Z8) (d:=(⟨[],0⟩:DGrant)) (m:=xs.length) (c:=xs.length) (zs:=[.string ⟨#[]⟩,.int .i64 0]) rfl (⟨rfl,by simp⟩) om
 refine xA (h:=tL1 (Zc (Za (xA (h:=Zg (Zz (α:=Nat × Cells) [0,2] (fun g=>[(3,.slice (some ⟨b1,0,none⟩) xs.length xs.length),(4,.int .i64 g.1)]) [0] (fun g=>[g.2]) (fun g Bx=>Bx=B∧g.1≤xs.length∧ZT Kn.none g.2 (some ⟨b1,0,none⟩) xs.length 259 2 Z8 (fill xs (⟨[],0⟩:DGrant) g.1)) (fun g=>xs.length - g.1) (0,_) t2 rfl (⟨rfl,Nat.zero_le _,by rw [ZdE];exact hv1⟩) (fun g B2 hle2 hI=>?_)))))))
 obtain ⟨rfl,hk,hvl⟩:=hI
 have hfl:=ZeH (d:=(⟨[],0⟩:DGrant)) hk
 refine ZD [(0,_),(2,_),(3,_),(4,_)] [_] t4 rfl (Zc (Za (xM (h:=xM (h:=xV Tryz.underlying170 (h:=ZF (h:=Zb rfl (fun g1=>?_) (fun g1=>?_))))))))
 try simp only [sQ,ne_eq] at g1
 refine wSk (Zc (Zg (Zf (xM (h:=xM (h:=xM (h:=xM (h:=?_))))))))
 obtain ⟨z,hz⟩:=ZY (xs:=xs) (i:=g.1) om
 obtain ⟨bb4,oo4,rfl⟩:=hx.base hz
 obtain ⟨_,⟨rfl,hb5⟩,hc5⟩:=hx.elem hz
 refine xIx Tryz.underlying170 ZwU (h:=yL [_,_] Zxf hc5 0 (h:=xR ZzA rfl (ZpI z  _) (h:=xIp rfl Tryz.underlying94 Zd0 (h:=Zl (Zpl (R:=Z8) (k:=g.1) (z) 0 rfl hvl rfl om rfl rfl Zd0 rfl rfl rfl rfl rfl (⟨rfl,by first | assumption | omega | (simp;done) | (simp;omega)⟩) (fun l8 hv8=>?_))))))
 refine ZK (Zp (Zf (xM (h:=xD (h:=xA (h:=?_))))))
 exact ZC (g.1+1,l8) [0] so2 ⟨rfl,so,by rw [← ZdF hz];exact hv8⟩ t4 rfl
 try simp only [sQ,ne_eq] at g1
 refine ZE (ZV (ZG (Zt (Zp (Za (xM (h:=xA (h:=Zd ?_))))))))
 exact eN [0] rfl t1 ⟨_,_,_,rfl,rfl,rfl,by have e:=hvl;rw [ZeI oz] at e;exact e⟩

theorem Zsu (x:DSpan)  (B:Kn):Zac (pj J) 56 [.agg #[.int .i64 x.low,.int .i64 x.high]] B (.agg #[.int .i64 x.low,.int .i64 x.high]):=by
 refine cB 11 Tryz.func56 (h:=?_)
 refine Za (xBx [_,_] (h:=fun b1=>xAl [_,_] Zwp (h:=fun b2=>tL2 (Za (xAl [_,_] Zwp (h:=fun b3=>tL3 (Za (xW ZvO (h:=x1 lk3 0 (h:=xW Zhl (h:=xS [_] 2 [_,_] sz3 (h:=tL3 (Za (xW ZvN (h:=x1 lk3 0 (h:=xW Zhk (h:=xS [_] 2 [_,_] sz3 (h:=tL3 (Za (xL [_,_] Zwm 2 (h:=xS [_,_] 1 [_,_] Zl6 (h:=tL3 (Zd ?_)))))))))))))))))))))))
 exact eR ⟨⟨_,rfl,.inr ⟨[_,_],Zwm,Zbw 1 rfl rfl rfl,rfl⟩⟩,trivial⟩ ⟨rfl,rfl,rfl⟩

theorem ZbO (q:Option Addr) (cp:Nat) (xs:List DSpan) (hx20:xs.length≤1048576) (B:Kn) (hx:SlK B q cp 2 Z1 xs):Zv (pj J) 17 [.slice q xs.length cp] B [] (fun v B' Ls=>∃q c l,v = .slice q xs.length c∧B'=B∧Ls=[l]∧ZT Kn.none l q c 40 2 Z1 xs):=by
 refine cB 23 Tryz.func17 (h:=?_)
 have hxn:=hx.len
 have hx21:=hx20
 refine Za (xA (h:=Za (xM (h:=xV Tryz.underlying51 (h:=Zl (Za3 (m:=xs.length) (c:=xs.length) (by_:=16) [.int .i64 0,.int .i64 0] rfl rfl ZBs Zwp rfl rfl ⟨_,_,rfl,by first | omega | (simp;done) | (simp;omega)⟩ ⟨_,_,rfl,by first | omega | (simp;done) | (simp;omega)⟩ om om (fun b1=>?_)))))))
 have hv1:=ZT.zeros (B:=Kn.none) (b:=b1) (T:=40) (R:=Z1) (d:=(⟨0,0⟩:DSpan)) (m:=xs.length) (c:=xs.length) (zs:=[.int .i64 0,.int .i64 0]) rfl (rfl) om
 refine xA (h:=tL1 (Zc (Za (xA (h:=Zg (Zz (α:=Nat × Cells) [0,2] (fun g=>[(3,.slice (some ⟨b1,0,none⟩) xs.length xs.length),(4,.int .i64 g.1)]) [0] (fun g=>[g.2]) (fun g Bx=>Bx=B∧g.1≤xs.length∧ZT Kn.none g.2 (some ⟨b1,0,none⟩) xs.length 40 2 Z1 (fill xs (⟨0,0⟩:DSpan) g.1)) (fun g=>xs.length - g.1) (0,_) t2 rfl (⟨rfl,Nat.zero_le _,by rw [ZdE];exact hv1⟩) (fun g B2 hle2 hI=>?_)))))))
 obtain ⟨rfl,hk,hvl⟩:=hI
 have hfl:=ZeH (d:=(⟨0,0⟩:DSpan)) hk
 refine ZD [(0,_),(2,_),(3,_),(4,_)] [_] t4 rfl (Zc (Za (xM (h:=xM (h:=xV Tryz.underlying51 (h:=ZF (h:=Zb rfl (fun g1=>?_) (fun g1=>?_))))))))
 try simp only [sQ,ne_eq] at g1
 refine wSk (Zc (Zg (Zf (xM (h:=xM (h:=xM (h:=xM (h:=?_))))))))
 obtain ⟨z,hz⟩:=ZY (xs:=xs) (i:=g.1) om
 obtain ⟨bb4,oo4,rfl⟩:=hx.base hz
 obtain ⟨_,rfl,hc5⟩:=hx.elem hz
 refine xIx Tryz.underlying51 ZyH (h:=yL [_,_] ZyU hc5 0 (h:=xR ZBS rfl (Zsu z  _) (h:=xIp rfl Tryz.underlying41 Zl6 (h:=Zl (Zpl (R:=Z1) (k:=g.1) (z) 0 rfl hvl rfl om rfl rfl Zl6 rfl rfl rfl rfl rfl (rfl) (fun l8 hv8=>?_))))))
 refine ZK (Zp (Zf (xM (h:=xD (h:=xA (h:=?_))))))
 exact ZC (g.1+1,l8) [0] so2 ⟨rfl,so,by rw [← ZdF hz];exact hv8⟩ t4 rfl
 try simp only [sQ,ne_eq] at g1
 refine ZE (ZV (ZG (Zt (Zp (Za (xM (h:=xA (h:=Zd ?_))))))))
 exact eN [0] rfl t1 ⟨_,_,_,rfl,rfl,rfl,by have e:=hvl;rw [ZeI oz] at e;exact e⟩

theorem ZpG (q:Option Addr) (cp:Nat) (xs:List DMail) (hx20:szL ZdS xs≤1048576) (B:Kn) (hx:SlK B q cp 3 Z5 xs):Zv (pj J) 234 [.slice q xs.length cp] B [] (fun v B' Ls=>∃q c l,v = .slice q xs.length c∧B'=B∧Ls=[l]∧ZT Kn.none l q c 99 3 Z5 xs):=by
 refine cB 23 Tryz.func234 (h:=?_)
 have hxn:=hx.len
 have hx21:=(Za9 hx20).1
 refine Za (xA (h:=Za (xM (h:=xV Tryz.underlying171 (h:=Zl (Za3 (m:=xs.length) (c:=xs.length) (by_:=32) [.int .i64 0,.int .i64 0,.string ⟨#[]⟩] rfl rfl Zwn ZlU rfl rfl ⟨_,_,rfl,by first | omega | (simp;done) | (simp;omega)⟩ ⟨_,_,rfl,by first | omega | (simp;done) | (simp;omega)⟩ om om (fun b1=>?_)))))))
 have hv1:=ZT.zeros (B:=Kn.none) (b:=b1) (T:=99) (R:=Z5) (d:=(⟨0,0,[]⟩:DMail)) (m:=xs.length) (c:=xs.length) (zs:=[.int .i64 0,.int .i64 0,.string ⟨#[]⟩]) rfl (⟨rfl,by simp⟩) om
 refine xA (h:=tL1 (Zc (Za (xA (h:=Zg (Zz (α:=Nat × Cells) [0,2] (fun g=>[(3,.slice (some ⟨b1,0,none⟩) xs.length xs.length),(4,.int .i64 g.1)]) [0] (fun g=>[g.2]) (fun g Bx=>Bx=B∧g.1≤xs.length∧ZT Kn.none g.2 (some ⟨b1,0,none⟩) xs.length 99 3 Z5 (fill xs (⟨0,0,[]⟩:DMail) g.1)) (fun g=>xs.length - g.1) (0,_) t2 rfl (⟨rfl,Nat.zero_le _,by rw [ZdE];exact hv1⟩) (fun g B2 hle2 hI=>?_)))))))
 obtain ⟨rfl,hk,hvl⟩:=hI
 have hfl:=ZeH (d:=(⟨0,0,[]⟩:DMail)) hk
 refine ZD [(0,_),(2,_),(3,_),(4,_)] [_] t4 rfl (Zc (Za (xM (h:=xM (h:=xV Tryz.underlying171 (h:=ZF (h:=Zb rfl (fun g1=>?_) (fun g1=>?_))))))))
 try simp only [sQ,ne_eq] at g1
 refine wSk (Zc (Zg (Zf (xM (h:=xM (h:=xM (h:=xM (h:=?_))))))))
 obtain ⟨z,hz⟩:=ZY (xs:=xs) (i:=g.1) om
 obtain ⟨bb4,oo4,rfl⟩:=hx.base hz
 obtain ⟨_,⟨rfl,hb5⟩,hc5⟩:=hx.elem hz
 refine xIx Tryz.underlying171 ZwT (h:=yL [_,_,_] Zxe hc5 0 (h:=xR Zzh rfl (Zsv z  _) (h:=xIp rfl Tryz.underlying91 Zgg (h:=Zl (Zpl (R:=Z5) (k:=g.1) (z) 0 rfl hvl rfl om rfl rfl Zgg rfl rfl rfl rfl rfl (⟨rfl,by first | assumption | omega | (simp;done) | (simp;omega)⟩) (fun l8 hv8=>?_))))))
 refine ZK (Zp (Zf (xM (h:=xD (h:=xA (h:=?_))))))
 exact ZC (g.1+1,l8) [0] so2 ⟨rfl,so,by rw [← ZdF hz];exact hv8⟩ t4 rfl
 try simp only [sQ,ne_eq] at g1
 refine ZE (ZV (ZG (Zt (Zp (Za (xM (h:=xA (h:=Zd ?_))))))))
 exact eN [0] rfl t1 ⟨_,_,_,rfl,rfl,rfl,by have e:=hvl;rw [ZeI oz] at e;exact e⟩

theorem Zsw (q:Option Addr) (cp:Nat) (x:DItem) (B:Kn) (hx:SlK B q cp 1 ZdM x.left) (hl:ZfC x.left≤1048576):Zv (pj J) 175 [.agg #[.int .i64 x.id,str x.fr,str x.text,.slice q x.left.length cp]] B [] (fun v B' Ls=>∃q0 c0 l0,v = .agg #[.int .i64 x.id,str x.fr,str x.text,.slice q0 x.left.length c0]∧B'=B∧Ls=[l0]∧ZT Kn.none l0 q0 c0 9 1 ZdM x.left):=by
 refine cB 18 Tryz.func175 (h:=?_)
 refine Za (xBx [_,_,_,_] (h:=fun b1=>xAl [_,_,_,_] Zfs (h:=fun b2=>tL2 (Za (xAl [_,_,_,_] Zfs (h:=fun b3=>tL3 (Za (xW ZvJ (h:=x1 lk3 0 (h:=xW ZeF (h:=xS [_] 2 [_,_,_,_] sz3 (h:=tL3 (Za (xW Zq1 (h:=x1 lk9 0 (h:=xW ZeE (h:=xS [_] 2 [_,_,_,_] sz9 (h:=tL3 (Za (xW Zq0 (h:=x1 lk9 0 (h:=xW ZfY (h:=xS [_] 2 [_,_,_,_] sz9 (h:=tL3 (Za (xW ZqZ (h:=x1 ZfV 0 (h:=xC Zzy rfl (Zst _ _ x.left om2 _ hx) (h:=?_)))))))))))))))))))))))))))))
 rintro _ B4 _ hle4 ⟨q4,c4,l4,rfl,rfl,rfl,hv4⟩
 refine xW ZcQ (h:=xS [_] 2 [_,_,_,_] Zu2 (h:=tL4 (Za (xL [_,_,_,_] Ze1 2 (h:=xS [_,_,_,_] 1 [_,_,_,_] ZbC (h:=tL4 (Zd ?_)))))))
 exact eN [3] rfl ⟨⟨_,rfl,.inr ⟨[_,_,_,_],Ze1,Zbw 1 rfl rfl rfl,rfl⟩⟩,trivial⟩ ⟨_,_,_,rfl,rfl,rfl,hv4⟩

theorem ZpH (q:Option Addr) (cp:Nat) (xs:List DItem) (hx20:szL ZbP xs≤1048576) (B:Kn) (hx:SlK B q cp 4 Zy xs):Zv (pj J) 110 [.slice q xs.length cp] B [] (fun v B' Ls=>∃q c l,v = .slice q xs.length c∧B'=B∧Ls=[l]∧ZaF l q c 145 4 (ZaQ 9) xs):=by
 refine cB 23 Tryz.func110 (h:=?_)
 have hxn:=hx.len
 have hx21:=(Za9 hx20).1
 refine Za (xA (h:=Za (xM (h:=xV Tryz.underlying45 (h:=Zl (Za3 (m:=xs.length) (c:=xs.length) (by_:=64) [.int .i64 0,.string ⟨#[]⟩,.string ⟨#[]⟩,.slice none 0 0] rfl rfl Zy5 Zfs rfl rfl ⟨_,_,rfl,by first | omega | (simp;done) | (simp;omega)⟩ ⟨_,_,rfl,by first | omega | (simp;done) | (simp;omega)⟩ om om (fun b1=>?_)))))))
 have hd1:=ZaF.zeros (b:=b1) (T:=145) (R:=ZaQ 9) (d:=(⟨0,[],[],[]⟩:DItem)) (m:=xs.length) (c:=xs.length) (zs:=[.int .i64 0,.string ⟨#[]⟩,.string ⟨#[]⟩,.slice none 0 0]) rfl (⟨_,_,rfl,ZT.nil,by simp,by simp,by simp⟩) om
 refine xA (h:=tL1 (Zc (Za (xA (h:=Zg (Zz (α:=Nat × Cells) [0,2] (fun g=>[(3,.slice (some ⟨b1,0,none⟩) xs.length xs.length),(4,.int .i64 g.1)]) [0] (fun g=>[g.2]) (fun g Bx=>Bx=B∧g.1≤xs.length∧ZaF g.2 (some ⟨b1,0,none⟩) xs.length 145 4 (ZaQ 9) (fill xs (⟨0,[],[],[]⟩:DItem) g.1)) (fun g=>xs.length - g.1) (0,_) t2 rfl (⟨rfl,Nat.zero_le _,by rw [ZdE];exact hd1⟩) (fun g B2 hle2 hI=>?_)))))))
 obtain ⟨rfl,hk,hvl⟩:=hI
 have hfl:=ZeH (d:=(⟨0,[],[],[]⟩:DItem)) hk
 refine ZD [(0,_),(2,_),(3,_),(4,_)] [_] t4 rfl (Zc (Za (xM (h:=xM (h:=xV Tryz.underlying45 (h:=ZF (h:=Zb rfl (fun g1=>?_) (fun g1=>?_))))))))
 try simp only [sQ,ne_eq] at g1
 refine wSk (Zc (Zg (Zf (xM (h:=xM (h:=xM (h:=xM (h:=?_))))))))
 obtain ⟨z,hz⟩:=ZY (xs:=xs) (i:=g.1) om
 obtain ⟨bb4,oo4,rfl⟩:=hx.base hz
 obtain ⟨_,⟨qi5,ci5,rfl,hi5,hb5,hb5b⟩,hc5⟩:=hx.elem hz
 have hi5n:=hi5.len
 refine xIx Tryz.underlying45 ZwW (h:=?_)
 have hzz:=(Za9 hx20).2 z (List.mem_of_getElem? hz)
 have hza:=Zvw hzz
 refine yL [_,_,_,_] Zxg hc5 0 (h:=xC ZzX rfl (Zsw _ _ z _ hi5 om2) (h:=?_))
 rintro _ B6 _ hle6 ⟨q6,c6,l6,rfl,rfl,rfl,hv6⟩
 refine xIp rfl Tryz.underlying25 ZbC (h:=Zl (Zwu (R:=ZaQ 9) (k:=g.1) (z) 0 [1] rfl rfl hvl rfl om rfl rfl ZbC rfl rfl rfl rfl rfl (l6) (by simp) (⟨_,_,rfl,hv6,by first | assumption | omega | (simp;done) | (simp;omega),by first | assumption | omega | (simp;done) | (simp;omega),by first | assumption | omega | (simp;done) | (simp;omega)⟩) (fun l8 hd8=>?_)))
 refine ZK (Zp (Zf (xM (h:=xD (h:=xA (h:=?_))))))
 exact ZC (g.1+1,l8) [0] so2 ⟨rfl,so,by rw [← ZdF hz];exact hd8⟩ t4 rfl
 try simp only [sQ,ne_eq] at g1
 refine ZE (ZV (ZG (Zt (Zp (Za (xM (h:=xA (h:=Zd ?_))))))))
 exact eN [0] rfl t1 ⟨_,_,_,rfl,rfl,rfl,by have e:=hvl;rw [ZeI oz] at e;exact e⟩

theorem ZpF (q:Option Addr) (cp:Nat) (x:DQueue) (B:Kn) (hx:SlK B q cp 4 Zy x.items) (hl:szL ZbP x.items≤1048576):Zv (pj J) 55 [.agg #[.int .i64 x.next,.slice q x.items.length cp]] B [] (fun v B' Ls=>∃q0 c0 l0,v = .agg #[.int .i64 x.next,.slice q0 x.items.length c0]∧B'=B∧Ls=[l0]∧ZaF l0 q0 c0 145 4 (ZaQ 9) x.items):=by
 refine cB 12 Tryz.func55 (h:=?_)
 refine Za (xBx [_,_] (h:=fun b1=>xAl [_,_] Zr4 (h:=fun b2=>tL2 (Za (xAl [_,_] Zr4 (h:=fun b3=>tL3 (Za (xW Zxu (h:=x1 lk3 0 (h:=xW Zgs (h:=xS [_] 2 [_,_] sz3 (h:=tL3 (Za (xW ZuB (h:=x1 ZAZ 0 (h:=xC ZAE rfl (ZpH _ _ x.items om2 _ hx) (h:=?_)))))))))))))))))
 rintro _ B4 _ hle4 ⟨q4,c4,l4,rfl,rfl,rfl,hv4⟩
 refine xW ZbX (h:=xS [_] 2 [_,_] ZyF (h:=tL4 (Za (xL [_,_] ZlS 2 (h:=xS [_,_] 1 [_,_] Zu0 (h:=tL4 (Zd ?_)))))))
 exact eN [3] rfl ⟨⟨_,rfl,.inr ⟨[_,_],ZlS,Zbw 1 rfl rfl rfl,rfl⟩⟩,trivial⟩ ⟨_,_,_,rfl,rfl,rfl,hv4⟩

theorem ZuW (q:Option Addr) (cp:Nat) (x:DBox) (B:Kn) (hx:SlK B q cp 3 Z5 x.mail) (hl:szL ZdS x.mail≤1048576):Zv (pj J) 174 [.agg #[.int .i64 x.next,.slice q x.mail.length cp]] B [] (fun v B' Ls=>∃q0 c0 l0,v = .agg #[.int .i64 x.next,.slice q0 x.mail.length c0]∧B'=B∧Ls=[l0]∧ZT Kn.none l0 q0 c0 99 3 Z5 x.mail):=by
 refine cB 12 Tryz.func174 (h:=?_)
 refine Za (xBx [_,_] (h:=fun b1=>xAl [_,_] Zpc (h:=fun b2=>tL2 (Za (xAl [_,_] Zpc (h:=fun b3=>tL3 (Za (xW ZvL (h:=x1 lk3 0 (h:=xW Zda (h:=xS [_] 2 [_,_] sz3 (h:=tL3 (Za (xW Zra (h:=x1 Zxk 0 (h:=xC Zzz rfl (ZpG _ _ x.mail om2 _ hx) (h:=?_)))))))))))))))))
 rintro _ B4 _ hle4 ⟨q4,c4,l4,rfl,rfl,rfl,hv4⟩
 refine xW Zbc (h:=xS [_] 2 [_,_] ZyD (h:=tL4 (Za (xL [_,_] Zfl 2 (h:=xS [_,_] 1 [_,_] Zjr (h:=tL4 (Zd ?_)))))))
 exact eN [3] rfl ⟨⟨_,rfl,.inr ⟨[_,_],Zfl,Zbw 1 rfl rfl rfl,rfl⟩⟩,trivial⟩ ⟨_,_,_,rfl,rfl,rfl,hv4⟩

theorem Zoc (qa qb:Option Addr) (ca cb:Nat) (x:DFolder) (B:Kn) (hx:SlK B qa ca 2 Z8 x.grants) (hy:SlK B qb cb 3 Z5 x.mail) (hl:szL ZcK x.grants≤1048576) (hl2:szL ZdS x.mail≤1048576):Zv (pj J) 109 [.agg #[str x.owner,str x.name,.slice qa x.grants.length ca,.int .i64 x.next,.slice qb x.mail.length cb]] B [] (fun v B' Ls=>∃q0 c0 l0 q1 c1 l1,v = .agg #[str x.owner,str x.name,.slice q0 x.grants.length c0,.int .i64 x.next,.slice q1 x.mail.length c1]∧B'=B∧Ls=[l0,l1]∧ZT Kn.none l0 q0 c0 259 2 Z8 x.grants∧ZT Kn.none l1 q1 c1 99 3 Z5 x.mail):=by
 refine cB 19 Tryz.func109 (h:=?_)
 refine Za (xBx [_,_,_,_,_] (h:=fun b1=>xAl [_,_,_,_,_] Zgx (h:=fun b2=>tL2 (Za (xAl [_,_,_,_,_] Zgx (h:=fun b3=>tL3 (Za (xW Zq9 (h:=x1 lk9 0 (h:=xW ZbW (h:=xS [_] 2 [_,_,_,_,_] sz9 (h:=tL3 (Za (xW Zq8 (h:=x1 lk9 0 (h:=xW Zeh (h:=xS [_] 2 [_,_,_,_,_] sz9 (h:=tL3 (Za (xW Zq7 (h:=x1 Zxl 0 (h:=xC ZzZ rfl (Zob _ _ x.grants om2 _ hx) (h:=?_)))))))))))))))))))))))
 rintro _ B4 _ hle4 ⟨q4,c4,l4,rfl,rfl,rfl,hv4⟩
 refine xW Zeg (h:=xS [_] 2 [_,_,_,_,_] ZyC (h:=tL4 (Za (xW Zq6 (h:=xL [_,_] Zxj 0 (h:=xC ZzY rfl (ZuW _ _ ⟨x.next,x.mail⟩ _ hy om2) (h:=?_)))))))
 rintro _ B5 _ hle5 ⟨q5,c5,l5,rfl,rfl,rfl,hv5⟩
 refine xW Zbv (h:=xS [_,_] 2 [_,_,_,_,_] Zjr (h:=tL5 (Za (xL [_,_,_,_,_] ZiB 2 (h:=xS [_,_,_,_,_] 1 [_,_,_,_,_] ZbM (h:=tL5 (Zd ?_)))))))
 exact eN [3,4] rfl ⟨⟨_,rfl,.inr ⟨[_,_,_,_,_],ZiB,Zbw 1 rfl rfl rfl,rfl⟩⟩,trivial⟩ ⟨_,_,_,_,_,_,rfl,rfl,rfl,hv4,hv5⟩

theorem Zl3 (q:Option Addr) (cp:Nat) (xs:List DFolder) (hx20:szL ZaE xs≤1048576) (B:Kn) (hx:SlK B q cp 5 Zk xs):Zv (pj J) 54 [.slice q xs.length cp] B [] (fun v B' Ls=>∃q c l,v = .slice q xs.length c∧B'=B∧Ls=[l]∧ZaF l q c 96 5 (ZU 259 99) xs):=by
 refine cB 23 Tryz.func54 (h:=?_)
 have hxn:=hx.len
 have hx21:=(Za9 hx20).1
 refine Za (xA (h:=Za (xM (h:=xV Tryz.underlying44 (h:=Zl (Za3 (m:=xs.length) (c:=xs.length) (by_:=88) [.string ⟨#[]⟩,.string ⟨#[]⟩,.slice none 0 0,.int .i64 0,.slice none 0 0] rfl rfl Zx9 Zgx rfl rfl ⟨_,_,rfl,by first | omega | (simp;done) | (simp;omega)⟩ ⟨_,_,rfl,by first | omega | (simp;done) | (simp;omega)⟩ om om (fun b1=>?_)))))))
 have hd1:=ZaF.zeros (b:=b1) (T:=96) (R:=(ZU 259 99)) (d:=(⟨[],[],[],0,[]⟩:DFolder)) (m:=xs.length) (c:=xs.length) (zs:=[.string ⟨#[]⟩,.string ⟨#[]⟩,.slice none 0 0,.int .i64 0,.slice none 0 0]) rfl (⟨_,_,_,_,[],[],rfl,rfl,ZT.nil,ZT.nil,by simp,by simp,by simp,by simp⟩) om
 refine xA (h:=tL1 (Zc (Za (xA (h:=Zg (Zz (α:=Nat × Cells) [0,2] (fun g=>[(3,.slice (some ⟨b1,0,none⟩) xs.length xs.length),(4,.int .i64 g.1)]) [0] (fun g=>[g.2]) (fun g Bx=>Bx=B∧g.1≤xs.length∧ZaF g.2 (some ⟨b1,0,none⟩) xs.length 96 5 (ZU 259 99) (fill xs (⟨[],[],[],0,[]⟩:DFolder) g.1)) (fun g=>xs.length - g.1) (0,_) t2 rfl (⟨rfl,Nat.zero_le _,by rw [ZdE];exact hd1⟩) (fun g B2 hle2 hI=>?_)))))))
 obtain ⟨rfl,hk,hvl⟩:=hI
 have hfl:=ZeH (d:=(⟨[],[],[],0,[]⟩:DFolder)) hk
 refine ZD [(0,_),(2,_),(3,_),(4,_)] [_] t4 rfl (Zc (Za (xM (h:=xM (h:=xV Tryz.underlying44 (h:=ZF (h:=Zb rfl (fun g1=>?_) (fun g1=>?_))))))))
 try simp only [sQ,ne_eq] at g1
 refine wSk (Zc (Zg (Zf (xM (h:=xM (h:=xM (h:=xM (h:=?_))))))))
 obtain ⟨z,hz⟩:=ZY (xs:=xs) (i:=g.1) om
 obtain ⟨bb4,oo4,rfl⟩:=hx.base hz
 obtain ⟨_,⟨qg5,cg5,qm5,cm5,rfl,hg5,hm5,hb5,hb5b⟩,hc5⟩:=hx.elem hz
 have hg5n:=hg5.len
 have hm5n:=hm5.len
 have hm5s:=Zao hm5
 refine xIx Tryz.underlying44 ZwY (h:=?_)
 have hzz:=(Za9 hx20).2 z (List.mem_of_getElem? hz)
 have hza:=ZqU hzz
 refine yL [_,_,_,_,_] Zxi hc5 0 (h:=xC ZAF rfl (Zoc _ _ _ _ z _ hg5 hm5 om2 om2) (h:=?_))
 rintro _ B6 _ hle6 ⟨q6,c6,l6,q6b,c6b,l6b,rfl,rfl,rfl,hv6,hv6b⟩
 refine xIp rfl Tryz.underlying24 ZbM (h:=Zl (Zwu (R:=(ZU 259 99)) (k:=g.1) (z) 0 [1,2] rfl rfl hvl rfl om rfl rfl ZbM rfl rfl rfl rfl rfl (l6 ++ l6b) (by simp) (⟨_,_,_,_,_,_,rfl,rfl,(hv6.anyK Z8.any),(hv6b.anyK Z5.any),by first | assumption | omega | (simp;done) | (simp;omega),by first | assumption | omega | (simp;done) | (simp;omega),by first | assumption | omega | (simp;done) | (simp;omega),by first | assumption | omega | (simp;done) | (simp;omega)⟩) (fun l8 hd8=>?_)))
 refine ZK (Zp (Zf (xM (h:=xD (h:=xA (h:=?_))))))
 exact ZC (g.1+1,l8) [0] so2 ⟨rfl,so,by rw [← ZdF hz];exact hd8⟩ t4 rfl
 try simp only [sQ,ne_eq] at g1
 refine ZE (ZV (ZG (Zt (Zp (Za (xM (h:=xA (h:=Zd ?_))))))))
 exact eN [0] rfl t1 ⟨_,_,_,rfl,rfl,rfl,by have e:=hvl;rw [ZeI oz] at e;exact e⟩

theorem Zfi (q1 q2 q3:Option Addr) (c1 c2 c3:Nat) (x:DHost) (B:Kn) (hu:SlK B q1 c1 3 Zn x.users) (hf:SlK B q2 c2 5 Zk x.folders) (hi:SlK B q3 c3 4 Zy x.queue.items) (hsz:Zc8 x≤1048576):Zv (pj J) 15 [.agg #[str x.domain,.slice q1 x.users.length c1,.slice q2 x.folders.length c2,.int .i64 x.queue.next,.slice q3 x.queue.items.length c3]] B [] (fun v B' Ls=>∃q0 c0 l0 q1 c1 l1 q2 c2 l2,v = .agg #[str x.domain,.slice q0 x.users.length c0,.slice q1 x.folders.length c1,.int .i64 x.queue.next,.slice q2 x.queue.items.length c2]∧B'=B∧Ls=[l0,l1,l2]∧ZT Kn.none l0 q0 c0 141 3 Zn x.users∧ZaF l1 q1 c1 96 5 (ZU 259 99) x.folders∧ZaF l2 q2 c2 145 4 (ZaQ 9) x.queue.items):=by
 refine cB 20 Tryz.func15 (h:=?_)
 have hsz2:=ZqM hsz
 refine Za (xBx [_,_,_,_,_] (h:=fun b1=>xAl [_,_,_,_,_] Zb3 (h:=fun b2=>tL2 (Za (xAl [_,_,_,_,_] Zb3 (h:=fun b3=>tL3 (Za (xW ZuA (h:=x1 lk9 0 (h:=xW Zif (h:=xS [_] 2 [_,_,_,_,_] sz9 (h:=tL3 (Za (xW Zuz (h:=x1 ZA1 0 (h:=xC ZBV rfl (ZpE _ _ x.users om2 _ hu) (h:=?_)))))))))))))))))
 rintro _ B4 _ hle4 ⟨q4,c4,l4,rfl,rfl,rfl,hv4⟩
 refine xW ZbL (h:=xS [_] 2 [_,_,_,_,_] ZBl (h:=tL4 (Za (xW Zuy (h:=x1 ZA0 0 (h:=xC ZBU rfl (Zl3 _ _ x.folders om2 _ hf) (h:=?_)))))))
 rintro _ B5 _ hle5 ⟨q5,c5,l5,rfl,rfl,rfl,hv5⟩
 refine xW Zat (h:=xS [_] 2 [_,_,_,_,_] ZAP (h:=tL5 (Za (xW Zux (h:=xL [_,_] ZAY 0 (h:=xC ZBT rfl (ZpF _ _ ⟨x.queue.next,x.queue.items⟩ _ hi om2) (h:=?_)))))))
 rintro _ B6 _ hle6 ⟨q6,c6,l6,rfl,rfl,rfl,hv6⟩
 refine xW ZeS (h:=xS [_,_] 2 [_,_,_,_,_] Zu0 (h:=tL6 (Za (xL [_,_,_,_,_] Zcd 2 (h:=xS [_,_,_,_,_] 1 [_,_,_,_,_] ZcL (h:=tL6 (Zd ?_)))))))
 exact eN [3,4,5] rfl ⟨⟨_,rfl,.inr ⟨[_,_,_,_,_],Zcd,Zbw 1 rfl rfl rfl,rfl⟩⟩,trivial⟩ ⟨_,_,_,_,_,_,_,_,_,rfl,rfl,rfl,hv4,hv5,hv6⟩

theorem ZtI   (a b:DUser) (B:Kn)   : Zac (pj J) 111 [.agg #[str a.name,str a.pass,.int .i64 a.quota],.agg #[str b.name,str b.pass,.int .i64 b.quota]] B (.bool (decide (a=b))):=by
 refine cB 20 Tryz.func111 (h:=?_)
 refine Za (xBx [_,_,_] (h:=fun b1=>xBx [_,_,_] (h:=fun b2=>xA (h:=tL2 (Zc (Za (xW Zbi (h:=x1 lk9 0 (h:=xW Zbi (h:=x1 lk9 1 (h:=Zfy (h:=Zb rfl (fun g1=>?_) (fun g1=>?_)))))))))))))
 try simp only [sQ,ne_eq] at g1
 refine Za (xA (h:=Zd (Zm ?_)))
 exact eR t1 ⟨Ze (by symm;rw [decide_eq_false_iff_not];rintro rfl;exact g1 rfl),rfl,rfl⟩
 try simp only [sQ,ne_eq] at g1
 refine wSk (Zc (Za (xW ZfZ (h:=x1 lk9 0 (h:=xW ZfZ (h:=x1 lk9 1 (h:=Zfy (h:=Zb rfl (fun g2=>?_) (fun g2=>?_)))))))))
 try simp only [sQ,ne_eq] at g2
 refine Za (xA (h:=Zd (Zm ?_)))
 exact eR t1 ⟨Ze (by symm;rw [decide_eq_false_iff_not];rintro rfl;exact g2 rfl),rfl,rfl⟩
 try simp only [sQ,ne_eq] at g2
 refine wSk (Zc (Za (xW ZdD (h:=x1 lk3 0 (h:=xW ZdD (h:=x1 lk3 1 (h:=ZaH (h:=Zb rfl (fun g3=>?_) (fun g3=>?_)))))))))
 try simp only [sQ,ne_eq] at g3
 refine Za (xA (h:=Zd (Zm ?_)))
 exact eR t1 ⟨Ze (by symm;rw [decide_eq_false_iff_not];rintro rfl;exact g3 rfl),rfl,rfl⟩
 try simp only [sQ,ne_eq] at g3
 refine wSk (Za (xA (h:=Zd ?_)))
 exact eR t1 ⟨Ze (by symm;rw [decide_eq_true_eq];cases a;cases b;simp_all),rfl,rfl⟩

theorem Zrs   (a b:DGrant) (B:Kn)   : Zac (pj J) 236 [.agg #[str a.user,.int .i64 a.rights],.agg #[str b.user,.int .i64 b.rights]] B (.bool (decide (a=b))):=by
 refine cB 15 Tryz.func236 (h:=?_)
 refine Za (xBx [_,_] (h:=fun b1=>xBx [_,_] (h:=fun b2=>xA (h:=tL2 (Zc (Za (xW Zcz (h:=x1 lk9 0 (h:=xW Zcz (h:=x1 lk9 1 (h:=Zfy (h:=Zb rfl (fun g1=>?_) (fun g1=>?_)))))))))))))
 try simp only [sQ,ne_eq] at g1
 refine Za (xA (h:=Zd (Zm ?_)))
 exact eR t1 ⟨Ze (by symm;rw [decide_eq_false_iff_not];rintro rfl;exact g1 rfl),rfl,rfl⟩
 try simp only [sQ,ne_eq] at g1
 refine wSk (Zc (Za (xW ZdC (h:=x1 lk3 0 (h:=xW ZdC (h:=x1 lk3 1 (h:=ZaH (h:=Zb rfl (fun g2=>?_) (fun g2=>?_)))))))))
 try simp only [sQ,ne_eq] at g2
 refine Za (xA (h:=Zd (Zm ?_)))
 exact eR t1 ⟨Ze (by symm;rw [decide_eq_false_iff_not];rintro rfl;exact g2 rfl),rfl,rfl⟩
 try simp only [sQ,ne_eq] at g2
 refine wSk (Za (xA (h:=Zd ?_)))
 exact eR t1 ⟨Ze (by symm;rw [decide_eq_true_eq];cases a;cases b;simp_all),rfl,rfl⟩

theorem ZtK   (a b:DMail) (B:Kn)   : Zac (pj J) 273 [.agg #[.int .i64 a.uid,.int .i64 a.flags,str a.text],.agg #[.int .i64 b.uid,.int .i64 b.flags,str b.text]] B (.bool (decide (a=b))):=by
 refine cB 20 Tryz.func273 (h:=?_)
 refine Za (xBx [_,_,_] (h:=fun b1=>xBx [_,_,_] (h:=fun b2=>xA (h:=tL2 (Zc (Za (xW ZeR (h:=x1 lk3 0 (h:=xW ZeR (h:=x1 lk3 1 (h:=ZaH (h:=Zb rfl (fun g1=>?_) (fun g1=>?_)))))))))))))
 try simp only [sQ,ne_eq] at g1
 refine Za (xA (h:=Zd (Zm ?_)))
 exact eR t1 ⟨Ze (by symm;rw [decide_eq_false_iff_not];rintro rfl;exact g1 rfl),rfl,rfl⟩
 try simp only [sQ,ne_eq] at g1
 refine wSk (Zc (Za (xW Zgr (h:=x1 lk3 0 (h:=xW Zgr (h:=x1 lk3 1 (h:=ZaH (h:=Zb rfl (fun g2=>?_) (fun g2=>?_)))))))))
 try simp only [sQ,ne_eq] at g2
 refine Za (xA (h:=Zd (Zm ?_)))
 exact eR t1 ⟨Ze (by symm;rw [decide_eq_false_iff_not];rintro rfl;exact g2 rfl),rfl,rfl⟩
 try simp only [sQ,ne_eq] at g2
 refine wSk (Zc (Za (xW Zfa (h:=x1 lk9 0 (h:=xW Zfa (h:=x1 lk9 1 (h:=Zfy (h:=Zb rfl (fun g3=>?_) (fun g3=>?_)))))))))
 try simp only [sQ,ne_eq] at g3
 refine Za (xA (h:=Zd (Zm ?_)))
 exact eR t1 ⟨Ze (by symm;rw [decide_eq_false_iff_not];rintro rfl;exact g3 rfl),rfl,rfl⟩
 try simp only [sQ,ne_eq] at g3
 refine wSk (Za (xA (h:=Zd ?_)))
 exact eR t1 ⟨Ze (by symm;rw [decide_eq_true_eq];cases a;cases b;simp_all),rfl,rfl⟩

theorem ZtJ   (a b:DSpan) (B:Kn)   : Zac (pj J) 61 [.agg #[.int .i64 a.low,.int .i64 a.high],.agg #[.int .i64 b.low,.int .i64 b.high]] B (.bool (decide (a=b))):=by
 refine cB 15 Tryz.func61 (h:=?_)
 refine Za (xBx [_,_] (h:=fun b1=>xBx [_,_] (h:=fun b2=>xA (h:=tL2 (Zc (Za (xW Zhl (h:=x1 lk3 0 (h:=xW Zhl (h:=x1 lk3 1 (h:=ZaH (h:=Zb rfl (fun g1=>?_) (fun g1=>?_)))))))))))))
 try simp only [sQ,ne_eq] at g1
 refine Za (xA (h:=Zd (Zm ?_)))
 exact eR t1 ⟨Ze (by symm;rw [decide_eq_false_iff_not];rintro rfl;exact g1 rfl),rfl,rfl⟩
 try simp only [sQ,ne_eq] at g1
 refine wSk (Zc (Za (xW Zhk (h:=x1 lk3 0 (h:=xW Zhk (h:=x1 lk3 1 (h:=ZaH (h:=Zb rfl (fun g2=>?_) (fun g2=>?_)))))))))
 try simp only [sQ,ne_eq] at g2
 refine Za (xA (h:=Zd (Zm ?_)))
 exact eR t1 ⟨Ze (by symm;rw [decide_eq_false_iff_not];rintro rfl;exact g2 rfl),rfl,rfl⟩
 try simp only [sQ,ne_eq] at g2
 refine wSk (Za (xA (h:=Zd ?_)))
 exact eR t1 ⟨Ze (by symm;rw [decide_eq_true_eq];cases a;cases b;simp_all),rfl,rfl⟩

theorem Zro (q q':Option Addr) (cp cp':Nat) (xs ys:List DSpan) (B:Kn) (ha:SlK B q cp 2 Z1 xs) (hb:SlK B q' cp' 2 Z1 ys):Zac (pj J) 20 [.slice q xs.length cp,.slice q' ys.length cp'] B (.bool (decide (xs=ys))):=by
 refine cB 27 Tryz.func20 (h:=?_)
 have han:=ha.len
 have hbn:=hb.len
 refine Za (xA (h:=Zc (Za (xM (h:=xV Tryz.underlying41 (h:=xM (h:=xV Tryz.underlying41 (h:=ZaH (h:=Zb rfl (fun g1=>?_) (fun g1=>?_))))))))))
 try simp only [sQ,ne_eq] at g1
 refine Za (xA (h:=Zd (Zm ?_)))
 exact eR t1 ⟨Ze (Zf2 g1),rfl,rfl⟩
 try simp only [sQ,ne_eq] at g1
 refine wSk (Zc (Za (xA (h:=Zg (Zz (α:=Nat) [0,1,10] (fun k=>[(5,.int .i64 k)]) [] (fun k=>[]) (fun k Bx=>Bx=B∧k≤xs.length∧xs.take k=ys.take k) (fun k=>xs.length - k) 0 t1 rfl (⟨rfl,Nat.zero_le _,by simp⟩) (fun k B1 hle1 hI=>?_))))))
 obtain ⟨rfl,hk,he⟩:=hI
 refine ZD [(0,_),(1,_),(5,_),(10,_)] [] t4 rfl (Zc (Za (xM (h:=xM (h:=xV Tryz.underlying41 (h:=ZF (h:=Zb rfl (fun g2=>?_) (fun g2=>?_))))))))
 try simp only [sQ,ne_eq] at g2
 refine wSk (Zc (Zg (Zc (Z2 (same _ _) mo kr ⟨rfl,rfl⟩ (fun _ _=>?_)))))
 refine aM 0 rfl (h:=aM 1 rfl (h:=?_))
 obtain ⟨x,hx⟩:=ZY (xs:=xs) (i:=k) om
 obtain ⟨bb3,oo3,rfl⟩:=ha.base hx
 obtain ⟨_,rfl,hc4⟩:=ha.elem hx
 refine aIx 2 rfl Tryz.underlying41 Zl6 (h:=aT 3 rfl (Zae fun D=>ZW [_,_] rfl rfl Zwm rfl (Zkf hc4 0 rfl rfl) r4) (h:=aM 4 rfl (h:=aM 5 rfl (h:=?_))))
 obtain ⟨y,hy⟩:=ZY (xs:=ys) (i:=k) om
 obtain ⟨bb6,oo6,rfl⟩:=hb.base hy
 obtain ⟨_,rfl,hc7⟩:=hb.elem hy
 refine aIx 6 rfl Tryz.underlying41 Zl6 (h:=aT 7 rfl (Zae fun D=>ZW [_,_] rfl rfl Zwm rfl (Zkf hc7 0 rfl rfl) r4) (h:=aT 8 rfl (Zae fun D=>Z7 rfl rfl ZBO rfl (ZtJ x y _ ) r4) (h:=aN 9 rfl (h:=Zu kr kr ?_))))
 refine Zp (Zb rfl (fun g3=>?_) (fun g3=>?_))
 try simp only [sQ,ne_eq] at g3
 refine Za (xA (h:=Zd (ZB (Zm (ZM (ZB (Zm ?_)))))))
 exact eR t1 ⟨Ze (ZeK hx hy g3),rfl,rfl⟩
 try simp only [sQ,ne_eq] at g3
 refine ZS (ZK (Zp (Zf (xM (h:=xD (h:=xA (h:=?_)))))))
 exact ZC (k+1) [] so2 ⟨rfl,oz,Zbx hx hy g3 he⟩ t4 rfl
 try simp only [sQ,ne_eq] at g2
 refine ZE (ZV (ZG (Zt (Zp (Za (xA (h:=Zd ?_)))))))
 exact eR t1 ⟨Ze (eqT oz oz he),rfl,rfl⟩

theorem Zrn (q q':Option Addr) (cp cp':Nat) (xs ys:List DUser) (B:Kn) (ha:SlK B q cp 3 Zn xs) (hb:SlK B q' cp' 3 Zn ys):Zac (pj J) 58 [.slice q xs.length cp,.slice q' ys.length cp'] B (.bool (decide (xs=ys))):=by
 refine cB 27 Tryz.func58 (h:=?_)
 have han:=ha.len
 have hbn:=hb.len
 refine Za (xA (h:=Zc (Za (xM (h:=xV Tryz.underlying23 (h:=xM (h:=xV Tryz.underlying23 (h:=ZaH (h:=Zb rfl (fun g1=>?_) (fun g1=>?_))))))))))
 try simp only [sQ,ne_eq] at g1
 refine Za (xA (h:=Zd (Zm ?_)))
 exact eR t1 ⟨Ze (Zf2 g1),rfl,rfl⟩
 try simp only [sQ,ne_eq] at g1
 refine wSk (Zc (Za (xA (h:=Zg (Zz (α:=Nat) [0,1,10] (fun k=>[(5,.int .i64 k)]) [] (fun k=>[]) (fun k Bx=>Bx=B∧k≤xs.length∧xs.take k=ys.take k) (fun k=>xs.length - k) 0 t1 rfl (⟨rfl,Nat.zero_le _,by simp⟩) (fun k B1 hle1 hI=>?_))))))
 obtain ⟨rfl,hk,he⟩:=hI
 refine ZD [(0,_),(1,_),(5,_),(10,_)] [] t4 rfl (Zc (Za (xM (h:=xM (h:=xV Tryz.underlying23 (h:=ZF (h:=Zb rfl (fun g2=>?_) (fun g2=>?_))))))))
 try simp only [sQ,ne_eq] at g2
 refine wSk (Zc (Zg (Zc (Z2 (same _ _) mo kr ⟨rfl,rfl⟩ (fun _ _=>?_)))))
 refine aM 0 rfl (h:=aM 1 rfl (h:=?_))
 obtain ⟨x,hx⟩:=ZY (xs:=xs) (i:=k) om
 obtain ⟨bb3,oo3,rfl⟩:=ha.base hx
 obtain ⟨_,⟨rfl,hb4,hb4b⟩,hc4⟩:=ha.elem hx
 refine aIx 2 rfl Tryz.underlying23 Zbq (h:=aT 3 rfl (Zae fun D=>ZW [_,_,_] rfl rfl Zfv rfl (Zkf hc4 0 rfl rfl) r4) (h:=aM 4 rfl (h:=aM 5 rfl (h:=?_))))
 obtain ⟨y,hy⟩:=ZY (xs:=ys) (i:=k) om
 obtain ⟨bb6,oo6,rfl⟩:=hb.base hy
 obtain ⟨_,⟨rfl,hb7,hb7b⟩,hc7⟩:=hb.elem hy
 refine aIx 6 rfl Tryz.underlying23 Zbq (h:=aT 7 rfl (Zae fun D=>ZW [_,_,_] rfl rfl Zfv rfl (Zkf hc7 0 rfl rfl) r4) (h:=aT 8 rfl (Zae fun D=>Z7 rfl rfl ZAD rfl (ZtI x y _ ) r4) (h:=aN 9 rfl (h:=Zu kr kr ?_))))
 refine Zp (Zb rfl (fun g3=>?_) (fun g3=>?_))
 try simp only [sQ,ne_eq] at g3
 refine Za (xA (h:=Zd (ZB (Zm (ZM (ZB (Zm ?_)))))))
 exact eR t1 ⟨Ze (ZeK hx hy g3),rfl,rfl⟩
 try simp only [sQ,ne_eq] at g3
 refine ZS (ZK (Zp (Zf (xM (h:=xD (h:=xA (h:=?_)))))))
 exact ZC (k+1) [] so2 ⟨rfl,oz,Zbx hx hy g3 he⟩ t4 rfl
 try simp only [sQ,ne_eq] at g2
 refine ZE (ZV (ZG (Zt (Zp (Za (xA (h:=Zd ?_)))))))
 exact eR t1 ⟨Ze (eqT oz oz he),rfl,rfl⟩

theorem ZoW (q q':Option Addr) (cp cp':Nat) (xs ys:List DGrant) (B:Kn) (ha:SlK B q cp 2 Z8 xs) (hb:SlK B q' cp' 2 Z8 ys):Zac (pj J) 176 [.slice q xs.length cp,.slice q' ys.length cp'] B (.bool (decide (xs=ys))):=by
 refine cB 27 Tryz.func176 (h:=?_)
 have han:=ha.len
 have hbn:=hb.len
 refine Za (xA (h:=Zc (Za (xM (h:=xV Tryz.underlying94 (h:=xM (h:=xV Tryz.underlying94 (h:=ZaH (h:=Zb rfl (fun g1=>?_) (fun g1=>?_))))))))))
 try simp only [sQ,ne_eq] at g1
 refine Za (xA (h:=Zd (Zm ?_)))
 exact eR t1 ⟨Ze (Zf2 g1),rfl,rfl⟩
 try simp only [sQ,ne_eq] at g1
 refine wSk (Zc (Za (xA (h:=Zg (Zz (α:=Nat) [0,1,10] (fun k=>[(5,.int .i64 k)]) [] (fun k=>[]) (fun k Bx=>Bx=B∧k≤xs.length∧xs.take k=ys.take k) (fun k=>xs.length - k) 0 t1 rfl (⟨rfl,Nat.zero_le _,by simp⟩) (fun k B1 hle1 hI=>?_))))))
 obtain ⟨rfl,hk,he⟩:=hI
 refine ZD [(0,_),(1,_),(5,_),(10,_)] [] t4 rfl (Zc (Za (xM (h:=xM (h:=xV Tryz.underlying94 (h:=ZF (h:=Zb rfl (fun g2=>?_) (fun g2=>?_))))))))
 try simp only [sQ,ne_eq] at g2
 refine wSk (Zc (Zg (Zc (Z2 (same _ _) mo kr ⟨rfl,rfl⟩ (fun _ _=>?_)))))
 refine aM 0 rfl (h:=aM 1 rfl (h:=?_))
 obtain ⟨x,hx⟩:=ZY (xs:=xs) (i:=k) om
 obtain ⟨bb3,oo3,rfl⟩:=ha.base hx
 obtain ⟨_,⟨rfl,hb4⟩,hc4⟩:=ha.elem hx
 refine aIx 2 rfl Tryz.underlying94 Zd0 (h:=aT 3 rfl (Zae fun D=>ZW [_,_] rfl rfl ZqA rfl (Zkf hc4 0 rfl rfl) r4) (h:=aM 4 rfl (h:=aM 5 rfl (h:=?_))))
 obtain ⟨y,hy⟩:=ZY (xs:=ys) (i:=k) om
 obtain ⟨bb6,oo6,rfl⟩:=hb.base hy
 obtain ⟨_,⟨rfl,hb7⟩,hc7⟩:=hb.elem hy
 refine aIx 6 rfl Tryz.underlying94 Zd0 (h:=aT 7 rfl (Zae fun D=>ZW [_,_] rfl rfl ZqA rfl (Zkf hc7 0 rfl rfl) r4) (h:=aT 8 rfl (Zae fun D=>Z7 rfl rfl Zzx rfl (Zrs x y _ ) r4) (h:=aN 9 rfl (h:=Zu kr kr ?_))))
 refine Zp (Zb rfl (fun g3=>?_) (fun g3=>?_))
 try simp only [sQ,ne_eq] at g3
 refine Za (xA (h:=Zd (ZB (Zm (ZM (ZB (Zm ?_)))))))
 exact eR t1 ⟨Ze (ZeK hx hy g3),rfl,rfl⟩
 try simp only [sQ,ne_eq] at g3
 refine ZS (ZK (Zp (Zf (xM (h:=xD (h:=xA (h:=?_)))))))
 exact ZC (k+1) [] so2 ⟨rfl,oz,Zbx hx hy g3 he⟩ t4 rfl
 try simp only [sQ,ne_eq] at g2
 refine ZE (ZV (ZG (Zt (Zp (Za (xA (h:=Zd ?_)))))))
 exact eR t1 ⟨Ze (eqT oz oz he),rfl,rfl⟩

theorem Zrq (q q':Option Addr) (cp cp':Nat) (xs ys:List DMail) (B:Kn) (ha:SlK B q cp 3 Z5 xs) (hb:SlK B q' cp' 3 Z5 ys):Zac (pj J) 237 [.slice q xs.length cp,.slice q' ys.length cp'] B (.bool (decide (xs=ys))):=by
 refine cB 27 Tryz.func237 (h:=?_)
 have han:=ha.len
 have hbn:=hb.len
 refine Za (xA (h:=Zc (Za (xM (h:=xV Tryz.underlying91 (h:=xM (h:=xV Tryz.underlying91 (h:=ZaH (h:=Zb rfl (fun g1=>?_) (fun g1=>?_))))))))))
 try simp only [sQ,ne_eq] at g1
 refine Za (xA (h:=Zd (Zm ?_)))
 exact eR t1 ⟨Ze (Zf2 g1),rfl,rfl⟩
 try simp only [sQ,ne_eq] at g1
 refine wSk (Zc (Za (xA (h:=Zg (Zz (α:=Nat) [0,1,10] (fun k=>[(5,.int .i64 k)]) [] (fun k=>[]) (fun k Bx=>Bx=B∧k≤xs.length∧xs.take k=ys.take k) (fun k=>xs.length - k) 0 t1 rfl (⟨rfl,Nat.zero_le _,by simp⟩) (fun k B1 hle1 hI=>?_))))))
 obtain ⟨rfl,hk,he⟩:=hI
 refine ZD [(0,_),(1,_),(5,_),(10,_)] [] t4 rfl (Zc (Za (xM (h:=xM (h:=xV Tryz.underlying91 (h:=ZF (h:=Zb rfl (fun g2=>?_) (fun g2=>?_))))))))
 try simp only [sQ,ne_eq] at g2
 refine wSk (Zc (Zg (Zc (Z2 (same _ _) mo kr ⟨rfl,rfl⟩ (fun _ _=>?_)))))
 refine aM 0 rfl (h:=aM 1 rfl (h:=?_))
 obtain ⟨x,hx⟩:=ZY (xs:=xs) (i:=k) om
 obtain ⟨bb3,oo3,rfl⟩:=ha.base hx
 obtain ⟨_,⟨rfl,hb4⟩,hc4⟩:=ha.elem hx
 refine aIx 2 rfl Tryz.underlying91 Zgg (h:=aT 3 rfl (Zae fun D=>ZW [_,_,_] rfl rfl ZmA rfl (Zkf hc4 0 rfl rfl) r4) (h:=aM 4 rfl (h:=aM 5 rfl (h:=?_))))
 obtain ⟨y,hy⟩:=ZY (xs:=ys) (i:=k) om
 obtain ⟨bb6,oo6,rfl⟩:=hb.base hy
 obtain ⟨_,⟨rfl,hb7⟩,hc7⟩:=hb.elem hy
 refine aIx 6 rfl Tryz.underlying91 Zgg (h:=aT 7 rfl (Zae fun D=>ZW [_,_,_] rfl rfl ZmA rfl (Zkf hc7 0 rfl rfl) r4) (h:=aT 8 rfl (Zae fun D=>Z7 rfl rfl Zzg rfl (ZtK x y _ ) r4) (h:=aN 9 rfl (h:=Zu kr kr ?_))))
 refine Zp (Zb rfl (fun g3=>?_) (fun g3=>?_))
 try simp only [sQ,ne_eq] at g3
 refine Za (xA (h:=Zd (ZB (Zm (ZM (ZB (Zm ?_)))))))
 exact eR t1 ⟨Ze (ZeK hx hy g3),rfl,rfl⟩
 try simp only [sQ,ne_eq] at g3
 refine ZS (ZK (Zp (Zf (xM (h:=xD (h:=xA (h:=?_)))))))
 exact ZC (k+1) [] so2 ⟨rfl,oz,Zbx hx hy g3 he⟩ t4 rfl
 try simp only [sQ,ne_eq] at g2
 refine ZE (ZV (ZG (Zt (Zp (Za (xA (h:=Zd ?_)))))))
 exact eR t1 ⟨Ze (eqT oz oz he),rfl,rfl⟩

theorem ZtL (q1:Option Addr) (cp1:Nat) (q2:Option Addr) (cp2:Nat) (a b:DItem) (B:Kn) (h1:SlK B q1 cp1 1 ZdM a.left) (h2:SlK B q2 cp2 1 ZdM b.left):Zac (pj J) 178 [.agg #[.int .i64 a.id,str a.fr,str a.text,.slice q1 a.left.length cp1],.agg #[.int .i64 b.id,str b.fr,str b.text,.slice q2 b.left.length cp2]] B (.bool (decide (a=b))):=by
 refine cB 26 Tryz.func178 (h:=?_)
 refine Za (xBx [_,_,_,_] (h:=fun b1=>xBx [_,_,_,_] (h:=fun b2=>xA (h:=tL2 (Zc (Za (xW ZeF (h:=x1 lk3 0 (h:=xW ZeF (h:=x1 lk3 1 (h:=ZaH (h:=Zb rfl (fun g1=>?_) (fun g1=>?_)))))))))))))
 try simp only [sQ,ne_eq] at g1
 refine Za (xA (h:=Zd (Zm ?_)))
 exact eR t1 ⟨Ze (by symm;rw [decide_eq_false_iff_not];rintro rfl;exact g1 rfl),rfl,rfl⟩
 try simp only [sQ,ne_eq] at g1
 refine wSk (Zc (Za (xW ZeE (h:=x1 lk9 0 (h:=xW ZeE (h:=x1 lk9 1 (h:=Zfy (h:=Zb rfl (fun g2=>?_) (fun g2=>?_)))))))))
 try simp only [sQ,ne_eq] at g2
 refine Za (xA (h:=Zd (Zm ?_)))
 exact eR t1 ⟨Ze (by symm;rw [decide_eq_false_iff_not];rintro rfl;exact g2 rfl),rfl,rfl⟩
 try simp only [sQ,ne_eq] at g2
 refine wSk (Zc (Za (xW ZfY (h:=x1 lk9 0 (h:=xW ZfY (h:=x1 lk9 1 (h:=Zfy (h:=Zb rfl (fun g3=>?_) (fun g3=>?_)))))))))
 try simp only [sQ,ne_eq] at g3
 refine Za (xA (h:=Zd (Zm ?_)))
 exact eR t1 ⟨Ze (by symm;rw [decide_eq_false_iff_not];rintro rfl;exact g3 rfl),rfl,rfl⟩
 try simp only [sQ,ne_eq] at g3
 refine wSk (Zc (Za (xW ZcQ (h:=x1 ZfV 0 (h:=xW ZcQ (h:=x1 ZfV 1 (h:=xR Zzv rfl (ZmV _ _ _ _ _ _ _ h1 h2) (h:=xN (h:=Zb rfl (fun g4=>?_) (fun g4=>?_))))))))))
 try simp only [sQ,ne_eq] at g4
 refine Za (xA (h:=Zd (Zm ?_)))
 exact eR t1 ⟨Ze (by symm;rw [decide_eq_false_iff_not];rintro rfl;exact g4 rfl),rfl,rfl⟩
 try simp only [sQ,ne_eq] at g4
 refine wSk (Za (xA (h:=Zd ?_)))
 exact eR t1 ⟨Ze (by symm;rw [decide_eq_true_eq];cases a;cases b;simp_all),rfl,rfl⟩

theorem Zrr (q q':Option Addr) (cp cp':Nat) (xs ys:List DItem) (B:Kn) (ha:SlK B q cp 4 Zy xs) (hb:SlK B q' cp' 4 Zy ys):Zac (pj J) 113 [.slice q xs.length cp,.slice q' ys.length cp'] B (.bool (decide (xs=ys))):=by
 refine cB 27 Tryz.func113 (h:=?_)
 have han:=ha.len
 have hbn:=hb.len
 refine Za (xA (h:=Zc (Za (xM (h:=xV Tryz.underlying25 (h:=xM (h:=xV Tryz.underlying25 (h:=ZaH (h:=Zb rfl (fun g1=>?_) (fun g1=>?_))))))))))
 try simp only [sQ,ne_eq] at g1
 refine Za (xA (h:=Zd (Zm ?_)))
 exact eR t1 ⟨Ze (Zf2 g1),rfl,rfl⟩
 try simp only [sQ,ne_eq] at g1
 refine wSk (Zc (Za (xA (h:=Zg (Zz (α:=Nat) [0,1,10] (fun k=>[(5,.int .i64 k)]) [] (fun k=>[]) (fun k Bx=>Bx=B∧k≤xs.length∧xs.take k=ys.take k) (fun k=>xs.length - k) 0 t1 rfl (⟨rfl,Nat.zero_le _,by simp⟩) (fun k B1 hle1 hI=>?_))))))
 obtain ⟨rfl,hk,he⟩:=hI
 refine ZD [(0,_),(1,_),(5,_),(10,_)] [] t4 rfl (Zc (Za (xM (h:=xM (h:=xV Tryz.underlying25 (h:=ZF (h:=Zb rfl (fun g2=>?_) (fun g2=>?_))))))))
 try simp only [sQ,ne_eq] at g2
 refine wSk (Zc (Zg (Zc (Z2 (same _ _) mo kr ⟨rfl,rfl⟩ (fun _ _=>?_)))))
 refine aM 0 rfl (h:=aM 1 rfl (h:=?_))
 obtain ⟨x,hx⟩:=ZY (xs:=xs) (i:=k) om
 obtain ⟨bb3,oo3,rfl⟩:=ha.base hx
 obtain ⟨_,⟨qi4,ci4,rfl,hi4,hb4,hb4b⟩,hc4⟩:=ha.elem hx
 have hi4n:=hi4.len
 refine aIx 2 rfl Tryz.underlying25 ZbC (h:=aT 3 rfl (Zae fun D=>ZW [_,_,_,_] rfl rfl Ze1 rfl (Zkf hc4 0 rfl rfl) r4) (h:=aM 4 rfl (h:=aM 5 rfl (h:=?_))))
 obtain ⟨y,hy⟩:=ZY (xs:=ys) (i:=k) om
 obtain ⟨bb6,oo6,rfl⟩:=hb.base hy
 obtain ⟨_,⟨qi7,ci7,rfl,hi7,hb7,hb7b⟩,hc7⟩:=hb.elem hy
 have hi7n:=hi7.len
 refine aIx 6 rfl Tryz.underlying25 ZbC (h:=aT 7 rfl (Zae fun D=>ZW [_,_,_,_] rfl rfl Ze1 rfl (Zkf hc7 0 rfl rfl) r4) (h:=aT 8 rfl (Zae fun D=>Z7 rfl rfl ZzU rfl (ZtL _ _ _ _ x y _ hi4 hi7) r4) (h:=aN 9 rfl (h:=Zu kr kr ?_))))
 refine Zp (Zb rfl (fun g3=>?_) (fun g3=>?_))
 try simp only [sQ,ne_eq] at g3
 refine Za (xA (h:=Zd (ZB (Zm (ZM (ZB (Zm ?_)))))))
 exact eR t1 ⟨Ze (ZeK hx hy g3),rfl,rfl⟩
 try simp only [sQ,ne_eq] at g3
 refine ZS (ZK (Zp (Zf (xM (h:=xD (h:=xA (h:=?_)))))))
 exact ZC (k+1) [] so2 ⟨rfl,oz,Zbx hx hy g3 he⟩ t4 rfl
 try simp only [sQ,ne_eq] at g2
 refine ZE (ZV (ZG (Zt (Zp (Za (xA (h:=Zd ?_)))))))
 exact eR t1 ⟨Ze (eqT oz oz he),rfl,rfl⟩

theorem Zrp (q1:Option Addr) (cp1:Nat) (q2:Option Addr) (cp2:Nat) (a b:DQueue) (B:Kn) (h1:SlK B q1 cp1 4 Zy a.items) (h2:SlK B q2 cp2 4 Zy b.items):Zac (pj J) 60 [.agg #[.int .i64 a.next,.slice q1 a.items.length cp1],.agg #[.int .i64 b.next,.slice q2 b.items.length cp2]] B (.bool (decide (a=b))):=by
 refine cB 16 Tryz.func60 (h:=?_)
 refine Za (xBx [_,_] (h:=fun b1=>xBx [_,_] (h:=fun b2=>xA (h:=tL2 (Zc (Za (xW Zgs (h:=x1 lk3 0 (h:=xW Zgs (h:=x1 lk3 1 (h:=ZaH (h:=Zb rfl (fun g1=>?_) (fun g1=>?_)))))))))))))
 try simp only [sQ,ne_eq] at g1
 refine Za (xA (h:=Zd (Zm ?_)))
 exact eR t1 ⟨Ze (by symm;rw [decide_eq_false_iff_not];rintro rfl;exact g1 rfl),rfl,rfl⟩
 try simp only [sQ,ne_eq] at g1
 refine wSk (Zc (Za (xW ZbX (h:=x1 Zi5 0 (h:=xW ZbX (h:=x1 Zi5 1 (h:=xR ZAB rfl (Zrr _ _ _ _ _ _ _ h1 h2) (h:=xN (h:=Zb rfl (fun g2=>?_) (fun g2=>?_))))))))))
 try simp only [sQ,ne_eq] at g2
 refine Za (xA (h:=Zd (Zm ?_)))
 exact eR t1 ⟨Ze (by symm;rw [decide_eq_false_iff_not];rintro rfl;exact g2 rfl),rfl,rfl⟩
 try simp only [sQ,ne_eq] at g2
 refine wSk (Za (xA (h:=Zd ?_)))
 exact eR t1 ⟨Ze (by symm;rw [decide_eq_true_eq];cases a;cases b;simp_all),rfl,rfl⟩

theorem ZvW (q1:Option Addr) (cp1:Nat) (q2:Option Addr) (cp2:Nat) (a b:DBox) (B:Kn) (h1:SlK B q1 cp1 3 Z5 a.mail) (h2:SlK B q2 cp2 3 Z5 b.mail):Zac (pj J) 177 [.agg #[.int .i64 a.next,.slice q1 a.mail.length cp1],.agg #[.int .i64 b.next,.slice q2 b.mail.length cp2]] B (.bool (decide (a=b))):=by
 refine cB 16 Tryz.func177 (h:=?_)
 refine Za (xBx [_,_] (h:=fun b1=>xBx [_,_] (h:=fun b2=>xA (h:=tL2 (Zc (Za (xW Zda (h:=x1 lk3 0 (h:=xW Zda (h:=x1 lk3 1 (h:=ZaH (h:=Zb rfl (fun g1=>?_) (fun g1=>?_)))))))))))))
 try simp only [sQ,ne_eq] at g1
 refine Za (xA (h:=Zd (Zm ?_)))
 exact eR t1 ⟨Ze (by symm;rw [decide_eq_false_iff_not];rintro rfl;exact g1 rfl),rfl,rfl⟩
 try simp only [sQ,ne_eq] at g1
 refine wSk (Zc (Za (xW Zbc (h:=x1 Zh1 0 (h:=xW Zbc (h:=x1 Zh1 1 (h:=xR Zzw rfl (Zrq _ _ _ _ _ _ _ h1 h2) (h:=xN (h:=Zb rfl (fun g2=>?_) (fun g2=>?_))))))))))
 try simp only [sQ,ne_eq] at g2
 refine Za (xA (h:=Zd (Zm ?_)))
 exact eR t1 ⟨Ze (by symm;rw [decide_eq_false_iff_not];rintro rfl;exact g2 rfl),rfl,rfl⟩
 try simp only [sQ,ne_eq] at g2
 refine wSk (Za (xA (h:=Zd ?_)))
 exact eR t1 ⟨Ze (by symm;rw [decide_eq_true_eq];cases a;cases b;simp_all),rfl,rfl⟩

theorem ZoX (qa1 qb1:Option Addr) (ca1 cb1:Nat) (qa2 qb2:Option Addr) (ca2 cb2:Nat) (a b:DFolder) (B:Kn) (hg1:SlK B qa1 ca1 2 Z8 a.grants) (hm1:SlK B qb1 cb1 3 Z5 a.mail) (hg2:SlK B qa2 ca2 2 Z8 b.grants) (hm2:SlK B qb2 cb2 3 Z5 b.mail):Zac (pj J) 112 [.agg #[str a.owner,str a.name,.slice qa1 a.grants.length ca1,.int .i64 a.next,.slice qb1 a.mail.length cb1],.agg #[str b.owner,str b.name,.slice qa2 b.grants.length ca2,.int .i64 b.next,.slice qb2 b.mail.length cb2]] B (.bool (decide (a=b))):=by
 refine cB 27 Tryz.func112 (h:=?_)
 refine Za (xBx [_,_,_,_,_] (h:=fun b1=>xBx [_,_,_,_,_] (h:=fun b2=>xA (h:=tL2 (Zc (Za (xW ZbW (h:=x1 lk9 0 (h:=xW ZbW (h:=x1 lk9 1 (h:=Zfy (h:=Zb rfl (fun g1=>?_) (fun g1=>?_)))))))))))))
 try simp only [sQ,ne_eq] at g1
 refine Za (xA (h:=Zd (Zm ?_)))
 exact eR t1 ⟨Ze (by symm;rw [decide_eq_false_iff_not];rintro rfl;exact g1 rfl),rfl,rfl⟩
 try simp only [sQ,ne_eq] at g1
 refine wSk (Zc (Za (xW Zeh (h:=x1 lk9 0 (h:=xW Zeh (h:=x1 lk9 1 (h:=Zfy (h:=Zb rfl (fun g2=>?_) (fun g2=>?_)))))))))
 try simp only [sQ,ne_eq] at g2
 refine Za (xA (h:=Zd (Zm ?_)))
 exact eR t1 ⟨Ze (by symm;rw [decide_eq_false_iff_not];rintro rfl;exact g2 rfl),rfl,rfl⟩
 try simp only [sQ,ne_eq] at g2
 refine wSk (Zc (Za (xW Zeg (h:=x1 Zr2 0 (h:=xW Zeg (h:=x1 Zr2 1 (h:=xR ZzW rfl (ZoW _ _ _ _ _ _ _ hg1 hg2) (h:=xN (h:=Zb rfl (fun g3=>?_) (fun g3=>?_))))))))))
 try simp only [sQ,ne_eq] at g3
 refine Za (xA (h:=Zd (Zm ?_)))
 exact eR t1 ⟨Ze (by symm;rw [decide_eq_false_iff_not];rintro rfl;exact g3 rfl),rfl,rfl⟩
 try simp only [sQ,ne_eq] at g3
 refine wSk (Zc (Za (xW Zbv (h:=xL [_,_] Zfl 0 (h:=xW Zbv (h:=xL [_,_] Zfl 1 (h:=xR ZzV rfl (ZvW _ _ _ _ (⟨a.next,a.mail⟩:DBox) (⟨b.next,b.mail⟩:DBox) _ hm1 hm2) (h:=xN (h:=Zb rfl (fun g4=>?_) (fun g4=>?_))))))))))
 try simp only [sQ,ne_eq] at g4
 refine Za (xA (h:=Zd (Zm ?_)))
 exact eR t1 ⟨Ze (by symm;rw [decide_eq_false_iff_not];rintro rfl;exact g4 rfl),rfl,rfl⟩
 try simp only [sQ,ne_eq] at g4
 refine wSk (Za (xA (h:=Zd ?_)))
 exact eR t1 ⟨Ze (by symm;rw [decide_eq_true_eq];cases a;cases b;simp_all),rfl,rfl⟩

theorem ZmW (q q':Option Addr) (cp cp':Nat) (xs ys:List DFolder) (B:Kn) (ha:SlK B q cp 5 Zk xs) (hb:SlK B q' cp' 5 Zk ys):Zac (pj J) 59 [.slice q xs.length cp,.slice q' ys.length cp'] B (.bool (decide (xs=ys))):=by
 refine cB 27 Tryz.func59 (h:=?_)
 have han:=ha.len
 have hbn:=hb.len
 refine Za (xA (h:=Zc (Za (xM (h:=xV Tryz.underlying24 (h:=xM (h:=xV Tryz.underlying24 (h:=ZaH (h:=Zb rfl (fun g1=>?_) (fun g1=>?_))))))))))
 try simp only [sQ,ne_eq] at g1
 refine Za (xA (h:=Zd (Zm ?_)))
 exact eR t1 ⟨Ze (Zf2 g1),rfl,rfl⟩
 try simp only [sQ,ne_eq] at g1
 refine wSk (Zc (Za (xA (h:=Zg (Zz (α:=Nat) [0,1,10] (fun k=>[(5,.int .i64 k)]) [] (fun k=>[]) (fun k Bx=>Bx=B∧k≤xs.length∧xs.take k=ys.take k) (fun k=>xs.length - k) 0 t1 rfl (⟨rfl,Nat.zero_le _,by simp⟩) (fun k B1 hle1 hI=>?_))))))
 obtain ⟨rfl,hk,he⟩:=hI
 refine ZD [(0,_),(1,_),(5,_),(10,_)] [] t4 rfl (Zc (Za (xM (h:=xM (h:=xV Tryz.underlying24 (h:=ZF (h:=Zb rfl (fun g2=>?_) (fun g2=>?_))))))))
 try simp only [sQ,ne_eq] at g2
 refine wSk (Zc (Zg (Zc (Z2 (same _ _) mo kr ⟨rfl,rfl⟩ (fun _ _=>?_)))))
 refine aM 0 rfl (h:=aM 1 rfl (h:=?_))
 obtain ⟨x,hx⟩:=ZY (xs:=xs) (i:=k) om
 obtain ⟨bb3,oo3,rfl⟩:=ha.base hx
 obtain ⟨_,⟨qg4,cg4,qm4,cm4,rfl,hg4,hm4,hb4,hb4b⟩,hc4⟩:=ha.elem hx
 have hg4n:=hg4.len
 have hm4n:=hm4.len
 have hm4s:=Zao hm4
 refine aIx 2 rfl Tryz.underlying24 ZbM (h:=aT 3 rfl (Zae fun D=>ZW [_,_,_,_,_] rfl rfl ZiB rfl (Zkf hc4 0 rfl rfl) r4) (h:=aM 4 rfl (h:=aM 5 rfl (h:=?_))))
 obtain ⟨y,hy⟩:=ZY (xs:=ys) (i:=k) om
 obtain ⟨bb6,oo6,rfl⟩:=hb.base hy
 obtain ⟨_,⟨qg7,cg7,qm7,cm7,rfl,hg7,hm7,hb7,hb7b⟩,hc7⟩:=hb.elem hy
 have hg7n:=hg7.len
 have hm7n:=hm7.len
 have hm7s:=Zao hm7
 refine aIx 6 rfl Tryz.underlying24 ZbM (h:=aT 7 rfl (Zae fun D=>ZW [_,_,_,_,_] rfl rfl ZiB rfl (Zkf hc7 0 rfl rfl) r4) (h:=aT 8 rfl (Zae fun D=>Z7 rfl rfl ZAC rfl (ZoX _ _ _ _ _ _ _ _ x y _ hg4 hm4 hg7 hm7) r4) (h:=aN 9 rfl (h:=Zu kr kr ?_))))
 refine Zp (Zb rfl (fun g3=>?_) (fun g3=>?_))
 try simp only [sQ,ne_eq] at g3
 refine Za (xA (h:=Zd (ZB (Zm (ZM (ZB (Zm ?_)))))))
 exact eR t1 ⟨Ze (ZeK hx hy g3),rfl,rfl⟩
 try simp only [sQ,ne_eq] at g3
 refine ZS (ZK (Zp (Zf (xM (h:=xD (h:=xA (h:=?_)))))))
 exact ZC (k+1) [] so2 ⟨rfl,oz,Zbx hx hy g3 he⟩ t4 rfl
 try simp only [sQ,ne_eq] at g2
 refine ZE (ZV (ZG (Zt (Zp (Za (xA (h:=Zd ?_)))))))
 exact eR t1 ⟨Ze (eqT oz oz he),rfl,rfl⟩

theorem Zhz (qa1 qb1 qc1:Option Addr) (ca1 cb1 cc1:Nat) (qa2 qb2 qc2:Option Addr) (ca2 cb2 cc2:Nat) (a b:DHost) (B:Kn) (hu1:SlK B qa1 ca1 3 Zn a.users) (hf1:SlK B qb1 cb1 5 Zk a.folders) (hi1:SlK B qc1 cc1 4 Zy a.queue.items) (hu2:SlK B qa2 ca2 3 Zn b.users) (hf2:SlK B qb2 cb2 5 Zk b.folders) (hi2:SlK B qc2 cc2 4 Zy b.queue.items):Zac (pj J) 19 [.agg #[str a.domain,.slice qa1 a.users.length ca1,.slice qb1 a.folders.length cb1,.int .i64 a.queue.next,.slice qc1 a.queue.items.length cc1],.agg #[str b.domain,.slice qa2 b.users.length ca2,.slice qb2 b.folders.length cb2,.int .i64 b.queue.next,.slice qc2 b.queue.items.length cc2]] B (.bool (decide (a=b))):=by
 refine cB 28 Tryz.func19 (h:=?_)
 refine Za (xBx [_,_,_,_,_] (h:=fun b1=>xBx [_,_,_,_,_] (h:=fun b2=>xA (h:=tL2 (Zc (Za (xW Zif (h:=x1 lk9 0 (h:=xW Zif (h:=x1 lk9 1 (h:=Zfy (h:=Zb rfl (fun g1=>?_) (fun g1=>?_)))))))))))))
 try simp only [sQ,ne_eq] at g1
 refine Za (xA (h:=Zd (Zm ?_)))
 exact eR t1 ⟨Ze (by symm;rw [decide_eq_false_iff_not];rintro rfl;exact g1 rfl),rfl,rfl⟩
 try simp only [sQ,ne_eq] at g1
 refine wSk (Zc (Za (xW ZbL (h:=x1 ZiE 0 (h:=xW ZbL (h:=x1 ZiE 1 (h:=xR ZBR rfl (Zrn _ _ _ _ _ _ _ hu1 hu2) (h:=xN (h:=Zb rfl (fun g2=>?_) (fun g2=>?_))))))))))
 try simp only [sQ,ne_eq] at g2
 refine Za (xA (h:=Zd (Zm ?_)))
 exact eR t1 ⟨Ze (by symm;rw [decide_eq_false_iff_not];rintro rfl;exact g2 rfl),rfl,rfl⟩
 try simp only [sQ,ne_eq] at g2
 refine wSk (Zc (Za (xW Zat (h:=x1 ZeB 0 (h:=xW Zat (h:=x1 ZeB 1 (h:=xR ZBQ rfl (ZmW _ _ _ _ _ _ _ hf1 hf2) (h:=xN (h:=Zb rfl (fun g3=>?_) (fun g3=>?_))))))))))
 try simp only [sQ,ne_eq] at g3
 refine Za (xA (h:=Zd (Zm ?_)))
 exact eR t1 ⟨Ze (by symm;rw [decide_eq_false_iff_not];rintro rfl;exact g3 rfl),rfl,rfl⟩
 try simp only [sQ,ne_eq] at g3
 refine wSk (Zc (Za (xW ZeS (h:=xL [_,_] ZlS 0 (h:=xW ZeS (h:=xL [_,_] ZlS 1 (h:=xR ZBP rfl (Zrp _ _ _ _ a.queue b.queue _ hi1 hi2) (h:=xN (h:=Zb rfl (fun g4=>?_) (fun g4=>?_))))))))))
 try simp only [sQ,ne_eq] at g4
 refine Za (xA (h:=Zd (Zm ?_)))
 exact eR t1 ⟨Ze (by symm;rw [decide_eq_false_iff_not];rintro rfl;exact g4 rfl),rfl,rfl⟩
 try simp only [sQ,ne_eq] at g4
 refine wSk (Za (xA (h:=Zd ?_)))
 exact eR t1 ⟨Ze (by symm;rw [decide_eq_true_eq];cases a;cases b;simp_all),rfl,rfl⟩

theorem Zg3 (q:Option Addr) (cp:Nat) (x:DBox) (B:Kn) (hm:SlK B q cp 3 Z5 x.mail):Zv (pj J) 188 [.agg #[.int .i64 x.next,.slice q x.mail.length cp]] B [] (fun v B' Ls=>B'=B∧∃l a c,Ls=[l]∧v = .agg #[.int .i64 x.next,.slice a x.mail.length c]∧ZT B l a c 99 3 Z5 x.mail):=by
 refine cB 10 Tryz.func188 (h:=?_)
 have hxn:=hm.len
 refine Za (xBx [_,_] (h:=fun b1=>xAl [_,_] Zpc (h:=fun b2=>tL2 (Zc (Z2 (keeps _ [0] _) mo kr ⟨Kn.le.refl _,Za6.refl _ _⟩ (fun _ _=>?_))))))
 refine aW 0 rfl Zda (h:=aT 1 rfl (ZO fun D B L hI=>Zo rfl rfl lk3 rfl (atL 0 (hI.2.1.trans rfl) rfl rfl) r4) (h:=aW 3 rfl Zbc (h:=aT 4 rfl (ZO fun D B L hI=>Zo rfl rfl Zh1 rfl (atL 0 (hI.2.1.trans rfl) rfl rfl) r4) (h:=ZA 2 kr rfl kr (ZJ (parts:=[]) [] rfl rfl Tryz.underlying91 Zgg ZlU rfl rfl rfl rfl rfl (fun b3=>?_))))))
 refine ⟨⟨Kn.le.refl _,t1⟩,(ZA 5 kr rfl kr (ZcC (R:=Z5) 2 rfl (ZT.lit0 (R:=Z5)) rfl rfl rfl Zwn Zx3 rfl rfl rfl hm.rows Z5.one rfl om (fun l4 p4 c4 hv4=>?_)))⟩
 refine ⟨⟨Kn.le.refl _,t1⟩,(aT 6 rfl (ZO fun D B L hI=>Zaq (parts:=[(0,_),(1,_)]) [_,_] [_,_] rfl rfl ZAW Zpc rfl rfl rfl r4) (h:=Zag 7 kr rfl kr kr kr (ZL [_,_] 1 [_,_] rfl rfl Zjr rfl rfl rfl rfl rfl rfl rfl rfl ?_)))⟩
 refine Zp (tL3 (Zd ?_))
 exact eN [2] rfl ⟨⟨_,rfl,.inr ⟨[_,_],Zfl,Zbw 1 rfl rfl rfl,rfl⟩⟩,trivial⟩ ⟨rfl,_,_,_,rfl,rfl,hv4⟩

theorem ZjX (qa qb:Option Addr) (ca cb:Nat) (x:DFolder) (B:Kn) (hg:SlK B qa ca 2 Z8 x.grants) (hm:SlK B qb cb 3 Z5 x.mail):Zv (pj J) 225 [.agg #[str x.owner,str x.name,.slice qa x.grants.length ca,.int .i64 x.next,.slice qb x.mail.length cb]] B [] (fun v B' Ls=>B'=B∧∃l a c l' a' c',Ls=[l,l']∧v = .agg #[str x.owner,str x.name,.slice a x.grants.length c,.int .i64 x.next,.slice a' x.mail.length c']∧ZT B l a c 259 2 Z8 x.grants∧ZT B l' a' c' 99 3 Z5 x.mail):=by
 refine cB 13 Tryz.func225 (h:=?_)
 have hgn:=hg.len
 have hmn:=hm.len
 refine Za (xBx [_,_,_,_,_] (h:=fun b1=>xAl [_,_,_,_,_] Zgx (h:=fun b2=>tL2 (Za (xBs [] [] Tryz.underlying94 Zd0 Zn3 (h:=fun b3=>xW Zeg (h:=x1 Zr2 0 (h:=Zl (ZcC (R:=Z8) 2 rfl (ZT.lit0 (R:=Z8)) rfl rfl rfl Zy3 ZAQ rfl rfl rfl hg.rows Z8.one rfl om (fun l4 p4 c4 hv4=>?_))))))))))
 refine xW Zeg (h:=xS [_] 0 [_,_,_,_,_] ZyC (h:=tL3 (Za (xW Zbv (h:=xL [_,_] Zfl 0 (h:=xC Zv4 rfl (Zg3 _ _ (⟨x.next,x.mail⟩:DBox) _ hm) (h:=?_)))))))
 rintro _ B5 _ hle5 ⟨rfl,l5,a5,c5,rfl,rfl,hs5⟩
 refine xW Zbv (h:=xS [_,_] 0 [_,_,_,_,_] Zjr (h:=tL4 (Za (xL [_,_,_,_,_] ZiB 0 (h:=xS [_,_,_,_,_] 1 [_,_,_,_,_] ZbM (h:=tL4 (Zd ?_)))))))
 exact eN [2,3] rfl ⟨⟨_,rfl,.inr ⟨[_,_,_,_,_],ZiB,Zbw 1 rfl rfl rfl,rfl⟩⟩,trivial⟩ ⟨rfl,_,_,_,_,_,_,rfl,rfl,hv4,hs5⟩

theorem Zam (k:Nat) (hk:k≤1000000000000000) (B:Kn):Zac (pj J) 65 [.int .i64 k] B (str (ZX k)):=by
 refine cB 20 Tryz.func65 (h:=?_)
 refine Za (xA (h:=Zc (Za (xM (h:=Zb4 (h:=Zb rfl (fun g1=>?_) (fun g1=>?_)))))))
 try simp only [sQ,ne_eq] at g1
 refine Za (xA (h:=Zd (Zm ?_)))
 exact eR t1 ⟨Zup (by rw [ZX,if_pos oz]),rfl,rfl⟩
 try simp only [sQ,ne_eq] at g1
 refine wSk (Za (xA (h:=Zc (Zg (Zz (α:=Nat × Str) [2,5] (fun g=>[(0,.int .i64 g.1),(3,str g.2)]) [] (fun g=>[]) (fun g Bx=>Bx=B∧g.1≤k∧digs k=digs g.1 ++ g.2) (fun g=>g.1) (k,[]) t2 rfl (⟨rfl,Nat.le_refl _,by simp⟩) (fun g B1 hle1 hI=>?_))))))
 obtain ⟨rfl,hl,hs⟩:=hI
 have hgl:=Zv8 hk hs
 refine ZD [(0,_),(2,_),(3,_),(5,_)] [] t4 rfl (Zc (Za (xM (h:=ZdP (h:=Zb rfl (fun g2=>?_) (fun g2=>?_))))))
 try simp only [sQ,ne_eq] at g2
 refine wSk (Zg (Za (xM (h:=Zl (Zsl (a:=(g.1:Int)) (b:=10) (r:=((g.1 % 10:Nat):Int)) rfl rfl rfl rfl (by decide) rfl ?_)))))
 refine xD (h:=Zl (ZuN rfl rfl Tryz.underlying3 Tryz.underlying5 rfl (by first | exact ZcB om om | rfl) ?_))
 refine xBs [(0,_)] [_] Tryz.underlying22 sz5 zo5 (h:=fun b2=>Zl (Zpx rfl rfl Tryz.underlying22 Tryz.underlying9 Tryz.underlying5 rfl (Zc1.box 0 rfl) (xM (h:=Zl (ZwJ (a:=dig g.1) (b:=g.2) rfl rfl rfl rfl (by simp [dig];omega) ?_)))))
 refine xA (h:=tL1 (Zf (xM (h:=Zl (Zpn (a:=(g.1:Int)) (b:=10) (r:=((g.1 / 10:Nat):Int)) rfl rfl rfl rfl (by decide) (by rw [show Int.tdiv (g.1:Int) 10=((g.1 / 10:Nat):Int) from rfl];exact ZcB oz oz) ?_)))))
 refine xA (h:=ZK ?_)
 exact ZC (g.1 / 10,dig g.1 ++ g.2) [] so2 ⟨rfl,so,ZrB hs oz⟩ t4 rfl
 try simp only [sQ,ne_eq] at g2
 refine ZE (ZV (ZG (Zt (Zp (Za (xM (h:=Zl (ZwJ rfl rfl rfl rfl (by first | omega | (simp;omega)) ?_))))))))
 refine xA (h:=Zd ?_)
 exact eR t1 ⟨Zup (by rw [ZX,if_neg oz,hs,show g.1=0 from by omega,Zly];rfl),rfl,rfl⟩

theorem Zmw (q:Option Addr) (cp:Nat) (xs:List DMail) (l:Cells) (k:Nat) (hk:k≤900000000000000) (hn:xs.length≤2000000) (B:Kn) (hv:ZT B l q cp 99 3 Z5 xs):Zv (pj J) 115 [.slice q xs.length cp,.int .i64 k] B [l] (fun v B' Ls=>B'=B∧∃l',Ls=[l']∧v = .int .i64 ((k+3*xs.length:Nat):Int)∧ZT B l' q cp 99 3 Z5 (Zcc k xs.length)):=by
 refine cB 35 Tryz.func115 (h:=?_)
 have hvc:=hv.cap
 refine Za (xA (h:=Zc (Za (xA (h:=Zg (Zz (α:=Nat × Cells × List DMail) [4] (fun g=>[(0,.slice q xs.length cp),(1,.int .i64 ((k+3*g.1:Nat):Int)),(5,.int .i64 g.1)]) [0] (fun g=>[g.2.1]) (fun g Bx=>Bx=B∧g.1≤xs.length∧g.2.2.length=xs.length∧g.2.2.take g.1=Zcc k g.1∧ZT Bx g.2.1 q cp 99 3 Z5 g.2.2) (fun g=>xs.length - g.1) (0,l,xs) t3 rfl (⟨rfl,Nat.zero_le _,rfl,rfl,hv⟩) (fun g B1 hle1 hI=>?_)))))))
 obtain ⟨rfl,hi,hle,ht,hw⟩:=hI
 refine ZD [(0,_),(1,_),(4,_),(5,_)] [_] t4 rfl (Zc (Za (xM (h:=xM (h:=xV Tryz.underlying91 (h:=ZF (h:=Zb rfl (fun g1=>?_) (fun g1=>?_))))))))
 try simp only [sQ,ne_eq] at g1
 refine wSk (Zc (Zg (Za (xM (h:=xM (h:=xM (h:=?_)))))))
 obtain ⟨z1,hz1⟩:=ZY (xs:=g.2.2) (i:=g.1) om
 obtain ⟨bb3,_,hp3,⟨rfl,hb3⟩,hw3,hc3⟩:=hw.row hz1
 refine xIp hp3 Tryz.underlying91 Zgg (h:=xW ZeR (h:=Zl (Zgb (k:=g.1) (off:=0) (⟨((k+3*g.1:Nat):Int),z1.flags,z1.text⟩) [_] 0 hw hp3 hz1 rfl rfl sz3 rfl rfl rfl rfl rfl rfl (by rintro _ ⟨rfl,e1⟩;exact ⟨rfl,e1⟩) (fun l4 hv4=>?_))))
 refine tL1 (Za (xM (h:=xD (h:=xA (h:=Za (xM (h:=xM (h:=xM (h:=?_)))))))))
 obtain ⟨z2,hz2⟩:=ZY (xs:=(g.2.2.set g.1 (⟨((k+3*g.1:Nat):Int),z1.flags,z1.text⟩))) (i:=g.1) om
 obtain ⟨bb6,_,hp6,⟨rfl,hb6⟩,hw6,hc6⟩:=hv4.row hz2
 refine xIp hp6 Tryz.underlying91 Zgg (h:=xW Zgr (h:=Zl (Zgb (k:=g.1) (off:=1) (⟨z2.uid,((k+3*g.1+1:Nat):Int),z2.text⟩) [_] 0 hv4 hp6 hz2 rfl rfl sz3 rfl rfl rfl rfl rfl rfl (by rintro _ ⟨rfl,e1⟩;exact ⟨rfl,e1⟩) (fun l7 hv7=>?_))))
 refine tL1 (Za (xM (h:=xD (h:=xA (h:=Za (xM (h:=xM (h:=xM (h:=xR Zkh rfl (Zam (((k+3*g.1)+1)+1) oz _) (h:=?_))))))))))
 obtain ⟨z3,hz3⟩:=ZY (xs:=((g.2.2.set g.1 (⟨((k+3*g.1:Nat):Int),z1.flags,z1.text⟩)).set g.1 (⟨z2.uid,((k+3*g.1+1:Nat):Int),z2.text⟩))) (i:=g.1) om
 obtain ⟨bb10,_,hp10,⟨rfl,hb10⟩,hw10,hc10⟩:=hv7.row hz3
 refine xIp hp10 Tryz.underlying91 Zgg (h:=xW Zfa (h:=Zl (Zgb (k:=g.1) (off:=2) (⟨z3.uid,z3.flags,ZX (k+3*g.1+1+1)⟩) [_] 0 hv7 hp10 hz3 rfl rfl sz9 rfl rfl rfl rfl rfl rfl (by rintro _ ⟨rfl,e1⟩;exact ⟨rfl,show (ZX (k+3*g.1+1+1)).length≤2000000 from Nat.le_trans (Zcv (k:=k+3*g.1+1+1) oz) (by decide)⟩) (fun l11 hv11=>?_))))
 refine tL1 (Zf (xM (h:=xD (h:=xA (h:=ZK (Zp (Zf (xM (h:=xD (h:=xA (h:=?_)))))))))))
 exact ZC (g.1+1,l11,(((g.2.2.set g.1 (⟨((k+3*g.1:Nat):Int),z1.flags,z1.text⟩)).set g.1 (⟨z2.uid,((k+3*g.1+1:Nat):Int),z2.text⟩)).set g.1 (⟨z3.uid,z3.flags,ZX (k+3*g.1+1+1)⟩))) [0] so2 ⟨rfl,so,by simp only [List.length_set];exact hle,ZkZ ht hz1 hz2 hz3,hv11⟩ t4 rfl
 try simp only [sQ,ne_eq] at g1
 have he:=ZkW ht oz
 have hgi:g.1=xs.length:=by omega
 rw [hgi] at he
 refine ZE (ZV (ZG (Zt (Zp (Za (xM (h:=xA (h:=Zd ?_))))))))
 exact Zd2 .ret (.inl rfl) [_] [0] rfl ⟨rfl,trivial⟩ ⟨rfl,_,rfl,by rw [hgi];rfl,by rw [← he];exact hw⟩

theorem Zk4 (q:Option Addr) (cp:Nat) (xs:List DGrant) (l:Cells) (k:Nat) (hk:k≤900000000000000) (hn:xs.length≤2000000) (B:Kn) (hv:ZT B l q cp 259 2 Z8 xs):Zv (pj J) 114 [.slice q xs.length cp,.int .i64 k] B [l] (fun v B' Ls=>B'=B∧∃l',Ls=[l']∧v = .int .i64 ((k+2*xs.length:Nat):Int)∧ZT B l' q cp 259 2 Z8 (ZaI k xs.length)):=by
 refine cB 28 Tryz.func114 (h:=?_)
 have hvc:=hv.cap
 refine Za (xA (h:=Zc (Za (xA (h:=Zg (Zz (α:=Nat × Cells × List DGrant) [4] (fun g=>[(0,.slice q xs.length cp),(1,.int .i64 ((k+2*g.1:Nat):Int)),(5,.int .i64 g.1)]) [0] (fun g=>[g.2.1]) (fun g Bx=>Bx=B∧g.1≤xs.length∧g.2.2.length=xs.length∧g.2.2.take g.1=ZaI k g.1∧ZT Bx g.2.1 q cp 259 2 Z8 g.2.2) (fun g=>xs.length - g.1) (0,l,xs) t3 rfl (⟨rfl,Nat.zero_le _,rfl,rfl,hv⟩) (fun g B1 hle1 hI=>?_)))))))
 obtain ⟨rfl,hi,hle,ht,hw⟩:=hI
 refine ZD [(0,_),(1,_),(4,_),(5,_)] [_] t4 rfl (Zc (Za (xM (h:=xM (h:=xV Tryz.underlying94 (h:=ZF (h:=Zb rfl (fun g1=>?_) (fun g1=>?_))))))))
 try simp only [sQ,ne_eq] at g1
 refine wSk (Zc (Zg (Za (xM (h:=xM (h:=xM (h:=xR Zkh rfl (Zam (k+2*g.1) oz _) (h:=?_))))))))
 obtain ⟨z1,hz1⟩:=ZY (xs:=g.2.2) (i:=g.1) om
 obtain ⟨bb4,_,hp4,⟨rfl,hb4⟩,hw4,hc4⟩:=hw.row hz1
 refine xIp hp4 Tryz.underlying94 Zd0 (h:=xW Zcz (h:=Zl (Zgb (k:=g.1) (off:=0) (⟨ZX (k+2*g.1),z1.rights⟩) [_] 0 hw hp4 hz1 rfl rfl sz9 rfl rfl rfl rfl rfl rfl (by rintro _ ⟨rfl,e1⟩;exact ⟨rfl,show (ZX (k+2*g.1)).length≤2000000 from Nat.le_trans (Zcv (k:=k+2*g.1) oz) (by decide)⟩) (fun l5 hv5=>?_))))
 refine tL1 (Za (xM (h:=xD (h:=xA (h:=Za (xM (h:=xM (h:=xM (h:=?_)))))))))
 obtain ⟨z2,hz2⟩:=ZY (xs:=(g.2.2.set g.1 (⟨ZX (k+2*g.1),z1.rights⟩))) (i:=g.1) om
 obtain ⟨bb7,_,hp7,⟨rfl,hb7⟩,hw7,hc7⟩:=hv5.row hz2
 refine xIp hp7 Tryz.underlying94 Zd0 (h:=xW ZdC (h:=Zl (Zgb (k:=g.1) (off:=1) (⟨z2.user,((k+2*g.1+1:Nat):Int)⟩) [_] 0 hv5 hp7 hz2 rfl rfl sz3 rfl rfl rfl rfl rfl rfl (by rintro _ ⟨rfl,e1⟩;exact ⟨rfl,e1⟩) (fun l8 hv8=>?_))))
 refine tL1 (Zf (xM (h:=xD (h:=xA (h:=ZK (Zp (Zf (xM (h:=xD (h:=xA (h:=?_)))))))))))
 exact ZC (g.1+1,l8,((g.2.2.set g.1 (⟨ZX (k+2*g.1),z1.rights⟩)).set g.1 (⟨z2.user,((k+2*g.1+1:Nat):Int)⟩))) [0] so2 ⟨rfl,so,by simp only [List.length_set];exact hle,ZjE ht hz1 hz2,hv8⟩ t4 rfl
 try simp only [sQ,ne_eq] at g1
 have he:=ZkW ht oz
 have hgi:g.1=xs.length:=by omega
 rw [hgi] at he
 refine ZE (ZV (ZG (Zt (Zp (Za (xM (h:=xA (h:=Zd ?_))))))))
 exact Zd2 .ret (.inl rfl) [_] [0] rfl ⟨rfl,trivial⟩ ⟨rfl,_,rfl,by rw [hgi];rfl,by rw [← he];exact hw⟩

theorem Zmt (q:Option Addr) (cp:Nat) (xs:List DUser) (l:Cells) (k:Nat) (hk:k≤900000000000000) (hn:xs.length≤2000000) (B:Kn) (hv:ZT B l q cp 141 3 Zn xs):Zv (pj J) 62 [.slice q xs.length cp,.int .i64 k] B [l] (fun v B' Ls=>B'=B∧∃l',Ls=[l']∧v = .int .i64 ((k+3*xs.length:Nat):Int)∧ZT B l' q cp 141 3 Zn (ZcP k xs.length)):=by
 refine cB 36 Tryz.func62 (h:=?_)
 have hvc:=hv.cap
 refine Za (xA (h:=Zc (Za (xA (h:=Zg (Zz (α:=Nat × Cells × List DUser) [4] (fun g=>[(0,.slice q xs.length cp),(1,.int .i64 ((k+3*g.1:Nat):Int)),(5,.int .i64 g.1)]) [0] (fun g=>[g.2.1]) (fun g Bx=>Bx=B∧g.1≤xs.length∧g.2.2.length=xs.length∧g.2.2.take g.1=ZcP k g.1∧ZT Bx g.2.1 q cp 141 3 Zn g.2.2) (fun g=>xs.length - g.1) (0,l,xs) t3 rfl (⟨rfl,Nat.zero_le _,rfl,rfl,hv⟩) (fun g B1 hle1 hI=>?_)))))))
 obtain ⟨rfl,hi,hle,ht,hw⟩:=hI
 refine ZD [(0,_),(1,_),(4,_),(5,_)] [_] t4 rfl (Zc (Za (xM (h:=xM (h:=xV Tryz.underlying23 (h:=ZF (h:=Zb rfl (fun g1=>?_) (fun g1=>?_))))))))
 try simp only [sQ,ne_eq] at g1
 refine wSk (Zc (Zg (Za (xM (h:=xM (h:=xM (h:=xR Zkh rfl (Zam (k+3*g.1) oz _) (h:=?_))))))))
 obtain ⟨z1,hz1⟩:=ZY (xs:=g.2.2) (i:=g.1) om
 obtain ⟨bb4,_,hp4,⟨rfl,hb4,hb4b⟩,hw4,hc4⟩:=hw.row hz1
 refine xIp hp4 Tryz.underlying23 Zbq (h:=xW Zbi (h:=Zl (Zgb (k:=g.1) (off:=0) (⟨ZX (k+3*g.1),z1.pass,z1.quota⟩) [_] 0 hw hp4 hz1 rfl rfl sz9 rfl rfl rfl rfl rfl rfl (by rintro _ ⟨rfl,e1,e2⟩;exact ⟨rfl,show (ZX (k+3*g.1)).length≤2000000 from Nat.le_trans (Zcv (k:=k+3*g.1) oz) (by decide),e2⟩) (fun l5 hv5=>?_))))
 refine tL1 (Za (xM (h:=xD (h:=xA (h:=Za (xM (h:=xM (h:=xM (h:=xR Zkh rfl (Zam ((k+3*g.1)+1) oz _) (h:=?_))))))))))
 obtain ⟨z2,hz2⟩:=ZY (xs:=(g.2.2.set g.1 (⟨ZX (k+3*g.1),z1.pass,z1.quota⟩))) (i:=g.1) om
 obtain ⟨bb8,_,hp8,⟨rfl,hb8,hb8b⟩,hw8,hc8⟩:=hv5.row hz2
 refine xIp hp8 Tryz.underlying23 Zbq (h:=xW ZfZ (h:=Zl (Zgb (k:=g.1) (off:=1) (⟨z2.name,ZX (k+3*g.1+1),z2.quota⟩) [_] 0 hv5 hp8 hz2 rfl rfl sz9 rfl rfl rfl rfl rfl rfl (by rintro _ ⟨rfl,e1,e2⟩;exact ⟨rfl,e1,show (ZX (k+3*g.1+1)).length≤2000000 from Nat.le_trans (Zcv (k:=k+3*g.1+1) oz) (by decide)⟩) (fun l9 hv9=>?_))))
 refine tL1 (Za (xM (h:=xD (h:=xA (h:=Za (xM (h:=xM (h:=xM (h:=?_)))))))))
 obtain ⟨z3,hz3⟩:=ZY (xs:=((g.2.2.set g.1 (⟨ZX (k+3*g.1),z1.pass,z1.quota⟩)).set g.1 (⟨z2.name,ZX (k+3*g.1+1),z2.quota⟩))) (i:=g.1) om
 obtain ⟨bb11,_,hp11,⟨rfl,hb11,hb11b⟩,hw11,hc11⟩:=hv9.row hz3
 refine xIp hp11 Tryz.underlying23 Zbq (h:=xW ZdD (h:=Zl (Zgb (k:=g.1) (off:=2) (⟨z3.name,z3.pass,((k+3*g.1+1+1:Nat):Int)⟩) [_] 0 hv9 hp11 hz3 rfl rfl sz3 rfl rfl rfl rfl rfl rfl (by rintro _ ⟨rfl,e1,e2⟩;exact ⟨rfl,e1,e2⟩) (fun l12 hv12=>?_))))
 refine tL1 (Zf (xM (h:=xD (h:=xA (h:=ZK (Zp (Zf (xM (h:=xD (h:=xA (h:=?_)))))))))))
 exact ZC (g.1+1,l12,(((g.2.2.set g.1 (⟨ZX (k+3*g.1),z1.pass,z1.quota⟩)).set g.1 (⟨z2.name,ZX (k+3*g.1+1),z2.quota⟩)).set g.1 (⟨z3.name,z3.pass,((k+3*g.1+1+1:Nat):Int)⟩))) [0] so2 ⟨rfl,so,by simp only [List.length_set];exact hle,ZkX ht hz1 hz2 hz3,hv12⟩ t4 rfl
 try simp only [sQ,ne_eq] at g1
 have he:=ZkW ht oz
 have hgi:g.1=xs.length:=by omega
 rw [hgi] at he
 refine ZE (ZV (ZG (Zt (Zp (Za (xM (h:=xA (h:=Zd ?_))))))))
 exact Zd2 .ret (.inl rfl) [_] [0] rfl ⟨rfl,trivial⟩ ⟨rfl,_,rfl,by rw [hgi];rfl,by rw [← he];exact hw⟩

end Go.Proofs.YtkppijmhadbpdaaGreatDoor
