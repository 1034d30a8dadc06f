/-
  WHAT THE FUNCTIONS THAT THE LAWS REACH COMPUTE: each function's contract, proved off its printed body (the text is written by program). No condition beyond those that each theorem states.
-/
import Derived.Test.YthgggppcgbglkaaGreatDoorC0
namespace Go.Proofs.YthgggppcgbglkaaGreatDoor
open Go Go.BL
set_option linter.unusedVariables false
set_option linter.unusedSimpArgs false
set_option maxRecDepth 4000
variable {J : JoinT}
set_option maxHeartbeats 400000 in
theorem ZnX (q:Option Addr) (cp:Nat) (gs:List DGrant) (B:Kn) (hg:SlK B q cp 2 ZW gs):Z9 (pj J) 94 [.slice q gs.length cp] B (.bool (Zc8 gs)):=by
 refine Zb 47 Tryz.func94 rfl rfl rfl (Nat.le_of_ble_eq_true rfl) ?_
 have hgn:=hg.len
 refine Za (xA (h:=Ze (Za (xA (h:=Zl (ZC (α:=Nat × Str) [0] (fun g=>[(3,.int .i64 g.1)]) [] (fun g=>[]) (fun g Bx=>Bx=B∧g.1≤gs.length∧Zco (gs.take g.1)=(true,g.2)∧Prev (fun y=>y.user) ([]:Str) gs g.1 g.2) (fun g=>gs.length - g.1) (0,[]) t1 rfl (⟨rfl,Nat.zero_le _,Ze5,.zero⟩) (fun g B1 hle1 hI=>?_)))))))
 obtain ⟨rfl,hk,hs,hp⟩:=hI
 refine ZF [(0,_),(3,_)] [] t2 rfl (Ze (Za (xM (h:=xM (h:=xV Tryz.underlying68 (h:=ZJ (h:=Zc rfl (fun g1=>?_) (fun g1=>?_))))))))
 try simp only [sQ,ne_eq] at g1
 refine Zf (Zd (Ze (Zl (Ze (Z8 (same _ _) mo kr ⟨rfl,rfl⟩ (fun _ _=>?_))))))
 refine aM 0 rfl (h:=aM 1 rfl (h:=?_))
 obtain ⟨m,hm⟩:=ZY (xs:=gs) (i:=g.1) om
 obtain ⟨bb3,oo3,rfl⟩:=hg.base hm
 obtain ⟨_,⟨rfl,hb4⟩,hc4⟩:=hg.elem hm
 refine aIx 2 rfl Tryz.underlying68 Zdh (h:=aW 3 rfl ZbZ (h:=aT 4 rfl (Zab fun D=>Zr rfl rfl lk9 rfl (hc4 _ 0 _ rfl) r4) (h:=aT 5 rfl (Zab fun D=>Zaf rfl rfl Zs1 rfl (Zb7 _ om2 _) r4) (h:=?_))))
 refine aN 6 rfl (h:=aM 7 rfl (h:=Zav (d:=17) rfl (fun g2=>?_) (fun g2=>?_)))
 try simp only [sQ,ne_eq] at g2
 refine aZ 8 rfl (h:=aZ 9 rfl (h:=aZ 10 rfl (h:=aZ 11 rfl (h:=aZ 12 rfl (h:=aZ 13 rfl (h:=aZ 14 rfl (h:=aPT 15 rfl (h:=aM 16 rfl (h:=aZ 17 rfl (h:=aZ 18 rfl (h:=aZ 19 rfl (h:=aZ 20 rfl (h:=?_)))))))))))))
 refine aZ 21 rfl (h:=aZ 22 rfl (h:=aZ 23 rfl (h:=aZ 24 rfl (h:=aZ 25 rfl (h:=aZ 26 rfl (h:=aZ 27 rfl (h:=aZ 28 rfl (h:=aZ 29 rfl (h:=aZ 30 rfl (h:=aZ 31 rfl (h:=aZ 32 rfl (h:=aPT 33 rfl (h:=?_)))))))))))))
 refine ZA kr kr ?_
 refine Zd (Zc (t:=true) rfl (fun _=>Za (xA (h:=Zh (ZD (Zq (ZP (ZD (Zq ?_)))))))) (fun h=>Bool.noConfusion h))
 exact ZB .ret (.inl rfl) [_] t1 ⟨Zg (Zc4 hm hs (by simp [ZbN,g1,g2])).symm,rfl,rfl⟩
 try simp only [sQ,ne_eq] at g2
 refine aM 8 rfl (h:=aM 9 rfl (h:=aIx 10 rfl Tryz.underlying68 Zdh (h:=aW 11 rfl Zc0 (h:=aT 12 rfl (Zab fun D=>Zr rfl rfl lk3 rfl (hc4 _ 1 _ rfl) r4) (h:=aT 13 rfl (Zab fun D=>Zaf rfl rfl ZqY rfl (ZfE _ _ _ _) r4) (h:=aN 14 rfl (h:=aPF 15 rfl (h:=aM 16 rfl (h:=Zav (d:=26) rfl (fun g4=>?_) (fun g4=>?_))))))))))
 try simp only [sQ,ne_eq] at g4
 refine aZ 17 rfl (h:=aZ 18 rfl (h:=aZ 19 rfl (h:=aZ 20 rfl (h:=aZ 21 rfl (h:=aZ 22 rfl (h:=aZ 23 rfl (h:=aZ 24 rfl (h:=aZ 25 rfl (h:=aZ 26 rfl (h:=aZ 27 rfl (h:=aZ 28 rfl (h:=aZ 29 rfl (h:=?_)))))))))))))
 refine aZ 30 rfl (h:=aZ 31 rfl (h:=aZ 32 rfl (h:=aPT 33 rfl (h:=ZA kr kr ?_))))
 refine Zd (Zc (t:=true) rfl (fun _=>Za (xA (h:=Zh (ZD (Zq (ZP (ZD (Zq ?_)))))))) (fun h=>Bool.noConfusion h))
 exact ZB .ret (.inl rfl) [_] t1 ⟨Zg (Zc4 hm hs (by simp [ZbN,g1,g2,g4])).symm,rfl,rfl⟩
 try simp only [sQ,ne_eq] at g4
 refine aM 17 rfl (h:=Zne 18 rfl (h:=aM 19 rfl (h:=Zav (d:=29) rfl (fun g6=>?_) (fun g6=>?_))))
 try simp only [sQ,ne_eq] at g6
 refine aM 20 rfl (h:=aM 21 rfl (h:=aU 22 rfl (h:=?_)))
 obtain ⟨y,hy⟩:=ZsG (xs:=gs) (i:=(↑g.1 - 1)) om om
 obtain ⟨_,⟨rfl,hb8⟩,hc8⟩:=hg.elem hy
 refine aIx 23 rfl Tryz.underlying68 Zdh (h:=?_)
 have hpe:=hp.at hy oz
 refine aW 24 rfl ZbZ (h:=aT 25 rfl (Zab fun D=>Zr rfl rfl lk9 rfl (hc8 _ 0 _ rfl) r4) (h:=aM 26 rfl (h:=aM 27 rfl (h:=aIx 28 rfl Tryz.underlying68 Zdh (h:=aW 29 rfl ZbZ (h:=aT 30 rfl (Zab fun D=>Zr rfl rfl lk9 rfl (hc4 _ 0 _ rfl) r4) (h:=aT 31 rfl (Zab fun D=>Zru rfl rfl rfl rfl r4) (h:=aPT 32 rfl (h:=aPF 33 rfl (h:=ZA kr kr ?_))))))))))
 refine Zd (Zc rfl (fun g7=>?_) (fun g7=>?_))
 try simp only [sQ,ne_eq] at g7
 refine Za (xA (h:=Zh (ZD (Zq (ZP (ZD (Zq ?_)))))))
 exact ZB .ret (.inl rfl) [_] t1 ⟨Zg (Zc4 hm hs (by simp [ZbN,g1,g2,g4,g6,g7,hpe])).symm,rfl,rfl⟩
 try simp only [sQ,ne_eq] at g7
 refine Zf (ZS (Zd (Zk (xM (h:=xD (h:=xA (h:=?_)))))))
 exact ZG (g.1+1,m.user) [] so2 ⟨rfl,oz,Zcj hm hs (by rw [hpe];simp [ZbN,g2,g7];simp at g4;omega),.succ hm⟩ t2 rfl
 try simp only [sQ,ne_eq] at g6
 refine aZ 20 rfl (h:=aZ 21 rfl (h:=aZ 22 rfl (h:=aZ 23 rfl (h:=aZ 24 rfl (h:=aZ 25 rfl (h:=aZ 26 rfl (h:=aZ 27 rfl (h:=aZ 28 rfl (h:=aZ 29 rfl (h:=aZ 30 rfl (h:=aZ 31 rfl (h:=aPF 32 rfl (h:=?_)))))))))))))
 refine aPF 33 rfl (h:=ZA kr kr ?_)
 refine Zd (Zc (t:=false) rfl (fun h=>Bool.noConfusion h) (fun _=>Zf (ZS (Zd (Zk (xM (h:=xD (h:=xA (h:=?_)))))))))
 exact ZG (g.1+1,m.user) [] so2 ⟨rfl,oz,Zcj hm hs (by rw [hp.at0 oz];simp [ZbN,g2,ZlR (ZhT g2)];simp at g4;omega),.succ hm⟩ t2 rfl
 try simp only [sQ,ne_eq] at g1
 refine ZH (Z0 (ZM (Zx (Zd (Za (xM (h:=xV Tryz.underlying68 (h:=Zb3 (h:=xA (h:=Zh ?_))))))))))
 exact ZB .ret (.inl rfl) [_] t1 ⟨Zg (by rw [Zkc (ZdT hs oz),Bool.eq_iff_iff];simp;try omega),rfl,rfl⟩

set_option maxHeartbeats 400000 in
theorem ZmL (q1 q2 q3:Option Addr) (c1 c2 c3:Nat) (x:DHost) (q:Option Addr) (cp:Nat) (ns:List Str) (B:Kn) (hu:SlK B q1 c1 3 Zn x.users) (hn:SlK B q cp 1 Zc5 ns):Z9 (pj J) 57 [.agg #[str x.domain,.slice q1 x.users.length c1,.slice q2 x.folders.length c2,.int .i64 x.queue.next,.slice q3 x.queue.items.length c3],.slice q ns.length cp] B (.bool (ZjK x.users ns)):=by
 refine Zb 20 Tryz.func57 rfl rfl rfl (Nat.le_of_ble_eq_true rfl) ?_
 have hnn:=hn.len
 have hun:=hu.len
 refine Za (xBx [_,_,_,_,_] (h:=fun b1=>xA (h:=ZE [_] rfl (Ze (Za (xA (h:=Zl (ZC (α:=Nat) [0,1,2] (fun k=>[(5,.int .i64 k)]) [] (fun k=>[]) (fun k Bx=>Bx=B∧k≤ns.length∧∀z,z∈ns.take k→decide (0≤ZdI x.users z)=true) (fun k=>ns.length - k) 0 t1 rfl (⟨rfl,Nat.zero_le _,by simp⟩) (fun k B2 hle2 hI=>?_)))))))))
 obtain ⟨rfl,hk,ha⟩:=hI
 refine ZF [(0,_),(1,_),(2,_),(5,_)] [_] t4 rfl (Ze (Za (xM (h:=xM (h:=xV Tryz.underlying43 (h:=ZJ (h:=Zc rfl (fun g1=>?_) (fun g1=>?_))))))))
 try simp only [sQ,ne_eq] at g1
 refine Zf (Zd (Ze (Zl (Ze (Z8 (same _ _) mo kr ⟨rfl,rfl⟩ (fun _ _=>?_))))))
 refine aW 0 rfl Zbn (h:=aT 1 rfl (Zab fun D=>Zr rfl rfl ZhA rfl (atL 0 rfl rfl rfl) r4) (h:=aM 2 rfl (h:=aM 3 rfl (h:=?_))))
 obtain ⟨z,hz⟩:=ZY (xs:=ns) (i:=k) om
 obtain ⟨bb4,oo4,rfl⟩:=hn.base hz
 obtain ⟨_,⟨rfl,hb5⟩,hc5⟩:=hn.elem hz
 refine aIx 4 rfl Tryz.underlying43 sz9 (h:=aT 5 rfl (Zab fun D=>Zr rfl rfl lk9 rfl (hc5 _ 0 _ rfl) r4) (h:=aT 6 rfl (Zab fun D=>Zaf rfl rfl Zus rfl (Zeh _ _ _ _ _ hu) r4) (h:=Zrg 7 rfl (h:=ZA kr kr ?_))))
 refine Zd (Zc rfl (fun g2=>?_) (fun g2=>?_))
 try simp only [sQ,ne_eq] at g2
 refine Za (xA (h:=Zh (ZD (Zq (ZP (ZD (Zq ?_)))))))
 exact ZB .ret (.inl rfl) [_] t1 ⟨Zg (Zdg hz (by simp;omega)).symm,rfl,rfl⟩
 try simp only [sQ,ne_eq] at g2
 refine Zf (ZS (Zd (Zk (xM (h:=xD (h:=xA (h:=?_)))))))
 exact ZG (k+1) [0] so2 ⟨rfl,oz,Za7 hz ha (by simp;omega)⟩ t4 rfl
 try simp only [sQ,ne_eq] at g1
 refine ZH (Z0 (ZM (Zx (Zd (Za (xA (h:=Zh ?_)))))))
 exact ZB .ret (.inl rfl) [_] t1 ⟨Zg (ZeG (Zbf oz ha)).symm,rfl,rfl⟩

set_option maxHeartbeats 400000 in
theorem ZjF (q1 q2 q3:Option Addr) (c1 c2 c3:Nat) (x:DHost) (u:Str) (B:Kn) (hf:SlK B q2 c2 5 Zj x.folders):Z9 (pj J) 89 [.agg #[str x.domain,.slice q1 x.users.length c1,.slice q2 x.folders.length c2,.int .i64 x.queue.next,.slice q3 x.queue.items.length c3],str u] B (.int .i64 (Zcq x.folders u)):=by
 refine Zb 32 Tryz.func89 rfl rfl rfl (Nat.le_of_ble_eq_true rfl) ?_
 have hfn:=hf.len
 refine Za (xBx [_,_,_,_,_] (h:=fun b1=>xA (h:=ZE [_] rfl (Za (xA (h:=Ze (Za (xA (h:=Zl (ZC (α:=Nat × Nat) [0,1,2,4] (fun g=>[(5,.int .i64 g.2),(6,.int .i64 g.1)]) [] (fun g=>[]) (fun g Bx=>Bx=B∧g.1≤x.folders.length∧g.2=Zcq (x.folders.take g.1) u∧g.2≤g.1*4000000000000) (fun g=>x.folders.length - g.1) (0,0) t2 rfl (⟨rfl,Nat.zero_le _,by simp [Zcq],oz⟩) (fun g B2 hle2 hI=>?_)))))))))))
 obtain ⟨rfl,hk,hs,hl⟩:=hI
 refine ZF [(0,_),(1,_),(2,_),(4,_),(5,_),(6,_)] [_] t6 rfl (Ze (Za (xM (h:=xW Zar (h:=x1 Zew 0 (h:=xV Tryz.underlying31 (h:=ZJ (h:=Zc rfl (fun g1=>?_) (fun g1=>?_)))))))))
 try simp only [sQ,ne_eq] at g1
 refine Zf (Zd (Ze (Zl (Za (xW Zar (h:=x1 Zew 0 (h:=xM (h:=?_))))))))
 obtain ⟨m,hm⟩:=ZY (xs:=x.folders) (i:=g.1) om
 obtain ⟨bb4,oo4,rfl⟩:=hf.base hm
 obtain ⟨_,⟨qg5,cg5,qm5,cm5,rfl,hg5,hm5,hb5,hb5b⟩,hc5⟩:=hf.elem hm
 have hg5n:=hg5.len
 have hm5n:=hm5.len
 have hm5s:=Zal hm5
 refine xIx Tryz.underlying31 ZbO (h:=xW Zbw (h:=y1 lk9 hc5 0 (h:=xM (h:=Zdp (h:=Zc rfl (fun g2=>?_) (fun g2=>?_))))))
 try simp only [sQ,ne_eq] at g2
 refine Zk (xM (h:=xW Zar (h:=x1 Zew 0 (h:=xM (h:=xIx Tryz.underlying31 ZbO (h:=xW ZbY (h:=yL [_,_] Zfa hc5 3 (h:=xR ZwA rfl (Zox _ _ (⟨m.next,m.mail⟩:DBox) _ hm5) (h:=xD (h:=xA (h:=ZS (Zd (Zk ?_)))))))))))))
 refine xM (h:=xD (h:=xA (h:=?_)))
 exact ZG (g.1+1,g.2+Zbm m.mail) [0] so2 ⟨rfl,so,by rw [ZhL hm,← hs,if_pos g2],so⟩ t6 rfl
 try simp only [sQ,ne_eq] at g2
 refine Zf (ZS (Zd (Zk (xM (h:=xD (h:=xA (h:=?_)))))))
 exact ZG (g.1+1,g.2) [0] so2 ⟨rfl,so,by rw [ZhL hm,← hs,if_neg g2];simp only [Nat.add_zero],Nat.le_trans hl (Nat.mul_le_mul_right _ (Nat.le_succ _))⟩ t6 rfl
 try simp only [sQ,ne_eq] at g1
 refine ZH (Z0 (ZM (Zx (Zd (Za (xM (h:=xA (h:=Zh ?_))))))))
 exact ZB .ret (.inl rfl) [_] t1 ⟨ZI (by rw [← ZnD hs oz]),rfl,rfl⟩

set_option maxHeartbeats 400000 in
theorem ZjG (q1 q2 q3:Option Addr) (c1 c2 c3:Nat) (x:DHost) (B:Kn) (hu:SlK B q1 c1 3 Zn x.users) (hf:SlK B q2 c2 5 Zj x.folders):Z9 (pj J) 88 [.agg #[str x.domain,.slice q1 x.users.length c1,.slice q2 x.folders.length c2,.int .i64 x.queue.next,.slice q3 x.queue.items.length c3]] B (.bool (ZbX x.users x.folders)):=by
 refine Zb 60 Tryz.func88 rfl rfl rfl (Nat.le_of_ble_eq_true rfl) ?_
 have hfn:=hf.len
 have hun:=hu.len
 refine Za (xBx [_,_,_,_,_] (h:=fun b1=>xA (h:=ZE [_] rfl (Ze (Za (xA (h:=Zl (ZC (α:=Nat × Option DFolder) [0,1] (fun g=>[(3,.int .i64 g.1)]) [] (fun g=>[]) (fun g Bx=>Bx=B∧g.1≤x.folders.length∧ZcJ x.users (x.folders.take g.1)=(true,g.2)∧Prev some none x.folders g.1 g.2) (fun g=>x.folders.length - g.1) (0,none) t1 rfl (⟨rfl,Nat.zero_le _,Ze5,.zero⟩) (fun g B2 hle2 hI=>?_)))))))))
 obtain ⟨rfl,hk,hs,hp⟩:=hI
 refine ZF [(0,_),(1,_),(3,_)] [_] t3 rfl (Ze (Za (xM (h:=xW Zar (h:=x1 Zew 0 (h:=xV Tryz.underlying31 (h:=ZJ (h:=Zc rfl (fun g1=>?_) (fun g1=>?_)))))))))
 try simp only [sQ,ne_eq] at g1
 refine Zf (Zd (Ze (Zl (Za (xW Zar (h:=x1 Zew 0 (h:=xM (h:=?_))))))))
 obtain ⟨m,hm⟩:=ZY (xs:=x.folders) (i:=g.1) om
 obtain ⟨bb4,oo4,rfl⟩:=hf.base hm
 obtain ⟨_,⟨qg5,cg5,qm5,cm5,rfl,hg5,hm5,hb5,hb5b⟩,hc5⟩:=hf.elem hm
 have hg5n:=hg5.len
 have hm5n:=hm5.len
 have hm5s:=Zal hm5
 refine xIx Tryz.underlying31 ZbO (h:=yL [_,_,_,_,_] Zhx hc5 0 (h:=xAl [_,_,_,_,_] ZfR (h:=fun b6=>xS [_,_,_,_,_] 1 [_,_,_,_,_] ZbO (h:=ZE [_,_] rfl (Ze (Z8 (same _ _) mo kr ⟨rfl,rfl⟩ (fun _ _=>?_)))))))
 refine aW 0 rfl Zbn (h:=aT 1 rfl (Zab fun D=>Zr rfl rfl ZhA rfl (atL 0 rfl rfl rfl) r4) (h:=aW 2 rfl Zbw (h:=aT 3 rfl (Zab fun D=>Zr rfl rfl lk9 rfl (atL 1 rfl rfl rfl) r4) (h:=aT 4 rfl (Zab fun D=>Zaf rfl rfl Zus rfl (Zeh _ _ _ _ _ hu) r4) (h:=Zrg 5 rfl (h:=aM 6 rfl (h:=Zav (d:=23) rfl (fun g2=>?_) (fun g2=>?_))))))))
 try simp only [sQ,ne_eq] at g2
 refine aZ 7 rfl (h:=aZ 8 rfl (h:=aZ 9 rfl (h:=aZ 10 rfl (h:=aPT 11 rfl (h:=aM 12 rfl (h:=aZ 13 rfl (h:=aZ 14 rfl (h:=aZ 15 rfl (h:=aZ 16 rfl (h:=aPT 17 rfl (h:=aM 18 rfl (h:=aZ 19 rfl (h:=?_)))))))))))))
 refine aZ 20 rfl (h:=aZ 21 rfl (h:=aZ 22 rfl (h:=aPT 23 rfl (h:=aM 24 rfl (h:=aZ 25 rfl (h:=aZ 26 rfl (h:=aZ 27 rfl (h:=aZ 28 rfl (h:=aZ 29 rfl (h:=aZ 30 rfl (h:=aZ 31 rfl (h:=aZ 32 rfl (h:=?_)))))))))))))
 refine aZ 33 rfl (h:=aZ 34 rfl (h:=aZ 35 rfl (h:=aZ 36 rfl (h:=aZ 37 rfl (h:=aPT 38 rfl (h:=ZA kr kr ?_))))))
 refine Zd (Zc (t:=true) rfl (fun _=>Za (xA (h:=Zh (ZD (Zq (ZP (ZD (Zq ?_)))))))) (fun h=>Bool.noConfusion h))
 exact ZB .ret (.inl rfl) [_] t1 ⟨Zg (ZbW hm hs (by simp [Zbc,Z1,DFolder.box,g1,g2];try omega)).symm,rfl,rfl⟩
 try simp only [sQ,ne_eq] at g2
 refine aW 7 rfl Zdz (h:=aT 8 rfl (Zab fun D=>Zr rfl rfl lk9 rfl (atL 1 rfl rfl rfl) r4) (h:=aT 9 rfl (Zab fun D=>Zaf rfl rfl Zs1 rfl (Zb7 _ om2 _) r4) (h:=?_)))
 refine aN 10 rfl (h:=aPF 11 rfl (h:=aM 12 rfl (h:=Zav (d:=29) rfl (fun g3=>?_) (fun g3=>?_))))
 try simp only [sQ,ne_eq] at g3
 refine aZ 13 rfl (h:=aZ 14 rfl (h:=aZ 15 rfl (h:=aZ 16 rfl (h:=aPT 17 rfl (h:=aM 18 rfl (h:=aZ 19 rfl (h:=aZ 20 rfl (h:=aZ 21 rfl (h:=aZ 22 rfl (h:=aPT 23 rfl (h:=aM 24 rfl (h:=aZ 25 rfl (h:=?_)))))))))))))
 refine aZ 26 rfl (h:=aZ 27 rfl (h:=aZ 28 rfl (h:=aZ 29 rfl (h:=aZ 30 rfl (h:=aZ 31 rfl (h:=aZ 32 rfl (h:=aZ 33 rfl (h:=aZ 34 rfl (h:=aZ 35 rfl (h:=aZ 36 rfl (h:=aZ 37 rfl (h:=aPT 38 rfl (h:=?_)))))))))))))
 refine ZA kr kr ?_
 refine Zd (Zc (t:=true) rfl (fun _=>Za (xA (h:=Zh (ZD (Zq (ZP (ZD (Zq ?_)))))))) (fun h=>Bool.noConfusion h))
 exact ZB .ret (.inl rfl) [_] t1 ⟨Zg (ZbW hm hs (by simp [Zbc,Z1,DFolder.box,g1,g2,g3];try omega)).symm,rfl,rfl⟩
 try simp only [sQ,ne_eq] at g3
 refine aW 13 rfl Zdy (h:=aT 14 rfl (Zab fun D=>Zr rfl rfl ZpI rfl (atL 1 rfl rfl rfl) r4) (h:=aT 15 rfl (Zab fun D=>Zaf rfl rfl ZxO rfl (ZnX _ _ _ _ hg5) r4) (h:=aN 16 rfl (h:=aPF 17 rfl (h:=aM 18 rfl (h:=Zav (d:=35) rfl (fun g4=>?_) (fun g4=>?_)))))))
 try simp only [sQ,ne_eq] at g4
 refine aZ 19 rfl (h:=aZ 20 rfl (h:=aZ 21 rfl (h:=aZ 22 rfl (h:=aPT 23 rfl (h:=aM 24 rfl (h:=aZ 25 rfl (h:=aZ 26 rfl (h:=aZ 27 rfl (h:=aZ 28 rfl (h:=aZ 29 rfl (h:=aZ 30 rfl (h:=aZ 31 rfl (h:=?_)))))))))))))
 refine aZ 32 rfl (h:=aZ 33 rfl (h:=aZ 34 rfl (h:=aZ 35 rfl (h:=aZ 36 rfl (h:=aZ 37 rfl (h:=aPT 38 rfl (h:=ZA kr kr ?_)))))))
 refine Zd (Zc (t:=true) rfl (fun _=>Za (xA (h:=Zh (ZD (Zq (ZP (ZD (Zq ?_)))))))) (fun h=>Bool.noConfusion h))
 exact ZB .ret (.inl rfl) [_] t1 ⟨Zg (ZbW hm hs (by simp [Zbc,Z1,DFolder.box,g1,g2,g3,g4];try omega)).symm,rfl,rfl⟩
 try simp only [sQ,ne_eq] at g4
 refine aW 19 rfl ZbY (h:=aT 20 rfl (Zab fun D=>Zaj [_,_] rfl rfl Zfa rfl (Zb1 1 rfl rfl rfl) r4) (h:=aT 21 rfl (Zab fun D=>Zaf rfl rfl ZwB rfl (ZnW _ _ (⟨m.next,m.mail⟩:DBox) _ hm5) r4) (h:=aN 22 rfl (h:=aPF 23 rfl (h:=aM 24 rfl (h:=Zav (d:=41) rfl (fun g5=>?_) (fun g5=>?_)))))))
 try simp only [sQ,ne_eq] at g5
 refine aZ 25 rfl (h:=aZ 26 rfl (h:=aZ 27 rfl (h:=aZ 28 rfl (h:=aZ 29 rfl (h:=aZ 30 rfl (h:=aZ 31 rfl (h:=aZ 32 rfl (h:=aZ 33 rfl (h:=aZ 34 rfl (h:=aZ 35 rfl (h:=aZ 36 rfl (h:=aZ 37 rfl (h:=?_)))))))))))))
 refine aPT 38 rfl (h:=ZA kr kr ?_)
 refine Zd (Zc (t:=true) rfl (fun _=>Za (xA (h:=Zh (ZD (Zq (ZP (ZD (Zq ?_)))))))) (fun h=>Bool.noConfusion h))
 exact ZB .ret (.inl rfl) [_] t1 ⟨Zg (ZbW hm hs (by simp [Zbc,Z1,DFolder.box,g1,g2,g3,g4,g5];try omega)).symm,rfl,rfl⟩
 try simp only [sQ,ne_eq] at g5
 refine aM 25 rfl (h:=Zne 26 rfl (h:=aM 27 rfl (h:=Zav (d:=44) rfl (fun g6=>?_) (fun g6=>?_))))
 try simp only [sQ,ne_eq] at g6
 refine aW 28 rfl Zar (h:=aT 29 rfl (Zab fun D=>Zr rfl rfl Zew rfl (atL 0 rfl rfl rfl) r4) (h:=aM 30 rfl (h:=aU 31 rfl (h:=?_))))
 obtain ⟨y,hy⟩:=ZsG (xs:=x.folders) (i:=(↑g.1 - 1)) om om
 obtain ⟨_,⟨qg12,cg12,qm12,cm12,rfl,hg12,hm12,hb12,hb12b⟩,hc12⟩:=hf.elem hy
 have hg12n:=hg12.len
 have hm12n:=hm12.len
 have hm12s:=Zal hm12
 refine aIx 32 rfl Tryz.underlying31 ZbO (h:=?_)
 have hpe:=hp.at hy oz
 refine aT 33 rfl (Zab fun D=>Zaj [_,_,_,_,_] rfl rfl Zhx rfl (ZlI hc12 0 rfl rfl) r4) (h:=aT 34 rfl (Zab fun D=>Zaj [_,_,_,_,_] rfl rfl Zhx rfl (Zb1 1 rfl rfl rfl) r4) (h:=aT 35 rfl (Zab fun D=>Zaf rfl rfl ZxY rfl (Zow y m _ _ _ _ _ _ _ _ _) r4) (h:=aN 36 rfl (h:=aPT 37 rfl (h:=aPF 38 rfl (h:=ZA kr kr ?_))))))
 refine Zd (Zc rfl (fun g7=>?_) (fun g7=>?_))
 try simp only [sQ,ne_eq] at g7
 refine Za (xA (h:=Zh (ZD (Zq (ZP (ZD (Zq ?_)))))))
 exact ZB .ret (.inl rfl) [_] t1 ⟨Zg (ZbW hm hs (by simp [Zbc,Z1,DFolder.box,g1,g2,g3,g4,g5,g6,g7,hpe];try omega)).symm,rfl,rfl⟩
 try simp only [sQ,ne_eq] at g7
 refine Zf (ZS (Zd (Zk (xM (h:=xD (h:=xA (h:=?_)))))))
 exact ZG (g.1+1,some m) [0] so2 ⟨rfl,oz,Zcj hm hs (by rw [hpe];simp [Zbc,Z1,DFolder.box,g3,g4,g5,g7];omega),.succ hm⟩ t3 rfl
 try simp only [sQ,ne_eq] at g6
 refine aZ 28 rfl (h:=aZ 29 rfl (h:=aZ 30 rfl (h:=aZ 31 rfl (h:=aZ 32 rfl (h:=aZ 33 rfl (h:=aZ 34 rfl (h:=aZ 35 rfl (h:=aZ 36 rfl (h:=aPF 37 rfl (h:=aPF 38 rfl (h:=ZA kr kr ?_)))))))))))
 refine Zd (Zc (t:=false) rfl (fun h=>Bool.noConfusion h) (fun _=>Zf (ZS (Zd (Zk (xM (h:=xD (h:=xA (h:=?_)))))))))
 exact ZG (g.1+1,some m) [0] so2 ⟨rfl,oz,Zcj hm hs (by rw [hp.at0 oz];simp [Zbc,Z1,DFolder.box,g3,g4,g5];omega),.succ hm⟩ t3 rfl
 try simp only [sQ,ne_eq] at g1
 refine ZH (Z0 (ZM (Zx (Zd (Za (xW Zar (h:=x1 Zew 0 (h:=xV Tryz.underlying31 (h:=Zb3 (h:=xA (h:=Zh ?_)))))))))))
 exact ZB .ret (.inl rfl) [_] t1 ⟨Zg (by rw [ZiM (ZdT hs oz),Bool.eq_iff_iff];simp;try omega),rfl,rfl⟩

set_option maxHeartbeats 400000 in
theorem Zmt (q1 q2 q3:Option Addr) (c1 c2 c3:Nat) (x:DHost) (hd:x.domain.length≤2000000) (B:Kn) (hu:SlK B q1 c1 3 Zn x.users) (hf:SlK B q2 c2 5 Zj x.folders) (hi:SlK B q3 c3 4 Zu x.queue.items):Z9 (pj J) 30 [.agg #[str x.domain,.slice q1 x.users.length c1,.slice q2 x.folders.length c2,.int .i64 x.queue.next,.slice q3 x.queue.items.length c3]] B (.bool (Z7 x)):=by
 refine Zb 87 Tryz.func30 rfl rfl rfl (Nat.le_of_ble_eq_true rfl) ?_
 have hfn:=hf.len
 have hun:=hu.len
 have hin:=hi.len
 refine Za (xBx [_,_,_,_,_] (h:=fun b1=>xA (h:=ZE [_] rfl (Ze (Za (xW Zhd (h:=x1 lk9 0 (h:=xR ZxT rfl (Zjj _ om2 _) (h:=?_)))))))))
 refine xN (h:=xM (h:=Zw (d:=10) rfl (fun g1=>?_) (fun g1=>?_)))
 try simp only [sQ,ne_eq] at g1
 refine xP (h:=xP (h:=xP (h:=xP (h:=xT (h:=xM (h:=xP (h:=xP (h:=xP (h:=xP (h:=xT (h:=xM (h:=xP (h:=?_)))))))))))))
 refine xP (h:=xP (h:=xT (h:=Zc (t:=true) rfl (fun _=>Za (xA (h:=Zh (Zq ?_)))) (fun h=>Bool.noConfusion h))))
 exact ZB .ret (.inl rfl) [_] t1 ⟨Zg (by simp [Z7,g1]),rfl,rfl⟩
 try simp only [sQ,ne_eq] at g1
 refine xW Zbn (h:=x1 ZhA 0 (h:=xR ZxS rfl (Zkt _ _ _ _ hu) (h:=xN (h:=xF (h:=xM (h:=Zw (d:=16) rfl (fun g2=>?_) (fun g2=>?_)))))))
 try simp only [sQ,ne_eq] at g2
 refine xP (h:=xP (h:=xP (h:=xP (h:=xT (h:=xM (h:=xP (h:=xP (h:=xP (h:=xT (h:=Zc (t:=true) rfl (fun _=>Za (xA (h:=?_))) (fun h=>Bool.noConfusion h)))))))))))
 refine Zh (Zq ?_)
 exact ZB .ret (.inl rfl) [_] t1 ⟨Zg (by simp [Z7,g1,g2]),rfl,rfl⟩
 try simp only [sQ,ne_eq] at g2
 refine xW Zd5 (h:=xL [_,_] Zke 0 (h:=xR ZxR rfl (Zku _ _ x.queue _ hi) (h:=xN (h:=xF (h:=xM (h:=Zw (d:=22) rfl (fun g3=>?_) (fun g3=>?_)))))))
 try simp only [sQ,ne_eq] at g3
 refine xP (h:=xP (h:=xP (h:=xT (h:=Zc (t:=true) rfl (fun _=>Za (xA (h:=Zh (Zq ?_)))) (fun h=>Bool.noConfusion h)))))
 exact ZB .ret (.inl rfl) [_] t1 ⟨Zg (by simp [Z7,g1,g2,g3]),rfl,rfl⟩
 try simp only [sQ,ne_eq] at g3
 refine xL [_,_,_,_,_] Zcx 0 (h:=xR ZxQ rfl (ZjG _ _ _ _ _ _ x _ hu hf) (h:=xN (h:=xF (h:=Zc rfl (fun g4=>?_) (fun g4=>?_)))))
 try simp only [sQ,ne_eq] at g4
 refine Za (xA (h:=Zh (Zq ?_)))
 exact ZB .ret (.inl rfl) [_] t1 ⟨Zg (by simp [Z7,g1,g2,g3,g4]),rfl,rfl⟩
 try simp only [sQ,ne_eq] at g4
 refine Zf (Zd (Ze (Za (xA (h:=Zl (ZC (α:=Nat) [0,1,26] (fun k=>[(3,.int .i64 k)]) [] (fun k=>[]) (fun k Bx=>Bx=B∧k≤x.users.length∧∀z,z∈x.users.take k→Za5 x.folders z=true) (fun k=>x.users.length - k) 0 t1 rfl (⟨rfl,Nat.zero_le _,by simp⟩) (fun k B6 hle6 hI=>?_)))))))
 obtain ⟨rfl,hk,ha⟩:=hI
 refine ZF [(0,_),(1,_),(3,_),(26,_)] [_] t4 rfl (Ze (Za (xM (h:=xW Zbn (h:=x1 ZhA 0 (h:=xV Tryz.underlying30 (h:=ZJ (h:=Zc rfl (fun g5=>?_) (fun g5=>?_)))))))))
 try simp only [sQ,ne_eq] at g5
 refine Zf (Zd (Ze (Zl (Ze (Z8 (same _ _) mo kr ⟨rfl,rfl⟩ (fun _ _=>?_))))))
 refine aT 0 rfl (Zab fun D=>Zaj [_,_,_,_,_] rfl rfl Zcx rfl (Zb1 0 rfl rfl rfl) r4) (h:=aW 1 rfl Zbn (h:=aT 2 rfl (Zab fun D=>Zr rfl rfl ZhA rfl (atL 0 rfl rfl rfl) r4) (h:=aM 3 rfl (h:=?_))))
 obtain ⟨w,hw⟩:=ZY (xs:=x.users) (i:=k) om
 obtain ⟨bb8,oo8,rfl⟩:=hu.base hw
 obtain ⟨_,⟨rfl,hb9,hb9b⟩,hc9⟩:=hu.elem hw
 refine aIx 4 rfl Tryz.underlying30 Za3 (h:=aW 5 rfl ZaV (h:=aT 6 rfl (Zab fun D=>Zr rfl rfl lk9 rfl (hc9 _ 0 _ rfl) r4) (h:=aT 7 rfl (Zab fun D=>Zaf rfl rfl Zxs rfl (ZjH _ _ _ _ _ _ x w.name [105,110,98,111,120] om2 om2 _ hf) r4) (h:=?_))))
 refine Zrg 8 rfl (h:=aM 9 rfl (h:=Zav (d:=43) rfl (fun g6=>?_) (fun g6=>?_)))
 try simp only [sQ,ne_eq] at g6
 refine aZ 10 rfl (h:=aZ 11 rfl (h:=aZ 12 rfl (h:=aZ 13 rfl (h:=aZ 14 rfl (h:=aZ 15 rfl (h:=aZ 16 rfl (h:=aZ 17 rfl (h:=aZ 18 rfl (h:=aZ 19 rfl (h:=aZ 20 rfl (h:=aZ 21 rfl (h:=aZ 22 rfl (h:=?_)))))))))))))
 refine aZ 23 rfl (h:=aZ 24 rfl (h:=aPT 25 rfl (h:=ZA kr kr ?_)))
 refine Zd (Zc (t:=true) rfl (fun _=>Za (xA (h:=Zh (ZD (Zq (ZP (ZD (Zq ?_)))))))) (fun h=>Bool.noConfusion h))
 exact ZB .ret (.inl rfl) [_] t1 ⟨Zg (Zg5 hw (Zjc g6)).symm,rfl,rfl⟩
 try simp only [sQ,ne_eq] at g6
 refine aT 10 rfl (Zab fun D=>Zaj [_,_,_,_,_] rfl rfl Zcx rfl (Zb1 0 rfl rfl rfl) r4) (h:=aW 11 rfl Zbn (h:=aT 12 rfl (Zab fun D=>Zr rfl rfl ZhA rfl (atL 0 rfl rfl rfl) r4) (h:=aM 13 rfl (h:=aIx 14 rfl Tryz.underlying30 Za3 (h:=aW 15 rfl ZaV (h:=aT 16 rfl (Zab fun D=>Zr rfl rfl lk9 rfl (hc9 _ 0 _ rfl) r4) (h:=aT 17 rfl (Zab fun D=>Zaf rfl rfl Zxn rfl (ZjF _ _ _ _ _ _ x _ _ hf) r4) (h:=aW 18 rfl Zbn (h:=aT 19 rfl (Zab fun D=>Zr rfl rfl ZhA rfl (atL 0 rfl rfl rfl) r4) (h:=aM 20 rfl (h:=aIx 21 rfl Tryz.underlying30 Za3 (h:=aW 22 rfl Zc1 (h:=?_)))))))))))))
 refine aT 23 rfl (Zab fun D=>Zr rfl rfl lk3 rfl (hc9 _ 2 _ rfl) r4) (h:=Zne 24 rfl (h:=aPF 25 rfl (h:=ZA kr kr ?_)))
 refine Zd (Zc rfl (fun g7=>?_) (fun g7=>?_))
 try simp only [sQ,ne_eq] at g7
 refine Za (xA (h:=Zh (ZD (Zq (ZP (ZD (Zq ?_)))))))
 exact ZB .ret (.inl rfl) [_] t1 ⟨Zg (Zg5 hw (Zjb g7)).symm,rfl,rfl⟩
 try simp only [sQ,ne_eq] at g7
 refine Zf (ZS (Zd (Zk (xM (h:=xD (h:=xA (h:=?_)))))))
 exact ZG (k+1) [0] so2 ⟨rfl,oz,Za7 hw ha (Zja g6 g7)⟩ t4 rfl
 try simp only [sQ,ne_eq] at g5
 refine ZH (Z0 (ZM (Zx (Zd (Ze (Za (xA (h:=Zl (ZC (α:=Nat) [0,1,3,26,31] (fun j=>[(4,.int .i64 j)]) [] (fun j=>[]) (fun j Bx=>Bx=B6∧j≤x.queue.items.length∧∀z,z∈x.queue.items.take j→ZaK x.users z=true) (fun j=>x.queue.items.length - j) 0 t1 rfl (⟨rfl,Nat.zero_le _,by simp⟩) (fun j B12 hle12 hI=>?_))))))))))
 obtain ⟨rfl,hj,hb⟩:=hI
 refine ZF [(0,_),(1,_),(3,_),(4,_),(26,_),(31,_)] [_] t6 rfl (Ze (Za (xM (h:=xW Zd5 (h:=xW Zbx (h:=x1 ZhY 0 (h:=xV Tryz.underlying32 (h:=ZJ (h:=Zc rfl (fun g8=>?_) (fun g8=>?_))))))))))
 try simp only [sQ,ne_eq] at g8
 refine Zf (Zd (Ze (Zl (Za (xW Zd5 (h:=xW Zbx (h:=x1 ZhY 0 (h:=xM (h:=?_)))))))))
 obtain ⟨y,hy⟩:=ZY (xs:=x.queue.items) (i:=j) om
 obtain ⟨bb14,oo14,rfl⟩:=hi.base hy
 obtain ⟨_,⟨qi15,ci15,rfl,hi15,hb15,hb15b⟩,hc15⟩:=hi.elem hy
 have hi15n:=hi15.len
 refine xIx Tryz.underlying32 Zbg (h:=yL [_,_,_,_] Zef hc15 0 (h:=xAl [_,_,_,_] ZeH (h:=fun b16=>xS [_,_,_,_] 1 [_,_,_,_] Zbg (h:=ZE [_,_] rfl (Za (xW Zbn (h:=x1 ZhA 0 (h:=xW ZdZ (h:=x1 lk9 1 (h:=xR Zus rfl (Zeh _ _ _ _ _ hu) (h:=ZJ (h:=xM (h:=?_)))))))))))))
 refine Zw (d:=80) rfl (fun g9=>?_) (fun g9=>?_)
 try simp only [sQ,ne_eq] at g9
 refine xP (h:=xP (h:=xP (h:=xP (h:=xP (h:=xT (h:=Zc (t:=true) rfl (fun _=>Za (xA (h:=Zh (ZD (Zq (ZP (ZD (Zq ?_)))))))) (fun h=>Bool.noConfusion h)))))))
 exact ZB .ret (.inl rfl) [_] t1 ⟨Zg (Zg6 hy (ZiE g9)).symm,rfl,rfl⟩
 try simp only [sQ,ne_eq] at g9
 refine xL [_,_,_,_,_] Zcx 0 (h:=xW Zcc (h:=x1 ZkP 1 (h:=xR Zx5 rfl (ZmL _ _ _ _ _ _ x _ _ y.left _ hu hi15) (h:=xN (h:=xF (h:=Zc rfl (fun ga=>?_) (fun ga=>?_)))))))
 try simp only [sQ,ne_eq] at ga
 refine Za (xA (h:=Zh (ZD (Zq (ZP (ZD (Zq ?_)))))))
 exact ZB .ret (.inl rfl) [_] t1 ⟨Zg (Zg6 hy (ZiD ga)).symm,rfl,rfl⟩
 try simp only [sQ,ne_eq] at ga
 refine Zf (ZS (Zd (Zk (xM (h:=xD (h:=xA (h:=?_)))))))
 exact ZG (j+1) [0] so2 ⟨rfl,oz,Za7 hy hb (ZiC g9 ga)⟩ t6 rfl
 try simp only [sQ,ne_eq] at g8
 refine ZH (Z0 (ZM (Zx (Zd (Za (xA (h:=Zh ?_)))))))
 exact ZB .ret (.inl rfl) [_] t1 ⟨Zg (ZmQ g1 g2 g3 g4 (ZeG (Zbf oz ha)) (ZeG (Zbf oz hb))).symm,rfl,rfl⟩

set_option maxHeartbeats 400000 in
theorem Zmd (q:Option Addr) (cp:Nat) (gs:List DGrant) (B:Kn) (hg:SlK B q cp 2 ZW gs):Zz (pj J) 103 [.slice q gs.length cp] B [] (Zln gs B):=by
 refine Zb 46 Tryz.func103 rfl rfl rfl (Nat.le_of_ble_eq_true rfl) ?_
 have hgn:=hg.len
 refine Za (xA (h:=xA (h:=Ze (Za (xM (h:=xV Tryz.underlying68 (h:=ZcL (h:=Zc rfl (fun g0=>?_) (fun g0=>?_)))))))))
 try simp only [sQ,ne_eq] at g0
 refine Za (xA (h:=xA (h:=Zh (Zq ?_))))
 exact Zhi .ret (.inl rfl) [_,_] t2 (by simp [Zc8];omega)
 try simp only [sQ,ne_eq] at g0
 refine Zf (Zd (Za (Zp (Znu rfl rfl (fun b1 l1 hl1=>xA (h:=ZE [_] rfl (Za (xA (h:=Ze (Za (xM (h:=xV Tryz.underlying68 (h:=xM (h:=?_))))))))))))))
 refine Zl (ZC (α:=Nat × Str × Cells) [0,4,10,12,13] (fun g=>[(5,str g.2.1),(14,.int .i64 g.1)]) [0] (fun g=>[g.2.2]) (fun g Bx=>Bx=B∧g.1≤gs.length∧Zco (gs.take g.1)=(true,g.2.1)∧g.2.1.length≤2000000∧Ztf g.2.2 b1 (Zei (gs.take g.1))) (fun g=>gs.length - g.1) (0,[],_) t2 rfl (⟨rfl,Nat.zero_le _,Ze5,by simp,hl1⟩) (fun g B2 hle2 hI=>?_))
 obtain ⟨rfl,hk,hs,hnm,hml⟩:=hI
 refine ZF [(0,_),(4,_),(5,_),(10,_),(12,_),(13,_),(14,_)] [_] t7 rfl (Za (ZJ (h:=Ze (Zc rfl (fun g1=>?_) (fun g1=>?_)))))
 try simp only [sQ,ne_eq] at g1
 refine Zf (Zd (Ze (Zl (Za ?_))))
 obtain ⟨m,hm⟩:=ZY (xs:=gs) (i:=g.1) om
 obtain ⟨bb4,oo4,rfl⟩:=hg.base hm
 obtain ⟨_,⟨rfl,hb5⟩,hc5⟩:=hg.elem hm
 refine xIx Tryz.underlying68 Zdh (h:=yL [_,_] Zot hc5 0 (h:=xAl [_,_] Zme (h:=fun b6=>xS [_,_] 1 [_,_] Zdh (h:=ZE [_,_] rfl (Ze (Za (xW ZbZ (h:=x1 lk9 1 (h:=xR ZrK rfl (ZbL _ om2 _) (h:=?_))))))))))
 refine xN (h:=xM (h:=Zw (d:=22) rfl (fun g2=>?_) (fun g2=>?_)))
 try simp only [sQ,ne_eq] at g2
 refine xP (h:=xP (h:=xP (h:=xP (h:=xT (h:=Zc (t:=true) rfl (fun _=>Za (xA (h:=xA (h:=Zh (Zq (ZD (Zq (ZP (ZD (Zq ?_)))))))))) (fun h=>Bool.noConfusion h))))))
 exact Zhi .ret (.inl rfl) [_,_] t2 (Zc4 hm hs (by rw [ZbN,Zbi g.2.1 m.user];simp [g2];try omega))
 try simp only [sQ,ne_eq] at g2
 refine xW ZbZ (h:=x1 lk9 1 (h:=xM (h:=Zp (Zrt rfl rfl rfl rfl (xF (h:=Zc rfl (fun g3=>?_) (fun g3=>?_)))))))
 try simp only [sQ,ne_eq] at g3
 refine Za (xA (h:=xA (h:=Zh (Zq (ZD (Zq (ZP (ZD (Zq ?_)))))))))
 exact Zhi .ret (.inl rfl) [_,_] t2 (Zc4 hm hs (by rw [ZbN,Zbi g.2.1 m.user];simp [g3];try omega))
 try simp only [sQ,ne_eq] at g3
 refine Zf (Zd (Ze (Za (xW Zc0 (h:=x1 lk3 1 (h:=ZJ (h:=xM (h:=Zw (d:=31) rfl (fun g4=>?_) (fun g4=>?_)))))))))
 try simp only [sQ,ne_eq] at g4
 refine xP (h:=xP (h:=xP (h:=xP (h:=xT (h:=Zc (t:=true) rfl (fun _=>Za (xA (h:=xA (h:=Zh (Zq (ZD (Zq (ZP (ZD (Zq ?_)))))))))) (fun h=>Bool.noConfusion h))))))
 exact Zhi .ret (.inl rfl) [_,_] t2 (Zc4 hm hs (by rw [ZbN,Zbi g.2.1 m.user];simp [g4];try omega))
 try simp only [sQ,ne_eq] at g4
 refine xW Zc0 (h:=x1 lk3 1 (h:=xR Zyi rfl (Zp8 _ _) (h:=xN (h:=xF (h:=Zc rfl (fun g5=>?_) (fun g5=>?_))))))
 try simp only [sQ,ne_eq] at g5
 refine Za (xA (h:=xA (h:=Zh (Zq (ZD (Zq (ZP (ZD (Zq ?_)))))))))
 exact Zhi .ret (.inl rfl) [_,_] t2 (Zc4 hm hs (Bool.eq_false_iff.2 fun hc=>by simp only [ZbN,Bool.and_eq_true,decide_eq_true_eq] at hc;simp only [Bool.and_eq_false_iff,decide_eq_false_iff_not] at g5;omega))
 try simp only [sQ,ne_eq] at g5
 refine Zf (Zd (Za (xM (h:=xW ZbZ (h:=x1 lk9 1 (h:=xW Zc0 (h:=x1 lk3 1 (h:=Zp (Zkh (k:=m.user) (v:=m.rights) 0 rfl hml rfl rfl Tryz.underlying141 Tryz.underlying9 rfl rfl rfl (fun l9 hl9=>ZE [_,_] rfl (Zk (xW ZbZ (h:=x1 lk9 1 (h:=?_))))))))))))))
 refine xA (h:=ZS (Zd (Zk (xD (h:=xM (h:=?_))))))
 exact ZG (g.1+1,m.user,l9) [0] so2 ⟨rfl,so,Zcj hm hs (by rw [ZbN,Zbi g.2.1 m.user,g2,g3];simp at g5 ⊢;omega),oy,by rw [← Zsv hm hs (by rw [Zbi g.2.1 m.user,g3];rfl)];exact hl9⟩ t7 rfl
 try simp only [sQ,ne_eq] at g1
 refine ZH (Z0 (ZM (Zx (Zd (Za (xM (h:=xA (h:=xA (h:=Zh ?_)))))))))
 exact Zs0 .ret (.inl rfl) [_,_] rfl t2 (by rw [Zkc (ZdT hs oz)];simp;omega) (by have e:=hml;rw [List.take_of_length_le oz] at e;exact e)

set_option maxHeartbeats 400000 in
theorem ZoA (q:Option Addr) (cp:Nat) (gs:List DGrant) (B:Kn) (hg:SlK B q cp 2 ZW gs):Z9 (pj J) 187 [.slice q gs.length cp] B (.bool (Zc8 gs)):=by
 refine Zb 11 Tryz.func187 rfl rfl rfl (Nat.le_of_ble_eq_true rfl) ?_
 refine Za (xA (h:=Za (xM (h:=Zp (ZV rfl rfl Zuz rfl (Zmd _ _ _ _ hg) ?_)))))
 rintro _ B1 _ hle1 ⟨m1,l1,rfl,rfl,rfl,hl1⟩
 refine xM (h:=xE (h:=xE (h:=xA (h:=xA (h:=ZE [_] rfl (Za (xM (h:=xA (h:=Zh ?_)))))))))
 exact ZB .ret (.inl rfl) [_] t1 ⟨rfl,rfl,rfl⟩

set_option maxHeartbeats 400000 in
theorem ZuE (a b:Str) (B:Kn):Z9 (pj J) 173 [str a,str b] B (.int .i64 (Lib.compareBytes a b)):=by
 refine Zb 8 Tryz.func173 rfl rfl rfl (Nat.le_of_ble_eq_true rfl) ?_
 refine Za (xA (h:=Za (xM (h:=xM (h:=Zp (Zvf (fn:=Tryz.f200) rfl rfl Tryz.func200 rfl rfl Zuk Zul rfl rfl (xA (h:=Zh ?_))))))))
 exact ZB .ret (.inl rfl) [_] t1 ⟨rfl,rfl,rfl⟩

set_option maxHeartbeats 400000 in
theorem ZrL (a b:Str) (B:Kn):Z9 (pj J) 127 [str a,str b] B (.int .i64 (Lib.compareBytes a b)):=by
 refine Zb 8 Tryz.func127 rfl rfl rfl (Nat.le_of_ble_eq_true rfl) ?_
 refine Za (xA (h:=Za (xM (h:=xM (h:=xR Zwd rfl (ZuE a b _) (h:=xA (h:=Zh ?_)))))))
 exact ZB .ret (.inl rfl) [_] t1 ⟨rfl,rfl,rfl⟩

set_option maxHeartbeats 400000 in
theorem Zk8 (f:DFolder) (qa qb:Option Addr) (ca cb:Nat) (ow nm:Str) (B:Kn):Z9 (pj J) 75 [.agg #[str f.owner,str f.name,.slice qa f.grants.length ca,.int .i64 f.next,.slice qb f.mail.length cb],str ow,str nm] B (.int .i64 (ZuD f ow nm)):=by
 refine Zb 19 Tryz.func75 rfl rfl rfl (Nat.le_of_ble_eq_true rfl) ?_
 refine Za (xBx [_,_,_,_,_] (h:=fun b1=>xA (h:=ZE [_] rfl (Ze (Za (xW Zbw (h:=x1 lk9 0 (h:=xM (h:=xR Zux rfl (ZrL f.owner ow _) (h:=xA (h:=Za (xM (h:=?_)))))))))))))
 refine ZaN (h:=Zc rfl (fun g1=>?_) (fun g1=>?_))
 try simp only [sQ,ne_eq] at g1
 refine Za (xM (h:=xA (h:=Zh (Zq ?_))))
 exact ZB .ret (.inl rfl) [_] t1 ⟨ZI (by rw [ZuD,if_pos g1]),rfl,rfl⟩
 try simp only [sQ,ne_eq] at g1
 refine Zf (Zd (Za (xW Zdz (h:=x1 lk9 0 (h:=xM (h:=xR Zux rfl (ZrL f.name nm _) (h:=xA (h:=Zh ?_))))))))
 exact ZB .ret (.inl rfl) [_] t1 ⟨ZI (by rw [ZuD,if_neg (fun h=>h g1)]),rfl,rfl⟩

set_option maxHeartbeats 400000 in
theorem ZtG (b o:Nat) (q1 q2 q3:Option Addr) (c1 c2 c3:Nat) (x:DHost) (u:Str) (B:Kn) (hh:Zaq B b o [str x.domain,.slice q1 x.users.length c1,.slice q2 x.folders.length c2,.int .i64 x.queue.next,.slice q3 x.queue.items.length c3]) (hf:SlK B q2 c2 5 Zj x.folders):Z9 (pj J) 166 [ptr ⟨b,o,none⟩,str u] B (.int .i64 (ZeI x.folders u)):=by
 refine Zb 28 Tryz.func166 rfl rfl rfl (Nat.le_of_ble_eq_true rfl) ?_
 have hfn:=hf.len
 refine Za (xA (h:=Za (xA (h:=Ze (Za (xM (h:=xNc (h:=xW Zar (h:=Zp (Zr rfl rfl Zew rfl (hh _ 2 _ rfl) (xV Tryz.underlying31 (h:=xM (h:=Zl ?_)))))))))))))
 refine ZC (α:=Nat × Int) [0,1,4,11,12] (fun g=>[(5,.int .i64 g.2),(13,.int .i64 g.1)]) [] (fun g=>[]) (fun g Bx=>Bx=B∧g.1≤x.folders.length∧g.2=ZeI (x.folders.take g.1) u∧-1*g.1≤g.2∧g.2≤g.1*200) (fun g=>x.folders.length - g.1) (0,0) t2 rfl (⟨rfl,Nat.zero_le _,by simp [ZeI],by simp,by simp⟩) (fun g B1 hle1 hI=>?_)
 obtain ⟨rfl,hk,hs,hl0,hl1⟩:=hI
 refine ZF [(0,_),(1,_),(4,_),(5,_),(11,_),(12,_),(13,_)] [] t7 rfl (Za (ZJ (h:=Ze (Zc rfl (fun g1=>?_) (fun g1=>?_)))))
 try simp only [sQ,ne_eq] at g1
 refine Zf (Zd (Ze (Zl (Za ?_))))
 obtain ⟨m,hm⟩:=ZY (xs:=x.folders) (i:=g.1) om
 obtain ⟨bb3,oo3,rfl⟩:=hf.base hm
 obtain ⟨_,⟨qg4,cg4,qm4,cm4,rfl,hg4,hm4,hb4,hb4b⟩,hc4⟩:=hf.elem hm
 have hg4n:=hg4.len
 have hm4n:=hm4.len
 have hm4s:=Zal hm4
 refine xIx Tryz.underlying31 ZbO (h:=yL [_,_,_,_,_] Zhx hc4 0 (h:=xAl [_,_,_,_,_] ZfR (h:=fun b5=>xS [_,_,_,_,_] 0 [_,_,_,_,_] ZbO (h:=ZE [_] rfl (Za (xW Zbw (h:=x1 lk9 0 (h:=xM (h:=Zdp (h:=Zc rfl (fun g2=>?_) (fun g2=>?_)))))))))))
 try simp only [sQ,ne_eq] at g2
 have hbs:=Zib (⟨m.next,m.mail⟩:DBox)
 refine Zk (xM (h:=xW ZbY (h:=xL [_,_] Zfa 0 (h:=xR ZvV rfl (Zps _ _ (⟨m.next,m.mail⟩:DBox) _ hm4) (h:=xD (h:=xA (h:=ZS (Zd (Zk (xD (h:=xM (h:=?_))))))))))))
 exact ZG (g.1+1,g.2+Zdk ⟨m.next,m.mail⟩) [] so2 ⟨rfl,so,by rw [ZhK hm,← hs,if_pos g2],so,so⟩ t7 rfl
 try simp only [sQ,ne_eq] at g2
 refine Zf (ZS (Zd (Zk (xD (h:=xM (h:=?_))))))
 exact ZG (g.1+1,g.2) [] so2 ⟨rfl,so,by rw [ZhK hm,← hs,if_neg g2,Int.add_zero],so,so⟩ t7 rfl
 try simp only [sQ,ne_eq] at g1
 refine ZH (Z0 (ZM (Zx (Zd (Za (xM (h:=xA (h:=Zh ?_))))))))
 exact ZB .ret (.inl rfl) [_] t1 ⟨ZI (by rw [← ZnC hs oz]),rfl,rfl⟩

set_option maxHeartbeats 400000 in
theorem ZjZ (b o:Nat) (q1 q2 q3:Option Addr) (c1 c2 c3:Nat) (x:DHost) (u:Str) (more:Int) (hn:u.length≤2000000) (hm0:0≤more) (hm1:more≤2000000) (B:Kn) (hh:Zaq B b o [str x.domain,.slice q1 x.users.length c1,.slice q2 x.folders.length c2,.int .i64 x.queue.next,.slice q3 x.queue.items.length c3]) (hu:SlK B q1 c1 3 Zn x.users) (hf:SlK B q2 c2 5 Zj x.folders):Z9 (pj J) 121 [ptr ⟨b,o,none⟩,str u,.int .i64 more] B (.bool (ZbA x u more)):=by
 refine Zb 30 Tryz.func121 rfl rfl rfl (Nat.le_of_ble_eq_true rfl) ?_
 have hfn:=hf.len
 have hub:=ZpS x.folders u
 refine Za (xA (h:=Za (xM (h:=xNc (h:=xW Zbn (h:=Zp (Zr rfl rfl ZhA rfl (hh _ 1 _ rfl) (xM (h:=xR ZuA rfl (ZgO _ _ _ u om2 _ hu) (h:=?_))))))))))
 refine xM (h:=xE (h:=xE (h:=xAl [_,_,_] ZdK (h:=fun b2=>xS [_,_,_] 0 [_,_,_] Za3 (h:=xA (h:=ZE [_] rfl (Ze (Z8 (same _ _) mo kr ⟨rfl,rfl⟩ (fun _ _=>?_)))))))))
 refine aM 0 rfl (h:=aN 1 rfl (h:=aM 2 rfl (h:=Zav (d:=20) rfl (fun g1=>?_) (fun g1=>?_))))
 try simp only [sQ,ne_eq] at g1
 refine aZ 3 rfl (h:=aZ 4 rfl (h:=aZ 5 rfl (h:=aZ 6 rfl (h:=aZ 7 rfl (h:=aZ 8 rfl (h:=aZ 9 rfl (h:=aZ 10 rfl (h:=aPT 11 rfl (h:=aA 12 rfl (h:=ZA kr kr ?_))))))))))
 refine Zd (Zh ?_)
 exact ZB .ret (.inl rfl) [_] t1 ⟨Zg (by rw [ZbA,g1];rfl),rfl,rfl⟩
 try simp only [sQ,ne_eq] at g1
 refine aM 3 rfl (h:=aM 4 rfl (h:=aT 5 rfl (Zab fun D=>Zaf rfl rfl Zwh rfl (ZtG _ _ _ _ _ _ _ _ x u _ hh hf) r4) (h:=aM 6 rfl (h:=aD 7 rfl (h:=aW 8 rfl Zc1 (h:=aT 9 rfl (Zab fun D=>Zr rfl rfl lk3 rfl (atL 0 rfl rfl rfl) r4) (h:=Zne 10 rfl (h:=aPF 11 rfl (h:=aA 12 rfl (h:=ZA kr kr ?_))))))))))
 refine Zd (Zh ?_)
 exact ZB .ret (.inl rfl) [_] t1 ⟨Zg (by rw [ZbA,g1];rfl),rfl,rfl⟩

set_option maxHeartbeats 400000 in
theorem Zmj (b o:Nat) (q1 q2 q3:Option Addr) (c1 c2 c3:Nat) (x:DHost) (B:Kn) (hh:Zaq B b o [str x.domain,.slice q1 x.users.length c1,.slice q2 x.folders.length c2,.int .i64 x.queue.next,.slice q3 x.queue.items.length c3]) (hu:SlK B q1 c1 3 Zn x.users) (hf:SlK B q2 c2 5 Zj x.folders):Z9 (pj J) 152 [ptr ⟨b,o,none⟩] B (.bool (ZgN x)):=by
 refine Zb 26 Tryz.func152 rfl rfl rfl (Nat.le_of_ble_eq_true rfl) ?_
 have hfn:=hf.len
 have hun:=hu.len
 refine Za (xA (h:=Ze (Za (xM (h:=xNc (h:=xW Zbn (h:=Zp (Zr rfl rfl ZhA rfl (hh _ 1 _ rfl) (xV Tryz.underlying30 (h:=xM (h:=Zl (ZC (α:=Nat) [0,8,9] (fun k=>[(10,.int .i64 k)]) [] (fun k=>[]) (fun k Bx=>Bx=B∧k≤x.users.length∧∀z,z∈x.users.take k→Zci x z=true) (fun k=>x.users.length - k) 0 t1 rfl (⟨rfl,Nat.zero_le _,by simp⟩) (fun k B1 hle1 hI=>?_)))))))))))))
 obtain ⟨rfl,hk,ha⟩:=hI
 refine ZF [(0,_),(8,_),(9,_),(10,_)] [] t4 rfl (Za (ZJ (h:=Ze (Zc rfl (fun g1=>?_) (fun g1=>?_)))))
 try simp only [sQ,ne_eq] at g1
 refine Zf (Zd (Ze (Zl (Za ?_))))
 obtain ⟨w,hw⟩:=ZY (xs:=x.users) (i:=k) om
 obtain ⟨bb3,oo3,rfl⟩:=hu.base hw
 obtain ⟨_,⟨rfl,hb4,hb4b⟩,hc4⟩:=hu.elem hw
 refine xIx Tryz.underlying30 Za3 (h:=yL [_,_,_] ZeK hc4 0 (h:=xAl [_,_,_] ZdK (h:=fun b5=>xS [_,_,_] 0 [_,_,_] Za3 (h:=ZE [_] rfl (Za (xM (h:=xW ZaV (h:=x1 lk9 0 (h:=xR Zxo rfl (ZrJ _ _ _ _ _ _ _ _ x w.name [105,110,98,111,120] om2 om2 _ hh hf) (h:=?_))))))))))
 refine ZJ (h:=xM (h:=Zw (d:=19) rfl (fun g2=>?_) (fun g2=>?_)))
 try simp only [sQ,ne_eq] at g2
 refine xP (h:=xP (h:=xP (h:=xP (h:=xT (h:=Zc (t:=true) rfl (fun _=>Za (xA (h:=Zh (ZD (Zq (ZP (ZD (Zq ?_)))))))) (fun h=>Bool.noConfusion h))))))
 exact ZB .ret (.inl rfl) [_] t1 ⟨Zg (Zdg hw (Zjf g2)).symm,rfl,rfl⟩
 try simp only [sQ,ne_eq] at g2
 refine xM (h:=xW ZaV (h:=x1 lk9 0 (h:=xR Zuy rfl (ZjZ _ _ _ _ _ _ _ _ x w.name 0 om2 om2 om2 _ hh hu hf) (h:=?_))))
 refine xF (h:=Zc rfl (fun g3=>?_) (fun g3=>?_))
 try simp only [sQ,ne_eq] at g3
 refine Za (xA (h:=Zh (ZD (Zq (ZP (ZD (Zq ?_)))))))
 exact ZB .ret (.inl rfl) [_] t1 ⟨Zg (Zdg hw (Zje g3)).symm,rfl,rfl⟩
 try simp only [sQ,ne_eq] at g3
 refine Zf (ZS (Zd (Zk (xD (h:=xM (h:=?_))))))
 exact ZG (k+1) [] so2 ⟨rfl,oz,Za7 hw ha (Zjd g2 g3)⟩ t4 rfl
 try simp only [sQ,ne_eq] at g1
 refine ZH (Z0 (ZM (Zx (Zd (Za (xA (h:=Zh ?_)))))))
 exact ZB .ret (.inl rfl) [_] t1 ⟨Zg (ZeG (Zbf oz ha)).symm,rfl,rfl⟩

set_option maxHeartbeats 400000 in
theorem ZqC (q:Option Addr) (cp:Nat) (bs:List Bool) (v:Bool) (B:Kn) (hb:SlK B q cp 1 Zlo bs):Z9 (pj J) 224 [.slice q bs.length cp,.bool v] B (.int .i64 (ZcX (fun y=>decide (v=y)) bs)):=by
 refine Zb 19 Tryz.func224 rfl rfl rfl (Nat.le_of_ble_eq_true rfl) ?_
 have hbn:=hb.len
 refine Za (xA (h:=Ze (Za (xM (h:=xV Tryz.underlying235 (h:=xM (h:=Zl (ZC (α:=Nat) [0,1,7] (fun k=>[(8,.int .i64 k)]) [] (fun k=>[]) (fun k Bx=>Bx=B∧k≤bs.length∧∀y,y∈bs.take k→decide (v=y)=false) (fun k=>bs.length - k) 0 t1 rfl (⟨rfl,Nat.zero_le _,by simp⟩) (fun k B1 hle1 hI=>?_)))))))))
 obtain ⟨rfl,hk,ha⟩:=hI
 refine ZF [(0,_),(1,_),(7,_),(8,_)] [] t4 rfl (Za (ZJ (h:=Ze (Zc rfl (fun g1=>?_) (fun g1=>?_)))))
 try simp only [sQ,ne_eq] at g1
 refine Zf (Zd (Ze (Zl (Za (xM (h:=xA (h:=Za (xM (h:=xM (h:=xM (h:=?_)))))))))))
 obtain ⟨y,hy⟩:=ZY (xs:=bs) (i:=k) om
 obtain ⟨bb3,oo3,rfl⟩:=hb.base hy
 obtain ⟨_,rfl,hc4⟩:=hb.elem hy
 refine xIx Tryz.underlying235 sz4 (h:=y1 lk4 hc4 0 (h:=Zp (Znw rfl rfl rfl rfl rfl (Zuq Tryz.underlying4) (Zc rfl (fun g2=>?_) (fun g2=>?_)))))
 try simp only [sQ,ne_eq] at g2
 refine Za (xM (h:=xA (h:=Zh (ZD (Zq (ZP (ZD (Zq ?_))))))))
 exact ZB .ret (.inl rfl) [_] t1 ⟨ZI (ZgC hy (decide_eq_true g2) ha).symm,rfl,rfl⟩
 try simp only [sQ,ne_eq] at g2
 refine Zf (ZS (Zd (Zk (xD (h:=xM (h:=?_))))))
 exact ZG (k+1) [] so2 ⟨rfl,oz,Za7 hy ha (decide_eq_false g2)⟩ t4 rfl
 try simp only [sQ,ne_eq] at g1
 refine ZH (Z0 (ZM (Zx (Zd (Za (xA (h:=Zh ?_)))))))
 exact ZB .ret (.inl rfl) [_] t1 ⟨ZI (Zek (Zbf oz ha)).symm,rfl,rfl⟩

set_option maxHeartbeats 400000 in
theorem Zlg (q:Option Addr) (cp:Nat) (bs:List Bool) (v:Bool) (B:Kn) (hb:SlK B q cp 1 Zlo bs):Z9 (pj J) 189 [.slice q bs.length cp,.bool v] B (.bool (decide (0≤ZcX (fun y=>decide (v=y)) bs))):=by
 refine Zb 9 Tryz.func189 rfl rfl rfl (Nat.le_of_ble_eq_true rfl) ?_
 refine Za (xA (h:=Za (xM (h:=xM (h:=xR ZvP rfl (ZqC _ _ _ _ _ hb) (h:=Zd6 (h:=xA (h:=Zh ?_))))))))
 exact ZB .ret (.inl rfl) [_] t1 ⟨rfl,rfl,rfl⟩

set_option maxHeartbeats 400000 in
theorem ZjM (l:Str) (hl:l.length≤2000000) (B:Kn):Z9 (pj J) 149 [str l] B (.bool (Zct l)):=by
 refine Zb 16 Tryz.func149 rfl rfl rfl (Nat.le_of_ble_eq_true rfl) ?_
 refine Za (xA (h:=Za (xM (h:=xB [(0,_)] [_,_] [_,_] ZtW ZpK (h:=xAl [_,_] ZpK (h:=fun b1=>xS [_,_] 0 [_,_] ZtP (h:=ZE [_] rfl (Za (Zp (ZhH 0 rfl rfl rfl Zv6 rfl (Zq0 _ _ 0 oz oz _) ?_))))))))))
 refine xM (h:=xE (h:=xE (h:=xA (h:=xA (h:=Za (xM (h:=xM (h:=Zw (d:=13) rfl (fun g1=>?_) (fun g1=>?_)))))))))
 try simp only [sQ,ne_eq] at g1
 refine Zp (Zi2 0 rfl rfl rfl ZqZ rfl (Zl7 _ _ (dom l 0).2 (ZuC (Nat.zero_le _)) oz _) ?_)
 refine xT (h:=xA (h:=Zh ?_))
 exact ZB .ret (.inl rfl) [_] t1 ⟨Zg (by rw [Bool.eq_iff_iff,← Zj0];simp [Zle] at g1;simp [g1];try omega),rfl,rfl⟩
 try simp only [sQ,ne_eq] at g1
 refine xP (h:=xF (h:=xA (h:=Zh ?_)))
 exact ZB .ret (.inl rfl) [_] t1 ⟨Zg (by symm;rw [Bool.eq_false_iff,ne_eq,← Zj0];intro hc;simp [Zle,hc.1] at g1;omega),rfl,rfl⟩

set_option maxHeartbeats 800000 in
theorem ZiL (Wg C n i b o b1 b3 b5 b6:Nat) (q1 q2 q3:Option Addr) (c1 c2 c3:Nat) (x:DHost) (m:DFolder) (qg qm:Option Addr) (cg cm:Nat) (hin:i<n) (B:Kn) (hc900:Zaq B b o [str x.domain,.slice q1 x.users.length c1,.slice q2 x.folders.length c2,.int .i64 x.queue.next,.slice q3 x.queue.items.length c3]) (hu:SlK B q1 c1 3 Zn x.users) (hc901:Zaq B b1 0 [ptr ⟨b,o,none⟩]) (hc903:Zaq B b3 0 [.slice (some ⟨C,0,none⟩) n n]) (hc905:Zaq B b5 0 [.int .i64 i]) (hc906:Zaq B b6 0 [str m.owner,str m.name,.slice qg m.grants.length cg,.int .i64 m.next,.slice qm m.mail.length cm]) (hg:SlK B qg cg 2 ZW m.grants) (hm:SlK B qm cm 3 ZZ m.mail) (ho:m.owner.length≤2000000) (hnm:m.name.length≤2000000):@Zd3 ⟨4⟩ Tryz.prog wgL.tWg Wg C n i (.bool (ZaD x.users m)) (Go.Conc.G (Frame.enter Tryz.prog 185 #[ptr ⟨Wg,0,none⟩,ptr ⟨b1,0,none⟩,ptr ⟨b6,0,none⟩,ptr ⟨b3,0,none⟩,ptr ⟨b5,0,none⟩] .deferred) [Zfl Tryz.prog]) B []:=by
 letI:Go.ConcR.Payload:=⟨4⟩
 refine ZrT (Lk:=wgL) (P:=Tryz.prog) (caps:=[ptr ⟨Wg,0,none⟩,ptr ⟨b1,0,none⟩,ptr ⟨b6,0,none⟩,ptr ⟨b3,0,none⟩,ptr ⟨b5,0,none⟩]) (nt:=27) (I:=keeps B [] []) (K:=fun _ _ _ _=>False) Zkf Tryz.func185 rfl rfl (Nat.le_of_ble_eq_true rfl) rfl mo kr ⟨Kn.le.refl _,ZbU.refl _ _⟩ (fun _ _ _ _ h=>h) ?_
 refine aT 0 rfl (Z5 fun D B L hI=>Zr rfl rfl Zt5 rfl ((hc903.mono hI.1) _ 0 _ rfl) r4) (h:=aT 1 rfl (Z5 fun D B L hI=>Zr rfl rfl lk3 rfl ((hc905.mono hI.1) _ 0 _ rfl) r4) (h:=aT 2 rfl (Z5 fun D B L hI=>Zr rfl rfl Zvz rfl ((hc901.mono hI.1) _ 0 _ rfl) r4) (h:=aW 3 rfl Zbw (h:=aT 4 rfl (Z5 fun D B L hI=>Zr rfl rfl lk9 rfl ((hc906.mono hI.1) _ 0 _ rfl) r4) (h:=aT 5 rfl (Z5 fun D B L hI=>Zaf rfl rfl ZuX rfl (ZgB _ _ _ _ _ _ _ _ x m.owner om2 _ (hc900.mono hI.1) (hu.mono Zn.mono hI.1)) r4) (h:=?_))))))
 refine aM 6 rfl (h:=Zav (d:=11) rfl (fun g1=>?_) (fun g1=>?_))
 try simp only [sQ,ne_eq] at g1
 refine aW 7 rfl Zdz (h:=aT 8 rfl (Z5 fun D B L hI=>Zr rfl rfl lk9 rfl ((hc906.mono hI.1) _ 1 _ rfl) r4) (h:=aT 9 rfl (Z5 fun D B L hI=>Zaf rfl rfl ZrK rfl (ZbL _ om2 _) r4) (h:=?_)))
 refine aPT 10 rfl (h:=aM 11 rfl (h:=Zav (d:=16) rfl (fun g2=>?_) (fun g2=>?_)))
 try simp only [sQ,ne_eq] at g2
 refine aW 12 rfl Zdy (h:=aT 13 rfl (Z5 fun D B L hI=>Zr rfl rfl ZpI rfl ((hc906.mono hI.1) _ 2 _ rfl) r4) (h:=aT 14 rfl (Z5 fun D B L hI=>Zaf rfl rfl Zv3 rfl (ZoA _ _ _ _ (hg.mono ZW.mono hI.1)) r4) (h:=aPT 15 rfl (h:=aM 16 rfl (h:=Zav (d:=21) rfl (fun g3=>?_) (fun g3=>?_))))))
 try simp only [sQ,ne_eq] at g3
 refine aW 17 rfl ZbY (h:=aT 18 rfl (Z5 fun D B L hI=>Zaj [_,_] rfl rfl Zfa rfl (ZlI (hc906.mono hI.1) 3 rfl rfl) r4) (h:=aT 19 rfl (Z5 fun D B L hI=>Zaf rfl rfl Zs4 rfl (Zg4 _ _ (⟨m.next,m.mail⟩:DBox) _ (hm.mono ZZ.mono hI.1)) r4) (h:=aPT 20 rfl (h:=aT 21 rfl (Z5 fun D B L hI=>ZbB rfl rfl Tryz.underlying235 sz4 rfl rfl oz oz r4) (h:=?_)))))
 refine ZgF 22 kr rfl kr kr kr (fun T hn hT=>?_)
 refine Zfp (L:=[]) hT Zkf (by simp [ZaD,DFolder.box,g1,g2,g3]) rfl hin rfl Tryz.sizeOf4 (ZcB sz4) (by exact Zgz C i) rfl kr Tryz.func185 rfl
 try simp only [sQ,ne_eq] at g3
 refine aZ 17 rfl (h:=aZ 18 rfl (h:=aZ 19 rfl (h:=aPF 20 rfl (h:=aT 21 rfl (Z5 fun D B L hI=>ZbB rfl rfl Tryz.underlying235 sz4 rfl rfl oz oz r4) (h:=?_)))))
 refine ZgF 22 kr rfl kr kr kr (fun T hn hT=>?_)
 refine Zfp (L:=[]) hT Zkf (by simp [ZaD,DFolder.box,g1,g2,g3]) rfl hin rfl Tryz.sizeOf4 (ZcB sz4) (by exact Zgz C i) rfl kr Tryz.func185 rfl
 try simp only [sQ,ne_eq] at g2
 refine aZ 12 rfl (h:=aZ 13 rfl (h:=aZ 14 rfl (h:=aPF 15 rfl (h:=aM 16 rfl (h:=aZ 17 rfl (h:=aZ 18 rfl (h:=aZ 19 rfl (h:=aPF 20 rfl (h:=aT 21 rfl (Z5 fun D B L hI=>ZbB rfl rfl Tryz.underlying235 sz4 rfl rfl oz oz r4) (h:=?_))))))))))
 refine ZgF 22 kr rfl kr kr kr (fun T hn hT=>?_)
 refine Zfp (L:=[]) hT Zkf (by simp [ZaD,DFolder.box,g1,g2]) rfl hin rfl Tryz.sizeOf4 (ZcB sz4) (by exact Zgz C i) rfl kr Tryz.func185 rfl
 try simp only [sQ,ne_eq] at g1
 refine aZ 7 rfl (h:=aZ 8 rfl (h:=aZ 9 rfl (h:=aPF 10 rfl (h:=aM 11 rfl (h:=aZ 12 rfl (h:=aZ 13 rfl (h:=aZ 14 rfl (h:=aPF 15 rfl (h:=aM 16 rfl (h:=aZ 17 rfl (h:=aZ 18 rfl (h:=aZ 19 rfl (h:=?_)))))))))))))
 refine aPF 20 rfl (h:=aT 21 rfl (Z5 fun D B L hI=>ZbB rfl rfl Tryz.underlying235 sz4 rfl rfl oz oz r4) (h:=?_))
 refine ZgF 22 kr rfl kr kr kr (fun T hn hT=>?_)
 refine Zfp (L:=[]) hT Zkf (by simp [ZaD,DFolder.box,g1]) rfl hin rfl Tryz.sizeOf4 (ZcB sz4) (by exact Zgz C i) rfl kr Tryz.func185 rfl

set_option maxHeartbeats 1600000 in
theorem ZhD (hJ:Joins Tryz.prog J) (b o:Nat) (q1 q2 q3:Option Addr) (c1 c2 c3:Nat) (x:DHost) (B:Kn) (hc900:Zaq B b o [str x.domain,.slice q1 x.users.length c1,.slice q2 x.folders.length c2,.int .i64 x.queue.next,.slice q3 x.queue.items.length c3]) (hu:SlK B q1 c1 3 Zn x.users) (hf:SlK B q2 c2 5 Zj x.folders):Zz (pj J) 151 [ptr ⟨b,o,none⟩] B [] (fun v B' Ls=>Ls=[]∧v = .bool (x.folders.all (ZaD x.users))):=by
 have hfn:=hf.len
 letI:Go.ConcR.Payload:=⟨4⟩
 refine Zq5 30 Tryz.func151 rfl rfl (Nat.le_of_ble_eq_true rfl) fun X kind c cs F T0 hk hke hA hn0 hT0=>?_
 let C0:Cx (pj J):=⟨X,fb 151 kind,c :: cs,F,hke⟩
 refine Zeo (C:=C0) (L:=[]) (Zh9 (C:=C0) (L:=[]) hn0 hT0 (xBx [_] (h:=fun b1=>xA (h:=?_))))
 intro T1 hn1 hT1
 refine Zj2 (C:=C0) rfl 0 rfl fun B1 hle1 hm1=>?_
 have hc901:=ZaW hm1
 replace hc900:=hc900.mono hle1
 replace hu:=hu.mono Zn.mono hle1
 replace hf:=hf.mono Zj.mono hle1
 replace hA:=fun v B' Ls' h=>hA v B' Ls' (hle1.trans h)
 refine Zeo (C:=C0) (L:=[[]]) (Zh9 (C:=C0) (L:=[[]]) hn1 hT1 (y1 Zvz hc901 0 (h:=xNc (h:=xW Zar (h:=y1 Zew hc900 2 (h:=xV Tryz.underlying31 (h:=Zp (ZaR (m:=x.folders.length) (c:=x.folders.length) (by_:=1) [.bool false] rfl rfl ZvI zo4 rfl rfl ⟨_,_,rfl,rfl⟩ ⟨_,_,rfl,rfl⟩ (Nat.le_refl _) oz (fun Cb=>?_)))))))))
 refine xAl [_] Zu3 (h:=fun b2=>xS [_] 2 [_] Zvr (h:=?_))
 intro T2 hn2 hT2
 refine Zj2 (C:=C0) rfl 2 rfl fun B2 hle2 hm2=>?_
 have hc903:=ZaW hm2
 replace hc900:=hc900.mono hle2
 replace hu:=hu.mono Zn.mono hle2
 replace hf:=hf.mono Zj.mono hle2
 replace hc901:=hc901.mono hle2
 replace hA:=fun v B' Ls' h=>hA v B' Ls' (hle2.trans h)
 refine Zeo (C:=C0) (L:=[[],Zae Cb (zrow [.bool false] x.folders.length) 4,[]]) (ZfL (C:=C0) (L:=[[],Zae Cb (zrow [.bool false] x.folders.length) 4,[]]) (Zqg (C:=Cb) (n:=x.folders.length) (val:=ZpH x) (L₁:=F) (cells:=(zrow [.bool false] x.folders.length).toArray) (i:=0) (todo:=[]) hJ rfl hke Zu2 rfl oz (by simp [ZbQ]) (.refl _) (fun hmain Wg hW1 hW2=>?_)))
 let C1:Cx (.lone Tryz.prog):=⟨phL Tryz.prog 245 Wg Cb x.folders.length (ZpH x) X.R .a5 (0),fb 151 kind,c :: cs,F,hke⟩
 have hT3:=hT2.putT (n:=30) (dst:=some 4) hn2 rfl (ptr ⟨Wg,0,none⟩)
 have hn3:(putT T2 (some 4) (ptr ⟨Wg,0,none⟩)).size=30:=by rw [ZaX,hn2]
 refine ZcF (C:=C1) (L:=[]) (Zeo (C:=C1) (L:=[]) (Zeo (C:=C1) (L:=[]) (Zh9 (C:=C1) (L:=[]) hn3 hT3 (y1 Zvz hc901 0 (h:=xNc (h:=xW Zar (h:=y1 Zew hc900 2 (h:=xV Tryz.underlying31 (h:=xM (h:=?_))))))))))
 intro T4 hn4 hT4
 refine Zl9 (C:=C1) (L:=[]) (Zsg (nt:=30) (fun j=>[(1,ptr ⟨b1,0,none⟩),(3,ptr ⟨b2,0,none⟩),(4,ptr ⟨Wg,0,none⟩),(16,.slice q2 x.folders.length c2),(17,.int .i64 x.folders.length),(18,.int .i64 ((j:Nat):Int))]) (fun j hj B3 T5 hle3 hn5 hT5 hnext=>?_) hn4 (hT4.sub' t6))
 replace hc900:=hc900.mono hle3
 replace hu:=hu.mono Zn.mono hle3
 replace hf:=hf.mono Zj.mono hle3
 replace hc901:=hc901.mono hle3
 replace hc903:=hc903.mono hle3
 replace hA:=fun v B' Ls' h=>hA v B' Ls' (hle3.trans h)
 let C2:Cx (.lone Tryz.prog):=⟨phL Tryz.prog 245 Wg Cb x.folders.length (ZpH x) X.R .a5 (j),fb 151 kind,c :: cs,F,hke⟩
 refine Zeo (C:=C2) (L:=[]) (Zh9 (C:=C2) (L:=[]) hn5 hT5 (ZJ (h:=?_)))
 intro T6 hn6 hT6
 refine Zeo (C:=C2) (L:=[]) ?_
 rcases Nat.lt_or_ge j x.folders.length with hlt | hge
 refine Zpk (C:=C2) (L:=[]) (t:=true) (by exact congrArg (fun t=>some (Value.bool t)) (decide_eq_true oz)) hT6 ?_
 refine Zs7 (C:=C2) (L:=[]) (Zeo (C:=C2) (L:=[]) (Zl9 (C:=C2) (L:=[]) (Zeo (C:=C2) (L:=[]) (Zh9 (C:=C2) (L:=[]) hn6 hT6 (xM (h:=?_))))))
 obtain ⟨m,hm⟩:=ZY (xs:=x.folders) (i:=j) om
 obtain ⟨bb4,oo4,rfl⟩:=hf.base hm
 obtain ⟨_,⟨qg5,cg5,qm5,cm5,rfl,hg5,hm5,hb5,hb5b⟩,hc5⟩:=hf.elem hm
 have hg5n:=hg5.len
 have hm5n:=hm5.len
 have hm5s:=Zal hm5
 refine xIx Tryz.underlying31 ZbO (h:=yL [_,_,_,_,_] Zhx hc5 0 (h:=xAl [_] zo3 (h:=fun b6=>xAl [_,_,_,_,_] ZfR (h:=fun b7=>xS [_] 0 [_] sz3 (h:=xS [_,_,_,_,_] 1 [_,_,_,_,_] ZbO (h:=?_))))))
 intro T7 hn7 hT7
 refine Zj2 (C:=C2) rfl 0 rfl fun B4 hle4 hpm4=>?_
 have hc905:=ZaW hpm4
 refine Zj2 (C:=C2) rfl 1 rfl fun B5 hle5 hpm5=>?_
 have hc906:=ZaW hpm5
 replace hc905:=hc905.mono hle5
 replace hc900:=hc900.mono (hle4.trans hle5)
 replace hu:=hu.mono Zn.mono (hle4.trans hle5)
 replace hf:=hf.mono Zj.mono (hle4.trans hle5)
 replace hc901:=hc901.mono (hle4.trans hle5)
 replace hc903:=hc903.mono (hle4.trans hle5)
 replace hg5:=hg5.mono ZW.mono (hle4.trans hle5)
 replace hm5:=hm5.mono ZZ.mono (hle4.trans hle5)
 refine Zeo (C:=C2) (L:=[[],[]]) (ZfL (C:=C2) (L:=[[],[]]) (ZtX (Lk:=wgL) (i:=0) (todo:=[]) Zkf hlt rfl Zv4 rfl rfl hT7 hke ?_))
 let C3:Cx (.lone Tryz.prog):=⟨phL Tryz.prog 245 Wg Cb x.folders.length (ZpH x) X.R .a2 (j),fb 151 kind,c :: cs,F,hke⟩
 have hT8:=hT7.putT (n:=30) (dst:=(some 23)) hn7 rfl (.tuple #[])
 have hn8:(putT T7 (some 23) (.tuple #[])).size=30:=by rw [ZaX,hn7]
 refine ZcF (C:=C3) (L:=[]) (ZfL (C:=C3) (L:=[]) (Zw4 (C:=C3) (L:=[]) (i:=0) (todo:=[1]) rfl hn8 hT8 (Zp (ZcG (xs:=[]) (ys:=[.tmp 4,.tmp 1,.tmp 6,.tmp 3,.tmp 5]) rfl rfl rfl rfl ?_))))
 intro T9 hn9 hT9
 refine Zvx (i:=1) (todo:=[]) rfl rfl hT9 hke Tryz.func185 rfl rfl (by rw [Zly hm];exact ZiL Wg Cb x.folders.length j b o b1 b2 b6 b7 _ _ _ _ _ _ x m _ _ _ _ hlt B5 hc900 hu hc901 hc903 hc905 hc906 hg5 hm5 hb5 hb5b) ?_
 let C4:Cx (.lone Tryz.prog):=⟨phL Tryz.prog 245 Wg Cb x.folders.length (ZpH x) X.R .a5 (j+1),fb 151 kind,c :: cs,F,hke⟩
 refine ZcF (C:=C4) (L:=[]) (Zm5 (C:=C4) (L:=[]) ?_)
 have hn10:=hn9
 have hT10:=hT9
 refine Zh9 (C:=C4) (L:=[]) hn10 hT10 (xD (h:=xM (h:=?_)))
 intro T11 hn11 hT11
 exact hnext hlt _ _ (hle4.trans hle5) hn11 (hT11.sub' t6)
 obtain rfl:j=x.folders.length:=by omega
 refine Zpk (C:=C2) (L:=[]) (t:=false) (by exact congrArg (fun t=>some (Value.bool t)) (decide_eq_false oz)) hT6 ?_
 refine Zs8 (C:=C2) (L:=[]) (by rfl) ?_
 refine Zeo (C:=C2) (L:=[]) (ZfL (C:=C2) (L:=[]) (Zsf (Lk:=wgL) (X:=X) (i:=0) (todo:=[]) Zkf oz rfl Zv2 rfl hT6 hke (fun _ _ _ h=>h) ?_))
 have hT7:=hT6.putT (n:=30) (dst:=(some 26)) hn6 rfl (.tuple #[])
 have hn7:(putT T6 (some 26) (.tuple #[])).size=30:=by rw [ZaX,hn6]
 refine ZcF (C:=C0) (L:=[[(Cb,Obj.cells ((List.range x.folders.length).map (ZpH x)).toArray 4 (0,0))]]) (Zj2 (C:=C0) (L:=[[(Cb,Obj.cells ((List.range x.folders.length).map (ZpH x)).toArray 4 (0,0))]]) rfl 0 rfl fun B4 hle4 hm4=>?_)
 have hvb:=ZnA hm4 hfn
 replace hc900:=hc900.mono hle4
 replace hu:=hu.mono Zn.mono hle4
 replace hf:=hf.mono Zj.mono hle4
 replace hc901:=hc901.mono hle4
 replace hc903:=hc903.mono hle4
 replace hA:=fun v B' Ls' h=>hA v B' Ls' (hle4.trans h)
 refine ZsS Tryz.func151 rfl hk hke hn7 hT7 hA ?_
 rw [show (x.folders.length:Nat)=(x.folders.map (ZaD x.users)).length from (List.length_map ..).symm] at hc903
 refine Za (y1 Zt5 hc903 0 (h:=xR Zv1 rfl (Zlg _ _ _ _ _ hvb) (h:=xN (h:=xA (h:=ZE [_] rfl (Zh ?_))))))
 exact ZB .ret (.inl rfl) [_] t1 ⟨rfl,congrArg Value.bool ZiW⟩

set_option maxHeartbeats 400000 in
theorem Zk0 (hJ:Joins Tryz.prog J) (q1 q2 q3:Option Addr) (c1 c2 c3:Nat) (x:DHost) (hd:x.domain.length≤2000000) (B:Kn) (hu:SlK B q1 c1 3 Zn x.users) (hf:SlK B q2 c2 5 Zj x.folders) (hi:SlK B q3 c3 4 Zu x.queue.items):Zz (pj J) 98 [.agg #[str x.domain,.slice q1 x.users.length c1,.slice q2 x.folders.length c2,.int .i64 x.queue.next,.slice q3 x.queue.items.length c3]] B [] (fun v B' Ls=>Ls=[]∧v = .bool (Z7 x)):=by
 refine Zb 63 Tryz.func98 rfl rfl rfl (Nat.le_of_ble_eq_true rfl) ?_
 rw [← ZmR]
 have hfn:=hf.len
 have hun:=hu.len
 have hin:=hi.len
 refine Za (xBx [_,_,_,_,_] (h:=fun b1=>xA (h:=ZE [_] rfl (Zkg 0 rfl (fun B2 hle2 hpm2=>?_)))))
 have hc2:=ZaW hpm2
 replace hu:=hu.mono Zn.mono hle2
 replace hf:=hf.mono Zj.mono hle2
 replace hi:=hi.mono Zu.mono hle2
 refine Ze (Za (xW Zhd (h:=y1 lk9 hc2 0 (h:=xR Zwv rfl (ZjM _ om2 _) (h:=?_)))))
 refine xN (h:=xM (h:=Zw (d:=10) rfl (fun g1=>?_) (fun g1=>?_)))
 try simp only [sQ,ne_eq] at g1
 refine xP (h:=xP (h:=xP (h:=xP (h:=xT (h:=xM (h:=xP (h:=xP (h:=xP (h:=xP (h:=xT (h:=xM (h:=xP (h:=?_)))))))))))))
 refine xP (h:=xP (h:=xP (h:=xT (h:=ZE [_] rfl (Zc (t:=true) rfl (fun _=>Za (xA (h:=Zh (Zq ?_)))) (fun h=>Bool.noConfusion h))))))
 exact ZB .ret (.inl rfl) [_] t1 ⟨rfl,Zg (by simp [ZcY,g1])⟩
 try simp only [sQ,ne_eq] at g1
 refine xW Zbn (h:=y1 ZhA hc2 1 (h:=xR Zuv rfl (Zg3 _ _ _ _ hu) (h:=xN (h:=xF (h:=xM (h:=Zw (d:=16) rfl (fun g2=>?_) (fun g2=>?_)))))))
 try simp only [sQ,ne_eq] at g2
 refine xP (h:=xP (h:=xP (h:=xP (h:=xT (h:=xM (h:=xP (h:=xP (h:=xP (h:=xP (h:=xT (h:=ZE [_] rfl (Zc (t:=true) rfl (fun _=>?_) (fun h=>Bool.noConfusion h)))))))))))))
 refine Za (xA (h:=Zh (Zq ?_)))
 exact ZB .ret (.inl rfl) [_] t1 ⟨rfl,Zg (by simp [ZcY,g1,g2])⟩
 try simp only [sQ,ne_eq] at g2
 refine xW Zd5 (h:=yL [_,_] Zke hc2 3 (h:=xR ZwR rfl (ZkX _ _ x.queue _ hi) (h:=xN (h:=xF (h:=xM (h:=Zw (d:=22) rfl (fun g3=>?_) (fun g3=>?_)))))))
 try simp only [sQ,ne_eq] at g3
 refine xP (h:=xP (h:=xP (h:=xP (h:=xT (h:=ZE [_] rfl (Zc (t:=true) rfl (fun _=>Za (xA (h:=Zh (Zq ?_)))) (fun h=>Bool.noConfusion h)))))))
 exact ZB .ret (.inl rfl) [_] t1 ⟨rfl,Zg (by simp [ZcY,g1,g2,g3])⟩
 try simp only [sQ,ne_eq] at g3
 refine xW Zar (h:=y1 Zew hc2 2 (h:=xV Tryz.underlying31 (h:=ZcL (h:=xF (h:=ZE [_] rfl (Zc rfl (fun g4=>?_) (fun g4=>?_)))))))
 try simp only [sQ,ne_eq] at g4
 refine Za (xA (h:=Zh (Zq ?_)))
 exact ZB .ret (.inl rfl) [_] t1 ⟨rfl,Zg (by simp [ZcY];intros;omega)⟩
 try simp only [sQ,ne_eq] at g4
 refine Zf (Zd (Ze (Za (xW Zar (h:=y1 Zew hc2 2 (h:=xW Zar (h:=y1 Zew hc2 2 (h:=xV Tryz.underlying31 (h:=xU (h:=Zp (Zve (m:=(x.folders.length - 1)) rfl rfl rfl rfl om ?_)))))))))))
 have hsl:((x.folders.take (x.folders.length - 1)).drop 0).length=x.folders.length - 1:=by simp
 obtain ⟨hq6,q6,cp6,hv6,hr6⟩:=hf.cutE 0 (x.folders.length - 1) om om
 have hr6n:=hr6.len
 refine Zp (Znx (a:=0) (b:=(x.folders.length - 1)) hv6 om hq6 rfl rfl Tryz.underlying31 ZbO rfl rfl ⟨_,_,rfl,by first | omega | (simp;done) | (simp;omega)⟩ ?_)
 refine xV Tryz.underlying31 (h:=xM (h:=Zl (ZC (α:=Nat) [0,1,27,35,36] (fun k=>[(37,.int .i64 k)]) [] (fun k=>[]) (fun k Bx=>Bx=B2∧k≤x.folders.length - 1∧Zri x.folders k) (fun k=>x.folders.length - k) 0 t1 rfl (⟨rfl,Nat.zero_le _,ZmB⟩) (fun k B7 hle7 hI=>?_))))
 obtain ⟨rfl,hk,hord⟩:=hI
 refine ZF [(0,_),(1,_),(27,_),(35,_),(36,_),(37,_)] [_] t6 rfl (Za (ZJ (h:=Ze (Zc rfl (fun g5=>?_) (fun g5=>?_)))))
 try simp only [sQ,ne_eq] at g5
 refine Zf (Zd (Ze (Zl (Za (xM (h:=?_))))))
 obtain ⟨fa,hfa⟩:=ZY (xs:=((x.folders.take (x.folders.length - 1)).drop 0)) (i:=k) om
 obtain ⟨bb9,oo9,rfl⟩:=hr6.base hfa
 obtain ⟨_,⟨qg10,cg10,qm10,cm10,rfl,hg10,hm10,hb10,hb10b⟩,hc10⟩:=hr6.elem hfa
 have hg10n:=hg10.len
 have hm10n:=hm10.len
 have hm10s:=Zal hm10
 refine xIx Tryz.underlying31 ZbO (h:=?_)
 have hfa0:x.folders[k]? = some fa:=by rw [List.drop_zero,List.getElem?_take] at hfa;split at hfa <;> simp_all
 refine yL [_,_,_,_,_] Zhx hc10 0 (h:=xAl [_,_,_,_,_] ZfR (h:=fun b11=>xA (h:=xS [_,_,_,_,_] 1 [_,_,_,_,_] ZbO (h:=ZE [_,_] rfl (Za (xW Zar (h:=y1 Zew hc2 2 (h:=xM (h:=xD (h:=?_))))))))))
 obtain ⟨fb,hfb⟩:=ZY (xs:=x.folders) (i:=(k+1)) om
 obtain ⟨bb13,oo13,rfl⟩:=hf.base hfb
 obtain ⟨_,⟨qg14,cg14,qm14,cm14,rfl,hg14,hm14,hb14,hb14b⟩,hc14⟩:=hf.elem hfb
 have hg14n:=hg14.len
 have hm14n:=hm14.len
 have hm14s:=Zal hm14
 refine xIx Tryz.underlying31 ZbO (h:=yL [_,_,_,_,_] Zhx hc14 0 (h:=xAl [_,_,_,_,_] ZfR (h:=fun b15=>xS [_,_,_,_,_] 2 [_,_,_,_,_] ZbO (h:=ZE [_,_,_] rfl (Za (xL [_,_,_,_,_] Zhx 1 (h:=xW Zbw (h:=x1 lk9 2 (h:=xW Zdz (h:=x1 lk9 2 (h:=xR ZxX rfl (Zk8 fa _ _ _ _ fb.owner fb.name _) (h:=Zd6 (h:=?_)))))))))))))
 refine Zc rfl (fun g6=>?_) (fun g6=>?_)
 try simp only [sQ,ne_eq] at g6
 refine Za (xA (h:=Zh (ZD (Zq (ZP (ZD (Zq ?_)))))))
 exact ZB .ret (.inl rfl) [_] t1 ⟨rfl,Zg (by simp [ZcY,Zqj hfa0 hfb ((Zj4 fa fb).1 g6)])⟩
 try simp only [sQ,ne_eq] at g6
 refine Zf (ZS (Zd (Zk (xD (h:=xM (h:=?_))))))
 exact ZG (k+1) [0] so2 ⟨rfl,oz,ZmC hord hfa0 hfb (by rw [← Bool.not_eq_false,← Zj4];omega)⟩ t6 rfl
 try simp only [sQ,ne_eq] at g5
 have ho:=Zqi (fs:=x.folders) (fun i a b h=>hord i a b oz)
 refine ZH (Z0 (ZM (Zx (Zd (Za (Zp (Zig rfl rfl Zwu rfl (ZhD hJ _ _ _ _ _ _ _ _ x _ hc2 hu hf) ?_)))))))
 intro v17 B17 hle17
 rintro rfl
 replace hu:=hu.mono Zn.mono hle17
 replace hf:=hf.mono Zj.mono hle17
 replace hi:=hi.mono Zu.mono hle17
 replace hc2:=hc2.mono hle17
 replace hr6:=hr6.mono Zj.mono hle17
 refine xM (h:=Zw (d:=57) rfl (fun g7=>?_) (fun g7=>?_))
 try simp only [sQ,ne_eq] at g7
 refine xR Zwt rfl (Zmj _ _ _ _ _ _ _ _ x _ hc2 hu hf) (h:=xT (h:=xM (h:=Zw (d:=60) rfl (fun g8=>?_) (fun g8=>?_))))
 try simp only [sQ,ne_eq] at g8
 refine xR Zws rfl (ZkB _ _ _ _ _ _ _ _ x _ hc2 hu hi) (h:=xT (h:=xA (h:=Zh ?_)))
 exact ZB .ret (.inl rfl) [_] t1 ⟨rfl,Zg (by simp [ZcY,g1,g2,g3,ho,g7,g8];try omega)⟩
 try simp only [sQ,ne_eq] at g8
 refine xP (h:=xF (h:=xA (h:=Zh ?_)))
 exact ZB .ret (.inl rfl) [_] t1 ⟨rfl,Zg (by simp [ZcY,g1,g2,g3,ho,g7,g8];try omega)⟩
 try simp only [sQ,ne_eq] at g7
 refine xP (h:=xF (h:=xM (h:=xP (h:=xF (h:=xA (h:=Zh ?_))))))
 exact ZB .ret (.inl rfl) [_] t1 ⟨rfl,Zg (by simp [ZcY,g7])⟩

set_option maxHeartbeats 400000 in
theorem ZpY (x:DUser) (h1:x.name.length≤140737488355328) (h2:x.pass.length≤140737488355328) (left:Int) (hl0:0≤left) (hl1:left≤1048576) (B:Kn)  : Z9 (pj J) 82 [.agg #[str x.name,str x.pass,.int .i64 x.quota],.int .i64 left] B (.int .i64 (szI left (ZcP x))):=by
 refine Zb 20 Tryz.func82 rfl rfl rfl (Nat.le_of_ble_eq_true rfl) ?_
 refine Za (xBx [_,_,_] (h:=fun b1=>xA (h:=ZE [_] rfl (Za (xM (h:=xW Zo0 (h:=x1 lk9 0 (h:=xVs Tryz.underlying9 (h:=xU (h:=xA (h:=Ze (Za ?_))))))))))))
 refine xM (h:=ZJ (h:=Zc rfl (fun g1=>?_) (fun g1=>?_)))
 try simp only [sQ,ne_eq] at g1
 refine Za (xA (h:=Zh (Zq ?_)))
 exact ZB .ret (.inl rfl) [_] t1 ⟨ZI (by first | (unfold szI ZcP;split <;> omega)),rfl,rfl⟩
 try simp only [sQ,ne_eq] at g1
 refine Zf (Zd (Za (xM (h:=xW ZoZ (h:=x1 lk9 0 (h:=xVs Tryz.underlying9 (h:=xU (h:=xA (h:=Ze (Za (xM (h:=ZJ (h:=?_)))))))))))))
 refine Zc rfl (fun g2=>?_) (fun g2=>?_)
 try simp only [sQ,ne_eq] at g2
 refine Za (xA (h:=Zh (Zq ?_)))
 exact ZB .ret (.inl rfl) [_] t1 ⟨ZI (by first | (unfold szI ZcP;split <;> omega)),rfl,rfl⟩
 try simp only [sQ,ne_eq] at g2
 refine Zf (Zd (Za (xM (h:=xA (h:=Zh ?_)))))
 exact ZB .ret (.inl rfl) [_] t1 ⟨ZI (by first | (unfold szI ZcP;split <;> omega)),rfl,rfl⟩

set_option maxHeartbeats 400000 in
theorem ZnQ (x:DGrant) (h1:x.user.length≤140737488355328) (left:Int) (hl0:0≤left) (hl1:left≤1048576) (B:Kn)  : Z9 (pj J) 176 [.agg #[str x.user,.int .i64 x.rights],.int .i64 left] B (.int .i64 (szI left (Zb6 x))):=by
 refine Zb 13 Tryz.func176 rfl rfl rfl (Nat.le_of_ble_eq_true rfl) ?_
 refine Za (xBx [_,_] (h:=fun b1=>xA (h:=ZE [_] rfl (Za (xM (h:=xW ZoQ (h:=x1 lk9 0 (h:=xVs Tryz.underlying9 (h:=xU (h:=xA (h:=Ze (Za ?_))))))))))))
 refine xM (h:=ZJ (h:=Zc rfl (fun g1=>?_) (fun g1=>?_)))
 try simp only [sQ,ne_eq] at g1
 refine Za (xA (h:=Zh (Zq ?_)))
 exact ZB .ret (.inl rfl) [_] t1 ⟨ZI (by first | (unfold szI Zb6;split <;> omega)),rfl,rfl⟩
 try simp only [sQ,ne_eq] at g1
 refine Zf (Zd (Za (xM (h:=xA (h:=Zh ?_)))))
 exact ZB .ret (.inl rfl) [_] t1 ⟨ZI (by first | (unfold szI Zb6;split <;> omega)),rfl,rfl⟩

set_option maxHeartbeats 400000 in
theorem Zp0 (x:DMail) (h1:x.text.length≤140737488355328) (left:Int) (hl0:0≤left) (hl1:left≤1048576) (B:Kn)  : Z9 (pj J) 203 [.agg #[.int .i64 x.uid,.int .i64 x.flags,str x.text],.int .i64 left] B (.int .i64 (szI left (Zdb x))):=by
 refine Zb 13 Tryz.func203 rfl rfl rfl (Nat.le_of_ble_eq_true rfl) ?_
 refine Za (xBx [_,_,_] (h:=fun b1=>xA (h:=ZE [_] rfl (Za (xM (h:=xW ZoN (h:=x1 lk9 0 (h:=xVs Tryz.underlying9 (h:=xU (h:=xA (h:=Ze (Za ?_))))))))))))
 refine xM (h:=ZJ (h:=Zc rfl (fun g1=>?_) (fun g1=>?_)))
 try simp only [sQ,ne_eq] at g1
 refine Za (xA (h:=Zh (Zq ?_)))
 exact ZB .ret (.inl rfl) [_] t1 ⟨ZI (by first | (unfold szI Zdb;split <;> omega)),rfl,rfl⟩
 try simp only [sQ,ne_eq] at g1
 refine Zf (Zd (Za (xM (h:=xA (h:=Zh ?_)))))
 exact ZB .ret (.inl rfl) [_] t1 ⟨ZI (by first | (unfold szI Zdb;split <;> omega)),rfl,rfl⟩

set_option maxRecDepth 4000 in
set_option maxHeartbeats 400000 in
theorem ZpZ (q : Option Addr) (cp : Nat) (xs : List Str) (left : Int) (hl0 : 0 ≤ left) (hl1 : left ≤ 1048576) (B : Kn) (hx : SlB B q cp 1 Zid xs) : Z9 (pj J) 55 [.slice q xs.length cp, .int .i64 left] B (.int .i64 (szI left (szL List.length xs))) := by
  refine Zb 28 Tryz.func55 rfl rfl rfl (Nat.le_of_ble_eq_true rfl) ?_
  have hxn := hx.len
  refine Za (xA (h:=Za (xM (h:=xM (h:=xV Tryz.underlying43 (h:=xU (h:=xA (h:=Ze (Za (xM (h:=ZJ (h:=Zc rfl (fun g1 => ?_) (fun g1 => ?_)))))))))))))
  try simp only [sQ, ne_eq] at g1
  refine Za (xA (h:=Zh (Zq ?_)))
  exact ZB .ret (.inl rfl) [_] ⟨rfl, trivial⟩ ⟨ZI (ZfW (by omega)).symm, rfl, rfl⟩
  try simp only [sQ, ne_eq] at g1
  refine Zf (Zd (Ze (Za (xA (h:=Zl (ZC (α := Nat × Int) [0, 11] (fun g => [(1, .int .i64 g.2), (5, .int .i64 g.1)]) [] (fun g => []) (fun g Bx => Bx = B ∧ g.1 ≤ xs.length ∧ g.2 = left - xs.length - ((xs.take g.1).map List.length).sum ∧ 0 ≤ g.2) (fun g => xs.length - g.1) (0, left - ↑xs.length) ⟨rfl, rfl, trivial⟩ rfl (⟨rfl, Nat.zero_le _, by simp, g1⟩) (fun g B1 hle1 hI => ?_)))))))
  obtain ⟨rfl, hk, hs, hl⟩ := hI
  refine ZF [(0, _), (1, _), (5, _), (11, _)] [] ⟨rfl, rfl, rfl, rfl, trivial⟩ rfl (Ze (Za (xM (h:=xM (h:=xV Tryz.underlying43 (h:=ZJ (h:=Zc rfl (fun g2 => ?_) (fun g2 => ?_))))))))
  try simp only [sQ, ne_eq] at g2
  refine Zf (Zd (Ze (Zl (Za (xM (h:=xM (h:=xM (h:=?_))))))))
  obtain ⟨z, hz⟩ := ZY (xs := xs) (i := g.1) (by first | omega | (simp; done) | (simp; omega))
  obtain ⟨bb3, oo3, rfl⟩ := hx.base hz
  obtain ⟨_, ⟨rfl, hb4⟩, hc4⟩ := hx.elem hz
  refine xIx Tryz.underlying43 sz9 (h:=y1 lk9 hc4 0 (h:=xVs Tryz.underlying9 (h:=xU (h:=xA (h:=Za (xM (h:=ZJ (h:=Zc rfl (fun g3 => ?_) (fun g3 => ?_)))))))))
  try simp only [sQ, ne_eq] at g3
  refine Za (xA (h:=Zh (ZD (Zq (ZP (ZD (Zq ?_)))))))
  exact ZB .ret (.inl rfl) [_] ⟨rfl, trivial⟩ ⟨ZI (ZfU hz hs (by omega)).symm, rfl, rfl⟩
  try simp only [sQ, ne_eq] at g3
  refine Zf (ZS (Zd (Zk (xM (h:=xD (h:=xA (h:=?_)))))))
  exact ZG (g.1 + 1, g.2 - z.length) [] (by first | omega | (simp only []; omega)) ⟨rfl, by simp only []; omega, by rw [ZdP _ hz, hs]; omega, g3⟩ ⟨rfl, rfl, rfl, rfl, trivial⟩ rfl
  try simp only [sQ, ne_eq] at g2
  refine ZH (Z0 (ZM (Zx (Zd (Za (xM (h:=xA (h:=Zh ?_))))))))
  exact ZB .ret (.inl rfl) [_] ⟨rfl, trivial⟩ ⟨ZI (ZfV hs hl (by omega)).symm, rfl, rfl⟩

set_option maxRecDepth 4000 in
set_option maxHeartbeats 400000 in
theorem ZnM (q : Option Addr) (cp : Nat) (xs : List DUser) (left : Int) (hl0 : 0 ≤ left) (hl1 : left ≤ 1048576) (B : Kn) (hx : SlB B q cp 3 ZhF xs) : Z9 (pj J) 27 [.slice q xs.length cp, .int .i64 left] B (.int .i64 (szI left (szL ZcP xs))) := by
  refine Zb 27 Tryz.func27 rfl rfl rfl (Nat.le_of_ble_eq_true rfl) ?_
  have hxn := hx.len
  refine Za (xA (h:=Za (xM (h:=xM (h:=xV Tryz.underlying22 (h:=xU (h:=xA (h:=Ze (Za (xM (h:=ZJ (h:=Zc rfl (fun g1 => ?_) (fun g1 => ?_)))))))))))))
  try simp only [sQ, ne_eq] at g1
  refine Za (xA (h:=Zh (Zq ?_)))
  exact ZB .ret (.inl rfl) [_] ⟨rfl, trivial⟩ ⟨ZI (ZfW (by omega)).symm, rfl, rfl⟩
  try simp only [sQ, ne_eq] at g1
  refine Zf (Zd (Ze (Za (xA (h:=Zl (ZC (α := Nat × Int) [0, 11] (fun g => [(1, .int .i64 g.2), (5, .int .i64 g.1)]) [] (fun g => []) (fun g Bx => Bx = B ∧ g.1 ≤ xs.length ∧ g.2 = left - xs.length - ((xs.take g.1).map ZcP).sum ∧ 0 ≤ g.2) (fun g => xs.length - g.1) (0, left - ↑xs.length) ⟨rfl, rfl, trivial⟩ rfl (⟨rfl, Nat.zero_le _, by simp, g1⟩) (fun g B1 hle1 hI => ?_)))))))
  obtain ⟨rfl, hk, hs, hl⟩ := hI
  refine ZF [(0, _), (1, _), (5, _), (11, _)] [] ⟨rfl, rfl, rfl, rfl, trivial⟩ rfl (Ze (Za (xM (h:=xM (h:=xV Tryz.underlying22 (h:=ZJ (h:=Zc rfl (fun g2 => ?_) (fun g2 => ?_))))))))
  try simp only [sQ, ne_eq] at g2
  refine Zf (Zd (Ze (Zl (Za (xM (h:=xM (h:=?_)))))))
  obtain ⟨z, hz⟩ := ZY (xs := xs) (i := g.1) (by first | omega | (simp; done) | (simp; omega))
  obtain ⟨bb3, oo3, rfl⟩ := hx.base hz
  obtain ⟨_, ⟨rfl, hb4, hb4b⟩, hc4⟩ := hx.elem hz
  refine xIx Tryz.underlying22 ZtR (h:=yL [_, _, _] Zuc hc4 0 (h:=xM (h:=xR ZxW rfl (ZpY z (by first | omega | (simp; done) | (simp; omega)) (by first | omega | (simp; done) | (simp; omega)) g.2 (by first | omega | (simp; done) | (simp; omega)) (by first | omega | (simp; done) | (simp; omega)) _) (h:=?_))))
  refine xA (h:=Za (xM (h:=ZJ (h:=Zc rfl (fun g3 => ?_) (fun g3 => ?_)))))
  try simp only [sQ, ne_eq] at g3
  refine Za (xA (h:=Zh (ZD (Zq (ZP (ZD (Zq ?_)))))))
  exact ZB .ret (.inl rfl) [_] ⟨rfl, trivial⟩ ⟨ZI (ZfU hz hs ((Zb5 hl).1 g3)).symm, rfl, rfl⟩
  try simp only [sQ, ne_eq] at g3
  refine Zf (ZS (Zd (Zk (xM (h:=xD (h:=xA (h:=?_)))))))
  exact ZG (g.1 + 1, szI g.2 (ZcP z)) [] (by first | omega | (simp only []; omega)) ⟨rfl, by simp only []; omega, by have := (Zcr hl g3).1; rw [ZdP _ hz]; simp only []; omega, g3⟩ ⟨rfl, rfl, rfl, rfl, trivial⟩ rfl
  try simp only [sQ, ne_eq] at g2
  refine ZH (Z0 (ZM (Zx (Zd (Za (xM (h:=xA (h:=Zh ?_))))))))
  exact ZB .ret (.inl rfl) [_] ⟨rfl, trivial⟩ ⟨ZI (ZfV hs hl (by omega)).symm, rfl, rfl⟩

set_option maxRecDepth 4000 in
set_option maxHeartbeats 400000 in
theorem Zmn (q : Option Addr) (cp : Nat) (xs : List DGrant) (left : Int) (hl0 : 0 ≤ left) (hl1 : left ≤ 1048576) (B : Kn) (hx : SlB B q cp 2 ZeX xs) : Z9 (pj J) 138 [.slice q xs.length cp, .int .i64 left] B (.int .i64 (szI left (szL Zb6 xs))) := by
  refine Zb 27 Tryz.func138 rfl rfl rfl (Nat.le_of_ble_eq_true rfl) ?_
  have hxn := hx.len
  refine Za (xA (h:=Za (xM (h:=xM (h:=xV Tryz.underlying114 (h:=xU (h:=xA (h:=Ze (Za (xM (h:=ZJ (h:=Zc rfl (fun g1 => ?_) (fun g1 => ?_)))))))))))))
  try simp only [sQ, ne_eq] at g1
  refine Za (xA (h:=Zh (Zq ?_)))
  exact ZB .ret (.inl rfl) [_] ⟨rfl, trivial⟩ ⟨ZI (ZfW (by omega)).symm, rfl, rfl⟩
  try simp only [sQ, ne_eq] at g1
  refine Zf (Zd (Ze (Za (xA (h:=Zl (ZC (α := Nat × Int) [0, 11] (fun g => [(1, .int .i64 g.2), (5, .int .i64 g.1)]) [] (fun g => []) (fun g Bx => Bx = B ∧ g.1 ≤ xs.length ∧ g.2 = left - xs.length - ((xs.take g.1).map Zb6).sum ∧ 0 ≤ g.2) (fun g => xs.length - g.1) (0, left - ↑xs.length) ⟨rfl, rfl, trivial⟩ rfl (⟨rfl, Nat.zero_le _, by simp, g1⟩) (fun g B1 hle1 hI => ?_)))))))
  obtain ⟨rfl, hk, hs, hl⟩ := hI
  refine ZF [(0, _), (1, _), (5, _), (11, _)] [] ⟨rfl, rfl, rfl, rfl, trivial⟩ rfl (Ze (Za (xM (h:=xM (h:=xV Tryz.underlying114 (h:=ZJ (h:=Zc rfl (fun g2 => ?_) (fun g2 => ?_))))))))
  try simp only [sQ, ne_eq] at g2
  refine Zf (Zd (Ze (Zl (Za (xM (h:=xM (h:=?_)))))))
  obtain ⟨z, hz⟩ := ZY (xs := xs) (i := g.1) (by first | omega | (simp; done) | (simp; omega))
  obtain ⟨bb3, oo3, rfl⟩ := hx.base hz
  obtain ⟨_, ⟨rfl, hb4⟩, hc4⟩ := hx.elem hz
  refine xIx Tryz.underlying114 ZtN (h:=yL [_, _] Zt6 hc4 0 (h:=xM (h:=xR Zwb rfl (ZnQ z (by first | omega | (simp; done) | (simp; omega)) g.2 (by first | omega | (simp; done) | (simp; omega)) (by first | omega | (simp; done) | (simp; omega)) _) (h:=?_))))
  refine xA (h:=Za (xM (h:=ZJ (h:=Zc rfl (fun g3 => ?_) (fun g3 => ?_)))))
  try simp only [sQ, ne_eq] at g3
  refine Za (xA (h:=Zh (ZD (Zq (ZP (ZD (Zq ?_)))))))
  exact ZB .ret (.inl rfl) [_] ⟨rfl, trivial⟩ ⟨ZI (ZfU hz hs ((Zb5 hl).1 g3)).symm, rfl, rfl⟩
  try simp only [sQ, ne_eq] at g3
  refine Zf (ZS (Zd (Zk (xM (h:=xD (h:=xA (h:=?_)))))))
  exact ZG (g.1 + 1, szI g.2 (Zb6 z)) [] (by first | omega | (simp only []; omega)) ⟨rfl, by simp only []; omega, by have := (Zcr hl g3).1; rw [ZdP _ hz]; simp only []; omega, g3⟩ ⟨rfl, rfl, rfl, rfl, trivial⟩ rfl
  try simp only [sQ, ne_eq] at g2
  refine ZH (Z0 (ZM (Zx (Zd (Za (xM (h:=xA (h:=Zh ?_))))))))
  exact ZB .ret (.inl rfl) [_] ⟨rfl, trivial⟩ ⟨ZI (ZfV hs hl (by omega)).symm, rfl, rfl⟩

set_option maxRecDepth 4000 in
set_option maxHeartbeats 400000 in
theorem ZnO (q : Option Addr) (cp : Nat) (xs : List DMail) (left : Int) (hl0 : 0 ≤ left) (hl1 : left ≤ 1048576) (B : Kn) (hx : SlB B q cp 3 Zgf xs) : Z9 (pj J) 177 [.slice q xs.length cp, .int .i64 left] B (.int .i64 (szI left (szL Zdb xs))) := by
  refine Zb 27 Tryz.func177 rfl rfl rfl (Nat.le_of_ble_eq_true rfl) ?_
  have hxn := hx.len
  refine Za (xA (h:=Za (xM (h:=xM (h:=xV Tryz.underlying115 (h:=xU (h:=xA (h:=Ze (Za (xM (h:=ZJ (h:=Zc rfl (fun g1 => ?_) (fun g1 => ?_)))))))))))))
  try simp only [sQ, ne_eq] at g1
  refine Za (xA (h:=Zh (Zq ?_)))
  exact ZB .ret (.inl rfl) [_] ⟨rfl, trivial⟩ ⟨ZI (ZfW (by omega)).symm, rfl, rfl⟩
  try simp only [sQ, ne_eq] at g1
  refine Zf (Zd (Ze (Za (xA (h:=Zl (ZC (α := Nat × Int) [0, 11] (fun g => [(1, .int .i64 g.2), (5, .int .i64 g.1)]) [] (fun g => []) (fun g Bx => Bx = B ∧ g.1 ≤ xs.length ∧ g.2 = left - xs.length - ((xs.take g.1).map Zdb).sum ∧ 0 ≤ g.2) (fun g => xs.length - g.1) (0, left - ↑xs.length) ⟨rfl, rfl, trivial⟩ rfl (⟨rfl, Nat.zero_le _, by simp, g1⟩) (fun g B1 hle1 hI => ?_)))))))
  obtain ⟨rfl, hk, hs, hl⟩ := hI
  refine ZF [(0, _), (1, _), (5, _), (11, _)] [] ⟨rfl, rfl, rfl, rfl, trivial⟩ rfl (Ze (Za (xM (h:=xM (h:=xV Tryz.underlying115 (h:=ZJ (h:=Zc rfl (fun g2 => ?_) (fun g2 => ?_))))))))
  try simp only [sQ, ne_eq] at g2
  refine Zf (Zd (Ze (Zl (Za (xM (h:=xM (h:=?_)))))))
  obtain ⟨z, hz⟩ := ZY (xs := xs) (i := g.1) (by first | omega | (simp; done) | (simp; omega))
  obtain ⟨bb3, oo3, rfl⟩ := hx.base hz
  obtain ⟨_, ⟨rfl, hb4⟩, hc4⟩ := hx.elem hz
  refine xIx Tryz.underlying115 ZtL (h:=yL [_, _, _] Zt4 hc4 0 (h:=xM (h:=xR ZvS rfl (Zp0 z (by first | omega | (simp; done) | (simp; omega)) g.2 (by first | omega | (simp; done) | (simp; omega)) (by first | omega | (simp; done) | (simp; omega)) _) (h:=?_))))
  refine xA (h:=Za (xM (h:=ZJ (h:=Zc rfl (fun g3 => ?_) (fun g3 => ?_)))))
  try simp only [sQ, ne_eq] at g3
  refine Za (xA (h:=Zh (ZD (Zq (ZP (ZD (Zq ?_)))))))
  exact ZB .ret (.inl rfl) [_] ⟨rfl, trivial⟩ ⟨ZI (ZfU hz hs ((Zb5 hl).1 g3)).symm, rfl, rfl⟩
  try simp only [sQ, ne_eq] at g3
  refine Zf (ZS (Zd (Zk (xM (h:=xD (h:=xA (h:=?_)))))))
  exact ZG (g.1 + 1, szI g.2 (Zdb z)) [] (by first | omega | (simp only []; omega)) ⟨rfl, by simp only []; omega, by have := (Zcr hl g3).1; rw [ZdP _ hz]; simp only []; omega, g3⟩ ⟨rfl, rfl, rfl, rfl, trivial⟩ rfl
  try simp only [sQ, ne_eq] at g2
  refine ZH (Z0 (ZM (Zx (Zd (Za (xM (h:=xA (h:=Zh ?_))))))))
  exact ZB .ret (.inl rfl) [_] ⟨rfl, trivial⟩ ⟨ZI (ZfV hs hl (by omega)).symm, rfl, rfl⟩

set_option maxHeartbeats 400000 in
theorem Zp1 (q:Option Addr) (cp:Nat) (x:DItem) (h1:x.fr.length≤140737488355328) (h2:x.text.length≤140737488355328) (left:Int) (hl0:0≤left) (hl1:left≤1048576) (B:Kn) (hx:SlB B q cp 1 Zid x.left):Z9 (pj J) 140 [.agg #[.int .i64 x.id,str x.fr,str x.text,.slice q x.left.length cp],.int .i64 left] B (.int .i64 (szI left (Zbl x))):=by
 refine Zb 26 Tryz.func140 rfl rfl rfl (Nat.le_of_ble_eq_true rfl) ?_
 have hxn:=hx.len
 refine Za (xBx [_,_,_,_] (h:=fun b1=>xA (h:=ZE [_] rfl (Za (xM (h:=xW ZoT (h:=x1 lk9 0 (h:=xVs Tryz.underlying9 (h:=xU (h:=xA (h:=Ze (Za ?_))))))))))))
 refine xM (h:=ZJ (h:=Zc rfl (fun g1=>?_) (fun g1=>?_)))
 try simp only [sQ,ne_eq] at g1
 refine Za (xA (h:=Zh (Zq ?_)))
 exact ZB .ret (.inl rfl) [_] t1 ⟨ZI (by rw [ZbD (by unfold Zbl;omega)]),rfl,rfl⟩
 try simp only [sQ,ne_eq] at g1
 refine Zf (Zd (Za (xM (h:=xW ZoS (h:=x1 lk9 0 (h:=xVs Tryz.underlying9 (h:=xU (h:=xA (h:=Ze (Za (xM (h:=ZJ (h:=?_)))))))))))))
 refine Zc rfl (fun g2=>?_) (fun g2=>?_)
 try simp only [sQ,ne_eq] at g2
 refine Za (xA (h:=Zh (Zq ?_)))
 exact ZB .ret (.inl rfl) [_] t1 ⟨ZI (by rw [ZbD (by unfold Zbl;omega)]),rfl,rfl⟩
 try simp only [sQ,ne_eq] at g2
 refine Zf (Zd (Za (xW ZoR (h:=x1 ZkP 0 (h:=xM (h:=?_))))))
 have hq2:=ZpZ (J:=J) _ _ x.left ((left - ↑x.fr.length) - ↑x.text.length) om om _ hx
 refine xR Zx7 rfl hq2 (h:=xA (h:=Ze (Za (xM (h:=ZJ (h:=Zc rfl (fun g3=>?_) (fun g3=>?_)))))))
 try simp only [sQ,ne_eq] at g3
 have g3x:=(Zb5 oz).1 g3
 refine Za (xA (h:=Zh (Zq ?_)))
 exact ZB .ret (.inl rfl) [_] t1 ⟨ZI (by rw [ZbD (by unfold Zbl ZeP;omega)]),rfl,rfl⟩
 try simp only [sQ,ne_eq] at g3
 have g3x:=Zcr oz g3
 refine Zf (Zd (Za (xM (h:=xA (h:=Zh ?_)))))
 exact ZB .ret (.inl rfl) [_] t1 ⟨ZI (by (try dsimp only at *);rw [ZlA (left:=left) (s:=Zbl x) (by unfold Zbl ZeP;omega)];unfold Zbl ZeP;omega),rfl,rfl⟩

set_option maxRecDepth 4000 in
set_option maxHeartbeats 400000 in
theorem ZnP (q : Option Addr) (cp : Nat) (xs : List DItem) (left : Int) (hl0 : 0 ≤ left) (hl1 : left ≤ 1048576) (B : Kn) (hx : SlB B q cp 4 Zgg xs) : Z9 (pj J) 84 [.slice q xs.length cp, .int .i64 left] B (.int .i64 (szI left (szL Zbl xs))) := by
  refine Zb 27 Tryz.func84 rfl rfl rfl (Nat.le_of_ble_eq_true rfl) ?_
  have hxn := hx.len
  refine Za (xA (h:=Za (xM (h:=xM (h:=xV Tryz.underlying24 (h:=xU (h:=xA (h:=Ze (Za (xM (h:=ZJ (h:=Zc rfl (fun g1 => ?_) (fun g1 => ?_)))))))))))))
  try simp only [sQ, ne_eq] at g1
  refine Za (xA (h:=Zh (Zq ?_)))
  exact ZB .ret (.inl rfl) [_] ⟨rfl, trivial⟩ ⟨ZI (ZfW (by omega)).symm, rfl, rfl⟩
  try simp only [sQ, ne_eq] at g1
  refine Zf (Zd (Ze (Za (xA (h:=Zl (ZC (α := Nat × Int) [0, 11] (fun g => [(1, .int .i64 g.2), (5, .int .i64 g.1)]) [] (fun g => []) (fun g Bx => Bx = B ∧ g.1 ≤ xs.length ∧ g.2 = left - xs.length - ((xs.take g.1).map Zbl).sum ∧ 0 ≤ g.2) (fun g => xs.length - g.1) (0, left - ↑xs.length) ⟨rfl, rfl, trivial⟩ rfl (⟨rfl, Nat.zero_le _, by simp, g1⟩) (fun g B1 hle1 hI => ?_)))))))
  obtain ⟨rfl, hk, hs, hl⟩ := hI
  refine ZF [(0, _), (1, _), (5, _), (11, _)] [] ⟨rfl, rfl, rfl, rfl, trivial⟩ rfl (Ze (Za (xM (h:=xM (h:=xV Tryz.underlying24 (h:=ZJ (h:=Zc rfl (fun g2 => ?_) (fun g2 => ?_))))))))
  try simp only [sQ, ne_eq] at g2
  refine Zf (Zd (Ze (Zl (Za (xM (h:=xM (h:=?_)))))))
  obtain ⟨z, hz⟩ := ZY (xs := xs) (i := g.1) (by first | omega | (simp; done) | (simp; omega))
  obtain ⟨bb3, oo3, rfl⟩ := hx.base hz
  obtain ⟨_, ⟨qi4, ci4, rfl, hi4, hb4, hb4b⟩, hc4⟩ := hx.elem hz
  have hi4n := hi4.len
  refine xIx Tryz.underlying24 ZtO (h:=yL [_, _, _, _] Zt7 hc4 0 (h:=xM (h:=?_)))
  have hq5 := Zp1 (J := J) _ _ z (by first | omega | (simp; done) | (simp; omega)) (by first | omega | (simp; done) | (simp; omega)) g.2 (by first | omega | (simp; done) | (simp; omega)) (by first | omega | (simp; done) | (simp; omega)) _ hi4
  refine xR ZwD rfl hq5 (h:=xA (h:=Za (xM (h:=ZJ (h:=Zc rfl (fun g3 => ?_) (fun g3 => ?_))))))
  try simp only [sQ, ne_eq] at g3
  refine Za (xA (h:=Zh (ZD (Zq (ZP (ZD (Zq ?_)))))))
  exact ZB .ret (.inl rfl) [_] ⟨rfl, trivial⟩ ⟨ZI (ZfU hz hs ((Zb5 hl).1 g3)).symm, rfl, rfl⟩
  try simp only [sQ, ne_eq] at g3
  refine Zf (ZS (Zd (Zk (xM (h:=xD (h:=xA (h:=?_)))))))
  exact ZG (g.1 + 1, szI g.2 (Zbl z)) [] (by first | omega | (simp only []; omega)) ⟨rfl, by simp only []; omega, by have := (Zcr hl g3).1; rw [ZdP _ hz]; simp only []; omega, g3⟩ ⟨rfl, rfl, rfl, rfl, trivial⟩ rfl
  try simp only [sQ, ne_eq] at g2
  refine ZH (Z0 (ZM (Zx (Zd (Za (xM (h:=xA (h:=Zh ?_))))))))
  exact ZB .ret (.inl rfl) [_] ⟨rfl, trivial⟩ ⟨ZI (ZfV hs hl (by omega)).symm, rfl, rfl⟩

set_option maxHeartbeats 400000 in
theorem Zr6 (q:Option Addr) (cp:Nat) (x:DBox) (left:Int) (hl0:0≤left) (hl1:left≤1048576) (B:Kn) (hx:SlB B q cp 3 Zgf x.mail):Z9 (pj J) 139 [.agg #[.int .i64 x.next,.slice q x.mail.length cp],.int .i64 left] B (.int .i64 (szI left (szL Zdb x.mail))):=by
 refine Zb 12 Tryz.func139 rfl rfl rfl (Nat.le_of_ble_eq_true rfl) ?_
 have hxn:=hx.len
 refine Za (xBx [_,_] (h:=fun b1=>xA (h:=ZE [_] rfl (Za (xW ZoY (h:=x1 Zua 0 (h:=xM (h:=?_))))))))
 have hq2:=ZnO (J:=J) _ _ x.mail left om om _ hx
 refine xR Zwa rfl hq2 (h:=xA (h:=Ze (Za (xM (h:=ZJ (h:=Zc rfl (fun g1=>?_) (fun g1=>?_)))))))
 try simp only [sQ,ne_eq] at g1
 have g1x:=(Zb5 oz).1 g1
 refine Za (xA (h:=Zh (Zq ?_)))
 exact ZB .ret (.inl rfl) [_] t1 ⟨ZI (by rw [ZbD g1x]),rfl,rfl⟩
 try simp only [sQ,ne_eq] at g1
 refine Zf (Zd (Za (xM (h:=xA (h:=Zh ?_)))))
 exact ZB .ret (.inl rfl) [_] t1 ⟨rfl,rfl,rfl⟩

set_option maxHeartbeats 400000 in
theorem ZnN (q:Option Addr) (cp:Nat) (x:DQueue) (left:Int) (hl0:0≤left) (hl1:left≤1048576) (B:Kn) (hx:SlB B q cp 4 Zgg x.items):Z9 (pj J) 29 [.agg #[.int .i64 x.next,.slice q x.items.length cp],.int .i64 left] B (.int .i64 (szI left (szL Zbl x.items))):=by
 refine Zb 12 Tryz.func29 rfl rfl rfl (Nat.le_of_ble_eq_true rfl) ?_
 have hxn:=hx.len
 refine Za (xBx [_,_] (h:=fun b1=>xA (h:=ZE [_] rfl (Za (xW ZrI (h:=x1 Zxi 0 (h:=xM (h:=?_))))))))
 have hq2:=ZnP (J:=J) _ _ x.items left om om _ hx
 refine xR ZxU rfl hq2 (h:=xA (h:=Ze (Za (xM (h:=ZJ (h:=Zc rfl (fun g1=>?_) (fun g1=>?_)))))))
 try simp only [sQ,ne_eq] at g1
 have g1x:=(Zb5 oz).1 g1
 refine Za (xA (h:=Zh (Zq ?_)))
 exact ZB .ret (.inl rfl) [_] t1 ⟨ZI (by rw [ZbD g1x]),rfl,rfl⟩
 try simp only [sQ,ne_eq] at g1
 refine Zf (Zd (Za (xM (h:=xA (h:=Zh ?_)))))
 exact ZB .ret (.inl rfl) [_] t1 ⟨rfl,rfl,rfl⟩

set_option maxHeartbeats 400000 in
theorem Zmo (qa qb:Option Addr) (ca cb:Nat) (x:DFolder) (h1:x.owner.length≤140737488355328) (h2:x.name.length≤140737488355328) (left:Int) (hl0:0≤left) (hl1:left≤1048576) (B:Kn) (hx:SlB B qa ca 2 ZeX x.grants) (hy:SlB B qb cb 3 Zgf x.mail):Z9 (pj J) 83 [.agg #[str x.owner,str x.name,.slice qa x.grants.length ca,.int .i64 x.next,.slice qb x.mail.length cb],.int .i64 left] B (.int .i64 (szI left (Zas x))):=by
 refine Zb 32 Tryz.func83 rfl rfl rfl (Nat.le_of_ble_eq_true rfl) ?_
 have hxn:=hx.len
 have hyn:=hy.len
 refine Za (xBx [_,_,_,_,_] (h:=fun b1=>xA (h:=ZE [_] rfl (Za (xM (h:=xW ZoX (h:=x1 lk9 0 (h:=xVs Tryz.underlying9 (h:=xU (h:=xA (h:=Ze (Za ?_))))))))))))
 refine xM (h:=ZJ (h:=Zc rfl (fun g1=>?_) (fun g1=>?_)))
 try simp only [sQ,ne_eq] at g1
 refine Za (xA (h:=Zh (Zq ?_)))
 exact ZB .ret (.inl rfl) [_] t1 ⟨ZI (by rw [ZbD (by unfold Zas;omega)]),rfl,rfl⟩
 try simp only [sQ,ne_eq] at g1
 refine Zf (Zd (Za (xM (h:=xW ZoW (h:=x1 lk9 0 (h:=xVs Tryz.underlying9 (h:=xU (h:=xA (h:=Ze (Za (xM (h:=ZJ (h:=?_)))))))))))))
 refine Zc rfl (fun g2=>?_) (fun g2=>?_)
 try simp only [sQ,ne_eq] at g2
 refine Za (xA (h:=Zh (Zq ?_)))
 exact ZB .ret (.inl rfl) [_] t1 ⟨ZI (by rw [ZbD (by unfold Zas;omega)]),rfl,rfl⟩
 try simp only [sQ,ne_eq] at g2
 refine Zf (Zd (Za (xW ZoV (h:=x1 Zub 0 (h:=xM (h:=?_))))))
 have hq2:=Zmn (J:=J) _ _ x.grants ((left - ↑x.owner.length) - ↑x.name.length) om om _ hx
 refine xR ZwF rfl hq2 (h:=xA (h:=Ze (Za (xM (h:=ZJ (h:=Zc rfl (fun g3=>?_) (fun g3=>?_)))))))
 try simp only [sQ,ne_eq] at g3
 have g3x:=(Zb5 oz).1 g3
 refine Za (xA (h:=Zh (Zq ?_)))
 exact ZB .ret (.inl rfl) [_] t1 ⟨ZI (by rw [ZbD (by unfold Zas;omega)]),rfl,rfl⟩
 try simp only [sQ,ne_eq] at g3
 have g3x:=Zcr oz g3
 refine Zf (Zd (Za (xW ZoU (h:=xL [_,_] Zt9 0 (h:=xM (h:=?_))))))
 have hq3:=Zr6 (J:=J) _ _ (⟨x.next,x.mail⟩:DBox) (szI ((left - ↑x.owner.length) - ↑x.name.length) (szL Zb6 x.grants)) om om _ hy
 refine xR ZwE rfl hq3 (h:=xA (h:=Ze (Za (xM (h:=ZJ (h:=Zc rfl (fun g4=>?_) (fun g4=>?_)))))))
 try simp only [sQ,ne_eq] at g4
 have g4x:=(Zb5 oz).1 g4
 refine Za (xA (h:=Zh (Zq ?_)))
 exact ZB .ret (.inl rfl) [_] t1 ⟨ZI (by rw [ZbD (by unfold Zas;omega)]),rfl,rfl⟩
 try simp only [sQ,ne_eq] at g4
 have g4x:=Zcr oz g4
 refine Zf (Zd (Za (xM (h:=xA (h:=Zh ?_)))))
 exact ZB .ret (.inl rfl) [_] t1 ⟨ZI (by (try dsimp only at *);rw [ZlA (left:=left) (s:=Zas x) (by unfold Zas;omega)];unfold Zas;omega),rfl,rfl⟩

set_option maxRecDepth 4000 in
set_option maxHeartbeats 400000 in
theorem Zko (q : Option Addr) (cp : Nat) (xs : List DFolder) (left : Int) (hl0 : 0 ≤ left) (hl1 : left ≤ 1048576) (B : Kn) (hx : SlB B q cp 5 Zdl xs) : Z9 (pj J) 28 [.slice q xs.length cp, .int .i64 left] B (.int .i64 (szI left (szL Zas xs))) := by
  refine Zb 27 Tryz.func28 rfl rfl rfl (Nat.le_of_ble_eq_true rfl) ?_
  have hxn := hx.len
  refine Za (xA (h:=Za (xM (h:=xM (h:=xV Tryz.underlying23 (h:=xU (h:=xA (h:=Ze (Za (xM (h:=ZJ (h:=Zc rfl (fun g1 => ?_) (fun g1 => ?_)))))))))))))
  try simp only [sQ, ne_eq] at g1
  refine Za (xA (h:=Zh (Zq ?_)))
  exact ZB .ret (.inl rfl) [_] ⟨rfl, trivial⟩ ⟨ZI (ZfW (by omega)).symm, rfl, rfl⟩
  try simp only [sQ, ne_eq] at g1
  refine Zf (Zd (Ze (Za (xA (h:=Zl (ZC (α := Nat × Int) [0, 11] (fun g => [(1, .int .i64 g.2), (5, .int .i64 g.1)]) [] (fun g => []) (fun g Bx => Bx = B ∧ g.1 ≤ xs.length ∧ g.2 = left - xs.length - ((xs.take g.1).map Zas).sum ∧ 0 ≤ g.2) (fun g => xs.length - g.1) (0, left - ↑xs.length) ⟨rfl, rfl, trivial⟩ rfl (⟨rfl, Nat.zero_le _, by simp, g1⟩) (fun g B1 hle1 hI => ?_)))))))
  obtain ⟨rfl, hk, hs, hl⟩ := hI
  refine ZF [(0, _), (1, _), (5, _), (11, _)] [] ⟨rfl, rfl, rfl, rfl, trivial⟩ rfl (Ze (Za (xM (h:=xM (h:=xV Tryz.underlying23 (h:=ZJ (h:=Zc rfl (fun g2 => ?_) (fun g2 => ?_))))))))
  try simp only [sQ, ne_eq] at g2
  refine Zf (Zd (Ze (Zl (Za (xM (h:=xM (h:=?_)))))))
  obtain ⟨z, hz⟩ := ZY (xs := xs) (i := g.1) (by first | omega | (simp; done) | (simp; omega))
  obtain ⟨bb3, oo3, rfl⟩ := hx.base hz
  obtain ⟨_, ⟨qg4, cg4, qm4, cm4, rfl, hg4, hm4, hb4, hb4b⟩, hc4⟩ := hx.elem hz
  have hg4n := hg4.len
  have hm4n := hm4.len
  refine xIx Tryz.underlying23 ZtQ (h:=yL [_, _, _, _, _] Zt8 hc4 0 (h:=xM (h:=?_)))
  have hq5 := Zmo (J := J) _ _ _ _ z (by first | omega | (simp; done) | (simp; omega)) (by first | omega | (simp; done) | (simp; omega)) g.2 (by first | omega | (simp; done) | (simp; omega)) (by first | omega | (simp; done) | (simp; omega)) _ hg4 hm4
  refine xR ZxV rfl hq5 (h:=xA (h:=Za (xM (h:=ZJ (h:=Zc rfl (fun g3 => ?_) (fun g3 => ?_))))))
  try simp only [sQ, ne_eq] at g3
  refine Za (xA (h:=Zh (ZD (Zq (ZP (ZD (Zq ?_)))))))
  exact ZB .ret (.inl rfl) [_] ⟨rfl, trivial⟩ ⟨ZI (ZfU hz hs ((Zb5 hl).1 g3)).symm, rfl, rfl⟩
  try simp only [sQ, ne_eq] at g3
  refine Zf (ZS (Zd (Zk (xM (h:=xD (h:=xA (h:=?_)))))))
  exact ZG (g.1 + 1, szI g.2 (Zas z)) [] (by first | omega | (simp only []; omega)) ⟨rfl, by simp only []; omega, by have := (Zcr hl g3).1; rw [ZdP _ hz]; simp only []; omega, g3⟩ ⟨rfl, rfl, rfl, rfl, trivial⟩ rfl
  try simp only [sQ, ne_eq] at g2
  refine ZH (Z0 (ZM (Zx (Zd (Za (xM (h:=xA (h:=Zh ?_))))))))
  exact ZB .ret (.inl rfl) [_] ⟨rfl, trivial⟩ ⟨ZI (ZfV hs hl (by omega)).symm, rfl, rfl⟩

set_option maxHeartbeats 400000 in
theorem Zp2 (q1 q2 q3:Option Addr) (c1 c2 c3:Nat) (x:DHost) (hd:x.domain.length≤140737488355328) (left:Int) (hl0:0≤left) (hl1:left≤1048576) (B:Kn) (hu:SlB B q1 c1 3 ZhF x.users) (hf:SlB B q2 c2 5 Zdl x.folders) (hi:SlB B q3 c3 4 Zgg x.queue.items):Z9 (pj J) 8 [.agg #[str x.domain,.slice q1 x.users.length c1,.slice q2 x.folders.length c2,.int .i64 x.queue.next,.slice q3 x.queue.items.length c3],.int .i64 left] B (.int .i64 (szI left (ZcQ x))):=by
 refine Zb 31 Tryz.func8 rfl rfl rfl (Nat.le_of_ble_eq_true rfl) ?_
 have hun:=hu.len
 have hfn:=hf.len
 have hin:=hi.len
 refine Za (xBx [_,_,_,_,_] (h:=fun b1=>xA (h:=ZE [_] rfl (Za (xM (h:=xW ZrH (h:=x1 lk9 0 (h:=xVs Tryz.underlying9 (h:=xU (h:=xA (h:=Ze (Za ?_))))))))))))
 refine xM (h:=ZJ (h:=Zc rfl (fun g1=>?_) (fun g1=>?_)))
 try simp only [sQ,ne_eq] at g1
 refine Za (xA (h:=Zh (Zq ?_)))
 exact ZB .ret (.inl rfl) [_] t1 ⟨ZI (by rw [ZbD (by unfold ZcQ;omega)]),rfl,rfl⟩
 try simp only [sQ,ne_eq] at g1
 refine Zf (Zd (Za (xW ZrG (h:=x1 Zxk 0 (h:=xM (h:=?_))))))
 have hq2:=ZnM (J:=J) _ _ x.users (left - ↑x.domain.length) om om _ hu
 refine xR Zyq rfl hq2 (h:=xA (h:=Ze (Za (xM (h:=ZJ (h:=Zc rfl (fun g2=>?_) (fun g2=>?_)))))))
 try simp only [sQ,ne_eq] at g2
 have g2x:=(Zb5 oz).1 g2
 refine Za (xA (h:=Zh (Zq ?_)))
 exact ZB .ret (.inl rfl) [_] t1 ⟨ZI (by rw [ZbD (by unfold ZcQ;omega)]),rfl,rfl⟩
 try simp only [sQ,ne_eq] at g2
 have g2x:=Zcr oz g2
 refine Zf (Zd (Za (xW ZrF (h:=x1 Zxj 0 (h:=xM (h:=?_))))))
 have hq3:=Zko (J:=J) _ _ x.folders (szI (left - ↑x.domain.length) (szL ZcP x.users)) om om _ hf
 refine xR Zyp rfl hq3 (h:=xA (h:=Ze (Za (xM (h:=ZJ (h:=Zc rfl (fun g3=>?_) (fun g3=>?_)))))))
 try simp only [sQ,ne_eq] at g3
 have g3x:=(Zb5 oz).1 g3
 refine Za (xA (h:=Zh (Zq ?_)))
 exact ZB .ret (.inl rfl) [_] t1 ⟨ZI (by rw [ZbD (by unfold ZcQ;omega)]),rfl,rfl⟩
 try simp only [sQ,ne_eq] at g3
 have g3x:=Zcr oz g3
 refine Zf (Zd (Za (xW ZrE (h:=xL [_,_] Zxh 0 (h:=xM (h:=?_))))))
 have hq4:=ZnN (J:=J) _ _ (⟨x.queue.next,x.queue.items⟩:DQueue) (szI (szI (left - ↑x.domain.length) (szL ZcP x.users)) (szL Zas x.folders)) om om _ hi
 refine xR Zyo rfl hq4 (h:=xA (h:=Ze (Za (xM (h:=ZJ (h:=Zc rfl (fun g4=>?_) (fun g4=>?_)))))))
 try simp only [sQ,ne_eq] at g4
 have g4x:=(Zb5 oz).1 g4
 refine Za (xA (h:=Zh (Zq ?_)))
 exact ZB .ret (.inl rfl) [_] t1 ⟨ZI (by rw [ZbD (by unfold ZcQ;omega)]),rfl,rfl⟩
 try simp only [sQ,ne_eq] at g4
 have g4x:=Zcr oz g4
 refine Zf (Zd (Za (xM (h:=xA (h:=Zh ?_)))))
 exact ZB .ret (.inl rfl) [_] t1 ⟨ZI (by (try dsimp only at *);rw [ZlA (left:=left) (s:=ZcQ x) (by unfold ZcQ;omega)];unfold ZcQ;omega),rfl,rfl⟩

set_option maxHeartbeats 400000 in
theorem ZpT (x:DUser)  (B:Kn):Z9 (pj J) 95 [.agg #[str x.name,str x.pass,.int .i64 x.quota]] B (.agg #[str x.name,str x.pass,.int .i64 x.quota]):=by
 refine Zb 14 Tryz.func95 rfl rfl rfl (Nat.le_of_ble_eq_true rfl) ?_
 refine Za (xBx [_,_,_] (h:=fun b1=>xAl [_,_,_] ZdK (h:=fun b2=>ZE [_,_] rfl (Za (xAl [_,_,_] ZdK (h:=fun b3=>ZE [_,_,_] rfl (Za (xW Zo0 (h:=x1 lk9 0 (h:=xW ZaV (h:=xS [_] 2 [_,_,_] sz9 (h:=ZE [_,_,_] rfl ?_))))))))))))
 refine Za (xW ZoZ (h:=x1 lk9 0 (h:=xW Zfg (h:=xS [_] 2 [_,_,_] sz9 (h:=ZE [_,_,_] rfl (Za (xW ZsQ (h:=x1 lk3 0 (h:=xW Zc1 (h:=xS [_] 2 [_,_,_] sz3 (h:=ZE [_,_,_] rfl (Za ?_))))))))))))
 refine xL [_,_,_] ZeK 2 (h:=xS [_,_,_] 1 [_,_,_] Za3 (h:=ZE [_,_,_] rfl (Zh ?_)))
 exact ZB .ret (.inl rfl) [_] ⟨⟨_,rfl,.inr ⟨[_,_,_],ZeK,Zb1 1 rfl rfl rfl,rfl⟩⟩,trivial⟩ ⟨rfl,rfl,rfl⟩

set_option maxHeartbeats 400000 in
theorem ZnI (x:DGrant)  (B:Kn):Z9 (pj J) 180 [.agg #[str x.user,.int .i64 x.rights]] B (.agg #[str x.user,.int .i64 x.rights]):=by
 refine Zb 11 Tryz.func180 rfl rfl rfl (Nat.le_of_ble_eq_true rfl) ?_
 refine Za (xBx [_,_] (h:=fun b1=>xAl [_,_] Zme (h:=fun b2=>ZE [_,_] rfl (Za (xAl [_,_] Zme (h:=fun b3=>ZE [_,_,_] rfl (Za (xW ZoQ (h:=x1 lk9 0 (h:=xW ZbZ (h:=xS [_] 2 [_,_] sz9 (h:=ZE [_,_,_] rfl ?_))))))))))))
 refine Za (xW ZsL (h:=x1 lk3 0 (h:=xW Zc0 (h:=xS [_] 2 [_,_] sz3 (h:=ZE [_,_,_] rfl (Za (xL [_,_] Zot 2 (h:=xS [_,_] 1 [_,_] Zdh (h:=ZE [_,_,_] rfl (Zh ?_))))))))))
 exact ZB .ret (.inl rfl) [_] ⟨⟨_,rfl,.inr ⟨[_,_],Zot,Zb1 1 rfl rfl rfl,rfl⟩⟩,trivial⟩ ⟨rfl,rfl,rfl⟩

set_option maxHeartbeats 400000 in
theorem ZpV (x:DMail)  (B:Kn):Z9 (pj J) 204 [.agg #[.int .i64 x.uid,.int .i64 x.flags,str x.text]] B (.agg #[.int .i64 x.uid,.int .i64 x.flags,str x.text]):=by
 refine Zb 14 Tryz.func204 rfl rfl rfl (Nat.le_of_ble_eq_true rfl) ?_
 refine Za (xBx [_,_,_] (h:=fun b1=>xAl [_,_,_] ZfT (h:=fun b2=>ZE [_,_] rfl (Za (xAl [_,_,_] ZfT (h:=fun b3=>ZE [_,_,_] rfl (Za (xW ZsJ (h:=x1 lk3 0 (h:=xW Zcu (h:=xS [_] 2 [_,_,_] sz3 (h:=ZE [_,_,_] rfl ?_))))))))))))
 refine Za (xW ZsI (h:=x1 lk3 0 (h:=xW Zfe (h:=xS [_] 2 [_,_,_] sz3 (h:=ZE [_,_,_] rfl (Za (xW ZoN (h:=x1 lk9 0 (h:=xW ZdY (h:=xS [_] 2 [_,_,_] sz9 (h:=ZE [_,_,_] rfl (Za ?_))))))))))))
 refine xL [_,_,_] Zf5 2 (h:=xS [_,_,_] 1 [_,_,_] Zcs (h:=ZE [_,_,_] rfl (Zh ?_)))
 exact ZB .ret (.inl rfl) [_] ⟨⟨_,rfl,.inr ⟨[_,_,_],Zf5,Zb1 1 rfl rfl rfl,rfl⟩⟩,trivial⟩ ⟨rfl,rfl,rfl⟩

set_option maxHeartbeats 400000 in
theorem ZpU (q:Option Addr) (cp:Nat) (xs:List Str) (hx20:ZeP xs≤1048576) (B:Kn) (hx:SlK B q cp 1 Zc5 xs):Zz (pj J) 59 [.slice q xs.length cp] B [] (fun v B' Ls=>∃q c l,v = .slice q xs.length c∧B'=B∧Ls=[l]∧ZU Kn.none l q c 9 1 Zc5 xs):=by
 refine Zb 22 Tryz.func59 rfl rfl rfl (Nat.le_of_ble_eq_true rfl) ?_
 have hxn:=hx.len
 have hx21:=Zr8 hx20
 refine Za (xA (h:=Za (xM (h:=xV Tryz.underlying43 (h:=Zp (ZaR (m:=xs.length) (c:=xs.length) (by_:=16) [.string ⟨#[]⟩] rfl rfl Zur zo9 rfl rfl ⟨_,_,rfl,by first | omega | (simp;done) | (simp;omega)⟩ ⟨_,_,rfl,by first | omega | (simp;done) | (simp;omega)⟩ om om (fun b1=>?_)))))))
 have hv1:=ZU.zeros (B:=Kn.none) (b:=b1) (T:=9) (R:=Zc5) (d:=([]:Str)) (m:=xs.length) (c:=xs.length) (zs:=[.string ⟨#[]⟩]) rfl (⟨rfl,by simp⟩) om
 refine xA (h:=ZE [_] rfl (Ze (Za (xA (h:=Zl (ZC (α:=Nat × Cells) [0,2] (fun g=>[(3,.slice (some ⟨b1,0,none⟩) xs.length xs.length),(4,.int .i64 g.1)]) [0] (fun g=>[g.2]) (fun g Bx=>Bx=B∧g.1≤xs.length∧ZU Kn.none g.2 (some ⟨b1,0,none⟩) xs.length 9 1 Zc5 (fill xs ([]:Str) g.1)) (fun g=>xs.length - g.1) (0,_) t2 rfl (⟨rfl,Nat.zero_le _,by rw [ZdC];exact hv1⟩) (fun g B2 hle2 hI=>?_)))))))
 obtain ⟨rfl,hk,hvl⟩:=hI
 have hfl:=ZeA (d:=([]:Str)) hk
 refine ZF [(0,_),(2,_),(3,_),(4,_)] [_] t4 rfl (Ze (Za (xM (h:=xM (h:=xV Tryz.underlying43 (h:=ZJ (h:=Zc rfl (fun g1=>?_) (fun g1=>?_))))))))
 try simp only [sQ,ne_eq] at g1
 refine Zf (Zd (Ze (Zl (Zk (xM (h:=xM (h:=xM (h:=xM (h:=?_)))))))))
 obtain ⟨z,hz⟩:=ZY (xs:=xs) (i:=g.1) om
 obtain ⟨bb4,oo4,rfl⟩:=hx.base hz
 obtain ⟨_,⟨rfl,hb5⟩,hc5⟩:=hx.elem hz
 refine xIx Tryz.underlying43 sz9 (h:=y1 lk9 hc5 0 (h:=xIp rfl Tryz.underlying43 sz9 (h:=Zp (ZpN (R:=Zc5) (k:=g.1) (z) 0 rfl hvl rfl om rfl rfl sz9 rfl rfl rfl rfl rfl (⟨rfl,by first | assumption | omega | (simp;omega)⟩) (fun l7 hv7=>?_)))))
 refine ZS (Zd (Zk (xM (h:=xD (h:=xA (h:=?_))))))
 exact ZG (g.1+1,l7) [0] so2 ⟨rfl,so,by rw [← ZdD hz];exact hv7⟩ t4 rfl
 try simp only [sQ,ne_eq] at g1
 refine ZH (Z0 (ZM (Zx (Zd (Za (xM (h:=xA (h:=Zh ?_))))))))
 exact Zbe .ret (.inl rfl) [_] [0] rfl t1 ⟨_,_,_,rfl,rfl,rfl,by have e:=hvl;rw [ZeB oz] at e;exact e⟩

set_option maxHeartbeats 400000 in
theorem ZnE (q:Option Addr) (cp:Nat) (xs:List DUser) (hx20:szL ZcP xs≤1048576) (B:Kn) (hx:SlK B q cp 3 Zn xs):Zz (pj J) 37 [.slice q xs.length cp] B [] (fun v B' Ls=>∃q c l,v = .slice q xs.length c∧B'=B∧Ls=[l]∧ZU Kn.none l q c 123 3 Zn xs):=by
 refine Zb 23 Tryz.func37 rfl rfl rfl (Nat.le_of_ble_eq_true rfl) ?_
 have hxn:=hx.len
 have hx21:=(Zau hx20).1
 refine Za (xA (h:=Za (xM (h:=xV Tryz.underlying22 (h:=Zp (ZaR (m:=xs.length) (c:=xs.length) (by_:=40) [.string ⟨#[]⟩,.string ⟨#[]⟩,.int .i64 0] rfl rfl Zm4 ZdK rfl rfl ⟨_,_,rfl,by first | omega | (simp;done) | (simp;omega)⟩ ⟨_,_,rfl,by first | omega | (simp;done) | (simp;omega)⟩ om om (fun b1=>?_)))))))
 have hv1:=ZU.zeros (B:=Kn.none) (b:=b1) (T:=123) (R:=Zn) (d:=(⟨[],[],0⟩:DUser)) (m:=xs.length) (c:=xs.length) (zs:=[.string ⟨#[]⟩,.string ⟨#[]⟩,.int .i64 0]) rfl (⟨rfl,by simp,by simp⟩) om
 refine xA (h:=ZE [_] rfl (Ze (Za (xA (h:=Zl (ZC (α:=Nat × Cells) [0,2] (fun g=>[(3,.slice (some ⟨b1,0,none⟩) xs.length xs.length),(4,.int .i64 g.1)]) [0] (fun g=>[g.2]) (fun g Bx=>Bx=B∧g.1≤xs.length∧ZU Kn.none g.2 (some ⟨b1,0,none⟩) xs.length 123 3 Zn (fill xs (⟨[],[],0⟩:DUser) g.1)) (fun g=>xs.length - g.1) (0,_) t2 rfl (⟨rfl,Nat.zero_le _,by rw [ZdC];exact hv1⟩) (fun g B2 hle2 hI=>?_)))))))
 obtain ⟨rfl,hk,hvl⟩:=hI
 have hfl:=ZeA (d:=(⟨[],[],0⟩:DUser)) hk
 refine ZF [(0,_),(2,_),(3,_),(4,_)] [_] t4 rfl (Ze (Za (xM (h:=xM (h:=xV Tryz.underlying22 (h:=ZJ (h:=Zc rfl (fun g1=>?_) (fun g1=>?_))))))))
 try simp only [sQ,ne_eq] at g1
 refine Zf (Zd (Ze (Zl (Zk (xM (h:=xM (h:=xM (h:=xM (h:=?_)))))))))
 obtain ⟨z,hz⟩:=ZY (xs:=xs) (i:=g.1) om
 obtain ⟨bb4,oo4,rfl⟩:=hx.base hz
 obtain ⟨_,⟨rfl,hb5,hb5b⟩,hc5⟩:=hx.elem hz
 refine xIx Tryz.underlying22 ZtR (h:=yL [_,_,_] Zuc hc5 0 (h:=xR ZxN rfl (ZpT z  _) (h:=xIp rfl Tryz.underlying30 Za3 (h:=Zp (ZpN (R:=Zn) (k:=g.1) (z) 0 rfl hvl rfl om rfl rfl Za3 rfl rfl rfl rfl rfl (⟨rfl,by first | assumption | omega | (simp;done) | (simp;omega),by first | assumption | omega | (simp;done) | (simp;omega)⟩) (fun l8 hv8=>?_))))))
 refine ZS (Zd (Zk (xM (h:=xD (h:=xA (h:=?_))))))
 exact ZG (g.1+1,l8) [0] so2 ⟨rfl,so,by rw [← ZdD hz];exact hv8⟩ t4 rfl
 try simp only [sQ,ne_eq] at g1
 refine ZH (Z0 (ZM (Zx (Zd (Za (xM (h:=xA (h:=Zh ?_))))))))
 exact Zbe .ret (.inl rfl) [_] [0] rfl t1 ⟨_,_,_,rfl,rfl,rfl,by have e:=hvl;rw [ZeB oz] at e;exact e⟩

set_option maxHeartbeats 400000 in
theorem Zml (q:Option Addr) (cp:Nat) (xs:List DGrant) (hx20:szL Zb6 xs≤1048576) (B:Kn) (hx:SlK B q cp 2 ZW xs):Zz (pj J) 146 [.slice q xs.length cp] B [] (fun v B' Ls=>∃q c l,v = .slice q xs.length c∧B'=B∧Ls=[l]∧ZU Kn.none l q c 133 2 ZW xs):=by
 refine Zb 23 Tryz.func146 rfl rfl rfl (Nat.le_of_ble_eq_true rfl) ?_
 have hxn:=hx.len
 have hx21:=(Zau hx20).1
 refine Za (xA (h:=Za (xM (h:=xV Tryz.underlying114 (h:=Zp (ZaR (m:=xs.length) (c:=xs.length) (by_:=24) [.string ⟨#[]⟩,.int .i64 0] rfl rfl ZvF Zme rfl rfl ⟨_,_,rfl,by first | omega | (simp;done) | (simp;omega)⟩ ⟨_,_,rfl,by first | omega | (simp;done) | (simp;omega)⟩ om om (fun b1=>?_)))))))
 have hv1:=ZU.zeros (B:=Kn.none) (b:=b1) (T:=133) (R:=ZW) (d:=(⟨[],0⟩:DGrant)) (m:=xs.length) (c:=xs.length) (zs:=[.string ⟨#[]⟩,.int .i64 0]) rfl (⟨rfl,by simp⟩) om
 refine xA (h:=ZE [_] rfl (Ze (Za (xA (h:=Zl (ZC (α:=Nat × Cells) [0,2] (fun g=>[(3,.slice (some ⟨b1,0,none⟩) xs.length xs.length),(4,.int .i64 g.1)]) [0] (fun g=>[g.2]) (fun g Bx=>Bx=B∧g.1≤xs.length∧ZU Kn.none g.2 (some ⟨b1,0,none⟩) xs.length 133 2 ZW (fill xs (⟨[],0⟩:DGrant) g.1)) (fun g=>xs.length - g.1) (0,_) t2 rfl (⟨rfl,Nat.zero_le _,by rw [ZdC];exact hv1⟩) (fun g B2 hle2 hI=>?_)))))))
 obtain ⟨rfl,hk,hvl⟩:=hI
 have hfl:=ZeA (d:=(⟨[],0⟩:DGrant)) hk
 refine ZF [(0,_),(2,_),(3,_),(4,_)] [_] t4 rfl (Ze (Za (xM (h:=xM (h:=xV Tryz.underlying114 (h:=ZJ (h:=Zc rfl (fun g1=>?_) (fun g1=>?_))))))))
 try simp only [sQ,ne_eq] at g1
 refine Zf (Zd (Ze (Zl (Zk (xM (h:=xM (h:=xM (h:=xM (h:=?_)))))))))
 obtain ⟨z,hz⟩:=ZY (xs:=xs) (i:=g.1) om
 obtain ⟨bb4,oo4,rfl⟩:=hx.base hz
 obtain ⟨_,⟨rfl,hb5⟩,hc5⟩:=hx.elem hz
 refine xIx Tryz.underlying114 ZtN (h:=yL [_,_] Zt6 hc5 0 (h:=xR Zv8 rfl (ZnI z  _) (h:=xIp rfl Tryz.underlying68 Zdh (h:=Zp (ZpN (R:=ZW) (k:=g.1) (z) 0 rfl hvl rfl om rfl rfl Zdh rfl rfl rfl rfl rfl (⟨rfl,by first | assumption | omega | (simp;done) | (simp;omega)⟩) (fun l8 hv8=>?_))))))
 refine ZS (Zd (Zk (xM (h:=xD (h:=xA (h:=?_))))))
 exact ZG (g.1+1,l8) [0] so2 ⟨rfl,so,by rw [← ZdD hz];exact hv8⟩ t4 rfl
 try simp only [sQ,ne_eq] at g1
 refine ZH (Z0 (ZM (Zx (Zd (Za (xM (h:=xA (h:=Zh ?_))))))))
 exact Zbe .ret (.inl rfl) [_] [0] rfl t1 ⟨_,_,_,rfl,rfl,rfl,by have e:=hvl;rw [ZeB oz] at e;exact e⟩

set_option maxHeartbeats 400000 in
theorem ZnG (q:Option Addr) (cp:Nat) (xs:List DMail) (hx20:szL Zdb xs≤1048576) (B:Kn) (hx:SlK B q cp 3 ZZ xs):Zz (pj J) 181 [.slice q xs.length cp] B [] (fun v B' Ls=>∃q c l,v = .slice q xs.length c∧B'=B∧Ls=[l]∧ZU Kn.none l q c 205 3 ZZ xs):=by
 refine Zb 23 Tryz.func181 rfl rfl rfl (Nat.le_of_ble_eq_true rfl) ?_
 have hxn:=hx.len
 have hx21:=(Zau hx20).1
 refine Za (xA (h:=Za (xM (h:=xV Tryz.underlying115 (h:=Zp (ZaR (m:=xs.length) (c:=xs.length) (by_:=32) [.int .i64 0,.int .i64 0,.string ⟨#[]⟩] rfl rfl Zth ZfT rfl rfl ⟨_,_,rfl,by first | omega | (simp;done) | (simp;omega)⟩ ⟨_,_,rfl,by first | omega | (simp;done) | (simp;omega)⟩ om om (fun b1=>?_)))))))
 have hv1:=ZU.zeros (B:=Kn.none) (b:=b1) (T:=205) (R:=ZZ) (d:=(⟨0,0,[]⟩:DMail)) (m:=xs.length) (c:=xs.length) (zs:=[.int .i64 0,.int .i64 0,.string ⟨#[]⟩]) rfl (⟨rfl,by simp⟩) om
 refine xA (h:=ZE [_] rfl (Ze (Za (xA (h:=Zl (ZC (α:=Nat × Cells) [0,2] (fun g=>[(3,.slice (some ⟨b1,0,none⟩) xs.length xs.length),(4,.int .i64 g.1)]) [0] (fun g=>[g.2]) (fun g Bx=>Bx=B∧g.1≤xs.length∧ZU Kn.none g.2 (some ⟨b1,0,none⟩) xs.length 205 3 ZZ (fill xs (⟨0,0,[]⟩:DMail) g.1)) (fun g=>xs.length - g.1) (0,_) t2 rfl (⟨rfl,Nat.zero_le _,by rw [ZdC];exact hv1⟩) (fun g B2 hle2 hI=>?_)))))))
 obtain ⟨rfl,hk,hvl⟩:=hI
 have hfl:=ZeA (d:=(⟨0,0,[]⟩:DMail)) hk
 refine ZF [(0,_),(2,_),(3,_),(4,_)] [_] t4 rfl (Ze (Za (xM (h:=xM (h:=xV Tryz.underlying115 (h:=ZJ (h:=Zc rfl (fun g1=>?_) (fun g1=>?_))))))))
 try simp only [sQ,ne_eq] at g1
 refine Zf (Zd (Ze (Zl (Zk (xM (h:=xM (h:=xM (h:=xM (h:=?_)))))))))
 obtain ⟨z,hz⟩:=ZY (xs:=xs) (i:=g.1) om
 obtain ⟨bb4,oo4,rfl⟩:=hx.base hz
 obtain ⟨_,⟨rfl,hb5⟩,hc5⟩:=hx.elem hz
 refine xIx Tryz.underlying115 ZtL (h:=yL [_,_,_] Zt4 hc5 0 (h:=xR ZvR rfl (ZpV z  _) (h:=xIp rfl Tryz.underlying71 Zcs (h:=Zp (ZpN (R:=ZZ) (k:=g.1) (z) 0 rfl hvl rfl om rfl rfl Zcs rfl rfl rfl rfl rfl (⟨rfl,by first | assumption | omega | (simp;done) | (simp;omega)⟩) (fun l8 hv8=>?_))))))
 refine ZS (Zd (Zk (xM (h:=xD (h:=xA (h:=?_))))))
 exact ZG (g.1+1,l8) [0] so2 ⟨rfl,so,by rw [← ZdD hz];exact hv8⟩ t4 rfl
 try simp only [sQ,ne_eq] at g1
 refine ZH (Z0 (ZM (Zx (Zd (Za (xM (h:=xA (h:=Zh ?_))))))))
 exact Zbe .ret (.inl rfl) [_] [0] rfl t1 ⟨_,_,_,rfl,rfl,rfl,by have e:=hvl;rw [ZeB oz] at e;exact e⟩

set_option maxHeartbeats 400000 in
theorem ZpW (q:Option Addr) (cp:Nat) (x:DItem) (B:Kn) (hx:SlK B q cp 1 Zc5 x.left) (hl:ZeP x.left≤1048576):Zz (pj J) 148 [.agg #[.int .i64 x.id,str x.fr,str x.text,.slice q x.left.length cp]] B [] (fun v B' Ls=>∃q0 c0 l0,v = .agg #[.int .i64 x.id,str x.fr,str x.text,.slice q0 x.left.length c0]∧B'=B∧Ls=[l0]∧ZU Kn.none l0 q0 c0 9 1 Zc5 x.left):=by
 refine Zb 18 Tryz.func148 rfl rfl rfl (Nat.le_of_ble_eq_true rfl) ?_
 refine Za (xBx [_,_,_,_] (h:=fun b1=>xAl [_,_,_,_] ZeH (h:=fun b2=>ZE [_,_] rfl (Za (xAl [_,_,_,_] ZeH (h:=fun b3=>ZE [_,_,_] rfl (Za (xW ZsM (h:=x1 lk3 0 (h:=xW Zd0 (h:=xS [_] 2 [_,_,_,_] sz3 (h:=ZE [_,_,_] rfl ?_))))))))))))
 refine Za (xW ZoT (h:=x1 lk9 0 (h:=xW ZdZ (h:=xS [_] 2 [_,_,_,_] sz9 (h:=ZE [_,_,_] rfl (Za (xW ZoS (h:=x1 lk9 0 (h:=xW Zff (h:=xS [_] 2 [_,_,_,_] sz9 (h:=ZE [_,_,_] rfl (Za ?_))))))))))))
 refine xW ZoR (h:=x1 ZkP 0 (h:=Zp (ZV rfl rfl Zx4 rfl (ZpU _ _ x.left om2 _ hx) ?_)))
 rintro _ B4 _ hle4 ⟨q4,c4,l4,rfl,rfl,rfl,hv4⟩
 refine xW Zcc (h:=xS [_] 2 [_,_,_,_] Zvp (h:=ZE [_,_,_,_] rfl (Za (xL [_,_,_,_] Zef 2 (h:=xS [_,_,_,_] 1 [_,_,_,_] Zbg (h:=ZE [_,_,_,_] rfl (Zh ?_)))))))
 exact Zbe .ret (.inl rfl) [_] [3] rfl ⟨⟨_,rfl,.inr ⟨[_,_,_,_],Zef,Zb1 1 rfl rfl rfl,rfl⟩⟩,trivial⟩ ⟨_,_,_,rfl,rfl,rfl,hv4⟩

set_option maxHeartbeats 400000 in
theorem ZnH (q:Option Addr) (cp:Nat) (xs:List DItem) (hx20:szL Zbl xs≤1048576) (B:Kn) (hx:SlK B q cp 4 Zu xs):Zz (pj J) 97 [.slice q xs.length cp] B [] (fun v B' Ls=>∃q c l,v = .slice q xs.length c∧B'=B∧Ls=[l]∧ZaM l q c 126 4 (ZaP 9) xs):=by
 refine Zb 23 Tryz.func97 rfl rfl rfl (Nat.le_of_ble_eq_true rfl) ?_
 have hxn:=hx.len
 have hx21:=(Zau hx20).1
 refine Za (xA (h:=Za (xM (h:=xV Tryz.underlying24 (h:=Zp (ZaR (m:=xs.length) (c:=xs.length) (by_:=64) [.int .i64 0,.string ⟨#[]⟩,.string ⟨#[]⟩,.slice none 0 0] rfl rfl ZvG ZeH rfl rfl ⟨_,_,rfl,by first | omega | (simp;done) | (simp;omega)⟩ ⟨_,_,rfl,by first | omega | (simp;done) | (simp;omega)⟩ om om (fun b1=>?_)))))))
 have hd1:=ZaM.zeros (b:=b1) (T:=126) (R:=ZaP 9) (d:=(⟨0,[],[],[]⟩:DItem)) (m:=xs.length) (c:=xs.length) (zs:=[.int .i64 0,.string ⟨#[]⟩,.string ⟨#[]⟩,.slice none 0 0]) rfl (⟨_,_,rfl,ZU.nil,by simp,by simp,by simp⟩) om
 refine xA (h:=ZE [_] rfl (Ze (Za (xA (h:=Zl (ZC (α:=Nat × Cells) [0,2] (fun g=>[(3,.slice (some ⟨b1,0,none⟩) xs.length xs.length),(4,.int .i64 g.1)]) [0] (fun g=>[g.2]) (fun g Bx=>Bx=B∧g.1≤xs.length∧ZaM g.2 (some ⟨b1,0,none⟩) xs.length 126 4 (ZaP 9) (fill xs (⟨0,[],[],[]⟩:DItem) g.1)) (fun g=>xs.length - g.1) (0,_) t2 rfl (⟨rfl,Nat.zero_le _,by rw [ZdC];exact hd1⟩) (fun g B2 hle2 hI=>?_)))))))
 obtain ⟨rfl,hk,hvl⟩:=hI
 have hfl:=ZeA (d:=(⟨0,[],[],[]⟩:DItem)) hk
 refine ZF [(0,_),(2,_),(3,_),(4,_)] [_] t4 rfl (Ze (Za (xM (h:=xM (h:=xV Tryz.underlying24 (h:=ZJ (h:=Zc rfl (fun g1=>?_) (fun g1=>?_))))))))
 try simp only [sQ,ne_eq] at g1
 refine Zf (Zd (Ze (Zl (Zk (xM (h:=xM (h:=xM (h:=xM (h:=?_)))))))))
 obtain ⟨z,hz⟩:=ZY (xs:=xs) (i:=g.1) om
 obtain ⟨bb4,oo4,rfl⟩:=hx.base hz
 obtain ⟨_,⟨qi5,ci5,rfl,hi5,hb5,hb5b⟩,hc5⟩:=hx.elem hz
 have hi5n:=hi5.len
 refine xIx Tryz.underlying24 ZtO (h:=?_)
 have hzz:=(Zau hx20).2 z (List.mem_of_getElem? hz)
 have hza:=Zsz hzz
 refine yL [_,_,_,_] Zt7 hc5 0 (h:=Zp (ZV rfl rfl Zww rfl (ZpW _ _ z _ hi5 om2) ?_))
 rintro _ B6 _ hle6 ⟨q6,c6,l6,rfl,rfl,rfl,hv6⟩
 refine xIp rfl Tryz.underlying32 Zbg (h:=Zp (Ztl (R:=ZaP 9) (k:=g.1) (z) 0 [1] rfl rfl hvl rfl om rfl rfl Zbg rfl rfl rfl rfl rfl (l6) (by simp) (⟨_,_,rfl,hv6,by first | assumption | omega | (simp;done) | (simp;omega),by first | assumption | omega | (simp;done) | (simp;omega),by first | assumption | omega | (simp;done) | (simp;omega)⟩) (fun l8 hd8=>?_)))
 refine ZS (Zd (Zk (xM (h:=xD (h:=xA (h:=?_))))))
 exact ZG (g.1+1,l8) [0] so2 ⟨rfl,so,by rw [← ZdD hz];exact hd8⟩ t4 rfl
 try simp only [sQ,ne_eq] at g1
 refine ZH (Z0 (ZM (Zx (Zd (Za (xM (h:=xA (h:=Zh ?_))))))))
 exact Zbe .ret (.inl rfl) [_] [0] rfl t1 ⟨_,_,_,rfl,rfl,rfl,by have e:=hvl;rw [ZeB oz] at e;exact e⟩

set_option maxHeartbeats 400000 in
theorem ZnF (q:Option Addr) (cp:Nat) (x:DQueue) (B:Kn) (hx:SlK B q cp 4 Zu x.items) (hl:szL Zbl x.items≤1048576):Zz (pj J) 39 [.agg #[.int .i64 x.next,.slice q x.items.length cp]] B [] (fun v B' Ls=>∃q0 c0 l0,v = .agg #[.int .i64 x.next,.slice q0 x.items.length c0]∧B'=B∧Ls=[l0]∧ZaM l0 q0 c0 126 4 (ZaP 9) x.items):=by
 refine Zb 12 Tryz.func39 rfl rfl rfl (Nat.le_of_ble_eq_true rfl) ?_
 refine Za (xBx [_,_] (h:=fun b1=>xAl [_,_] ZpJ (h:=fun b2=>ZE [_,_] rfl (Za (xAl [_,_] ZpJ (h:=fun b3=>ZE [_,_,_] rfl (Za (xW Zuj (h:=x1 lk3 0 (h:=xW ZfI (h:=xS [_] 2 [_,_] sz3 (h:=ZE [_,_,_] rfl ?_))))))))))))
 refine Za (xW ZrI (h:=x1 Zxi 0 (h:=Zp (ZV rfl rfl ZxL rfl (ZnH _ _ x.items om2 _ hx) ?_))))
 rintro _ B4 _ hle4 ⟨q4,c4,l4,rfl,rfl,rfl,hv4⟩
 refine xW Zbx (h:=xS [_] 2 [_,_] Zvq (h:=ZE [_,_,_,_] rfl (Za (xL [_,_] Zke 2 (h:=xS [_,_] 1 [_,_] Zr7 (h:=ZE [_,_,_,_] rfl (Zh ?_)))))))
 exact Zbe .ret (.inl rfl) [_] [3] rfl ⟨⟨_,rfl,.inr ⟨[_,_],Zke,Zb1 1 rfl rfl rfl,rfl⟩⟩,trivial⟩ ⟨_,_,_,rfl,rfl,rfl,hv4⟩

set_option maxHeartbeats 400000 in
theorem Zr3 (q:Option Addr) (cp:Nat) (x:DBox) (B:Kn) (hx:SlK B q cp 3 ZZ x.mail) (hl:szL Zdb x.mail≤1048576):Zz (pj J) 147 [.agg #[.int .i64 x.next,.slice q x.mail.length cp]] B [] (fun v B' Ls=>∃q0 c0 l0,v = .agg #[.int .i64 x.next,.slice q0 x.mail.length c0]∧B'=B∧Ls=[l0]∧ZU Kn.none l0 q0 c0 205 3 ZZ x.mail):=by
 refine Zb 12 Tryz.func147 rfl rfl rfl (Nat.le_of_ble_eq_true rfl) ?_
 refine Za (xBx [_,_] (h:=fun b1=>xAl [_,_] Znl (h:=fun b2=>ZE [_,_] rfl (Za (xAl [_,_] Znl (h:=fun b3=>ZE [_,_,_] rfl (Za (xW ZsP (h:=x1 lk3 0 (h:=xW Zcy (h:=xS [_] 2 [_,_] sz3 (h:=ZE [_,_,_] rfl ?_))))))))))))
 refine Za (xW ZoY (h:=x1 Zua 0 (h:=Zp (ZV rfl rfl Zv7 rfl (ZnG _ _ x.mail om2 _ hx) ?_))))
 rintro _ B4 _ hle4 ⟨q4,c4,l4,rfl,rfl,rfl,hv4⟩
 refine xW Zbd (h:=xS [_] 2 [_,_] Zvn (h:=ZE [_,_,_,_] rfl (Za (xL [_,_] Zfa 2 (h:=xS [_,_] 1 [_,_] Zjg (h:=ZE [_,_,_,_] rfl (Zh ?_)))))))
 exact Zbe .ret (.inl rfl) [_] [3] rfl ⟨⟨_,rfl,.inr ⟨[_,_],Zfa,Zb1 1 rfl rfl rfl,rfl⟩⟩,trivial⟩ ⟨_,_,_,rfl,rfl,rfl,hv4⟩

set_option maxHeartbeats 400000 in
theorem Zmm (qa qb:Option Addr) (ca cb:Nat) (x:DFolder) (B:Kn) (hx:SlK B qa ca 2 ZW x.grants) (hy:SlK B qb cb 3 ZZ x.mail) (hl:szL Zb6 x.grants≤1048576) (hl2:szL Zdb x.mail≤1048576):Zz (pj J) 96 [.agg #[str x.owner,str x.name,.slice qa x.grants.length ca,.int .i64 x.next,.slice qb x.mail.length cb]] B [] (fun v B' Ls=>∃q0 c0 l0 q1 c1 l1,v = .agg #[str x.owner,str x.name,.slice q0 x.grants.length c0,.int .i64 x.next,.slice q1 x.mail.length c1]∧B'=B∧Ls=[l0,l1]∧ZU Kn.none l0 q0 c0 133 2 ZW x.grants∧ZU Kn.none l1 q1 c1 205 3 ZZ x.mail):=by
 refine Zb 19 Tryz.func96 rfl rfl rfl (Nat.le_of_ble_eq_true rfl) ?_
 refine Za (xBx [_,_,_,_,_] (h:=fun b1=>xAl [_,_,_,_,_] ZfR (h:=fun b2=>ZE [_,_] rfl (Za (xAl [_,_,_,_,_] ZfR (h:=fun b3=>ZE [_,_,_] rfl (Za (xW ZoX (h:=x1 lk9 0 (h:=xW Zbw (h:=xS [_] 2 [_,_,_,_,_] sz9 (h:=ZE [_,_,_] rfl ?_))))))))))))
 refine Za (xW ZoW (h:=x1 lk9 0 (h:=xW Zdz (h:=xS [_] 2 [_,_,_,_,_] sz9 (h:=ZE [_,_,_] rfl (Za (xW ZoV (h:=x1 Zub 0 (h:=Zp (ZV rfl rfl Zwy rfl (Zml _ _ x.grants om2 _ hx) ?_))))))))))
 rintro _ B4 _ hle4 ⟨q4,c4,l4,rfl,rfl,rfl,hv4⟩
 refine xW Zdy (h:=xS [_] 2 [_,_,_,_,_] Zvo (h:=ZE [_,_,_,_] rfl (Za (xW ZoU (h:=xL [_,_] Zt9 0 (h:=Zp (ZV rfl rfl Zwx rfl (Zr3 _ _ ⟨x.next,x.mail⟩ _ hy om2) ?_)))))))
 rintro _ B5 _ hle5 ⟨q5,c5,l5,rfl,rfl,rfl,hv5⟩
 refine xW ZbY (h:=xS [_,_] 2 [_,_,_,_,_] Zjg (h:=ZE [_,_,_,_,_] rfl (Za (xL [_,_,_,_,_] Zhx 2 (h:=xS [_,_,_,_,_] 1 [_,_,_,_,_] ZbO (h:=ZE [_,_,_,_,_] rfl (Zh ?_)))))))
 exact Zbe .ret (.inl rfl) [_] [3,4] rfl ⟨⟨_,rfl,.inr ⟨[_,_,_,_,_],Zhx,Zb1 1 rfl rfl rfl,rfl⟩⟩,trivial⟩ ⟨_,_,_,_,_,_,rfl,rfl,rfl,hv4,hv5⟩

set_option maxHeartbeats 400000 in
theorem Zkn (q:Option Addr) (cp:Nat) (xs:List DFolder) (hx20:szL Zas xs≤1048576) (B:Kn) (hx:SlK B q cp 5 Zj xs):Zz (pj J) 38 [.slice q xs.length cp] B [] (fun v B' Ls=>∃q c l,v = .slice q xs.length c∧B'=B∧Ls=[l]∧ZaM l q c 75 5 (Z3 133 205) xs):=by
 refine Zb 23 Tryz.func38 rfl rfl rfl (Nat.le_of_ble_eq_true rfl) ?_
 have hxn:=hx.len
 have hx21:=(Zau hx20).1
 refine Za (xA (h:=Za (xM (h:=xV Tryz.underlying23 (h:=Zp (ZaR (m:=xs.length) (c:=xs.length) (by_:=88) [.string ⟨#[]⟩,.string ⟨#[]⟩,.slice none 0 0,.int .i64 0,.slice none 0 0] rfl rfl ZuV ZfR rfl rfl ⟨_,_,rfl,by first | omega | (simp;done) | (simp;omega)⟩ ⟨_,_,rfl,by first | omega | (simp;done) | (simp;omega)⟩ om om (fun b1=>?_)))))))
 have hd1:=ZaM.zeros (b:=b1) (T:=75) (R:=(Z3 133 205)) (d:=(⟨[],[],[],0,[]⟩:DFolder)) (m:=xs.length) (c:=xs.length) (zs:=[.string ⟨#[]⟩,.string ⟨#[]⟩,.slice none 0 0,.int .i64 0,.slice none 0 0]) rfl (⟨_,_,_,_,[],[],rfl,rfl,ZU.nil,ZU.nil,by simp,by simp,by simp,by simp⟩) om
 refine xA (h:=ZE [_] rfl (Ze (Za (xA (h:=Zl (ZC (α:=Nat × Cells) [0,2] (fun g=>[(3,.slice (some ⟨b1,0,none⟩) xs.length xs.length),(4,.int .i64 g.1)]) [0] (fun g=>[g.2]) (fun g Bx=>Bx=B∧g.1≤xs.length∧ZaM g.2 (some ⟨b1,0,none⟩) xs.length 75 5 (Z3 133 205) (fill xs (⟨[],[],[],0,[]⟩:DFolder) g.1)) (fun g=>xs.length - g.1) (0,_) t2 rfl (⟨rfl,Nat.zero_le _,by rw [ZdC];exact hd1⟩) (fun g B2 hle2 hI=>?_)))))))
 obtain ⟨rfl,hk,hvl⟩:=hI
 have hfl:=ZeA (d:=(⟨[],[],[],0,[]⟩:DFolder)) hk
 refine ZF [(0,_),(2,_),(3,_),(4,_)] [_] t4 rfl (Ze (Za (xM (h:=xM (h:=xV Tryz.underlying23 (h:=ZJ (h:=Zc rfl (fun g1=>?_) (fun g1=>?_))))))))
 try simp only [sQ,ne_eq] at g1
 refine Zf (Zd (Ze (Zl (Zk (xM (h:=xM (h:=xM (h:=xM (h:=?_)))))))))
 obtain ⟨z,hz⟩:=ZY (xs:=xs) (i:=g.1) om
 obtain ⟨bb4,oo4,rfl⟩:=hx.base hz
 obtain ⟨_,⟨qg5,cg5,qm5,cm5,rfl,hg5,hm5,hb5,hb5b⟩,hc5⟩:=hx.elem hz
 have hg5n:=hg5.len
 have hm5n:=hm5.len
 have hm5s:=Zal hm5
 refine xIx Tryz.underlying23 ZtQ (h:=?_)
 have hzz:=(Zau hx20).2 z (List.mem_of_getElem? hz)
 have hza:=Zhc hzz
 refine yL [_,_,_,_,_] Zt8 hc5 0 (h:=Zp (ZV rfl rfl ZxM rfl (Zmm _ _ _ _ z _ hg5 hm5 om2 om2) ?_))
 rintro _ B6 _ hle6 ⟨q6,c6,l6,q6b,c6b,l6b,rfl,rfl,rfl,hv6,hv6b⟩
 refine xIp rfl Tryz.underlying31 ZbO (h:=Zp (Ztl (R:=(Z3 133 205)) (k:=g.1) (z) 0 [1,2] rfl rfl hvl rfl om rfl rfl ZbO rfl rfl rfl rfl rfl (l6 ++ l6b) (by simp) (⟨_,_,_,_,_,_,rfl,rfl,(hv6.anyK ZW.any),(hv6b.anyK ZZ.any),by first | assumption | omega | (simp;done) | (simp;omega),by first | assumption | omega | (simp;done) | (simp;omega),by first | assumption | omega | (simp;done) | (simp;omega),by first | assumption | omega | (simp;done) | (simp;omega)⟩) (fun l8 hd8=>?_)))
 refine ZS (Zd (Zk (xM (h:=xD (h:=xA (h:=?_))))))
 exact ZG (g.1+1,l8) [0] so2 ⟨rfl,so,by rw [← ZdD hz];exact hd8⟩ t4 rfl
 try simp only [sQ,ne_eq] at g1
 refine ZH (Z0 (ZM (Zx (Zd (Za (xM (h:=xA (h:=Zh ?_))))))))
 exact Zbe .ret (.inl rfl) [_] [0] rfl t1 ⟨_,_,_,rfl,rfl,rfl,by have e:=hvl;rw [ZeB oz] at e;exact e⟩

set_option maxHeartbeats 400000 in
theorem Zgx (q1 q2 q3:Option Addr) (c1 c2 c3:Nat) (x:DHost) (B:Kn) (hu:SlK B q1 c1 3 Zn x.users) (hf:SlK B q2 c2 5 Zj x.folders) (hi:SlK B q3 c3 4 Zu x.queue.items) (hsz:ZcQ x≤1048576):Zz (pj J) 10 [.agg #[str x.domain,.slice q1 x.users.length c1,.slice q2 x.folders.length c2,.int .i64 x.queue.next,.slice q3 x.queue.items.length c3]] B [] (fun v B' Ls=>∃q0 c0 l0 q1 c1 l1 q2 c2 l2,v = .agg #[str x.domain,.slice q0 x.users.length c0,.slice q1 x.folders.length c1,.int .i64 x.queue.next,.slice q2 x.queue.items.length c2]∧B'=B∧Ls=[l0,l1,l2]∧ZU Kn.none l0 q0 c0 123 3 Zn x.users∧ZaM l1 q1 c1 75 5 (Z3 133 205) x.folders∧ZaM l2 q2 c2 126 4 (ZaP 9) x.queue.items):=by
 refine Zb 20 Tryz.func10 rfl rfl rfl (Nat.le_of_ble_eq_true rfl) ?_
 have hsz2:=ZkZ hsz
 refine Za (xBx [_,_,_,_,_] (h:=fun b1=>xAl [_,_,_,_,_] Zch (h:=fun b2=>ZE [_,_] rfl (Za (xAl [_,_,_,_,_] Zch (h:=fun b3=>ZE [_,_,_] rfl (Za (xW ZrH (h:=x1 lk9 0 (h:=xW Zhd (h:=xS [_] 2 [_,_,_,_,_] sz9 (h:=ZE [_,_,_] rfl ?_))))))))))))
 refine Za (xW ZrG (h:=x1 Zxk 0 (h:=Zp (ZV rfl rfl Zyl rfl (ZnE _ _ x.users om2 _ hu) ?_))))
 rintro _ B4 _ hle4 ⟨q4,c4,l4,rfl,rfl,rfl,hv4⟩
 refine xW Zbn (h:=xS [_] 2 [_,_,_,_,_] ZxB (h:=ZE [_,_,_,_] rfl (Za (xW ZrF (h:=x1 Zxj 0 (h:=Zp (ZV rfl rfl Zyk rfl (Zkn _ _ x.folders om2 _ hf) ?_)))))))
 rintro _ B5 _ hle5 ⟨q5,c5,l5,rfl,rfl,rfl,hv5⟩
 refine xW Zar (h:=xS [_] 2 [_,_,_,_,_] Zw9 (h:=ZE [_,_,_,_,_] rfl (Za (xW ZrE (h:=xL [_,_] Zxh 0 (h:=Zp (ZV rfl rfl Zyj rfl (ZnF _ _ ⟨x.queue.next,x.queue.items⟩ _ hi om2) ?_)))))))
 rintro _ B6 _ hle6 ⟨q6,c6,l6,rfl,rfl,rfl,hv6⟩
 refine xW Zd5 (h:=xS [_,_] 2 [_,_,_,_,_] Zr7 (h:=ZE [_,_,_,_,_,_] rfl (Za (xL [_,_,_,_,_] Zcx 2 (h:=xS [_,_,_,_,_] 1 [_,_,_,_,_] Zdn (h:=ZE [_,_,_,_,_,_] rfl (Zh ?_)))))))
 exact Zbe .ret (.inl rfl) [_] [3,4,5] rfl ⟨⟨_,rfl,.inr ⟨[_,_,_,_,_],Zcx,Zb1 1 rfl rfl rfl,rfl⟩⟩,trivial⟩ ⟨_,_,_,_,_,_,_,_,_,rfl,rfl,rfl,hv4,hv5,hv6⟩

set_option maxHeartbeats 400000 in
theorem ZqU   (a b:DUser) (B:Kn)   : Z9 (pj J) 105 [.agg #[str a.name,str a.pass,.int .i64 a.quota],.agg #[str b.name,str b.pass,.int .i64 b.quota]] B (.bool (decide (a=b))):=by
 refine Zb 20 Tryz.func105 rfl rfl rfl (Nat.le_of_ble_eq_true rfl) ?_
 refine Za (xBx [_,_,_] (h:=fun b1=>xBx [_,_,_] (h:=fun b2=>xA (h:=ZE [_,_] rfl (Ze (Za (xW ZaV (h:=x1 lk9 0 (h:=xW ZaV (h:=x1 lk9 1 (h:=ZeM (h:=Zc rfl (fun g1=>?_) (fun g1=>?_)))))))))))))
 try simp only [sQ,ne_eq] at g1
 refine Za (xA (h:=Zh (Zq ?_)))
 exact ZB .ret (.inl rfl) [_] t1 ⟨Zg (by symm;rw [decide_eq_false_iff_not];rintro rfl;exact g1 rfl),rfl,rfl⟩
 try simp only [sQ,ne_eq] at g1
 refine Zf (Zd (Ze (Za (xW Zfg (h:=x1 lk9 0 (h:=xW Zfg (h:=x1 lk9 1 (h:=ZeM (h:=Zc rfl (fun g2=>?_) (fun g2=>?_))))))))))
 try simp only [sQ,ne_eq] at g2
 refine Za (xA (h:=Zh (Zq ?_)))
 exact ZB .ret (.inl rfl) [_] t1 ⟨Zg (by symm;rw [decide_eq_false_iff_not];rintro rfl;exact g2 rfl),rfl,rfl⟩
 try simp only [sQ,ne_eq] at g2
 refine Zf (Zd (Ze (Za (xW Zc1 (h:=x1 lk3 0 (h:=xW Zc1 (h:=x1 lk3 1 (h:=ZaN (h:=Zc rfl (fun g3=>?_) (fun g3=>?_))))))))))
 try simp only [sQ,ne_eq] at g3
 refine Za (xA (h:=Zh (Zq ?_)))
 exact ZB .ret (.inl rfl) [_] t1 ⟨Zg (by symm;rw [decide_eq_false_iff_not];rintro rfl;exact g3 rfl),rfl,rfl⟩
 try simp only [sQ,ne_eq] at g3
 refine Zf (Zd (Za (xA (h:=Zh ?_))))
 exact ZB .ret (.inl rfl) [_] t1 ⟨Zg (by symm;rw [decide_eq_true_eq];cases a;cases b;simp_all),rfl,rfl⟩

set_option maxHeartbeats 400000 in
theorem Zpb   (a b:DGrant) (B:Kn)   : Z9 (pj J) 194 [.agg #[str a.user,.int .i64 a.rights],.agg #[str b.user,.int .i64 b.rights]] B (.bool (decide (a=b))):=by
 refine Zb 15 Tryz.func194 rfl rfl rfl (Nat.le_of_ble_eq_true rfl) ?_
 refine Za (xBx [_,_] (h:=fun b1=>xBx [_,_] (h:=fun b2=>xA (h:=ZE [_,_] rfl (Ze (Za (xW ZbZ (h:=x1 lk9 0 (h:=xW ZbZ (h:=x1 lk9 1 (h:=ZeM (h:=Zc rfl (fun g1=>?_) (fun g1=>?_)))))))))))))
 try simp only [sQ,ne_eq] at g1
 refine Za (xA (h:=Zh (Zq ?_)))
 exact ZB .ret (.inl rfl) [_] t1 ⟨Zg (by symm;rw [decide_eq_false_iff_not];rintro rfl;exact g1 rfl),rfl,rfl⟩
 try simp only [sQ,ne_eq] at g1
 refine Zf (Zd (Ze (Za (xW Zc0 (h:=x1 lk3 0 (h:=xW Zc0 (h:=x1 lk3 1 (h:=ZaN (h:=Zc rfl (fun g2=>?_) (fun g2=>?_))))))))))
 try simp only [sQ,ne_eq] at g2
 refine Za (xA (h:=Zh (Zq ?_)))
 exact ZB .ret (.inl rfl) [_] t1 ⟨Zg (by symm;rw [decide_eq_false_iff_not];rintro rfl;exact g2 rfl),rfl,rfl⟩
 try simp only [sQ,ne_eq] at g2
 refine Zf (Zd (Za (xA (h:=Zh ?_))))
 exact ZB .ret (.inl rfl) [_] t1 ⟨Zg (by symm;rw [decide_eq_true_eq];cases a;cases b;simp_all),rfl,rfl⟩

set_option maxHeartbeats 400000 in
theorem ZqV   (a b:DMail) (B:Kn)   : Z9 (pj J) 228 [.agg #[.int .i64 a.uid,.int .i64 a.flags,str a.text],.agg #[.int .i64 b.uid,.int .i64 b.flags,str b.text]] B (.bool (decide (a=b))):=by
 refine Zb 20 Tryz.func228 rfl rfl rfl (Nat.le_of_ble_eq_true rfl) ?_
 refine Za (xBx [_,_,_] (h:=fun b1=>xBx [_,_,_] (h:=fun b2=>xA (h:=ZE [_,_] rfl (Ze (Za (xW Zcu (h:=x1 lk3 0 (h:=xW Zcu (h:=x1 lk3 1 (h:=ZaN (h:=Zc rfl (fun g1=>?_) (fun g1=>?_)))))))))))))
 try simp only [sQ,ne_eq] at g1
 refine Za (xA (h:=Zh (Zq ?_)))
 exact ZB .ret (.inl rfl) [_] t1 ⟨Zg (by symm;rw [decide_eq_false_iff_not];rintro rfl;exact g1 rfl),rfl,rfl⟩
 try simp only [sQ,ne_eq] at g1
 refine Zf (Zd (Ze (Za (xW Zfe (h:=x1 lk3 0 (h:=xW Zfe (h:=x1 lk3 1 (h:=ZaN (h:=Zc rfl (fun g2=>?_) (fun g2=>?_))))))))))
 try simp only [sQ,ne_eq] at g2
 refine Za (xA (h:=Zh (Zq ?_)))
 exact ZB .ret (.inl rfl) [_] t1 ⟨Zg (by symm;rw [decide_eq_false_iff_not];rintro rfl;exact g2 rfl),rfl,rfl⟩
 try simp only [sQ,ne_eq] at g2
 refine Zf (Zd (Ze (Za (xW ZdY (h:=x1 lk9 0 (h:=xW ZdY (h:=x1 lk9 1 (h:=ZeM (h:=Zc rfl (fun g3=>?_) (fun g3=>?_))))))))))
 try simp only [sQ,ne_eq] at g3
 refine Za (xA (h:=Zh (Zq ?_)))
 exact ZB .ret (.inl rfl) [_] t1 ⟨Zg (by symm;rw [decide_eq_false_iff_not];rintro rfl;exact g3 rfl),rfl,rfl⟩
 try simp only [sQ,ne_eq] at g3
 refine Zf (Zd (Za (xA (h:=Zh ?_))))
 exact ZB .ret (.inl rfl) [_] t1 ⟨Zg (by symm;rw [decide_eq_true_eq];cases a;cases b;simp_all),rfl,rfl⟩

set_option maxHeartbeats 400000 in
theorem Zo7 (q q':Option Addr) (cp cp':Nat) (xs ys:List DUser) (B:Kn) (ha:SlK B q cp 3 Zn xs) (hb:SlK B q' cp' 3 Zn ys):Z9 (pj J) 46 [.slice q xs.length cp,.slice q' ys.length cp'] B (.bool (decide (xs=ys))):=by
 refine Zb 27 Tryz.func46 rfl rfl rfl (Nat.le_of_ble_eq_true rfl) ?_
 have han:=ha.len
 have hbn:=hb.len
 refine Za (xA (h:=Ze (Za (xM (h:=xV Tryz.underlying30 (h:=xM (h:=xV Tryz.underlying30 (h:=ZaN (h:=Zc rfl (fun g1=>?_) (fun g1=>?_))))))))))
 try simp only [sQ,ne_eq] at g1
 refine Za (xA (h:=Zh (Zq ?_)))
 exact ZB .ret (.inl rfl) [_] t1 ⟨Zg (Zgb g1),rfl,rfl⟩
 try simp only [sQ,ne_eq] at g1
 refine Zf (Zd (Ze (Za (xA (h:=Zl (ZC (α:=Nat) [0,1,10] (fun k=>[(5,.int .i64 k)]) [] (fun k=>[]) (fun k Bx=>Bx=B∧k≤xs.length∧xs.take k=ys.take k) (fun k=>xs.length - k) 0 t1 rfl (⟨rfl,Nat.zero_le _,by simp⟩) (fun k B1 hle1 hI=>?_)))))))
 obtain ⟨rfl,hk,he⟩:=hI
 refine ZF [(0,_),(1,_),(5,_),(10,_)] [] t4 rfl (Ze (Za (xM (h:=xM (h:=xV Tryz.underlying30 (h:=ZJ (h:=Zc rfl (fun g2=>?_) (fun g2=>?_))))))))
 try simp only [sQ,ne_eq] at g2
 refine Zf (Zd (Ze (Zl (Ze (Z8 (same _ _) mo kr ⟨rfl,rfl⟩ (fun _ _=>?_))))))
 refine aM 0 rfl (h:=aM 1 rfl (h:=?_))
 obtain ⟨x,hx⟩:=ZY (xs:=xs) (i:=k) om
 obtain ⟨bb3,oo3,rfl⟩:=ha.base hx
 obtain ⟨_,⟨rfl,hb4,hb4b⟩,hc4⟩:=ha.elem hx
 refine aIx 2 rfl Tryz.underlying30 Za3 (h:=aT 3 rfl (Zab fun D=>Zaj [_,_,_] rfl rfl ZeK rfl (ZlI hc4 0 rfl rfl) r4) (h:=aM 4 rfl (h:=aM 5 rfl (h:=?_))))
 obtain ⟨y,hy⟩:=ZY (xs:=ys) (i:=k) om
 obtain ⟨bb6,oo6,rfl⟩:=hb.base hy
 obtain ⟨_,⟨rfl,hb7,hb7b⟩,hc7⟩:=hb.elem hy
 refine aIx 6 rfl Tryz.underlying30 Za3 (h:=aT 7 rfl (Zab fun D=>Zaj [_,_,_] rfl rfl ZeK rfl (ZlI hc7 0 rfl rfl) r4) (h:=aT 8 rfl (Zab fun D=>Zaf rfl rfl Zw2 rfl (ZqU x y _ ) r4) (h:=aN 9 rfl (h:=ZA kr kr ?_))))
 refine Zd (Zc rfl (fun g3=>?_) (fun g3=>?_))
 try simp only [sQ,ne_eq] at g3
 refine Za (xA (h:=Zh (ZD (Zq (ZP (ZD (Zq ?_)))))))
 exact ZB .ret (.inl rfl) [_] t1 ⟨Zg (ZeE hx hy g3),rfl,rfl⟩
 try simp only [sQ,ne_eq] at g3
 refine Zf (ZS (Zd (Zk (xM (h:=xD (h:=xA (h:=?_)))))))
 exact ZG (k+1) [] so2 ⟨rfl,oz,ZbJ hx hy g3 he⟩ t4 rfl
 try simp only [sQ,ne_eq] at g2
 refine ZH (Z0 (ZM (Zx (Zd (Za (xA (h:=Zh ?_)))))))
 exact ZB .ret (.inl rfl) [_] t1 ⟨Zg (eqT oz oz he),rfl,rfl⟩

set_option maxHeartbeats 400000 in
theorem Zm2 (q q':Option Addr) (cp cp':Nat) (xs ys:List DGrant) (B:Kn) (ha:SlK B q cp 2 ZW xs) (hb:SlK B q' cp' 2 ZW ys):Z9 (pj J) 160 [.slice q xs.length cp,.slice q' ys.length cp'] B (.bool (decide (xs=ys))):=by
 refine Zb 27 Tryz.func160 rfl rfl rfl (Nat.le_of_ble_eq_true rfl) ?_
 have han:=ha.len
 have hbn:=hb.len
 refine Za (xA (h:=Ze (Za (xM (h:=xV Tryz.underlying68 (h:=xM (h:=xV Tryz.underlying68 (h:=ZaN (h:=Zc rfl (fun g1=>?_) (fun g1=>?_))))))))))
 try simp only [sQ,ne_eq] at g1
 refine Za (xA (h:=Zh (Zq ?_)))
 exact ZB .ret (.inl rfl) [_] t1 ⟨Zg (Zgb g1),rfl,rfl⟩
 try simp only [sQ,ne_eq] at g1
 refine Zf (Zd (Ze (Za (xA (h:=Zl (ZC (α:=Nat) [0,1,10] (fun k=>[(5,.int .i64 k)]) [] (fun k=>[]) (fun k Bx=>Bx=B∧k≤xs.length∧xs.take k=ys.take k) (fun k=>xs.length - k) 0 t1 rfl (⟨rfl,Nat.zero_le _,by simp⟩) (fun k B1 hle1 hI=>?_)))))))
 obtain ⟨rfl,hk,he⟩:=hI
 refine ZF [(0,_),(1,_),(5,_),(10,_)] [] t4 rfl (Ze (Za (xM (h:=xM (h:=xV Tryz.underlying68 (h:=ZJ (h:=Zc rfl (fun g2=>?_) (fun g2=>?_))))))))
 try simp only [sQ,ne_eq] at g2
 refine Zf (Zd (Ze (Zl (Ze (Z8 (same _ _) mo kr ⟨rfl,rfl⟩ (fun _ _=>?_))))))
 refine aM 0 rfl (h:=aM 1 rfl (h:=?_))
 obtain ⟨x,hx⟩:=ZY (xs:=xs) (i:=k) om
 obtain ⟨bb3,oo3,rfl⟩:=ha.base hx
 obtain ⟨_,⟨rfl,hb4⟩,hc4⟩:=ha.elem hx
 refine aIx 2 rfl Tryz.underlying68 Zdh (h:=aT 3 rfl (Zab fun D=>Zaj [_,_] rfl rfl Zot rfl (ZlI hc4 0 rfl rfl) r4) (h:=aM 4 rfl (h:=aM 5 rfl (h:=?_))))
 obtain ⟨y,hy⟩:=ZY (xs:=ys) (i:=k) om
 obtain ⟨bb6,oo6,rfl⟩:=hb.base hy
 obtain ⟨_,⟨rfl,hb7⟩,hc7⟩:=hb.elem hy
 refine aIx 6 rfl Tryz.underlying68 Zdh (h:=aT 7 rfl (Zab fun D=>Zaj [_,_] rfl rfl Zot rfl (ZlI hc7 0 rfl rfl) r4) (h:=aT 8 rfl (Zab fun D=>Zaf rfl rfl ZvZ rfl (Zpb x y _ ) r4) (h:=aN 9 rfl (h:=ZA kr kr ?_))))
 refine Zd (Zc rfl (fun g3=>?_) (fun g3=>?_))
 try simp only [sQ,ne_eq] at g3
 refine Za (xA (h:=Zh (ZD (Zq (ZP (ZD (Zq ?_)))))))
 exact ZB .ret (.inl rfl) [_] t1 ⟨Zg (ZeE hx hy g3),rfl,rfl⟩
 try simp only [sQ,ne_eq] at g3
 refine Zf (ZS (Zd (Zk (xM (h:=xD (h:=xA (h:=?_)))))))
 exact ZG (k+1) [] so2 ⟨rfl,oz,ZbJ hx hy g3 he⟩ t4 rfl
 try simp only [sQ,ne_eq] at g2
 refine ZH (Z0 (ZM (Zx (Zd (Za (xA (h:=Zh ?_)))))))
 exact ZB .ret (.inl rfl) [_] t1 ⟨Zg (eqT oz oz he),rfl,rfl⟩

set_option maxHeartbeats 400000 in
theorem Zo9 (q q':Option Addr) (cp cp':Nat) (xs ys:List DMail) (B:Kn) (ha:SlK B q cp 3 ZZ xs) (hb:SlK B q' cp' 3 ZZ ys):Z9 (pj J) 195 [.slice q xs.length cp,.slice q' ys.length cp'] B (.bool (decide (xs=ys))):=by
 refine Zb 27 Tryz.func195 rfl rfl rfl (Nat.le_of_ble_eq_true rfl) ?_
 have han:=ha.len
 have hbn:=hb.len
 refine Za (xA (h:=Ze (Za (xM (h:=xV Tryz.underlying71 (h:=xM (h:=xV Tryz.underlying71 (h:=ZaN (h:=Zc rfl (fun g1=>?_) (fun g1=>?_))))))))))
 try simp only [sQ,ne_eq] at g1
 refine Za (xA (h:=Zh (Zq ?_)))
 exact ZB .ret (.inl rfl) [_] t1 ⟨Zg (Zgb g1),rfl,rfl⟩
 try simp only [sQ,ne_eq] at g1
 refine Zf (Zd (Ze (Za (xA (h:=Zl (ZC (α:=Nat) [0,1,10] (fun k=>[(5,.int .i64 k)]) [] (fun k=>[]) (fun k Bx=>Bx=B∧k≤xs.length∧xs.take k=ys.take k) (fun k=>xs.length - k) 0 t1 rfl (⟨rfl,Nat.zero_le _,by simp⟩) (fun k B1 hle1 hI=>?_)))))))
 obtain ⟨rfl,hk,he⟩:=hI
 refine ZF [(0,_),(1,_),(5,_),(10,_)] [] t4 rfl (Ze (Za (xM (h:=xM (h:=xV Tryz.underlying71 (h:=ZJ (h:=Zc rfl (fun g2=>?_) (fun g2=>?_))))))))
 try simp only [sQ,ne_eq] at g2
 refine Zf (Zd (Ze (Zl (Ze (Z8 (same _ _) mo kr ⟨rfl,rfl⟩ (fun _ _=>?_))))))
 refine aM 0 rfl (h:=aM 1 rfl (h:=?_))
 obtain ⟨x,hx⟩:=ZY (xs:=xs) (i:=k) om
 obtain ⟨bb3,oo3,rfl⟩:=ha.base hx
 obtain ⟨_,⟨rfl,hb4⟩,hc4⟩:=ha.elem hx
 refine aIx 2 rfl Tryz.underlying71 Zcs (h:=aT 3 rfl (Zab fun D=>Zaj [_,_,_] rfl rfl Zf5 rfl (ZlI hc4 0 rfl rfl) r4) (h:=aM 4 rfl (h:=aM 5 rfl (h:=?_))))
 obtain ⟨y,hy⟩:=ZY (xs:=ys) (i:=k) om
 obtain ⟨bb6,oo6,rfl⟩:=hb.base hy
 obtain ⟨_,⟨rfl,hb7⟩,hc7⟩:=hb.elem hy
 refine aIx 6 rfl Tryz.underlying71 Zcs (h:=aT 7 rfl (Zab fun D=>Zaj [_,_,_] rfl rfl Zf5 rfl (ZlI hc7 0 rfl rfl) r4) (h:=aT 8 rfl (Zab fun D=>Zaf rfl rfl ZvO rfl (ZqV x y _ ) r4) (h:=aN 9 rfl (h:=ZA kr kr ?_))))
 refine Zd (Zc rfl (fun g3=>?_) (fun g3=>?_))
 try simp only [sQ,ne_eq] at g3
 refine Za (xA (h:=Zh (ZD (Zq (ZP (ZD (Zq ?_)))))))
 exact ZB .ret (.inl rfl) [_] t1 ⟨Zg (ZeE hx hy g3),rfl,rfl⟩
 try simp only [sQ,ne_eq] at g3
 refine Zf (ZS (Zd (Zk (xM (h:=xD (h:=xA (h:=?_)))))))
 exact ZG (k+1) [] so2 ⟨rfl,oz,ZbJ hx hy g3 he⟩ t4 rfl
 try simp only [sQ,ne_eq] at g2
 refine ZH (Z0 (ZM (Zx (Zd (Za (xA (h:=Zh ?_)))))))
 exact ZB .ret (.inl rfl) [_] t1 ⟨Zg (eqT oz oz he),rfl,rfl⟩

set_option maxHeartbeats 400000 in
theorem ZqW (q1:Option Addr) (cp1:Nat) (q2:Option Addr) (cp2:Nat) (a b:DItem) (B:Kn) (h1:SlK B q1 cp1 1 Zc5 a.left) (h2:SlK B q2 cp2 1 Zc5 b.left):Z9 (pj J) 162 [.agg #[.int .i64 a.id,str a.fr,str a.text,.slice q1 a.left.length cp1],.agg #[.int .i64 b.id,str b.fr,str b.text,.slice q2 b.left.length cp2]] B (.bool (decide (a=b))):=by
 refine Zb 26 Tryz.func162 rfl rfl rfl (Nat.le_of_ble_eq_true rfl) ?_
 refine Za (xBx [_,_,_,_] (h:=fun b1=>xBx [_,_,_,_] (h:=fun b2=>xA (h:=ZE [_,_] rfl (Ze (Za (xW Zd0 (h:=x1 lk3 0 (h:=xW Zd0 (h:=x1 lk3 1 (h:=ZaN (h:=Zc rfl (fun g1=>?_) (fun g1=>?_)))))))))))))
 try simp only [sQ,ne_eq] at g1
 refine Za (xA (h:=Zh (Zq ?_)))
 exact ZB .ret (.inl rfl) [_] t1 ⟨Zg (by symm;rw [decide_eq_false_iff_not];rintro rfl;exact g1 rfl),rfl,rfl⟩
 try simp only [sQ,ne_eq] at g1
 refine Zf (Zd (Ze (Za (xW ZdZ (h:=x1 lk9 0 (h:=xW ZdZ (h:=x1 lk9 1 (h:=ZeM (h:=Zc rfl (fun g2=>?_) (fun g2=>?_))))))))))
 try simp only [sQ,ne_eq] at g2
 refine Za (xA (h:=Zh (Zq ?_)))
 exact ZB .ret (.inl rfl) [_] t1 ⟨Zg (by symm;rw [decide_eq_false_iff_not];rintro rfl;exact g2 rfl),rfl,rfl⟩
 try simp only [sQ,ne_eq] at g2
 refine Zf (Zd (Ze (Za (xW Zff (h:=x1 lk9 0 (h:=xW Zff (h:=x1 lk9 1 (h:=ZeM (h:=Zc rfl (fun g3=>?_) (fun g3=>?_))))))))))
 try simp only [sQ,ne_eq] at g3
 refine Za (xA (h:=Zh (Zq ?_)))
 exact ZB .ret (.inl rfl) [_] t1 ⟨Zg (by symm;rw [decide_eq_false_iff_not];rintro rfl;exact g3 rfl),rfl,rfl⟩
 try simp only [sQ,ne_eq] at g3
 refine Zf (Zd (Ze (Za (xW Zcc (h:=x1 ZkP 0 (h:=xW Zcc (h:=x1 ZkP 1 (h:=xR Zx2 rfl (Zlb _ _ _ _ _ _ _ h1 h2) (h:=xN (h:=Zc rfl (fun g4=>?_) (fun g4=>?_)))))))))))
 try simp only [sQ,ne_eq] at g4
 refine Za (xA (h:=Zh (Zq ?_)))
 exact ZB .ret (.inl rfl) [_] t1 ⟨Zg (by symm;rw [decide_eq_false_iff_not];rintro rfl;exact g4 rfl),rfl,rfl⟩
 try simp only [sQ,ne_eq] at g4
 refine Zf (Zd (Za (xA (h:=Zh ?_))))
 exact ZB .ret (.inl rfl) [_] t1 ⟨Zg (by symm;rw [decide_eq_true_eq];cases a;cases b;simp_all),rfl,rfl⟩

set_option maxHeartbeats 400000 in
theorem Zpa (q q':Option Addr) (cp cp':Nat) (xs ys:List DItem) (B:Kn) (ha:SlK B q cp 4 Zu xs) (hb:SlK B q' cp' 4 Zu ys):Z9 (pj J) 107 [.slice q xs.length cp,.slice q' ys.length cp'] B (.bool (decide (xs=ys))):=by
 refine Zb 27 Tryz.func107 rfl rfl rfl (Nat.le_of_ble_eq_true rfl) ?_
 have han:=ha.len
 have hbn:=hb.len
 refine Za (xA (h:=Ze (Za (xM (h:=xV Tryz.underlying32 (h:=xM (h:=xV Tryz.underlying32 (h:=ZaN (h:=Zc rfl (fun g1=>?_) (fun g1=>?_))))))))))
 try simp only [sQ,ne_eq] at g1
 refine Za (xA (h:=Zh (Zq ?_)))
 exact ZB .ret (.inl rfl) [_] t1 ⟨Zg (Zgb g1),rfl,rfl⟩
 try simp only [sQ,ne_eq] at g1
 refine Zf (Zd (Ze (Za (xA (h:=Zl (ZC (α:=Nat) [0,1,10] (fun k=>[(5,.int .i64 k)]) [] (fun k=>[]) (fun k Bx=>Bx=B∧k≤xs.length∧xs.take k=ys.take k) (fun k=>xs.length - k) 0 t1 rfl (⟨rfl,Nat.zero_le _,by simp⟩) (fun k B1 hle1 hI=>?_)))))))
 obtain ⟨rfl,hk,he⟩:=hI
 refine ZF [(0,_),(1,_),(5,_),(10,_)] [] t4 rfl (Ze (Za (xM (h:=xM (h:=xV Tryz.underlying32 (h:=ZJ (h:=Zc rfl (fun g2=>?_) (fun g2=>?_))))))))
 try simp only [sQ,ne_eq] at g2
 refine Zf (Zd (Ze (Zl (Ze (Z8 (same _ _) mo kr ⟨rfl,rfl⟩ (fun _ _=>?_))))))
 refine aM 0 rfl (h:=aM 1 rfl (h:=?_))
 obtain ⟨x,hx⟩:=ZY (xs:=xs) (i:=k) om
 obtain ⟨bb3,oo3,rfl⟩:=ha.base hx
 obtain ⟨_,⟨qi4,ci4,rfl,hi4,hb4,hb4b⟩,hc4⟩:=ha.elem hx
 have hi4n:=hi4.len
 refine aIx 2 rfl Tryz.underlying32 Zbg (h:=aT 3 rfl (Zab fun D=>Zaj [_,_,_,_] rfl rfl Zef rfl (ZlI hc4 0 rfl rfl) r4) (h:=aM 4 rfl (h:=aM 5 rfl (h:=?_))))
 obtain ⟨y,hy⟩:=ZY (xs:=ys) (i:=k) om
 obtain ⟨bb6,oo6,rfl⟩:=hb.base hy
 obtain ⟨_,⟨qi7,ci7,rfl,hi7,hb7,hb7b⟩,hc7⟩:=hb.elem hy
 have hi7n:=hi7.len
 refine aIx 6 rfl Tryz.underlying32 Zbg (h:=aT 7 rfl (Zab fun D=>Zaj [_,_,_,_] rfl rfl Zef rfl (ZlI hc7 0 rfl rfl) r4) (h:=aT 8 rfl (Zab fun D=>Zaf rfl rfl Zwl rfl (ZqW _ _ _ _ x y _ hi4 hi7) r4) (h:=aN 9 rfl (h:=ZA kr kr ?_))))
 refine Zd (Zc rfl (fun g3=>?_) (fun g3=>?_))
 try simp only [sQ,ne_eq] at g3
 refine Za (xA (h:=Zh (ZD (Zq (ZP (ZD (Zq ?_)))))))
 exact ZB .ret (.inl rfl) [_] t1 ⟨Zg (ZeE hx hy g3),rfl,rfl⟩
 try simp only [sQ,ne_eq] at g3
 refine Zf (ZS (Zd (Zk (xM (h:=xD (h:=xA (h:=?_)))))))
 exact ZG (k+1) [] so2 ⟨rfl,oz,ZbJ hx hy g3 he⟩ t4 rfl
 try simp only [sQ,ne_eq] at g2
 refine ZH (Z0 (ZM (Zx (Zd (Za (xA (h:=Zh ?_)))))))
 exact ZB .ret (.inl rfl) [_] t1 ⟨Zg (eqT oz oz he),rfl,rfl⟩

set_option maxHeartbeats 400000 in
theorem Zo8 (q1:Option Addr) (cp1:Nat) (q2:Option Addr) (cp2:Nat) (a b:DQueue) (B:Kn) (h1:SlK B q1 cp1 4 Zu a.items) (h2:SlK B q2 cp2 4 Zu b.items):Z9 (pj J) 48 [.agg #[.int .i64 a.next,.slice q1 a.items.length cp1],.agg #[.int .i64 b.next,.slice q2 b.items.length cp2]] B (.bool (decide (a=b))):=by
 refine Zb 16 Tryz.func48 rfl rfl rfl (Nat.le_of_ble_eq_true rfl) ?_
 refine Za (xBx [_,_] (h:=fun b1=>xBx [_,_] (h:=fun b2=>xA (h:=ZE [_,_] rfl (Ze (Za (xW ZfI (h:=x1 lk3 0 (h:=xW ZfI (h:=x1 lk3 1 (h:=ZaN (h:=Zc rfl (fun g1=>?_) (fun g1=>?_)))))))))))))
 try simp only [sQ,ne_eq] at g1
 refine Za (xA (h:=Zh (Zq ?_)))
 exact ZB .ret (.inl rfl) [_] t1 ⟨Zg (by symm;rw [decide_eq_false_iff_not];rintro rfl;exact g1 rfl),rfl,rfl⟩
 try simp only [sQ,ne_eq] at g1
 refine Zf (Zd (Ze (Za (xW Zbx (h:=x1 ZhY 0 (h:=xW Zbx (h:=x1 ZhY 1 (h:=xR Zw0 rfl (Zpa _ _ _ _ _ _ _ h1 h2) (h:=xN (h:=Zc rfl (fun g2=>?_) (fun g2=>?_)))))))))))
 try simp only [sQ,ne_eq] at g2
 refine Za (xA (h:=Zh (Zq ?_)))
 exact ZB .ret (.inl rfl) [_] t1 ⟨Zg (by symm;rw [decide_eq_false_iff_not];rintro rfl;exact g2 rfl),rfl,rfl⟩
 try simp only [sQ,ne_eq] at g2
 refine Zf (Zd (Za (xA (h:=Zh ?_))))
 exact ZB .ret (.inl rfl) [_] t1 ⟨Zg (by symm;rw [decide_eq_true_eq];cases a;cases b;simp_all),rfl,rfl⟩

set_option maxHeartbeats 400000 in
theorem ZsY (q1:Option Addr) (cp1:Nat) (q2:Option Addr) (cp2:Nat) (a b:DBox) (B:Kn) (h1:SlK B q1 cp1 3 ZZ a.mail) (h2:SlK B q2 cp2 3 ZZ b.mail):Z9 (pj J) 161 [.agg #[.int .i64 a.next,.slice q1 a.mail.length cp1],.agg #[.int .i64 b.next,.slice q2 b.mail.length cp2]] B (.bool (decide (a=b))):=by
 refine Zb 16 Tryz.func161 rfl rfl rfl (Nat.le_of_ble_eq_true rfl) ?_
 refine Za (xBx [_,_] (h:=fun b1=>xBx [_,_] (h:=fun b2=>xA (h:=ZE [_,_] rfl (Ze (Za (xW Zcy (h:=x1 lk3 0 (h:=xW Zcy (h:=x1 lk3 1 (h:=ZaN (h:=Zc rfl (fun g1=>?_) (fun g1=>?_)))))))))))))
 try simp only [sQ,ne_eq] at g1
 refine Za (xA (h:=Zh (Zq ?_)))
 exact ZB .ret (.inl rfl) [_] t1 ⟨Zg (by symm;rw [decide_eq_false_iff_not];rintro rfl;exact g1 rfl),rfl,rfl⟩
 try simp only [sQ,ne_eq] at g1
 refine Zf (Zd (Ze (Za (xW Zbd (h:=x1 ZhX 0 (h:=xW Zbd (h:=x1 ZhX 1 (h:=xR ZvY rfl (Zo9 _ _ _ _ _ _ _ h1 h2) (h:=xN (h:=Zc rfl (fun g2=>?_) (fun g2=>?_)))))))))))
 try simp only [sQ,ne_eq] at g2
 refine Za (xA (h:=Zh (Zq ?_)))
 exact ZB .ret (.inl rfl) [_] t1 ⟨Zg (by symm;rw [decide_eq_false_iff_not];rintro rfl;exact g2 rfl),rfl,rfl⟩
 try simp only [sQ,ne_eq] at g2
 refine Zf (Zd (Za (xA (h:=Zh ?_))))
 exact ZB .ret (.inl rfl) [_] t1 ⟨Zg (by symm;rw [decide_eq_true_eq];cases a;cases b;simp_all),rfl,rfl⟩

set_option maxHeartbeats 400000 in
theorem Zm3 (qa1 qb1:Option Addr) (ca1 cb1:Nat) (qa2 qb2:Option Addr) (ca2 cb2:Nat) (a b:DFolder) (B:Kn) (hg1:SlK B qa1 ca1 2 ZW a.grants) (hm1:SlK B qb1 cb1 3 ZZ a.mail) (hg2:SlK B qa2 ca2 2 ZW b.grants) (hm2:SlK B qb2 cb2 3 ZZ b.mail):Z9 (pj J) 106 [.agg #[str a.owner,str a.name,.slice qa1 a.grants.length ca1,.int .i64 a.next,.slice qb1 a.mail.length cb1],.agg #[str b.owner,str b.name,.slice qa2 b.grants.length ca2,.int .i64 b.next,.slice qb2 b.mail.length cb2]] B (.bool (decide (a=b))):=by
 refine Zb 27 Tryz.func106 rfl rfl rfl (Nat.le_of_ble_eq_true rfl) ?_
 refine Za (xBx [_,_,_,_,_] (h:=fun b1=>xBx [_,_,_,_,_] (h:=fun b2=>xA (h:=ZE [_,_] rfl (Ze (Za (xW Zbw (h:=x1 lk9 0 (h:=xW Zbw (h:=x1 lk9 1 (h:=ZeM (h:=Zc rfl (fun g1=>?_) (fun g1=>?_)))))))))))))
 try simp only [sQ,ne_eq] at g1
 refine Za (xA (h:=Zh (Zq ?_)))
 exact ZB .ret (.inl rfl) [_] t1 ⟨Zg (by symm;rw [decide_eq_false_iff_not];rintro rfl;exact g1 rfl),rfl,rfl⟩
 try simp only [sQ,ne_eq] at g1
 refine Zf (Zd (Ze (Za (xW Zdz (h:=x1 lk9 0 (h:=xW Zdz (h:=x1 lk9 1 (h:=ZeM (h:=Zc rfl (fun g2=>?_) (fun g2=>?_))))))))))
 try simp only [sQ,ne_eq] at g2
 refine Za (xA (h:=Zh (Zq ?_)))
 exact ZB .ret (.inl rfl) [_] t1 ⟨Zg (by symm;rw [decide_eq_false_iff_not];rintro rfl;exact g2 rfl),rfl,rfl⟩
 try simp only [sQ,ne_eq] at g2
 refine Zf (Zd (Ze (Za (xW Zdy (h:=x1 ZpI 0 (h:=xW Zdy (h:=x1 ZpI 1 (h:=xR Zwn rfl (Zm2 _ _ _ _ _ _ _ hg1 hg2) (h:=xN (h:=Zc rfl (fun g3=>?_) (fun g3=>?_)))))))))))
 try simp only [sQ,ne_eq] at g3
 refine Za (xA (h:=Zh (Zq ?_)))
 exact ZB .ret (.inl rfl) [_] t1 ⟨Zg (by symm;rw [decide_eq_false_iff_not];rintro rfl;exact g3 rfl),rfl,rfl⟩
 try simp only [sQ,ne_eq] at g3
 refine Zf (Zd (Ze (Za (xW ZbY (h:=xL [_,_] Zfa 0 (h:=xW ZbY (h:=xL [_,_] Zfa 1 (h:=xR Zwm rfl (ZsY _ _ _ _ (⟨a.next,a.mail⟩:DBox) (⟨b.next,b.mail⟩:DBox) _ hm1 hm2) (h:=xN (h:=Zc rfl (fun g4=>?_) (fun g4=>?_)))))))))))
 try simp only [sQ,ne_eq] at g4
 refine Za (xA (h:=Zh (Zq ?_)))
 exact ZB .ret (.inl rfl) [_] t1 ⟨Zg (by symm;rw [decide_eq_false_iff_not];rintro rfl;exact g4 rfl),rfl,rfl⟩
 try simp only [sQ,ne_eq] at g4
 refine Zf (Zd (Za (xA (h:=Zh ?_))))
 exact ZB .ret (.inl rfl) [_] t1 ⟨Zg (by symm;rw [decide_eq_true_eq];cases a;cases b;simp_all),rfl,rfl⟩

set_option maxHeartbeats 400000 in
theorem Zlc (q q':Option Addr) (cp cp':Nat) (xs ys:List DFolder) (B:Kn) (ha:SlK B q cp 5 Zj xs) (hb:SlK B q' cp' 5 Zj ys):Z9 (pj J) 47 [.slice q xs.length cp,.slice q' ys.length cp'] B (.bool (decide (xs=ys))):=by
 refine Zb 27 Tryz.func47 rfl rfl rfl (Nat.le_of_ble_eq_true rfl) ?_
 have han:=ha.len
 have hbn:=hb.len
 refine Za (xA (h:=Ze (Za (xM (h:=xV Tryz.underlying31 (h:=xM (h:=xV Tryz.underlying31 (h:=ZaN (h:=Zc rfl (fun g1=>?_) (fun g1=>?_))))))))))
 try simp only [sQ,ne_eq] at g1
 refine Za (xA (h:=Zh (Zq ?_)))
 exact ZB .ret (.inl rfl) [_] t1 ⟨Zg (Zgb g1),rfl,rfl⟩
 try simp only [sQ,ne_eq] at g1
 refine Zf (Zd (Ze (Za (xA (h:=Zl (ZC (α:=Nat) [0,1,10] (fun k=>[(5,.int .i64 k)]) [] (fun k=>[]) (fun k Bx=>Bx=B∧k≤xs.length∧xs.take k=ys.take k) (fun k=>xs.length - k) 0 t1 rfl (⟨rfl,Nat.zero_le _,by simp⟩) (fun k B1 hle1 hI=>?_)))))))
 obtain ⟨rfl,hk,he⟩:=hI
 refine ZF [(0,_),(1,_),(5,_),(10,_)] [] t4 rfl (Ze (Za (xM (h:=xM (h:=xV Tryz.underlying31 (h:=ZJ (h:=Zc rfl (fun g2=>?_) (fun g2=>?_))))))))
 try simp only [sQ,ne_eq] at g2
 refine Zf (Zd (Ze (Zl (Ze (Z8 (same _ _) mo kr ⟨rfl,rfl⟩ (fun _ _=>?_))))))
 refine aM 0 rfl (h:=aM 1 rfl (h:=?_))
 obtain ⟨x,hx⟩:=ZY (xs:=xs) (i:=k) om
 obtain ⟨bb3,oo3,rfl⟩:=ha.base hx
 obtain ⟨_,⟨qg4,cg4,qm4,cm4,rfl,hg4,hm4,hb4,hb4b⟩,hc4⟩:=ha.elem hx
 have hg4n:=hg4.len
 have hm4n:=hm4.len
 have hm4s:=Zal hm4
 refine aIx 2 rfl Tryz.underlying31 ZbO (h:=aT 3 rfl (Zab fun D=>Zaj [_,_,_,_,_] rfl rfl Zhx rfl (ZlI hc4 0 rfl rfl) r4) (h:=aM 4 rfl (h:=aM 5 rfl (h:=?_))))
 obtain ⟨y,hy⟩:=ZY (xs:=ys) (i:=k) om
 obtain ⟨bb6,oo6,rfl⟩:=hb.base hy
 obtain ⟨_,⟨qg7,cg7,qm7,cm7,rfl,hg7,hm7,hb7,hb7b⟩,hc7⟩:=hb.elem hy
 have hg7n:=hg7.len
 have hm7n:=hm7.len
 have hm7s:=Zal hm7
 refine aIx 6 rfl Tryz.underlying31 ZbO (h:=aT 7 rfl (Zab fun D=>Zaj [_,_,_,_,_] rfl rfl Zhx rfl (ZlI hc7 0 rfl rfl) r4) (h:=aT 8 rfl (Zab fun D=>Zaf rfl rfl Zw1 rfl (Zm3 _ _ _ _ _ _ _ _ x y _ hg4 hm4 hg7 hm7) r4) (h:=aN 9 rfl (h:=ZA kr kr ?_))))
 refine Zd (Zc rfl (fun g3=>?_) (fun g3=>?_))
 try simp only [sQ,ne_eq] at g3
 refine Za (xA (h:=Zh (ZD (Zq (ZP (ZD (Zq ?_)))))))
 exact ZB .ret (.inl rfl) [_] t1 ⟨Zg (ZeE hx hy g3),rfl,rfl⟩
 try simp only [sQ,ne_eq] at g3
 refine Zf (ZS (Zd (Zk (xM (h:=xD (h:=xA (h:=?_)))))))
 exact ZG (k+1) [] so2 ⟨rfl,oz,ZbJ hx hy g3 he⟩ t4 rfl
 try simp only [sQ,ne_eq] at g2
 refine ZH (Z0 (ZM (Zx (Zd (Za (xA (h:=Zh ?_)))))))
 exact ZB .ret (.inl rfl) [_] t1 ⟨Zg (eqT oz oz he),rfl,rfl⟩

end Go.Proofs.YthgggppcgbglkaaGreatDoor
