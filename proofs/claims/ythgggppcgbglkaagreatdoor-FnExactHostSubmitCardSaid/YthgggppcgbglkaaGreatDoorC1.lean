/-
  WHAT THE FUNCTIONS THAT THE LAWS REACH COMPUTE: each function's contract, proved off its printed body (the text is written by program). No condition beyond those that each theorem states.
-/
import Derived.Test.YthgggppcgbglkaaGreatDoorC0
namespace Go.Proofs.YthgggppcgbglkaaGreatDoor
open Go Go.BL
set_option linter.unusedVariables false
set_option linter.unusedSimpArgs false
set_option maxRecDepth 4000
variable {J : JoinT}
set_option maxHeartbeats 400000 in
theorem Zj2 (q:Option Addr) (cp:Nat) (us:List DUser) (B:Kn) (hu:SlK B q cp 3 Zc us):Z8 (pj J) 86 [.slice q us.length cp] B (.bool (ZaS us)):=by
 refine Zd 54 Tryz.func86 rfl rfl rfl (Nat.le_of_ble_eq_true rfl) ?_
 have hun:=hu.len
 refine Za (xA (h:=Zh (Za (xA (h:=Zm (ZO (α:=Nat × Str) [0] (fun g=>[(3,.int .i64 g.1)]) [] (fun g=>[]) (fun g Bx=>Bx=B∧g.1≤us.length∧ZdI (us.take g.1)=(true,g.2)∧Prev (fun y=>y.name) ([]:Str) us g.1 g.2) (fun g=>us.length - g.1) (0,[]) t1 rfl (⟨rfl,Nat.zero_le _,Ze1,.zero⟩) (fun g B1 hle1 hI=>?_)))))))
 obtain ⟨rfl,hk,hs,hp⟩:=hI
 refine ZR [(0,_),(3,_)] [] t2 rfl (Zh (Za (xM (h:=xM (h:=xV Tryz.underlying30 (h:=ZM (h:=Ze rfl (fun g1=>?_) (fun g1=>?_))))))))
 try simp only [sQ,ne_eq] at g1
 refine Zg (Zf (Zh (Zm (Za (xM (h:=xM (h:=?_)))))))
 obtain ⟨m,hm⟩:=Zae (xs:=us) (i:=g.1) om
 obtain ⟨bb3,oo3,rfl⟩:=hu.base hm
 obtain ⟨_,⟨rfl,hb4,hb4b⟩,hc4⟩:=hu.elem hm
 refine xIx Tryz.underlying30 Zbs (h:=yL [_,_,_] ZeK hc4 0 (h:=xAl [_,_,_] ZdF (h:=fun b5=>xS [_,_,_] 0 [_,_,_] Zbs (h:=ZI [_] rfl (Zh (Zac (same _ _) mo kr ⟨rfl,rfl⟩ (fun _ _=>?_)))))))
 refine aW 0 rfl Zbe (h:=aT 1 rfl (ZaA fun D=>Zx rfl rfl lk9 rfl (atL 0 rfl rfl rfl) r4) (h:=aT 2 rfl (ZaA fun D=>Zay rfl rfl ZrO rfl (Zcc _ om2 _) r4) (h:=?_)))
 refine aN 3 rfl (h:=aM 4 rfl (h:=Za0 (d:=19) rfl (fun g2=>?_) (fun g2=>?_)))
 try simp only [sQ,ne_eq] at g2
 refine aZ 5 rfl (h:=aZ 6 rfl (h:=aZ 7 rfl (h:=aPT 8 rfl (h:=aM 9 rfl (h:=aZ 10 rfl (h:=aZ 11 rfl (h:=aZ 12 rfl (h:=aZ 13 rfl (h:=aPT 14 rfl (h:=aM 15 rfl (h:=aZ 16 rfl (h:=aZ 17 rfl (h:=?_)))))))))))))
 refine aZ 18 rfl (h:=aZ 19 rfl (h:=aPT 20 rfl (h:=aM 21 rfl (h:=aZ 22 rfl (h:=aZ 23 rfl (h:=aZ 24 rfl (h:=aZ 25 rfl (h:=aZ 26 rfl (h:=aZ 27 rfl (h:=aZ 28 rfl (h:=aZ 29 rfl (h:=aZ 30 rfl (h:=?_)))))))))))))
 refine aZ 31 rfl (h:=aZ 32 rfl (h:=aZ 33 rfl (h:=aZ 34 rfl (h:=aPT 35 rfl (h:=ZB kr kr ?_)))))
 refine Zf (Ze (t:=true) rfl (fun _=>Za (xA (h:=Zj (ZN (Zt (Z2 (ZN (Zt ?_)))))))) (fun h=>Bool.noConfusion h))
 exact ZK .ret (.inl rfl) [_] t1 ⟨Zk (ZcR hm hs (by simp [ZeI,Zc4,anyone,g1,g2])).symm,rfl,rfl⟩
 try simp only [sQ,ne_eq] at g2
 refine aW 5 rfl Zbe (h:=aT 6 rfl (ZaA fun D=>Zx rfl rfl lk9 rfl (atL 0 rfl rfl rfl) r4) (h:=Ztz 7 rfl (h:=aPF 8 rfl (h:=aM 9 rfl (h:=Za0 (d:=24) rfl (fun g3=>?_) (fun g3=>?_))))))
 try simp only [sQ,ne_eq] at g3
 refine aZ 10 rfl (h:=aZ 11 rfl (h:=aZ 12 rfl (h:=aZ 13 rfl (h:=aPT 14 rfl (h:=aM 15 rfl (h:=aZ 16 rfl (h:=aZ 17 rfl (h:=aZ 18 rfl (h:=aZ 19 rfl (h:=aPT 20 rfl (h:=aM 21 rfl (h:=aZ 22 rfl (h:=?_)))))))))))))
 refine aZ 23 rfl (h:=aZ 24 rfl (h:=aZ 25 rfl (h:=aZ 26 rfl (h:=aZ 27 rfl (h:=aZ 28 rfl (h:=aZ 29 rfl (h:=aZ 30 rfl (h:=aZ 31 rfl (h:=aZ 32 rfl (h:=aZ 33 rfl (h:=aZ 34 rfl (h:=aPT 35 rfl (h:=?_)))))))))))))
 refine ZB kr kr ?_
 refine Zf (Ze (t:=true) rfl (fun _=>Za (xA (h:=Zj (ZN (Zt (Z2 (ZN (Zt ?_)))))))) (fun h=>Bool.noConfusion h))
 exact ZK .ret (.inl rfl) [_] t1 ⟨Zk (ZcR hm hs (by simp [ZeI,Zc4,anyone,g1,g2,g3])).symm,rfl,rfl⟩
 try simp only [sQ,ne_eq] at g3
 refine aW 10 rfl Ze9 (h:=aT 11 rfl (ZaA fun D=>Zx rfl rfl lk9 rfl (atL 0 rfl rfl rfl) r4) (h:=aT 12 rfl (ZaA fun D=>Zay rfl rfl ZrO rfl (Zcc _ om2 _) r4) (h:=?_)))
 refine aN 13 rfl (h:=aPF 14 rfl (h:=aM 15 rfl (h:=Za0 (d:=30) rfl (fun g4=>?_) (fun g4=>?_))))
 try simp only [sQ,ne_eq] at g4
 refine aZ 16 rfl (h:=aZ 17 rfl (h:=aZ 18 rfl (h:=aZ 19 rfl (h:=aPT 20 rfl (h:=aM 21 rfl (h:=aZ 22 rfl (h:=aZ 23 rfl (h:=aZ 24 rfl (h:=aZ 25 rfl (h:=aZ 26 rfl (h:=aZ 27 rfl (h:=aZ 28 rfl (h:=?_)))))))))))))
 refine aZ 29 rfl (h:=aZ 30 rfl (h:=aZ 31 rfl (h:=aZ 32 rfl (h:=aZ 33 rfl (h:=aZ 34 rfl (h:=aPT 35 rfl (h:=ZB kr kr ?_)))))))
 refine Zf (Ze (t:=true) rfl (fun _=>Za (xA (h:=Zj (ZN (Zt (Z2 (ZN (Zt ?_)))))))) (fun h=>Bool.noConfusion h))
 exact ZK .ret (.inl rfl) [_] t1 ⟨Zk (ZcR hm hs (by simp [ZeI,Zc4,anyone,g1,g2,g3,g4])).symm,rfl,rfl⟩
 try simp only [sQ,ne_eq] at g4
 refine aW 16 rfl Zdi (h:=aT 17 rfl (ZaA fun D=>Zx rfl rfl lk3 rfl (atL 0 rfl rfl rfl) r4) (h:=aT 18 rfl (ZaA fun D=>Zay rfl rfl ZpO rfl (Zft _ _ _ _) r4) (h:=aN 19 rfl (h:=aPF 20 rfl (h:=aM 21 rfl (h:=Za0 (d:=36) rfl (fun g5=>?_) (fun g5=>?_)))))))
 try simp only [sQ,ne_eq] at g5
 refine aZ 22 rfl (h:=aZ 23 rfl (h:=aZ 24 rfl (h:=aZ 25 rfl (h:=aZ 26 rfl (h:=aZ 27 rfl (h:=aZ 28 rfl (h:=aZ 29 rfl (h:=aZ 30 rfl (h:=aZ 31 rfl (h:=aZ 32 rfl (h:=aZ 33 rfl (h:=aZ 34 rfl (h:=?_)))))))))))))
 refine aPT 35 rfl (h:=ZB kr kr ?_)
 refine Zf (Ze (t:=true) rfl (fun _=>Za (xA (h:=Zj (ZN (Zt (Z2 (ZN (Zt ?_)))))))) (fun h=>Bool.noConfusion h))
 exact ZK .ret (.inl rfl) [_] t1 ⟨Zk (ZcR hm hs (by simp [ZeI,Zc4,anyone,g1,g2,g3,g4,g5])).symm,rfl,rfl⟩
 try simp only [sQ,ne_eq] at g5
 refine aM 22 rfl (h:=ZoF 23 rfl (h:=aM 24 rfl (h:=Za0 (d:=39) rfl (fun g6=>?_) (fun g6=>?_))))
 try simp only [sQ,ne_eq] at g6
 refine aM 25 rfl (h:=aM 26 rfl (h:=aU 27 rfl (h:=?_)))
 obtain ⟨y,hy⟩:=ZtF (xs:=us) (i:=(↑g.1 - 1)) om om
 obtain ⟨_,⟨rfl,hb10,hb10b⟩,hc10⟩:=hu.elem hy
 refine aIx 28 rfl Tryz.underlying30 Zbs (h:=?_)
 have hpe:=hp.at hy oz
 refine aW 29 rfl Zbe (h:=aT 30 rfl (ZaA fun D=>Zx rfl rfl lk9 rfl (hc10 _ 0 _ rfl) r4) (h:=aW 31 rfl Zbe (h:=aT 32 rfl (ZaA fun D=>Zx rfl rfl lk9 rfl (atL 0 rfl rfl rfl) r4) (h:=aT 33 rfl (ZaA fun D=>Zqj rfl rfl rfl rfl r4) (h:=aPT 34 rfl (h:=aPF 35 rfl (h:=ZB kr kr ?_)))))))
 refine Zf (Ze rfl (fun g7=>?_) (fun g7=>?_))
 try simp only [sQ,ne_eq] at g7
 refine Za (xA (h:=Zj (ZN (Zt (Z2 (ZN (Zt ?_)))))))
 exact ZK .ret (.inl rfl) [_] t1 ⟨Zk (ZcR hm hs (by simp [ZeI,Zc4,anyone,g1,g2,g3,g4,g5,g6,g7,hpe])).symm,rfl,rfl⟩
 try simp only [sQ,ne_eq] at g7
 refine Zg (Z7 (Zf (Zn (xM (h:=xD (h:=xA (h:=?_)))))))
 exact ZU (g.1+1,m.name) [] so2 ⟨rfl,oz,Zco hm hs (by rw [hpe];simp [ZeI,Zc4,anyone,g2,g3,g4,g7];simp at g5;omega),.succ hm⟩ t2 rfl
 try simp only [sQ,ne_eq] at g6
 refine aZ 25 rfl (h:=aZ 26 rfl (h:=aZ 27 rfl (h:=aZ 28 rfl (h:=aZ 29 rfl (h:=aZ 30 rfl (h:=aZ 31 rfl (h:=aZ 32 rfl (h:=aZ 33 rfl (h:=aPF 34 rfl (h:=aPF 35 rfl (h:=ZB kr kr ?_)))))))))))
 refine Zf (Ze (t:=false) rfl (fun h=>Bool.noConfusion h) (fun _=>Zg (Z7 (Zf (Zn (xM (h:=xD (h:=xA (h:=?_)))))))))
 exact ZU (g.1+1,m.name) [] so2 ⟨rfl,oz,Zco hm hs (by rw [hp.at0 oz];simp [ZeI,Zc4,anyone,g2,g3,g4,Zld (ZhK g2)];simp at g5;omega),.succ hm⟩ t2 rfl
 try simp only [sQ,ne_eq] at g1
 refine ZS (Zaf (ZW (ZG (Zf (Za (xM (h:=xV Tryz.underlying30 (h:=xR ZpO rfl (Zft _ _ _ _) (h:=xA (h:=Zj ?_))))))))))
 exact ZK .ret (.inl rfl) [_] t1 ⟨Zk (by rw [ZgE (ZdP hs oz),Bool.eq_iff_iff];simp;omega),rfl,rfl⟩

set_option maxHeartbeats 400000 in
theorem Znb (q:Option Addr) (cp:Nat) (gs:List DGrant) (B:Kn) (hg:SlK B q cp 2 Zah gs):Z8 (pj J) 94 [.slice q gs.length cp] B (.bool (Zf4 gs)):=by
 refine Zd 47 Tryz.func94 rfl rfl rfl (Nat.le_of_ble_eq_true rfl) ?_
 have hgn:=hg.len
 refine Za (xA (h:=Zh (Za (xA (h:=Zm (ZO (α:=Nat × Str) [0] (fun g=>[(3,.int .i64 g.1)]) [] (fun g=>[]) (fun g Bx=>Bx=B∧g.1≤gs.length∧ZcW (gs.take g.1)=(true,g.2)∧Prev (fun y=>y.user) ([]:Str) gs g.1 g.2) (fun g=>gs.length - g.1) (0,[]) t1 rfl (⟨rfl,Nat.zero_le _,Ze1,.zero⟩) (fun g B1 hle1 hI=>?_)))))))
 obtain ⟨rfl,hk,hs,hp⟩:=hI
 refine ZR [(0,_),(3,_)] [] t2 rfl (Zh (Za (xM (h:=xM (h:=xV Tryz.underlying68 (h:=ZM (h:=Ze rfl (fun g1=>?_) (fun g1=>?_))))))))
 try simp only [sQ,ne_eq] at g1
 refine Zg (Zf (Zh (Zm (Zh (Zac (same _ _) mo kr ⟨rfl,rfl⟩ (fun _ _=>?_))))))
 refine aM 0 rfl (h:=aM 1 rfl (h:=?_))
 obtain ⟨m,hm⟩:=Zae (xs:=gs) (i:=g.1) om
 obtain ⟨bb3,oo3,rfl⟩:=hg.base hm
 obtain ⟨_,⟨rfl,hb4⟩,hc4⟩:=hg.elem hm
 refine aIx 2 rfl Tryz.underlying68 Zec (h:=aW 3 rfl ZcB (h:=aT 4 rfl (ZaA fun D=>Zx rfl rfl lk9 rfl (hc4 _ 0 _ rfl) r4) (h:=aT 5 rfl (ZaA fun D=>Zay rfl rfl ZrO rfl (Zcc _ om2 _) r4) (h:=?_))))
 refine aN 6 rfl (h:=aM 7 rfl (h:=Za0 (d:=17) rfl (fun g2=>?_) (fun g2=>?_)))
 try simp only [sQ,ne_eq] at g2
 refine aZ 8 rfl (h:=aZ 9 rfl (h:=aZ 10 rfl (h:=aZ 11 rfl (h:=aZ 12 rfl (h:=aZ 13 rfl (h:=aZ 14 rfl (h:=aPT 15 rfl (h:=aM 16 rfl (h:=aZ 17 rfl (h:=aZ 18 rfl (h:=aZ 19 rfl (h:=aZ 20 rfl (h:=?_)))))))))))))
 refine aZ 21 rfl (h:=aZ 22 rfl (h:=aZ 23 rfl (h:=aZ 24 rfl (h:=aZ 25 rfl (h:=aZ 26 rfl (h:=aZ 27 rfl (h:=aZ 28 rfl (h:=aZ 29 rfl (h:=aZ 30 rfl (h:=aZ 31 rfl (h:=aZ 32 rfl (h:=aPT 33 rfl (h:=?_)))))))))))))
 refine ZB kr kr ?_
 refine Zf (Ze (t:=true) rfl (fun _=>Za (xA (h:=Zj (ZN (Zt (Z2 (ZN (Zt ?_)))))))) (fun h=>Bool.noConfusion h))
 exact ZK .ret (.inl rfl) [_] t1 ⟨Zk (Zc0 hm hs (by simp [ZcG,g1,g2])).symm,rfl,rfl⟩
 try simp only [sQ,ne_eq] at g2
 refine aM 8 rfl (h:=aM 9 rfl (h:=aIx 10 rfl Tryz.underlying68 Zec (h:=aW 11 rfl ZdV (h:=aT 12 rfl (ZaA fun D=>Zx rfl rfl lk3 rfl (hc4 _ 1 _ rfl) r4) (h:=aT 13 rfl (ZaA fun D=>Zay rfl rfl ZpO rfl (Zft _ _ _ _) r4) (h:=aN 14 rfl (h:=aPF 15 rfl (h:=aM 16 rfl (h:=Za0 (d:=26) rfl (fun g4=>?_) (fun g4=>?_))))))))))
 try simp only [sQ,ne_eq] at g4
 refine aZ 17 rfl (h:=aZ 18 rfl (h:=aZ 19 rfl (h:=aZ 20 rfl (h:=aZ 21 rfl (h:=aZ 22 rfl (h:=aZ 23 rfl (h:=aZ 24 rfl (h:=aZ 25 rfl (h:=aZ 26 rfl (h:=aZ 27 rfl (h:=aZ 28 rfl (h:=aZ 29 rfl (h:=?_)))))))))))))
 refine aZ 30 rfl (h:=aZ 31 rfl (h:=aZ 32 rfl (h:=aPT 33 rfl (h:=ZB kr kr ?_))))
 refine Zf (Ze (t:=true) rfl (fun _=>Za (xA (h:=Zj (ZN (Zt (Z2 (ZN (Zt ?_)))))))) (fun h=>Bool.noConfusion h))
 exact ZK .ret (.inl rfl) [_] t1 ⟨Zk (Zc0 hm hs (by simp [ZcG,g1,g2,g4])).symm,rfl,rfl⟩
 try simp only [sQ,ne_eq] at g4
 refine aM 17 rfl (h:=ZoF 18 rfl (h:=aM 19 rfl (h:=Za0 (d:=29) rfl (fun g6=>?_) (fun g6=>?_))))
 try simp only [sQ,ne_eq] at g6
 refine aM 20 rfl (h:=aM 21 rfl (h:=aU 22 rfl (h:=?_)))
 obtain ⟨y,hy⟩:=ZtF (xs:=gs) (i:=(↑g.1 - 1)) om om
 obtain ⟨_,⟨rfl,hb8⟩,hc8⟩:=hg.elem hy
 refine aIx 23 rfl Tryz.underlying68 Zec (h:=?_)
 have hpe:=hp.at hy oz
 refine aW 24 rfl ZcB (h:=aT 25 rfl (ZaA fun D=>Zx rfl rfl lk9 rfl (hc8 _ 0 _ rfl) r4) (h:=aM 26 rfl (h:=aM 27 rfl (h:=aIx 28 rfl Tryz.underlying68 Zec (h:=aW 29 rfl ZcB (h:=aT 30 rfl (ZaA fun D=>Zx rfl rfl lk9 rfl (hc4 _ 0 _ rfl) r4) (h:=aT 31 rfl (ZaA fun D=>Zqj rfl rfl rfl rfl r4) (h:=aPT 32 rfl (h:=aPF 33 rfl (h:=ZB kr kr ?_))))))))))
 refine Zf (Ze rfl (fun g7=>?_) (fun g7=>?_))
 try simp only [sQ,ne_eq] at g7
 refine Za (xA (h:=Zj (ZN (Zt (Z2 (ZN (Zt ?_)))))))
 exact ZK .ret (.inl rfl) [_] t1 ⟨Zk (Zc0 hm hs (by simp [ZcG,g1,g2,g4,g6,g7,hpe])).symm,rfl,rfl⟩
 try simp only [sQ,ne_eq] at g7
 refine Zg (Z7 (Zf (Zn (xM (h:=xD (h:=xA (h:=?_)))))))
 exact ZU (g.1+1,m.user) [] so2 ⟨rfl,oz,Zco hm hs (by rw [hpe];simp [ZcG,g2,g7];simp at g4;omega),.succ hm⟩ t2 rfl
 try simp only [sQ,ne_eq] at g6
 refine aZ 20 rfl (h:=aZ 21 rfl (h:=aZ 22 rfl (h:=aZ 23 rfl (h:=aZ 24 rfl (h:=aZ 25 rfl (h:=aZ 26 rfl (h:=aZ 27 rfl (h:=aZ 28 rfl (h:=aZ 29 rfl (h:=aZ 30 rfl (h:=aZ 31 rfl (h:=aPF 32 rfl (h:=?_)))))))))))))
 refine aPF 33 rfl (h:=ZB kr kr ?_)
 refine Zf (Ze (t:=false) rfl (fun h=>Bool.noConfusion h) (fun _=>Zg (Z7 (Zf (Zn (xM (h:=xD (h:=xA (h:=?_)))))))))
 exact ZU (g.1+1,m.user) [] so2 ⟨rfl,oz,Zco hm hs (by rw [hp.at0 oz];simp [ZcG,g2,Zld (ZhK g2)];simp at g4;omega),.succ hm⟩ t2 rfl
 try simp only [sQ,ne_eq] at g1
 refine ZS (Zaf (ZW (ZG (Zf (Za (xM (h:=xV Tryz.underlying68 (h:=Zca (h:=xA (h:=Zj ?_))))))))))
 exact ZK .ret (.inl rfl) [_] t1 ⟨Zk (by rw [ZjK (ZdP hs oz),Bool.eq_iff_iff];simp;try omega),rfl,rfl⟩

set_option maxHeartbeats 400000 in
theorem ZhR (q1 q2 q3:Option Addr) (c1 c2 c3:Nat) (x:DHost) (q:Option Addr) (cp:Nat) (ns:List Str) (B:Kn) (hu:SlK B q1 c1 3 Zc x.users) (hn:SlK B q cp 1 ZJ ns):Z8 (pj J) 57 [.agg #[str x.domain,.slice q1 x.users.length c1,.slice q2 x.folders.length c2,.int .i64 x.queue.next,.slice q3 x.queue.items.length c3],.slice q ns.length cp] B (.bool (Zeh x.users ns)):=by
 refine Zd 20 Tryz.func57 rfl rfl rfl (Nat.le_of_ble_eq_true rfl) ?_
 have hnn:=hn.len
 have hun:=hu.len
 refine Za (xBx [_,_,_,_,_] (h:=fun b1=>xA (h:=ZI [_] rfl (Zh (Za (xA (h:=Zm (ZO (α:=Nat) [0,1,2] (fun k=>[(5,.int .i64 k)]) [] (fun k=>[]) (fun k Bx=>Bx=B∧k≤ns.length∧∀z,z∈ns.take k→decide (0≤ZhT x.users z)=true) (fun k=>ns.length - k) 0 t1 rfl (⟨rfl,Nat.zero_le _,by simp⟩) (fun k B2 hle2 hI=>?_)))))))))
 obtain ⟨rfl,hk,ha⟩:=hI
 refine ZR [(0,_),(1,_),(2,_),(5,_)] [_] t4 rfl (Zh (Za (xM (h:=xM (h:=xV Tryz.underlying43 (h:=ZM (h:=Ze rfl (fun g1=>?_) (fun g1=>?_))))))))
 try simp only [sQ,ne_eq] at g1
 refine Zg (Zf (Zh (Zm (Zh (Zac (same _ _) mo kr ⟨rfl,rfl⟩ (fun _ _=>?_))))))
 refine aW 0 rfl ZbW (h:=aT 1 rfl (ZaA fun D=>Zx rfl rfl Zio rfl (atL 0 rfl rfl rfl) r4) (h:=aM 2 rfl (h:=aM 3 rfl (h:=?_))))
 obtain ⟨z,hz⟩:=Zae (xs:=ns) (i:=k) om
 obtain ⟨bb4,oo4,rfl⟩:=hn.base hz
 obtain ⟨_,⟨rfl,hb5⟩,hc5⟩:=hn.elem hz
 refine aIx 4 rfl Tryz.underlying43 sz9 (h:=aT 5 rfl (ZaA fun D=>Zx rfl rfl lk9 rfl (hc5 _ 0 _ rfl) r4) (h:=aT 6 rfl (ZaA fun D=>Zay rfl rfl ZtK rfl (Zfu _ _ _ _ _ hu) r4) (h:=Zp3 7 rfl (h:=ZB kr kr ?_))))
 refine Zf (Ze rfl (fun g2=>?_) (fun g2=>?_))
 try simp only [sQ,ne_eq] at g2
 refine Za (xA (h:=Zj (ZN (Zt (Z2 (ZN (Zt ?_)))))))
 exact ZK .ret (.inl rfl) [_] t1 ⟨Zk (Zdb hz (by simp;omega)).symm,rfl,rfl⟩
 try simp only [sQ,ne_eq] at g2
 refine Zg (Z7 (Zf (Zn (xM (h:=xD (h:=xA (h:=?_)))))))
 exact ZU (k+1) [0] so2 ⟨rfl,oz,Zbf hz ha (by simp;omega)⟩ t4 rfl
 try simp only [sQ,ne_eq] at g1
 refine ZS (Zaf (ZW (ZG (Zf (Za (xA (h:=Zj ?_)))))))
 exact ZK .ret (.inl rfl) [_] t1 ⟨Zk (ZeH (Zbp oz ha)).symm,rfl,rfl⟩

set_option maxHeartbeats 400000 in
theorem ZnG (q1 q2 q3:Option Addr) (c1 c2 c3:Nat) (x:DHost) (u:Str) (B:Kn) (hf:SlK B q2 c2 5 Zb x.folders):Z8 (pj J) 89 [.agg #[str x.domain,.slice q1 x.users.length c1,.slice q2 x.folders.length c2,.int .i64 x.queue.next,.slice q3 x.queue.items.length c3],str u] B (.int .i64 (ZeY x.folders u)):=by
 refine Zd 32 Tryz.func89 rfl rfl rfl (Nat.le_of_ble_eq_true rfl) ?_
 have hfn:=hf.len
 refine Za (xBx [_,_,_,_,_] (h:=fun b1=>xA (h:=ZI [_] rfl (Za (xA (h:=Zh (Za (xA (h:=Zm (ZO (α:=Nat × Nat) [0,1,2,4] (fun g=>[(5,.int .i64 g.2),(6,.int .i64 g.1)]) [] (fun g=>[]) (fun g Bx=>Bx=B∧g.1≤x.folders.length∧g.2=ZeY (x.folders.take g.1) u∧g.2≤g.1*4000000000000) (fun g=>x.folders.length - g.1) (0,0) t2 rfl (⟨rfl,Nat.zero_le _,by simp [ZeY],oz⟩) (fun g B2 hle2 hI=>?_)))))))))))
 obtain ⟨rfl,hk,hs,hl⟩:=hI
 refine ZR [(0,_),(1,_),(2,_),(4,_),(5,_),(6,_)] [_] t6 rfl (Zh (Za (xM (h:=xW Za5 (h:=x1 Zgf 0 (h:=xV Tryz.underlying31 (h:=ZM (h:=Ze rfl (fun g1=>?_) (fun g1=>?_)))))))))
 try simp only [sQ,ne_eq] at g1
 refine Zg (Zf (Zh (Zm (Za (xW Za5 (h:=x1 Zgf 0 (h:=xM (h:=?_))))))))
 obtain ⟨m,hm⟩:=Zae (xs:=x.folders) (i:=g.1) om
 obtain ⟨bb4,oo4,rfl⟩:=hf.base hm
 obtain ⟨_,⟨qg5,cg5,qm5,cm5,rfl,hg5,hm5,hb5,hb5b⟩,hc5⟩:=hf.elem hm
 have hg5n:=hg5.len
 have hm5n:=hm5.len
 have hm5s:=ZaT hm5
 refine xIx Tryz.underlying31 Zcr (h:=xW Zcv (h:=y1 lk9 hc5 0 (h:=xM (h:=Zea (h:=Ze rfl (fun g2=>?_) (fun g2=>?_))))))
 try simp only [sQ,ne_eq] at g2
 refine Zn (xM (h:=xW Za5 (h:=x1 Zgf 0 (h:=xM (h:=xIx Tryz.underlying31 Zcr (h:=xW ZcX (h:=yL [_,_] Zlh hc5 3 (h:=xR Zvj rfl (ZnK _ _ (⟨m.next,m.mail⟩:DBox) _ hm5) (h:=xD (h:=xA (h:=Z7 (Zf (Zn ?_)))))))))))))
 refine xM (h:=xD (h:=xA (h:=?_)))
 exact ZU (g.1+1,g.2+ZbE m.mail) [0] so2 ⟨rfl,so,by rw [ZhD hm,← hs,if_pos g2],so⟩ t6 rfl
 try simp only [sQ,ne_eq] at g2
 refine Zg (Z7 (Zf (Zn (xM (h:=xD (h:=xA (h:=?_)))))))
 exact ZU (g.1+1,g.2) [0] so2 ⟨rfl,so,by rw [ZhD hm,← hs,if_neg g2];simp only [Nat.add_zero],Nat.le_trans hl (Nat.mul_le_mul_right _ (Nat.le_succ _))⟩ t6 rfl
 try simp only [sQ,ne_eq] at g1
 refine ZS (Zaf (ZW (ZG (Zf (Za (xM (h:=xA (h:=Zj ?_))))))))
 exact ZK .ret (.inl rfl) [_] t1 ⟨ZX (by rw [← ZmQ hs oz]),rfl,rfl⟩

set_option maxHeartbeats 400000 in
theorem Zjh (q1 q2 q3:Option Addr) (c1 c2 c3:Nat) (x:DHost) (B:Kn) (hu:SlK B q1 c1 3 Zc x.users) (hf:SlK B q2 c2 5 Zb x.folders):Z8 (pj J) 88 [.agg #[str x.domain,.slice q1 x.users.length c1,.slice q2 x.folders.length c2,.int .i64 x.queue.next,.slice q3 x.queue.items.length c3]] B (.bool (Zb7 x.users x.folders)):=by
 refine Zd 60 Tryz.func88 rfl rfl rfl (Nat.le_of_ble_eq_true rfl) ?_
 have hfn:=hf.len
 have hun:=hu.len
 refine Za (xBx [_,_,_,_,_] (h:=fun b1=>xA (h:=ZI [_] rfl (Zh (Za (xA (h:=Zm (ZO (α:=Nat × Option DFolder) [0,1] (fun g=>[(3,.int .i64 g.1)]) [] (fun g=>[]) (fun g Bx=>Bx=B∧g.1≤x.folders.length∧ZcO x.users (x.folders.take g.1)=(true,g.2)∧Prev some none x.folders g.1 g.2) (fun g=>x.folders.length - g.1) (0,none) t1 rfl (⟨rfl,Nat.zero_le _,Ze1,.zero⟩) (fun g B2 hle2 hI=>?_)))))))))
 obtain ⟨rfl,hk,hs,hp⟩:=hI
 refine ZR [(0,_),(1,_),(3,_)] [_] t3 rfl (Zh (Za (xM (h:=xW Za5 (h:=x1 Zgf 0 (h:=xV Tryz.underlying31 (h:=ZM (h:=Ze rfl (fun g1=>?_) (fun g1=>?_)))))))))
 try simp only [sQ,ne_eq] at g1
 refine Zg (Zf (Zh (Zm (Za (xW Za5 (h:=x1 Zgf 0 (h:=xM (h:=?_))))))))
 obtain ⟨m,hm⟩:=Zae (xs:=x.folders) (i:=g.1) om
 obtain ⟨bb4,oo4,rfl⟩:=hf.base hm
 obtain ⟨_,⟨qg5,cg5,qm5,cm5,rfl,hg5,hm5,hb5,hb5b⟩,hc5⟩:=hf.elem hm
 have hg5n:=hg5.len
 have hm5n:=hm5.len
 have hm5s:=ZaT hm5
 refine xIx Tryz.underlying31 Zcr (h:=yL [_,_,_,_,_] ZhP hc5 0 (h:=xAl [_,_,_,_,_] ZfG (h:=fun b6=>xS [_,_,_,_,_] 1 [_,_,_,_,_] Zcr (h:=ZI [_,_] rfl (Zh (Zac (same _ _) mo kr ⟨rfl,rfl⟩ (fun _ _=>?_)))))))
 refine aW 0 rfl ZbW (h:=aT 1 rfl (ZaA fun D=>Zx rfl rfl Zio rfl (atL 0 rfl rfl rfl) r4) (h:=aW 2 rfl Zcv (h:=aT 3 rfl (ZaA fun D=>Zx rfl rfl lk9 rfl (atL 1 rfl rfl rfl) r4) (h:=aT 4 rfl (ZaA fun D=>Zay rfl rfl ZtK rfl (Zfu _ _ _ _ _ hu) r4) (h:=Zp3 5 rfl (h:=aM 6 rfl (h:=Za0 (d:=23) rfl (fun g2=>?_) (fun g2=>?_))))))))
 try simp only [sQ,ne_eq] at g2
 refine aZ 7 rfl (h:=aZ 8 rfl (h:=aZ 9 rfl (h:=aZ 10 rfl (h:=aPT 11 rfl (h:=aM 12 rfl (h:=aZ 13 rfl (h:=aZ 14 rfl (h:=aZ 15 rfl (h:=aZ 16 rfl (h:=aPT 17 rfl (h:=aM 18 rfl (h:=aZ 19 rfl (h:=?_)))))))))))))
 refine aZ 20 rfl (h:=aZ 21 rfl (h:=aZ 22 rfl (h:=aPT 23 rfl (h:=aM 24 rfl (h:=aZ 25 rfl (h:=aZ 26 rfl (h:=aZ 27 rfl (h:=aZ 28 rfl (h:=aZ 29 rfl (h:=aZ 30 rfl (h:=aZ 31 rfl (h:=aZ 32 rfl (h:=?_)))))))))))))
 refine aZ 33 rfl (h:=aZ 34 rfl (h:=aZ 35 rfl (h:=aZ 36 rfl (h:=aZ 37 rfl (h:=aPT 38 rfl (h:=ZB kr kr ?_))))))
 refine Zf (Ze (t:=true) rfl (fun _=>Za (xA (h:=Zj (ZN (Zt (Z2 (ZN (Zt ?_)))))))) (fun h=>Bool.noConfusion h))
 exact ZK .ret (.inl rfl) [_] t1 ⟨Zk (Zb6 hm hs (by simp [Zbv,ZaD,DFolder.box,g1,g2];try omega)).symm,rfl,rfl⟩
 try simp only [sQ,ne_eq] at g2
 refine aW 7 rfl Zdy (h:=aT 8 rfl (ZaA fun D=>Zx rfl rfl lk9 rfl (atL 1 rfl rfl rfl) r4) (h:=aT 9 rfl (ZaA fun D=>Zay rfl rfl ZrO rfl (Zcc _ om2 _) r4) (h:=?_)))
 refine aN 10 rfl (h:=aPF 11 rfl (h:=aM 12 rfl (h:=Za0 (d:=29) rfl (fun g3=>?_) (fun g3=>?_))))
 try simp only [sQ,ne_eq] at g3
 refine aZ 13 rfl (h:=aZ 14 rfl (h:=aZ 15 rfl (h:=aZ 16 rfl (h:=aPT 17 rfl (h:=aM 18 rfl (h:=aZ 19 rfl (h:=aZ 20 rfl (h:=aZ 21 rfl (h:=aZ 22 rfl (h:=aPT 23 rfl (h:=aM 24 rfl (h:=aZ 25 rfl (h:=?_)))))))))))))
 refine aZ 26 rfl (h:=aZ 27 rfl (h:=aZ 28 rfl (h:=aZ 29 rfl (h:=aZ 30 rfl (h:=aZ 31 rfl (h:=aZ 32 rfl (h:=aZ 33 rfl (h:=aZ 34 rfl (h:=aZ 35 rfl (h:=aZ 36 rfl (h:=aZ 37 rfl (h:=aPT 38 rfl (h:=?_)))))))))))))
 refine ZB kr kr ?_
 refine Zf (Ze (t:=true) rfl (fun _=>Za (xA (h:=Zj (ZN (Zt (Z2 (ZN (Zt ?_)))))))) (fun h=>Bool.noConfusion h))
 exact ZK .ret (.inl rfl) [_] t1 ⟨Zk (Zb6 hm hs (by simp [Zbv,ZaD,DFolder.box,g1,g2,g3];try omega)).symm,rfl,rfl⟩
 try simp only [sQ,ne_eq] at g3
 refine aW 13 rfl Zen (h:=aT 14 rfl (ZaA fun D=>Zx rfl rfl Zqr rfl (atL 1 rfl rfl rfl) r4) (h:=aT 15 rfl (ZaA fun D=>Zay rfl rfl Zwk rfl (Znb _ _ _ _ hg5) r4) (h:=aN 16 rfl (h:=aPF 17 rfl (h:=aM 18 rfl (h:=Za0 (d:=35) rfl (fun g4=>?_) (fun g4=>?_)))))))
 try simp only [sQ,ne_eq] at g4
 refine aZ 19 rfl (h:=aZ 20 rfl (h:=aZ 21 rfl (h:=aZ 22 rfl (h:=aPT 23 rfl (h:=aM 24 rfl (h:=aZ 25 rfl (h:=aZ 26 rfl (h:=aZ 27 rfl (h:=aZ 28 rfl (h:=aZ 29 rfl (h:=aZ 30 rfl (h:=aZ 31 rfl (h:=?_)))))))))))))
 refine aZ 32 rfl (h:=aZ 33 rfl (h:=aZ 34 rfl (h:=aZ 35 rfl (h:=aZ 36 rfl (h:=aZ 37 rfl (h:=aPT 38 rfl (h:=ZB kr kr ?_)))))))
 refine Zf (Ze (t:=true) rfl (fun _=>Za (xA (h:=Zj (ZN (Zt (Z2 (ZN (Zt ?_)))))))) (fun h=>Bool.noConfusion h))
 exact ZK .ret (.inl rfl) [_] t1 ⟨Zk (Zb6 hm hs (by simp [Zbv,ZaD,DFolder.box,g1,g2,g3,g4];try omega)).symm,rfl,rfl⟩
 try simp only [sQ,ne_eq] at g4
 refine aW 19 rfl ZcX (h:=aT 20 rfl (ZaA fun D=>ZV [_,_] rfl rfl Zlh rfl (Za9 1 rfl rfl rfl) r4) (h:=aT 21 rfl (ZaA fun D=>Zay rfl rfl Zvk rfl (Zm9 _ _ (⟨m.next,m.mail⟩:DBox) _ hm5) r4) (h:=aN 22 rfl (h:=aPF 23 rfl (h:=aM 24 rfl (h:=Za0 (d:=41) rfl (fun g5=>?_) (fun g5=>?_)))))))
 try simp only [sQ,ne_eq] at g5
 refine aZ 25 rfl (h:=aZ 26 rfl (h:=aZ 27 rfl (h:=aZ 28 rfl (h:=aZ 29 rfl (h:=aZ 30 rfl (h:=aZ 31 rfl (h:=aZ 32 rfl (h:=aZ 33 rfl (h:=aZ 34 rfl (h:=aZ 35 rfl (h:=aZ 36 rfl (h:=aZ 37 rfl (h:=?_)))))))))))))
 refine aPT 38 rfl (h:=ZB kr kr ?_)
 refine Zf (Ze (t:=true) rfl (fun _=>Za (xA (h:=Zj (ZN (Zt (Z2 (ZN (Zt ?_)))))))) (fun h=>Bool.noConfusion h))
 exact ZK .ret (.inl rfl) [_] t1 ⟨Zk (Zb6 hm hs (by simp [Zbv,ZaD,DFolder.box,g1,g2,g3,g4,g5];try omega)).symm,rfl,rfl⟩
 try simp only [sQ,ne_eq] at g5
 refine aM 25 rfl (h:=ZoF 26 rfl (h:=aM 27 rfl (h:=Za0 (d:=44) rfl (fun g6=>?_) (fun g6=>?_))))
 try simp only [sQ,ne_eq] at g6
 refine aW 28 rfl Za5 (h:=aT 29 rfl (ZaA fun D=>Zx rfl rfl Zgf rfl (atL 0 rfl rfl rfl) r4) (h:=aM 30 rfl (h:=aU 31 rfl (h:=?_))))
 obtain ⟨y,hy⟩:=ZtF (xs:=x.folders) (i:=(↑g.1 - 1)) om om
 obtain ⟨_,⟨qg12,cg12,qm12,cm12,rfl,hg12,hm12,hb12,hb12b⟩,hc12⟩:=hf.elem hy
 have hg12n:=hg12.len
 have hm12n:=hm12.len
 have hm12s:=ZaT hm12
 refine aIx 32 rfl Tryz.underlying31 Zcr (h:=?_)
 have hpe:=hp.at hy oz
 refine aT 33 rfl (ZaA fun D=>ZV [_,_,_,_,_] rfl rfl ZhP rfl (ZjM hc12 0 rfl rfl) r4) (h:=aT 34 rfl (ZaA fun D=>ZV [_,_,_,_,_] rfl rfl ZhP rfl (Za9 1 rfl rfl rfl) r4) (h:=aT 35 rfl (ZaA fun D=>Zay rfl rfl Zwv rfl (ZnH y m _ _ _ _ _ _ _ _ _) r4) (h:=aN 36 rfl (h:=aPT 37 rfl (h:=aPF 38 rfl (h:=ZB kr kr ?_))))))
 refine Zf (Ze rfl (fun g7=>?_) (fun g7=>?_))
 try simp only [sQ,ne_eq] at g7
 refine Za (xA (h:=Zj (ZN (Zt (Z2 (ZN (Zt ?_)))))))
 exact ZK .ret (.inl rfl) [_] t1 ⟨Zk (Zb6 hm hs (by simp [Zbv,ZaD,DFolder.box,g1,g2,g3,g4,g5,g6,g7,hpe];try omega)).symm,rfl,rfl⟩
 try simp only [sQ,ne_eq] at g7
 refine Zg (Z7 (Zf (Zn (xM (h:=xD (h:=xA (h:=?_)))))))
 exact ZU (g.1+1,some m) [0] so2 ⟨rfl,oz,Zco hm hs (by rw [hpe];simp [Zbv,ZaD,DFolder.box,g3,g4,g5,g7];omega),.succ hm⟩ t3 rfl
 try simp only [sQ,ne_eq] at g6
 refine aZ 28 rfl (h:=aZ 29 rfl (h:=aZ 30 rfl (h:=aZ 31 rfl (h:=aZ 32 rfl (h:=aZ 33 rfl (h:=aZ 34 rfl (h:=aZ 35 rfl (h:=aZ 36 rfl (h:=aPF 37 rfl (h:=aPF 38 rfl (h:=ZB kr kr ?_)))))))))))
 refine Zf (Ze (t:=false) rfl (fun h=>Bool.noConfusion h) (fun _=>Zg (Z7 (Zf (Zn (xM (h:=xD (h:=xA (h:=?_)))))))))
 exact ZU (g.1+1,some m) [0] so2 ⟨rfl,oz,Zco hm hs (by rw [hp.at0 oz];simp [Zbv,ZaD,DFolder.box,g3,g4,g5];omega),.succ hm⟩ t3 rfl
 try simp only [sQ,ne_eq] at g1
 refine ZS (Zaf (ZW (ZG (Zf (Za (xW Za5 (h:=x1 Zgf 0 (h:=xV Tryz.underlying31 (h:=Zca (h:=xA (h:=Zj ?_)))))))))))
 exact ZK .ret (.inl rfl) [_] t1 ⟨Zk (by rw [ZiA (ZdP hs oz),Bool.eq_iff_iff];simp;try omega),rfl,rfl⟩

set_option maxHeartbeats 400000 in
theorem ZlP (q1 q2 q3:Option Addr) (c1 c2 c3:Nat) (x:DHost) (hd:x.domain.length≤2000000) (B:Kn) (hu:SlK B q1 c1 3 Zc x.users) (hf:SlK B q2 c2 5 Zb x.folders) (hi:SlK B q3 c3 4 Zi x.queue.items):Z8 (pj J) 30 [.agg #[str x.domain,.slice q1 x.users.length c1,.slice q2 x.folders.length c2,.int .i64 x.queue.next,.slice q3 x.queue.items.length c3]] B (.bool (Za3 x)):=by
 refine Zd 87 Tryz.func30 rfl rfl rfl (Nat.le_of_ble_eq_true rfl) ?_
 have hfn:=hf.len
 have hun:=hu.len
 have hin:=hi.len
 refine Za (xBx [_,_,_,_,_] (h:=fun b1=>xA (h:=ZI [_] rfl (Zh (Za (xW Zha (h:=x1 lk9 0 (h:=xR Zwp rfl (ZiY _ om2 _) (h:=?_)))))))))
 refine xN (h:=xM (h:=ZC (d:=10) rfl (fun g1=>?_) (fun g1=>?_)))
 try simp only [sQ,ne_eq] at g1
 refine xP (h:=xP (h:=xP (h:=xP (h:=xT (h:=xM (h:=xP (h:=xP (h:=xP (h:=xP (h:=xT (h:=xM (h:=xP (h:=?_)))))))))))))
 refine xP (h:=xP (h:=xT (h:=Ze (t:=true) rfl (fun _=>Za (xA (h:=Zj (Zt ?_)))) (fun h=>Bool.noConfusion h))))
 exact ZK .ret (.inl rfl) [_] t1 ⟨Zk (by simp [Za3,g1]),rfl,rfl⟩
 try simp only [sQ,ne_eq] at g1
 refine xW ZbW (h:=x1 Zio 0 (h:=xR Zwo rfl (Zj2 _ _ _ _ hu) (h:=xN (h:=xF (h:=xM (h:=ZC (d:=16) rfl (fun g2=>?_) (fun g2=>?_)))))))
 try simp only [sQ,ne_eq] at g2
 refine xP (h:=xP (h:=xP (h:=xP (h:=xT (h:=xM (h:=xP (h:=xP (h:=xP (h:=xT (h:=Ze (t:=true) rfl (fun _=>Za (xA (h:=?_))) (fun h=>Bool.noConfusion h)))))))))))
 refine Zj (Zt ?_)
 exact ZK .ret (.inl rfl) [_] t1 ⟨Zk (by simp [Za3,g1,g2]),rfl,rfl⟩
 try simp only [sQ,ne_eq] at g2
 refine xW Zb9 (h:=xL [_,_] Zdg 0 (h:=xR ZvY rfl (ZgK _ _ x.queue _ hi) (h:=xN (h:=xF (h:=xM (h:=ZC (d:=22) rfl (fun g3=>?_) (fun g3=>?_)))))))
 try simp only [sQ,ne_eq] at g3
 refine xP (h:=xP (h:=xP (h:=xT (h:=Ze (t:=true) rfl (fun _=>Za (xA (h:=Zj (Zt ?_)))) (fun h=>Bool.noConfusion h)))))
 exact ZK .ret (.inl rfl) [_] t1 ⟨Zk (by simp [Za3,g1,g2,g3]),rfl,rfl⟩
 try simp only [sQ,ne_eq] at g3
 refine xL [_,_,_,_,_] Zaz 0 (h:=xR Zwn rfl (Zjh _ _ _ _ _ _ x _ hu hf) (h:=xN (h:=xF (h:=Ze rfl (fun g4=>?_) (fun g4=>?_)))))
 try simp only [sQ,ne_eq] at g4
 refine Za (xA (h:=Zj (Zt ?_)))
 exact ZK .ret (.inl rfl) [_] t1 ⟨Zk (by simp [Za3,g1,g2,g3,g4]),rfl,rfl⟩
 try simp only [sQ,ne_eq] at g4
 refine Zg (Zf (Zh (Za (xA (h:=Zm (ZO (α:=Nat) [0,1,26] (fun k=>[(3,.int .i64 k)]) [] (fun k=>[]) (fun k Bx=>Bx=B∧k≤x.users.length∧∀z,z∈x.users.take k→Zbo x.folders z=true) (fun k=>x.users.length - k) 0 t1 rfl (⟨rfl,Nat.zero_le _,by simp⟩) (fun k B6 hle6 hI=>?_)))))))
 obtain ⟨rfl,hk,ha⟩:=hI
 refine ZR [(0,_),(1,_),(3,_),(26,_)] [_] t4 rfl (Zh (Za (xM (h:=xW ZbW (h:=x1 Zio 0 (h:=xV Tryz.underlying30 (h:=ZM (h:=Ze rfl (fun g5=>?_) (fun g5=>?_)))))))))
 try simp only [sQ,ne_eq] at g5
 refine Zg (Zf (Zh (Zm (Zh (Zac (same _ _) mo kr ⟨rfl,rfl⟩ (fun _ _=>?_))))))
 refine aT 0 rfl (ZaA fun D=>ZV [_,_,_,_,_] rfl rfl Zaz rfl (Za9 0 rfl rfl rfl) r4) (h:=aW 1 rfl ZbW (h:=aT 2 rfl (ZaA fun D=>Zx rfl rfl Zio rfl (atL 0 rfl rfl rfl) r4) (h:=aM 3 rfl (h:=?_))))
 obtain ⟨w,hw⟩:=Zae (xs:=x.users) (i:=k) om
 obtain ⟨bb8,oo8,rfl⟩:=hu.base hw
 obtain ⟨_,⟨rfl,hb9,hb9b⟩,hc9⟩:=hu.elem hw
 refine aIx 4 rfl Tryz.underlying30 Zbs (h:=aW 5 rfl Zbe (h:=aT 6 rfl (ZaA fun D=>Zx rfl rfl lk9 rfl (hc9 _ 0 _ rfl) r4) (h:=aT 7 rfl (ZaA fun D=>Zay rfl rfl ZwO rfl (ZnI _ _ _ _ _ _ x w.name [105,110,98,111,120] om2 om2 _ hf) r4) (h:=?_))))
 refine Zp3 8 rfl (h:=aM 9 rfl (h:=Za0 (d:=43) rfl (fun g6=>?_) (fun g6=>?_)))
 try simp only [sQ,ne_eq] at g6
 refine aZ 10 rfl (h:=aZ 11 rfl (h:=aZ 12 rfl (h:=aZ 13 rfl (h:=aZ 14 rfl (h:=aZ 15 rfl (h:=aZ 16 rfl (h:=aZ 17 rfl (h:=aZ 18 rfl (h:=aZ 19 rfl (h:=aZ 20 rfl (h:=aZ 21 rfl (h:=aZ 22 rfl (h:=?_)))))))))))))
 refine aZ 23 rfl (h:=aZ 24 rfl (h:=aPT 25 rfl (h:=ZB kr kr ?_)))
 refine Zf (Ze (t:=true) rfl (fun _=>Za (xA (h:=Zj (ZN (Zt (Z2 (ZN (Zt ?_)))))))) (fun h=>Bool.noConfusion h))
 exact ZK .ret (.inl rfl) [_] t1 ⟨Zk (Zg2 hw (ZiS g6)).symm,rfl,rfl⟩
 try simp only [sQ,ne_eq] at g6
 refine aT 10 rfl (ZaA fun D=>ZV [_,_,_,_,_] rfl rfl Zaz rfl (Za9 0 rfl rfl rfl) r4) (h:=aW 11 rfl ZbW (h:=aT 12 rfl (ZaA fun D=>Zx rfl rfl Zio rfl (atL 0 rfl rfl rfl) r4) (h:=aM 13 rfl (h:=aIx 14 rfl Tryz.underlying30 Zbs (h:=aW 15 rfl Zbe (h:=aT 16 rfl (ZaA fun D=>Zx rfl rfl lk9 rfl (hc9 _ 0 _ rfl) r4) (h:=aT 17 rfl (ZaA fun D=>Zay rfl rfl Zwm rfl (ZnG _ _ _ _ _ _ x _ _ hf) r4) (h:=aW 18 rfl ZbW (h:=aT 19 rfl (ZaA fun D=>Zx rfl rfl Zio rfl (atL 0 rfl rfl rfl) r4) (h:=aM 20 rfl (h:=aIx 21 rfl Tryz.underlying30 Zbs (h:=aW 22 rfl Zdi (h:=?_)))))))))))))
 refine aT 23 rfl (ZaA fun D=>Zx rfl rfl lk3 rfl (hc9 _ 2 _ rfl) r4) (h:=ZoF 24 rfl (h:=aPF 25 rfl (h:=ZB kr kr ?_)))
 refine Zf (Ze rfl (fun g7=>?_) (fun g7=>?_))
 try simp only [sQ,ne_eq] at g7
 refine Za (xA (h:=Zj (ZN (Zt (Z2 (ZN (Zt ?_)))))))
 exact ZK .ret (.inl rfl) [_] t1 ⟨Zk (Zg2 hw (ZiR g7)).symm,rfl,rfl⟩
 try simp only [sQ,ne_eq] at g7
 refine Zg (Z7 (Zf (Zn (xM (h:=xD (h:=xA (h:=?_)))))))
 exact ZU (k+1) [0] so2 ⟨rfl,oz,Zbf hw ha (ZiQ g6 g7)⟩ t4 rfl
 try simp only [sQ,ne_eq] at g5
 refine ZS (Zaf (ZW (ZG (Zf (Zh (Za (xA (h:=Zm (ZO (α:=Nat) [0,1,3,26,31] (fun j=>[(4,.int .i64 j)]) [] (fun j=>[]) (fun j Bx=>Bx=B6∧j≤x.queue.items.length∧∀z,z∈x.queue.items.take j→Za2 x.users z=true) (fun j=>x.queue.items.length - j) 0 t1 rfl (⟨rfl,Nat.zero_le _,by simp⟩) (fun j B12 hle12 hI=>?_))))))))))
 obtain ⟨rfl,hj,hb⟩:=hI
 refine ZR [(0,_),(1,_),(3,_),(4,_),(26,_),(31,_)] [_] t6 rfl (Zh (Za (xM (h:=xW Zb9 (h:=xW Zba (h:=x1 Zgt 0 (h:=xV Tryz.underlying32 (h:=ZM (h:=Ze rfl (fun g8=>?_) (fun g8=>?_))))))))))
 try simp only [sQ,ne_eq] at g8
 refine Zg (Zf (Zh (Zm (Za (xW Zb9 (h:=xW Zba (h:=x1 Zgt 0 (h:=xM (h:=?_)))))))))
 obtain ⟨y,hy⟩:=Zae (xs:=x.queue.items) (i:=j) om
 obtain ⟨bb14,oo14,rfl⟩:=hi.base hy
 obtain ⟨_,⟨qi15,ci15,rfl,hi15,hb15,hb15b⟩,hc15⟩:=hi.elem hy
 have hi15n:=hi15.len
 refine xIx Tryz.underlying32 Zbl (h:=yL [_,_,_,_] Zd4 hc15 0 (h:=xAl [_,_,_,_] Zde (h:=fun b16=>xS [_,_,_,_] 1 [_,_,_,_] Zbl (h:=ZI [_,_] rfl (Za (xW ZbW (h:=x1 Zio 0 (h:=xW ZdW (h:=x1 lk9 1 (h:=xR ZtK rfl (Zfu _ _ _ _ _ hu) (h:=ZM (h:=xM (h:=?_)))))))))))))
 refine ZC (d:=80) rfl (fun g9=>?_) (fun g9=>?_)
 try simp only [sQ,ne_eq] at g9
 refine xP (h:=xP (h:=xP (h:=xP (h:=xP (h:=xT (h:=Ze (t:=true) rfl (fun _=>Za (xA (h:=Zj (ZN (Zt (Z2 (ZN (Zt ?_)))))))) (fun h=>Bool.noConfusion h)))))))
 exact ZK .ret (.inl rfl) [_] t1 ⟨Zk (Zg4 hy (Ziu g9)).symm,rfl,rfl⟩
 try simp only [sQ,ne_eq] at g9
 refine xL [_,_,_,_,_] Zaz 0 (h:=xW Zcj (h:=x1 Zgs 1 (h:=xR Zv2 rfl (ZhR _ _ _ _ _ _ x _ _ y.left _ hu hi15) (h:=xN (h:=xF (h:=Ze rfl (fun ga=>?_) (fun ga=>?_)))))))
 try simp only [sQ,ne_eq] at ga
 refine Za (xA (h:=Zj (ZN (Zt (Z2 (ZN (Zt ?_)))))))
 exact ZK .ret (.inl rfl) [_] t1 ⟨Zk (Zg4 hy (Zit ga)).symm,rfl,rfl⟩
 try simp only [sQ,ne_eq] at ga
 refine Zg (Z7 (Zf (Zn (xM (h:=xD (h:=xA (h:=?_)))))))
 exact ZU (j+1) [0] so2 ⟨rfl,oz,Zbf hy hb (Zis g9 ga)⟩ t6 rfl
 try simp only [sQ,ne_eq] at g8
 refine ZS (Zaf (ZW (ZG (Zf (Za (xA (h:=Zj ?_)))))))
 exact ZK .ret (.inl rfl) [_] t1 ⟨Zk (Zl6 g1 g2 g3 g4 (ZeH (Zbp oz ha)) (ZeH (Zbp oz hb))).symm,rfl,rfl⟩

set_option maxHeartbeats 400000 in
theorem Zp1 (q:Option Addr) (cp:Nat) (gs:List DGrant) (B:Kn) (hg:SlK B q cp 2 Zah gs):ZL (pj J) 103 [.slice q gs.length cp] B [] (ZkN gs B):=by
 refine Zd 46 Tryz.func103 rfl rfl rfl (Nat.le_of_ble_eq_true rfl) ?_
 have hgn:=hg.len
 refine Za (xA (h:=xA (h:=Zh (Za (xM (h:=xV Tryz.underlying68 (h:=Zd8 (h:=Ze rfl (fun g0=>?_) (fun g0=>?_)))))))))
 try simp only [sQ,ne_eq] at g0
 refine Za (xA (h:=xA (h:=Zj (Zt ?_))))
 exact Zhf .ret (.inl rfl) [_,_] t2 (by simp [Zf4];omega)
 try simp only [sQ,ne_eq] at g0
 refine Zg (Zf (Za (Zq (ZmI rfl rfl (fun b1 l1 hl1=>xA (h:=ZI [_] rfl (Za (xA (h:=Zh (Za (xM (h:=xV Tryz.underlying68 (h:=xM (h:=?_))))))))))))))
 refine Zm (ZO (α:=Nat × Str × Cells) [0,4,10,12,13] (fun g=>[(5,str g.2.1),(14,.int .i64 g.1)]) [0] (fun g=>[g.2.2]) (fun g Bx=>Bx=B∧g.1≤gs.length∧ZcW (gs.take g.1)=(true,g.2.1)∧g.2.1.length≤2000000∧Zr3 g.2.2 b1 (Zqs (gs.take g.1))) (fun g=>gs.length - g.1) (0,[],_) t2 rfl (⟨rfl,Nat.zero_le _,Ze1,by simp,hl1⟩) (fun g B2 hle2 hI=>?_))
 obtain ⟨rfl,hk,hs,hnm,hml⟩:=hI
 refine ZR [(0,_),(4,_),(5,_),(10,_),(12,_),(13,_),(14,_)] [_] t7 rfl (Za (ZM (h:=Zh (Ze rfl (fun g1=>?_) (fun g1=>?_)))))
 try simp only [sQ,ne_eq] at g1
 refine Zg (Zf (Zh (Zm (Za ?_))))
 obtain ⟨m,hm⟩:=Zae (xs:=gs) (i:=g.1) om
 obtain ⟨bb4,oo4,rfl⟩:=hg.base hm
 obtain ⟨_,⟨rfl,hb5⟩,hc5⟩:=hg.elem hm
 refine xIx Tryz.underlying68 Zec (h:=yL [_,_] ZnC hc5 0 (h:=xAl [_,_] ZlB (h:=fun b6=>xS [_,_] 1 [_,_] Zec (h:=ZI [_,_] rfl (Zh (Za (xW ZcB (h:=x1 lk9 1 (h:=xR Zr2 rfl (ZcN _ om2 _) (h:=?_))))))))))
 refine xN (h:=xM (h:=ZC (d:=22) rfl (fun g2=>?_) (fun g2=>?_)))
 try simp only [sQ,ne_eq] at g2
 refine xP (h:=xP (h:=xP (h:=xP (h:=xT (h:=Ze (t:=true) rfl (fun _=>Za (xA (h:=xA (h:=Zj (Zt (ZN (Zt (Z2 (ZN (Zt ?_)))))))))) (fun h=>Bool.noConfusion h))))))
 exact Zhf .ret (.inl rfl) [_,_] t2 (Zc0 hm hs (by rw [ZcG,Zbz g.2.1 m.user];simp [g2];try omega))
 try simp only [sQ,ne_eq] at g2
 refine xW ZcB (h:=x1 lk9 1 (h:=xM (h:=Zq (Zqh rfl rfl rfl rfl (xF (h:=Ze rfl (fun g3=>?_) (fun g3=>?_)))))))
 try simp only [sQ,ne_eq] at g3
 refine Za (xA (h:=xA (h:=Zj (Zt (ZN (Zt (Z2 (ZN (Zt ?_)))))))))
 exact Zhf .ret (.inl rfl) [_,_] t2 (Zc0 hm hs (by rw [ZcG,Zbz g.2.1 m.user];simp [g3];try omega))
 try simp only [sQ,ne_eq] at g3
 refine Zg (Zf (Zh (Za (xW ZdV (h:=x1 lk3 1 (h:=ZM (h:=xM (h:=ZC (d:=31) rfl (fun g4=>?_) (fun g4=>?_)))))))))
 try simp only [sQ,ne_eq] at g4
 refine xP (h:=xP (h:=xP (h:=xP (h:=xT (h:=Ze (t:=true) rfl (fun _=>Za (xA (h:=xA (h:=Zj (Zt (ZN (Zt (Z2 (ZN (Zt ?_)))))))))) (fun h=>Bool.noConfusion h))))))
 exact Zhf .ret (.inl rfl) [_,_] t2 (Zc0 hm hs (by rw [ZcG,Zbz g.2.1 m.user];simp [g4];try omega))
 try simp only [sQ,ne_eq] at g4
 refine xW ZdV (h:=x1 lk3 1 (h:=xR ZwJ rfl (Zo3 _ _) (h:=xN (h:=xF (h:=Ze rfl (fun g5=>?_) (fun g5=>?_))))))
 try simp only [sQ,ne_eq] at g5
 refine Za (xA (h:=xA (h:=Zj (Zt (ZN (Zt (Z2 (ZN (Zt ?_)))))))))
 exact Zhf .ret (.inl rfl) [_,_] t2 (Zc0 hm hs (Bool.eq_false_iff.2 fun hc=>by simp only [ZcG,Bool.and_eq_true,decide_eq_true_eq] at hc;simp only [Bool.and_eq_false_iff,decide_eq_false_iff_not] at g5;omega))
 try simp only [sQ,ne_eq] at g5
 refine Zg (Zf (Za (xM (h:=xW ZcB (h:=x1 lk9 1 (h:=xW ZdV (h:=x1 lk3 1 (h:=Zq (ZjQ (k:=m.user) (v:=m.rights) 0 rfl hml rfl rfl Tryz.underlying141 Tryz.underlying9 rfl rfl rfl (fun l9 hl9=>ZI [_,_] rfl (Zn (xW ZcB (h:=x1 lk9 1 (h:=?_))))))))))))))
 refine xA (h:=Z7 (Zf (Zn (xD (h:=xM (h:=?_))))))
 exact ZU (g.1+1,m.user,l9) [0] so2 ⟨rfl,so,Zco hm hs (by rw [ZcG,Zbz g.2.1 m.user,g2,g3];simp at g5 ⊢;omega),oy,by rw [← Zrk hm hs (by rw [Zbz g.2.1 m.user,g3];rfl)];exact hl9⟩ t7 rfl
 try simp only [sQ,ne_eq] at g1
 refine ZS (Zaf (ZW (ZG (Zf (Za (xM (h:=xA (h:=xA (h:=Zj ?_)))))))))
 exact ZrN .ret (.inl rfl) [_,_] rfl t2 (by rw [ZjK (ZdP hs oz)];simp;omega) (by have e:=hml;rw [List.take_of_length_le oz] at e;exact e)

set_option maxHeartbeats 400000 in
theorem ZnP (q:Option Addr) (cp:Nat) (gs:List DGrant) (B:Kn) (hg:SlK B q cp 2 Zah gs):Z8 (pj J) 187 [.slice q gs.length cp] B (.bool (Zf4 gs)):=by
 refine Zd 11 Tryz.func187 rfl rfl rfl (Nat.le_of_ble_eq_true rfl) ?_
 refine Za (xA (h:=Za (xM (h:=Zq (ZF rfl rfl ZvI rfl (Zp1 _ _ _ _ hg) ?_)))))
 rintro _ B1 _ hle1 ⟨m1,l1,rfl,rfl,rfl,hl1⟩
 refine xM (h:=xE (h:=xE (h:=xA (h:=xA (h:=ZI [_] rfl (Za (xM (h:=xA (h:=Zj ?_)))))))))
 exact ZK .ret (.inl rfl) [_] t1 ⟨rfl,rfl,rfl⟩

set_option maxHeartbeats 400000 in
theorem Ztp (a b:Str) (B:Kn):Z8 (pj J) 173 [str a,str b] B (.int .i64 (Lib.compareBytes a b)):=by
 refine Zd 8 Tryz.func173 rfl rfl rfl (Nat.le_of_ble_eq_true rfl) ?_
 refine Za (xA (h:=Za (xM (h:=xM (h:=Zq (Zt2 (fn:=Tryz.f200) rfl rfl Tryz.func200 rfl rfl Zs6 Zs7 rfl rfl (xA (h:=Zj ?_))))))))
 exact ZK .ret (.inl rfl) [_] t1 ⟨rfl,rfl,rfl⟩

set_option maxHeartbeats 400000 in
theorem ZqD (a b:Str) (B:Kn):Z8 (pj J) 127 [str a,str b] B (.int .i64 (Lib.compareBytes a b)):=by
 refine Zd 8 Tryz.func127 rfl rfl rfl (Nat.le_of_ble_eq_true rfl) ?_
 refine Za (xA (h:=Za (xM (h:=xM (h:=xR ZuY rfl (Ztp a b _) (h:=xA (h:=Zj ?_)))))))
 exact ZK .ret (.inl rfl) [_] t1 ⟨rfl,rfl,rfl⟩

set_option maxHeartbeats 400000 in
theorem Zky (f:DFolder) (qa qb:Option Addr) (ca cb:Nat) (ow nm:Str) (B:Kn):Z8 (pj J) 75 [.agg #[str f.owner,str f.name,.slice qa f.grants.length ca,.int .i64 f.next,.slice qb f.mail.length cb],str ow,str nm] B (.int .i64 (Zto f ow nm)):=by
 refine Zd 19 Tryz.func75 rfl rfl rfl (Nat.le_of_ble_eq_true rfl) ?_
 refine Za (xBx [_,_,_,_,_] (h:=fun b1=>xA (h:=ZI [_] rfl (Zh (Za (xW Zcv (h:=x1 lk9 0 (h:=xM (h:=xR Zti rfl (ZqD f.owner ow _) (h:=xA (h:=Za (xM (h:=?_)))))))))))))
 refine Z4 (h:=Ze rfl (fun g1=>?_) (fun g1=>?_))
 try simp only [sQ,ne_eq] at g1
 refine Za (xM (h:=xA (h:=Zj (Zt ?_))))
 exact ZK .ret (.inl rfl) [_] t1 ⟨ZX (by rw [Zto,if_pos g1]),rfl,rfl⟩
 try simp only [sQ,ne_eq] at g1
 refine Zg (Zf (Za (xW Zdy (h:=x1 lk9 0 (h:=xM (h:=xR Zti rfl (ZqD f.name nm _) (h:=xA (h:=Zj ?_))))))))
 exact ZK .ret (.inl rfl) [_] t1 ⟨ZX (by rw [Zto,if_neg (fun h=>h g1)]),rfl,rfl⟩

set_option maxHeartbeats 400000 in
theorem Zsr (b o:Nat) (q1 q2 q3:Option Addr) (c1 c2 c3:Nat) (x:DHost) (u:Str) (B:Kn) (hh:ZaX B b o [str x.domain,.slice q1 x.users.length c1,.slice q2 x.folders.length c2,.int .i64 x.queue.next,.slice q3 x.queue.items.length c3]) (hf:SlK B q2 c2 5 Zb x.folders):Z8 (pj J) 166 [ptr ⟨b,o,none⟩,str u] B (.int .i64 (ZeX x.folders u)):=by
 refine Zd 28 Tryz.func166 rfl rfl rfl (Nat.le_of_ble_eq_true rfl) ?_
 have hfn:=hf.len
 refine Za (xA (h:=Za (xA (h:=Zh (Za (xM (h:=xNc (h:=xW Za5 (h:=Zq (Zx rfl rfl Zgf rfl (hh _ 2 _ rfl) (xV Tryz.underlying31 (h:=xM (h:=Zm ?_)))))))))))))
 refine ZO (α:=Nat × Int) [0,1,4,11,12] (fun g=>[(5,.int .i64 g.2),(13,.int .i64 g.1)]) [] (fun g=>[]) (fun g Bx=>Bx=B∧g.1≤x.folders.length∧g.2=ZeX (x.folders.take g.1) u∧-1*g.1≤g.2∧g.2≤g.1*200) (fun g=>x.folders.length - g.1) (0,0) t2 rfl (⟨rfl,Nat.zero_le _,by simp [ZeX],by simp,by simp⟩) (fun g B1 hle1 hI=>?_)
 obtain ⟨rfl,hk,hs,hl0,hl1⟩:=hI
 refine ZR [(0,_),(1,_),(4,_),(5,_),(11,_),(12,_),(13,_)] [] t7 rfl (Za (ZM (h:=Zh (Ze rfl (fun g1=>?_) (fun g1=>?_)))))
 try simp only [sQ,ne_eq] at g1
 refine Zg (Zf (Zh (Zm (Za ?_))))
 obtain ⟨m,hm⟩:=Zae (xs:=x.folders) (i:=g.1) om
 obtain ⟨bb3,oo3,rfl⟩:=hf.base hm
 obtain ⟨_,⟨qg4,cg4,qm4,cm4,rfl,hg4,hm4,hb4,hb4b⟩,hc4⟩:=hf.elem hm
 have hg4n:=hg4.len
 have hm4n:=hm4.len
 have hm4s:=ZaT hm4
 refine xIx Tryz.underlying31 Zcr (h:=yL [_,_,_,_,_] ZhP hc4 0 (h:=xAl [_,_,_,_,_] ZfG (h:=fun b5=>xS [_,_,_,_,_] 0 [_,_,_,_,_] Zcr (h:=ZI [_] rfl (Za (xW Zcv (h:=x1 lk9 0 (h:=xM (h:=Zea (h:=Ze rfl (fun g2=>?_) (fun g2=>?_)))))))))))
 try simp only [sQ,ne_eq] at g2
 have hbs:=Zh5 (⟨m.next,m.mail⟩:DBox)
 refine Zn (xM (h:=xW ZcX (h:=xL [_,_] Zlh 0 (h:=xR ZuG rfl (Zoz _ _ (⟨m.next,m.mail⟩:DBox) _ hm4) (h:=xD (h:=xA (h:=Z7 (Zf (Zn (xD (h:=xM (h:=?_))))))))))))
 exact ZU (g.1+1,g.2+Zdj ⟨m.next,m.mail⟩) [] so2 ⟨rfl,so,by rw [ZhC hm,← hs,if_pos g2],so,so⟩ t7 rfl
 try simp only [sQ,ne_eq] at g2
 refine Zg (Z7 (Zf (Zn (xD (h:=xM (h:=?_))))))
 exact ZU (g.1+1,g.2) [] so2 ⟨rfl,so,by rw [ZhC hm,← hs,if_neg g2,Int.add_zero],so,so⟩ t7 rfl
 try simp only [sQ,ne_eq] at g1
 refine ZS (Zaf (ZW (ZG (Zf (Za (xM (h:=xA (h:=Zj ?_))))))))
 exact ZK .ret (.inl rfl) [_] t1 ⟨ZX (by rw [← ZmP hs oz]),rfl,rfl⟩

set_option maxHeartbeats 400000 in
theorem Zof (b o:Nat) (q1 q2 q3:Option Addr) (c1 c2 c3:Nat) (x:DHost) (u:Str) (more:Int) (hn:u.length≤2000000) (hm0:0≤more) (hm1:more≤2000000) (B:Kn) (hh:ZaX B b o [str x.domain,.slice q1 x.users.length c1,.slice q2 x.folders.length c2,.int .i64 x.queue.next,.slice q3 x.queue.items.length c3]) (hu:SlK B q1 c1 3 Zc x.users) (hf:SlK B q2 c2 5 Zb x.folders):Z8 (pj J) 121 [ptr ⟨b,o,none⟩,str u,.int .i64 more] B (.bool (ZdY x u more)):=by
 refine Zd 30 Tryz.func121 rfl rfl rfl (Nat.le_of_ble_eq_true rfl) ?_
 have hfn:=hf.len
 have hub:=ZoQ x.folders u
 refine Za (xA (h:=Za (xM (h:=xNc (h:=xW ZbW (h:=Zq (Zx rfl rfl Zio rfl (hh _ 1 _ rfl) (xM (h:=xR Ztm rfl (ZgG _ _ _ u om2 _ hu) (h:=?_))))))))))
 refine xM (h:=xE (h:=xE (h:=xAl [_,_,_] ZdF (h:=fun b2=>xS [_,_,_] 0 [_,_,_] Zbs (h:=xA (h:=ZI [_] rfl (Zh (Zac (same _ _) mo kr ⟨rfl,rfl⟩ (fun _ _=>?_)))))))))
 refine aM 0 rfl (h:=aN 1 rfl (h:=aM 2 rfl (h:=Za0 (d:=20) rfl (fun g1=>?_) (fun g1=>?_))))
 try simp only [sQ,ne_eq] at g1
 refine aZ 3 rfl (h:=aZ 4 rfl (h:=aZ 5 rfl (h:=aZ 6 rfl (h:=aZ 7 rfl (h:=aZ 8 rfl (h:=aZ 9 rfl (h:=aZ 10 rfl (h:=aPT 11 rfl (h:=aA 12 rfl (h:=ZB kr kr ?_))))))))))
 refine Zf (Zj ?_)
 exact ZK .ret (.inl rfl) [_] t1 ⟨Zk (by rw [ZdY,g1];rfl),rfl,rfl⟩
 try simp only [sQ,ne_eq] at g1
 refine aM 3 rfl (h:=aM 4 rfl (h:=aT 5 rfl (ZaA fun D=>Zay rfl rfl Zu1 rfl (Zsr _ _ _ _ _ _ _ _ x u _ hh hf) r4) (h:=aM 6 rfl (h:=aD 7 rfl (h:=aW 8 rfl Zdi (h:=aT 9 rfl (ZaA fun D=>Zx rfl rfl lk3 rfl (atL 0 rfl rfl rfl) r4) (h:=ZoF 10 rfl (h:=aPF 11 rfl (h:=aA 12 rfl (h:=ZB kr kr ?_))))))))))
 refine Zf (Zj ?_)
 exact ZK .ret (.inl rfl) [_] t1 ⟨Zk (by rw [ZdY,g1];rfl),rfl,rfl⟩

set_option maxHeartbeats 400000 in
theorem ZlF (b o:Nat) (q1 q2 q3:Option Addr) (c1 c2 c3:Nat) (x:DHost) (B:Kn) (hh:ZaX B b o [str x.domain,.slice q1 x.users.length c1,.slice q2 x.folders.length c2,.int .i64 x.queue.next,.slice q3 x.queue.items.length c3]) (hu:SlK B q1 c1 3 Zc x.users) (hf:SlK B q2 c2 5 Zb x.folders):Z8 (pj J) 152 [ptr ⟨b,o,none⟩] B (.bool (ZgF x)):=by
 refine Zd 26 Tryz.func152 rfl rfl rfl (Nat.le_of_ble_eq_true rfl) ?_
 have hfn:=hf.len
 have hun:=hu.len
 refine Za (xA (h:=Zh (Za (xM (h:=xNc (h:=xW ZbW (h:=Zq (Zx rfl rfl Zio rfl (hh _ 1 _ rfl) (xV Tryz.underlying30 (h:=xM (h:=Zm (ZO (α:=Nat) [0,8,9] (fun k=>[(10,.int .i64 k)]) [] (fun k=>[]) (fun k Bx=>Bx=B∧k≤x.users.length∧∀z,z∈x.users.take k→Zcn x z=true) (fun k=>x.users.length - k) 0 t1 rfl (⟨rfl,Nat.zero_le _,by simp⟩) (fun k B1 hle1 hI=>?_)))))))))))))
 obtain ⟨rfl,hk,ha⟩:=hI
 refine ZR [(0,_),(8,_),(9,_),(10,_)] [] t4 rfl (Za (ZM (h:=Zh (Ze rfl (fun g1=>?_) (fun g1=>?_)))))
 try simp only [sQ,ne_eq] at g1
 refine Zg (Zf (Zh (Zm (Za ?_))))
 obtain ⟨w,hw⟩:=Zae (xs:=x.users) (i:=k) om
 obtain ⟨bb3,oo3,rfl⟩:=hu.base hw
 obtain ⟨_,⟨rfl,hb4,hb4b⟩,hc4⟩:=hu.elem hw
 refine xIx Tryz.underlying30 Zbs (h:=yL [_,_,_] ZeK hc4 0 (h:=xAl [_,_,_] ZdF (h:=fun b5=>xS [_,_,_] 0 [_,_,_] Zbs (h:=ZI [_] rfl (Za (xM (h:=xW Zbe (h:=x1 lk9 0 (h:=xR Zwu rfl (Zs5 _ _ _ _ _ _ _ _ x w.name [105,110,98,111,120] om2 om2 _ hh hf) (h:=?_))))))))))
 refine ZM (h:=xM (h:=ZC (d:=19) rfl (fun g2=>?_) (fun g2=>?_)))
 try simp only [sQ,ne_eq] at g2
 refine xP (h:=xP (h:=xP (h:=xP (h:=xT (h:=Ze (t:=true) rfl (fun _=>Za (xA (h:=Zj (ZN (Zt (Z2 (ZN (Zt ?_)))))))) (fun h=>Bool.noConfusion h))))))
 exact ZK .ret (.inl rfl) [_] t1 ⟨Zk (Zdb hw (ZiV g2)).symm,rfl,rfl⟩
 try simp only [sQ,ne_eq] at g2
 refine xM (h:=xW Zbe (h:=x1 lk9 0 (h:=xR Zvw rfl (Zof _ _ _ _ _ _ _ _ x w.name 0 om2 om2 om2 _ hh hu hf) (h:=?_))))
 refine xF (h:=Ze rfl (fun g3=>?_) (fun g3=>?_))
 try simp only [sQ,ne_eq] at g3
 refine Za (xA (h:=Zj (ZN (Zt (Z2 (ZN (Zt ?_)))))))
 exact ZK .ret (.inl rfl) [_] t1 ⟨Zk (Zdb hw (ZiU g3)).symm,rfl,rfl⟩
 try simp only [sQ,ne_eq] at g3
 refine Zg (Z7 (Zf (Zn (xD (h:=xM (h:=?_))))))
 exact ZU (k+1) [] so2 ⟨rfl,oz,Zbf hw ha (ZiT g2 g3)⟩ t4 rfl
 try simp only [sQ,ne_eq] at g1
 refine ZS (Zaf (ZW (ZG (Zf (Za (xA (h:=Zj ?_)))))))
 exact ZK .ret (.inl rfl) [_] t1 ⟨Zk (ZeH (Zbp oz ha)).symm,rfl,rfl⟩

set_option maxHeartbeats 400000 in
theorem Zps (q:Option Addr) (cp:Nat) (bs:List Bool) (v:Bool) (B:Kn) (hb:SlK B q cp 1 ZkO bs):Z8 (pj J) 224 [.slice q bs.length cp,.bool v] B (.int .i64 (Zho (fun y=>decide (v=y)) bs)):=by
 refine Zd 19 Tryz.func224 rfl rfl rfl (Nat.le_of_ble_eq_true rfl) ?_
 have hbn:=hb.len
 refine Za (xA (h:=Zh (Za (xM (h:=xV Tryz.underlying235 (h:=xM (h:=Zm (ZO (α:=Nat) [0,1,7] (fun k=>[(8,.int .i64 k)]) [] (fun k=>[]) (fun k Bx=>Bx=B∧k≤bs.length∧∀y,y∈bs.take k→decide (v=y)=false) (fun k=>bs.length - k) 0 t1 rfl (⟨rfl,Nat.zero_le _,by simp⟩) (fun k B1 hle1 hI=>?_)))))))))
 obtain ⟨rfl,hk,ha⟩:=hI
 refine ZR [(0,_),(1,_),(7,_),(8,_)] [] t4 rfl (Za (ZM (h:=Zh (Ze rfl (fun g1=>?_) (fun g1=>?_)))))
 try simp only [sQ,ne_eq] at g1
 refine Zg (Zf (Zh (Zm (Za (xM (h:=xA (h:=Za (xM (h:=xM (h:=xM (h:=?_)))))))))))
 obtain ⟨y,hy⟩:=Zae (xs:=bs) (i:=k) om
 obtain ⟨bb3,oo3,rfl⟩:=hb.base hy
 obtain ⟨_,rfl,hc4⟩:=hb.elem hy
 refine xIx Tryz.underlying235 sz4 (h:=y1 lk4 hc4 0 (h:=Zq (Zsn rfl rfl rfl rfl rfl (Ztc Tryz.underlying4) (Ze rfl (fun g2=>?_) (fun g2=>?_)))))
 try simp only [sQ,ne_eq] at g2
 refine Za (xM (h:=xA (h:=Zj (ZN (Zt (Z2 (ZN (Zt ?_))))))))
 exact ZK .ret (.inl rfl) [_] t1 ⟨ZX (Zgv hy (decide_eq_true g2) ha).symm,rfl,rfl⟩
 try simp only [sQ,ne_eq] at g2
 refine Zg (Z7 (Zf (Zn (xD (h:=xM (h:=?_))))))
 exact ZU (k+1) [] so2 ⟨rfl,oz,Zbf hy ha (decide_eq_false g2)⟩ t4 rfl
 try simp only [sQ,ne_eq] at g1
 refine ZS (Zaf (ZW (ZG (Zf (Za (xA (h:=Zj ?_)))))))
 exact ZK .ret (.inl rfl) [_] t1 ⟨ZX (Zek (Zbp oz ha)).symm,rfl,rfl⟩

set_option maxHeartbeats 400000 in
theorem ZkF (q:Option Addr) (cp:Nat) (bs:List Bool) (v:Bool) (B:Kn) (hb:SlK B q cp 1 ZkO bs):Z8 (pj J) 189 [.slice q bs.length cp,.bool v] B (.bool (decide (0≤Zho (fun y=>decide (v=y)) bs))):=by
 refine Zd 9 Tryz.func189 rfl rfl rfl (Nat.le_of_ble_eq_true rfl) ?_
 refine Za (xA (h:=Za (xM (h:=xM (h:=xR ZuA rfl (Zps _ _ _ _ _ hb) (h:=Zd9 (h:=xA (h:=Zj ?_))))))))
 exact ZK .ret (.inl rfl) [_] t1 ⟨rfl,rfl,rfl⟩

set_option maxHeartbeats 400000 in
theorem Zjj (l:Str) (hl:l.length≤2000000) (B:Kn):Z8 (pj J) 149 [str l] B (.bool (Zcy l)):=by
 refine Zd 16 Tryz.func149 rfl rfl rfl (Nat.le_of_ble_eq_true rfl) ?_
 refine Za (xA (h:=Za (xM (h:=xB [(0,_)] [_,_] [_,_] ZsI ZoJ (h:=xAl [_,_] ZoJ (h:=fun b1=>xS [_,_] 0 [_,_] ZsC (h:=ZI [_] rfl (Za (Zq (Zhz 0 rfl rfl rfl ZuR rfl (ZpQ _ _ 0 oz oz _) ?_))))))))))
 refine xM (h:=xE (h:=xE (h:=xA (h:=xA (h:=Za (xM (h:=xM (h:=ZC (d:=13) rfl (fun g1=>?_) (fun g1=>?_)))))))))
 try simp only [sQ,ne_eq] at g1
 refine Zq (Zfi 0 rfl rfl rfl ZpP rfl (Zlw _ _ (dom l 0).2 (Ztn (Nat.zero_le _)) oz _) ?_)
 refine xT (h:=xA (h:=Zj ?_))
 exact ZK .ret (.inl rfl) [_] t1 ⟨Zk (by rw [Bool.eq_iff_iff,← Zjw];simp [ZkD] at g1;simp [g1];try omega),rfl,rfl⟩
 try simp only [sQ,ne_eq] at g1
 refine xP (h:=xF (h:=xA (h:=Zj ?_)))
 exact ZK .ret (.inl rfl) [_] t1 ⟨Zk (by symm;rw [Bool.eq_false_iff,ne_eq,← Zjw];intro hc;simp [ZkD,hc.1] at g1;omega),rfl,rfl⟩

set_option maxHeartbeats 800000 in
theorem Ziz (Wg C n i b o b1 b3 b5 b6:Nat) (q1 q2 q3:Option Addr) (c1 c2 c3:Nat) (x:DHost) (m:DFolder) (qg qm:Option Addr) (cg cm:Nat) (hin:i<n) (B:Kn) (hc900:ZaX B b o [str x.domain,.slice q1 x.users.length c1,.slice q2 x.folders.length c2,.int .i64 x.queue.next,.slice q3 x.queue.items.length c3]) (hu:SlK B q1 c1 3 Zc x.users) (hc901:ZaX B b1 0 [ptr ⟨b,o,none⟩]) (hc903:ZaX B b3 0 [.slice (some ⟨C,0,none⟩) n n]) (hc905:ZaX B b5 0 [.int .i64 i]) (hc906:ZaX B b6 0 [str m.owner,str m.name,.slice qg m.grants.length cg,.int .i64 m.next,.slice qm m.mail.length cm]) (hg:SlK B qg cg 2 Zah m.grants) (hm:SlK B qm cm 3 Zaw m.mail) (ho:m.owner.length≤2000000) (hnm:m.name.length≤2000000):@Zd0 ⟨4⟩ Tryz.prog wgL.tWg Wg C n i (.bool (ZaQ x.users m)) (Go.Conc.G (Frame.enter Tryz.prog 185 #[ptr ⟨Wg,0,none⟩,ptr ⟨b1,0,none⟩,ptr ⟨b6,0,none⟩,ptr ⟨b3,0,none⟩,ptr ⟨b5,0,none⟩] .deferred) [Zfb Tryz.prog]) B []:=by
 letI:Go.ConcR.Payload:=⟨4⟩
 refine ZqK (Lk:=wgL) (P:=Tryz.prog) (caps:=[ptr ⟨Wg,0,none⟩,ptr ⟨b1,0,none⟩,ptr ⟨b6,0,none⟩,ptr ⟨b3,0,none⟩,ptr ⟨b5,0,none⟩]) (nt:=27) (I:=keeps B [] []) (K:=fun _ _ _ _=>False) ZjP Tryz.func185 rfl rfl (Nat.le_of_ble_eq_true rfl) rfl mo kr ⟨Kn.le.refl _,ZaM.refl _ _⟩ (fun _ _ _ _ h=>h) ?_
 refine aT 0 rfl (ZZ fun D B L hI=>Zx rfl rfl ZsQ rfl ((hc903.mono hI.1) _ 0 _ rfl) r4) (h:=aT 1 rfl (ZZ fun D B L hI=>Zx rfl rfl lk3 rfl ((hc905.mono hI.1) _ 0 _ rfl) r4) (h:=aT 2 rfl (ZZ fun D B L hI=>Zx rfl rfl Zuh rfl ((hc901.mono hI.1) _ 0 _ rfl) r4) (h:=aW 3 rfl Zcv (h:=aT 4 rfl (ZZ fun D B L hI=>Zx rfl rfl lk9 rfl ((hc906.mono hI.1) _ 0 _ rfl) r4) (h:=aT 5 rfl (ZZ fun D B L hI=>Zay rfl rfl ZtJ rfl (Zgu _ _ _ _ _ _ _ _ x m.owner om2 _ (hc900.mono hI.1) (hu.mono Zc.mono hI.1)) r4) (h:=?_))))))
 refine aM 6 rfl (h:=Za0 (d:=11) rfl (fun g1=>?_) (fun g1=>?_))
 try simp only [sQ,ne_eq] at g1
 refine aW 7 rfl Zdy (h:=aT 8 rfl (ZZ fun D B L hI=>Zx rfl rfl lk9 rfl ((hc906.mono hI.1) _ 1 _ rfl) r4) (h:=aT 9 rfl (ZZ fun D B L hI=>Zay rfl rfl Zr2 rfl (ZcN _ om2 _) r4) (h:=?_)))
 refine aPT 10 rfl (h:=aM 11 rfl (h:=Za0 (d:=16) rfl (fun g2=>?_) (fun g2=>?_)))
 try simp only [sQ,ne_eq] at g2
 refine aW 12 rfl Zen (h:=aT 13 rfl (ZZ fun D B L hI=>Zx rfl rfl Zqr rfl ((hc906.mono hI.1) _ 2 _ rfl) r4) (h:=aT 14 rfl (ZZ fun D B L hI=>Zay rfl rfl ZuO rfl (ZnP _ _ _ _ (hg.mono Zah.mono hI.1)) r4) (h:=aPT 15 rfl (h:=aM 16 rfl (h:=Za0 (d:=21) rfl (fun g3=>?_) (fun g3=>?_))))))
 try simp only [sQ,ne_eq] at g3
 refine aW 17 rfl ZcX (h:=aT 18 rfl (ZZ fun D B L hI=>ZV [_,_] rfl rfl Zlh rfl (ZjM (hc906.mono hI.1) 3 rfl rfl) r4) (h:=aT 19 rfl (ZZ fun D B L hI=>Zay rfl rfl Ztg rfl (Zjk _ _ (⟨m.next,m.mail⟩:DBox) _ (hm.mono Zaw.mono hI.1)) r4) (h:=aPT 20 rfl (h:=aT 21 rfl (ZZ fun D B L hI=>ZbL rfl rfl Tryz.underlying235 sz4 rfl rfl oz oz r4) (h:=?_)))))
 refine Zgw 22 kr rfl kr kr kr (fun T hn hT=>?_)
 refine Zff (L:=[]) hT ZjP (by simp [ZaQ,DFolder.box,g1,g2,g3]) rfl hin rfl Tryz.sizeOf4 (ZcJ sz4) (by exact Zgr C i) rfl kr Tryz.func185 rfl
 try simp only [sQ,ne_eq] at g3
 refine aZ 17 rfl (h:=aZ 18 rfl (h:=aZ 19 rfl (h:=aPF 20 rfl (h:=aT 21 rfl (ZZ fun D B L hI=>ZbL rfl rfl Tryz.underlying235 sz4 rfl rfl oz oz r4) (h:=?_)))))
 refine Zgw 22 kr rfl kr kr kr (fun T hn hT=>?_)
 refine Zff (L:=[]) hT ZjP (by simp [ZaQ,DFolder.box,g1,g2,g3]) rfl hin rfl Tryz.sizeOf4 (ZcJ sz4) (by exact Zgr C i) rfl kr Tryz.func185 rfl
 try simp only [sQ,ne_eq] at g2
 refine aZ 12 rfl (h:=aZ 13 rfl (h:=aZ 14 rfl (h:=aPF 15 rfl (h:=aM 16 rfl (h:=aZ 17 rfl (h:=aZ 18 rfl (h:=aZ 19 rfl (h:=aPF 20 rfl (h:=aT 21 rfl (ZZ fun D B L hI=>ZbL rfl rfl Tryz.underlying235 sz4 rfl rfl oz oz r4) (h:=?_))))))))))
 refine Zgw 22 kr rfl kr kr kr (fun T hn hT=>?_)
 refine Zff (L:=[]) hT ZjP (by simp [ZaQ,DFolder.box,g1,g2]) rfl hin rfl Tryz.sizeOf4 (ZcJ sz4) (by exact Zgr C i) rfl kr Tryz.func185 rfl
 try simp only [sQ,ne_eq] at g1
 refine aZ 7 rfl (h:=aZ 8 rfl (h:=aZ 9 rfl (h:=aPF 10 rfl (h:=aM 11 rfl (h:=aZ 12 rfl (h:=aZ 13 rfl (h:=aZ 14 rfl (h:=aPF 15 rfl (h:=aM 16 rfl (h:=aZ 17 rfl (h:=aZ 18 rfl (h:=aZ 19 rfl (h:=?_)))))))))))))
 refine aPF 20 rfl (h:=aT 21 rfl (ZZ fun D B L hI=>ZbL rfl rfl Tryz.underlying235 sz4 rfl rfl oz oz r4) (h:=?_))
 refine Zgw 22 kr rfl kr kr kr (fun T hn hT=>?_)
 refine Zff (L:=[]) hT ZjP (by simp [ZaQ,DFolder.box,g1]) rfl hin rfl Tryz.sizeOf4 (ZcJ sz4) (by exact Zgr C i) rfl kr Tryz.func185 rfl

set_option maxHeartbeats 1600000 in
theorem Zht (hJ:Joins Tryz.prog J) (b o:Nat) (q1 q2 q3:Option Addr) (c1 c2 c3:Nat) (x:DHost) (B:Kn) (hc900:ZaX B b o [str x.domain,.slice q1 x.users.length c1,.slice q2 x.folders.length c2,.int .i64 x.queue.next,.slice q3 x.queue.items.length c3]) (hu:SlK B q1 c1 3 Zc x.users) (hf:SlK B q2 c2 5 Zb x.folders):ZL (pj J) 151 [ptr ⟨b,o,none⟩] B [] (fun v B' Ls=>Ls=[]∧v = .bool (x.folders.all (ZaQ x.users))):=by
 have hfn:=hf.len
 letI:Go.ConcR.Payload:=⟨4⟩
 refine ZpU 30 Tryz.func151 rfl rfl (Nat.le_of_ble_eq_true rfl) fun X kind c cs F T0 hk hke hA hn0 hT0=>?_
 let C0:Cx (pj J):=⟨X,fb 151 kind,c :: cs,F,hke⟩
 refine Zer (C:=C0) (L:=[]) (Zh3 (C:=C0) (L:=[]) hn0 hT0 (xBx [_] (h:=fun b1=>xA (h:=?_))))
 intro T1 hn1 hT1
 refine Zjy (C:=C0) rfl 0 rfl fun B1 hle1 hm1=>?_
 have hc901:=Zcs hm1
 replace hc900:=hc900.mono hle1
 replace hu:=hu.mono Zc.mono hle1
 replace hf:=hf.mono Zb.mono hle1
 replace hA:=fun v B' Ls' h=>hA v B' Ls' (hle1.trans h)
 refine Zer (C:=C0) (L:=[[]]) (Zh3 (C:=C0) (L:=[[]]) hn1 hT1 (y1 Zuh hc901 0 (h:=xNc (h:=xW Za5 (h:=y1 Zgf hc900 2 (h:=xV Tryz.underlying31 (h:=Zq (Zbt (m:=x.folders.length) (c:=x.folders.length) (by_:=1) [.bool false] rfl rfl Zur zo4 rfl rfl ⟨_,_,rfl,rfl⟩ ⟨_,_,rfl,rfl⟩ (Nat.le_refl _) oz (fun Cb=>?_)))))))))
 refine xAl [_] ZtQ (h:=fun b2=>xS [_] 2 [_] Zub (h:=?_))
 intro T2 hn2 hT2
 refine Zjy (C:=C0) rfl 2 rfl fun B2 hle2 hm2=>?_
 have hc903:=Zcs hm2
 replace hc900:=hc900.mono hle2
 replace hu:=hu.mono Zc.mono hle2
 replace hf:=hf.mono Zb.mono hle2
 replace hc901:=hc901.mono hle2
 replace hA:=fun v B' Ls' h=>hA v B' Ls' (hle2.trans h)
 refine Zer (C:=C0) (L:=[[],ZaE Cb (zrow [.bool false] x.folders.length) 4,[]]) (ZfB (C:=C0) (L:=[[],ZaE Cb (zrow [.bool false] x.folders.length) 4,[]]) (Zo8 (C:=Cb) (n:=x.folders.length) (val:=ZoI x) (L₁:=F) (cells:=(zrow [.bool false] x.folders.length).toArray) (i:=0) (todo:=[]) hJ rfl hke ZtP rfl oz (by simp [ZbX]) (.refl _) (fun hmain Wg hW1 hW2=>?_)))
 let C1:Cx (.lone Tryz.prog):=⟨phL Tryz.prog 245 Wg Cb x.folders.length (ZoI x) X.R .a5 (0),fb 151 kind,c :: cs,F,hke⟩
 have hT3:=hT2.putT (n:=30) (dst:=some 4) hn2 rfl (ptr ⟨Wg,0,none⟩)
 have hn3:(putT T2 (some 4) (ptr ⟨Wg,0,none⟩)).size=30:=by rw [Zbg,hn2]
 refine ZcL (C:=C1) (L:=[]) (Zer (C:=C1) (L:=[]) (Zer (C:=C1) (L:=[]) (Zh3 (C:=C1) (L:=[]) hn3 hT3 (y1 Zuh hc901 0 (h:=xNc (h:=xW Za5 (h:=y1 Zgf hc900 2 (h:=xV Tryz.underlying31 (h:=xM (h:=?_))))))))))
 intro T4 hn4 hT4
 refine Zly (C:=C1) (L:=[]) (Zq8 (nt:=30) (fun j=>[(1,ptr ⟨b1,0,none⟩),(3,ptr ⟨b2,0,none⟩),(4,ptr ⟨Wg,0,none⟩),(16,.slice q2 x.folders.length c2),(17,.int .i64 x.folders.length),(18,.int .i64 ((j:Nat):Int))]) (fun j hj B3 T5 hle3 hn5 hT5 hnext=>?_) hn4 (hT4.sub' t6))
 replace hc900:=hc900.mono hle3
 replace hu:=hu.mono Zc.mono hle3
 replace hf:=hf.mono Zb.mono hle3
 replace hc901:=hc901.mono hle3
 replace hc903:=hc903.mono hle3
 replace hA:=fun v B' Ls' h=>hA v B' Ls' (hle3.trans h)
 let C2:Cx (.lone Tryz.prog):=⟨phL Tryz.prog 245 Wg Cb x.folders.length (ZoI x) X.R .a5 (j),fb 151 kind,c :: cs,F,hke⟩
 refine Zer (C:=C2) (L:=[]) (Zh3 (C:=C2) (L:=[]) hn5 hT5 (ZM (h:=?_)))
 intro T6 hn6 hT6
 refine Zer (C:=C2) (L:=[]) ?_
 rcases Nat.lt_or_ge j x.folders.length with hlt | hge
 refine Zow (C:=C2) (L:=[]) (t:=true) (by exact congrArg (fun t=>some (Value.bool t)) (decide_eq_true oz)) hT6 ?_
 refine ZrR (C:=C2) (L:=[]) (Zer (C:=C2) (L:=[]) (Zly (C:=C2) (L:=[]) (Zer (C:=C2) (L:=[]) (Zh3 (C:=C2) (L:=[]) hn6 hT6 (xM (h:=?_))))))
 obtain ⟨m,hm⟩:=Zae (xs:=x.folders) (i:=j) om
 obtain ⟨bb4,oo4,rfl⟩:=hf.base hm
 obtain ⟨_,⟨qg5,cg5,qm5,cm5,rfl,hg5,hm5,hb5,hb5b⟩,hc5⟩:=hf.elem hm
 have hg5n:=hg5.len
 have hm5n:=hm5.len
 have hm5s:=ZaT hm5
 refine xIx Tryz.underlying31 Zcr (h:=yL [_,_,_,_,_] ZhP hc5 0 (h:=xAl [_] zo3 (h:=fun b6=>xAl [_,_,_,_,_] ZfG (h:=fun b7=>xS [_] 0 [_] sz3 (h:=xS [_,_,_,_,_] 1 [_,_,_,_,_] Zcr (h:=?_))))))
 intro T7 hn7 hT7
 refine Zjy (C:=C2) rfl 0 rfl fun B4 hle4 hpm4=>?_
 have hc905:=Zcs hpm4
 refine Zjy (C:=C2) rfl 1 rfl fun B5 hle5 hpm5=>?_
 have hc906:=Zcs hpm5
 replace hc905:=hc905.mono hle5
 replace hc900:=hc900.mono (hle4.trans hle5)
 replace hu:=hu.mono Zc.mono (hle4.trans hle5)
 replace hf:=hf.mono Zb.mono (hle4.trans hle5)
 replace hc901:=hc901.mono (hle4.trans hle5)
 replace hc903:=hc903.mono (hle4.trans hle5)
 replace hg5:=hg5.mono Zah.mono (hle4.trans hle5)
 replace hm5:=hm5.mono Zaw.mono (hle4.trans hle5)
 refine Zer (C:=C2) (L:=[[],[]]) (ZfB (C:=C2) (L:=[[],[]]) (ZsK (Lk:=wgL) (i:=0) (todo:=[]) ZjP hlt rfl ZuP rfl rfl hT7 hke ?_))
 let C3:Cx (.lone Tryz.prog):=⟨phL Tryz.prog 245 Wg Cb x.folders.length (ZoI x) X.R .a2 (j),fb 151 kind,c :: cs,F,hke⟩
 have hT8:=hT7.putT (n:=30) (dst:=(some 23)) hn7 rfl (.tuple #[])
 have hn8:(putT T7 (some 23) (.tuple #[])).size=30:=by rw [Zbg,hn7]
 refine ZcL (C:=C3) (L:=[]) (ZfB (C:=C3) (L:=[]) (ZvK (C:=C3) (L:=[]) (i:=0) (todo:=[1]) rfl hn8 hT8 (Zq (Zdn (xs:=[]) (ys:=[.tmp 4,.tmp 1,.tmp 6,.tmp 3,.tmp 5]) rfl rfl rfl rfl ?_))))
 intro T9 hn9 hT9
 refine Zug (i:=1) (todo:=[]) rfl rfl hT9 hke Tryz.func185 rfl rfl (by rw [ZkV hm];exact Ziz Wg Cb x.folders.length j b o b1 b2 b6 b7 _ _ _ _ _ _ x m _ _ _ _ hlt B5 hc900 hu hc901 hc903 hc905 hc906 hg5 hm5 hb5 hb5b) ?_
 let C4:Cx (.lone Tryz.prog):=⟨phL Tryz.prog 245 Wg Cb x.folders.length (ZoI x) X.R .a5 (j+1),fb 151 kind,c :: cs,F,hke⟩
 refine ZcL (C:=C4) (L:=[]) (Zmm (C:=C4) (L:=[]) ?_)
 have hn10:=hn9
 have hT10:=hT9
 refine Zh3 (C:=C4) (L:=[]) hn10 hT10 (xD (h:=xM (h:=?_)))
 intro T11 hn11 hT11
 exact hnext hlt _ _ (hle4.trans hle5) hn11 (hT11.sub' t6)
 obtain rfl:j=x.folders.length:=by omega
 refine Zow (C:=C2) (L:=[]) (t:=false) (by exact congrArg (fun t=>some (Value.bool t)) (decide_eq_false oz)) hT6 ?_
 refine ZrS (C:=C2) (L:=[]) (by rfl) ?_
 refine Zer (C:=C2) (L:=[]) (ZfB (C:=C2) (L:=[]) (Zq7 (Lk:=wgL) (X:=X) (i:=0) (todo:=[]) ZjP oz rfl ZuN rfl hT6 hke (fun _ _ _ h=>h) ?_))
 have hT7:=hT6.putT (n:=30) (dst:=(some 26)) hn6 rfl (.tuple #[])
 have hn7:(putT T6 (some 26) (.tuple #[])).size=30:=by rw [Zbg,hn6]
 refine ZcL (C:=C0) (L:=[[(Cb,Obj.cells ((List.range x.folders.length).map (ZoI x)).toArray 4 (0,0))]]) (Zjy (C:=C0) (L:=[[(Cb,Obj.cells ((List.range x.folders.length).map (ZoI x)).toArray 4 (0,0))]]) rfl 0 rfl fun B4 hle4 hm4=>?_)
 have hvb:=ZmO hm4 hfn
 replace hc900:=hc900.mono hle4
 replace hu:=hu.mono Zc.mono hle4
 replace hf:=hf.mono Zb.mono hle4
 replace hc901:=hc901.mono hle4
 replace hc903:=hc903.mono hle4
 replace hA:=fun v B' Ls' h=>hA v B' Ls' (hle4.trans h)
 refine ZrE Tryz.func151 rfl hk hke hn7 hT7 hA ?_
 rw [show (x.folders.length:Nat)=(x.folders.map (ZaQ x.users)).length from (List.length_map ..).symm] at hc903
 refine Za (y1 ZsQ hc903 0 (h:=xR ZuM rfl (ZkF _ _ _ _ _ hvb) (h:=xN (h:=xA (h:=ZI [_] rfl (Zj ?_))))))
 exact ZK .ret (.inl rfl) [_] t1 ⟨rfl,congrArg Value.bool ZiH⟩

set_option maxHeartbeats 400000 in
theorem Zkr (hJ:Joins Tryz.prog J) (q1 q2 q3:Option Addr) (c1 c2 c3:Nat) (x:DHost) (hd:x.domain.length≤2000000) (B:Kn) (hu:SlK B q1 c1 3 Zc x.users) (hf:SlK B q2 c2 5 Zb x.folders) (hi:SlK B q3 c3 4 Zi x.queue.items):ZL (pj J) 98 [.agg #[str x.domain,.slice q1 x.users.length c1,.slice q2 x.folders.length c2,.int .i64 x.queue.next,.slice q3 x.queue.items.length c3]] B [] (fun v B' Ls=>Ls=[]∧v = .bool (Za3 x)):=by
 refine Zd 63 Tryz.func98 rfl rfl rfl (Nat.le_of_ble_eq_true rfl) ?_
 rw [← Zl7]
 have hfn:=hf.len
 have hun:=hu.len
 have hin:=hi.len
 refine Za (xBx [_,_,_,_,_] (h:=fun b1=>xA (h:=ZI [_] rfl (ZqL 0 rfl (fun B2 hle2 hpm2=>?_)))))
 have hc2:=Zcs hpm2
 replace hu:=hu.mono Zc.mono hle2
 replace hf:=hf.mono Zb.mono hle2
 replace hi:=hi.mono Zi.mono hle2
 refine Zh (Za (xW Zha (h:=y1 lk9 hc2 0 (h:=xR Zve rfl (Zjj _ om2 _) (h:=?_)))))
 refine xN (h:=xM (h:=ZC (d:=10) rfl (fun g1=>?_) (fun g1=>?_)))
 try simp only [sQ,ne_eq] at g1
 refine xP (h:=xP (h:=xP (h:=xP (h:=xT (h:=xM (h:=xP (h:=xP (h:=xP (h:=xP (h:=xT (h:=xM (h:=xP (h:=?_)))))))))))))
 refine xP (h:=xP (h:=xP (h:=xT (h:=ZI [_] rfl (Ze (t:=true) rfl (fun _=>Za (xA (h:=Zj (Zt ?_)))) (fun h=>Bool.noConfusion h))))))
 exact ZK .ret (.inl rfl) [_] t1 ⟨rfl,Zk (by simp [ZcV,g1])⟩
 try simp only [sQ,ne_eq] at g1
 refine xW ZbW (h:=y1 Zio hc2 1 (h:=xR Zth rfl (ZgZ _ _ _ _ hu) (h:=xN (h:=xF (h:=xM (h:=ZC (d:=16) rfl (fun g2=>?_) (fun g2=>?_)))))))
 try simp only [sQ,ne_eq] at g2
 refine xP (h:=xP (h:=xP (h:=xP (h:=xT (h:=xM (h:=xP (h:=xP (h:=xP (h:=xP (h:=xT (h:=ZI [_] rfl (Ze (t:=true) rfl (fun _=>?_) (fun h=>Bool.noConfusion h)))))))))))))
 refine Za (xA (h:=Zj (Zt ?_)))
 exact ZK .ret (.inl rfl) [_] t1 ⟨rfl,Zk (by simp [ZcV,g1,g2])⟩
 try simp only [sQ,ne_eq] at g2
 refine xW Zb9 (h:=yL [_,_] Zdg hc2 3 (h:=xR Ztl rfl (Zg0 _ _ x.queue _ hi) (h:=xN (h:=xF (h:=xM (h:=ZC (d:=22) rfl (fun g3=>?_) (fun g3=>?_)))))))
 try simp only [sQ,ne_eq] at g3
 refine xP (h:=xP (h:=xP (h:=xP (h:=xT (h:=ZI [_] rfl (Ze (t:=true) rfl (fun _=>Za (xA (h:=Zj (Zt ?_)))) (fun h=>Bool.noConfusion h)))))))
 exact ZK .ret (.inl rfl) [_] t1 ⟨rfl,Zk (by simp [ZcV,g1,g2,g3])⟩
 try simp only [sQ,ne_eq] at g3
 refine xW Za5 (h:=y1 Zgf hc2 2 (h:=xV Tryz.underlying31 (h:=Zd8 (h:=xF (h:=ZI [_] rfl (Ze rfl (fun g4=>?_) (fun g4=>?_)))))))
 try simp only [sQ,ne_eq] at g4
 refine Za (xA (h:=Zj (Zt ?_)))
 exact ZK .ret (.inl rfl) [_] t1 ⟨rfl,Zk (by simp [ZcV];intros;omega)⟩
 try simp only [sQ,ne_eq] at g4
 refine Zg (Zf (Zh (Za (xW Za5 (h:=y1 Zgf hc2 2 (h:=xW Za5 (h:=y1 Zgf hc2 2 (h:=xV Tryz.underlying31 (h:=xU (h:=Zq (Zt1 (m:=(x.folders.length - 1)) rfl rfl rfl rfl om ?_)))))))))))
 have hsl:((x.folders.take (x.folders.length - 1)).drop 0).length=x.folders.length - 1:=by simp
 obtain ⟨hq6,q6,cp6,hv6,hr6⟩:=hf.cutE 0 (x.folders.length - 1) om om
 have hr6n:=hr6.len
 refine Zq (ZmL (a:=0) (b:=(x.folders.length - 1)) hv6 om hq6 rfl rfl Tryz.underlying31 Zcr rfl rfl ⟨_,_,rfl,by first | omega | (simp;done) | (simp;omega)⟩ ?_)
 refine xV Tryz.underlying31 (h:=xM (h:=Zm (ZO (α:=Nat) [0,1,27,35,36] (fun k=>[(37,.int .i64 k)]) [] (fun k=>[]) (fun k Bx=>Bx=B2∧k≤x.folders.length - 1∧Zp5 x.folders k) (fun k=>x.folders.length - k) 0 t1 rfl (⟨rfl,Nat.zero_le _,ZlU⟩) (fun k B7 hle7 hI=>?_))))
 obtain ⟨rfl,hk,hord⟩:=hI
 refine ZR [(0,_),(1,_),(27,_),(35,_),(36,_),(37,_)] [_] t6 rfl (Za (ZM (h:=Zh (Ze rfl (fun g5=>?_) (fun g5=>?_)))))
 try simp only [sQ,ne_eq] at g5
 refine Zg (Zf (Zh (Zm (Za (xM (h:=?_))))))
 obtain ⟨fa,hfa⟩:=Zae (xs:=((x.folders.take (x.folders.length - 1)).drop 0)) (i:=k) om
 obtain ⟨bb9,oo9,rfl⟩:=hr6.base hfa
 obtain ⟨_,⟨qg10,cg10,qm10,cm10,rfl,hg10,hm10,hb10,hb10b⟩,hc10⟩:=hr6.elem hfa
 have hg10n:=hg10.len
 have hm10n:=hm10.len
 have hm10s:=ZaT hm10
 refine xIx Tryz.underlying31 Zcr (h:=?_)
 have hfa0:x.folders[k]? = some fa:=by rw [List.drop_zero,List.getElem?_take] at hfa;split at hfa <;> simp_all
 refine yL [_,_,_,_,_] ZhP hc10 0 (h:=xAl [_,_,_,_,_] ZfG (h:=fun b11=>xA (h:=xS [_,_,_,_,_] 1 [_,_,_,_,_] Zcr (h:=ZI [_,_] rfl (Za (xW Za5 (h:=y1 Zgf hc2 2 (h:=xM (h:=xD (h:=?_))))))))))
 obtain ⟨fb,hfb⟩:=Zae (xs:=x.folders) (i:=(k+1)) om
 obtain ⟨bb13,oo13,rfl⟩:=hf.base hfb
 obtain ⟨_,⟨qg14,cg14,qm14,cm14,rfl,hg14,hm14,hb14,hb14b⟩,hc14⟩:=hf.elem hfb
 have hg14n:=hg14.len
 have hm14n:=hm14.len
 have hm14s:=ZaT hm14
 refine xIx Tryz.underlying31 Zcr (h:=yL [_,_,_,_,_] ZhP hc14 0 (h:=xAl [_,_,_,_,_] ZfG (h:=fun b15=>xS [_,_,_,_,_] 2 [_,_,_,_,_] Zcr (h:=ZI [_,_,_] rfl (Za (xL [_,_,_,_,_] ZhP 1 (h:=xW Zcv (h:=x1 lk9 2 (h:=xW Zdy (h:=x1 lk9 2 (h:=xR Zwt rfl (Zky fa _ _ _ _ fb.owner fb.name _) (h:=Zd9 (h:=?_)))))))))))))
 refine Ze rfl (fun g6=>?_) (fun g6=>?_)
 try simp only [sQ,ne_eq] at g6
 refine Za (xA (h:=Zj (ZN (Zt (Z2 (ZN (Zt ?_)))))))
 exact ZK .ret (.inl rfl) [_] t1 ⟨rfl,Zk (by simp [ZcV,Zpd hfa0 hfb ((ZjA fa fb).1 g6)])⟩
 try simp only [sQ,ne_eq] at g6
 refine Zg (Z7 (Zf (Zn (xD (h:=xM (h:=?_))))))
 exact ZU (k+1) [0] so2 ⟨rfl,oz,ZlV hord hfa0 hfb (by rw [← Bool.not_eq_false,← ZjA];omega)⟩ t6 rfl
 try simp only [sQ,ne_eq] at g5
 have ho:=Zpc (fs:=x.folders) (fun i a b h=>hord i a b oz)
 refine ZS (Zaf (ZW (ZG (Zf (Za (Zq (ZfI rfl rfl Zvd rfl (Zht hJ _ _ _ _ _ _ _ _ x _ hc2 hu hf) ?_)))))))
 intro v17 B17 hle17
 rintro rfl
 replace hu:=hu.mono Zc.mono hle17
 replace hf:=hf.mono Zb.mono hle17
 replace hi:=hi.mono Zi.mono hle17
 replace hc2:=hc2.mono hle17
 replace hr6:=hr6.mono Zb.mono hle17
 refine xM (h:=ZC (d:=57) rfl (fun g7=>?_) (fun g7=>?_))
 try simp only [sQ,ne_eq] at g7
 refine xR Zvc rfl (ZlF _ _ _ _ _ _ _ _ x _ hc2 hu hf) (h:=xT (h:=xM (h:=ZC (d:=60) rfl (fun g8=>?_) (fun g8=>?_))))
 try simp only [sQ,ne_eq] at g8
 refine xR Zvb rfl (Zj7 _ _ _ _ _ _ _ _ x _ hc2 hu hi) (h:=xT (h:=xA (h:=Zj ?_)))
 exact ZK .ret (.inl rfl) [_] t1 ⟨rfl,Zk (by simp [ZcV,g1,g2,g3,ho,g7,g8];try omega)⟩
 try simp only [sQ,ne_eq] at g8
 refine xP (h:=xF (h:=xA (h:=Zj ?_)))
 exact ZK .ret (.inl rfl) [_] t1 ⟨rfl,Zk (by simp [ZcV,g1,g2,g3,ho,g7,g8];try omega)⟩
 try simp only [sQ,ne_eq] at g7
 refine xP (h:=xF (h:=xM (h:=xP (h:=xF (h:=xA (h:=Zj ?_))))))
 exact ZK .ret (.inl rfl) [_] t1 ⟨rfl,Zk (by simp [ZcV,g7])⟩

set_option maxHeartbeats 400000 in
theorem ZoV (x:DUser) (h1:x.name.length≤140737488355328) (h2:x.pass.length≤140737488355328) (left:Int) (hl0:0≤left) (hl1:left≤1048576) (B:Kn)  : Z8 (pj J) 82 [.agg #[str x.name,str x.pass,.int .i64 x.quota],.int .i64 left] B (.int .i64 (szI left (ZcS x))):=by
 refine Zd 20 Tryz.func82 rfl rfl rfl (Nat.le_of_ble_eq_true rfl) ?_
 refine Za (xBx [_,_,_] (h:=fun b1=>xA (h:=ZI [_] rfl (Za (xM (h:=xW Zob (h:=x1 lk9 0 (h:=xVs Tryz.underlying9 (h:=xU (h:=xA (h:=Zh (Za ?_))))))))))))
 refine xM (h:=ZM (h:=Ze rfl (fun g1=>?_) (fun g1=>?_)))
 try simp only [sQ,ne_eq] at g1
 refine Za (xA (h:=Zj (Zt ?_)))
 exact ZK .ret (.inl rfl) [_] t1 ⟨ZX (by first | (unfold szI ZcS;split <;> omega)),rfl,rfl⟩
 try simp only [sQ,ne_eq] at g1
 refine Zg (Zf (Za (xM (h:=xW Zoa (h:=x1 lk9 0 (h:=xVs Tryz.underlying9 (h:=xU (h:=xA (h:=Zh (Za (xM (h:=ZM (h:=?_)))))))))))))
 refine Ze rfl (fun g2=>?_) (fun g2=>?_)
 try simp only [sQ,ne_eq] at g2
 refine Za (xA (h:=Zj (Zt ?_)))
 exact ZK .ret (.inl rfl) [_] t1 ⟨ZX (by first | (unfold szI ZcS;split <;> omega)),rfl,rfl⟩
 try simp only [sQ,ne_eq] at g2
 refine Zg (Zf (Za (xM (h:=xA (h:=Zj ?_)))))
 exact ZK .ret (.inl rfl) [_] t1 ⟨ZX (by first | (unfold szI ZcS;split <;> omega)),rfl,rfl⟩

set_option maxHeartbeats 400000 in
theorem Zm3 (x:DGrant) (h1:x.user.length≤140737488355328) (left:Int) (hl0:0≤left) (hl1:left≤1048576) (B:Kn)  : Z8 (pj J) 176 [.agg #[str x.user,.int .i64 x.rights],.int .i64 left] B (.int .i64 (szI left (Zcb x))):=by
 refine Zd 13 Tryz.func176 rfl rfl rfl (Nat.le_of_ble_eq_true rfl) ?_
 refine Za (xBx [_,_] (h:=fun b1=>xA (h:=ZI [_] rfl (Za (xM (h:=xW Zn1 (h:=x1 lk9 0 (h:=xVs Tryz.underlying9 (h:=xU (h:=xA (h:=Zh (Za ?_))))))))))))
 refine xM (h:=ZM (h:=Ze rfl (fun g1=>?_) (fun g1=>?_)))
 try simp only [sQ,ne_eq] at g1
 refine Za (xA (h:=Zj (Zt ?_)))
 exact ZK .ret (.inl rfl) [_] t1 ⟨ZX (by first | (unfold szI Zcb;split <;> omega)),rfl,rfl⟩
 try simp only [sQ,ne_eq] at g1
 refine Zg (Zf (Za (xM (h:=xA (h:=Zj ?_)))))
 exact ZK .ret (.inl rfl) [_] t1 ⟨ZX (by first | (unfold szI Zcb;split <;> omega)),rfl,rfl⟩

set_option maxHeartbeats 400000 in
theorem ZoW (x:DMail) (h1:x.text.length≤140737488355328) (left:Int) (hl0:0≤left) (hl1:left≤1048576) (B:Kn)  : Z8 (pj J) 203 [.agg #[.int .i64 x.uid,.int .i64 x.flags,str x.text],.int .i64 left] B (.int .i64 (szI left (Zc6 x))):=by
 refine Zd 13 Tryz.func203 rfl rfl rfl (Nat.le_of_ble_eq_true rfl) ?_
 refine Za (xBx [_,_,_] (h:=fun b1=>xA (h:=ZI [_] rfl (Za (xM (h:=xW Zn0 (h:=x1 lk9 0 (h:=xVs Tryz.underlying9 (h:=xU (h:=xA (h:=Zh (Za ?_))))))))))))
 refine xM (h:=ZM (h:=Ze rfl (fun g1=>?_) (fun g1=>?_)))
 try simp only [sQ,ne_eq] at g1
 refine Za (xA (h:=Zj (Zt ?_)))
 exact ZK .ret (.inl rfl) [_] t1 ⟨ZX (by first | (unfold szI Zc6;split <;> omega)),rfl,rfl⟩
 try simp only [sQ,ne_eq] at g1
 refine Zg (Zf (Za (xM (h:=xA (h:=Zj ?_)))))
 exact ZK .ret (.inl rfl) [_] t1 ⟨ZX (by first | (unfold szI Zc6;split <;> omega)),rfl,rfl⟩

set_option maxRecDepth 4000 in
set_option maxHeartbeats 400000 in
theorem ZkZ (q : Option Addr) (cp : Nat) (xs : List Str) (left : Int) (hl0 : 0 ≤ left) (hl1 : left ≤ 1048576) (B : Kn) (hx : SlB B q cp 1 Zgj xs) : Z8 (pj J) 55 [.slice q xs.length cp, .int .i64 left] B (.int .i64 (szI left (szL List.length xs))) := by
  refine Zd 28 Tryz.func55 rfl rfl rfl (Nat.le_of_ble_eq_true rfl) ?_
  have hxn := hx.len
  refine Za (xA (h:=Za (xM (h:=xM (h:=xV Tryz.underlying43 (h:=xU (h:=xA (h:=Zh (Za (xM (h:=ZM (h:=Ze rfl (fun g1 => ?_) (fun g1 => ?_)))))))))))))
  try simp only [sQ, ne_eq] at g1
  refine Za (xA (h:=Zj (Zt ?_)))
  exact ZK .ret (.inl rfl) [_] ⟨rfl, trivial⟩ ⟨ZX (ZfL (by omega)).symm, rfl, rfl⟩
  try simp only [sQ, ne_eq] at g1
  refine Zg (Zf (Zh (Za (xA (h:=Zm (ZO (α := Nat × Int) [0, 11] (fun g => [(1, .int .i64 g.2), (5, .int .i64 g.1)]) [] (fun g => []) (fun g Bx => Bx = B ∧ g.1 ≤ xs.length ∧ g.2 = left - xs.length - ((xs.take g.1).map List.length).sum ∧ 0 ≤ g.2) (fun g => xs.length - g.1) (0, left - ↑xs.length) ⟨rfl, rfl, trivial⟩ rfl (⟨rfl, Nat.zero_le _, by simp, g1⟩) (fun g B1 hle1 hI => ?_)))))))
  obtain ⟨rfl, hk, hs, hl⟩ := hI
  refine ZR [(0, _), (1, _), (5, _), (11, _)] [] ⟨rfl, rfl, rfl, rfl, trivial⟩ rfl (Zh (Za (xM (h:=xM (h:=xV Tryz.underlying43 (h:=ZM (h:=Ze rfl (fun g2 => ?_) (fun g2 => ?_))))))))
  try simp only [sQ, ne_eq] at g2
  refine Zg (Zf (Zh (Zm (Za (xM (h:=xM (h:=xM (h:=?_))))))))
  obtain ⟨z, hz⟩ := Zae (xs := xs) (i := g.1) (by first | omega | (simp; done) | (simp; omega))
  obtain ⟨bb3, oo3, rfl⟩ := hx.base hz
  obtain ⟨_, ⟨rfl, hb4⟩, hc4⟩ := hx.elem hz
  refine xIx Tryz.underlying43 sz9 (h:=y1 lk9 hc4 0 (h:=xVs Tryz.underlying9 (h:=xU (h:=xA (h:=Za (xM (h:=ZM (h:=Ze rfl (fun g3 => ?_) (fun g3 => ?_)))))))))
  try simp only [sQ, ne_eq] at g3
  refine Za (xA (h:=Zj (ZN (Zt (Z2 (ZN (Zt ?_)))))))
  exact ZK .ret (.inl rfl) [_] ⟨rfl, trivial⟩ ⟨ZX (ZfJ hz hs (by omega)).symm, rfl, rfl⟩
  try simp only [sQ, ne_eq] at g3
  refine Zg (Z7 (Zf (Zn (xM (h:=xD (h:=xA (h:=?_)))))))
  exact ZU (g.1 + 1, g.2 - z.length) [] (by first | omega | (simp only []; omega)) ⟨rfl, by simp only []; omega, by rw [ZdK _ hz, hs]; omega, g3⟩ ⟨rfl, rfl, rfl, rfl, trivial⟩ rfl
  try simp only [sQ, ne_eq] at g2
  refine ZS (Zaf (ZW (ZG (Zf (Za (xM (h:=xA (h:=Zj ?_))))))))
  exact ZK .ret (.inl rfl) [_] ⟨rfl, trivial⟩ ⟨ZX (ZfK hs hl (by omega)).symm, rfl, rfl⟩

set_option maxRecDepth 4000 in
set_option maxHeartbeats 400000 in
theorem ZmZ (q : Option Addr) (cp : Nat) (xs : List DUser) (left : Int) (hl0 : 0 ≤ left) (hl1 : left ≤ 1048576) (B : Kn) (hx : SlB B q cp 3 Zhw xs) : Z8 (pj J) 27 [.slice q xs.length cp, .int .i64 left] B (.int .i64 (szI left (szL ZcS xs))) := by
  refine Zd 27 Tryz.func27 rfl rfl rfl (Nat.le_of_ble_eq_true rfl) ?_
  have hxn := hx.len
  refine Za (xA (h:=Za (xM (h:=xM (h:=xV Tryz.underlying22 (h:=xU (h:=xA (h:=Zh (Za (xM (h:=ZM (h:=Ze rfl (fun g1 => ?_) (fun g1 => ?_)))))))))))))
  try simp only [sQ, ne_eq] at g1
  refine Za (xA (h:=Zj (Zt ?_)))
  exact ZK .ret (.inl rfl) [_] ⟨rfl, trivial⟩ ⟨ZX (ZfL (by omega)).symm, rfl, rfl⟩
  try simp only [sQ, ne_eq] at g1
  refine Zg (Zf (Zh (Za (xA (h:=Zm (ZO (α := Nat × Int) [0, 11] (fun g => [(1, .int .i64 g.2), (5, .int .i64 g.1)]) [] (fun g => []) (fun g Bx => Bx = B ∧ g.1 ≤ xs.length ∧ g.2 = left - xs.length - ((xs.take g.1).map ZcS).sum ∧ 0 ≤ g.2) (fun g => xs.length - g.1) (0, left - ↑xs.length) ⟨rfl, rfl, trivial⟩ rfl (⟨rfl, Nat.zero_le _, by simp, g1⟩) (fun g B1 hle1 hI => ?_)))))))
  obtain ⟨rfl, hk, hs, hl⟩ := hI
  refine ZR [(0, _), (1, _), (5, _), (11, _)] [] ⟨rfl, rfl, rfl, rfl, trivial⟩ rfl (Zh (Za (xM (h:=xM (h:=xV Tryz.underlying22 (h:=ZM (h:=Ze rfl (fun g2 => ?_) (fun g2 => ?_))))))))
  try simp only [sQ, ne_eq] at g2
  refine Zg (Zf (Zh (Zm (Za (xM (h:=xM (h:=?_)))))))
  obtain ⟨z, hz⟩ := Zae (xs := xs) (i := g.1) (by first | omega | (simp; done) | (simp; omega))
  obtain ⟨bb3, oo3, rfl⟩ := hx.base hz
  obtain ⟨_, ⟨rfl, hb4, hb4b⟩, hc4⟩ := hx.elem hz
  refine xIx Tryz.underlying22 ZsE (h:=yL [_, _, _] ZsX hc4 0 (h:=xM (h:=xR Zws rfl (ZoV z (by first | omega | (simp; done) | (simp; omega)) (by first | omega | (simp; done) | (simp; omega)) g.2 (by first | omega | (simp; done) | (simp; omega)) (by first | omega | (simp; done) | (simp; omega)) _) (h:=?_))))
  refine xA (h:=Za (xM (h:=ZM (h:=Ze rfl (fun g3 => ?_) (fun g3 => ?_)))))
  try simp only [sQ, ne_eq] at g3
  refine Za (xA (h:=Zj (ZN (Zt (Z2 (ZN (Zt ?_)))))))
  exact ZK .ret (.inl rfl) [_] ⟨rfl, trivial⟩ ⟨ZX (ZfJ hz hs ((ZbZ hl).1 g3)).symm, rfl, rfl⟩
  try simp only [sQ, ne_eq] at g3
  refine Zg (Z7 (Zf (Zn (xM (h:=xD (h:=xA (h:=?_)))))))
  exact ZU (g.1 + 1, szI g.2 (ZcS z)) [] (by first | omega | (simp only []; omega)) ⟨rfl, by simp only []; omega, by have := (ZbM hl g3).1; rw [ZdK _ hz]; simp only []; omega, g3⟩ ⟨rfl, rfl, rfl, rfl, trivial⟩ rfl
  try simp only [sQ, ne_eq] at g2
  refine ZS (Zaf (ZW (ZG (Zf (Za (xM (h:=xA (h:=Zj ?_))))))))
  exact ZK .ret (.inl rfl) [_] ⟨rfl, trivial⟩ ⟨ZX (ZfK hs hl (by omega)).symm, rfl, rfl⟩

set_option maxRecDepth 4000 in
set_option maxHeartbeats 400000 in
theorem ZlK (q : Option Addr) (cp : Nat) (xs : List DGrant) (left : Int) (hl0 : 0 ≤ left) (hl1 : left ≤ 1048576) (B : Kn) (hx : SlB B q cp 2 ZeU xs) : Z8 (pj J) 138 [.slice q xs.length cp, .int .i64 left] B (.int .i64 (szI left (szL Zcb xs))) := by
  refine Zd 27 Tryz.func138 rfl rfl rfl (Nat.le_of_ble_eq_true rfl) ?_
  have hxn := hx.len
  refine Za (xA (h:=Za (xM (h:=xM (h:=xV Tryz.underlying114 (h:=xU (h:=xA (h:=Zh (Za (xM (h:=ZM (h:=Ze rfl (fun g1 => ?_) (fun g1 => ?_)))))))))))))
  try simp only [sQ, ne_eq] at g1
  refine Za (xA (h:=Zj (Zt ?_)))
  exact ZK .ret (.inl rfl) [_] ⟨rfl, trivial⟩ ⟨ZX (ZfL (by omega)).symm, rfl, rfl⟩
  try simp only [sQ, ne_eq] at g1
  refine Zg (Zf (Zh (Za (xA (h:=Zm (ZO (α := Nat × Int) [0, 11] (fun g => [(1, .int .i64 g.2), (5, .int .i64 g.1)]) [] (fun g => []) (fun g Bx => Bx = B ∧ g.1 ≤ xs.length ∧ g.2 = left - xs.length - ((xs.take g.1).map Zcb).sum ∧ 0 ≤ g.2) (fun g => xs.length - g.1) (0, left - ↑xs.length) ⟨rfl, rfl, trivial⟩ rfl (⟨rfl, Nat.zero_le _, by simp, g1⟩) (fun g B1 hle1 hI => ?_)))))))
  obtain ⟨rfl, hk, hs, hl⟩ := hI
  refine ZR [(0, _), (1, _), (5, _), (11, _)] [] ⟨rfl, rfl, rfl, rfl, trivial⟩ rfl (Zh (Za (xM (h:=xM (h:=xV Tryz.underlying114 (h:=ZM (h:=Ze rfl (fun g2 => ?_) (fun g2 => ?_))))))))
  try simp only [sQ, ne_eq] at g2
  refine Zg (Zf (Zh (Zm (Za (xM (h:=xM (h:=?_)))))))
  obtain ⟨z, hz⟩ := Zae (xs := xs) (i := g.1) (by first | omega | (simp; done) | (simp; omega))
  obtain ⟨bb3, oo3, rfl⟩ := hx.base hz
  obtain ⟨_, ⟨rfl, hb4⟩, hc4⟩ := hx.elem hz
  refine xIx Tryz.underlying114 ZsA (h:=yL [_, _] ZsR hc4 0 (h:=xM (h:=xR ZuW rfl (Zm3 z (by first | omega | (simp; done) | (simp; omega)) g.2 (by first | omega | (simp; done) | (simp; omega)) (by first | omega | (simp; done) | (simp; omega)) _) (h:=?_))))
  refine xA (h:=Za (xM (h:=ZM (h:=Ze rfl (fun g3 => ?_) (fun g3 => ?_)))))
  try simp only [sQ, ne_eq] at g3
  refine Za (xA (h:=Zj (ZN (Zt (Z2 (ZN (Zt ?_)))))))
  exact ZK .ret (.inl rfl) [_] ⟨rfl, trivial⟩ ⟨ZX (ZfJ hz hs ((ZbZ hl).1 g3)).symm, rfl, rfl⟩
  try simp only [sQ, ne_eq] at g3
  refine Zg (Z7 (Zf (Zn (xM (h:=xD (h:=xA (h:=?_)))))))
  exact ZU (g.1 + 1, szI g.2 (Zcb z)) [] (by first | omega | (simp only []; omega)) ⟨rfl, by simp only []; omega, by have := (ZbM hl g3).1; rw [ZdK _ hz]; simp only []; omega, g3⟩ ⟨rfl, rfl, rfl, rfl, trivial⟩ rfl
  try simp only [sQ, ne_eq] at g2
  refine ZS (Zaf (ZW (ZG (Zf (Za (xM (h:=xA (h:=Zj ?_))))))))
  exact ZK .ret (.inl rfl) [_] ⟨rfl, trivial⟩ ⟨ZX (ZfK hs hl (by omega)).symm, rfl, rfl⟩

set_option maxRecDepth 4000 in
set_option maxHeartbeats 400000 in
theorem Zm1 (q : Option Addr) (cp : Nat) (xs : List DMail) (left : Int) (hl0 : 0 ≤ left) (hl1 : left ≤ 1048576) (B : Kn) (hx : SlB B q cp 3 Zf5 xs) : Z8 (pj J) 177 [.slice q xs.length cp, .int .i64 left] B (.int .i64 (szI left (szL Zc6 xs))) := by
  refine Zd 27 Tryz.func177 rfl rfl rfl (Nat.le_of_ble_eq_true rfl) ?_
  have hxn := hx.len
  refine Za (xA (h:=Za (xM (h:=xM (h:=xV Tryz.underlying115 (h:=xU (h:=xA (h:=Zh (Za (xM (h:=ZM (h:=Ze rfl (fun g1 => ?_) (fun g1 => ?_)))))))))))))
  try simp only [sQ, ne_eq] at g1
  refine Za (xA (h:=Zj (Zt ?_)))
  exact ZK .ret (.inl rfl) [_] ⟨rfl, trivial⟩ ⟨ZX (ZfL (by omega)).symm, rfl, rfl⟩
  try simp only [sQ, ne_eq] at g1
  refine Zg (Zf (Zh (Za (xA (h:=Zm (ZO (α := Nat × Int) [0, 11] (fun g => [(1, .int .i64 g.2), (5, .int .i64 g.1)]) [] (fun g => []) (fun g Bx => Bx = B ∧ g.1 ≤ xs.length ∧ g.2 = left - xs.length - ((xs.take g.1).map Zc6).sum ∧ 0 ≤ g.2) (fun g => xs.length - g.1) (0, left - ↑xs.length) ⟨rfl, rfl, trivial⟩ rfl (⟨rfl, Nat.zero_le _, by simp, g1⟩) (fun g B1 hle1 hI => ?_)))))))
  obtain ⟨rfl, hk, hs, hl⟩ := hI
  refine ZR [(0, _), (1, _), (5, _), (11, _)] [] ⟨rfl, rfl, rfl, rfl, trivial⟩ rfl (Zh (Za (xM (h:=xM (h:=xV Tryz.underlying115 (h:=ZM (h:=Ze rfl (fun g2 => ?_) (fun g2 => ?_))))))))
  try simp only [sQ, ne_eq] at g2
  refine Zg (Zf (Zh (Zm (Za (xM (h:=xM (h:=?_)))))))
  obtain ⟨z, hz⟩ := Zae (xs := xs) (i := g.1) (by first | omega | (simp; done) | (simp; omega))
  obtain ⟨bb3, oo3, rfl⟩ := hx.base hz
  obtain ⟨_, ⟨rfl, hb4⟩, hc4⟩ := hx.elem hz
  refine xIx Tryz.underlying115 Zsy (h:=yL [_, _, _] ZsP hc4 0 (h:=xM (h:=xR ZuD rfl (ZoW z (by first | omega | (simp; done) | (simp; omega)) g.2 (by first | omega | (simp; done) | (simp; omega)) (by first | omega | (simp; done) | (simp; omega)) _) (h:=?_))))
  refine xA (h:=Za (xM (h:=ZM (h:=Ze rfl (fun g3 => ?_) (fun g3 => ?_)))))
  try simp only [sQ, ne_eq] at g3
  refine Za (xA (h:=Zj (ZN (Zt (Z2 (ZN (Zt ?_)))))))
  exact ZK .ret (.inl rfl) [_] ⟨rfl, trivial⟩ ⟨ZX (ZfJ hz hs ((ZbZ hl).1 g3)).symm, rfl, rfl⟩
  try simp only [sQ, ne_eq] at g3
  refine Zg (Z7 (Zf (Zn (xM (h:=xD (h:=xA (h:=?_)))))))
  exact ZU (g.1 + 1, szI g.2 (Zc6 z)) [] (by first | omega | (simp only []; omega)) ⟨rfl, by simp only []; omega, by have := (ZbM hl g3).1; rw [ZdK _ hz]; simp only []; omega, g3⟩ ⟨rfl, rfl, rfl, rfl, trivial⟩ rfl
  try simp only [sQ, ne_eq] at g2
  refine ZS (Zaf (ZW (ZG (Zf (Za (xM (h:=xA (h:=Zj ?_))))))))
  exact ZK .ret (.inl rfl) [_] ⟨rfl, trivial⟩ ⟨ZX (ZfK hs hl (by omega)).symm, rfl, rfl⟩

set_option maxHeartbeats 400000 in
theorem ZoX (q:Option Addr) (cp:Nat) (x:DItem) (h1:x.fr.length≤140737488355328) (h2:x.text.length≤140737488355328) (left:Int) (hl0:0≤left) (hl1:left≤1048576) (B:Kn) (hx:SlB B q cp 1 Zgj x.left):Z8 (pj J) 140 [.agg #[.int .i64 x.id,str x.fr,str x.text,.slice q x.left.length cp],.int .i64 left] B (.int .i64 (szI left (Zbq x))):=by
 refine Zd 26 Tryz.func140 rfl rfl rfl (Nat.le_of_ble_eq_true rfl) ?_
 have hxn:=hx.len
 refine Za (xBx [_,_,_,_] (h:=fun b1=>xA (h:=ZI [_] rfl (Za (xM (h:=xW Zn4 (h:=x1 lk9 0 (h:=xVs Tryz.underlying9 (h:=xU (h:=xA (h:=Zh (Za ?_))))))))))))
 refine xM (h:=ZM (h:=Ze rfl (fun g1=>?_) (fun g1=>?_)))
 try simp only [sQ,ne_eq] at g1
 refine Za (xA (h:=Zj (Zt ?_)))
 exact ZK .ret (.inl rfl) [_] t1 ⟨ZX (by rw [Zbk (by unfold Zbq;omega)]),rfl,rfl⟩
 try simp only [sQ,ne_eq] at g1
 refine Zg (Zf (Za (xM (h:=xW Zn3 (h:=x1 lk9 0 (h:=xVs Tryz.underlying9 (h:=xU (h:=xA (h:=Zh (Za (xM (h:=ZM (h:=?_)))))))))))))
 refine Ze rfl (fun g2=>?_) (fun g2=>?_)
 try simp only [sQ,ne_eq] at g2
 refine Za (xA (h:=Zj (Zt ?_)))
 exact ZK .ret (.inl rfl) [_] t1 ⟨ZX (by rw [Zbk (by unfold Zbq;omega)]),rfl,rfl⟩
 try simp only [sQ,ne_eq] at g2
 refine Zg (Zf (Za (xW Zn2 (h:=x1 Zgs 0 (h:=xM (h:=?_))))))
 have hq2:=ZkZ (J:=J) _ _ x.left ((left - ↑x.fr.length) - ↑x.text.length) om om _ hx
 refine xR Zv3 rfl hq2 (h:=xA (h:=Zh (Za (xM (h:=ZM (h:=Ze rfl (fun g3=>?_) (fun g3=>?_)))))))
 try simp only [sQ,ne_eq] at g3
 have g3x:=(ZbZ oz).1 g3
 refine Za (xA (h:=Zj (Zt ?_)))
 exact ZK .ret (.inl rfl) [_] t1 ⟨ZX (by rw [Zbk (by unfold Zbq ZbY;omega)]),rfl,rfl⟩
 try simp only [sQ,ne_eq] at g3
 have g3x:=ZbM oz g3
 refine Zg (Zf (Za (xM (h:=xA (h:=Zj ?_)))))
 exact ZK .ret (.inl rfl) [_] t1 ⟨ZX (by (try dsimp only at *);rw [ZiW (left:=left) (s:=Zbq x) (by unfold Zbq ZbY;omega)];unfold Zbq ZbY;omega),rfl,rfl⟩

set_option maxRecDepth 4000 in
set_option maxHeartbeats 400000 in
theorem Zm2 (q : Option Addr) (cp : Nat) (xs : List DItem) (left : Int) (hl0 : 0 ≤ left) (hl1 : left ≤ 1048576) (B : Kn) (hx : SlB B q cp 4 Zf6 xs) : Z8 (pj J) 84 [.slice q xs.length cp, .int .i64 left] B (.int .i64 (szI left (szL Zbq xs))) := by
  refine Zd 27 Tryz.func84 rfl rfl rfl (Nat.le_of_ble_eq_true rfl) ?_
  have hxn := hx.len
  refine Za (xA (h:=Za (xM (h:=xM (h:=xV Tryz.underlying24 (h:=xU (h:=xA (h:=Zh (Za (xM (h:=ZM (h:=Ze rfl (fun g1 => ?_) (fun g1 => ?_)))))))))))))
  try simp only [sQ, ne_eq] at g1
  refine Za (xA (h:=Zj (Zt ?_)))
  exact ZK .ret (.inl rfl) [_] ⟨rfl, trivial⟩ ⟨ZX (ZfL (by omega)).symm, rfl, rfl⟩
  try simp only [sQ, ne_eq] at g1
  refine Zg (Zf (Zh (Za (xA (h:=Zm (ZO (α := Nat × Int) [0, 11] (fun g => [(1, .int .i64 g.2), (5, .int .i64 g.1)]) [] (fun g => []) (fun g Bx => Bx = B ∧ g.1 ≤ xs.length ∧ g.2 = left - xs.length - ((xs.take g.1).map Zbq).sum ∧ 0 ≤ g.2) (fun g => xs.length - g.1) (0, left - ↑xs.length) ⟨rfl, rfl, trivial⟩ rfl (⟨rfl, Nat.zero_le _, by simp, g1⟩) (fun g B1 hle1 hI => ?_)))))))
  obtain ⟨rfl, hk, hs, hl⟩ := hI
  refine ZR [(0, _), (1, _), (5, _), (11, _)] [] ⟨rfl, rfl, rfl, rfl, trivial⟩ rfl (Zh (Za (xM (h:=xM (h:=xV Tryz.underlying24 (h:=ZM (h:=Ze rfl (fun g2 => ?_) (fun g2 => ?_))))))))
  try simp only [sQ, ne_eq] at g2
  refine Zg (Zf (Zh (Zm (Za (xM (h:=xM (h:=?_)))))))
  obtain ⟨z, hz⟩ := Zae (xs := xs) (i := g.1) (by first | omega | (simp; done) | (simp; omega))
  obtain ⟨bb3, oo3, rfl⟩ := hx.base hz
  obtain ⟨_, ⟨qi4, ci4, rfl, hi4, hb4, hb4b⟩, hc4⟩ := hx.elem hz
  have hi4n := hi4.len
  refine xIx Tryz.underlying24 ZsB (h:=yL [_, _, _, _] ZsS hc4 0 (h:=xM (h:=?_)))
  have hq5 := ZoX (J := J) _ _ z (by first | omega | (simp; done) | (simp; omega)) (by first | omega | (simp; done) | (simp; omega)) g.2 (by first | omega | (simp; done) | (simp; omega)) (by first | omega | (simp; done) | (simp; omega)) _ hi4
  refine xR Zvm rfl hq5 (h:=xA (h:=Za (xM (h:=ZM (h:=Ze rfl (fun g3 => ?_) (fun g3 => ?_))))))
  try simp only [sQ, ne_eq] at g3
  refine Za (xA (h:=Zj (ZN (Zt (Z2 (ZN (Zt ?_)))))))
  exact ZK .ret (.inl rfl) [_] ⟨rfl, trivial⟩ ⟨ZX (ZfJ hz hs ((ZbZ hl).1 g3)).symm, rfl, rfl⟩
  try simp only [sQ, ne_eq] at g3
  refine Zg (Z7 (Zf (Zn (xM (h:=xD (h:=xA (h:=?_)))))))
  exact ZU (g.1 + 1, szI g.2 (Zbq z)) [] (by first | omega | (simp only []; omega)) ⟨rfl, by simp only []; omega, by have := (ZbM hl g3).1; rw [ZdK _ hz]; simp only []; omega, g3⟩ ⟨rfl, rfl, rfl, rfl, trivial⟩ rfl
  try simp only [sQ, ne_eq] at g2
  refine ZS (Zaf (ZW (ZG (Zf (Za (xM (h:=xA (h:=Zj ?_))))))))
  exact ZK .ret (.inl rfl) [_] ⟨rfl, trivial⟩ ⟨ZX (ZfK hs hl (by omega)).symm, rfl, rfl⟩

set_option maxHeartbeats 400000 in
theorem ZqY (q:Option Addr) (cp:Nat) (x:DBox) (left:Int) (hl0:0≤left) (hl1:left≤1048576) (B:Kn) (hx:SlB B q cp 3 Zf5 x.mail):Z8 (pj J) 139 [.agg #[.int .i64 x.next,.slice q x.mail.length cp],.int .i64 left] B (.int .i64 (szI left (szL Zc6 x.mail))):=by
 refine Zd 12 Tryz.func139 rfl rfl rfl (Nat.le_of_ble_eq_true rfl) ?_
 have hxn:=hx.len
 refine Za (xBx [_,_] (h:=fun b1=>xA (h:=ZI [_] rfl (Za (xW Zn9 (h:=x1 ZsV 0 (h:=xM (h:=?_))))))))
 have hq2:=Zm1 (J:=J) _ _ x.mail left om om _ hx
 refine xR ZuV rfl hq2 (h:=xA (h:=Zh (Za (xM (h:=ZM (h:=Ze rfl (fun g1=>?_) (fun g1=>?_)))))))
 try simp only [sQ,ne_eq] at g1
 have g1x:=(ZbZ oz).1 g1
 refine Za (xA (h:=Zj (Zt ?_)))
 exact ZK .ret (.inl rfl) [_] t1 ⟨ZX (by rw [Zbk g1x]),rfl,rfl⟩
 try simp only [sQ,ne_eq] at g1
 refine Zg (Zf (Za (xM (h:=xA (h:=Zj ?_)))))
 exact ZK .ret (.inl rfl) [_] t1 ⟨rfl,rfl,rfl⟩

set_option maxHeartbeats 400000 in
theorem Zm0 (q:Option Addr) (cp:Nat) (x:DQueue) (left:Int) (hl0:0≤left) (hl1:left≤1048576) (B:Kn) (hx:SlB B q cp 4 Zf6 x.items):Z8 (pj J) 29 [.agg #[.int .i64 x.next,.slice q x.items.length cp],.int .i64 left] B (.int .i64 (szI left (szL Zbq x.items))):=by
 refine Zd 12 Tryz.func29 rfl rfl rfl (Nat.le_of_ble_eq_true rfl) ?_
 have hxn:=hx.len
 refine Za (xBx [_,_] (h:=fun b1=>xA (h:=ZI [_] rfl (Za (xW ZqB (h:=x1 ZvV 0 (h:=xM (h:=?_))))))))
 have hq2:=Zm2 (J:=J) _ _ x.items left om om _ hx
 refine xR Zwq rfl hq2 (h:=xA (h:=Zh (Za (xM (h:=ZM (h:=Ze rfl (fun g1=>?_) (fun g1=>?_)))))))
 try simp only [sQ,ne_eq] at g1
 have g1x:=(ZbZ oz).1 g1
 refine Za (xA (h:=Zj (Zt ?_)))
 exact ZK .ret (.inl rfl) [_] t1 ⟨ZX (by rw [Zbk g1x]),rfl,rfl⟩
 try simp only [sQ,ne_eq] at g1
 refine Zg (Zf (Za (xM (h:=xA (h:=Zj ?_)))))
 exact ZK .ret (.inl rfl) [_] t1 ⟨rfl,rfl,rfl⟩

set_option maxHeartbeats 400000 in
theorem ZlL (qa qb:Option Addr) (ca cb:Nat) (x:DFolder) (h1:x.owner.length≤140737488355328) (h2:x.name.length≤140737488355328) (left:Int) (hl0:0≤left) (hl1:left≤1048576) (B:Kn) (hx:SlB B qa ca 2 ZeU x.grants) (hy:SlB B qb cb 3 Zf5 x.mail):Z8 (pj J) 83 [.agg #[str x.owner,str x.name,.slice qa x.grants.length ca,.int .i64 x.next,.slice qb x.mail.length cb],.int .i64 left] B (.int .i64 (szI left (ZaC x))):=by
 refine Zd 32 Tryz.func83 rfl rfl rfl (Nat.le_of_ble_eq_true rfl) ?_
 have hxn:=hx.len
 have hyn:=hy.len
 refine Za (xBx [_,_,_,_,_] (h:=fun b1=>xA (h:=ZI [_] rfl (Za (xM (h:=xW Zn8 (h:=x1 lk9 0 (h:=xVs Tryz.underlying9 (h:=xU (h:=xA (h:=Zh (Za ?_))))))))))))
 refine xM (h:=ZM (h:=Ze rfl (fun g1=>?_) (fun g1=>?_)))
 try simp only [sQ,ne_eq] at g1
 refine Za (xA (h:=Zj (Zt ?_)))
 exact ZK .ret (.inl rfl) [_] t1 ⟨ZX (by rw [Zbk (by unfold ZaC;omega)]),rfl,rfl⟩
 try simp only [sQ,ne_eq] at g1
 refine Zg (Zf (Za (xM (h:=xW Zn7 (h:=x1 lk9 0 (h:=xVs Tryz.underlying9 (h:=xU (h:=xA (h:=Zh (Za (xM (h:=ZM (h:=?_)))))))))))))
 refine Ze rfl (fun g2=>?_) (fun g2=>?_)
 try simp only [sQ,ne_eq] at g2
 refine Za (xA (h:=Zj (Zt ?_)))
 exact ZK .ret (.inl rfl) [_] t1 ⟨ZX (by rw [Zbk (by unfold ZaC;omega)]),rfl,rfl⟩
 try simp only [sQ,ne_eq] at g2
 refine Zg (Zf (Za (xW Zn6 (h:=x1 ZsW 0 (h:=xM (h:=?_))))))
 have hq2:=ZlK (J:=J) _ _ x.grants ((left - ↑x.owner.length) - ↑x.name.length) om om _ hx
 refine xR Zvo rfl hq2 (h:=xA (h:=Zh (Za (xM (h:=ZM (h:=Ze rfl (fun g3=>?_) (fun g3=>?_)))))))
 try simp only [sQ,ne_eq] at g3
 have g3x:=(ZbZ oz).1 g3
 refine Za (xA (h:=Zj (Zt ?_)))
 exact ZK .ret (.inl rfl) [_] t1 ⟨ZX (by rw [Zbk (by unfold ZaC;omega)]),rfl,rfl⟩
 try simp only [sQ,ne_eq] at g3
 have g3x:=ZbM oz g3
 refine Zg (Zf (Za (xW Zn5 (h:=xL [_,_] ZsU 0 (h:=xM (h:=?_))))))
 have hq3:=ZqY (J:=J) _ _ (⟨x.next,x.mail⟩:DBox) (szI ((left - ↑x.owner.length) - ↑x.name.length) (szL Zcb x.grants)) om om _ hy
 refine xR Zvn rfl hq3 (h:=xA (h:=Zh (Za (xM (h:=ZM (h:=Ze rfl (fun g4=>?_) (fun g4=>?_)))))))
 try simp only [sQ,ne_eq] at g4
 have g4x:=(ZbZ oz).1 g4
 refine Za (xA (h:=Zj (Zt ?_)))
 exact ZK .ret (.inl rfl) [_] t1 ⟨ZX (by rw [Zbk (by unfold ZaC;omega)]),rfl,rfl⟩
 try simp only [sQ,ne_eq] at g4
 have g4x:=ZbM oz g4
 refine Zg (Zf (Za (xM (h:=xA (h:=Zj ?_)))))
 exact ZK .ret (.inl rfl) [_] t1 ⟨ZX (by (try dsimp only at *);rw [ZiW (left:=left) (s:=ZaC x) (by unfold ZaC;omega)];unfold ZaC;omega),rfl,rfl⟩

set_option maxRecDepth 4000 in
set_option maxHeartbeats 400000 in
theorem ZjX (q : Option Addr) (cp : Nat) (xs : List DFolder) (left : Int) (hl0 : 0 ≤ left) (hl1 : left ≤ 1048576) (B : Kn) (hx : SlB B q cp 5 Zdk xs) : Z8 (pj J) 28 [.slice q xs.length cp, .int .i64 left] B (.int .i64 (szI left (szL ZaC xs))) := by
  refine Zd 27 Tryz.func28 rfl rfl rfl (Nat.le_of_ble_eq_true rfl) ?_
  have hxn := hx.len
  refine Za (xA (h:=Za (xM (h:=xM (h:=xV Tryz.underlying23 (h:=xU (h:=xA (h:=Zh (Za (xM (h:=ZM (h:=Ze rfl (fun g1 => ?_) (fun g1 => ?_)))))))))))))
  try simp only [sQ, ne_eq] at g1
  refine Za (xA (h:=Zj (Zt ?_)))
  exact ZK .ret (.inl rfl) [_] ⟨rfl, trivial⟩ ⟨ZX (ZfL (by omega)).symm, rfl, rfl⟩
  try simp only [sQ, ne_eq] at g1
  refine Zg (Zf (Zh (Za (xA (h:=Zm (ZO (α := Nat × Int) [0, 11] (fun g => [(1, .int .i64 g.2), (5, .int .i64 g.1)]) [] (fun g => []) (fun g Bx => Bx = B ∧ g.1 ≤ xs.length ∧ g.2 = left - xs.length - ((xs.take g.1).map ZaC).sum ∧ 0 ≤ g.2) (fun g => xs.length - g.1) (0, left - ↑xs.length) ⟨rfl, rfl, trivial⟩ rfl (⟨rfl, Nat.zero_le _, by simp, g1⟩) (fun g B1 hle1 hI => ?_)))))))
  obtain ⟨rfl, hk, hs, hl⟩ := hI
  refine ZR [(0, _), (1, _), (5, _), (11, _)] [] ⟨rfl, rfl, rfl, rfl, trivial⟩ rfl (Zh (Za (xM (h:=xM (h:=xV Tryz.underlying23 (h:=ZM (h:=Ze rfl (fun g2 => ?_) (fun g2 => ?_))))))))
  try simp only [sQ, ne_eq] at g2
  refine Zg (Zf (Zh (Zm (Za (xM (h:=xM (h:=?_)))))))
  obtain ⟨z, hz⟩ := Zae (xs := xs) (i := g.1) (by first | omega | (simp; done) | (simp; omega))
  obtain ⟨bb3, oo3, rfl⟩ := hx.base hz
  obtain ⟨_, ⟨qg4, cg4, qm4, cm4, rfl, hg4, hm4, hb4, hb4b⟩, hc4⟩ := hx.elem hz
  have hg4n := hg4.len
  have hm4n := hm4.len
  refine xIx Tryz.underlying23 ZsD (h:=yL [_, _, _, _, _] ZsT hc4 0 (h:=xM (h:=?_)))
  have hq5 := ZlL (J := J) _ _ _ _ z (by first | omega | (simp; done) | (simp; omega)) (by first | omega | (simp; done) | (simp; omega)) g.2 (by first | omega | (simp; done) | (simp; omega)) (by first | omega | (simp; done) | (simp; omega)) _ hg4 hm4
  refine xR Zwr rfl hq5 (h:=xA (h:=Za (xM (h:=ZM (h:=Ze rfl (fun g3 => ?_) (fun g3 => ?_))))))
  try simp only [sQ, ne_eq] at g3
  refine Za (xA (h:=Zj (ZN (Zt (Z2 (ZN (Zt ?_)))))))
  exact ZK .ret (.inl rfl) [_] ⟨rfl, trivial⟩ ⟨ZX (ZfJ hz hs ((ZbZ hl).1 g3)).symm, rfl, rfl⟩
  try simp only [sQ, ne_eq] at g3
  refine Zg (Z7 (Zf (Zn (xM (h:=xD (h:=xA (h:=?_)))))))
  exact ZU (g.1 + 1, szI g.2 (ZaC z)) [] (by first | omega | (simp only []; omega)) ⟨rfl, by simp only []; omega, by have := (ZbM hl g3).1; rw [ZdK _ hz]; simp only []; omega, g3⟩ ⟨rfl, rfl, rfl, rfl, trivial⟩ rfl
  try simp only [sQ, ne_eq] at g2
  refine ZS (Zaf (ZW (ZG (Zf (Za (xM (h:=xA (h:=Zj ?_))))))))
  exact ZK .ret (.inl rfl) [_] ⟨rfl, trivial⟩ ⟨ZX (ZfK hs hl (by omega)).symm, rfl, rfl⟩

set_option maxHeartbeats 400000 in
theorem ZoY (q1 q2 q3:Option Addr) (c1 c2 c3:Nat) (x:DHost) (hd:x.domain.length≤140737488355328) (left:Int) (hl0:0≤left) (hl1:left≤1048576) (B:Kn) (hu:SlB B q1 c1 3 Zhw x.users) (hf:SlB B q2 c2 5 Zdk x.folders) (hi:SlB B q3 c3 4 Zf6 x.queue.items):Z8 (pj J) 8 [.agg #[str x.domain,.slice q1 x.users.length c1,.slice q2 x.folders.length c2,.int .i64 x.queue.next,.slice q3 x.queue.items.length c3],.int .i64 left] B (.int .i64 (szI left (ZcC x))):=by
 refine Zd 31 Tryz.func8 rfl rfl rfl (Nat.le_of_ble_eq_true rfl) ?_
 have hun:=hu.len
 have hfn:=hf.len
 have hin:=hi.len
 refine Za (xBx [_,_,_,_,_] (h:=fun b1=>xA (h:=ZI [_] rfl (Za (xM (h:=xW ZqA (h:=x1 lk9 0 (h:=xVs Tryz.underlying9 (h:=xU (h:=xA (h:=Zh (Za ?_))))))))))))
 refine xM (h:=ZM (h:=Ze rfl (fun g1=>?_) (fun g1=>?_)))
 try simp only [sQ,ne_eq] at g1
 refine Za (xA (h:=Zj (Zt ?_)))
 exact ZK .ret (.inl rfl) [_] t1 ⟨ZX (by rw [Zbk (by unfold ZcC;omega)]),rfl,rfl⟩
 try simp only [sQ,ne_eq] at g1
 refine Zg (Zf (Za (xW Zqz (h:=x1 ZvX 0 (h:=xM (h:=?_))))))
 have hq2:=ZmZ (J:=J) _ _ x.users (left - ↑x.domain.length) om om _ hu
 refine xR ZwT rfl hq2 (h:=xA (h:=Zh (Za (xM (h:=ZM (h:=Ze rfl (fun g2=>?_) (fun g2=>?_)))))))
 try simp only [sQ,ne_eq] at g2
 have g2x:=(ZbZ oz).1 g2
 refine Za (xA (h:=Zj (Zt ?_)))
 exact ZK .ret (.inl rfl) [_] t1 ⟨ZX (by rw [Zbk (by unfold ZcC;omega)]),rfl,rfl⟩
 try simp only [sQ,ne_eq] at g2
 have g2x:=ZbM oz g2
 refine Zg (Zf (Za (xW Zqy (h:=x1 ZvW 0 (h:=xM (h:=?_))))))
 have hq3:=ZjX (J:=J) _ _ x.folders (szI (left - ↑x.domain.length) (szL ZcS x.users)) om om _ hf
 refine xR ZwS rfl hq3 (h:=xA (h:=Zh (Za (xM (h:=ZM (h:=Ze rfl (fun g3=>?_) (fun g3=>?_)))))))
 try simp only [sQ,ne_eq] at g3
 have g3x:=(ZbZ oz).1 g3
 refine Za (xA (h:=Zj (Zt ?_)))
 exact ZK .ret (.inl rfl) [_] t1 ⟨ZX (by rw [Zbk (by unfold ZcC;omega)]),rfl,rfl⟩
 try simp only [sQ,ne_eq] at g3
 have g3x:=ZbM oz g3
 refine Zg (Zf (Za (xW Zqx (h:=xL [_,_] ZvU 0 (h:=xM (h:=?_))))))
 have hq4:=Zm0 (J:=J) _ _ (⟨x.queue.next,x.queue.items⟩:DQueue) (szI (szI (left - ↑x.domain.length) (szL ZcS x.users)) (szL ZaC x.folders)) om om _ hi
 refine xR ZwR rfl hq4 (h:=xA (h:=Zh (Za (xM (h:=ZM (h:=Ze rfl (fun g4=>?_) (fun g4=>?_)))))))
 try simp only [sQ,ne_eq] at g4
 have g4x:=(ZbZ oz).1 g4
 refine Za (xA (h:=Zj (Zt ?_)))
 exact ZK .ret (.inl rfl) [_] t1 ⟨ZX (by rw [Zbk (by unfold ZcC;omega)]),rfl,rfl⟩
 try simp only [sQ,ne_eq] at g4
 have g4x:=ZbM oz g4
 refine Zg (Zf (Za (xM (h:=xA (h:=Zj ?_)))))
 exact ZK .ret (.inl rfl) [_] t1 ⟨ZX (by (try dsimp only at *);rw [ZiW (left:=left) (s:=ZcC x) (by unfold ZcC;omega)];unfold ZcC;omega),rfl,rfl⟩

set_option maxHeartbeats 400000 in
theorem ZoR (x:DUser)  (B:Kn):Z8 (pj J) 95 [.agg #[str x.name,str x.pass,.int .i64 x.quota]] B (.agg #[str x.name,str x.pass,.int .i64 x.quota]):=by
 refine Zd 14 Tryz.func95 rfl rfl rfl (Nat.le_of_ble_eq_true rfl) ?_
 refine Za (xBx [_,_,_] (h:=fun b1=>xAl [_,_,_] ZdF (h:=fun b2=>ZI [_,_] rfl (Za (xAl [_,_,_] ZdF (h:=fun b3=>ZI [_,_,_] rfl (Za (xW Zob (h:=x1 lk9 0 (h:=xW Zbe (h:=xS [_] 2 [_,_,_] sz9 (h:=ZI [_,_,_] rfl ?_))))))))))))
 refine Za (xW Zoa (h:=x1 lk9 0 (h:=xW Ze9 (h:=xS [_] 2 [_,_,_] sz9 (h:=ZI [_,_,_] rfl (Za (xW ZrC (h:=x1 lk3 0 (h:=xW Zdi (h:=xS [_] 2 [_,_,_] sz3 (h:=ZI [_,_,_] rfl (Za ?_))))))))))))
 refine xL [_,_,_] ZeK 2 (h:=xS [_,_,_] 1 [_,_,_] Zbs (h:=ZI [_,_,_] rfl (Zj ?_)))
 exact ZK .ret (.inl rfl) [_] ⟨⟨_,rfl,.inr ⟨[_,_,_],ZeK,Za9 1 rfl rfl rfl,rfl⟩⟩,trivial⟩ ⟨rfl,rfl,rfl⟩

set_option maxHeartbeats 400000 in
theorem ZmV (x:DGrant)  (B:Kn):Z8 (pj J) 180 [.agg #[str x.user,.int .i64 x.rights]] B (.agg #[str x.user,.int .i64 x.rights]):=by
 refine Zd 11 Tryz.func180 rfl rfl rfl (Nat.le_of_ble_eq_true rfl) ?_
 refine Za (xBx [_,_] (h:=fun b1=>xAl [_,_] ZlB (h:=fun b2=>ZI [_,_] rfl (Za (xAl [_,_] ZlB (h:=fun b3=>ZI [_,_,_] rfl (Za (xW Zn1 (h:=x1 lk9 0 (h:=xW ZcB (h:=xS [_] 2 [_,_] sz9 (h:=ZI [_,_,_] rfl ?_))))))))))))
 refine Za (xW Zrx (h:=x1 lk3 0 (h:=xW ZdV (h:=xS [_] 2 [_,_] sz3 (h:=ZI [_,_,_] rfl (Za (xL [_,_] ZnC 2 (h:=xS [_,_] 1 [_,_] Zec (h:=ZI [_,_,_] rfl (Zj ?_))))))))))
 exact ZK .ret (.inl rfl) [_] ⟨⟨_,rfl,.inr ⟨[_,_],ZnC,Za9 1 rfl rfl rfl,rfl⟩⟩,trivial⟩ ⟨rfl,rfl,rfl⟩

set_option maxHeartbeats 400000 in
theorem ZoS (x:DMail)  (B:Kn):Z8 (pj J) 204 [.agg #[.int .i64 x.uid,.int .i64 x.flags,str x.text]] B (.agg #[.int .i64 x.uid,.int .i64 x.flags,str x.text]):=by
 refine Zd 14 Tryz.func204 rfl rfl rfl (Nat.le_of_ble_eq_true rfl) ?_
 refine Za (xBx [_,_,_] (h:=fun b1=>xAl [_,_,_] ZjO (h:=fun b2=>ZI [_,_] rfl (Za (xAl [_,_,_] ZjO (h:=fun b3=>ZI [_,_,_] rfl (Za (xW Zrw (h:=x1 lk3 0 (h:=xW ZcA (h:=xS [_] 2 [_,_,_] sz3 (h:=ZI [_,_,_] rfl ?_))))))))))))
 refine Za (xW Zrv (h:=x1 lk3 0 (h:=xW Ze7 (h:=xS [_] 2 [_,_,_] sz3 (h:=ZI [_,_,_] rfl (Za (xW Zn0 (h:=x1 lk9 0 (h:=xW ZdU (h:=xS [_] 2 [_,_,_] sz9 (h:=ZI [_,_,_] rfl (Za ?_))))))))))))
 refine xL [_,_,_] Zjg 2 (h:=xS [_,_,_] 1 [_,_,_] Zdf (h:=ZI [_,_,_] rfl (Zj ?_)))
 exact ZK .ret (.inl rfl) [_] ⟨⟨_,rfl,.inr ⟨[_,_,_],Zjg,Za9 1 rfl rfl rfl,rfl⟩⟩,trivial⟩ ⟨rfl,rfl,rfl⟩

set_option maxHeartbeats 400000 in
theorem ZkX (q:Option Addr) (cp:Nat) (xs:List Str) (hx20:ZbY xs≤1048576) (B:Kn) (hx:SlK B q cp 1 ZJ xs):ZL (pj J) 59 [.slice q xs.length cp] B [] (fun v B' Ls=>∃q c l,v = .slice q xs.length c∧B'=B∧Ls=[l]∧Zaa Kn.none l q c 9 1 ZJ xs):=by
 refine Zd 22 Tryz.func59 rfl rfl rfl (Nat.le_of_ble_eq_true rfl) ?_
 have hxn:=hx.len
 have hx21:=Zq0 hx20
 refine Za (xA (h:=Za (xM (h:=xV Tryz.underlying43 (h:=Zq (Zbt (m:=xs.length) (c:=xs.length) (by_:=16) [.string ⟨#[]⟩] rfl rfl ZrL zo9 rfl rfl ⟨_,_,rfl,by first | omega | (simp;done) | (simp;omega)⟩ ⟨_,_,rfl,by first | omega | (simp;done) | (simp;omega)⟩ om om (fun b1=>?_)))))))
 have hv1:=Zaa.zeros (B:=Kn.none) (b:=b1) (T:=9) (R:=ZJ) (d:=([]:Str)) (m:=xs.length) (c:=xs.length) (zs:=[.string ⟨#[]⟩]) rfl (⟨rfl,by simp⟩) om
 refine xA (h:=ZI [_] rfl (Zh (Za (xA (h:=Zm (ZO (α:=Nat × Cells) [0,2] (fun g=>[(3,.slice (some ⟨b1,0,none⟩) xs.length xs.length),(4,.int .i64 g.1)]) [0] (fun g=>[g.2]) (fun g Bx=>Bx=B∧g.1≤xs.length∧Zaa Kn.none g.2 (some ⟨b1,0,none⟩) xs.length 9 1 ZJ (fill xs ([]:Str) g.1)) (fun g=>xs.length - g.1) (0,_) t2 rfl (⟨rfl,Nat.zero_le _,by rw [ZdB];exact hv1⟩) (fun g B2 hle2 hI=>?_)))))))
 obtain ⟨rfl,hk,hvl⟩:=hI
 have hfl:=ZeB (d:=([]:Str)) hk
 refine ZR [(0,_),(2,_),(3,_),(4,_)] [_] t4 rfl (Zh (Za (xM (h:=xM (h:=xV Tryz.underlying43 (h:=ZM (h:=Ze rfl (fun g1=>?_) (fun g1=>?_))))))))
 try simp only [sQ,ne_eq] at g1
 refine Zg (Zf (Zh (Zm (Zn (xM (h:=xM (h:=xM (h:=xM (h:=?_)))))))))
 obtain ⟨z,hz⟩:=Zae (xs:=xs) (i:=g.1) om
 obtain ⟨bb4,oo4,rfl⟩:=hx.base hz
 obtain ⟨_,⟨rfl,hb5⟩,hc5⟩:=hx.elem hz
 refine xIx Tryz.underlying43 sz9 (h:=y1 lk9 hc5 0 (h:=xIp rfl Tryz.underlying43 sz9 (h:=Zq (ZoM (R:=ZJ) (k:=g.1) (z) 0 rfl hvl rfl om rfl rfl sz9 rfl rfl rfl rfl rfl (⟨rfl,by first | assumption | omega | (simp;omega)⟩) (fun l7 hv7=>?_)))))
 refine Z7 (Zf (Zn (xM (h:=xD (h:=xA (h:=?_))))))
 exact ZU (g.1+1,l7) [0] so2 ⟨rfl,so,by rw [← ZdC hz];exact hv7⟩ t4 rfl
 try simp only [sQ,ne_eq] at g1
 refine ZS (Zaf (ZW (ZG (Zf (Za (xM (h:=xA (h:=Zj ?_))))))))
 exact Zbw .ret (.inl rfl) [_] [0] rfl t1 ⟨_,_,_,rfl,rfl,rfl,by have e:=hvl;rw [ZeC oz] at e;exact e⟩

set_option maxHeartbeats 400000 in
theorem ZmR (q:Option Addr) (cp:Nat) (xs:List DUser) (hx20:szL ZcS xs≤1048576) (B:Kn) (hx:SlK B q cp 3 Zc xs):ZL (pj J) 37 [.slice q xs.length cp] B [] (fun v B' Ls=>∃q c l,v = .slice q xs.length c∧B'=B∧Ls=[l]∧Zaa Kn.none l q c 123 3 Zc xs):=by
 refine Zd 23 Tryz.func37 rfl rfl rfl (Nat.le_of_ble_eq_true rfl) ?_
 have hxn:=hx.len
 have hx21:=(ZaL hx20).1
 refine Za (xA (h:=Za (xM (h:=xV Tryz.underlying22 (h:=Zq (Zbt (m:=xs.length) (c:=xs.length) (by_:=40) [.string ⟨#[]⟩,.string ⟨#[]⟩,.int .i64 0] rfl rfl Zml ZdF rfl rfl ⟨_,_,rfl,by first | omega | (simp;done) | (simp;omega)⟩ ⟨_,_,rfl,by first | omega | (simp;done) | (simp;omega)⟩ om om (fun b1=>?_)))))))
 have hv1:=Zaa.zeros (B:=Kn.none) (b:=b1) (T:=123) (R:=Zc) (d:=(⟨[],[],0⟩:DUser)) (m:=xs.length) (c:=xs.length) (zs:=[.string ⟨#[]⟩,.string ⟨#[]⟩,.int .i64 0]) rfl (⟨rfl,by simp,by simp⟩) om
 refine xA (h:=ZI [_] rfl (Zh (Za (xA (h:=Zm (ZO (α:=Nat × Cells) [0,2] (fun g=>[(3,.slice (some ⟨b1,0,none⟩) xs.length xs.length),(4,.int .i64 g.1)]) [0] (fun g=>[g.2]) (fun g Bx=>Bx=B∧g.1≤xs.length∧Zaa Kn.none g.2 (some ⟨b1,0,none⟩) xs.length 123 3 Zc (fill xs (⟨[],[],0⟩:DUser) g.1)) (fun g=>xs.length - g.1) (0,_) t2 rfl (⟨rfl,Nat.zero_le _,by rw [ZdB];exact hv1⟩) (fun g B2 hle2 hI=>?_)))))))
 obtain ⟨rfl,hk,hvl⟩:=hI
 have hfl:=ZeB (d:=(⟨[],[],0⟩:DUser)) hk
 refine ZR [(0,_),(2,_),(3,_),(4,_)] [_] t4 rfl (Zh (Za (xM (h:=xM (h:=xV Tryz.underlying22 (h:=ZM (h:=Ze rfl (fun g1=>?_) (fun g1=>?_))))))))
 try simp only [sQ,ne_eq] at g1
 refine Zg (Zf (Zh (Zm (Zn (xM (h:=xM (h:=xM (h:=xM (h:=?_)))))))))
 obtain ⟨z,hz⟩:=Zae (xs:=xs) (i:=g.1) om
 obtain ⟨bb4,oo4,rfl⟩:=hx.base hz
 obtain ⟨_,⟨rfl,hb5,hb5b⟩,hc5⟩:=hx.elem hz
 refine xIx Tryz.underlying22 ZsE (h:=yL [_,_,_] ZsX hc5 0 (h:=xR Zwj rfl (ZoR z  _) (h:=xIp rfl Tryz.underlying30 Zbs (h:=Zq (ZoM (R:=Zc) (k:=g.1) (z) 0 rfl hvl rfl om rfl rfl Zbs rfl rfl rfl rfl rfl (⟨rfl,by first | assumption | omega | (simp;done) | (simp;omega),by first | assumption | omega | (simp;done) | (simp;omega)⟩) (fun l8 hv8=>?_))))))
 refine Z7 (Zf (Zn (xM (h:=xD (h:=xA (h:=?_))))))
 exact ZU (g.1+1,l8) [0] so2 ⟨rfl,so,by rw [← ZdC hz];exact hv8⟩ t4 rfl
 try simp only [sQ,ne_eq] at g1
 refine ZS (Zaf (ZW (ZG (Zf (Za (xM (h:=xA (h:=Zj ?_))))))))
 exact Zbw .ret (.inl rfl) [_] [0] rfl t1 ⟨_,_,_,rfl,rfl,rfl,by have e:=hvl;rw [ZeC oz] at e;exact e⟩

set_option maxHeartbeats 400000 in
theorem ZlH (q:Option Addr) (cp:Nat) (xs:List DGrant) (hx20:szL Zcb xs≤1048576) (B:Kn) (hx:SlK B q cp 2 Zah xs):ZL (pj J) 146 [.slice q xs.length cp] B [] (fun v B' Ls=>∃q c l,v = .slice q xs.length c∧B'=B∧Ls=[l]∧Zaa Kn.none l q c 133 2 Zah xs):=by
 refine Zd 23 Tryz.func146 rfl rfl rfl (Nat.le_of_ble_eq_true rfl) ?_
 have hxn:=hx.len
 have hx21:=(ZaL hx20).1
 refine Za (xA (h:=Za (xM (h:=xV Tryz.underlying114 (h:=Zq (Zbt (m:=xs.length) (c:=xs.length) (by_:=24) [.string ⟨#[]⟩,.int .i64 0] rfl rfl Zup ZlB rfl rfl ⟨_,_,rfl,by first | omega | (simp;done) | (simp;omega)⟩ ⟨_,_,rfl,by first | omega | (simp;done) | (simp;omega)⟩ om om (fun b1=>?_)))))))
 have hv1:=Zaa.zeros (B:=Kn.none) (b:=b1) (T:=133) (R:=Zah) (d:=(⟨[],0⟩:DGrant)) (m:=xs.length) (c:=xs.length) (zs:=[.string ⟨#[]⟩,.int .i64 0]) rfl (⟨rfl,by simp⟩) om
 refine xA (h:=ZI [_] rfl (Zh (Za (xA (h:=Zm (ZO (α:=Nat × Cells) [0,2] (fun g=>[(3,.slice (some ⟨b1,0,none⟩) xs.length xs.length),(4,.int .i64 g.1)]) [0] (fun g=>[g.2]) (fun g Bx=>Bx=B∧g.1≤xs.length∧Zaa Kn.none g.2 (some ⟨b1,0,none⟩) xs.length 133 2 Zah (fill xs (⟨[],0⟩:DGrant) g.1)) (fun g=>xs.length - g.1) (0,_) t2 rfl (⟨rfl,Nat.zero_le _,by rw [ZdB];exact hv1⟩) (fun g B2 hle2 hI=>?_)))))))
 obtain ⟨rfl,hk,hvl⟩:=hI
 have hfl:=ZeB (d:=(⟨[],0⟩:DGrant)) hk
 refine ZR [(0,_),(2,_),(3,_),(4,_)] [_] t4 rfl (Zh (Za (xM (h:=xM (h:=xV Tryz.underlying114 (h:=ZM (h:=Ze rfl (fun g1=>?_) (fun g1=>?_))))))))
 try simp only [sQ,ne_eq] at g1
 refine Zg (Zf (Zh (Zm (Zn (xM (h:=xM (h:=xM (h:=xM (h:=?_)))))))))
 obtain ⟨z,hz⟩:=Zae (xs:=xs) (i:=g.1) om
 obtain ⟨bb4,oo4,rfl⟩:=hx.base hz
 obtain ⟨_,⟨rfl,hb5⟩,hc5⟩:=hx.elem hz
 refine xIx Tryz.underlying114 ZsA (h:=yL [_,_] ZsR hc5 0 (h:=xR ZuT rfl (ZmV z  _) (h:=xIp rfl Tryz.underlying68 Zec (h:=Zq (ZoM (R:=Zah) (k:=g.1) (z) 0 rfl hvl rfl om rfl rfl Zec rfl rfl rfl rfl rfl (⟨rfl,by first | assumption | omega | (simp;done) | (simp;omega)⟩) (fun l8 hv8=>?_))))))
 refine Z7 (Zf (Zn (xM (h:=xD (h:=xA (h:=?_))))))
 exact ZU (g.1+1,l8) [0] so2 ⟨rfl,so,by rw [← ZdC hz];exact hv8⟩ t4 rfl
 try simp only [sQ,ne_eq] at g1
 refine ZS (Zaf (ZW (ZG (Zf (Za (xM (h:=xA (h:=Zj ?_))))))))
 exact Zbw .ret (.inl rfl) [_] [0] rfl t1 ⟨_,_,_,rfl,rfl,rfl,by have e:=hvl;rw [ZeC oz] at e;exact e⟩

set_option maxHeartbeats 400000 in
theorem ZmT (q:Option Addr) (cp:Nat) (xs:List DMail) (hx20:szL Zc6 xs≤1048576) (B:Kn) (hx:SlK B q cp 3 Zaw xs):ZL (pj J) 181 [.slice q xs.length cp] B [] (fun v B' Ls=>∃q c l,v = .slice q xs.length c∧B'=B∧Ls=[l]∧Zaa Kn.none l q c 205 3 Zaw xs):=by
 refine Zd 23 Tryz.func181 rfl rfl rfl (Nat.le_of_ble_eq_true rfl) ?_
 have hxn:=hx.len
 have hx21:=(ZaL hx20).1
 refine Za (xA (h:=Za (xM (h:=xV Tryz.underlying115 (h:=Zq (Zbt (m:=xs.length) (c:=xs.length) (by_:=32) [.int .i64 0,.int .i64 0,.string ⟨#[]⟩] rfl rfl Zuo ZjO rfl rfl ⟨_,_,rfl,by first | omega | (simp;done) | (simp;omega)⟩ ⟨_,_,rfl,by first | omega | (simp;done) | (simp;omega)⟩ om om (fun b1=>?_)))))))
 have hv1:=Zaa.zeros (B:=Kn.none) (b:=b1) (T:=205) (R:=Zaw) (d:=(⟨0,0,[]⟩:DMail)) (m:=xs.length) (c:=xs.length) (zs:=[.int .i64 0,.int .i64 0,.string ⟨#[]⟩]) rfl (⟨rfl,by simp⟩) om
 refine xA (h:=ZI [_] rfl (Zh (Za (xA (h:=Zm (ZO (α:=Nat × Cells) [0,2] (fun g=>[(3,.slice (some ⟨b1,0,none⟩) xs.length xs.length),(4,.int .i64 g.1)]) [0] (fun g=>[g.2]) (fun g Bx=>Bx=B∧g.1≤xs.length∧Zaa Kn.none g.2 (some ⟨b1,0,none⟩) xs.length 205 3 Zaw (fill xs (⟨0,0,[]⟩:DMail) g.1)) (fun g=>xs.length - g.1) (0,_) t2 rfl (⟨rfl,Nat.zero_le _,by rw [ZdB];exact hv1⟩) (fun g B2 hle2 hI=>?_)))))))
 obtain ⟨rfl,hk,hvl⟩:=hI
 have hfl:=ZeB (d:=(⟨0,0,[]⟩:DMail)) hk
 refine ZR [(0,_),(2,_),(3,_),(4,_)] [_] t4 rfl (Zh (Za (xM (h:=xM (h:=xV Tryz.underlying115 (h:=ZM (h:=Ze rfl (fun g1=>?_) (fun g1=>?_))))))))
 try simp only [sQ,ne_eq] at g1
 refine Zg (Zf (Zh (Zm (Zn (xM (h:=xM (h:=xM (h:=xM (h:=?_)))))))))
 obtain ⟨z,hz⟩:=Zae (xs:=xs) (i:=g.1) om
 obtain ⟨bb4,oo4,rfl⟩:=hx.base hz
 obtain ⟨_,⟨rfl,hb5⟩,hc5⟩:=hx.elem hz
 refine xIx Tryz.underlying115 Zsy (h:=yL [_,_,_] ZsP hc5 0 (h:=xR ZuC rfl (ZoS z  _) (h:=xIp rfl Tryz.underlying71 Zdf (h:=Zq (ZoM (R:=Zaw) (k:=g.1) (z) 0 rfl hvl rfl om rfl rfl Zdf rfl rfl rfl rfl rfl (⟨rfl,by first | assumption | omega | (simp;done) | (simp;omega)⟩) (fun l8 hv8=>?_))))))
 refine Z7 (Zf (Zn (xM (h:=xD (h:=xA (h:=?_))))))
 exact ZU (g.1+1,l8) [0] so2 ⟨rfl,so,by rw [← ZdC hz];exact hv8⟩ t4 rfl
 try simp only [sQ,ne_eq] at g1
 refine ZS (Zaf (ZW (ZG (Zf (Za (xM (h:=xA (h:=Zj ?_))))))))
 exact Zbw .ret (.inl rfl) [_] [0] rfl t1 ⟨_,_,_,rfl,rfl,rfl,by have e:=hvl;rw [ZeC oz] at e;exact e⟩

set_option maxHeartbeats 400000 in
theorem ZoT (q:Option Addr) (cp:Nat) (x:DItem) (B:Kn) (hx:SlK B q cp 1 ZJ x.left) (hl:ZbY x.left≤1048576):ZL (pj J) 148 [.agg #[.int .i64 x.id,str x.fr,str x.text,.slice q x.left.length cp]] B [] (fun v B' Ls=>∃q0 c0 l0,v = .agg #[.int .i64 x.id,str x.fr,str x.text,.slice q0 x.left.length c0]∧B'=B∧Ls=[l0]∧Zaa Kn.none l0 q0 c0 9 1 ZJ x.left):=by
 refine Zd 18 Tryz.func148 rfl rfl rfl (Nat.le_of_ble_eq_true rfl) ?_
 refine Za (xBx [_,_,_,_] (h:=fun b1=>xAl [_,_,_,_] Zde (h:=fun b2=>ZI [_,_] rfl (Za (xAl [_,_,_,_] Zde (h:=fun b3=>ZI [_,_,_] rfl (Za (xW Zry (h:=x1 lk3 0 (h:=xW ZdX (h:=xS [_] 2 [_,_,_,_] sz3 (h:=ZI [_,_,_] rfl ?_))))))))))))
 refine Za (xW Zn4 (h:=x1 lk9 0 (h:=xW ZdW (h:=xS [_] 2 [_,_,_,_] sz9 (h:=ZI [_,_,_] rfl (Za (xW Zn3 (h:=x1 lk9 0 (h:=xW Ze8 (h:=xS [_] 2 [_,_,_,_] sz9 (h:=ZI [_,_,_] rfl (Za ?_))))))))))))
 refine xW Zn2 (h:=x1 Zgs 0 (h:=Zq (ZF rfl rfl Zv1 rfl (ZkX _ _ x.left om2 _ hx) ?_)))
 rintro _ B4 _ hle4 ⟨q4,c4,l4,rfl,rfl,rfl,hv4⟩
 refine xW Zcj (h:=xS [_] 2 [_,_,_,_] ZtC (h:=ZI [_,_,_,_] rfl (Za (xL [_,_,_,_] Zd4 2 (h:=xS [_,_,_,_] 1 [_,_,_,_] Zbl (h:=ZI [_,_,_,_] rfl (Zj ?_)))))))
 exact Zbw .ret (.inl rfl) [_] [3] rfl ⟨⟨_,rfl,.inr ⟨[_,_,_,_],Zd4,Za9 1 rfl rfl rfl,rfl⟩⟩,trivial⟩ ⟨_,_,_,rfl,rfl,rfl,hv4⟩

set_option maxHeartbeats 400000 in
theorem ZmU (q:Option Addr) (cp:Nat) (xs:List DItem) (hx20:szL Zbq xs≤1048576) (B:Kn) (hx:SlK B q cp 4 Zi xs):ZL (pj J) 97 [.slice q xs.length cp] B [] (fun v B' Ls=>∃q c l,v = .slice q xs.length c∧B'=B∧Ls=[l]∧Zbb l q c 126 4 (Z3 9) xs):=by
 refine Zd 23 Tryz.func97 rfl rfl rfl (Nat.le_of_ble_eq_true rfl) ?_
 have hxn:=hx.len
 have hx21:=(ZaL hx20).1
 refine Za (xA (h:=Za (xM (h:=xV Tryz.underlying24 (h:=Zq (Zbt (m:=xs.length) (c:=xs.length) (by_:=64) [.int .i64 0,.string ⟨#[]⟩,.string ⟨#[]⟩,.slice none 0 0] rfl rfl Ztd Zde rfl rfl ⟨_,_,rfl,by first | omega | (simp;done) | (simp;omega)⟩ ⟨_,_,rfl,by first | omega | (simp;done) | (simp;omega)⟩ om om (fun b1=>?_)))))))
 have hd1:=Zbb.zeros (b:=b1) (T:=126) (R:=Z3 9) (d:=(⟨0,[],[],[]⟩:DItem)) (m:=xs.length) (c:=xs.length) (zs:=[.int .i64 0,.string ⟨#[]⟩,.string ⟨#[]⟩,.slice none 0 0]) rfl (⟨_,_,rfl,Zaa.nil,by simp,by simp,by simp⟩) om
 refine xA (h:=ZI [_] rfl (Zh (Za (xA (h:=Zm (ZO (α:=Nat × Cells) [0,2] (fun g=>[(3,.slice (some ⟨b1,0,none⟩) xs.length xs.length),(4,.int .i64 g.1)]) [0] (fun g=>[g.2]) (fun g Bx=>Bx=B∧g.1≤xs.length∧Zbb g.2 (some ⟨b1,0,none⟩) xs.length 126 4 (Z3 9) (fill xs (⟨0,[],[],[]⟩:DItem) g.1)) (fun g=>xs.length - g.1) (0,_) t2 rfl (⟨rfl,Nat.zero_le _,by rw [ZdB];exact hd1⟩) (fun g B2 hle2 hI=>?_)))))))
 obtain ⟨rfl,hk,hvl⟩:=hI
 have hfl:=ZeB (d:=(⟨0,[],[],[]⟩:DItem)) hk
 refine ZR [(0,_),(2,_),(3,_),(4,_)] [_] t4 rfl (Zh (Za (xM (h:=xM (h:=xV Tryz.underlying24 (h:=ZM (h:=Ze rfl (fun g1=>?_) (fun g1=>?_))))))))
 try simp only [sQ,ne_eq] at g1
 refine Zg (Zf (Zh (Zm (Zn (xM (h:=xM (h:=xM (h:=xM (h:=?_)))))))))
 obtain ⟨z,hz⟩:=Zae (xs:=xs) (i:=g.1) om
 obtain ⟨bb4,oo4,rfl⟩:=hx.base hz
 obtain ⟨_,⟨qi5,ci5,rfl,hi5,hb5,hb5b⟩,hc5⟩:=hx.elem hz
 have hi5n:=hi5.len
 refine xIx Tryz.underlying24 ZsB (h:=?_)
 have hzz:=(ZaL hx20).2 z (List.mem_of_getElem? hz)
 have hza:=Zrn hzz
 refine yL [_,_,_,_] ZsS hc5 0 (h:=Zq (ZF rfl rfl Zvf rfl (ZoT _ _ z _ hi5 om2) ?_))
 rintro _ B6 _ hle6 ⟨q6,c6,l6,rfl,rfl,rfl,hv6⟩
 refine xIp rfl Tryz.underlying32 Zbl (h:=Zq (Zr6 (R:=Z3 9) (k:=g.1) (z) 0 [1] rfl rfl hvl rfl om rfl rfl Zbl rfl rfl rfl rfl rfl (l6) (by simp) (⟨_,_,rfl,hv6,by first | assumption | omega | (simp;done) | (simp;omega),by first | assumption | omega | (simp;done) | (simp;omega),by first | assumption | omega | (simp;done) | (simp;omega)⟩) (fun l8 hd8=>?_)))
 refine Z7 (Zf (Zn (xM (h:=xD (h:=xA (h:=?_))))))
 exact ZU (g.1+1,l8) [0] so2 ⟨rfl,so,by rw [← ZdC hz];exact hd8⟩ t4 rfl
 try simp only [sQ,ne_eq] at g1
 refine ZS (Zaf (ZW (ZG (Zf (Za (xM (h:=xA (h:=Zj ?_))))))))
 exact Zbw .ret (.inl rfl) [_] [0] rfl t1 ⟨_,_,_,rfl,rfl,rfl,by have e:=hvl;rw [ZeC oz] at e;exact e⟩

set_option maxHeartbeats 400000 in
theorem ZmS (q:Option Addr) (cp:Nat) (x:DQueue) (B:Kn) (hx:SlK B q cp 4 Zi x.items) (hl:szL Zbq x.items≤1048576):ZL (pj J) 39 [.agg #[.int .i64 x.next,.slice q x.items.length cp]] B [] (fun v B' Ls=>∃q0 c0 l0,v = .agg #[.int .i64 x.next,.slice q0 x.items.length c0]∧B'=B∧Ls=[l0]∧Zbb l0 q0 c0 126 4 (Z3 9) x.items):=by
 refine Zd 12 Tryz.func39 rfl rfl rfl (Nat.le_of_ble_eq_true rfl) ?_
 refine Za (xBx [_,_] (h:=fun b1=>xAl [_,_] Zhp (h:=fun b2=>ZI [_,_] rfl (Za (xAl [_,_] Zhp (h:=fun b3=>ZI [_,_,_] rfl (Za (xW Zs4 (h:=x1 lk3 0 (h:=xW Zcw (h:=xS [_] 2 [_,_] sz3 (h:=ZI [_,_,_] rfl ?_))))))))))))
 refine Za (xW ZqB (h:=x1 ZvV 0 (h:=Zq (ZF rfl rfl Zwh rfl (ZmU _ _ x.items om2 _ hx) ?_))))
 rintro _ B4 _ hle4 ⟨q4,c4,l4,rfl,rfl,rfl,hv4⟩
 refine xW Zba (h:=xS [_] 2 [_,_] Zsx (h:=ZI [_,_,_,_] rfl (Za (xL [_,_] Zdg 2 (h:=xS [_,_] 1 [_,_] ZfM (h:=ZI [_,_,_,_] rfl (Zj ?_)))))))
 exact Zbw .ret (.inl rfl) [_] [3] rfl ⟨⟨_,rfl,.inr ⟨[_,_],Zdg,Za9 1 rfl rfl rfl,rfl⟩⟩,trivial⟩ ⟨_,_,_,rfl,rfl,rfl,hv4⟩

set_option maxHeartbeats 400000 in
theorem ZqV (q:Option Addr) (cp:Nat) (x:DBox) (B:Kn) (hx:SlK B q cp 3 Zaw x.mail) (hl:szL Zc6 x.mail≤1048576):ZL (pj J) 147 [.agg #[.int .i64 x.next,.slice q x.mail.length cp]] B [] (fun v B' Ls=>∃q0 c0 l0,v = .agg #[.int .i64 x.next,.slice q0 x.mail.length c0]∧B'=B∧Ls=[l0]∧Zaa Kn.none l0 q0 c0 205 3 Zaw x.mail):=by
 refine Zd 12 Tryz.func147 rfl rfl rfl (Nat.le_of_ble_eq_true rfl) ?_
 refine Za (xBx [_,_] (h:=fun b1=>xAl [_,_] Zr4 (h:=fun b2=>ZI [_,_] rfl (Za (xAl [_,_] Zr4 (h:=fun b3=>ZI [_,_,_] rfl (Za (xW ZrB (h:=x1 lk3 0 (h:=xW Zfy (h:=xS [_] 2 [_,_] sz3 (h:=ZI [_,_,_] rfl ?_))))))))))))
 refine Za (xW Zn9 (h:=x1 ZsV 0 (h:=Zq (ZF rfl rfl ZuS rfl (ZmT _ _ x.mail om2 _ hx) ?_))))
 rintro _ B4 _ hle4 ⟨q4,c4,l4,rfl,rfl,rfl,hv4⟩
 refine xW Zb8 (h:=xS [_] 2 [_,_] ZvN (h:=ZI [_,_,_,_] rfl (Za (xL [_,_] Zlh 2 (h:=xS [_,_] 1 [_,_] ZrZ (h:=ZI [_,_,_,_] rfl (Zj ?_)))))))
 exact Zbw .ret (.inl rfl) [_] [3] rfl ⟨⟨_,rfl,.inr ⟨[_,_],Zlh,Za9 1 rfl rfl rfl,rfl⟩⟩,trivial⟩ ⟨_,_,_,rfl,rfl,rfl,hv4⟩

set_option maxHeartbeats 400000 in
theorem ZlI (qa qb:Option Addr) (ca cb:Nat) (x:DFolder) (B:Kn) (hx:SlK B qa ca 2 Zah x.grants) (hy:SlK B qb cb 3 Zaw x.mail) (hl:szL Zcb x.grants≤1048576) (hl2:szL Zc6 x.mail≤1048576):ZL (pj J) 96 [.agg #[str x.owner,str x.name,.slice qa x.grants.length ca,.int .i64 x.next,.slice qb x.mail.length cb]] B [] (fun v B' Ls=>∃q0 c0 l0 q1 c1 l1,v = .agg #[str x.owner,str x.name,.slice q0 x.grants.length c0,.int .i64 x.next,.slice q1 x.mail.length c1]∧B'=B∧Ls=[l0,l1]∧Zaa Kn.none l0 q0 c0 133 2 Zah x.grants∧Zaa Kn.none l1 q1 c1 205 3 Zaw x.mail):=by
 refine Zd 19 Tryz.func96 rfl rfl rfl (Nat.le_of_ble_eq_true rfl) ?_
 refine Za (xBx [_,_,_,_,_] (h:=fun b1=>xAl [_,_,_,_,_] ZfG (h:=fun b2=>ZI [_,_] rfl (Za (xAl [_,_,_,_,_] ZfG (h:=fun b3=>ZI [_,_,_] rfl (Za (xW Zn8 (h:=x1 lk9 0 (h:=xW Zcv (h:=xS [_] 2 [_,_,_,_,_] sz9 (h:=ZI [_,_,_] rfl ?_))))))))))))
 refine Za (xW Zn7 (h:=x1 lk9 0 (h:=xW Zdy (h:=xS [_] 2 [_,_,_,_,_] sz9 (h:=ZI [_,_,_] rfl (Za (xW Zn6 (h:=x1 ZsW 0 (h:=Zq (ZF rfl rfl Zvh rfl (ZlH _ _ x.grants om2 _ hx) ?_))))))))))
 rintro _ B4 _ hle4 ⟨q4,c4,l4,rfl,rfl,rfl,hv4⟩
 refine xW Zen (h:=xS [_] 2 [_,_,_,_,_] Zua (h:=ZI [_,_,_,_] rfl (Za (xW Zn5 (h:=xL [_,_] ZsU 0 (h:=Zq (ZF rfl rfl Zvg rfl (ZqV _ _ ⟨x.next,x.mail⟩ _ hy om2) ?_)))))))
 rintro _ B5 _ hle5 ⟨q5,c5,l5,rfl,rfl,rfl,hv5⟩
 refine xW ZcX (h:=xS [_,_] 2 [_,_,_,_,_] ZrZ (h:=ZI [_,_,_,_,_] rfl (Za (xL [_,_,_,_,_] ZhP 2 (h:=xS [_,_,_,_,_] 1 [_,_,_,_,_] Zcr (h:=ZI [_,_,_,_,_] rfl (Zj ?_)))))))
 exact Zbw .ret (.inl rfl) [_] [3,4] rfl ⟨⟨_,rfl,.inr ⟨[_,_,_,_,_],ZhP,Za9 1 rfl rfl rfl,rfl⟩⟩,trivial⟩ ⟨_,_,_,_,_,_,rfl,rfl,rfl,hv4,hv5⟩

set_option maxHeartbeats 400000 in
theorem ZjW (q:Option Addr) (cp:Nat) (xs:List DFolder) (hx20:szL ZaC xs≤1048576) (B:Kn) (hx:SlK B q cp 5 Zb xs):ZL (pj J) 38 [.slice q xs.length cp] B [] (fun v B' Ls=>∃q c l,v = .slice q xs.length c∧B'=B∧Ls=[l]∧Zbb l q c 75 5 (ZD 133 205) xs):=by
 refine Zd 23 Tryz.func38 rfl rfl rfl (Nat.le_of_ble_eq_true rfl) ?_
 have hxn:=hx.len
 have hx21:=(ZaL hx20).1
 refine Za (xA (h:=Za (xM (h:=xV Tryz.underlying23 (h:=Zq (Zbt (m:=xs.length) (c:=xs.length) (by_:=88) [.string ⟨#[]⟩,.string ⟨#[]⟩,.slice none 0 0,.int .i64 0,.slice none 0 0] rfl rfl ZtH ZfG rfl rfl ⟨_,_,rfl,by first | omega | (simp;done) | (simp;omega)⟩ ⟨_,_,rfl,by first | omega | (simp;done) | (simp;omega)⟩ om om (fun b1=>?_)))))))
 have hd1:=Zbb.zeros (b:=b1) (T:=75) (R:=(ZD 133 205)) (d:=(⟨[],[],[],0,[]⟩:DFolder)) (m:=xs.length) (c:=xs.length) (zs:=[.string ⟨#[]⟩,.string ⟨#[]⟩,.slice none 0 0,.int .i64 0,.slice none 0 0]) rfl (⟨_,_,_,_,[],[],rfl,rfl,Zaa.nil,Zaa.nil,by simp,by simp,by simp,by simp⟩) om
 refine xA (h:=ZI [_] rfl (Zh (Za (xA (h:=Zm (ZO (α:=Nat × Cells) [0,2] (fun g=>[(3,.slice (some ⟨b1,0,none⟩) xs.length xs.length),(4,.int .i64 g.1)]) [0] (fun g=>[g.2]) (fun g Bx=>Bx=B∧g.1≤xs.length∧Zbb g.2 (some ⟨b1,0,none⟩) xs.length 75 5 (ZD 133 205) (fill xs (⟨[],[],[],0,[]⟩:DFolder) g.1)) (fun g=>xs.length - g.1) (0,_) t2 rfl (⟨rfl,Nat.zero_le _,by rw [ZdB];exact hd1⟩) (fun g B2 hle2 hI=>?_)))))))
 obtain ⟨rfl,hk,hvl⟩:=hI
 have hfl:=ZeB (d:=(⟨[],[],[],0,[]⟩:DFolder)) hk
 refine ZR [(0,_),(2,_),(3,_),(4,_)] [_] t4 rfl (Zh (Za (xM (h:=xM (h:=xV Tryz.underlying23 (h:=ZM (h:=Ze rfl (fun g1=>?_) (fun g1=>?_))))))))
 try simp only [sQ,ne_eq] at g1
 refine Zg (Zf (Zh (Zm (Zn (xM (h:=xM (h:=xM (h:=xM (h:=?_)))))))))
 obtain ⟨z,hz⟩:=Zae (xs:=xs) (i:=g.1) om
 obtain ⟨bb4,oo4,rfl⟩:=hx.base hz
 obtain ⟨_,⟨qg5,cg5,qm5,cm5,rfl,hg5,hm5,hb5,hb5b⟩,hc5⟩:=hx.elem hz
 have hg5n:=hg5.len
 have hm5n:=hm5.len
 have hm5s:=ZaT hm5
 refine xIx Tryz.underlying23 ZsD (h:=?_)
 have hzz:=(ZaL hx20).2 z (List.mem_of_getElem? hz)
 have hza:=ZnZ hzz
 refine yL [_,_,_,_,_] ZsT hc5 0 (h:=Zq (ZF rfl rfl Zwi rfl (ZlI _ _ _ _ z _ hg5 hm5 om2 om2) ?_))
 rintro _ B6 _ hle6 ⟨q6,c6,l6,q6b,c6b,l6b,rfl,rfl,rfl,hv6,hv6b⟩
 refine xIp rfl Tryz.underlying31 Zcr (h:=Zq (Zr6 (R:=(ZD 133 205)) (k:=g.1) (z) 0 [1,2] rfl rfl hvl rfl om rfl rfl Zcr rfl rfl rfl rfl rfl (l6 ++ l6b) (by simp) (⟨_,_,_,_,_,_,rfl,rfl,(hv6.anyK Zah.any),(hv6b.anyK Zaw.any),by first | assumption | omega | (simp;done) | (simp;omega),by first | assumption | omega | (simp;done) | (simp;omega),by first | assumption | omega | (simp;done) | (simp;omega),by first | assumption | omega | (simp;done) | (simp;omega)⟩) (fun l8 hd8=>?_)))
 refine Z7 (Zf (Zn (xM (h:=xD (h:=xA (h:=?_))))))
 exact ZU (g.1+1,l8) [0] so2 ⟨rfl,so,by rw [← ZdC hz];exact hd8⟩ t4 rfl
 try simp only [sQ,ne_eq] at g1
 refine ZS (Zaf (ZW (ZG (Zf (Za (xM (h:=xA (h:=Zj ?_))))))))
 exact Zbw .ret (.inl rfl) [_] [0] rfl t1 ⟨_,_,_,rfl,rfl,rfl,by have e:=hvl;rw [ZeC oz] at e;exact e⟩

set_option maxHeartbeats 400000 in
theorem ZaY (q1 q2 q3:Option Addr) (c1 c2 c3:Nat) (x:DHost) (B:Kn) (hu:SlK B q1 c1 3 Zc x.users) (hf:SlK B q2 c2 5 Zb x.folders) (hi:SlK B q3 c3 4 Zi x.queue.items) (hsz:ZcC x≤1048576):ZL (pj J) 10 [.agg #[str x.domain,.slice q1 x.users.length c1,.slice q2 x.folders.length c2,.int .i64 x.queue.next,.slice q3 x.queue.items.length c3]] B [] (fun v B' Ls=>∃q0 c0 l0 q1 c1 l1 q2 c2 l2,v = .agg #[str x.domain,.slice q0 x.users.length c0,.slice q1 x.folders.length c1,.int .i64 x.queue.next,.slice q2 x.queue.items.length c2]∧B'=B∧Ls=[l0,l1,l2]∧Zaa Kn.none l0 q0 c0 123 3 Zc x.users∧Zbb l1 q1 c1 75 5 (ZD 133 205) x.folders∧Zbb l2 q2 c2 126 4 (Z3 9) x.queue.items):=by
 refine Zd 20 Tryz.func10 rfl rfl rfl (Nat.le_of_ble_eq_true rfl) ?_
 have hsz2:=Zkq hsz
 refine Za (xBx [_,_,_,_,_] (h:=fun b1=>xAl [_,_,_,_,_] Zbj (h:=fun b2=>ZI [_,_] rfl (Za (xAl [_,_,_,_,_] Zbj (h:=fun b3=>ZI [_,_,_] rfl (Za (xW ZqA (h:=x1 lk9 0 (h:=xW Zha (h:=xS [_] 2 [_,_,_,_,_] sz9 (h:=ZI [_,_,_] rfl ?_))))))))))))
 refine Za (xW Zqz (h:=x1 ZvX 0 (h:=Zq (ZF rfl rfl ZwN rfl (ZmR _ _ x.users om2 _ hu) ?_))))
 rintro _ B4 _ hle4 ⟨q4,c4,l4,rfl,rfl,rfl,hv4⟩
 refine xW ZbW (h:=xS [_] 2 [_,_,_,_,_] Zv8 (h:=ZI [_,_,_,_] rfl (Za (xW Zqy (h:=x1 ZvW 0 (h:=Zq (ZF rfl rfl ZwM rfl (ZjW _ _ x.folders om2 _ hf) ?_)))))))
 rintro _ B5 _ hle5 ⟨q5,c5,l5,rfl,rfl,rfl,hv5⟩
 refine xW Za5 (h:=xS [_] 2 [_,_,_,_,_] ZvO (h:=ZI [_,_,_,_,_] rfl (Za (xW Zqx (h:=xL [_,_] ZvU 0 (h:=Zq (ZF rfl rfl ZwL rfl (ZmS _ _ ⟨x.queue.next,x.queue.items⟩ _ hi om2) ?_)))))))
 rintro _ B6 _ hle6 ⟨q6,c6,l6,rfl,rfl,rfl,hv6⟩
 refine xW Zb9 (h:=xS [_,_] 2 [_,_,_,_,_] ZfM (h:=ZI [_,_,_,_,_,_] rfl (Za (xL [_,_,_,_,_] Zaz 2 (h:=xS [_,_,_,_,_] 1 [_,_,_,_,_] ZbN (h:=ZI [_,_,_,_,_,_] rfl (Zj ?_)))))))
 exact Zbw .ret (.inl rfl) [_] [3,4,5] rfl ⟨⟨_,rfl,.inr ⟨[_,_,_,_,_],Zaz,Za9 1 rfl rfl rfl,rfl⟩⟩,trivial⟩ ⟨_,_,_,_,_,_,_,_,_,rfl,rfl,rfl,hv4,hv5,hv6⟩

set_option maxHeartbeats 400000 in
theorem ZpJ   (a b:DUser) (B:Kn)   : Z8 (pj J) 105 [.agg #[str a.name,str a.pass,.int .i64 a.quota],.agg #[str b.name,str b.pass,.int .i64 b.quota]] B (.bool (decide (a=b))):=by
 refine Zd 20 Tryz.func105 rfl rfl rfl (Nat.le_of_ble_eq_true rfl) ?_
 refine Za (xBx [_,_,_] (h:=fun b1=>xBx [_,_,_] (h:=fun b2=>xA (h:=ZI [_,_] rfl (Zh (Za (xW Zbe (h:=x1 lk9 0 (h:=xW Zbe (h:=x1 lk9 1 (h:=Zd1 (h:=Ze rfl (fun g1=>?_) (fun g1=>?_)))))))))))))
 try simp only [sQ,ne_eq] at g1
 refine Za (xA (h:=Zj (Zt ?_)))
 exact ZK .ret (.inl rfl) [_] t1 ⟨Zk (by symm;rw [decide_eq_false_iff_not];rintro rfl;exact g1 rfl),rfl,rfl⟩
 try simp only [sQ,ne_eq] at g1
 refine Zg (Zf (Zh (Za (xW Ze9 (h:=x1 lk9 0 (h:=xW Ze9 (h:=x1 lk9 1 (h:=Zd1 (h:=Ze rfl (fun g2=>?_) (fun g2=>?_))))))))))
 try simp only [sQ,ne_eq] at g2
 refine Za (xA (h:=Zj (Zt ?_)))
 exact ZK .ret (.inl rfl) [_] t1 ⟨Zk (by symm;rw [decide_eq_false_iff_not];rintro rfl;exact g2 rfl),rfl,rfl⟩
 try simp only [sQ,ne_eq] at g2
 refine Zg (Zf (Zh (Za (xW Zdi (h:=x1 lk3 0 (h:=xW Zdi (h:=x1 lk3 1 (h:=Z4 (h:=Ze rfl (fun g3=>?_) (fun g3=>?_))))))))))
 try simp only [sQ,ne_eq] at g3
 refine Za (xA (h:=Zj (Zt ?_)))
 exact ZK .ret (.inl rfl) [_] t1 ⟨Zk (by symm;rw [decide_eq_false_iff_not];rintro rfl;exact g3 rfl),rfl,rfl⟩
 try simp only [sQ,ne_eq] at g3
 refine Zg (Zf (Za (xA (h:=Zj ?_))))
 exact ZK .ret (.inl rfl) [_] t1 ⟨Zk (by symm;rw [decide_eq_true_eq];cases a;cases b;simp_all),rfl,rfl⟩

set_option maxHeartbeats 400000 in
theorem Zon   (a b:DGrant) (B:Kn)   : Z8 (pj J) 194 [.agg #[str a.user,.int .i64 a.rights],.agg #[str b.user,.int .i64 b.rights]] B (.bool (decide (a=b))):=by
 refine Zd 15 Tryz.func194 rfl rfl rfl (Nat.le_of_ble_eq_true rfl) ?_
 refine Za (xBx [_,_] (h:=fun b1=>xBx [_,_] (h:=fun b2=>xA (h:=ZI [_,_] rfl (Zh (Za (xW ZcB (h:=x1 lk9 0 (h:=xW ZcB (h:=x1 lk9 1 (h:=Zd1 (h:=Ze rfl (fun g1=>?_) (fun g1=>?_)))))))))))))
 try simp only [sQ,ne_eq] at g1
 refine Za (xA (h:=Zj (Zt ?_)))
 exact ZK .ret (.inl rfl) [_] t1 ⟨Zk (by symm;rw [decide_eq_false_iff_not];rintro rfl;exact g1 rfl),rfl,rfl⟩
 try simp only [sQ,ne_eq] at g1
 refine Zg (Zf (Zh (Za (xW ZdV (h:=x1 lk3 0 (h:=xW ZdV (h:=x1 lk3 1 (h:=Z4 (h:=Ze rfl (fun g2=>?_) (fun g2=>?_))))))))))
 try simp only [sQ,ne_eq] at g2
 refine Za (xA (h:=Zj (Zt ?_)))
 exact ZK .ret (.inl rfl) [_] t1 ⟨Zk (by symm;rw [decide_eq_false_iff_not];rintro rfl;exact g2 rfl),rfl,rfl⟩
 try simp only [sQ,ne_eq] at g2
 refine Zg (Zf (Za (xA (h:=Zj ?_))))
 exact ZK .ret (.inl rfl) [_] t1 ⟨Zk (by symm;rw [decide_eq_true_eq];cases a;cases b;simp_all),rfl,rfl⟩

set_option maxHeartbeats 400000 in
theorem ZpL   (a b:DMail) (B:Kn)   : Z8 (pj J) 228 [.agg #[.int .i64 a.uid,.int .i64 a.flags,str a.text],.agg #[.int .i64 b.uid,.int .i64 b.flags,str b.text]] B (.bool (decide (a=b))):=by
 refine Zd 20 Tryz.func228 rfl rfl rfl (Nat.le_of_ble_eq_true rfl) ?_
 refine Za (xBx [_,_,_] (h:=fun b1=>xBx [_,_,_] (h:=fun b2=>xA (h:=ZI [_,_] rfl (Zh (Za (xW ZcA (h:=x1 lk3 0 (h:=xW ZcA (h:=x1 lk3 1 (h:=Z4 (h:=Ze rfl (fun g1=>?_) (fun g1=>?_)))))))))))))
 try simp only [sQ,ne_eq] at g1
 refine Za (xA (h:=Zj (Zt ?_)))
 exact ZK .ret (.inl rfl) [_] t1 ⟨Zk (by symm;rw [decide_eq_false_iff_not];rintro rfl;exact g1 rfl),rfl,rfl⟩
 try simp only [sQ,ne_eq] at g1
 refine Zg (Zf (Zh (Za (xW Ze7 (h:=x1 lk3 0 (h:=xW Ze7 (h:=x1 lk3 1 (h:=Z4 (h:=Ze rfl (fun g2=>?_) (fun g2=>?_))))))))))
 try simp only [sQ,ne_eq] at g2
 refine Za (xA (h:=Zj (Zt ?_)))
 exact ZK .ret (.inl rfl) [_] t1 ⟨Zk (by symm;rw [decide_eq_false_iff_not];rintro rfl;exact g2 rfl),rfl,rfl⟩
 try simp only [sQ,ne_eq] at g2
 refine Zg (Zf (Zh (Za (xW ZdU (h:=x1 lk9 0 (h:=xW ZdU (h:=x1 lk9 1 (h:=Zd1 (h:=Ze rfl (fun g3=>?_) (fun g3=>?_))))))))))
 try simp only [sQ,ne_eq] at g3
 refine Za (xA (h:=Zj (Zt ?_)))
 exact ZK .ret (.inl rfl) [_] t1 ⟨Zk (by symm;rw [decide_eq_false_iff_not];rintro rfl;exact g3 rfl),rfl,rfl⟩
 try simp only [sQ,ne_eq] at g3
 refine Zg (Zf (Za (xA (h:=Zj ?_))))
 exact ZK .ret (.inl rfl) [_] t1 ⟨Zk (by symm;rw [decide_eq_true_eq];cases a;cases b;simp_all),rfl,rfl⟩

set_option maxHeartbeats 400000 in
theorem Zoj (q q':Option Addr) (cp cp':Nat) (xs ys:List DUser) (B:Kn) (ha:SlK B q cp 3 Zc xs) (hb:SlK B q' cp' 3 Zc ys):Z8 (pj J) 46 [.slice q xs.length cp,.slice q' ys.length cp'] B (.bool (decide (xs=ys))):=by
 refine Zd 27 Tryz.func46 rfl rfl rfl (Nat.le_of_ble_eq_true rfl) ?_
 have han:=ha.len
 have hbn:=hb.len
 refine Za (xA (h:=Zh (Za (xM (h:=xV Tryz.underlying30 (h:=xM (h:=xV Tryz.underlying30 (h:=Z4 (h:=Ze rfl (fun g1=>?_) (fun g1=>?_))))))))))
 try simp only [sQ,ne_eq] at g1
 refine Za (xA (h:=Zj (Zt ?_)))
 exact ZK .ret (.inl rfl) [_] t1 ⟨Zk (Zf0 g1),rfl,rfl⟩
 try simp only [sQ,ne_eq] at g1
 refine Zg (Zf (Zh (Za (xA (h:=Zm (ZO (α:=Nat) [0,1,10] (fun k=>[(5,.int .i64 k)]) [] (fun k=>[]) (fun k Bx=>Bx=B∧k≤xs.length∧xs.take k=ys.take k) (fun k=>xs.length - k) 0 t1 rfl (⟨rfl,Nat.zero_le _,by simp⟩) (fun k B1 hle1 hI=>?_)))))))
 obtain ⟨rfl,hk,he⟩:=hI
 refine ZR [(0,_),(1,_),(5,_),(10,_)] [] t4 rfl (Zh (Za (xM (h:=xM (h:=xV Tryz.underlying30 (h:=ZM (h:=Ze rfl (fun g2=>?_) (fun g2=>?_))))))))
 try simp only [sQ,ne_eq] at g2
 refine Zg (Zf (Zh (Zm (Zh (Zac (same _ _) mo kr ⟨rfl,rfl⟩ (fun _ _=>?_))))))
 refine aM 0 rfl (h:=aM 1 rfl (h:=?_))
 obtain ⟨x,hx⟩:=Zae (xs:=xs) (i:=k) om
 obtain ⟨bb3,oo3,rfl⟩:=ha.base hx
 obtain ⟨_,⟨rfl,hb4,hb4b⟩,hc4⟩:=ha.elem hx
 refine aIx 2 rfl Tryz.underlying30 Zbs (h:=aT 3 rfl (ZaA fun D=>ZV [_,_,_] rfl rfl ZeK rfl (ZjM hc4 0 rfl rfl) r4) (h:=aM 4 rfl (h:=aM 5 rfl (h:=?_))))
 obtain ⟨y,hy⟩:=Zae (xs:=ys) (i:=k) om
 obtain ⟨bb6,oo6,rfl⟩:=hb.base hy
 obtain ⟨_,⟨rfl,hb7,hb7b⟩,hc7⟩:=hb.elem hy
 refine aIx 6 rfl Tryz.underlying30 Zbs (h:=aT 7 rfl (ZaA fun D=>ZV [_,_,_] rfl rfl ZeK rfl (ZjM hc7 0 rfl rfl) r4) (h:=aT 8 rfl (ZaA fun D=>Zay rfl rfl ZvH rfl (ZpJ x y _ ) r4) (h:=aN 9 rfl (h:=ZB kr kr ?_))))
 refine Zf (Ze rfl (fun g3=>?_) (fun g3=>?_))
 try simp only [sQ,ne_eq] at g3
 refine Za (xA (h:=Zj (ZN (Zt (Z2 (ZN (Zt ?_)))))))
 exact ZK .ret (.inl rfl) [_] t1 ⟨Zk (ZeG hx hy g3),rfl,rfl⟩
 try simp only [sQ,ne_eq] at g3
 refine Zg (Z7 (Zf (Zn (xM (h:=xD (h:=xA (h:=?_)))))))
 exact ZU (k+1) [] so2 ⟨rfl,oz,ZbR hx hy g3 he⟩ t4 rfl
 try simp only [sQ,ne_eq] at g2
 refine ZS (Zaf (ZW (ZG (Zf (Za (xA (h:=Zj ?_)))))))
 exact ZK .ret (.inl rfl) [_] t1 ⟨Zk (eqT oz oz he),rfl,rfl⟩

set_option maxHeartbeats 400000 in
theorem Zmj (q q':Option Addr) (cp cp':Nat) (xs ys:List DGrant) (B:Kn) (ha:SlK B q cp 2 Zah xs) (hb:SlK B q' cp' 2 Zah ys):Z8 (pj J) 160 [.slice q xs.length cp,.slice q' ys.length cp'] B (.bool (decide (xs=ys))):=by
 refine Zd 27 Tryz.func160 rfl rfl rfl (Nat.le_of_ble_eq_true rfl) ?_
 have han:=ha.len
 have hbn:=hb.len
 refine Za (xA (h:=Zh (Za (xM (h:=xV Tryz.underlying68 (h:=xM (h:=xV Tryz.underlying68 (h:=Z4 (h:=Ze rfl (fun g1=>?_) (fun g1=>?_))))))))))
 try simp only [sQ,ne_eq] at g1
 refine Za (xA (h:=Zj (Zt ?_)))
 exact ZK .ret (.inl rfl) [_] t1 ⟨Zk (Zf0 g1),rfl,rfl⟩
 try simp only [sQ,ne_eq] at g1
 refine Zg (Zf (Zh (Za (xA (h:=Zm (ZO (α:=Nat) [0,1,10] (fun k=>[(5,.int .i64 k)]) [] (fun k=>[]) (fun k Bx=>Bx=B∧k≤xs.length∧xs.take k=ys.take k) (fun k=>xs.length - k) 0 t1 rfl (⟨rfl,Nat.zero_le _,by simp⟩) (fun k B1 hle1 hI=>?_)))))))
 obtain ⟨rfl,hk,he⟩:=hI
 refine ZR [(0,_),(1,_),(5,_),(10,_)] [] t4 rfl (Zh (Za (xM (h:=xM (h:=xV Tryz.underlying68 (h:=ZM (h:=Ze rfl (fun g2=>?_) (fun g2=>?_))))))))
 try simp only [sQ,ne_eq] at g2
 refine Zg (Zf (Zh (Zm (Zh (Zac (same _ _) mo kr ⟨rfl,rfl⟩ (fun _ _=>?_))))))
 refine aM 0 rfl (h:=aM 1 rfl (h:=?_))
 obtain ⟨x,hx⟩:=Zae (xs:=xs) (i:=k) om
 obtain ⟨bb3,oo3,rfl⟩:=ha.base hx
 obtain ⟨_,⟨rfl,hb4⟩,hc4⟩:=ha.elem hx
 refine aIx 2 rfl Tryz.underlying68 Zec (h:=aT 3 rfl (ZaA fun D=>ZV [_,_] rfl rfl ZnC rfl (ZjM hc4 0 rfl rfl) r4) (h:=aM 4 rfl (h:=aM 5 rfl (h:=?_))))
 obtain ⟨y,hy⟩:=Zae (xs:=ys) (i:=k) om
 obtain ⟨bb6,oo6,rfl⟩:=hb.base hy
 obtain ⟨_,⟨rfl,hb7⟩,hc7⟩:=hb.elem hy
 refine aIx 6 rfl Tryz.underlying68 Zec (h:=aT 7 rfl (ZaA fun D=>ZV [_,_] rfl rfl ZnC rfl (ZjM hc7 0 rfl rfl) r4) (h:=aT 8 rfl (ZaA fun D=>Zay rfl rfl ZuK rfl (Zon x y _ ) r4) (h:=aN 9 rfl (h:=ZB kr kr ?_))))
 refine Zf (Ze rfl (fun g3=>?_) (fun g3=>?_))
 try simp only [sQ,ne_eq] at g3
 refine Za (xA (h:=Zj (ZN (Zt (Z2 (ZN (Zt ?_)))))))
 exact ZK .ret (.inl rfl) [_] t1 ⟨Zk (ZeG hx hy g3),rfl,rfl⟩
 try simp only [sQ,ne_eq] at g3
 refine Zg (Z7 (Zf (Zn (xM (h:=xD (h:=xA (h:=?_)))))))
 exact ZU (k+1) [] so2 ⟨rfl,oz,ZbR hx hy g3 he⟩ t4 rfl
 try simp only [sQ,ne_eq] at g2
 refine ZS (Zaf (ZW (ZG (Zf (Za (xA (h:=Zj ?_)))))))
 exact ZK .ret (.inl rfl) [_] t1 ⟨Zk (eqT oz oz he),rfl,rfl⟩

set_option maxHeartbeats 400000 in
theorem Zol (q q':Option Addr) (cp cp':Nat) (xs ys:List DMail) (B:Kn) (ha:SlK B q cp 3 Zaw xs) (hb:SlK B q' cp' 3 Zaw ys):Z8 (pj J) 195 [.slice q xs.length cp,.slice q' ys.length cp'] B (.bool (decide (xs=ys))):=by
 refine Zd 27 Tryz.func195 rfl rfl rfl (Nat.le_of_ble_eq_true rfl) ?_
 have han:=ha.len
 have hbn:=hb.len
 refine Za (xA (h:=Zh (Za (xM (h:=xV Tryz.underlying71 (h:=xM (h:=xV Tryz.underlying71 (h:=Z4 (h:=Ze rfl (fun g1=>?_) (fun g1=>?_))))))))))
 try simp only [sQ,ne_eq] at g1
 refine Za (xA (h:=Zj (Zt ?_)))
 exact ZK .ret (.inl rfl) [_] t1 ⟨Zk (Zf0 g1),rfl,rfl⟩
 try simp only [sQ,ne_eq] at g1
 refine Zg (Zf (Zh (Za (xA (h:=Zm (ZO (α:=Nat) [0,1,10] (fun k=>[(5,.int .i64 k)]) [] (fun k=>[]) (fun k Bx=>Bx=B∧k≤xs.length∧xs.take k=ys.take k) (fun k=>xs.length - k) 0 t1 rfl (⟨rfl,Nat.zero_le _,by simp⟩) (fun k B1 hle1 hI=>?_)))))))
 obtain ⟨rfl,hk,he⟩:=hI
 refine ZR [(0,_),(1,_),(5,_),(10,_)] [] t4 rfl (Zh (Za (xM (h:=xM (h:=xV Tryz.underlying71 (h:=ZM (h:=Ze rfl (fun g2=>?_) (fun g2=>?_))))))))
 try simp only [sQ,ne_eq] at g2
 refine Zg (Zf (Zh (Zm (Zh (Zac (same _ _) mo kr ⟨rfl,rfl⟩ (fun _ _=>?_))))))
 refine aM 0 rfl (h:=aM 1 rfl (h:=?_))
 obtain ⟨x,hx⟩:=Zae (xs:=xs) (i:=k) om
 obtain ⟨bb3,oo3,rfl⟩:=ha.base hx
 obtain ⟨_,⟨rfl,hb4⟩,hc4⟩:=ha.elem hx
 refine aIx 2 rfl Tryz.underlying71 Zdf (h:=aT 3 rfl (ZaA fun D=>ZV [_,_,_] rfl rfl Zjg rfl (ZjM hc4 0 rfl rfl) r4) (h:=aM 4 rfl (h:=aM 5 rfl (h:=?_))))
 obtain ⟨y,hy⟩:=Zae (xs:=ys) (i:=k) om
 obtain ⟨bb6,oo6,rfl⟩:=hb.base hy
 obtain ⟨_,⟨rfl,hb7⟩,hc7⟩:=hb.elem hy
 refine aIx 6 rfl Tryz.underlying71 Zdf (h:=aT 7 rfl (ZaA fun D=>ZV [_,_,_] rfl rfl Zjg rfl (ZjM hc7 0 rfl rfl) r4) (h:=aT 8 rfl (ZaA fun D=>Zay rfl rfl Zuz rfl (ZpL x y _ ) r4) (h:=aN 9 rfl (h:=ZB kr kr ?_))))
 refine Zf (Ze rfl (fun g3=>?_) (fun g3=>?_))
 try simp only [sQ,ne_eq] at g3
 refine Za (xA (h:=Zj (ZN (Zt (Z2 (ZN (Zt ?_)))))))
 exact ZK .ret (.inl rfl) [_] t1 ⟨Zk (ZeG hx hy g3),rfl,rfl⟩
 try simp only [sQ,ne_eq] at g3
 refine Zg (Z7 (Zf (Zn (xM (h:=xD (h:=xA (h:=?_)))))))
 exact ZU (k+1) [] so2 ⟨rfl,oz,ZbR hx hy g3 he⟩ t4 rfl
 try simp only [sQ,ne_eq] at g2
 refine ZS (Zaf (ZW (ZG (Zf (Za (xA (h:=Zj ?_)))))))
 exact ZK .ret (.inl rfl) [_] t1 ⟨Zk (eqT oz oz he),rfl,rfl⟩

set_option maxHeartbeats 400000 in
theorem ZpM (q1:Option Addr) (cp1:Nat) (q2:Option Addr) (cp2:Nat) (a b:DItem) (B:Kn) (h1:SlK B q1 cp1 1 ZJ a.left) (h2:SlK B q2 cp2 1 ZJ b.left):Z8 (pj J) 162 [.agg #[.int .i64 a.id,str a.fr,str a.text,.slice q1 a.left.length cp1],.agg #[.int .i64 b.id,str b.fr,str b.text,.slice q2 b.left.length cp2]] B (.bool (decide (a=b))):=by
 refine Zd 26 Tryz.func162 rfl rfl rfl (Nat.le_of_ble_eq_true rfl) ?_
 refine Za (xBx [_,_,_,_] (h:=fun b1=>xBx [_,_,_,_] (h:=fun b2=>xA (h:=ZI [_,_] rfl (Zh (Za (xW ZdX (h:=x1 lk3 0 (h:=xW ZdX (h:=x1 lk3 1 (h:=Z4 (h:=Ze rfl (fun g1=>?_) (fun g1=>?_)))))))))))))
 try simp only [sQ,ne_eq] at g1
 refine Za (xA (h:=Zj (Zt ?_)))
 exact ZK .ret (.inl rfl) [_] t1 ⟨Zk (by symm;rw [decide_eq_false_iff_not];rintro rfl;exact g1 rfl),rfl,rfl⟩
 try simp only [sQ,ne_eq] at g1
 refine Zg (Zf (Zh (Za (xW ZdW (h:=x1 lk9 0 (h:=xW ZdW (h:=x1 lk9 1 (h:=Zd1 (h:=Ze rfl (fun g2=>?_) (fun g2=>?_))))))))))
 try simp only [sQ,ne_eq] at g2
 refine Za (xA (h:=Zj (Zt ?_)))
 exact ZK .ret (.inl rfl) [_] t1 ⟨Zk (by symm;rw [decide_eq_false_iff_not];rintro rfl;exact g2 rfl),rfl,rfl⟩
 try simp only [sQ,ne_eq] at g2
 refine Zg (Zf (Zh (Za (xW Ze8 (h:=x1 lk9 0 (h:=xW Ze8 (h:=x1 lk9 1 (h:=Zd1 (h:=Ze rfl (fun g3=>?_) (fun g3=>?_))))))))))
 try simp only [sQ,ne_eq] at g3
 refine Za (xA (h:=Zj (Zt ?_)))
 exact ZK .ret (.inl rfl) [_] t1 ⟨Zk (by symm;rw [decide_eq_false_iff_not];rintro rfl;exact g3 rfl),rfl,rfl⟩
 try simp only [sQ,ne_eq] at g3
 refine Zg (Zf (Zh (Za (xW Zcj (h:=x1 Zgs 0 (h:=xW Zcj (h:=x1 Zgs 1 (h:=xR Zv0 rfl (Zhe _ _ _ _ _ _ _ h1 h2) (h:=xN (h:=Ze rfl (fun g4=>?_) (fun g4=>?_)))))))))))
 try simp only [sQ,ne_eq] at g4
 refine Za (xA (h:=Zj (Zt ?_)))
 exact ZK .ret (.inl rfl) [_] t1 ⟨Zk (by symm;rw [decide_eq_false_iff_not];rintro rfl;exact g4 rfl),rfl,rfl⟩
 try simp only [sQ,ne_eq] at g4
 refine Zg (Zf (Za (xA (h:=Zj ?_))))
 exact ZK .ret (.inl rfl) [_] t1 ⟨Zk (by symm;rw [decide_eq_true_eq];cases a;cases b;simp_all),rfl,rfl⟩

set_option maxHeartbeats 400000 in
theorem Zom (q q':Option Addr) (cp cp':Nat) (xs ys:List DItem) (B:Kn) (ha:SlK B q cp 4 Zi xs) (hb:SlK B q' cp' 4 Zi ys):Z8 (pj J) 107 [.slice q xs.length cp,.slice q' ys.length cp'] B (.bool (decide (xs=ys))):=by
 refine Zd 27 Tryz.func107 rfl rfl rfl (Nat.le_of_ble_eq_true rfl) ?_
 have han:=ha.len
 have hbn:=hb.len
 refine Za (xA (h:=Zh (Za (xM (h:=xV Tryz.underlying32 (h:=xM (h:=xV Tryz.underlying32 (h:=Z4 (h:=Ze rfl (fun g1=>?_) (fun g1=>?_))))))))))
 try simp only [sQ,ne_eq] at g1
 refine Za (xA (h:=Zj (Zt ?_)))
 exact ZK .ret (.inl rfl) [_] t1 ⟨Zk (Zf0 g1),rfl,rfl⟩
 try simp only [sQ,ne_eq] at g1
 refine Zg (Zf (Zh (Za (xA (h:=Zm (ZO (α:=Nat) [0,1,10] (fun k=>[(5,.int .i64 k)]) [] (fun k=>[]) (fun k Bx=>Bx=B∧k≤xs.length∧xs.take k=ys.take k) (fun k=>xs.length - k) 0 t1 rfl (⟨rfl,Nat.zero_le _,by simp⟩) (fun k B1 hle1 hI=>?_)))))))
 obtain ⟨rfl,hk,he⟩:=hI
 refine ZR [(0,_),(1,_),(5,_),(10,_)] [] t4 rfl (Zh (Za (xM (h:=xM (h:=xV Tryz.underlying32 (h:=ZM (h:=Ze rfl (fun g2=>?_) (fun g2=>?_))))))))
 try simp only [sQ,ne_eq] at g2
 refine Zg (Zf (Zh (Zm (Zh (Zac (same _ _) mo kr ⟨rfl,rfl⟩ (fun _ _=>?_))))))
 refine aM 0 rfl (h:=aM 1 rfl (h:=?_))
 obtain ⟨x,hx⟩:=Zae (xs:=xs) (i:=k) om
 obtain ⟨bb3,oo3,rfl⟩:=ha.base hx
 obtain ⟨_,⟨qi4,ci4,rfl,hi4,hb4,hb4b⟩,hc4⟩:=ha.elem hx
 have hi4n:=hi4.len
 refine aIx 2 rfl Tryz.underlying32 Zbl (h:=aT 3 rfl (ZaA fun D=>ZV [_,_,_,_] rfl rfl Zd4 rfl (ZjM hc4 0 rfl rfl) r4) (h:=aM 4 rfl (h:=aM 5 rfl (h:=?_))))
 obtain ⟨y,hy⟩:=Zae (xs:=ys) (i:=k) om
 obtain ⟨bb6,oo6,rfl⟩:=hb.base hy
 obtain ⟨_,⟨qi7,ci7,rfl,hi7,hb7,hb7b⟩,hc7⟩:=hb.elem hy
 have hi7n:=hi7.len
 refine aIx 6 rfl Tryz.underlying32 Zbl (h:=aT 7 rfl (ZaA fun D=>ZV [_,_,_,_] rfl rfl Zd4 rfl (ZjM hc7 0 rfl rfl) r4) (h:=aT 8 rfl (ZaA fun D=>Zay rfl rfl Zu5 rfl (ZpM _ _ _ _ x y _ hi4 hi7) r4) (h:=aN 9 rfl (h:=ZB kr kr ?_))))
 refine Zf (Ze rfl (fun g3=>?_) (fun g3=>?_))
 try simp only [sQ,ne_eq] at g3
 refine Za (xA (h:=Zj (ZN (Zt (Z2 (ZN (Zt ?_)))))))
 exact ZK .ret (.inl rfl) [_] t1 ⟨Zk (ZeG hx hy g3),rfl,rfl⟩
 try simp only [sQ,ne_eq] at g3
 refine Zg (Z7 (Zf (Zn (xM (h:=xD (h:=xA (h:=?_)))))))
 exact ZU (k+1) [] so2 ⟨rfl,oz,ZbR hx hy g3 he⟩ t4 rfl
 try simp only [sQ,ne_eq] at g2
 refine ZS (Zaf (ZW (ZG (Zf (Za (xA (h:=Zj ?_)))))))
 exact ZK .ret (.inl rfl) [_] t1 ⟨Zk (eqT oz oz he),rfl,rfl⟩

set_option maxHeartbeats 400000 in
theorem Zok (q1:Option Addr) (cp1:Nat) (q2:Option Addr) (cp2:Nat) (a b:DQueue) (B:Kn) (h1:SlK B q1 cp1 4 Zi a.items) (h2:SlK B q2 cp2 4 Zi b.items):Z8 (pj J) 48 [.agg #[.int .i64 a.next,.slice q1 a.items.length cp1],.agg #[.int .i64 b.next,.slice q2 b.items.length cp2]] B (.bool (decide (a=b))):=by
 refine Zd 16 Tryz.func48 rfl rfl rfl (Nat.le_of_ble_eq_true rfl) ?_
 refine Za (xBx [_,_] (h:=fun b1=>xBx [_,_] (h:=fun b2=>xA (h:=ZI [_,_] rfl (Zh (Za (xW Zcw (h:=x1 lk3 0 (h:=xW Zcw (h:=x1 lk3 1 (h:=Z4 (h:=Ze rfl (fun g1=>?_) (fun g1=>?_)))))))))))))
 try simp only [sQ,ne_eq] at g1
 refine Za (xA (h:=Zj (Zt ?_)))
 exact ZK .ret (.inl rfl) [_] t1 ⟨Zk (by symm;rw [decide_eq_false_iff_not];rintro rfl;exact g1 rfl),rfl,rfl⟩
 try simp only [sQ,ne_eq] at g1
 refine Zg (Zf (Zh (Za (xW Zba (h:=x1 Zgt 0 (h:=xW Zba (h:=x1 Zgt 1 (h:=xR ZvF rfl (Zom _ _ _ _ _ _ _ h1 h2) (h:=xN (h:=Ze rfl (fun g2=>?_) (fun g2=>?_)))))))))))
 try simp only [sQ,ne_eq] at g2
 refine Za (xA (h:=Zj (Zt ?_)))
 exact ZK .ret (.inl rfl) [_] t1 ⟨Zk (by symm;rw [decide_eq_false_iff_not];rintro rfl;exact g2 rfl),rfl,rfl⟩
 try simp only [sQ,ne_eq] at g2
 refine Zg (Zf (Za (xA (h:=Zj ?_))))
 exact ZK .ret (.inl rfl) [_] t1 ⟨Zk (by symm;rw [decide_eq_true_eq];cases a;cases b;simp_all),rfl,rfl⟩

end Go.Proofs.YthgggppcgbglkaaGreatDoor
