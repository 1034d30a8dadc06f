/-
  WHAT THE FUNCTIONS THAT THE LAWS REACH COMPUTE: each function's contract, proved off its printed body (the text is written by program). No condition beyond those that each theorem states.
-/
import Derived.Test.YtbebcagblefhcaaGreatDoorC0
namespace Go.Proofs.YtbebcagblefhcaaGreatDoor
open Go Go.BL
set_option linter.unusedVariables false
set_option linter.unusedSimpArgs false
set_option maxRecDepth 4000
set_option maxHeartbeats 6400000
variable {J : JoinT}
theorem Znc (q:Option Addr) (cp:Nat) (xs:List DItem) (last:Int) (B:Kn) (ha:SlK B q cp 4 ZC xs):ZaX (pj J) 178 [.slice q xs.length cp,.int .i64 last] B (.bool (asc 0 last (xs.map (·.id)))):=by
 refine cB 53 Tryz.func178 (h:=?_)
 have hxn:=ha.len
 refine Za (xA (h:=Za (xBs [] [] Tryz.underlying57 sz3 zo3 (h:=fun b1=>xBx [_] (h:=fun b2=>xA (h:=tL2 (Zh (Za (xM (h:=xV Tryz.underlying40 (h:=xM (h:=Zn (ZQ (α:=Gh Int) [0,1,4,5,14,15] (fun g=>[(16,.int .i64 g.k)]) [0,1] (fun g=>[g.l,Z8 b2 [.slice g.a g.xs.length g.c] 296]) (fun g Bx=>Bx=B∧g.k≤xs.length∧g.xs.Perm ((xs.take g.k).map (·.id))∧ZdL g.xs∧ZT Bx g.l g.a g.c 3 1 Zb9 g.xs) (fun g=>xs.length - g.k) ⟨0,0,_,_,_,[]⟩ t1 rfl (⟨rfl,Nat.zero_le _,.refl _,ZsY,.lit0⟩) (fun g B3 hle3 hI=>?_))))))))))))))
 obtain ⟨rfl,hk,hp,hh,hv⟩:=hI
 have hpl:=hp.length_eq
 rw [List.length_map,List.length_take] at hpl
 refine ZN [(0,_),(1,_),(4,_),(5,_),(14,_),(15,_),(16,_)] [_,_] t7 rfl (Za (Zag (h:=Zh (Zb rfl (fun g1=>?_) (fun g1=>?_)))))
 try simp only [sQ,ne_eq] at g1
 refine wSk (Zh (Zn (Za ?_)))
 obtain ⟨x,hx⟩:=ZaA (xs:=xs) (i:=g.k) om
 obtain ⟨bb5,oo5,rfl⟩:=ha.base hx
 obtain ⟨_,⟨qi6,ci6,rfl,hi6,hb6,hb6b⟩,hc6⟩:=ha.elem hx
 have hi6n:=hi6.len
 refine xIx Tryz.underlying40 Zbn (h:=yL [_,_,_,_] Zec hc6 0 (h:=xAl [_,_,_,_] Zc1 (h:=fun b7=>xS [_,_,_,_] 2 [_,_,_,_] Zbn (h:=tL3 (Zc (xM (h:=Zm (ZeB rfl rfl Tryz.underlying295 rfl rfl (xW ZdE (h:=x1 lk3 2 (h:=Zm (ZeB rfl rfl Tryz.underlying3 rfl rfl (xK [1,0] rfl Zyx rfl (Zpe _ _ _ _ _ _ oz hh _ hv) (h:=?_))))))))))))))
 rintro _ Bp _ hlep ⟨rfl,qp,cp,ysp,lp,rfl,hvp,hpp,hhp⟩
 refine Zw (Zj (Zc (xD (h:=xM (h:=?_)))))
 exact ZD ⟨g.k+1,0,lp,_,_,ysp⟩ [0,1] so2 ⟨rfl,so,by simp only [];rw [Zaw hx,List.map_append];exact hpp.trans (hp.append_right _),hhp,hvp⟩ t7 rfl
 try simp only [sQ,ne_eq] at g1
 have hxe:xs.take g.k=xs:=List.take_of_length_le oz
 rw [hxe] at hp
 refine ZU (Zak (Z3 (ZK (Zj (Za (xA (h:=Zh (Za (xM (h:=xV Tryz.underlying40 (h:=xM (h:=Zn (ZQ (α:=Gh2 Int Int) [0,1,5,14,15,16,17,27,28] (fun h=>[(8,.int .i64 h.e),(29,.int .i64 h.k)]) [0,1] (fun h=>[h.l,Z8 b2 [.slice h.a h.xs.length h.c] 296]) (fun h Bx=>Bx=B3∧h.k≤xs.length∧h.xs.Perm ((xs.drop h.k).map (·.id))∧ZdL h.xs∧asc 0 last (xs.map (·.id))=asc h.e last ((xs.drop h.k).map (·.id))∧ZT Bx h.l h.a h.c 3 1 Zb9 h.xs) (fun h=>xs.length - h.k) ⟨0,0,g.l,g.a,g.c,g.xs,0⟩ t2 rfl (⟨rfl,Nat.zero_le _,hp,hh,rfl,hv⟩) (fun h B9 hle9 hI=>?_))))))))))))))
 clear hv hp hpl hh
 obtain ⟨rfl,hk,hp,hh,hs,hv⟩:=hI
 have hpl:=hp.length_eq
 rw [List.length_map,List.length_drop] at hpl
 refine ZN [(0,_),(1,_),(5,_),(8,_),(14,_),(15,_),(16,_),(17,_),(27,_),(28,_),(29,_)] [_,_] t11 rfl (Za (Zag (h:=Zh (Zb rfl (fun g2=>?_) (fun g2=>?_)))))
 try simp only [sQ,ne_eq] at g2
 refine wSk (Zh (Zn (Za ?_)))
 obtain ⟨x,hx⟩:=ZaA (xs:=xs) (i:=h.k) om
 obtain ⟨bb11,oo11,rfl⟩:=ha.base hx
 obtain ⟨_,⟨qi12,ci12,rfl,hi12,hb12,hb12b⟩,hc12⟩:=ha.elem hx
 have hi12n:=hi12.len
 refine xIx Tryz.underlying40 Zbn (h:=?_)
 rw [ZkM hx,List.map_cons] at hp hs
 refine yL [_,_,_,_] Zec hc12 0 (h:=xAl [_,_,_,_] Zc1 (h:=fun b13=>xS [_,_,_,_] 2 [_,_,_,_] Zbn (h:=tL3 (Za (xM (h:=Zm (ZeB rfl rfl Tryz.underlying295 rfl rfl (xK [1,0] rfl Zyw rfl (ZqV _ _ _ _ _ oz oz hh _ hv) (h:=?_)))))))))
 rintro _ Bo _ hleo ⟨rfl,rfl,yso,lo,rfl,hvo,hpo,hho⟩
 refine Zm (Zk7 rfl rfl Tryz.underlying3 rfl rfl (xA (h:=tL3 (Zh (Za (xM (h:=xW ZdE (h:=x1 lk3 2 (h:=Zdt (h:=xM (h:=Zq (d:=41) rfl (fun g3=>?_) (fun g3=>?_))))))))))))
 try simp only [sQ,ne_eq] at g3
 refine xP (h:=xP (h:=xP (h:=xT (h:=xM (h:=xP (h:=xP (h:=xP (h:=xT (h:=Zb (t:=true) rfl (fun _=>Za (xA (h:=Zd (Zp (ZI (Zp (Z7 (ZI (Zp ?_))))))))) (fun h=>Bool.noConfusion h))))))))))
 exact eR t1 ⟨Zk (by rw [hs];exact Ztu hp hh (by simpa using g3)),rfl,rfl⟩
 try simp only [sQ,ne_eq] at g3
 refine xM (h:=xM (h:=ZcO (h:=xF (h:=xM (h:=Zq (d:=46) rfl (fun g4=>?_) (fun g4=>?_))))))
 try simp only [sQ,ne_eq] at g4
 refine xP (h:=xP (h:=xP (h:=xT (h:=Zb (t:=true) rfl (fun _=>Za (xA (h:=Zd (Zp (ZI (Zp (Z7 (ZI (Zp ?_))))))))) (fun h=>Bool.noConfusion h)))))
 exact eR t1 ⟨Zk (by rw [hs];exact Ztt (by rw [← g3];simpa using g4)),rfl,rfl⟩
 try simp only [sQ,ne_eq] at g4
 refine xM (h:=xM (h:=ZbG (h:=xF (h:=Zb rfl (fun g5=>?_) (fun g5=>?_)))))
 try simp only [sQ,ne_eq] at g5
 refine Za (xA (h:=Zd (Zp (ZI (Zp (Z7 (ZI (Zp ?_))))))))
 exact eR t1 ⟨Zk (by rw [hs];exact Zts (by rw [← g3];simpa using g5)),rfl,rfl⟩
 try simp only [sQ,ne_eq] at g5
 refine wSk (Zc (xM (h:=xA (h:=Zw (Zj (Zc (xD (h:=xM (h:=?_)))))))))
 exact ZD ⟨h.k+1,0,lo,_,_,yso,hat h.xs 0⟩ [0,1] so2 ⟨rfl,so,List.Perm.cons_inv ((show (x.id :: yso).Perm (hat h.xs 0 :: yso) from by rw [g3]).trans (hpo.trans hp)),hho,by simp only [];rw [hs,g3];exact ZwZ (by rw [← g3];simpa using g4) (by rw [← g3];simpa using g5),hvo⟩ t11 rfl
 try simp only [sQ,ne_eq] at g2
 rw [Zrs oz,List.map_nil,asc] at hs
 refine ZU (Zak (Z3 (ZK (Zj (Za (xA (h:=Zd ?_)))))))
 exact eR t1 ⟨Zk hs.symm,rfl,rfl⟩

theorem Zna (aq:Option Addr) (cq:Nat) (q:DQueue) (B:Kn) (hq:SlK B aq cq 4 ZC q.items):ZaX (pj J) 124 [.agg #[.int .i64 q.next,.slice aq q.items.length cq]] B (.bool (Zad q)):=by
 refine cB 42 Tryz.func124 (h:=?_)
 have hqn:=hq.len
 refine Za (xBx [_,_] (h:=fun b1=>xA (h:=tL1 (Zh (Za (xW ZaC (h:=x1 Ze7 0 (h:=xV Tryz.underlying40 (h:=ZbG (h:=xM (h:=Zq (d:=9) rfl (fun g1=>?_) (fun g1=>?_))))))))))))
 try simp only [sQ,ne_eq] at g1
 refine xP (h:=xP (h:=xP (h:=xT (h:=xM (h:=xP (h:=xP (h:=xP (h:=xT (h:=Zb (t:=true) rfl (fun _=>Za (xA (h:=Zd (Zp ?_)))) (fun h=>Bool.noConfusion h))))))))))
 exact eR t1 ⟨Zk (ZgJ oz),rfl,rfl⟩
 try simp only [sQ,ne_eq] at g1
 refine xW ZeU (h:=x1 lk3 0 (h:=Zag (h:=xF (h:=xM (h:=Zq (d:=14) rfl (fun g2=>?_) (fun g2=>?_))))))
 try simp only [sQ,ne_eq] at g2
 refine xP (h:=xP (h:=xP (h:=xT (h:=Zb (t:=true) rfl (fun _=>Za (xA (h:=Zd (Zp ?_)))) (fun h=>Bool.noConfusion h)))))
 exact eR t1 ⟨Zk (ZgJ oz),rfl,rfl⟩
 try simp only [sQ,ne_eq] at g2
 refine xW ZeU (h:=x1 lk3 0 (h:=ZbG (h:=xF (h:=Zb rfl (fun g3=>?_) (fun g3=>?_)))))
 try simp only [sQ,ne_eq] at g3
 refine Za (xA (h:=Zd (Zp ?_)))
 exact eR t1 ⟨Zk (ZgJ oz),rfl,rfl⟩
 try simp only [sQ,ne_eq] at g3
 refine wSk (Zh (Za (xW ZaC (h:=x1 Ze7 0 (h:=xV Tryz.underlying40 (h:=xM (h:=Zn (ZQ (α:=Nat) [0,1,18,20,21] (fun k=>[(22,.int .i64 k)]) [] (fun k=>[]) (fun k Bx=>Bx=B∧k≤q.items.length∧(q.items.take k).all ZcH=true) (fun k=>q.items.length - k) 0 t1 rfl (⟨rfl,Nat.zero_le _,by simp⟩) (fun k B2 hle2 hI=>?_)))))))))
 obtain ⟨rfl,hk,ha⟩:=hI
 refine ZN [(0,_),(1,_),(18,_),(20,_),(21,_),(22,_)] [_] t6 rfl (Za (Zag (h:=Zh (Zb rfl (fun g4=>?_) (fun g4=>?_)))))
 try simp only [sQ,ne_eq] at g4
 refine wSk (Zh (Zn (Za ?_)))
 obtain ⟨x,hx⟩:=ZaA (xs:=q.items) (i:=k) om
 obtain ⟨bb4,oo4,rfl⟩:=hq.base hx
 obtain ⟨_,⟨qi5,ci5,rfl,hi5,hb5,hb5b⟩,hc5⟩:=hq.elem hx
 have hi5n:=hi5.len
 refine xIx Tryz.underlying40 Zbn (h:=yL [_,_,_,_] Zec hc5 0 (h:=xAl [_,_,_,_] Zc1 (h:=fun b6=>xS [_,_,_,_] 1 [_,_,_,_] Zbn (h:=tL2 (Za (xW ZkH (h:=x1 lk9 1 (h:=xW ZaR (h:=x1 Zda 1 (h:=xW Znn (h:=x1 lk9 1 (h:=xB [(0,_),(1,_),(2,_)] [_,_,_] [_,_,_] Zsv Zov (h:=xR ZyP rfl (ZlQ _ _ ⟨x.fr,x.left,x.text⟩ _ hi5 oa oa) (h:=?_))))))))))))))
 refine xN (h:=Zb rfl (fun g5=>?_) (fun g5=>?_))
 try simp only [sQ,ne_eq] at g5
 refine Za (xA (h:=Zd (ZI (Zp (Z7 (ZI (Zp ?_)))))))
 exact eR t1 ⟨Zk (ZmS hx g5),rfl,rfl⟩
 try simp only [sQ,ne_eq] at g5
 refine ZL (Zw (Zj (Zc (xD (h:=xM (h:=?_))))))
 exact ZD (k+1) [0] so2 ⟨rfl,oz,Zw1 hx g5 ha⟩ t6 rfl
 try simp only [sQ,ne_eq] at g4
 refine ZU (Zak (Z3 (ZK (Zj (Za (xW ZaC (h:=x1 Ze7 0 (h:=xW ZeU (h:=x1 lk3 0 (h:=xU (h:=xR ZyO rfl (Znc _ _ _ _ _ hq) (h:=xA (h:=Zd ?_)))))))))))))
 exact eR t1 ⟨Zk (ZmR oz ha oz oz oz),rfl,rfl⟩

theorem Zfa (n:Int) (B:Kn):ZaX (pj J) 204 [.int .i64 n] B (.bool (decide (0≤n) && decide (n≤31))):=by
 refine cB 5 Tryz.func204 (h:=?_)
 refine Za (xA (h:=Za (xM (h:=xR ZjW rfl (Zct _ _ _ _) (h:=xA (h:=Zd ?_))))))
 exact eR t1 ⟨rfl,rfl,rfl⟩

theorem Znb (n:Int) (B:Kn):ZaX (pj J) 155 [.int .i64 n] B (.bool (decide (0≤n) && decide (n≤31))):=by
 refine cB 9 Tryz.func155 (h:=?_)
 refine Za (xA (h:=Za (xM (h:=ZdN (h:=xM (h:=Zq (d:=5) rfl (fun g1=>?_) (fun g1=>?_)))))))
 refine xM (h:=ZcO (h:=xT (h:=xA (h:=Zd ?_))))
 exact eR t1 ⟨Zk (by rw [Bool.eq_iff_iff];simp [g1];try omega),rfl,rfl⟩
 refine xP (h:=xP (h:=xF (h:=xA (h:=Zd ?_))))
 exact eR t1 ⟨Zk (by rw [Bool.eq_iff_iff];simp [g1];try omega),rfl,rfl⟩

theorem ZqN (m:DMail) (hm:m.text.length≤2000000) (B:Kn):ZaX (pj J) 152 [.agg #[.int .i64 m.uid,.int .i64 m.flags,str m.text]] B (.bool (ZbC m)):=by
 refine cB 17 Tryz.func152 (h:=?_)
 refine Za (xBx [_,_,_] (h:=fun b1=>xA (h:=tL1 (Za (xW Zhw (h:=x1 lk3 0 (h:=xR ZjW rfl (Zct _ _ _ _) (h:=xM (h:=Zq (d:=6) rfl (fun g1=>?_) (fun g1=>?_))))))))))
 refine xW ZiV (h:=x1 lk3 0 (h:=xR Zrp rfl (Zfa _ _) (h:=xT (h:=xM (h:=Zq (d:=11) rfl (fun g2=>?_) (fun g2=>?_))))))
 refine xW ZlZ (h:=x1 lk9 0 (h:=xVs Tryz.underlying9 (h:=ZcO (h:=xT (h:=xA (h:=Zd ?_))))))
 exact eR t1 ⟨Zk (by rw [Bool.eq_iff_iff];simp [ZbC,g1,g2];try omega),rfl,rfl⟩
 refine xP (h:=xP (h:=xP (h:=xP (h:=xF (h:=xA (h:=Zd ?_))))))
 exact eR t1 ⟨Zk (by rw [Bool.eq_iff_iff];simp [ZbC,g1,g2];try omega),rfl,rfl⟩
 refine xP (h:=xP (h:=xP (h:=xF (h:=xM (h:=xP (h:=xP (h:=xP (h:=xP (h:=xF (h:=xA (h:=Zd ?_)))))))))))
 exact eR t1 ⟨Zk (by rw [Bool.eq_iff_iff];simp [ZbC,g1];try omega),rfl,rfl⟩

theorem Zo9 (m:DMail) (hm:m.text.length≤2000000) (B:Kn):ZaX (pj J) 153 [.agg #[.int .i64 m.uid,.int .i64 m.flags,str m.text]] B (.bool (ZbC m)):=by
 refine cB 22 Tryz.func153 (h:=?_)
 refine Za (xBx [_,_,_] (h:=fun b1=>xA (h:=tL1 (Za (xW Zhw (h:=x1 lk3 0 (h:=ZdN (h:=xM (h:=Zq (d:=6) rfl (fun g1=>?_) (fun g1=>?_))))))))))
 refine xW Zhw (h:=x1 lk3 0 (h:=ZcO (h:=xT (h:=xM (h:=Zq (d:=11) rfl (fun g2=>?_) (fun g2=>?_))))))
 refine xW ZiV (h:=x1 lk3 0 (h:=xR Zy6 rfl (Znb _ _) (h:=xT (h:=xM (h:=Zq (d:=16) rfl (fun g3=>?_) (fun g3=>?_))))))
 refine xW ZlZ (h:=x1 lk9 0 (h:=xVs Tryz.underlying9 (h:=ZcO (h:=xT (h:=xA (h:=Zd ?_))))))
 exact eR t1 ⟨Zk (by rw [Bool.eq_iff_iff];simp [ZbC,g1,g2,g3];try omega),rfl,rfl⟩
 refine xP (h:=xP (h:=xP (h:=xP (h:=xF (h:=xA (h:=Zd ?_))))))
 exact eR t1 ⟨Zk (by rw [Bool.eq_iff_iff];simp [ZbC,g1,g2,g3];try omega),rfl,rfl⟩
 refine xP (h:=xP (h:=xP (h:=xF (h:=xM (h:=xP (h:=xP (h:=xP (h:=xP (h:=xF (h:=xA (h:=Zd ?_)))))))))))
 exact eR t1 ⟨Zk (by rw [Bool.eq_iff_iff];simp [ZbC,g1,g2];try omega),rfl,rfl⟩
 refine xP (h:=xP (h:=xP (h:=xF (h:=xM (h:=xP (h:=xP (h:=xP (h:=xF (h:=xM (h:=xP (h:=xP (h:=xP (h:=xP (h:=xF (h:=xA (h:=Zd ?_))))))))))))))))
 exact eR t1 ⟨Zk (by rw [Bool.eq_iff_iff];simp [ZbC,g1];try omega),rfl,rfl⟩

theorem Zgk (q:Option Addr) (cp:Nat) (x:DBox) (B:Kn) (hx:SlK B q cp 3 ZS x.mail):ZaX (pj J) 103 [.agg #[.int .i64 x.next,.slice q x.mail.length cp]] B (.bool (Zbm x)):=by
 refine cB 46 Tryz.func103 (h:=?_)
 have hxn:=hx.len
 refine Za (xBx [_,_] (h:=fun b1=>xA (h:=tL1 (Za (xA (h:=Zh (Za (xA (h:=Zn (ZQ (α:=Nat × Int) [0,1] (fun g=>[(3,.int .i64 g.2),(4,.int .i64 g.1)]) [] (fun g=>[]) (fun g Bx=>Bx=B∧g.1≤x.mail.length∧Zcj (x.mail.take g.1)=(true,g.2)∧0≤g.2∧g.2≤99) (fun g=>x.mail.length - g.1) (0,0) t2 rfl (⟨rfl,Nat.zero_le _,Ze3,oz,oz⟩) (fun g B2 hle2 hI=>?_)))))))))))
 obtain ⟨rfl,hk,hs,hl0,hl1⟩:=hI
 refine ZN [(0,_),(1,_),(3,_),(4,_)] [_] t4 rfl (Zh (Za (xM (h:=xW Za0 (h:=x1 Zgc 0 (h:=xV Tryz.underlying83 (h:=Zag (h:=Zb rfl (fun g1=>?_) (fun g1=>?_)))))))))
 try simp only [sQ,ne_eq] at g1
 refine wSk (Zh (Zn (Zh (Za (xW Za0 (h:=x1 Zgc 0 (h:=xM (h:=?_))))))))
 obtain ⟨m,hm⟩:=ZaA (xs:=x.mail) (i:=g.1) om
 obtain ⟨bb4,oo4,rfl⟩:=hx.base hm
 obtain ⟨_,⟨rfl,hb5⟩,hc5⟩:=hx.elem hm
 refine xIx Tryz.underlying83 ZhC (h:=yL [_,_,_] Zvz hc5 0 (h:=xR Zy8 rfl (ZqN m om2 _) (h:=?_)))
 refine xN (h:=xM (h:=Zq (d:=19) rfl (fun g2=>?_) (fun g2=>?_)))
 try simp only [sQ,ne_eq] at g2
 refine xP (h:=xP (h:=xP (h:=xP (h:=xP (h:=xP (h:=xP (h:=xP (h:=xT (h:=Zb (t:=true) rfl (fun _=>Za (xA (h:=Zd (Zp (ZI (Zp (Z7 (ZI (Zp ?_))))))))) (fun h=>Bool.noConfusion h))))))))))
 exact eR t1 ⟨Zk (ZgA (ZfX hm (by rw [show (scn ZbM (fun _ m=>m.uid) 0 (x.mail.take g.1)).2=g.2 from congrArg Prod.snd hs];simp [ZbM,g2]))).symm,rfl,rfl⟩
 try simp only [sQ,ne_eq] at g2
 refine xW Za0 (h:=x1 Zgc 0 (h:=xM (h:=xIx Tryz.underlying83 ZhC (h:=xW Zhw (h:=y1 lk3 hc5 0 (h:=xM (h:=ZcO (h:=xF (h:=Zb rfl (fun g3=>?_) (fun g3=>?_))))))))))
 try simp only [sQ,ne_eq] at g3
 refine Za (xA (h:=Zd (Zp (ZI (Zp (Z7 (ZI (Zp ?_))))))))
 exact eR t1 ⟨Zk (ZgA (ZfX hm (by rw [show (scn ZbM (fun _ m=>m.uid) 0 (x.mail.take g.1)).2=g.2 from congrArg Prod.snd hs];simp [ZbM,g2];omega))).symm,rfl,rfl⟩
 try simp only [sQ,ne_eq] at g3
 refine wSk (Zc (xW Za0 (h:=x1 Zgc 0 (h:=xM (h:=xIx Tryz.underlying83 ZhC (h:=xW Zhw (h:=y1 lk3 hc5 0 (h:=xA (h:=Zw (Zj (Zc (xM (h:=xD (h:=xA (h:=?_)))))))))))))))
 exact ZD (g.1+1,m.uid) [0] so2 ⟨rfl,oz,Zci hm hs (by simp [ZbM,g2];omega),ZjL g2⟩ t4 rfl
 try simp only [sQ,ne_eq] at g1
 refine ZU (Zak (Z3 (ZK (Zj (Za (xW ZcP (h:=x1 lk3 0 (h:=xM (h:=xD (h:=xR ZjW rfl (Zct _ _ _ _) (h:=xM (h:=Zq (d:=40) rfl (fun g4=>?_) (fun g4=>?_)))))))))))))
 try simp only [sQ,ne_eq] at g4
 refine xW Za0 (h:=x1 Zgc 0 (h:=xV Tryz.underlying83 (h:=ZcO (h:=xT (h:=xA (h:=Zd ?_))))))
 exact eR t1 ⟨Zk (by rw [ZdH (Zea hs oz),g4,Bool.true_and,Bool.eq_iff_iff];simp;omega),rfl,rfl⟩
 try simp only [sQ,ne_eq] at g4
 refine xP (h:=xP (h:=xP (h:=xP (h:=xF (h:=xA (h:=Zd ?_))))))
 exact eR t1 ⟨Zk (by rw [ZdH (Zea hs oz),g4,Bool.false_and]),rfl,rfl⟩

theorem ZlS (q:Option Addr) (cp:Nat) (x:DBox) (B:Kn) (hx:SlK B q cp 3 ZS x.mail):ZaX (pj J) 104 [.agg #[.int .i64 x.next,.slice q x.mail.length cp]] B (.bool (Zbm x)):=by
 refine cB 38 Tryz.func104 (h:=?_)
 have hxn:=hx.len
 refine Za (xBx [_,_] (h:=fun b1=>xA (h:=tL1 (Zh (Za (xW Za0 (h:=x1 Zgc 0 (h:=xV Tryz.underlying83 (h:=ZbG (h:=Zb rfl (fun g0=>?_) (fun g0=>?_)))))))))))
 try simp only [sQ,ne_eq] at g0
 refine Za (xA (h:=Zd (Zp ?_)))
 exact eR t1 ⟨Zk (by simp [Zbm];omega),rfl,rfl⟩
 try simp only [sQ,ne_eq] at g0
 refine wSk (Za (xA (h:=Zh (Za (xW Za0 (h:=x1 Zgc 0 (h:=xV Tryz.underlying83 (h:=xM (h:=Zn (ZQ (α:=Nat × Int) [0,1,9,11,12] (fun g=>[(3,.int .i64 g.2),(13,.int .i64 g.1)]) [] (fun g=>[]) (fun g Bx=>Bx=B∧g.1≤x.mail.length∧Zcj (x.mail.take g.1)=(true,g.2)∧0≤g.2∧g.2≤99) (fun g=>x.mail.length - g.1) (0,0) t2 rfl (⟨rfl,Nat.zero_le _,Ze3,oz,oz⟩) (fun g B2 hle2 hI=>?_)))))))))))
 obtain ⟨rfl,hk,hs,hl0,hl1⟩:=hI
 refine ZN [(0,_),(1,_),(3,_),(9,_),(11,_),(12,_),(13,_)] [_] t7 rfl (Za (Zag (h:=Zh (Zb rfl (fun g1=>?_) (fun g1=>?_)))))
 try simp only [sQ,ne_eq] at g1
 refine wSk (Zh (Zn (Za ?_)))
 obtain ⟨m,hm⟩:=ZaA (xs:=x.mail) (i:=g.1) om
 obtain ⟨bb4,oo4,rfl⟩:=hx.base hm
 obtain ⟨_,⟨rfl,hb5⟩,hc5⟩:=hx.elem hm
 refine xIx Tryz.underlying83 ZhC (h:=yL [_,_,_] Zvz hc5 0 (h:=xAl [_,_,_] Zou (h:=fun b6=>xS [_,_,_] 1 [_,_,_] ZhC (h:=tL2 (Zh (Za (xL [_,_,_] Zvz 1 (h:=xR Zy7 rfl (Zo9 m om2 _) (h:=?_)))))))))
 refine xN (h:=xM (h:=Zq (d:=20) rfl (fun g2=>?_) (fun g2=>?_)))
 try simp only [sQ,ne_eq] at g2
 refine xP (h:=xP (h:=xP (h:=xP (h:=xT (h:=Zb (t:=true) rfl (fun _=>Za (xA (h:=Zd (Zp (ZI (Zp (Z7 (ZI (Zp ?_))))))))) (fun h=>Bool.noConfusion h))))))
 exact eR t1 ⟨Zk (ZgA (ZfX hm (by rw [show (scn ZbM (fun _ m=>m.uid) 0 (x.mail.take g.1)).2=g.2 from congrArg Prod.snd hs];simp [ZbM,g2]))).symm,rfl,rfl⟩
 try simp only [sQ,ne_eq] at g2
 refine xW Zhw (h:=x1 lk3 1 (h:=xM (h:=ZcO (h:=xF (h:=Zb rfl (fun g3=>?_) (fun g3=>?_))))))
 try simp only [sQ,ne_eq] at g3
 refine Za (xA (h:=Zd (Zp (ZI (Zp (Z7 (ZI (Zp ?_))))))))
 exact eR t1 ⟨Zk (ZgA (ZfX hm (by rw [show (scn ZbM (fun _ m=>m.uid) 0 (x.mail.take g.1)).2=g.2 from congrArg Prod.snd hs];simp [ZbM,g2];omega))).symm,rfl,rfl⟩
 try simp only [sQ,ne_eq] at g3
 refine wSk (Zc (xW Zhw (h:=x1 lk3 1 (h:=xA (h:=Zw (Zj (Zc (xD (h:=xM (h:=?_))))))))))
 exact ZD (g.1+1,m.uid) [0] so2 ⟨rfl,oz,Zci hm hs (by simp [ZbM,g2];omega),ZjL g2⟩ t7 rfl
 try simp only [sQ,ne_eq] at g1
 refine ZU (Zak (Z3 (ZK (Zj (Za (xW ZcP (h:=x1 lk3 0 (h:=xM (h:=ZbG (h:=xM (h:=Zq (d:=33) rfl (fun g4=>?_) (fun g4=>?_))))))))))))
 try simp only [sQ,ne_eq] at g4
 refine xW ZcP (h:=x1 lk3 0 (h:=ZcO (h:=xT (h:=xA (h:=Zd ?_)))))
 exact eR t1 ⟨Zk (by rw [ZdH (Zea hs oz),Bool.eq_iff_iff];simp;omega),rfl,rfl⟩
 try simp only [sQ,ne_eq] at g4
 refine xP (h:=xP (h:=xP (h:=xF (h:=xA (h:=Zd ?_)))))
 exact eR t1 ⟨Zk (by rw [ZdH (Zea hs oz),Bool.eq_iff_iff];simp;omega),rfl,rfl⟩

theorem ZqM (q:Option Addr) (cp:Nat) (x:DBox) (B:Kn) (hx:SlK B q cp 3 ZS x.mail):ZaX (pj J) 138 [.agg #[.int .i64 x.next,.slice q x.mail.length cp]] B (.int .i64 (Zah x.mail)):=by
 refine cB 22 Tryz.func138 (h:=?_)
 have hxn:=hx.len
 refine Za (xBx [_,_] (h:=fun b1=>xA (h:=tL1 (Za (xA (h:=Zh (Za (xA (h:=Zn (ZQ (α:=Nat × Nat) [0,1,2] (fun g=>[(3,.int .i64 g.2),(4,.int .i64 g.1)]) [] (fun g=>[]) (fun g Bx=>Bx=B∧g.1≤x.mail.length∧g.2=Zah (x.mail.take g.1)∧g.2≤g.1*2000000) (fun g=>x.mail.length - g.1) (0,0) t2 rfl (⟨rfl,Nat.zero_le _,by simp [Zah],oz⟩) (fun g B2 hle2 hI=>?_)))))))))))
 obtain ⟨rfl,hk,hs,hl⟩:=hI
 refine ZN [(0,_),(1,_),(2,_),(3,_),(4,_)] [_] t5 rfl (Zh (Za (xM (h:=xW Za0 (h:=x1 Zgc 0 (h:=xV Tryz.underlying83 (h:=Zag (h:=Zb rfl (fun g1=>?_) (fun g1=>?_)))))))))
 try simp only [sQ,ne_eq] at g1
 refine wSk (Zh (Zn (Zc (xM (h:=xW Za0 (h:=x1 Zgc 0 (h:=xM (h:=?_))))))))
 obtain ⟨m,hm⟩:=ZaA (xs:=x.mail) (i:=g.1) om
 obtain ⟨bb4,oo4,rfl⟩:=hx.base hm
 obtain ⟨_,⟨rfl,hb5⟩,hc5⟩:=hx.elem hm
 refine xIx Tryz.underlying83 ZhC (h:=xW ZlZ (h:=y1 lk9 hc5 2 (h:=xVs Tryz.underlying9 (h:=xD (h:=xA (h:=Zw (Zj (Zc (xM (h:=xD (h:=xA (h:=?_))))))))))))
 exact ZD (g.1+1,g.2+m.text.length) [0] so2 ⟨rfl,oz,by rw [Zin hm,← hs],oz⟩ t5 rfl
 try simp only [sQ,ne_eq] at g1
 refine ZU (Zak (Z3 (ZK (Zj (Za (xM (h:=xA (h:=Zd ?_))))))))
 exact eR t1 ⟨ZaH (by rw [← ZjA hs oz]),rfl,rfl⟩

theorem ZrC (q:Option Addr) (cp:Nat) (x:DBox) (B:Kn) (hx:SlK B q cp 3 ZS x.mail):ZaX (pj J) 209 [.agg #[.int .i64 x.next,.slice q x.mail.length cp]] B (.int .i64 (Zeg x)):=by
 refine cB 23 Tryz.func209 (h:=?_)
 have hxn:=hx.len
 refine Za (xBx [_,_] (h:=fun b1=>xA (h:=tL1 (Zh (Za (xL [_,_] ZbT 0 (h:=xR ZwS rfl (ZlS _ _ (⟨x.next,x.mail⟩:DBox) _ hx) (h:=xN (h:=Zb rfl (fun g0=>?_) (fun g0=>?_))))))))))
 try simp only [sQ,ne_eq] at g0
 refine Za (xA (h:=Zd (Zp ?_)))
 exact eR t1 ⟨ZaH (by simp [Zeg,g0]),rfl,rfl⟩
 try simp only [sQ,ne_eq] at g0
 refine wSk (Za (xA (h:=Zh (Za (xW Za0 (h:=x1 Zgc 0 (h:=xV Tryz.underlying83 (h:=xM (h:=Zn (ZQ (α:=Nat × Nat) [0,1,2,8,10,11] (fun g=>[(3,.int .i64 g.2),(12,.int .i64 g.1)]) [] (fun g=>[]) (fun g Bx=>Bx=B∧g.1≤x.mail.length∧g.2=Zah (x.mail.take g.1)∧g.2≤g.1*2000000) (fun g=>x.mail.length - g.1) (0,0) t2 rfl (⟨rfl,Nat.zero_le _,by simp [Zah],oz⟩) (fun g B3 hle3 hI=>?_)))))))))))
 obtain ⟨rfl,hk,hs,hl⟩:=hI
 refine ZN [(0,_),(1,_),(2,_),(3,_),(8,_),(10,_),(11,_),(12,_)] [_] t8 rfl (Za (Zag (h:=Zh (Zb rfl (fun g1=>?_) (fun g1=>?_)))))
 try simp only [sQ,ne_eq] at g1
 refine wSk (Zh (Zn (Za ?_)))
 obtain ⟨m,hm⟩:=ZaA (xs:=x.mail) (i:=g.1) om
 obtain ⟨bb5,oo5,rfl⟩:=hx.base hm
 obtain ⟨_,⟨rfl,hb6⟩,hc6⟩:=hx.elem hm
 refine xIx Tryz.underlying83 ZhC (h:=yL [_,_,_] Zvz hc6 0 (h:=xAl [_,_,_] Zou (h:=fun b7=>xS [_,_,_] 1 [_,_,_] ZhC (h:=tL2 (Zc (xM (h:=xW ZlZ (h:=x1 lk9 1 (h:=xVs Tryz.underlying9 (h:=xD (h:=xA (h:=Zw (Zj (Zc (xD (h:=xM (h:=?_)))))))))))))))))
 exact ZD (g.1+1,g.2+m.text.length) [0] so2 ⟨rfl,oz,by rw [Zin hm,← hs],oz⟩ t8 rfl
 try simp only [sQ,ne_eq] at g1
 refine ZU (Zak (Z3 (ZK (Zj (Za (xM (h:=xA (h:=Zd ?_))))))))
 exact eR t1 ⟨ZaH (by rw [Zeg,if_pos g0,← ZjA hs oz]),rfl,rfl⟩

theorem Zso (n:Int) (B:Kn):ZaX (pj J) 253 [.int .i64 n] B (.bool (decide (0≤n) && decide (n≤63))):=by
 refine cB 9 Tryz.func253 (h:=?_)
 refine Za (xA (h:=Za (xM (h:=ZdN (h:=xM (h:=Zq (d:=5) rfl (fun g1=>?_) (fun g1=>?_)))))))
 refine xM (h:=ZcO (h:=xT (h:=xA (h:=Zd ?_))))
 exact eR t1 ⟨Zk (by rw [Bool.eq_iff_iff];simp [g1];try omega),rfl,rfl⟩
 refine xP (h:=xP (h:=xF (h:=xA (h:=Zd ?_))))
 exact eR t1 ⟨Zk (by rw [Bool.eq_iff_iff];simp [g1];try omega),rfl,rfl⟩

theorem Zmz (u:DUser) (h1:u.name.length≤2000000) (h2:u.pass.length≤2000000) (B:Kn):ZaX (pj J) 176 [.agg #[str u.name,str u.pass,.int .i64 u.quota]] B (.bool (ZcB u)):=by
 refine cB 26 Tryz.func176 (h:=?_)
 refine Za (xBx [_,_,_] (h:=fun b1=>xA (h:=tL1 (Za (xW Zb7 (h:=x1 lk9 0 (h:=xR Zl7 rfl (Zcu _ om2 _) (h:=?_))))))))
 refine xM (h:=Zq (d:=6) rfl (fun g1=>?_) (fun g1=>?_))
 try simp only [sQ,ne_eq] at g1
 refine xW Zb7 (h:=x1 lk9 0 (h:=Zjp (h:=xT (h:=xM (h:=Zq (d:=11) rfl (fun g2=>?_) (fun g2=>?_))))))
 try simp only [sQ,ne_eq] at g2
 refine xW Zno (h:=x1 lk9 0 (h:=xR Zl7 rfl (Zcu _ om2 _) (h:=?_)))
 refine xT (h:=xM (h:=Zq (d:=16) rfl (fun g3=>?_) (fun g3=>?_)))
 try simp only [sQ,ne_eq] at g3
 refine xW Zf3 (h:=x1 lk3 0 (h:=ZdN (h:=xT (h:=xM (h:=Zq (d:=21) rfl (fun g4=>?_) (fun g4=>?_))))))
 try simp only [sQ,ne_eq] at g4
 refine xW Zf3 (h:=x1 lk3 0 (h:=ZcO (h:=xT (h:=xA (h:=Zd ?_)))))
 exact eR t1 ⟨Zk (by rw [Bool.eq_iff_iff];simp [ZcB,anyone,g1,g2,g3,g4];try omega),rfl,rfl⟩
 try simp only [sQ,ne_eq] at g4
 refine xP (h:=xP (h:=xP (h:=xF (h:=xA (h:=Zd ?_)))))
 exact eR t1 ⟨Zk (by rw [Bool.eq_iff_iff];simp [ZcB,anyone,g1,g2,g3,g4];try omega),rfl,rfl⟩
 try simp only [sQ,ne_eq] at g3
 refine xP (h:=xP (h:=xP (h:=xF (h:=xM (h:=xP (h:=xP (h:=xP (h:=xF (h:=xA (h:=Zd ?_))))))))))
 exact eR t1 ⟨Zk (by rw [Bool.eq_iff_iff];simp [ZcB,anyone,g1,g2,g3];try omega),rfl,rfl⟩
 try simp only [sQ,ne_eq] at g2
 refine xP (h:=xP (h:=xP (h:=xF (h:=xM (h:=xP (h:=xP (h:=xP (h:=xF (h:=xM (h:=xP (h:=xP (h:=xP (h:=xF (h:=xA (h:=Zd ?_)))))))))))))))
 exact eR t1 ⟨Zk (by rw [Bool.eq_iff_iff];simp [ZcB,anyone,g1,g2];try omega),rfl,rfl⟩
 try simp only [sQ,ne_eq] at g1
 refine xP (h:=xP (h:=xP (h:=xF (h:=xM (h:=xP (h:=xP (h:=xP (h:=xF (h:=xM (h:=xP (h:=xP (h:=xP (h:=xF (h:=xM (h:=xP (h:=xP (h:=xP (h:=xF (h:=xA (h:=Zd ?_))))))))))))))))))))
 exact eR t1 ⟨Zk (by rw [Bool.eq_iff_iff];simp [ZcB,anyone,g1];try omega),rfl,rfl⟩

theorem ZiI (q:Option Addr) (cp:Nat) (us:List DUser) (B:Kn) (hu:SlK B q cp 3 ZA us):ZaX (pj J) 123 [.slice q us.length cp] B (.bool (Zar us)):=by
 refine cB 32 Tryz.func123 (h:=?_)
 have hun:=hu.len
 refine Za (xA (h:=Zh (Za (xM (h:=xV Tryz.underlying38 (h:=Zag (h:=xM (h:=Zq (d:=9) rfl (fun g0=>?_) (fun g0=>?_)))))))))
 try simp only [sQ,ne_eq] at g0
 refine xP (h:=xP (h:=xP (h:=xT (h:=Zb (t:=true) rfl (fun _=>Za (xA (h:=Zd (Zp ?_)))) (fun h=>Bool.noConfusion h)))))
 exact eR t1 ⟨Zk (by rw [Bool.eq_iff_iff];simp [Zar];omega),rfl,rfl⟩
 try simp only [sQ,ne_eq] at g0
 refine xM (h:=xV Tryz.underlying38 (h:=ZbG (h:=xF (h:=Zb rfl (fun g0b=>?_) (fun g0b=>?_)))))
 try simp only [sQ,ne_eq] at g0b
 refine Za (xA (h:=Zd (Zp ?_)))
 exact eR t1 ⟨Zk (by rw [Bool.eq_iff_iff];simp [Zar];omega),rfl,rfl⟩
 try simp only [sQ,ne_eq] at g0b
 refine wSk (Za (xA (h:=Zh (Za (xM (h:=xV Tryz.underlying38 (h:=xM (h:=Zn (ZQ (α:=Nat × Str) [0,13,14,15] (fun g=>[(3,str g.2),(16,.int .i64 g.1)]) [] (fun g=>[]) (fun g Bx=>Bx=B∧g.1≤us.length∧ZdT (us.take g.1)=(true,g.2)∧g.2.length≤2000000) (fun g=>us.length - g.1) (0,[]) t2 rfl (⟨rfl,Nat.zero_le _,Ze3,by simp⟩) (fun g B1 hle1 hI=>?_))))))))))
 obtain ⟨rfl,hk,hs,hl⟩:=hI
 refine ZN [(0,_),(3,_),(13,_),(14,_),(15,_),(16,_)] [] t6 rfl (Za (Zag (h:=Zh (Zb rfl (fun g1=>?_) (fun g1=>?_)))))
 try simp only [sQ,ne_eq] at g1
 refine wSk (Zh (Zn (Za ?_)))
 obtain ⟨m,hm⟩:=ZaA (xs:=us) (i:=g.1) om
 obtain ⟨bb3,oo3,rfl⟩:=hu.base hm
 obtain ⟨_,⟨rfl,hb4,hb4b⟩,hc4⟩:=hu.elem hm
 refine xIx Tryz.underlying38 ZbQ (h:=yL [_,_,_] ZhD hc4 0 (h:=xAl [_,_,_] ZcN (h:=fun b5=>xS [_,_,_] 0 [_,_,_] ZbQ (h:=tL1 (Zh (Za (xL [_,_,_] ZhD 0 (h:=xR ZyQ rfl (Zmz m om2 om2 _) (h:=?_)))))))))
 refine xN (h:=xM (h:=Zq (d:=23) rfl (fun g2=>?_) (fun g2=>?_)))
 try simp only [sQ,ne_eq] at g2
 refine xP (h:=xP (h:=xP (h:=xP (h:=xT (h:=Zb (t:=true) rfl (fun _=>Za (xA (h:=Zd (Zp (ZI (Zp (Z7 (ZI (Zp ?_))))))))) (fun h=>Bool.noConfusion h))))))
 exact eR t1 ⟨Zk (ZfP (ZfX hm (by rw [show (scn Zdw (fun _ u=>u.name) [] (us.take g.1)).2=g.2 from congrArg Prod.snd hs];simp [Zdw,g2]))).symm,rfl,rfl⟩
 try simp only [sQ,ne_eq] at g2
 refine xW Zb7 (h:=x1 lk9 0 (h:=xM (h:=Zm (ZtK rfl rfl rfl rfl (xF (h:=Zb rfl (fun g3=>?_) (fun g3=>?_)))))))
 try simp only [sQ,ne_eq] at g3
 refine Za (xA (h:=Zd (Zp (ZI (Zp (Z7 (ZI (Zp ?_))))))))
 exact eR t1 ⟨Zk (ZfP (ZfX hm (by rw [show (scn Zdw (fun _ u=>u.name) [] (us.take g.1)).2=g.2 from congrArg Prod.snd hs,Zdw,Zbr g.2 m.name,g3];simp))).symm,rfl,rfl⟩
 try simp only [sQ,ne_eq] at g3
 refine wSk (Zc (xW Zb7 (h:=x1 lk9 0 (h:=xA (h:=Zw (Zj (Zc (xD (h:=xM (h:=?_))))))))))
 exact ZD (g.1+1,m.name) [] so2 ⟨rfl,oz,Zci hm hs (by rw [Zdw,Zbr g.2 m.name,g2,g3];rfl),oy⟩ t6 rfl
 try simp only [sQ,ne_eq] at g1
 refine ZU (Zak (Z3 (ZK (Zj (Za (xA (h:=Zd ?_)))))))
 exact eR t1 ⟨Zk (by rw [Zie (Zea hs oz),Bool.eq_iff_iff];simp;omega),rfl,rfl⟩

theorem Zk9 (x:DUser) (u:Str) (b:Nat) (h1:x.name.length≤2000000) (h2:u.length≤2000000) (B:Kn) (hb:ZaI B b 0 [str u]):ZaX (pj J) 208 [.agg #[str x.name,str x.pass,.int .i64 x.quota],ptr ⟨b,0,none⟩] B (.bool (decide (x.name=u))):=by
 refine cB 8 Tryz.func208 (h:=?_)
 refine Za (xBx [_,_,_] (h:=fun b1=>xA (h:=tL1 (Za (xW Zb7 (h:=x1 lk9 0 (h:=Zm (Ze rfl rfl lk9 rfl (hb _ 0 _ rfl) (Zeh (h:=xA (h:=Zd ?_)))))))))))
 exact eR t1 ⟨rfl,rfl,rfl⟩

theorem Zrf (q:Option Addr) (cp:Nat) (us:List DUser) (F:FuncId) (cap:Array Value) (t:DUser→Bool) (B:Kn) (hu:SlK B q cp 3 ZA us) (he:enters (pj J) F=true) (hF :∀x:DUser,x.name.length≤2000000→x.pass.length≤2000000→ZaX (pj J) F ([.agg #[str x.name,str x.pass,.int .i64 x.quota]] ++ cap.toList) B (.bool (t x))):ZaX (pj J) 207 [.slice q us.length cp,.func (.func F) #[] cap] B (.tuple #[.agg #[str (Zf6 t us).1.name,str (Zf6 t us).1.pass,.int .i64 (Zf6 t us).1.quota],.bool (Zf6 t us).2]):=by
 refine cB 21 Tryz.func207 (h:=?_)
 have hun:=hu.len
 refine Za (xAl [_,_,_] ZcN (h:=fun b1=>xA (h:=tL1 (Zh (Za (xM (h:=xV Tryz.underlying38 (h:=xM (h:=Zn (ZQ (α:=Nat) [0,1,4,9,10] (fun k=>[(11,.int .i64 k)]) [] (fun k=>[]) (fun k Bx=>Bx=B∧k≤us.length∧∀y,y∈us.take k→t y=false) (fun k=>us.length - k) 0 t1 rfl (⟨rfl,Nat.zero_le _,by simp⟩) (fun k B2 hle2 hI=>?_)))))))))))
 obtain ⟨rfl,hk,ha⟩:=hI
 refine ZN [(0,_),(1,_),(4,_),(9,_),(10,_),(11,_)] [_] t6 rfl (Za (Zag (h:=Zh (Zb rfl (fun g1=>?_) (fun g1=>?_)))))
 try simp only [sQ,ne_eq] at g1
 refine wSk (Zh (Zn (Za ?_)))
 obtain ⟨m,hm⟩:=ZaA (xs:=us) (i:=k) om
 obtain ⟨bb4,oo4,rfl⟩:=hu.base hm
 obtain ⟨_,⟨rfl,hb5,hb5b⟩,hc5⟩:=hu.elem hm
 refine xIx Tryz.underlying38 ZbQ (h:=yL [_,_,_] ZhD hc5 0 (h:=xAl [_,_,_] ZcN (h:=fun b6=>xS [_,_,_] 1 [_,_,_] ZbQ (h:=tL2 (Za (xM (h:=xL [_,_,_] ZhD 1 (h:=Zm (ZtG rfl rfl he rfl rfl (hF m om2 om2) ?_)))))))))
 refine Zb rfl (fun g2=>?_) (fun g2=>?_)
 try simp only [sQ,ne_eq] at g2
 refine Za (xL [_,_,_] ZhD 1 (h:=xS [_,_,_] 0 [_,_,_] ZbQ (h:=xA (h:=tL2 (Zd (ZI (Zp (Z7 (ZI (Zp ?_))))))))))
 exact Zok .ret (.inl rfl) [_,_] ⟨⟨_,rfl,.inr ⟨[_,_,_],ZhD,Zaa 0 rfl rfl rfl,rfl⟩⟩,rfl,trivial⟩ ⟨by rw [Zre hm g2 ha];rfl,rfl,rfl⟩
 try simp only [sQ,ne_eq] at g2
 refine ZL (Zw (Zj (Zc (xD (h:=xM (h:=?_))))))
 exact ZD (k+1) [0] so2 ⟨rfl,oz,Zbk hm ha g2⟩ t6 rfl
 try simp only [sQ,ne_eq] at g1
 refine ZU (Zak (Z3 (ZK (Zj (Za (xAl [_,_,_] ZcN (h:=fun b8=>tL2 (Za (xL [_,_,_] ZhD 1 (h:=xS [_,_,_] 0 [_,_,_] ZbQ (h:=xA (h:=tL2 (Zd ?_)))))))))))))
 exact Zok .ret (.inl rfl) [_,_] ⟨⟨_,rfl,.inr ⟨[_,_,_],ZhD,Zaa 0 rfl rfl rfl,rfl⟩⟩,rfl,trivial⟩ ⟨by rw [Zpn (Zby oz ha)];rfl,rfl,rfl⟩

theorem Zig (q:Option Addr) (cp:Nat) (us:List DUser) (nm:Str) (hn:nm.length≤2000000) (B:Kn) (hu:SlK B q cp 3 ZA us):ZaX (pj J) 162 [.slice q us.length cp,str nm] B (.tuple #[.agg #[str (Za1 us nm).1.name,str (Za1 us nm).1.pass,.int .i64 (Za1 us nm).1.quota],.bool (Za1 us nm).2]):=by
 refine cB 15 Tryz.func162 (h:=?_)
 have hun:=hu.len
 refine Za (xBx [_] (h:=fun b1=>xAl [_,_,_] ZcN (h:=fun b2=>xA (h:=tL2 (Zh (Za (xM (h:=xR ZwM rfl (ZiI _ _ _ _ hu) (h:=xN (h:=Zb rfl (fun g0=>?_) (fun g0=>?_)))))))))))
 try simp only [sQ,ne_eq] at g0
 refine Za (xB [] [_,_,_] [_,_,_] Zkh ZcN (h:=xS [_,_,_] 1 [_,_,_] ZbQ (h:=xA (h:=tL2 (Zd (Zp ?_))))))
 exact Zok .ret (.inl rfl) [_,_] ⟨⟨_,rfl,.inr ⟨[_,_,_],ZhD,Zaa 1 rfl rfl rfl,rfl⟩⟩,rfl,trivial⟩ ⟨by rw [Za1,g0];rfl,rfl,rfl⟩
 try simp only [sQ,ne_eq] at g0
 refine wSk (Za (xM (h:=Zm (Zdm (xs:=[]) (ys:=[_]) rfl rfl rfl rfl (Zm (Zh9 0 rfl rfl rfl ZyD rfl (ZaX.borrow fun hm=>Zrf _ _ us 208 _ (fun y=>decide (y.name=nm)) _ (hu.mono ZA.mono (Kn.le_add _ _)) ZyC (fun y h1 h2=>Zk9 y nm _ h1 hn _ (Zkf hm))) (xE (h:=xE (h:=xS [_,_,_] 1 [_,_,_] ZbQ (h:=xA (h:=tL2 (Zd ?_))))))))))))
 exact Zok .ret (.inl rfl) [_,_] ⟨⟨_,rfl,.inr ⟨[_,_,_],ZhD,Zaa 1 rfl rfl rfl,rfl⟩⟩,rfl,trivial⟩ ⟨by rw [Za1,if_pos g0];rfl,rfl,rfl⟩

theorem ZhR (b o:Nat) (q1 q2 q3:Option Addr) (c1 c2 c3:Nat) (x:DHost) (nm:Str) (hn:nm.length≤2000000) (B:Kn) (hh:ZaI B b o [str x.domain,.slice q1 x.users.length c1,.slice q2 x.folders.length c2,.int .i64 x.queue.next,.slice q3 x.queue.items.length c3]) (hu:SlK B q1 c1 3 ZA x.users):ZaX (pj J) 161 [ptr ⟨b,o,none⟩,str nm] B (.bool (Za1 x.users nm).2):=by
 refine cB 17 Tryz.func161 (h:=?_)
 refine Za (xA (h:=Za (xM (h:=xNc (h:=xW Zcg (h:=Zm (Ze rfl rfl ZjM rfl (hh _ 1 _ rfl) (xM (h:=xR ZwK rfl (Zig _ _ _ nm om2 _ hu) (h:=?_))))))))))
 refine xM (h:=xE (h:=xE (h:=xAl [_,_,_] ZcN (h:=fun b2=>xS [_,_,_] 0 [_,_,_] ZbQ (h:=xA (h:=tL1 (Za (xM (h:=xA (h:=Zd ?_))))))))))
 exact eR t1 ⟨rfl,rfl,rfl⟩

theorem Zc5 (q1 q2 q3:Option Addr) (c1 c2 c3:Nat) (x:DHost) (ow nm:Str) (ho:ow.length≤2000000) (hn:nm.length≤2000000) (B:Kn) (hf:SlK B q2 c2 5 Zf x.folders):ZaX (pj J) 64 [.agg #[str x.domain,.slice q1 x.users.length c1,.slice q2 x.folders.length c2,.int .i64 x.queue.next,.slice q3 x.queue.items.length c3],str ow,str nm] B (.int .i64 (ZaJ (inF ow nm) x.folders)):=by
 refine cB 34 Tryz.func64 (h:=?_)
 have hfn:=hf.len
 refine Za (xBx [_,_,_,_,_] (h:=fun b1=>xA (h:=tL1 (Zh (Za (xA (h:=Zn (ZQ (α:=Nat) [0,1,2,3] (fun k=>[(7,.int .i64 k)]) [] (fun k=>[]) (fun k Bx=>Bx=B∧k≤x.folders.length∧∀y,y∈x.folders.take k→inF ow nm y=false) (fun k=>x.folders.length - k) 0 t1 rfl (⟨rfl,Nat.zero_le _,by simp⟩) (fun k B2 hle2 hI=>?_)))))))))
 obtain ⟨rfl,hk,ha⟩:=hI
 refine ZN [(0,_),(1,_),(2,_),(3,_),(7,_)] [_] t5 rfl (Zh (Za (xM (h:=xW Z1 (h:=x1 ZcM 0 (h:=xV Tryz.underlying39 (h:=Zag (h:=Zb rfl (fun g1=>?_) (fun g1=>?_)))))))))
 try simp only [sQ,ne_eq] at g1
 refine wSk (Zh (Zn (Za (xW Z1 (h:=x1 ZcM 0 (h:=xM (h:=?_)))))))
 obtain ⟨y,hy⟩:=ZaA (xs:=x.folders) (i:=k) om
 obtain ⟨bb4,oo4,rfl⟩:=hf.base hy
 obtain ⟨_,⟨qg5,cg5,qm5,cm5,rfl,hg5,hm5,hb5,hb5b⟩,hc5⟩:=hf.elem hy
 have hg5n:=hg5.len
 have hm5n:=hm5.len
 have hm5s:=Z5 hm5
 refine xIx Tryz.underlying39 Zbo (h:=xW Zc8 (h:=y1 lk9 hc5 0 (h:=xM (h:=Zeh (h:=xM (h:=Zq (d:=23) rfl (fun g2=>?_) (fun g2=>?_)))))))
 try simp only [sQ,ne_eq] at g2
 refine xW Z1 (h:=x1 ZcM 0 (h:=xM (h:=xIx Tryz.underlying39 Zbo (h:=xW ZfH (h:=y1 lk9 hc5 1 (h:=xM (h:=Zeh (h:=xT (h:=Zb rfl (fun g3=>?_) (fun g3=>?_))))))))))
 try simp only [sQ,ne_eq] at g3
 refine Za (xM (h:=xA (h:=Zd (ZI (Zp (Z7 (ZI (Zp ?_))))))))
 exact eR t1 ⟨ZaH (ZhS hy (by simp [inF,g2,g3]) ha).symm,rfl,rfl⟩
 try simp only [sQ,ne_eq] at g3
 refine ZL (Zw (Zj (Zc (xM (h:=xD (h:=xA (h:=?_)))))))
 exact ZD (k+1) [0] so2 ⟨rfl,oz,Zbk hy ha (by simp [inF,g2,g3])⟩ t5 rfl
 try simp only [sQ,ne_eq] at g2
 refine xP (h:=xP (h:=xP (h:=xP (h:=xP (h:=xP (h:=xP (h:=xP (h:=xF (h:=Zb (t:=false) rfl (fun h=>Bool.noConfusion h) (fun _=>ZL (Zw (Zj (Zc (xM (h:=xD (h:=xA (h:=?_)))))))))))))))))
 exact ZD (k+1) [0] so2 ⟨rfl,oz,Zbk hy ha (by simp [inF,g2])⟩ t5 rfl
 try simp only [sQ,ne_eq] at g1
 refine ZU (Zak (Z3 (ZK (Zj (Za (xA (h:=Zd ?_)))))))
 exact eR t1 ⟨ZaH (Zfc (Zby oz ha)).symm,rfl,rfl⟩

theorem Zu1 (f:DFolder) (qa qb:Option Addr) (ca cb:Nat) (ow nm:Str) (b b':Nat) (h1:f.owner.length≤2000000) (h2:f.name.length≤2000000) (h3:ow.length≤2000000) (h4:nm.length≤2000000) (B:Kn) (hb:ZaI B b 0 [str ow]) (hb2:ZaI B b' 0 [str nm]):ZaX (pj J) 159 [.agg #[str f.owner,str f.name,.slice qa f.grants.length ca,.int .i64 f.next,.slice qb f.mail.length cb],ptr ⟨b,0,none⟩,ptr ⟨b',0,none⟩] B (.bool (inF ow nm f)):=by
 refine cB 15 Tryz.func159 (h:=?_)
 refine Za (xBx [_,_,_,_,_] (h:=fun b1=>xA (h:=tL1 (Za (xW Zc8 (h:=x1 lk9 0 (h:=Zm (Ze rfl rfl lk9 rfl (hb _ 0 _ rfl) (Zeh (h:=xM (h:=Zq (d:=9) rfl (fun g1=>?_) (fun g1=>?_))))))))))))
 refine xW ZfH (h:=x1 lk9 0 (h:=Zm (Ze rfl rfl lk9 rfl (hb2 _ 0 _ rfl) (Zeh (h:=xT (h:=xA (h:=Zd ?_)))))))
 exact eR t1 ⟨Zk (by rw [Bool.eq_iff_iff];simp [inF,g1]),rfl,rfl⟩
 refine xP (h:=xP (h:=xP (h:=xP (h:=xF (h:=xA (h:=Zd ?_))))))
 exact eR t1 ⟨Zk (by rw [Bool.eq_iff_iff];simp [inF,g1]),rfl,rfl⟩

theorem ZsT (q:Option Addr) (cp:Nat) (fs:List DFolder) (F:FuncId) (cap:Array Value) (t:DFolder→Bool) (B:Kn) (hf:SlK B q cp 5 Zf fs) (he:enters (pj J) F=true) (hF :∀(f:DFolder) (qa qb:Option Addr) (ca cb:Nat),f.owner.length≤2000000→f.name.length≤2000000→ZaX (pj J) F ([.agg #[str f.owner,str f.name,.slice qa f.grants.length ca,.int .i64 f.next,.slice qb f.mail.length cb]] ++ cap.toList) B (.bool (t f))):ZaX (pj J) 158 [.slice q fs.length cp,.func (.func F) #[] cap] B (.int .i64 (ZaJ t fs)):=by
 refine cB 19 Tryz.func158 (h:=?_)
 have hfn:=hf.len
 refine Za (xA (h:=Zh (Za (xM (h:=xV Tryz.underlying39 (h:=xM (h:=Zn (ZQ (α:=Nat) [0,1,7] (fun k=>[(8,.int .i64 k)]) [] (fun k=>[]) (fun k Bx=>Bx=B∧k≤fs.length∧∀y,y∈fs.take k→t y=false) (fun k=>fs.length - k) 0 t1 rfl (⟨rfl,Nat.zero_le _,by simp⟩) (fun k B1 hle1 hI=>?_)))))))))
 obtain ⟨rfl,hk,ha⟩:=hI
 refine ZN [(0,_),(1,_),(7,_),(8,_)] [] t4 rfl (Za (Zag (h:=Zh (Zb rfl (fun g1=>?_) (fun g1=>?_)))))
 try simp only [sQ,ne_eq] at g1
 refine wSk (Zh (Zn (Za (xM (h:=xA (h:=Za (xM (h:=xM (h:=xM (h:=?_))))))))))
 obtain ⟨y,hy⟩:=ZaA (xs:=fs) (i:=k) om
 obtain ⟨bb3,oo3,rfl⟩:=hf.base hy
 obtain ⟨_,⟨qg4,cg4,qm4,cm4,rfl,hg4,hm4,hb4,hb4b⟩,hc4⟩:=hf.elem hy
 have hg4n:=hg4.len
 have hm4n:=hm4.len
 have hm4s:=Z5 hm4
 refine xIx Tryz.underlying39 Zbo (h:=yL [_,_,_,_,_] ZhP hc4 0 (h:=Zm (ZtG rfl rfl he rfl rfl (hF y _ _ _ _ om2 om2) ?_)))
 refine Zb rfl (fun g2=>?_) (fun g2=>?_)
 try simp only [sQ,ne_eq] at g2
 refine Za (xM (h:=xA (h:=Zd (ZI (Zp (Z7 (ZI (Zp ?_))))))))
 exact eR t1 ⟨ZaH (ZhS hy g2 ha).symm,rfl,rfl⟩
 try simp only [sQ,ne_eq] at g2
 refine ZL (Zw (Zj (Zc (xD (h:=xM (h:=?_))))))
 exact ZD (k+1) [] so2 ⟨rfl,oz,Zbk hy ha g2⟩ t4 rfl
 try simp only [sQ,ne_eq] at g1
 refine ZU (Zak (Z3 (ZK (Zj (Za (xA (h:=Zd ?_)))))))
 exact eR t1 ⟨ZaH (Zfc (Zby oz ha)).symm,rfl,rfl⟩

theorem ZtY (b o:Nat) (q1 q2 q3:Option Addr) (c1 c2 c3:Nat) (x:DHost) (ow nm:Str) (ho:ow.length≤2000000) (hn:nm.length≤2000000) (B:Kn) (hh:ZaI B b o [str x.domain,.slice q1 x.users.length c1,.slice q2 x.folders.length c2,.int .i64 x.queue.next,.slice q3 x.queue.items.length c3]) (hf:SlK B q2 c2 5 Zf x.folders):ZaX (pj J) 113 [ptr ⟨b,o,none⟩,str ow,str nm] B (.int .i64 (ZaJ (inF ow nm) x.folders)):=by
 refine cB 13 Tryz.func113 (h:=?_)
 refine Za (xBx [_] (h:=fun b1=>xBx [_] (h:=fun b2=>xA (h:=tL2 (Za (xM (h:=xNc (h:=xW Z1 (h:=Zm (Ze rfl rfl ZcM rfl (hh _ 2 _ rfl) (Zm (Zdm (xs:=[]) (ys:=[_,_]) rfl rfl rfl rfl (Zm (ZvI 0 1 rfl rfl rfl rfl rfl Zy4 rfl (ZaX.borrow2 fun hm1 hm2=>ZsT _ _ x.folders 159 _ (inF ow nm) _ ((hf.mono Zf.mono (Kn.le_add _ _)).mono Zf.mono (Kn.le_add _ _)) Zy3 (fun f qa qb ca cb h1 h2=>Zu1 f qa qb ca cb ow nm _ _ h1 h2 ho hn _ (Zkf hm1) (Zkf hm2))) (xA (h:=Zd ?_))))))))))))))))
 exact eR t1 ⟨rfl,rfl,rfl⟩

theorem ZmU (b o:Nat) (q1 q2 q3:Option Addr) (c1 c2 c3:Nat) (x:DHost) (B:Kn) (hh:ZaI B b o [str x.domain,.slice q1 x.users.length c1,.slice q2 x.folders.length c2,.int .i64 x.queue.next,.slice q3 x.queue.items.length c3]) (hu:SlK B q1 c1 3 ZA x.users) (hi:SlK B q3 c3 4 ZC x.queue.items):ZaX (pj J) 128 [ptr ⟨b,o,none⟩] B (.bool (x.queue.items.all (Zdk x.users))):=by
 refine cB 35 Tryz.func128 (h:=?_)
 have hin:=hi.len
 refine Za (xA (h:=Zh (Za (xM (h:=xNc (h:=xW ZcK (h:=xW ZaC (h:=Zm (Ze rfl rfl Ze7 rfl (hh _ 4 _ rfl) (xV Tryz.underlying40 (h:=xM (h:=Zn (ZQ (α:=Nat) [0,11,12] (fun k=>[(13,.int .i64 k)]) [] (fun k=>[]) (fun k Bx=>Bx=B∧k≤x.queue.items.length∧∀y,y∈x.queue.items.take k→Zdk x.users y=true) (fun k=>x.queue.items.length - k) 0 t1 rfl (⟨rfl,Nat.zero_le _,by simp⟩) (fun k B1 hle1 hI=>?_))))))))))))))
 obtain ⟨rfl,hk,ha⟩:=hI
 refine ZN [(0,_),(11,_),(12,_),(13,_)] [] t4 rfl (Za (Zag (h:=Zh (Zb rfl (fun g1=>?_) (fun g1=>?_)))))
 try simp only [sQ,ne_eq] at g1
 refine wSk (Zh (Zn (Za ?_)))
 obtain ⟨y,hy⟩:=ZaA (xs:=x.queue.items) (i:=k) om
 obtain ⟨bb3,oo3,rfl⟩:=hi.base hy
 obtain ⟨_,⟨qi4,ci4,rfl,hi4,hb4,hb4b⟩,hc4⟩:=hi.elem hy
 have hi4n:=hi4.len
 refine xIx Tryz.underlying40 Zbn (h:=yL [_,_,_,_] Zec hc4 0 (h:=xAl [_,_,_,_] Zc1 (h:=fun b5=>xS [_,_,_,_] 0 [_,_,_,_] Zbn (h:=tL1 (Zh (Za (xM (h:=xW ZkH (h:=x1 lk9 0 (h:=xR Zth rfl (ZhR _ _ _ _ _ _ _ _ x y.fr om2 _ hh hu) (h:=?_)))))))))))
 refine xN (h:=Zb rfl (fun g2=>?_) (fun g2=>?_))
 try simp only [sQ,ne_eq] at g2
 refine Za (xA (h:=Zd (Zp (ZI (Zp (Z7 (ZI (Zp ?_))))))))
 exact eR t1 ⟨Zk (Zcl hy (by simp [Zdk,g2])).symm,rfl,rfl⟩
 try simp only [sQ,ne_eq] at g2
 refine wSk (Za (xW ZaR (h:=x1 Zda 0 (h:=xV Tryz.underlying144 (h:=xM (h:=Zn (ZQ (α:=Nat) [0,4,11,12,13,14,21,23,24] (fun j=>[(25,.int .i64 j)]) [] (fun j=>[]) (fun j Bx=>Bx=B1∧j≤y.left.length∧∀z,z∈y.left.take j→(Za1 x.users z).2=true) (fun j=>y.left.length - j) 0 t1 rfl (⟨rfl,Nat.zero_le _,by simp⟩) (fun j B7 hle7 hI=>?_))))))))
 obtain ⟨rfl,hj,hb⟩:=hI
 refine ZN [(0,_),(4,_),(11,_),(12,_),(13,_),(14,_),(21,_),(23,_),(24,_),(25,_)] [_] t10 rfl (Za (Zag (h:=Zh (Zb rfl (fun g3=>?_) (fun g3=>?_)))))
 try simp only [sQ,ne_eq] at g3
 refine wSk (Zh (Zn (Za ?_)))
 obtain ⟨z,hz⟩:=ZaA (xs:=y.left) (i:=j) om
 obtain ⟨bb9,oo9,rfl⟩:=hi4.base hz
 obtain ⟨_,⟨rfl,hb10⟩,hc10⟩:=hi4.elem hz
 refine xIx Tryz.underlying144 sz9 (h:=y1 lk9 hc10 0 (h:=xA (h:=Za (xM (h:=xM (h:=xR Zth rfl (ZhR _ _ _ _ _ _ _ _ x z om2 _ hh hu) (h:=?_)))))))
 refine xN (h:=Zb rfl (fun g4=>?_) (fun g4=>?_))
 try simp only [sQ,ne_eq] at g4
 refine Za (xA (h:=Zd (ZI (Zp (Z7 (ZI (ZI (Zp (Z7 (ZI (Zp ?_)))))))))))
 exact eR t1 ⟨Zk (Zcl hy (by rw [Zdk,Zcl hz g4,Bool.and_false])).symm,rfl,rfl⟩
 try simp only [sQ,ne_eq] at g4
 refine ZL (Zw (Zj (Zc (xD (h:=xM (h:=?_))))))
 exact ZD (j+1) [0] so2 ⟨rfl,oz,Zbk hz hb g4⟩ t10 rfl
 try simp only [sQ,ne_eq] at g3
 refine ZU (Zak (Z3 (ZK (Zw (Zj (Zc (xD (h:=xM (h:=?_)))))))))
 exact ZD (k+1) [] so2 ⟨rfl,oz,Zbk hy ha (by rw [Zdk,g2,Zd6 (Zby oz hb)];rfl)⟩ t4 rfl
 try simp only [sQ,ne_eq] at g1
 refine ZU (Zak (Z3 (ZK (Zj (Za (xA (h:=Zd ?_)))))))
 exact eR t1 ⟨Zk (Zd6 (Zby oz ha)).symm,rfl,rfl⟩

theorem ZlL (f g:DFolder) (qa qb qc qd:Option Addr) (ca cb cc cd:Nat) (B:Kn):ZaX (pj J) 137 [.agg #[str f.owner,str f.name,.slice qa f.grants.length ca,.int .i64 f.next,.slice qb f.mail.length cb],.agg #[str g.owner,str g.name,.slice qc g.grants.length cc,.int .i64 g.next,.slice qd g.mail.length cd]] B (.bool (ZcU f g)):=by
 refine cB 24 Tryz.func137 (h:=?_)
 refine Za (xBx [_,_,_,_,_] (h:=fun b1=>xBx [_,_,_,_,_] (h:=fun b2=>xA (h:=tL2 (Za (xW Zc8 (h:=x1 lk9 0 (h:=xW Zc8 (h:=x1 lk9 1 (h:=ZtF (h:=xM (h:=Zq (d:=10) rfl (fun g1=>?_) (fun g1=>?_)))))))))))))
 refine xP (h:=xP (h:=xP (h:=xP (h:=xP (h:=xP (h:=xP (h:=xP (h:=xP (h:=xP (h:=xP (h:=xP (h:=xT (h:=xA (h:=Zd ?_))))))))))))))
 exact eR t1 ⟨Zk (by rw [Bool.eq_iff_iff];simp [ZcU,Zdi,g1]),rfl,rfl⟩
 refine xW Zc8 (h:=x1 lk9 0 (h:=xW Zc8 (h:=x1 lk9 1 (h:=Zeh (h:=xM (h:=Zq (d:=16) rfl (fun g2=>?_) (fun g2=>?_)))))))
 refine xW ZfH (h:=x1 lk9 0 (h:=xW ZfH (h:=x1 lk9 1 (h:=ZtF (h:=xT (h:=xF (h:=xA (h:=Zd ?_))))))))
 exact eR t1 ⟨Zk (by rw [Bool.eq_iff_iff];simp [ZcU,Zdi,g1,g2]),rfl,rfl⟩
 refine xP (h:=xP (h:=xP (h:=xP (h:=xP (h:=xF (h:=xF (h:=xA (h:=Zd ?_))))))))
 exact eR t1 ⟨Zk (by rw [Bool.eq_iff_iff];simp [ZcU,Zdi,g1,g2]),rfl,rfl⟩

theorem ZmI (q:Option Addr) (cp:Nat) (us:List DUser) (B:Kn) (hu:SlK B q cp 3 ZA us):ZaX (pj J) 80 [.slice q us.length cp] B (.bool (Zar us)):=by
 refine cB 54 Tryz.func80 (h:=?_)
 have hun:=hu.len
 refine Za (xA (h:=Zh (Za (xA (h:=Zn (ZQ (α:=Nat × Str) [0] (fun g=>[(3,.int .i64 g.1)]) [] (fun g=>[]) (fun g Bx=>Bx=B∧g.1≤us.length∧ZdT (us.take g.1)=(true,g.2)∧Prev (fun y=>y.name) ([]:Str) us g.1 g.2) (fun g=>us.length - g.1) (0,[]) t1 rfl (⟨rfl,Nat.zero_le _,Ze3,.zero⟩) (fun g B1 hle1 hI=>?_)))))))
 obtain ⟨rfl,hk,hs,hp⟩:=hI
 refine ZN [(0,_),(3,_)] [] t2 rfl (Zh (Za (xM (h:=xM (h:=xV Tryz.underlying38 (h:=Zag (h:=Zb rfl (fun g1=>?_) (fun g1=>?_))))))))
 try simp only [sQ,ne_eq] at g1
 refine wSk (Zh (Zn (Za (xM (h:=xM (h:=?_))))))
 obtain ⟨m,hm⟩:=ZaA (xs:=us) (i:=g.1) om
 obtain ⟨bb3,oo3,rfl⟩:=hu.base hm
 obtain ⟨_,⟨rfl,hb4,hb4b⟩,hc4⟩:=hu.elem hm
 refine xIx Tryz.underlying38 ZbQ (h:=yL [_,_,_] ZhD hc4 0 (h:=xAl [_,_,_] ZcN (h:=fun b5=>xS [_,_,_] 0 [_,_,_] ZbQ (h:=tL1 (Zh (ZV (same _ _) mo kr ⟨rfl,rfl⟩ (fun _ _=>?_)))))))
 refine aW 0 rfl Zb7 (h:=aT 1 rfl (Zaj fun D=>Ze rfl rfl lk9 rfl (atL 0 rfl rfl rfl) r4) (h:=aT 2 rfl (Zaj fun D=>ZaF rfl rfl ZkK rfl (ZbZ _ om2 _) r4) (h:=?_)))
 refine aN 3 rfl (h:=aM 4 rfl (h:=ZaE (d:=19) rfl (fun g2=>?_) (fun g2=>?_)))
 try simp only [sQ,ne_eq] at g2
 refine aZ 5 rfl (h:=aZ 6 rfl (h:=aZ 7 rfl (h:=aPT 8 rfl (h:=aM 9 rfl (h:=aZ 10 rfl (h:=aZ 11 rfl (h:=aZ 12 rfl (h:=aZ 13 rfl (h:=aPT 14 rfl (h:=aM 15 rfl (h:=aZ 16 rfl (h:=aZ 17 rfl (h:=aZ 18 rfl (h:=aZ 19 rfl (h:=aPT 20 rfl (h:=aM 21 rfl (h:=aZ 22 rfl (h:=aZ 23 rfl (h:=aZ 24 rfl (h:=aZ 25 rfl (h:=aZ 26 rfl (h:=aZ 27 rfl (h:=aZ 28 rfl (h:=aZ 29 rfl (h:=aZ 30 rfl (h:=aZ 31 rfl (h:=aZ 32 rfl (h:=aZ 33 rfl (h:=aZ 34 rfl (h:=aPT 35 rfl (h:=Zv kr kr ?_)))))))))))))))))))))))))))))))
 refine Zj (Zb (t:=true) rfl (fun _=>Za (xA (h:=Zd (ZI (Zp (Z7 (ZI (Zp ?_)))))))) (fun h=>Bool.noConfusion h))
 exact eR t1 ⟨Zk (Zdv hm hs (by simp [Zdw,ZcB,anyone,g1,g2])).symm,rfl,rfl⟩
 try simp only [sQ,ne_eq] at g2
 refine aW 5 rfl Zb7 (h:=aT 6 rfl (Zaj fun D=>Ze rfl rfl lk9 rfl (atL 0 rfl rfl rfl) r4) (h:=ZrN 7 rfl (h:=aPF 8 rfl (h:=aM 9 rfl (h:=ZaE (d:=24) rfl (fun g3=>?_) (fun g3=>?_))))))
 try simp only [sQ,ne_eq] at g3
 refine aZ 10 rfl (h:=aZ 11 rfl (h:=aZ 12 rfl (h:=aZ 13 rfl (h:=aPT 14 rfl (h:=aM 15 rfl (h:=aZ 16 rfl (h:=aZ 17 rfl (h:=aZ 18 rfl (h:=aZ 19 rfl (h:=aPT 20 rfl (h:=aM 21 rfl (h:=aZ 22 rfl (h:=aZ 23 rfl (h:=aZ 24 rfl (h:=aZ 25 rfl (h:=aZ 26 rfl (h:=aZ 27 rfl (h:=aZ 28 rfl (h:=aZ 29 rfl (h:=aZ 30 rfl (h:=aZ 31 rfl (h:=aZ 32 rfl (h:=aZ 33 rfl (h:=aZ 34 rfl (h:=aPT 35 rfl (h:=Zv kr kr ?_))))))))))))))))))))))))))
 refine Zj (Zb (t:=true) rfl (fun _=>Za (xA (h:=Zd (ZI (Zp (Z7 (ZI (Zp ?_)))))))) (fun h=>Bool.noConfusion h))
 exact eR t1 ⟨Zk (Zdv hm hs (by simp [Zdw,ZcB,anyone,g1,g2,g3])).symm,rfl,rfl⟩
 try simp only [sQ,ne_eq] at g3
 refine aW 10 rfl Zno (h:=aT 11 rfl (Zaj fun D=>Ze rfl rfl lk9 rfl (atL 0 rfl rfl rfl) r4) (h:=aT 12 rfl (Zaj fun D=>ZaF rfl rfl ZkK rfl (ZbZ _ om2 _) r4) (h:=?_)))
 refine aN 13 rfl (h:=aPF 14 rfl (h:=aM 15 rfl (h:=ZaE (d:=30) rfl (fun g4=>?_) (fun g4=>?_))))
 try simp only [sQ,ne_eq] at g4
 refine aZ 16 rfl (h:=aZ 17 rfl (h:=aZ 18 rfl (h:=aZ 19 rfl (h:=aPT 20 rfl (h:=aM 21 rfl (h:=aZ 22 rfl (h:=aZ 23 rfl (h:=aZ 24 rfl (h:=aZ 25 rfl (h:=aZ 26 rfl (h:=aZ 27 rfl (h:=aZ 28 rfl (h:=aZ 29 rfl (h:=aZ 30 rfl (h:=aZ 31 rfl (h:=aZ 32 rfl (h:=aZ 33 rfl (h:=aZ 34 rfl (h:=aPT 35 rfl (h:=Zv kr kr ?_))))))))))))))))))))
 refine Zj (Zb (t:=true) rfl (fun _=>Za (xA (h:=Zd (ZI (Zp (Z7 (ZI (Zp ?_)))))))) (fun h=>Bool.noConfusion h))
 exact eR t1 ⟨Zk (Zdv hm hs (by simp [Zdw,ZcB,anyone,g1,g2,g3,g4])).symm,rfl,rfl⟩
 try simp only [sQ,ne_eq] at g4
 refine aW 16 rfl Zf3 (h:=aT 17 rfl (Zaj fun D=>Ze rfl rfl lk3 rfl (atL 0 rfl rfl rfl) r4) (h:=aT 18 rfl (Zaj fun D=>ZaF rfl rfl ZjW rfl (Zct _ _ _ _) r4) (h:=aN 19 rfl (h:=aPF 20 rfl (h:=aM 21 rfl (h:=ZaE (d:=36) rfl (fun g5=>?_) (fun g5=>?_)))))))
 try simp only [sQ,ne_eq] at g5
 refine aZ 22 rfl (h:=aZ 23 rfl (h:=aZ 24 rfl (h:=aZ 25 rfl (h:=aZ 26 rfl (h:=aZ 27 rfl (h:=aZ 28 rfl (h:=aZ 29 rfl (h:=aZ 30 rfl (h:=aZ 31 rfl (h:=aZ 32 rfl (h:=aZ 33 rfl (h:=aZ 34 rfl (h:=aPT 35 rfl (h:=Zv kr kr ?_))))))))))))))
 refine Zj (Zb (t:=true) rfl (fun _=>Za (xA (h:=Zd (ZI (Zp (Z7 (ZI (Zp ?_)))))))) (fun h=>Bool.noConfusion h))
 exact eR t1 ⟨Zk (Zdv hm hs (by simp [Zdw,ZcB,anyone,g1,g2,g3,g4,g5])).symm,rfl,rfl⟩
 try simp only [sQ,ne_eq] at g5
 refine aM 22 rfl (h:=ZnE 23 rfl (h:=aM 24 rfl (h:=ZaE (d:=39) rfl (fun g6=>?_) (fun g6=>?_))))
 try simp only [sQ,ne_eq] at g6
 refine aM 25 rfl (h:=aM 26 rfl (h:=aU 27 rfl (h:=?_)))
 obtain ⟨y,hy⟩:=Zey (xs:=us) (i:=(↑g.1 - 1)) om om
 obtain ⟨_,⟨rfl,hb10,hb10b⟩,hc10⟩:=hu.elem hy
 refine aIx 28 rfl Tryz.underlying38 ZbQ (h:=?_)
 have hpe:=hp.at hy oz
 refine aW 29 rfl Zb7 (h:=aT 30 rfl (Zaj fun D=>Ze rfl rfl lk9 rfl (hc10 _ 0 _ rfl) r4) (h:=aW 31 rfl Zb7 (h:=aT 32 rfl (Zaj fun D=>Ze rfl rfl lk9 rfl (atL 0 rfl rfl rfl) r4) (h:=aT 33 rfl (Zaj fun D=>ZpQ rfl rfl rfl rfl r4) (h:=aPT 34 rfl (h:=aPF 35 rfl (h:=Zv kr kr ?_)))))))
 refine Zj (Zb rfl (fun g7=>?_) (fun g7=>?_))
 try simp only [sQ,ne_eq] at g7
 refine Za (xA (h:=Zd (ZI (Zp (Z7 (ZI (Zp ?_)))))))
 exact eR t1 ⟨Zk (Zdv hm hs (by simp [Zdw,ZcB,anyone,g1,g2,g3,g4,g5,g6,g7,hpe])).symm,rfl,rfl⟩
 try simp only [sQ,ne_eq] at g7
 refine ZL (Zw (Zj (Zc (xM (h:=xD (h:=xA (h:=?_)))))))
 exact ZD (g.1+1,m.name) [] so2 ⟨rfl,oz,Zci hm hs (by rw [hpe];simp [Zdw,ZcB,anyone,g2,g3,g4,g7];simp at g5;omega),.succ hm⟩ t2 rfl
 try simp only [sQ,ne_eq] at g6
 refine aZ 25 rfl (h:=aZ 26 rfl (h:=aZ 27 rfl (h:=aZ 28 rfl (h:=aZ 29 rfl (h:=aZ 30 rfl (h:=aZ 31 rfl (h:=aZ 32 rfl (h:=aZ 33 rfl (h:=aPF 34 rfl (h:=aPF 35 rfl (h:=Zv kr kr ?_)))))))))))
 refine Zj (Zb (t:=false) rfl (fun h=>Bool.noConfusion h) (fun _=>ZL (Zw (Zj (Zc (xM (h:=xD (h:=xA (h:=?_)))))))))
 exact ZD (g.1+1,m.name) [] so2 ⟨rfl,oz,Zci hm hs (by rw [hp.at0 oz];simp [Zdw,ZcB,anyone,g2,g3,g4,Zn5 (ZjJ g2)];simp at g5;omega),.succ hm⟩ t2 rfl
 try simp only [sQ,ne_eq] at g1
 refine ZU (Zak (Z3 (ZK (Zj (Za (xM (h:=xV Tryz.underlying38 (h:=xR ZjW rfl (Zct _ _ _ _) (h:=xA (h:=Zd ?_))))))))))
 exact eR t1 ⟨Zk (by rw [Zie (Zea hs oz),Bool.eq_iff_iff];simp;omega),rfl,rfl⟩

theorem Zgm (q:Option Addr) (cp:Nat) (gs:List DGrant) (B:Kn) (hg:SlK B q cp 2 Z0 gs):ZaX (pj J) 136 [.slice q gs.length cp] B (.bool (ZbN gs)):=by
 refine cB 47 Tryz.func136 (h:=?_)
 have hgn:=hg.len
 refine Za (xA (h:=Zh (Za (xA (h:=Zn (ZQ (α:=Nat × Str) [0] (fun g=>[(3,.int .i64 g.1)]) [] (fun g=>[]) (fun g Bx=>Bx=B∧g.1≤gs.length∧Zc7 (gs.take g.1)=(true,g.2)∧Prev (fun y=>y.user) ([]:Str) gs g.1 g.2) (fun g=>gs.length - g.1) (0,[]) t1 rfl (⟨rfl,Nat.zero_le _,Ze3,.zero⟩) (fun g B1 hle1 hI=>?_)))))))
 obtain ⟨rfl,hk,hs,hp⟩:=hI
 refine ZN [(0,_),(3,_)] [] t2 rfl (Zh (Za (xM (h:=xM (h:=xV Tryz.underlying82 (h:=Zag (h:=Zb rfl (fun g1=>?_) (fun g1=>?_))))))))
 try simp only [sQ,ne_eq] at g1
 refine wSk (Zh (Zn (Zh (ZV (same _ _) mo kr ⟨rfl,rfl⟩ (fun _ _=>?_)))))
 refine aM 0 rfl (h:=aM 1 rfl (h:=?_))
 obtain ⟨m,hm⟩:=ZaA (xs:=gs) (i:=g.1) om
 obtain ⟨bb3,oo3,rfl⟩:=hg.base hm
 obtain ⟨_,⟨rfl,hb4⟩,hc4⟩:=hg.elem hm
 refine aIx 2 rfl Tryz.underlying82 ZbP (h:=aW 3 rfl ZcV (h:=aT 4 rfl (Zaj fun D=>Ze rfl rfl lk9 rfl (hc4 _ 0 _ rfl) r4) (h:=aT 5 rfl (Zaj fun D=>ZaF rfl rfl ZkK rfl (ZbZ _ om2 _) r4) (h:=?_))))
 refine aN 6 rfl (h:=aM 7 rfl (h:=ZaE (d:=17) rfl (fun g2=>?_) (fun g2=>?_)))
 try simp only [sQ,ne_eq] at g2
 refine aZ 8 rfl (h:=aZ 9 rfl (h:=aZ 10 rfl (h:=aZ 11 rfl (h:=aZ 12 rfl (h:=aZ 13 rfl (h:=aZ 14 rfl (h:=aPT 15 rfl (h:=aM 16 rfl (h:=aZ 17 rfl (h:=aZ 18 rfl (h:=aZ 19 rfl (h:=aZ 20 rfl (h:=aZ 21 rfl (h:=aZ 22 rfl (h:=aZ 23 rfl (h:=aZ 24 rfl (h:=aZ 25 rfl (h:=aZ 26 rfl (h:=aZ 27 rfl (h:=aZ 28 rfl (h:=aZ 29 rfl (h:=aZ 30 rfl (h:=aZ 31 rfl (h:=aZ 32 rfl (h:=aPT 33 rfl (h:=Zv kr kr ?_))))))))))))))))))))))))))
 refine Zj (Zb (t:=true) rfl (fun _=>Za (xA (h:=Zd (ZI (Zp (Z7 (ZI (Zp ?_)))))))) (fun h=>Bool.noConfusion h))
 exact eR t1 ⟨Zk (ZdK hm hs (by simp [Zcw,g1,g2])).symm,rfl,rfl⟩
 try simp only [sQ,ne_eq] at g2
 refine aM 8 rfl (h:=aM 9 rfl (h:=aIx 10 rfl Tryz.underlying82 ZbP (h:=aW 11 rfl ZgU (h:=aT 12 rfl (Zaj fun D=>Ze rfl rfl lk3 rfl (hc4 _ 1 _ rfl) r4) (h:=aT 13 rfl (Zaj fun D=>ZaF rfl rfl ZjW rfl (Zct _ _ _ _) r4) (h:=aN 14 rfl (h:=aPF 15 rfl (h:=aM 16 rfl (h:=ZaE (d:=26) rfl (fun g4=>?_) (fun g4=>?_))))))))))
 try simp only [sQ,ne_eq] at g4
 refine aZ 17 rfl (h:=aZ 18 rfl (h:=aZ 19 rfl (h:=aZ 20 rfl (h:=aZ 21 rfl (h:=aZ 22 rfl (h:=aZ 23 rfl (h:=aZ 24 rfl (h:=aZ 25 rfl (h:=aZ 26 rfl (h:=aZ 27 rfl (h:=aZ 28 rfl (h:=aZ 29 rfl (h:=aZ 30 rfl (h:=aZ 31 rfl (h:=aZ 32 rfl (h:=aPT 33 rfl (h:=Zv kr kr ?_)))))))))))))))))
 refine Zj (Zb (t:=true) rfl (fun _=>Za (xA (h:=Zd (ZI (Zp (Z7 (ZI (Zp ?_)))))))) (fun h=>Bool.noConfusion h))
 exact eR t1 ⟨Zk (ZdK hm hs (by simp [Zcw,g1,g2,g4])).symm,rfl,rfl⟩
 try simp only [sQ,ne_eq] at g4
 refine aM 17 rfl (h:=ZnE 18 rfl (h:=aM 19 rfl (h:=ZaE (d:=29) rfl (fun g6=>?_) (fun g6=>?_))))
 try simp only [sQ,ne_eq] at g6
 refine aM 20 rfl (h:=aM 21 rfl (h:=aU 22 rfl (h:=?_)))
 obtain ⟨y,hy⟩:=Zey (xs:=gs) (i:=(↑g.1 - 1)) om om
 obtain ⟨_,⟨rfl,hb8⟩,hc8⟩:=hg.elem hy
 refine aIx 23 rfl Tryz.underlying82 ZbP (h:=?_)
 have hpe:=hp.at hy oz
 refine aW 24 rfl ZcV (h:=aT 25 rfl (Zaj fun D=>Ze rfl rfl lk9 rfl (hc8 _ 0 _ rfl) r4) (h:=aM 26 rfl (h:=aM 27 rfl (h:=aIx 28 rfl Tryz.underlying82 ZbP (h:=aW 29 rfl ZcV (h:=aT 30 rfl (Zaj fun D=>Ze rfl rfl lk9 rfl (hc4 _ 0 _ rfl) r4) (h:=aT 31 rfl (Zaj fun D=>ZpQ rfl rfl rfl rfl r4) (h:=aPT 32 rfl (h:=aPF 33 rfl (h:=Zv kr kr ?_))))))))))
 refine Zj (Zb rfl (fun g7=>?_) (fun g7=>?_))
 try simp only [sQ,ne_eq] at g7
 refine Za (xA (h:=Zd (ZI (Zp (Z7 (ZI (Zp ?_)))))))
 exact eR t1 ⟨Zk (ZdK hm hs (by simp [Zcw,g1,g2,g4,g6,g7,hpe])).symm,rfl,rfl⟩
 try simp only [sQ,ne_eq] at g7
 refine ZL (Zw (Zj (Zc (xM (h:=xD (h:=xA (h:=?_)))))))
 exact ZD (g.1+1,m.user) [] so2 ⟨rfl,oz,Zci hm hs (by rw [hpe];simp [Zcw,g2,g7];simp at g4;omega),.succ hm⟩ t2 rfl
 try simp only [sQ,ne_eq] at g6
 refine aZ 20 rfl (h:=aZ 21 rfl (h:=aZ 22 rfl (h:=aZ 23 rfl (h:=aZ 24 rfl (h:=aZ 25 rfl (h:=aZ 26 rfl (h:=aZ 27 rfl (h:=aZ 28 rfl (h:=aZ 29 rfl (h:=aZ 30 rfl (h:=aZ 31 rfl (h:=aPF 32 rfl (h:=aPF 33 rfl (h:=Zv kr kr ?_))))))))))))))
 refine Zj (Zb (t:=false) rfl (fun h=>Bool.noConfusion h) (fun _=>ZL (Zw (Zj (Zc (xM (h:=xD (h:=xA (h:=?_)))))))))
 exact ZD (g.1+1,m.user) [] so2 ⟨rfl,oz,Zci hm hs (by rw [hp.at0 oz];simp [Zcw,g2,Zn5 (ZjJ g2)];simp at g4;omega),.succ hm⟩ t2 rfl
 try simp only [sQ,ne_eq] at g1
 refine ZU (Zak (Z3 (ZK (Zj (Za (xM (h:=xV Tryz.underlying82 (h:=ZcO (h:=xA (h:=Zd ?_))))))))))
 exact eR t1 ⟨Zk (by rw [Zmq (Zea hs oz),Bool.eq_iff_iff];simp;try omega),rfl,rfl⟩

theorem ZjN (q1 q2 q3:Option Addr) (c1 c2 c3:Nat) (x:DHost) (q:Option Addr) (cp:Nat) (ns:List Str) (B:Kn) (hu:SlK B q1 c1 3 ZA x.users) (hn:SlK B q cp 1 ZbO ns):ZaX (pj J) 85 [.agg #[str x.domain,.slice q1 x.users.length c1,.slice q2 x.folders.length c2,.int .i64 x.queue.next,.slice q3 x.queue.items.length c3],.slice q ns.length cp] B (.bool (Zgt x.users ns)):=by
 refine cB 20 Tryz.func85 (h:=?_)
 have hnn:=hn.len
 have hun:=hu.len
 refine Za (xBx [_,_,_,_,_] (h:=fun b1=>xA (h:=tL1 (Zh (Za (xA (h:=Zn (ZQ (α:=Nat) [0,1,2] (fun k=>[(5,.int .i64 k)]) [] (fun k=>[]) (fun k Bx=>Bx=B∧k≤ns.length∧∀z,z∈ns.take k→decide (0≤ZdO x.users z)=true) (fun k=>ns.length - k) 0 t1 rfl (⟨rfl,Nat.zero_le _,by simp⟩) (fun k B2 hle2 hI=>?_)))))))))
 obtain ⟨rfl,hk,ha⟩:=hI
 refine ZN [(0,_),(1,_),(2,_),(5,_)] [_] t4 rfl (Zh (Za (xM (h:=xM (h:=xV Tryz.underlying144 (h:=Zag (h:=Zb rfl (fun g1=>?_) (fun g1=>?_))))))))
 try simp only [sQ,ne_eq] at g1
 refine wSk (Zh (Zn (Zh (ZV (same _ _) mo kr ⟨rfl,rfl⟩ (fun _ _=>?_)))))
 refine aW 0 rfl Zcg (h:=aT 1 rfl (Zaj fun D=>Ze rfl rfl ZjM rfl (atL 0 rfl rfl rfl) r4) (h:=aM 2 rfl (h:=aM 3 rfl (h:=?_))))
 obtain ⟨z,hz⟩:=ZaA (xs:=ns) (i:=k) om
 obtain ⟨bb4,oo4,rfl⟩:=hn.base hz
 obtain ⟨_,⟨rfl,hb5⟩,hc5⟩:=hn.elem hz
 refine aIx 4 rfl Tryz.underlying144 sz9 (h:=aT 5 rfl (Zaj fun D=>Ze rfl rfl lk9 rfl (hc5 _ 0 _ rfl) r4) (h:=aT 6 rfl (Zaj fun D=>ZaF rfl rfl ZtZ rfl (Zc6 _ _ _ _ _ hu) r4) (h:=ZrM 7 rfl (h:=Zv kr kr ?_))))
 refine Zj (Zb rfl (fun g2=>?_) (fun g2=>?_))
 try simp only [sQ,ne_eq] at g2
 refine Za (xA (h:=Zd (ZI (Zp (Z7 (ZI (Zp ?_)))))))
 exact eR t1 ⟨Zk (Zcl hz (by simp;omega)).symm,rfl,rfl⟩
 try simp only [sQ,ne_eq] at g2
 refine ZL (Zw (Zj (Zc (xM (h:=xD (h:=xA (h:=?_)))))))
 exact ZD (k+1) [0] so2 ⟨rfl,oz,Zbk hz ha (by simp;omega)⟩ t4 rfl
 try simp only [sQ,ne_eq] at g1
 refine ZU (Zak (Z3 (ZK (Zj (Za (xA (h:=Zd ?_)))))))
 exact eR t1 ⟨Zk (Zd6 (Zby oz ha)).symm,rfl,rfl⟩

theorem ZlK (q1 q2 q3:Option Addr) (c1 c2 c3:Nat) (x:DHost) (u:Str) (B:Kn) (hf:SlK B q2 c2 5 Zf x.folders):ZaX (pj J) 83 [.agg #[str x.domain,.slice q1 x.users.length c1,.slice q2 x.folders.length c2,.int .i64 x.queue.next,.slice q3 x.queue.items.length c3],str u] B (.int .i64 (Zbg x.folders u)):=by
 refine cB 32 Tryz.func83 (h:=?_)
 have hfn:=hf.len
 refine Za (xBx [_,_,_,_,_] (h:=fun b1=>xA (h:=tL1 (Za (xA (h:=Zh (Za (xA (h:=Zn (ZQ (α:=Nat × Nat) [0,1,2,4] (fun g=>[(5,.int .i64 g.2),(6,.int .i64 g.1)]) [] (fun g=>[]) (fun g Bx=>Bx=B∧g.1≤x.folders.length∧g.2=Zbg (x.folders.take g.1) u∧g.2≤g.1*4000000000000) (fun g=>x.folders.length - g.1) (0,0) t2 rfl (⟨rfl,Nat.zero_le _,by simp [Zbg],oz⟩) (fun g B2 hle2 hI=>?_)))))))))))
 obtain ⟨rfl,hk,hs,hl⟩:=hI
 refine ZN [(0,_),(1,_),(2,_),(4,_),(5,_),(6,_)] [_] t6 rfl (Zh (Za (xM (h:=xW Z1 (h:=x1 ZcM 0 (h:=xV Tryz.underlying39 (h:=Zag (h:=Zb rfl (fun g1=>?_) (fun g1=>?_)))))))))
 try simp only [sQ,ne_eq] at g1
 refine wSk (Zh (Zn (Za (xW Z1 (h:=x1 ZcM 0 (h:=xM (h:=?_)))))))
 obtain ⟨m,hm⟩:=ZaA (xs:=x.folders) (i:=g.1) om
 obtain ⟨bb4,oo4,rfl⟩:=hf.base hm
 obtain ⟨_,⟨qg5,cg5,qm5,cm5,rfl,hg5,hm5,hb5,hb5b⟩,hc5⟩:=hf.elem hm
 have hg5n:=hg5.len
 have hm5n:=hm5.len
 have hm5s:=Z5 hm5
 refine xIx Tryz.underlying39 Zbo (h:=xW Zc8 (h:=y1 lk9 hc5 0 (h:=xM (h:=Zeh (h:=Zb rfl (fun g2=>?_) (fun g2=>?_))))))
 try simp only [sQ,ne_eq] at g2
 refine Zc (xM (h:=xW Z1 (h:=x1 ZcM 0 (h:=xM (h:=xIx Tryz.underlying39 Zbo (h:=xW Zcx (h:=yL [_,_] ZbT hc5 3 (h:=xR Zzd rfl (ZqM _ _ (⟨m.next,m.mail⟩:DBox) _ hm5) (h:=xD (h:=xA (h:=Zw (Zj (Zc (xM (h:=xD (h:=xA (h:=?_)))))))))))))))))
 exact ZD (g.1+1,g.2+Zah m.mail) [0] so2 ⟨rfl,so,by rw [Zjv hm,← hs,if_pos g2],so⟩ t6 rfl
 try simp only [sQ,ne_eq] at g2
 refine ZL (Zw (Zj (Zc (xM (h:=xD (h:=xA (h:=?_)))))))
 exact ZD (g.1+1,g.2) [0] so2 ⟨rfl,so,by rw [Zjv hm,← hs,if_neg g2];simp only [Nat.add_zero],Nat.le_trans hl (Nat.mul_le_mul_right _ (Nat.le_succ _))⟩ t6 rfl
 try simp only [sQ,ne_eq] at g1
 refine ZU (Zak (Z3 (ZK (Zj (Za (xM (h:=xA (h:=Zd ?_))))))))
 exact eR t1 ⟨ZaH (by rw [← Zp2 hs oz]),rfl,rfl⟩

theorem ZlM (q1 q2 q3:Option Addr) (c1 c2 c3:Nat) (x:DHost) (B:Kn) (hu:SlK B q1 c1 3 ZA x.users) (hf:SlK B q2 c2 5 Zf x.folders):ZaX (pj J) 82 [.agg #[str x.domain,.slice q1 x.users.length c1,.slice q2 x.folders.length c2,.int .i64 x.queue.next,.slice q3 x.queue.items.length c3]] B (.bool (Zcf x.users x.folders)):=by
 refine cB 60 Tryz.func82 (h:=?_)
 have hfn:=hf.len
 have hun:=hu.len
 refine Za (xBx [_,_,_,_,_] (h:=fun b1=>xA (h:=tL1 (Zh (Za (xA (h:=Zn (ZQ (α:=Nat × Option DFolder) [0,1] (fun g=>[(3,.int .i64 g.1)]) [] (fun g=>[]) (fun g Bx=>Bx=B∧g.1≤x.folders.length∧Zdp x.users (x.folders.take g.1)=(true,g.2)∧Prev some none x.folders g.1 g.2) (fun g=>x.folders.length - g.1) (0,none) t1 rfl (⟨rfl,Nat.zero_le _,Ze3,.zero⟩) (fun g B2 hle2 hI=>?_)))))))))
 obtain ⟨rfl,hk,hs,hp⟩:=hI
 refine ZN [(0,_),(1,_),(3,_)] [_] t3 rfl (Zh (Za (xM (h:=xW Z1 (h:=x1 ZcM 0 (h:=xV Tryz.underlying39 (h:=Zag (h:=Zb rfl (fun g1=>?_) (fun g1=>?_)))))))))
 try simp only [sQ,ne_eq] at g1
 refine wSk (Zh (Zn (Za (xW Z1 (h:=x1 ZcM 0 (h:=xM (h:=?_)))))))
 obtain ⟨m,hm⟩:=ZaA (xs:=x.folders) (i:=g.1) om
 obtain ⟨bb4,oo4,rfl⟩:=hf.base hm
 obtain ⟨_,⟨qg5,cg5,qm5,cm5,rfl,hg5,hm5,hb5,hb5b⟩,hc5⟩:=hf.elem hm
 have hg5n:=hg5.len
 have hm5n:=hm5.len
 have hm5s:=Z5 hm5
 refine xIx Tryz.underlying39 Zbo (h:=yL [_,_,_,_,_] ZhP hc5 0 (h:=xAl [_,_,_,_,_] ZdQ (h:=fun b6=>xS [_,_,_,_,_] 1 [_,_,_,_,_] Zbo (h:=tL2 (Zh (ZV (same _ _) mo kr ⟨rfl,rfl⟩ (fun _ _=>?_)))))))
 refine aW 0 rfl Zcg (h:=aT 1 rfl (Zaj fun D=>Ze rfl rfl ZjM rfl (atL 0 rfl rfl rfl) r4) (h:=aW 2 rfl Zc8 (h:=aT 3 rfl (Zaj fun D=>Ze rfl rfl lk9 rfl (atL 1 rfl rfl rfl) r4) (h:=aT 4 rfl (Zaj fun D=>ZaF rfl rfl ZtZ rfl (Zc6 _ _ _ _ _ hu) r4) (h:=ZrM 5 rfl (h:=aM 6 rfl (h:=ZaE (d:=23) rfl (fun g2=>?_) (fun g2=>?_))))))))
 try simp only [sQ,ne_eq] at g2
 refine aZ 7 rfl (h:=aZ 8 rfl (h:=aZ 9 rfl (h:=aZ 10 rfl (h:=aPT 11 rfl (h:=aM 12 rfl (h:=aZ 13 rfl (h:=aZ 14 rfl (h:=aZ 15 rfl (h:=aZ 16 rfl (h:=aPT 17 rfl (h:=aM 18 rfl (h:=aZ 19 rfl (h:=aZ 20 rfl (h:=aZ 21 rfl (h:=aZ 22 rfl (h:=aPT 23 rfl (h:=aM 24 rfl (h:=aZ 25 rfl (h:=aZ 26 rfl (h:=aZ 27 rfl (h:=aZ 28 rfl (h:=aZ 29 rfl (h:=aZ 30 rfl (h:=aZ 31 rfl (h:=aZ 32 rfl (h:=aZ 33 rfl (h:=aZ 34 rfl (h:=aZ 35 rfl (h:=aZ 36 rfl (h:=aZ 37 rfl (h:=aPT 38 rfl (h:=Zv kr kr ?_))))))))))))))))))))))))))))))))
 refine Zj (Zb (t:=true) rfl (fun _=>Za (xA (h:=Zd (ZI (Zp (Z7 (ZI (Zp ?_)))))))) (fun h=>Bool.noConfusion h))
 exact eR t1 ⟨Zk (ZcJ hm hs (by simp [ZbW,Z2,DFolder.box,g1,g2];try omega)).symm,rfl,rfl⟩
 try simp only [sQ,ne_eq] at g2
 refine aW 7 rfl ZfH (h:=aT 8 rfl (Zaj fun D=>Ze rfl rfl lk9 rfl (atL 1 rfl rfl rfl) r4) (h:=aT 9 rfl (Zaj fun D=>ZaF rfl rfl ZkK rfl (ZbZ _ om2 _) r4) (h:=?_)))
 refine aN 10 rfl (h:=aPF 11 rfl (h:=aM 12 rfl (h:=ZaE (d:=29) rfl (fun g3=>?_) (fun g3=>?_))))
 try simp only [sQ,ne_eq] at g3
 refine aZ 13 rfl (h:=aZ 14 rfl (h:=aZ 15 rfl (h:=aZ 16 rfl (h:=aPT 17 rfl (h:=aM 18 rfl (h:=aZ 19 rfl (h:=aZ 20 rfl (h:=aZ 21 rfl (h:=aZ 22 rfl (h:=aPT 23 rfl (h:=aM 24 rfl (h:=aZ 25 rfl (h:=aZ 26 rfl (h:=aZ 27 rfl (h:=aZ 28 rfl (h:=aZ 29 rfl (h:=aZ 30 rfl (h:=aZ 31 rfl (h:=aZ 32 rfl (h:=aZ 33 rfl (h:=aZ 34 rfl (h:=aZ 35 rfl (h:=aZ 36 rfl (h:=aZ 37 rfl (h:=aPT 38 rfl (h:=Zv kr kr ?_))))))))))))))))))))))))))
 refine Zj (Zb (t:=true) rfl (fun _=>Za (xA (h:=Zd (ZI (Zp (Z7 (ZI (Zp ?_)))))))) (fun h=>Bool.noConfusion h))
 exact eR t1 ⟨Zk (ZcJ hm hs (by simp [ZbW,Z2,DFolder.box,g1,g2,g3];try omega)).symm,rfl,rfl⟩
 try simp only [sQ,ne_eq] at g3
 refine aW 13 rfl Zeq (h:=aT 14 rfl (Zaj fun D=>Ze rfl rfl ZtU rfl (atL 1 rfl rfl rfl) r4) (h:=aT 15 rfl (Zaj fun D=>ZaF rfl rfl Zti rfl (Zgm _ _ _ _ hg5) r4) (h:=aN 16 rfl (h:=aPF 17 rfl (h:=aM 18 rfl (h:=ZaE (d:=35) rfl (fun g4=>?_) (fun g4=>?_)))))))
 try simp only [sQ,ne_eq] at g4
 refine aZ 19 rfl (h:=aZ 20 rfl (h:=aZ 21 rfl (h:=aZ 22 rfl (h:=aPT 23 rfl (h:=aM 24 rfl (h:=aZ 25 rfl (h:=aZ 26 rfl (h:=aZ 27 rfl (h:=aZ 28 rfl (h:=aZ 29 rfl (h:=aZ 30 rfl (h:=aZ 31 rfl (h:=aZ 32 rfl (h:=aZ 33 rfl (h:=aZ 34 rfl (h:=aZ 35 rfl (h:=aZ 36 rfl (h:=aZ 37 rfl (h:=aPT 38 rfl (h:=Zv kr kr ?_))))))))))))))))))))
 refine Zj (Zb (t:=true) rfl (fun _=>Za (xA (h:=Zd (ZI (Zp (Z7 (ZI (Zp ?_)))))))) (fun h=>Bool.noConfusion h))
 exact eR t1 ⟨Zk (ZcJ hm hs (by simp [ZbW,Z2,DFolder.box,g1,g2,g3,g4];try omega)).symm,rfl,rfl⟩
 try simp only [sQ,ne_eq] at g4
 refine aW 19 rfl Zcx (h:=aT 20 rfl (Zaj fun D=>ZX [_,_] rfl rfl ZbT rfl (Zaa 1 rfl rfl rfl) r4) (h:=aT 21 rfl (Zaj fun D=>ZaF rfl rfl Ztk rfl (Zgk _ _ (⟨m.next,m.mail⟩:DBox) _ hm5) r4) (h:=aN 22 rfl (h:=aPF 23 rfl (h:=aM 24 rfl (h:=ZaE (d:=41) rfl (fun g5=>?_) (fun g5=>?_)))))))
 try simp only [sQ,ne_eq] at g5
 refine aZ 25 rfl (h:=aZ 26 rfl (h:=aZ 27 rfl (h:=aZ 28 rfl (h:=aZ 29 rfl (h:=aZ 30 rfl (h:=aZ 31 rfl (h:=aZ 32 rfl (h:=aZ 33 rfl (h:=aZ 34 rfl (h:=aZ 35 rfl (h:=aZ 36 rfl (h:=aZ 37 rfl (h:=aPT 38 rfl (h:=Zv kr kr ?_))))))))))))))
 refine Zj (Zb (t:=true) rfl (fun _=>Za (xA (h:=Zd (ZI (Zp (Z7 (ZI (Zp ?_)))))))) (fun h=>Bool.noConfusion h))
 exact eR t1 ⟨Zk (ZcJ hm hs (by simp [ZbW,Z2,DFolder.box,g1,g2,g3,g4,g5];try omega)).symm,rfl,rfl⟩
 try simp only [sQ,ne_eq] at g5
 refine aM 25 rfl (h:=ZnE 26 rfl (h:=aM 27 rfl (h:=ZaE (d:=44) rfl (fun g6=>?_) (fun g6=>?_))))
 try simp only [sQ,ne_eq] at g6
 refine aW 28 rfl Z1 (h:=aT 29 rfl (Zaj fun D=>Ze rfl rfl ZcM rfl (atL 0 rfl rfl rfl) r4) (h:=aM 30 rfl (h:=aU 31 rfl (h:=?_))))
 obtain ⟨y,hy⟩:=Zey (xs:=x.folders) (i:=(↑g.1 - 1)) om om
 obtain ⟨_,⟨qg12,cg12,qm12,cm12,rfl,hg12,hm12,hb12,hb12b⟩,hc12⟩:=hf.elem hy
 have hg12n:=hg12.len
 have hm12n:=hm12.len
 have hm12s:=Z5 hm12
 refine aIx 32 rfl Tryz.underlying39 Zbo (h:=?_)
 have hpe:=hp.at hy oz
 refine aT 33 rfl (Zaj fun D=>ZX [_,_,_,_,_] rfl rfl ZhP rfl (ZmN hc12 0 rfl rfl) r4) (h:=aT 34 rfl (Zaj fun D=>ZX [_,_,_,_,_] rfl rfl ZhP rfl (Zaa 1 rfl rfl rfl) r4) (h:=aT 35 rfl (Zaj fun D=>ZaF rfl rfl ZwL rfl (ZlL y m _ _ _ _ _ _ _ _ _) r4) (h:=aN 36 rfl (h:=aPT 37 rfl (h:=aPF 38 rfl (h:=Zv kr kr ?_))))))
 refine Zj (Zb rfl (fun g7=>?_) (fun g7=>?_))
 try simp only [sQ,ne_eq] at g7
 refine Za (xA (h:=Zd (ZI (Zp (Z7 (ZI (Zp ?_)))))))
 exact eR t1 ⟨Zk (ZcJ hm hs (by simp [ZbW,Z2,DFolder.box,g1,g2,g3,g4,g5,g6,g7,hpe];try omega)).symm,rfl,rfl⟩
 try simp only [sQ,ne_eq] at g7
 refine ZL (Zw (Zj (Zc (xM (h:=xD (h:=xA (h:=?_)))))))
 exact ZD (g.1+1,some m) [0] so2 ⟨rfl,oz,Zci hm hs (by rw [hpe];simp [ZbW,Z2,DFolder.box,g3,g4,g5,g7];omega),.succ hm⟩ t3 rfl
 try simp only [sQ,ne_eq] at g6
 refine aZ 28 rfl (h:=aZ 29 rfl (h:=aZ 30 rfl (h:=aZ 31 rfl (h:=aZ 32 rfl (h:=aZ 33 rfl (h:=aZ 34 rfl (h:=aZ 35 rfl (h:=aZ 36 rfl (h:=aPF 37 rfl (h:=aPF 38 rfl (h:=Zv kr kr ?_)))))))))))
 refine Zj (Zb (t:=false) rfl (fun h=>Bool.noConfusion h) (fun _=>ZL (Zw (Zj (Zc (xM (h:=xD (h:=xA (h:=?_)))))))))
 exact ZD (g.1+1,some m) [0] so2 ⟨rfl,oz,Zci hm hs (by rw [hp.at0 oz];simp [ZbW,Z2,DFolder.box,g3,g4,g5];omega),.succ hm⟩ t3 rfl
 try simp only [sQ,ne_eq] at g1
 refine ZU (Zak (Z3 (ZK (Zj (Za (xW Z1 (h:=x1 ZcM 0 (h:=xV Tryz.underlying39 (h:=ZcO (h:=xA (h:=Zd ?_)))))))))))
 exact eR t1 ⟨Zk (by rw [ZkB (Zea hs oz),Bool.eq_iff_iff];simp;try omega),rfl,rfl⟩

theorem Zbp (q1 q2 q3:Option Addr) (c1 c2 c3:Nat) (x:DHost) (hd:x.domain.length≤2000000) (B:Kn) (hu:SlK B q1 c1 3 ZA x.users) (hf:SlK B q2 c2 5 Zf x.folders) (hi:SlK B q3 c3 4 ZC x.queue.items):ZaX (pj J) 36 [.agg #[str x.domain,.slice q1 x.users.length c1,.slice q2 x.folders.length c2,.int .i64 x.queue.next,.slice q3 x.queue.items.length c3]] B (.bool (Zz x)):=by
 refine cB 87 Tryz.func36 (h:=?_)
 have hfn:=hf.len
 have hun:=hu.len
 have hin:=hi.len
 refine Za (xBx [_,_,_,_,_] (h:=fun b1=>xA (h:=tL1 (Zh (Za (xW Zl0 (h:=x1 lk9 0 (h:=xR ZzS rfl (Zlp _ om2 _) (h:=?_)))))))))
 refine xN (h:=xM (h:=Zq (d:=10) rfl (fun g1=>?_) (fun g1=>?_)))
 try simp only [sQ,ne_eq] at g1
 refine xP (h:=xP (h:=xP (h:=xP (h:=xT (h:=xM (h:=xP (h:=xP (h:=xP (h:=xP (h:=xT (h:=xM (h:=xP (h:=xP (h:=xP (h:=xT (h:=Zb (t:=true) rfl (fun _=>Za (xA (h:=Zd (Zp ?_)))) (fun h=>Bool.noConfusion h)))))))))))))))))
 exact eR t1 ⟨Zk (by simp [Zz,g1]),rfl,rfl⟩
 try simp only [sQ,ne_eq] at g1
 refine xW Zcg (h:=x1 ZjM 0 (h:=xR ZzR rfl (ZmI _ _ _ _ hu) (h:=xN (h:=xF (h:=xM (h:=Zq (d:=16) rfl (fun g2=>?_) (fun g2=>?_)))))))
 try simp only [sQ,ne_eq] at g2
 refine xP (h:=xP (h:=xP (h:=xP (h:=xT (h:=xM (h:=xP (h:=xP (h:=xP (h:=xT (h:=Zb (t:=true) rfl (fun _=>Za (xA (h:=Zd (Zp ?_)))) (fun h=>Bool.noConfusion h)))))))))))
 exact eR t1 ⟨Zk (by simp [Zz,g1,g2]),rfl,rfl⟩
 try simp only [sQ,ne_eq] at g2
 refine xW ZcK (h:=xL [_,_] Zd1 0 (h:=xR Zx1 rfl (ZfT _ _ x.queue _ hi) (h:=xN (h:=xF (h:=xM (h:=Zq (d:=22) rfl (fun g3=>?_) (fun g3=>?_)))))))
 try simp only [sQ,ne_eq] at g3
 refine xP (h:=xP (h:=xP (h:=xT (h:=Zb (t:=true) rfl (fun _=>Za (xA (h:=Zd (Zp ?_)))) (fun h=>Bool.noConfusion h)))))
 exact eR t1 ⟨Zk (by simp [Zz,g1,g2,g3]),rfl,rfl⟩
 try simp only [sQ,ne_eq] at g3
 refine xL [_,_,_,_,_] ZY 0 (h:=xR ZzQ rfl (ZlM _ _ _ _ _ _ x _ hu hf) (h:=xN (h:=xF (h:=Zb rfl (fun g4=>?_) (fun g4=>?_)))))
 try simp only [sQ,ne_eq] at g4
 refine Za (xA (h:=Zd (Zp ?_)))
 exact eR t1 ⟨Zk (by simp [Zz,g1,g2,g3,g4]),rfl,rfl⟩
 try simp only [sQ,ne_eq] at g4
 refine wSk (Zh (Za (xA (h:=Zn (ZQ (α:=Nat) [0,1,26] (fun k=>[(3,.int .i64 k)]) [] (fun k=>[]) (fun k Bx=>Bx=B∧k≤x.users.length∧∀z,z∈x.users.take k→ZaT x.folders z=true) (fun k=>x.users.length - k) 0 t1 rfl (⟨rfl,Nat.zero_le _,by simp⟩) (fun k B6 hle6 hI=>?_))))))
 obtain ⟨rfl,hk,ha⟩:=hI
 refine ZN [(0,_),(1,_),(3,_),(26,_)] [_] t4 rfl (Zh (Za (xM (h:=xW Zcg (h:=x1 ZjM 0 (h:=xV Tryz.underlying38 (h:=Zag (h:=Zb rfl (fun g5=>?_) (fun g5=>?_)))))))))
 try simp only [sQ,ne_eq] at g5
 refine wSk (Zh (Zn (Zh (ZV (same _ _) mo kr ⟨rfl,rfl⟩ (fun _ _=>?_)))))
 refine aT 0 rfl (Zaj fun D=>ZX [_,_,_,_,_] rfl rfl ZY rfl (Zaa 0 rfl rfl rfl) r4) (h:=aW 1 rfl Zcg (h:=aT 2 rfl (Zaj fun D=>Ze rfl rfl ZjM rfl (atL 0 rfl rfl rfl) r4) (h:=aM 3 rfl (h:=?_))))
 obtain ⟨w,hw⟩:=ZaA (xs:=x.users) (i:=k) om
 obtain ⟨bb8,oo8,rfl⟩:=hu.base hw
 obtain ⟨_,⟨rfl,hb9,hb9b⟩,hc9⟩:=hu.elem hw
 refine aIx 4 rfl Tryz.underlying38 ZbQ (h:=aW 5 rfl Zb7 (h:=aT 6 rfl (Zaj fun D=>Ze rfl rfl lk9 rfl (hc9 _ 0 _ rfl) r4) (h:=aT 7 rfl (Zaj fun D=>ZaF rfl rfl Zt0 rfl (Zc5 _ _ _ _ _ _ x w.name [105,110,98,111,120] om2 om2 _ hf) r4) (h:=?_))))
 refine ZrM 8 rfl (h:=aM 9 rfl (h:=ZaE (d:=43) rfl (fun g6=>?_) (fun g6=>?_)))
 try simp only [sQ,ne_eq] at g6
 refine aZ 10 rfl (h:=aZ 11 rfl (h:=aZ 12 rfl (h:=aZ 13 rfl (h:=aZ 14 rfl (h:=aZ 15 rfl (h:=aZ 16 rfl (h:=aZ 17 rfl (h:=aZ 18 rfl (h:=aZ 19 rfl (h:=aZ 20 rfl (h:=aZ 21 rfl (h:=aZ 22 rfl (h:=aZ 23 rfl (h:=aZ 24 rfl (h:=aPT 25 rfl (h:=Zv kr kr ?_))))))))))))))))
 refine Zj (Zb (t:=true) rfl (fun _=>Za (xA (h:=Zd (ZI (Zp (Z7 (ZI (Zp ?_)))))))) (fun h=>Bool.noConfusion h))
 exact eR t1 ⟨Zk (ZiK hw (Zld g6)).symm,rfl,rfl⟩
 try simp only [sQ,ne_eq] at g6
 refine aT 10 rfl (Zaj fun D=>ZX [_,_,_,_,_] rfl rfl ZY rfl (Zaa 0 rfl rfl rfl) r4) (h:=aW 11 rfl Zcg (h:=aT 12 rfl (Zaj fun D=>Ze rfl rfl ZjM rfl (atL 0 rfl rfl rfl) r4) (h:=aM 13 rfl (h:=aIx 14 rfl Tryz.underlying38 ZbQ (h:=aW 15 rfl Zb7 (h:=aT 16 rfl (Zaj fun D=>Ze rfl rfl lk9 rfl (hc9 _ 0 _ rfl) r4) (h:=aT 17 rfl (Zaj fun D=>ZaF rfl rfl Zzw rfl (ZlK _ _ _ _ _ _ x _ _ hf) r4) (h:=aW 18 rfl Zcg (h:=aT 19 rfl (Zaj fun D=>Ze rfl rfl ZjM rfl (atL 0 rfl rfl rfl) r4) (h:=aM 20 rfl (h:=aIx 21 rfl Tryz.underlying38 ZbQ (h:=aW 22 rfl Zf3 (h:=aT 23 rfl (Zaj fun D=>Ze rfl rfl lk3 rfl (hc9 _ 2 _ rfl) r4) (h:=ZnE 24 rfl (h:=aPF 25 rfl (h:=Zv kr kr ?_))))))))))))))))
 refine Zj (Zb rfl (fun g7=>?_) (fun g7=>?_))
 try simp only [sQ,ne_eq] at g7
 refine Za (xA (h:=Zd (ZI (Zp (Z7 (ZI (Zp ?_)))))))
 exact eR t1 ⟨Zk (ZiK hw (Zlc g7)).symm,rfl,rfl⟩
 try simp only [sQ,ne_eq] at g7
 refine ZL (Zw (Zj (Zc (xM (h:=xD (h:=xA (h:=?_)))))))
 exact ZD (k+1) [0] so2 ⟨rfl,oz,Zbk hw ha (Zlb g6 g7)⟩ t4 rfl
 try simp only [sQ,ne_eq] at g5
 refine ZU (Zak (Z3 (ZK (Zj (Zh (Za (xA (h:=Zn (ZQ (α:=Nat) [0,1,3,26,31] (fun j=>[(4,.int .i64 j)]) [] (fun j=>[]) (fun j Bx=>Bx=B6∧j≤x.queue.items.length∧∀z,z∈x.queue.items.take j→ZaG x.users z=true) (fun j=>x.queue.items.length - j) 0 t1 rfl (⟨rfl,Nat.zero_le _,by simp⟩) (fun j B12 hle12 hI=>?_))))))))))
 obtain ⟨rfl,hj,hb⟩:=hI
 refine ZN [(0,_),(1,_),(3,_),(4,_),(26,_),(31,_)] [_] t6 rfl (Zh (Za (xM (h:=xW ZcK (h:=xW ZaC (h:=x1 Ze7 0 (h:=xV Tryz.underlying40 (h:=Zag (h:=Zb rfl (fun g8=>?_) (fun g8=>?_))))))))))
 try simp only [sQ,ne_eq] at g8
 refine wSk (Zh (Zn (Za (xW ZcK (h:=xW ZaC (h:=x1 Ze7 0 (h:=xM (h:=?_))))))))
 obtain ⟨y,hy⟩:=ZaA (xs:=x.queue.items) (i:=j) om
 obtain ⟨bb14,oo14,rfl⟩:=hi.base hy
 obtain ⟨_,⟨qi15,ci15,rfl,hi15,hb15,hb15b⟩,hc15⟩:=hi.elem hy
 have hi15n:=hi15.len
 refine xIx Tryz.underlying40 Zbn (h:=yL [_,_,_,_] Zec hc15 0 (h:=xAl [_,_,_,_] Zc1 (h:=fun b16=>xS [_,_,_,_] 1 [_,_,_,_] Zbn (h:=tL2 (Za (xW Zcg (h:=x1 ZjM 0 (h:=xW ZkH (h:=x1 lk9 1 (h:=xR ZtZ rfl (Zc6 _ _ _ _ _ hu) (h:=Zag (h:=xM (h:=Zq (d:=80) rfl (fun g9=>?_) (fun g9=>?_))))))))))))))
 try simp only [sQ,ne_eq] at g9
 refine xP (h:=xP (h:=xP (h:=xP (h:=xP (h:=xT (h:=Zb (t:=true) rfl (fun _=>Za (xA (h:=Zd (ZI (Zp (Z7 (ZI (Zp ?_)))))))) (fun h=>Bool.noConfusion h)))))))
 exact eR t1 ⟨Zk (ZiL hy (Zkt g9)).symm,rfl,rfl⟩
 try simp only [sQ,ne_eq] at g9
 refine xL [_,_,_,_,_] ZY 0 (h:=xW ZaR (h:=x1 Zda 1 (h:=xR Zzv rfl (ZjN _ _ _ _ _ _ x _ _ y.left _ hu hi15) (h:=xN (h:=xF (h:=Zb rfl (fun ga=>?_) (fun ga=>?_)))))))
 try simp only [sQ,ne_eq] at ga
 refine Za (xA (h:=Zd (ZI (Zp (Z7 (ZI (Zp ?_)))))))
 exact eR t1 ⟨Zk (ZiL hy (Zks ga)).symm,rfl,rfl⟩
 try simp only [sQ,ne_eq] at ga
 refine ZL (Zw (Zj (Zc (xM (h:=xD (h:=xA (h:=?_)))))))
 exact ZD (j+1) [0] so2 ⟨rfl,oz,Zbk hy hb (Zkr g9 ga)⟩ t6 rfl
 try simp only [sQ,ne_eq] at g8
 refine ZU (Zak (Z3 (ZK (Zj (Za (xA (h:=Zd ?_)))))))
 exact eR t1 ⟨Zk (Zpb g1 g2 g3 g4 (Zd6 (Zby oz ha)) (Zd6 (Zby oz hb))).symm,rfl,rfl⟩

theorem Zot (q:Option Addr) (cp:Nat) (gs:List DGrant) (B:Kn) (hg:SlK B q cp 2 Z0 gs):Zu (pj J) 206 [.slice q gs.length cp] B [] (ZnG gs B):=by
 refine cB 46 Tryz.func206 (h:=?_)
 have hgn:=hg.len
 refine Za (xA (h:=xA (h:=Zh (Za (xM (h:=xV Tryz.underlying82 (h:=ZbG (h:=Zb rfl (fun g0=>?_) (fun g0=>?_)))))))))
 try simp only [sQ,ne_eq] at g0
 refine Za (xA (h:=xA (h:=Zd (Zp ?_))))
 exact Zi3 .ret (.inl rfl) [_,_] t2 (by simp [ZbN];omega)
 try simp only [sQ,ne_eq] at g0
 refine wSk (Za (Zm (ZpO rfl rfl (fun b1 l1 hl1=>xA (h:=tL1 (Za (xA (h:=Zh (Za (xM (h:=xV Tryz.underlying82 (h:=xM (h:=Zn (ZQ (α:=Nat × Str × Cells) [0,4,10,12,13] (fun g=>[(5,str g.2.1),(14,.int .i64 g.1)]) [0] (fun g=>[g.2.2]) (fun g Bx=>Bx=B∧g.1≤gs.length∧Zc7 (gs.take g.1)=(true,g.2.1)∧g.2.1.length≤2000000∧Zvu g.2.2 b1 (Zfb (gs.take g.1))) (fun g=>gs.length - g.1) (0,[],_) t2 rfl (⟨rfl,Nat.zero_le _,Ze3,by simp,hl1⟩) (fun g B2 hle2 hI=>?_)))))))))))))))
 obtain ⟨rfl,hk,hs,hnm,hml⟩:=hI
 refine ZN [(0,_),(4,_),(5,_),(10,_),(12,_),(13,_),(14,_)] [_] t7 rfl (Za (Zag (h:=Zh (Zb rfl (fun g1=>?_) (fun g1=>?_)))))
 try simp only [sQ,ne_eq] at g1
 refine wSk (Zh (Zn (Za ?_)))
 obtain ⟨m,hm⟩:=ZaA (xs:=gs) (i:=g.1) om
 obtain ⟨bb4,oo4,rfl⟩:=hg.base hm
 obtain ⟨_,⟨rfl,hb5⟩,hc5⟩:=hg.elem hm
 refine xIx Tryz.underlying82 ZbP (h:=yL [_,_] ZsI hc5 0 (h:=xAl [_,_] ZdM (h:=fun b6=>xS [_,_] 1 [_,_] ZbP (h:=tL2 (Zh (Za (xW ZcV (h:=x1 lk9 1 (h:=xR Zl7 rfl (Zcu _ om2 _) (h:=?_))))))))))
 refine xN (h:=xM (h:=Zq (d:=22) rfl (fun g2=>?_) (fun g2=>?_)))
 try simp only [sQ,ne_eq] at g2
 refine xP (h:=xP (h:=xP (h:=xP (h:=xT (h:=Zb (t:=true) rfl (fun _=>Za (xA (h:=xA (h:=Zd (Zp (ZI (Zp (Z7 (ZI (Zp ?_)))))))))) (fun h=>Bool.noConfusion h))))))
 exact Zi3 .ret (.inl rfl) [_,_] t2 (ZdK hm hs (by rw [Zcw,Zbr g.2.1 m.user];simp [g2];try omega))
 try simp only [sQ,ne_eq] at g2
 refine xW ZcV (h:=x1 lk9 1 (h:=xM (h:=Zm (ZtK rfl rfl rfl rfl (xF (h:=Zb rfl (fun g3=>?_) (fun g3=>?_)))))))
 try simp only [sQ,ne_eq] at g3
 refine Za (xA (h:=xA (h:=Zd (Zp (ZI (Zp (Z7 (ZI (Zp ?_)))))))))
 exact Zi3 .ret (.inl rfl) [_,_] t2 (ZdK hm hs (by rw [Zcw,Zbr g.2.1 m.user];simp [g3];try omega))
 try simp only [sQ,ne_eq] at g3
 refine wSk (Zh (Za (xW ZgU (h:=x1 lk3 1 (h:=Zag (h:=xM (h:=Zq (d:=31) rfl (fun g4=>?_) (fun g4=>?_))))))))
 try simp only [sQ,ne_eq] at g4
 refine xP (h:=xP (h:=xP (h:=xP (h:=xT (h:=Zb (t:=true) rfl (fun _=>Za (xA (h:=xA (h:=Zd (Zp (ZI (Zp (Z7 (ZI (Zp ?_)))))))))) (fun h=>Bool.noConfusion h))))))
 exact Zi3 .ret (.inl rfl) [_,_] t2 (ZdK hm hs (by rw [Zcw,Zbr g.2.1 m.user];simp [g4];try omega))
 try simp only [sQ,ne_eq] at g4
 refine xW ZgU (h:=x1 lk3 1 (h:=xR Zyr rfl (Zso _ _) (h:=xN (h:=xF (h:=Zb rfl (fun g5=>?_) (fun g5=>?_))))))
 try simp only [sQ,ne_eq] at g5
 refine Za (xA (h:=xA (h:=Zd (Zp (ZI (Zp (Z7 (ZI (Zp ?_)))))))))
 exact Zi3 .ret (.inl rfl) [_,_] t2 (ZdK hm hs (Bool.eq_false_iff.2 fun hc=>by simp only [Zcw,Bool.and_eq_true,decide_eq_true_eq] at hc;simp only [Bool.and_eq_false_iff,decide_eq_false_iff_not] at g5;omega))
 try simp only [sQ,ne_eq] at g5
 refine wSk (Za (xM (h:=xW ZcV (h:=x1 lk9 1 (h:=xW ZgU (h:=x1 lk3 1 (h:=Zm (Zmv (k:=m.user) (v:=m.rights) 0 rfl hml rfl rfl Tryz.underlying281 Tryz.underlying9 rfl rfl rfl (fun l9 hl9=>tL2 (Zc (xW ZcV (h:=x1 lk9 1 (h:=xA (h:=Zw (Zj (Zc (xD (h:=xM (h:=?_)))))))))))))))))))
 exact ZD (g.1+1,m.user,l9) [0] so2 ⟨rfl,so,Zci hm hs (by rw [Zcw,Zbr g.2.1 m.user,g2,g3];simp at g5 ⊢;omega),oy,by rw [← ZuN hm hs (by rw [Zbr g.2.1 m.user,g3];rfl)];exact hl9⟩ t7 rfl
 try simp only [sQ,ne_eq] at g1
 refine ZU (Zak (Z3 (ZK (Zj (Za (xM (h:=xA (h:=xA (h:=Zd ?_)))))))))
 exact Zva .ret (.inl rfl) [_,_] rfl t2 (by rw [Zmq (Zea hs oz)];simp;omega) (by have e:=hml;rw [List.take_of_length_le oz] at e;exact e)

theorem ZqQ (q:Option Addr) (cp:Nat) (gs:List DGrant) (B:Kn) (hg:SlK B q cp 2 Z0 gs):ZaX (pj J) 184 [.slice q gs.length cp] B (.bool (ZbN gs)):=by
 refine cB 11 Tryz.func184 (h:=?_)
 refine Za (xA (h:=Za (xM (h:=xC ZwI rfl (Zot _ _ _ _ hg) (h:=?_)))))
 rintro _ B1 _ hle1 ⟨m1,l1,rfl,rfl,rfl,hl1⟩
 refine xM (h:=xE (h:=xE (h:=xA (h:=xA (h:=tL1 (Za (xM (h:=xA (h:=Zd ?_)))))))))
 exact eR t1 ⟨rfl,rfl,rfl⟩

theorem ZwV (a b:Str) (B:Kn):ZaX (pj J) 223 [str a,str b] B (.int .i64 (Lib.compareBytes a b)):=by
 refine cB 8 Tryz.func223 (h:=?_)
 refine Za (xA (h:=Za (xM (h:=xM (h:=Zm (Zxv (fn:=Tryz.f268) rfl rfl Tryz.func268 rfl rfl Zwt Zwu rfl rfl (xA (h:=Zd ?_))))))))
 exact eR t1 ⟨rfl,rfl,rfl⟩

theorem Zt1 (a b:Str) (B:Kn):ZaX (pj J) 179 [str a,str b] B (.int .i64 (Lib.compareBytes a b)):=by
 refine cB 8 Tryz.func179 (h:=?_)
 refine Za (xA (h:=Za (xM (h:=xM (h:=xR Zyv rfl (ZwV a b _) (h:=xA (h:=Zd ?_)))))))
 exact eR t1 ⟨rfl,rfl,rfl⟩

theorem Znj (f:DFolder) (qa qb:Option Addr) (ca cb:Nat) (ow nm:Str) (B:Kn):ZaX (pj J) 125 [.agg #[str f.owner,str f.name,.slice qa f.grants.length ca,.int .i64 f.next,.slice qb f.mail.length cb],str ow,str nm] B (.int .i64 (ZwU f ow nm)):=by
 refine cB 19 Tryz.func125 (h:=?_)
 refine Za (xBx [_,_,_,_,_] (h:=fun b1=>xA (h:=tL1 (Zh (Za (xW Zc8 (h:=x1 lk9 0 (h:=xM (h:=xR ZwJ rfl (Zt1 f.owner ow _) (h:=xA (h:=Za (xM (h:=Zdt (h:=Zb rfl (fun g1=>?_) (fun g1=>?_)))))))))))))))
 try simp only [sQ,ne_eq] at g1
 refine Za (xM (h:=xA (h:=Zd (Zp ?_))))
 exact eR t1 ⟨ZaH (by rw [ZwU,if_pos g1]),rfl,rfl⟩
 try simp only [sQ,ne_eq] at g1
 refine wSk (Za (xW ZfH (h:=x1 lk9 0 (h:=xM (h:=xR ZwJ rfl (Zt1 f.name nm _) (h:=xA (h:=Zd ?_)))))))
 exact eR t1 ⟨ZaH (by rw [ZwU,if_neg (fun h=>h g1)]),rfl,rfl⟩

theorem Zv1 (b o:Nat) (q1 q2 q3:Option Addr) (c1 c2 c3:Nat) (x:DHost) (u:Str) (B:Kn) (hh:ZaI B b o [str x.domain,.slice q1 x.users.length c1,.slice q2 x.folders.length c2,.int .i64 x.queue.next,.slice q3 x.queue.items.length c3]) (hf:SlK B q2 c2 5 Zf x.folders):ZaX (pj J) 163 [ptr ⟨b,o,none⟩,str u] B (.int .i64 (ZfQ x.folders u)):=by
 refine cB 28 Tryz.func163 (h:=?_)
 have hfn:=hf.len
 refine Za (xA (h:=Za (xA (h:=Zh (Za (xM (h:=xNc (h:=xW Z1 (h:=Zm (Ze rfl rfl ZcM rfl (hh _ 2 _ rfl) (xV Tryz.underlying39 (h:=xM (h:=Zn (ZQ (α:=Nat × Int) [0,1,4,11,12] (fun g=>[(5,.int .i64 g.2),(13,.int .i64 g.1)]) [] (fun g=>[]) (fun g Bx=>Bx=B∧g.1≤x.folders.length∧g.2=ZfQ (x.folders.take g.1) u∧-1*g.1≤g.2∧g.2≤g.1*200) (fun g=>x.folders.length - g.1) (0,0) t2 rfl (⟨rfl,Nat.zero_le _,by simp [ZfQ],by simp,by simp⟩) (fun g B1 hle1 hI=>?_)))))))))))))))
 obtain ⟨rfl,hk,hs,hl0,hl1⟩:=hI
 refine ZN [(0,_),(1,_),(4,_),(5,_),(11,_),(12,_),(13,_)] [] t7 rfl (Za (Zag (h:=Zh (Zb rfl (fun g1=>?_) (fun g1=>?_)))))
 try simp only [sQ,ne_eq] at g1
 refine wSk (Zh (Zn (Za ?_)))
 obtain ⟨m,hm⟩:=ZaA (xs:=x.folders) (i:=g.1) om
 obtain ⟨bb3,oo3,rfl⟩:=hf.base hm
 obtain ⟨_,⟨qg4,cg4,qm4,cm4,rfl,hg4,hm4,hb4,hb4b⟩,hc4⟩:=hf.elem hm
 have hg4n:=hg4.len
 have hm4n:=hm4.len
 have hm4s:=Z5 hm4
 refine xIx Tryz.underlying39 Zbo (h:=yL [_,_,_,_,_] ZhP hc4 0 (h:=xAl [_,_,_,_,_] ZdQ (h:=fun b5=>xS [_,_,_,_,_] 0 [_,_,_,_,_] Zbo (h:=tL1 (Za (xW Zc8 (h:=x1 lk9 0 (h:=xM (h:=Zeh (h:=Zb rfl (fun g2=>?_) (fun g2=>?_)))))))))))
 try simp only [sQ,ne_eq] at g2
 have hbs:=Zj0 (⟨m.next,m.mail⟩:DBox)
 refine Zc (xM (h:=xW Zcx (h:=xL [_,_] ZbT 0 (h:=xR ZyB rfl (ZrC _ _ (⟨m.next,m.mail⟩:DBox) _ hm4) (h:=xD (h:=xA (h:=Zw (Zj (Zc (xD (h:=xM (h:=?_))))))))))))
 exact ZD (g.1+1,g.2+Zeg ⟨m.next,m.mail⟩) [] so2 ⟨rfl,so,by rw [Zju hm,← hs,if_pos g2],so,so⟩ t7 rfl
 try simp only [sQ,ne_eq] at g2
 refine ZL (Zw (Zj (Zc (xD (h:=xM (h:=?_))))))
 exact ZD (g.1+1,g.2) [] so2 ⟨rfl,so,by rw [Zju hm,← hs,if_neg g2,Int.add_zero],so,so⟩ t7 rfl
 try simp only [sQ,ne_eq] at g1
 refine ZU (Zak (Z3 (ZK (Zj (Za (xM (h:=xA (h:=Zd ?_))))))))
 exact eR t1 ⟨ZaH (by rw [← ZpZ hs oz]),rfl,rfl⟩

theorem Zrg (b o:Nat) (q1 q2 q3:Option Addr) (c1 c2 c3:Nat) (x:DHost) (u:Str) (more:Int) (hn:u.length≤2000000) (hm0:0≤more) (hm1:more≤2000000) (B:Kn) (hh:ZaI B b o [str x.domain,.slice q1 x.users.length c1,.slice q2 x.folders.length c2,.int .i64 x.queue.next,.slice q3 x.queue.items.length c3]) (hu:SlK B q1 c1 3 ZA x.users) (hf:SlK B q2 c2 5 Zf x.folders):ZaX (pj J) 115 [ptr ⟨b,o,none⟩,str u,.int .i64 more] B (.bool (ZeO x u more)):=by
 refine cB 30 Tryz.func115 (h:=?_)
 have hfn:=hf.len
 have hub:=Zse x.folders u
 refine Za (xA (h:=Za (xM (h:=xNc (h:=xW Zcg (h:=Zm (Ze rfl rfl ZjM rfl (hh _ 1 _ rfl) (xM (h:=xR ZwK rfl (Zig _ _ _ u om2 _ hu) (h:=?_))))))))))
 refine xM (h:=xE (h:=xE (h:=xAl [_,_,_] ZcN (h:=fun b2=>xS [_,_,_] 0 [_,_,_] ZbQ (h:=xA (h:=tL1 (Zh (ZV (same _ _) mo kr ⟨rfl,rfl⟩ (fun _ _=>?_)))))))))
 refine aM 0 rfl (h:=aN 1 rfl (h:=aM 2 rfl (h:=ZaE (d:=20) rfl (fun g1=>?_) (fun g1=>?_))))
 refine aZ 3 rfl (h:=aZ 4 rfl (h:=aZ 5 rfl (h:=aZ 6 rfl (h:=aZ 7 rfl (h:=aZ 8 rfl (h:=aZ 9 rfl (h:=aZ 10 rfl (h:=aPT 11 rfl (h:=aA 12 rfl (h:=Zv kr kr ?_))))))))))
 refine Zj (Zd ?_)
 exact eR t1 ⟨Zk (by rw [ZeO,g1];rfl),rfl,rfl⟩
 refine aM 3 rfl (h:=aM 4 rfl (h:=aT 5 rfl (Zaj fun D=>ZaF rfl rfl Zy1 rfl (Zv1 _ _ _ _ _ _ _ _ x u _ hh hf) r4) (h:=aM 6 rfl (h:=aD 7 rfl (h:=aW 8 rfl Zf3 (h:=aT 9 rfl (Zaj fun D=>Ze rfl rfl lk3 rfl (atL 0 rfl rfl rfl) r4) (h:=ZnE 10 rfl (h:=aPF 11 rfl (h:=aA 12 rfl (h:=Zv kr kr ?_))))))))))
 refine Zj (Zd ?_)
 exact eR t1 ⟨Zk (by rw [ZeO,g1];rfl),rfl,rfl⟩

theorem Zoz (b o:Nat) (q1 q2 q3:Option Addr) (c1 c2 c3:Nat) (x:DHost) (B:Kn) (hh:ZaI B b o [str x.domain,.slice q1 x.users.length c1,.slice q2 x.folders.length c2,.int .i64 x.queue.next,.slice q3 x.queue.items.length c3]) (hu:SlK B q1 c1 3 ZA x.users) (hf:SlK B q2 c2 5 Zf x.folders):ZaX (pj J) 127 [ptr ⟨b,o,none⟩] B (.bool (Zif x)):=by
 refine cB 26 Tryz.func127 (h:=?_)
 have hfn:=hf.len
 have hun:=hu.len
 refine Za (xA (h:=Zh (Za (xM (h:=xNc (h:=xW Zcg (h:=Zm (Ze rfl rfl ZjM rfl (hh _ 1 _ rfl) (xV Tryz.underlying38 (h:=xM (h:=Zn (ZQ (α:=Nat) [0,8,9] (fun k=>[(10,.int .i64 k)]) [] (fun k=>[]) (fun k Bx=>Bx=B∧k≤x.users.length∧∀z,z∈x.users.take k→ZcZ x z=true) (fun k=>x.users.length - k) 0 t1 rfl (⟨rfl,Nat.zero_le _,by simp⟩) (fun k B1 hle1 hI=>?_)))))))))))))
 obtain ⟨rfl,hk,ha⟩:=hI
 refine ZN [(0,_),(8,_),(9,_),(10,_)] [] t4 rfl (Za (Zag (h:=Zh (Zb rfl (fun g1=>?_) (fun g1=>?_)))))
 try simp only [sQ,ne_eq] at g1
 refine wSk (Zh (Zn (Za ?_)))
 obtain ⟨w,hw⟩:=ZaA (xs:=x.users) (i:=k) om
 obtain ⟨bb3,oo3,rfl⟩:=hu.base hw
 obtain ⟨_,⟨rfl,hb4,hb4b⟩,hc4⟩:=hu.elem hw
 refine xIx Tryz.underlying38 ZbQ (h:=yL [_,_,_] ZhD hc4 0 (h:=xAl [_,_,_] ZcN (h:=fun b5=>xS [_,_,_] 0 [_,_,_] ZbQ (h:=tL1 (Za (xM (h:=xW Zb7 (h:=x1 lk9 0 (h:=xR ZwP rfl (ZtY _ _ _ _ _ _ _ _ x w.name [105,110,98,111,120] om2 om2 _ hh hf) (h:=?_))))))))))
 refine Zag (h:=xM (h:=Zq (d:=19) rfl (fun g2=>?_) (fun g2=>?_)))
 try simp only [sQ,ne_eq] at g2
 refine xP (h:=xP (h:=xP (h:=xP (h:=xT (h:=Zb (t:=true) rfl (fun _=>Za (xA (h:=Zd (ZI (Zp (Z7 (ZI (Zp ?_)))))))) (fun h=>Bool.noConfusion h))))))
 exact eR t1 ⟨Zk (Zcl hw (Zlg g2)).symm,rfl,rfl⟩
 try simp only [sQ,ne_eq] at g2
 refine xM (h:=xW Zb7 (h:=x1 lk9 0 (h:=xR Zzm rfl (Zrg _ _ _ _ _ _ _ _ x w.name 0 om2 om2 om2 _ hh hu hf) (h:=?_))))
 refine xF (h:=Zb rfl (fun g3=>?_) (fun g3=>?_))
 try simp only [sQ,ne_eq] at g3
 refine Za (xA (h:=Zd (ZI (Zp (Z7 (ZI (Zp ?_)))))))
 exact eR t1 ⟨Zk (Zcl hw (Zlf g3)).symm,rfl,rfl⟩
 try simp only [sQ,ne_eq] at g3
 refine ZL (Zw (Zj (Zc (xD (h:=xM (h:=?_))))))
 exact ZD (k+1) [] so2 ⟨rfl,oz,Zbk hw ha (Zle g2 g3)⟩ t4 rfl
 try simp only [sQ,ne_eq] at g1
 refine ZU (Zak (Z3 (ZK (Zj (Za (xA (h:=Zd ?_)))))))
 exact eR t1 ⟨Zk (Zd6 (Zby oz ha)).symm,rfl,rfl⟩

theorem ZsU (q:Option Addr) (cp:Nat) (bs:List Bool) (v:Bool) (B:Kn) (hb:SlK B q cp 1 Zvw bs):ZaX (pj J) 242 [.slice q bs.length cp,.bool v] B (.int .i64 (ZaJ (fun y=>decide (v=y)) bs)):=by
 refine cB 19 Tryz.func242 (h:=?_)
 have hbn:=hb.len
 refine Za (xA (h:=Zh (Za (xM (h:=xV Tryz.underlying253 (h:=xM (h:=Zn (ZQ (α:=Nat) [0,1,7] (fun k=>[(8,.int .i64 k)]) [] (fun k=>[]) (fun k Bx=>Bx=B∧k≤bs.length∧∀y,y∈bs.take k→decide (v=y)=false) (fun k=>bs.length - k) 0 t1 rfl (⟨rfl,Nat.zero_le _,by simp⟩) (fun k B1 hle1 hI=>?_)))))))))
 obtain ⟨rfl,hk,ha⟩:=hI
 refine ZN [(0,_),(1,_),(7,_),(8,_)] [] t4 rfl (Za (Zag (h:=Zh (Zb rfl (fun g1=>?_) (fun g1=>?_)))))
 try simp only [sQ,ne_eq] at g1
 refine wSk (Zh (Zn (Za (xM (h:=xA (h:=Za (xM (h:=xM (h:=xM (h:=?_))))))))))
 obtain ⟨y,hy⟩:=ZaA (xs:=bs) (i:=k) om
 obtain ⟨bb3,oo3,rfl⟩:=hb.base hy
 obtain ⟨_,rfl,hc4⟩:=hb.elem hy
 refine xIx Tryz.underlying253 sz4 (h:=y1 lk4 hc4 0 (h:=Zm (ZvW rfl rfl rfl rfl rfl (ZwA Tryz.underlying4) (Zb rfl (fun g2=>?_) (fun g2=>?_)))))
 try simp only [sQ,ne_eq] at g2
 refine Za (xM (h:=xA (h:=Zd (ZI (Zp (Z7 (ZI (Zp ?_))))))))
 exact eR t1 ⟨ZaH (ZhS hy (decide_eq_true g2) ha).symm,rfl,rfl⟩
 try simp only [sQ,ne_eq] at g2
 refine ZL (Zw (Zj (Zc (xD (h:=xM (h:=?_))))))
 exact ZD (k+1) [] so2 ⟨rfl,oz,Zbk hy ha (decide_eq_false g2)⟩ t4 rfl
 try simp only [sQ,ne_eq] at g1
 refine ZU (Zak (Z3 (ZK (Zj (Za (xA (h:=Zd ?_)))))))
 exact eR t1 ⟨ZaH (Zfc (Zby oz ha)).symm,rfl,rfl⟩

theorem Znu (q:Option Addr) (cp:Nat) (bs:List Bool) (v:Bool) (B:Kn) (hb:SlK B q cp 1 Zvw bs):ZaX (pj J) 186 [.slice q bs.length cp,.bool v] B (.bool (decide (0≤ZaJ (fun y=>decide (v=y)) bs))):=by
 refine cB 9 Tryz.func186 (h:=?_)
 refine Za (xA (h:=Za (xM (h:=xM (h:=xR Zyu rfl (ZsU _ _ _ _ _ hb) (h:=ZdN (h:=xA (h:=Zd ?_))))))))
 exact eR t1 ⟨rfl,rfl,rfl⟩

theorem ZlR (l:Str) (hl:l.length≤2000000) (B:Kn):ZaX (pj J) 122 [str l] B (.bool (Zcm l)):=by
 refine cB 16 Tryz.func122 (h:=?_)
 refine Za (xA (h:=Za (xM (h:=xB [(0,_)] [_,_] [_,_] Zwg ZrV (h:=xAl [_,_] ZrV (h:=fun b1=>xS [_,_] 0 [_,_] Zwb (h:=tL1 (Za (Zm (Zjr 0 rfl rfl rfl ZyR rfl (Ztm _ _ 0 oz oz _) ?_))))))))))
 refine xM (h:=xE (h:=xE (h:=xA (h:=xA (h:=Za (xM (h:=xM (h:=Zq (d:=13) rfl (fun g1=>?_) (fun g1=>?_)))))))))
 refine Zm (Zh9 0 rfl rfl rfl Ztg rfl (Zom _ _ (dom l 0).2 (ZwT (Nat.zero_le _)) oz _) ?_)
 refine xT (h:=xA (h:=Zd ?_))
 exact eR t1 ⟨Zk (by rw [Bool.eq_iff_iff,← Zl8];simp [Znr] at g1;simp [g1];try omega),rfl,rfl⟩
 refine xP (h:=xF (h:=xA (h:=Zd ?_)))
 exact eR t1 ⟨Zk (by symm;rw [Bool.eq_false_iff,ne_eq,← Zl8];intro hc;simp [Znr,hc.1] at g1;omega),rfl,rfl⟩

theorem ZkA (Wg C n i b o b1 b3 b5 b6:Nat) (q1 q2 q3:Option Addr) (c1 c2 c3:Nat) (x:DHost) (m:DFolder) (qg qm:Option Addr) (cg cm:Nat) (hin:i<n) (B:Kn) (hc900:ZaI B b o [str x.domain,.slice q1 x.users.length c1,.slice q2 x.folders.length c2,.int .i64 x.queue.next,.slice q3 x.queue.items.length c3]) (hu:SlK B q1 c1 3 ZA x.users) (hc901:ZaI B b1 0 [ptr ⟨b,o,none⟩]) (hc903:ZaI B b3 0 [.slice (some ⟨C,0,none⟩) n n]) (hc905:ZaI B b5 0 [.int .i64 i]) (hc906:ZaI B b6 0 [str m.owner,str m.name,.slice qg m.grants.length cg,.int .i64 m.next,.slice qm m.mail.length cm]) (hg:SlK B qg cg 2 Z0 m.grants) (hm:SlK B qm cm 3 ZS m.mail) (ho:m.owner.length≤2000000) (hnm:m.name.length≤2000000):@ZeS ⟨4⟩ Tryz.prog wgL.tWg Wg C n i (.bool (Za3 x.users m)) (Go.Conc.G (Frame.enter Tryz.prog 181 #[ptr ⟨Wg,0,none⟩,ptr ⟨b1,0,none⟩,ptr ⟨b6,0,none⟩,ptr ⟨b3,0,none⟩,ptr ⟨b5,0,none⟩] .deferred) [Zf9 Tryz.prog]) B []:=by
 letI:Go.ConcR.Payload:=⟨4⟩
 refine Zua (Lk:=wgL) (P:=Tryz.prog) (caps:=[ptr ⟨Wg,0,none⟩,ptr ⟨b1,0,none⟩,ptr ⟨b6,0,none⟩,ptr ⟨b3,0,none⟩,ptr ⟨b5,0,none⟩]) (nt:=27) (I:=keeps B [] []) (K:=fun _ _ _ _=>False) Zmt Tryz.func181 rfl rfl (Nat.le_of_ble_eq_true rfl) rfl mo kr ⟨Kn.le.refl _,Zae.refl _ _⟩ (fun _ _ _ _ h=>h) ?_
 refine aT 0 rfl (Zx fun D B L hI=>Ze rfl rfl Zwn rfl ((hc903.mono hI.1) _ 0 _ rfl) r4) (h:=aT 1 rfl (Zx fun D B L hI=>Ze rfl rfl lk3 rfl ((hc905.mono hI.1) _ 0 _ rfl) r4) (h:=aT 2 rfl (Zx fun D B L hI=>Ze rfl rfl ZxP rfl ((hc901.mono hI.1) _ 0 _ rfl) r4) (h:=aW 3 rfl Zc8 (h:=aT 4 rfl (Zx fun D B L hI=>Ze rfl rfl lk9 rfl ((hc906.mono hI.1) _ 0 _ rfl) r4) (h:=aT 5 rfl (Zx fun D B L hI=>ZaF rfl rfl Zth rfl (ZhR _ _ _ _ _ _ _ _ x m.owner om2 _ (hc900.mono hI.1) (hu.mono ZA.mono hI.1)) r4) (h:=?_))))))
 refine aM 6 rfl (h:=ZaE (d:=11) rfl (fun g1=>?_) (fun g1=>?_))
 refine aW 7 rfl ZfH (h:=aT 8 rfl (Zx fun D B L hI=>Ze rfl rfl lk9 rfl ((hc906.mono hI.1) _ 1 _ rfl) r4) (h:=aT 9 rfl (Zx fun D B L hI=>ZaF rfl rfl Zl7 rfl (Zcu _ om2 _) r4) (h:=?_)))
 refine aPT 10 rfl (h:=aM 11 rfl (h:=ZaE (d:=16) rfl (fun g2=>?_) (fun g2=>?_)))
 refine aW 12 rfl Zeq (h:=aT 13 rfl (Zx fun D B L hI=>Ze rfl rfl ZtU rfl ((hc906.mono hI.1) _ 2 _ rfl) r4) (h:=aT 14 rfl (Zx fun D B L hI=>ZaF rfl rfl ZyM rfl (ZqQ _ _ _ _ (hg.mono Z0.mono hI.1)) r4) (h:=aPT 15 rfl (h:=aM 16 rfl (h:=ZaE (d:=21) rfl (fun g3=>?_) (fun g3=>?_))))))
 refine aW 17 rfl Zcx (h:=aT 18 rfl (Zx fun D B L hI=>ZX [_,_] rfl rfl ZbT rfl (ZmN (hc906.mono hI.1) 3 rfl rfl) r4) (h:=aT 19 rfl (Zx fun D B L hI=>ZaF rfl rfl ZwS rfl (ZlS _ _ (⟨m.next,m.mail⟩:DBox) _ (hm.mono ZS.mono hI.1)) r4) (h:=aPT 20 rfl (h:=aT 21 rfl (Zx fun D B L hI=>Za9 rfl rfl Tryz.underlying253 sz4 rfl rfl oz oz r4) (h:=?_)))))
 refine ZhX 22 kr rfl kr kr kr (fun T hn hT=>?_)
 refine Zgd (L:=[]) hT Zmt (by simp [Za3,DFolder.box,g1,g2,g3]) rfl hin rfl Tryz.sizeOf4 (Zdh sz4) (by exact ZhN C i) rfl kr Tryz.func181 rfl
 refine aZ 17 rfl (h:=aZ 18 rfl (h:=aZ 19 rfl (h:=aPF 20 rfl (h:=aT 21 rfl (Zx fun D B L hI=>Za9 rfl rfl Tryz.underlying253 sz4 rfl rfl oz oz r4) (h:=?_)))))
 refine ZhX 22 kr rfl kr kr kr (fun T hn hT=>?_)
 refine Zgd (L:=[]) hT Zmt (by simp [Za3,DFolder.box,g1,g2,g3]) rfl hin rfl Tryz.sizeOf4 (Zdh sz4) (by exact ZhN C i) rfl kr Tryz.func181 rfl
 refine aZ 12 rfl (h:=aZ 13 rfl (h:=aZ 14 rfl (h:=aPF 15 rfl (h:=aM 16 rfl (h:=aZ 17 rfl (h:=aZ 18 rfl (h:=aZ 19 rfl (h:=aPF 20 rfl (h:=aT 21 rfl (Zx fun D B L hI=>Za9 rfl rfl Tryz.underlying253 sz4 rfl rfl oz oz r4) (h:=?_))))))))))
 refine ZhX 22 kr rfl kr kr kr (fun T hn hT=>?_)
 refine Zgd (L:=[]) hT Zmt (by simp [Za3,DFolder.box,g1,g2]) rfl hin rfl Tryz.sizeOf4 (Zdh sz4) (by exact ZhN C i) rfl kr Tryz.func181 rfl
 refine aZ 7 rfl (h:=aZ 8 rfl (h:=aZ 9 rfl (h:=aPF 10 rfl (h:=aM 11 rfl (h:=aZ 12 rfl (h:=aZ 13 rfl (h:=aZ 14 rfl (h:=aPF 15 rfl (h:=aM 16 rfl (h:=aZ 17 rfl (h:=aZ 18 rfl (h:=aZ 19 rfl (h:=aPF 20 rfl (h:=aT 21 rfl (Zx fun D B L hI=>Za9 rfl rfl Tryz.underlying253 sz4 rfl rfl oz oz r4) (h:=?_)))))))))))))))
 refine ZhX 22 kr rfl kr kr kr (fun T hn hT=>?_)
 refine Zgd (L:=[]) hT Zmt (by simp [Za3,DFolder.box,g1]) rfl hin rfl Tryz.sizeOf4 (Zdh sz4) (by exact ZhN C i) rfl kr Tryz.func181 rfl

theorem Zjn (hJ:Joins Tryz.prog J) (b o:Nat) (q1 q2 q3:Option Addr) (c1 c2 c3:Nat) (x:DHost) (B:Kn) (hc900:ZaI B b o [str x.domain,.slice q1 x.users.length c1,.slice q2 x.folders.length c2,.int .i64 x.queue.next,.slice q3 x.queue.items.length c3]) (hu:SlK B q1 c1 3 ZA x.users) (hf:SlK B q2 c2 5 Zf x.folders):Zu (pj J) 126 [ptr ⟨b,o,none⟩] B [] (fun v B' Ls=>Ls=[]∧v = .bool (x.folders.all (Za3 x.users))):=by
 have hfn:=hf.len
 letI:Go.ConcR.Payload:=⟨4⟩
 refine ZhV 30 Tryz.func126 rfl rfl (Nat.le_of_ble_eq_true rfl) fun X kind c cs F T0 hk hke hA hn0 hT0=>?_
 let C0:Cx (pj J):=⟨X,fb 126 kind,c :: cs,F,hke⟩
 refine ZbE (C:=C0) (L:=[]) (ZjY (C:=C0) (L:=[]) hn0 hT0 (xBx [_] (h:=fun b1=>xA (h:=?_))))
 intro T1 hn1 hT1
 refine Zl9 (C:=C0) rfl 0 rfl fun B1 hle1 hm1=>?_
 have hc901:=ZbR hm1
 replace hc900:=hc900.mono hle1
 obtain ⟨hu,hf⟩:=up2 hle1 hu hf
 replace hA:=fun v B' Ls' h=>hA v B' Ls' (hle1.trans h)
 refine ZbE (C:=C0) (L:=[[]]) (ZjY (C:=C0) (L:=[[]]) hn1 hT1 (y1 ZxP hc901 0 (h:=xNc (h:=xW Z1 (h:=y1 ZcM hc900 2 (h:=xV Tryz.underlying39 (h:=Zm (Zib (m:=x.folders.length) (c:=x.folders.length) (by_:=1) [.bool false] rfl rfl ZxY zo4 rfl rfl ⟨_,_,rfl,rfl⟩ ⟨_,_,rfl,rfl⟩ (Nat.le_refl _) oz (fun Cb=>?_)))))))))
 refine xAl [_] Zxn (h:=fun b2=>xS [_] 2 [_] ZxF (h:=?_))
 intro T2 hn2 hT2
 refine Zl9 (C:=C0) rfl 2 rfl fun B2 hle2 hm2=>?_
 have hc903:=ZbR hm2
 replace hc900:=hc900.mono hle2
 obtain ⟨hu,hf⟩:=up2 hle2 hu hf
 replace hc901:=hc901.mono hle2
 replace hA:=fun v B' Ls' h=>hA v B' Ls' (hle2.trans h)
 refine ZbE (C:=C0) (L:=[[],Z8 Cb (zrow [.bool false] x.folders.length) 4,[]]) (ZaS (C:=C0) (L:=[[],Z8 Cb (zrow [.bool false] x.folders.length) 4,[]]) (Zsw (C:=Cb) (n:=x.folders.length) (val:=ZrS x) (L₁:=F) (cells:=(zrow [.bool false] x.folders.length).toArray) (i:=0) (todo:=[]) hJ rfl hke Zxm rfl oz (by simp [Zez]) (.refl _) (fun hmain Wg hW1 hW2=>?_)))
 let C1:Cx (.lone Tryz.prog):=⟨phL Tryz.prog 260 Wg Cb x.folders.length (ZrS x) X.R .a5 (0),fb 126 kind,c :: cs,F,hke⟩
 have hT3:=hT2.putT (n:=30) (dst:=some 4) hn2 rfl (ptr ⟨Wg,0,none⟩)
 have hn3:(putT T2 (some 4) (ptr ⟨Wg,0,none⟩)).size=30:=by rw [Zax,hn2]
 refine Zab (C:=C1) (L:=[]) (ZbE (C:=C1) (L:=[]) (ZbE (C:=C1) (L:=[]) (ZjY (C:=C1) (L:=[]) hn3 hT3 (y1 ZxP hc901 0 (h:=xNc (h:=xW Z1 (h:=y1 ZcM hc900 2 (h:=xV Tryz.underlying39 (h:=xM (h:=?_))))))))))
 intro T4 hn4 hT4
 refine Zon (C:=C1) (L:=[]) (Zuy (nt:=30) (fun j=>[(1,ptr ⟨b1,0,none⟩),(3,ptr ⟨b2,0,none⟩),(4,ptr ⟨Wg,0,none⟩),(16,.slice q2 x.folders.length c2),(17,.int .i64 x.folders.length),(18,.int .i64 ((j:Nat):Int))]) (fun j hj B3 T5 hle3 hn5 hT5 hnext=>?_) hn4 (hT4.sub' t6))
 replace hc900:=hc900.mono hle3
 obtain ⟨hu,hf⟩:=up2 hle3 hu hf
 replace hc901:=hc901.mono hle3
 replace hc903:=hc903.mono hle3
 replace hA:=fun v B' Ls' h=>hA v B' Ls' (hle3.trans h)
 let C2:Cx (.lone Tryz.prog):=⟨phL Tryz.prog 260 Wg Cb x.folders.length (ZrS x) X.R .a5 (j),fb 126 kind,c :: cs,F,hke⟩
 refine ZbE (C:=C2) (L:=[]) (ZjY (C:=C2) (L:=[]) hn5 hT5 (Zag (h:=?_)))
 intro T6 hn6 hT6
 refine ZbE (C:=C2) (L:=[]) ?_
 rcases Nat.lt_or_ge j x.folders.length with hlt | hge
 refine ZgZ (C:=C2) (L:=[]) (t:=true) (by exact congrArg (fun t=>some (Value.bool t)) (decide_eq_true oz)) hT6 ?_
 refine Zrw (C:=C2) (L:=[]) (ZbE (C:=C2) (L:=[]) (Zon (C:=C2) (L:=[]) (ZbE (C:=C2) (L:=[]) (ZjY (C:=C2) (L:=[]) hn6 hT6 (xM (h:=?_))))))
 obtain ⟨m,hm⟩:=ZaA (xs:=x.folders) (i:=j) om
 obtain ⟨bb4,oo4,rfl⟩:=hf.base hm
 obtain ⟨_,⟨qg5,cg5,qm5,cm5,rfl,hg5,hm5,hb5,hb5b⟩,hc5⟩:=hf.elem hm
 have hg5n:=hg5.len
 have hm5n:=hm5.len
 have hm5s:=Z5 hm5
 refine xIx Tryz.underlying39 Zbo (h:=yL [_,_,_,_,_] ZhP hc5 0 (h:=xAl [_] zo3 (h:=fun b6=>xAl [_,_,_,_,_] ZdQ (h:=fun b7=>xS [_] 0 [_] sz3 (h:=xS [_,_,_,_,_] 1 [_,_,_,_,_] Zbo (h:=?_))))))
 intro T7 hn7 hT7
 refine Zl9 (C:=C2) rfl 0 rfl fun B4 hle4 hpm4=>?_
 have hc905:=ZbR hpm4
 refine Zl9 (C:=C2) rfl 1 rfl fun B5 hle5 hpm5=>?_
 have hc906:=ZbR hpm5
 replace hc905:=hc905.mono hle5
 replace hc900:=hc900.mono (hle4.trans hle5)
 replace hu:=hu.mono ZA.mono (hle4.trans hle5)
 replace hc901:=hc901.mono (hle4.trans hle5)
 replace hc903:=hc903.mono (hle4.trans hle5)
 replace hg5:=hg5.mono Z0.mono (hle4.trans hle5)
 replace hm5:=hm5.mono ZS.mono (hle4.trans hle5)
 refine ZbE (C:=C2) (L:=[[],[]]) (ZaS (C:=C2) (L:=[[],[]]) (Zwj (Lk:=wgL) (i:=0) (todo:=[]) Zmt hlt rfl ZyN rfl rfl hT7 hke ?_))
 let C3:Cx (.lone Tryz.prog):=⟨phL Tryz.prog 260 Wg Cb x.folders.length (ZrS x) X.R .a2 (j),fb 126 kind,c :: cs,F,hke⟩
 have hT8:=hT7.putT (n:=30) (dst:=(some 23)) hn7 rfl (.tuple #[])
 have hn8:(putT T7 (some 23) (.tuple #[])).size=30:=by rw [Zax,hn7]
 refine Zab (C:=C3) (L:=[]) (ZaS (C:=C3) (L:=[]) (Zcz (C:=C3) (L:=[]) (i:=0) (todo:=[1]) rfl hn8 hT8 (Zm (Zdm (xs:=[]) (ys:=[.tmp 4,.tmp 1,.tmp 6,.tmp 3,.tmp 5]) rfl rfl rfl rfl ?_))))
 intro T9 hn9 hT9
 refine ZxM (i:=1) (todo:=[]) rfl rfl hT9 hke Tryz.func181 rfl rfl (by rw [ZnO hm];exact ZkA Wg Cb x.folders.length j b o b1 b2 b6 b7 _ _ _ _ _ _ x m _ _ _ _ hlt B5 hc900 hu hc901 hc903 hc905 hc906 hg5 hm5 hb5 hb5b) ?_
 let C4:Cx (.lone Tryz.prog):=⟨phL Tryz.prog 260 Wg Cb x.folders.length (ZrS x) X.R .a5 (j+1),fb 126 kind,c :: cs,F,hke⟩
 refine Zab (C:=C4) (L:=[]) (Zpr (C:=C4) (L:=[]) ?_)
 have hn10:=hn9
 have hT10:=hT9
 refine ZjY (C:=C4) (L:=[]) hn10 hT10 (xD (h:=xM (h:=?_)))
 intro T11 hn11 hT11
 exact hnext hlt _ _ (hle4.trans hle5) hn11 (hT11.sub' t6)
 obtain rfl:j=x.folders.length:=by omega
 refine ZgZ (C:=C2) (L:=[]) (t:=false) (by exact congrArg (fun t=>some (Value.bool t)) (decide_eq_false oz)) hT6 ?_
 refine Zvl (C:=C2) (L:=[]) (by rfl) ?_
 refine ZbE (C:=C2) (L:=[]) (ZaS (C:=C2) (L:=[]) (Zux (Lk:=wgL) (X:=X) (i:=0) (todo:=[]) Zmt oz rfl ZyL rfl hT6 hke (fun _ _ _ h=>h) ?_))
 have hT7:=hT6.putT (n:=30) (dst:=(some 26)) hn6 rfl (.tuple #[])
 have hn7:(putT T6 (some 26) (.tuple #[])).size=30:=by rw [Zax,hn6]
 refine Zab (C:=C0) (L:=[[(Cb,Obj.cells ((List.range x.folders.length).map (ZrS x)).toArray 4 (0,0))]]) (Zl9 (C:=C0) (L:=[[(Cb,Obj.cells ((List.range x.folders.length).map (ZrS x)).toArray 4 (0,0))]]) rfl 0 rfl fun B4 hle4 hm4=>?_)
 have hvb:=ZpW hm4 hfn
 replace hc903:=hc903.mono hle4
 replace hA:=fun v B' Ls' h=>hA v B' Ls' (hle4.trans h)
 refine Zu2 Tryz.func126 rfl hk hke hn7 hT7 hA ?_
 rw [show (x.folders.length:Nat)=(x.folders.map (Za3 x.users)).length from (List.length_map ..).symm] at hc903
 refine Za (y1 Zwn hc903 0 (h:=xR ZyK rfl (Znu _ _ _ _ _ hvb) (h:=xN (h:=xA (h:=tL1 (Zd ?_))))))
 exact eR t1 ⟨rfl,congrArg Value.bool ZkT⟩

theorem ZiJ (hJ:Joins Tryz.prog J) (q1 q2 q3:Option Addr) (c1 c2 c3:Nat) (x:DHost) (hd:x.domain.length≤2000000) (B:Kn) (hu:SlK B q1 c1 3 ZA x.users) (hf:SlK B q2 c2 5 Zf x.folders) (hi:SlK B q3 c3 4 ZC x.queue.items):Zu (pj J) 74 [.agg #[str x.domain,.slice q1 x.users.length c1,.slice q2 x.folders.length c2,.int .i64 x.queue.next,.slice q3 x.queue.items.length c3]] B [] (fun v B' Ls=>Ls=[]∧v = .bool (Zz x)):=by
 refine cB 63 Tryz.func74 (h:=?_)
 rw [← Zpc]
 have hfn:=hf.len
 have hun:=hu.len
 have hin:=hi.len
 refine Za (xBx [_,_,_,_,_] (h:=fun b1=>xA (h:=tL1 (Zmu 0 rfl (fun B2 hle2 hpm2=>?_)))))
 have hc2:=ZbR hpm2
 obtain ⟨hu,hf,hi⟩:=up3 hle2 hu hf hi
 refine Zh (Za (xW Zl0 (h:=y1 lk9 hc2 0 (h:=xR Zzk rfl (ZlR _ om2 _) (h:=?_)))))
 refine xN (h:=xM (h:=Zq (d:=10) rfl (fun g1=>?_) (fun g1=>?_)))
 try simp only [sQ,ne_eq] at g1
 refine xP (h:=xP (h:=xP (h:=xP (h:=xT (h:=xM (h:=xP (h:=xP (h:=xP (h:=xP (h:=xT (h:=xM (h:=xP (h:=xP (h:=xP (h:=xP (h:=xT (h:=tL1 (Zb (t:=true) rfl (fun _=>Za (xA (h:=Zd (Zp ?_)))) (fun h=>Bool.noConfusion h)))))))))))))))))))
 exact eR t1 ⟨rfl,Zk (by simp [ZdC,g1])⟩
 try simp only [sQ,ne_eq] at g1
 refine xW Zcg (h:=y1 ZjM hc2 1 (h:=xR ZwM rfl (ZiI _ _ _ _ hu) (h:=xN (h:=xF (h:=xM (h:=Zq (d:=16) rfl (fun g2=>?_) (fun g2=>?_)))))))
 try simp only [sQ,ne_eq] at g2
 refine xP (h:=xP (h:=xP (h:=xP (h:=xT (h:=xM (h:=xP (h:=xP (h:=xP (h:=xP (h:=xT (h:=tL1 (Zb (t:=true) rfl (fun _=>Za (xA (h:=Zd (Zp ?_)))) (fun h=>Bool.noConfusion h)))))))))))))
 exact eR t1 ⟨rfl,Zk (by simp [ZdC,g1,g2])⟩
 try simp only [sQ,ne_eq] at g2
 refine xW ZcK (h:=yL [_,_] Zd1 hc2 3 (h:=xR Zzj rfl (Zna _ _ x.queue _ hi) (h:=xN (h:=xF (h:=xM (h:=Zq (d:=22) rfl (fun g3=>?_) (fun g3=>?_)))))))
 try simp only [sQ,ne_eq] at g3
 refine xP (h:=xP (h:=xP (h:=xP (h:=xT (h:=tL1 (Zb (t:=true) rfl (fun _=>Za (xA (h:=Zd (Zp ?_)))) (fun h=>Bool.noConfusion h)))))))
 exact eR t1 ⟨rfl,Zk (by simp [ZdC,g1,g2,g3])⟩
 try simp only [sQ,ne_eq] at g3
 refine xW Z1 (h:=y1 ZcM hc2 2 (h:=xV Tryz.underlying39 (h:=ZbG (h:=xF (h:=tL1 (Zb rfl (fun g4=>?_) (fun g4=>?_)))))))
 try simp only [sQ,ne_eq] at g4
 refine Za (xA (h:=Zd (Zp ?_)))
 exact eR t1 ⟨rfl,Zk (by simp [ZdC];intros;omega)⟩
 try simp only [sQ,ne_eq] at g4
 refine wSk (Zh (Za (xW Z1 (h:=y1 ZcM hc2 2 (h:=xW Z1 (h:=y1 ZcM hc2 2 (h:=xV Tryz.underlying39 (h:=xU (h:=Zm (Zxu (m:=(x.folders.length - 1)) rfl rfl rfl rfl om ?_))))))))))
 have hsl:((x.folders.take (x.folders.length - 1)).drop 0).length=x.folders.length - 1:=by simp
 obtain ⟨hq6,q6,cp6,hv6,hr6⟩:=hf.cutE 0 (x.folders.length - 1) om om
 have hr6n:=hr6.len
 refine Zm (Zhg (a:=0) (b:=(x.folders.length - 1)) hv6 om hq6 rfl rfl Tryz.underlying39 Zbo rfl rfl ⟨_,_,rfl,by first | omega | (simp;done) | (simp;omega)⟩ ?_)
 refine xV Tryz.underlying39 (h:=xM (h:=Zn (ZQ (α:=Nat) [0,1,27,35,36] (fun k=>[(37,.int .i64 k)]) [] (fun k=>[]) (fun k Bx=>Bx=B2∧k≤x.folders.length - 1∧ZtD x.folders k) (fun k=>x.folders.length - k) 0 t1 rfl (⟨rfl,Nat.zero_le _,ZoS⟩) (fun k B7 hle7 hI=>?_))))
 obtain ⟨rfl,hk,hord⟩:=hI
 refine ZN [(0,_),(1,_),(27,_),(35,_),(36,_),(37,_)] [_] t6 rfl (Za (Zag (h:=Zh (Zb rfl (fun g5=>?_) (fun g5=>?_)))))
 try simp only [sQ,ne_eq] at g5
 refine wSk (Zh (Zn (Za (xM (h:=?_)))))
 obtain ⟨fa,hfa⟩:=ZaA (xs:=((x.folders.take (x.folders.length - 1)).drop 0)) (i:=k) om
 obtain ⟨bb9,oo9,rfl⟩:=hr6.base hfa
 obtain ⟨_,⟨qg10,cg10,qm10,cm10,rfl,hg10,hm10,hb10,hb10b⟩,hc10⟩:=hr6.elem hfa
 have hg10n:=hg10.len
 have hm10n:=hm10.len
 have hm10s:=Z5 hm10
 refine xIx Tryz.underlying39 Zbo (h:=?_)
 have hfa0:x.folders[k]? = some fa:=by rw [List.drop_zero,List.getElem?_take] at hfa;split at hfa <;> simp_all
 refine yL [_,_,_,_,_] ZhP hc10 0 (h:=xAl [_,_,_,_,_] ZdQ (h:=fun b11=>xA (h:=xS [_,_,_,_,_] 1 [_,_,_,_,_] Zbo (h:=tL2 (Za (xW Z1 (h:=y1 ZcM hc2 2 (h:=xM (h:=xD (h:=?_))))))))))
 obtain ⟨fb,hfb⟩:=ZaA (xs:=x.folders) (i:=(k+1)) om
 obtain ⟨bb13,oo13,rfl⟩:=hf.base hfb
 obtain ⟨_,⟨qg14,cg14,qm14,cm14,rfl,hg14,hm14,hb14,hb14b⟩,hc14⟩:=hf.elem hfb
 have hg14n:=hg14.len
 have hm14n:=hm14.len
 have hm14s:=Z5 hm14
 refine xIx Tryz.underlying39 Zbo (h:=yL [_,_,_,_,_] ZhP hc14 0 (h:=xAl [_,_,_,_,_] ZdQ (h:=fun b15=>xS [_,_,_,_,_] 2 [_,_,_,_,_] Zbo (h:=tL3 (Za (xL [_,_,_,_,_] ZhP 1 (h:=xW Zc8 (h:=x1 lk9 2 (h:=xW ZfH (h:=x1 lk9 2 (h:=xR Zzi rfl (Znj fa _ _ _ _ fb.owner fb.name _) (h:=ZdN (h:=Zb rfl (fun g6=>?_) (fun g6=>?_))))))))))))))
 try simp only [sQ,ne_eq] at g6
 refine Za (xA (h:=Zd (ZI (Zp (Z7 (ZI (Zp ?_)))))))
 exact eR t1 ⟨rfl,Zk (by simp [ZdC,ZsA hfa0 hfb ((Zmb fa fb).1 g6)])⟩
 try simp only [sQ,ne_eq] at g6
 refine ZL (Zw (Zj (Zc (xD (h:=xM (h:=?_))))))
 exact ZD (k+1) [0] so2 ⟨rfl,oz,ZoT hord hfa0 hfb (by rw [← Bool.not_eq_false,← Zmb];omega)⟩ t6 rfl
 try simp only [sQ,ne_eq] at g5
 have ho:=Zsz (fs:=x.folders) (fun i a b h=>hord i a b oz)
 refine ZU (Zak (Z3 (ZK (Zj (Za (xQ Zzh rfl (Zjn hJ _ _ _ _ _ _ _ _ x _ hc2 hu hf) (h:=?_)))))))
 intro v17 B17 hle17
 rintro rfl
 obtain ⟨hu,hf,hi⟩:=up3 hle17 hu hf hi
 replace hc2:=hc2.mono hle17
 refine xM (h:=Zq (d:=57) rfl (fun g7=>?_) (fun g7=>?_))
 try simp only [sQ,ne_eq] at g7
 refine xR Zzg rfl (Zoz _ _ _ _ _ _ _ _ x _ hc2 hu hf) (h:=xT (h:=xM (h:=Zq (d:=60) rfl (fun g8=>?_) (fun g8=>?_))))
 try simp only [sQ,ne_eq] at g8
 refine xR Zzf rfl (ZmU _ _ _ _ _ _ _ _ x _ hc2 hu hi) (h:=xT (h:=xA (h:=Zd ?_)))
 exact eR t1 ⟨rfl,Zk (by simp [ZdC,g1,g2,g3,ho,g7,g8];try omega)⟩
 try simp only [sQ,ne_eq] at g8
 refine xP (h:=xF (h:=xA (h:=Zd ?_)))
 exact eR t1 ⟨rfl,Zk (by simp [ZdC,g1,g2,g3,ho,g7,g8];try omega)⟩
 try simp only [sQ,ne_eq] at g7
 refine xP (h:=xF (h:=xM (h:=xP (h:=xF (h:=xA (h:=Zd ?_))))))
 exact eR t1 ⟨rfl,Zk (by simp [ZdC,g7])⟩

theorem Zo3 (b:Nat) (q:Option Addr) (m cp p:Nat) (hp:p≤850000000000) (hm:m≤2000) (B:Kn) (hbm:Zan B q m):Zu (pj J) 166 [ptr ⟨b,0,none⟩] B [rd b q m cp p] (fun v B' Ls=>∃q' cp' us p',v = .slice q' us.length cp'∧SlK B' q' cp' 3 ZA us∧us.length≤5∧p'≤p+10∧Ls=[rd b q m cp p']):=by
 refine cB 61 Tryz.func166 (h:=?_)
 refine Za (xA (h:=Za (xB [(0,_),(1,_),(2,_)] [_,_,_] [_,_,_] Zkh ZcN (h:=xM (h:=xX 0 rfl Z6 rfl (ZJ _ _ _ _ _ _ oz oz oz hm _ hbm) (h:=?_))))))
 rintro _ _ ⟨ru,rfl,rua,rub,rfl⟩
 refine xD (h:=xB [(0,_),(1,_),(2,_)] [_,_,_] [_,_,_] Zkh ZcN (h:=xM (h:=xX 0 rfl Z6 rfl (ZJ _ _ _ _ _ _ oz oz oz hm _ hbm) (h:=?_))))
 rintro _ _ ⟨ro,rfl,roa,rob,rfl⟩
 refine xD (h:=xB [(0,_),(1,_),(2,_)] [_,_,_] [_,_,_] Zkh ZcN (h:=xBs [(0,_),(1,_),(2,_)] [_,_,_,_,_,_,_,_,_] Tryz.underlying38 ZbQ ZcN (h:=fun b3=>xA (h:=tL2 ?_))))
 obtain ⟨us0,hn0,hv0⟩ :∃us0:List DUser,us0.length=3∧ZT B (Z8 b3 [str [97,109,121],str [97,49],int 60,str [98,111,98],str [98,50],int (20+ru),str [99,121,100],str [99,51],int (100+ro)] 142) (some ⟨b3,0,none⟩) 3 142 3 ZA us0:=⟨[⟨[97,109,121],[97,49],60⟩,⟨[98,111,98],[98,50],20+ru⟩,⟨[99,121,100],[99,51],100+ro⟩],rfl,ZT.lit (rows:=[[str [97,109,121],str [97,49],int 60],[str [98,111,98],str [98,50],int (20+ru)],[str [99,121,100],str [99,51],int (100+ro)]]) (.cons ⟨rfl,by simp,by simp⟩ (.cons ⟨rfl,by simp,by simp⟩ (.cons ⟨rfl,by simp,by simp⟩ .nil))) (by intro row hr;simp only [List.mem_cons,List.not_mem_nil,or_false] at hr;rcases hr with rfl | rfl | rfl <;> rfl)⟩
 refine Za (xM (h:=xM (h:=xX 0 rfl Z6 rfl (ZJ _ _ _ _ _ _ oz oz oz hm _ hbm) (h:=?_))))
 rintro _ _ ⟨ry,rfl,rya,ryb,rfl⟩
 refine xD (h:=Zm (Zfp rfl rfl Tryz.underlying38 ZbQ rfl (a:=0) (b:=(1+ry).toNat) rfl ⟨_,_,rfl,oz⟩ oz oz ?_))
 refine xA (h:=tL2 ?_)
 obtain ⟨us1,hn1,hv1⟩ :∃us1:List DUser,us1.length=(1+ry).toNat∧ZT B _ _ 3 142 3 ZA us1:=⟨us0.take (1+ry).toNat,by rw [List.length_take];omega,hv0.take oz⟩
 rw [hv0.slice0 (sz:=3),show (1+ry).toNat - 0=us1.length from by omega]
 refine Za (xM (h:=xM (h:=xV Tryz.underlying38 (h:=xX 0 rfl Z6 rfl (ZJ _ _ _ _ _ _ oz oz oz hm _ hbm) (h:=?_)))))
 rintro _ _ ⟨rk,rfl,rka,rkb,rfl⟩
 refine xA (h:=tL2 (ZpN (α:=Gh DUser) [0,2,4] (fun g=>[(3,.slice g.a g.xs.length g.c)]) (fun g=>[rd b q m cp g.p,g.l]) (fun g Bx=>g.p≤p+10∧g.xs.length≤5∧ZT Bx g.l g.a g.c 142 3 ZA g.xs) ?_ (fun g B6 hle6 hF=>?_)))
 refine Za (xM (h:=xX 0 rfl Z6 rfl (ZJ _ _ _ _ _ _ oz oz oz hm _ hbm) (h:=?_)))
 rintro _ _ ⟨rj,rfl,rja,rjb,rfl⟩
 refine tL2 (Zn (Za (ZG (h:=xA (h:=Zb rfl (fun g1=>?_) (fun g1=>?_))))))
 try simp only [sQ,ne_eq] at g1
 refine Zc (xM (h:=xM (h:=xM (h:=xX 0 rfl ZkL rfl (ZcF _ _ _ _ _ oz hm _ hbm) (h:=?_)))))
 rintro _ _ ⟨xs,rfl,hxs,rfl⟩
 obtain ⟨z,hz⟩:=Zey (xs:=us1) (i:=rk) om om
 obtain ⟨bb10,_,hp10,⟨rfl,hb10,hb10b⟩,hw10,hc10⟩:=hv1.row hz
 refine xIp hp10 Tryz.underlying38 ZbQ (h:=xW Zb7 (h:=Zm (ZeA (k:=(rk).toNat) (off:=0) (⟨xs,z.pass,z.quota⟩) [_] 1 hv1 hp10 hz rfl rfl sz9 rfl rfl rfl rfl rfl rfl (by rintro _ ⟨rfl,e1,e2⟩;exact ⟨rfl,show xs.length≤2000000 by omega,e2⟩) (fun l11 hv11=>?_))))
 refine Zw ?_
 obtain ⟨us12,hn12,hv12⟩ :∃us12:List DUser,us12.length=us1.length∧ZT B l11 _ _ 142 3 ZA us12:=⟨_,by rw [List.length_set],hv11⟩
 rw [← hn12]
 exact ZH ⟨0,((((((p+1)+1)+1)+1)+1)+2),l11,(some ⟨b3,0,none⟩),3,us12⟩ [0,1] ⟨so,by first | (simp only [];omega) | (simp;omega),hv12⟩ t4 rfl
 try simp only [sQ,ne_eq] at g1
 refine Za (ZG (h:=xA (h:=Zb rfl (fun g2=>?_) (fun g2=>?_))))
 try simp only [sQ,ne_eq] at g2
 refine Zc (xM (h:=xM (h:=xM (h:=xX 0 rfl ZkL rfl (ZcF _ _ _ _ _ oz hm _ hbm) (h:=?_)))))
 rintro _ _ ⟨xs,rfl,hxs,rfl⟩
 obtain ⟨z,hz⟩:=Zey (xs:=us1) (i:=rk) om om
 obtain ⟨bb15,_,hp15,⟨rfl,hb15,hb15b⟩,hw15,hc15⟩:=hv1.row hz
 refine xIp hp15 Tryz.underlying38 ZbQ (h:=xW Zno (h:=Zm (ZeA (k:=(rk).toNat) (off:=1) (⟨z.name,xs,z.quota⟩) [_] 1 hv1 hp15 hz rfl rfl sz9 rfl rfl rfl rfl rfl rfl (by rintro _ ⟨rfl,e1,e2⟩;exact ⟨rfl,e1,show xs.length≤2000000 by omega⟩) (fun l16 hv16=>?_))))
 refine Zw ?_
 obtain ⟨us17,hn17,hv17⟩ :∃us17:List DUser,us17.length=us1.length∧ZT B l16 _ _ 142 3 ZA us17:=⟨_,by rw [List.length_set],hv16⟩
 rw [← hn17]
 exact ZH ⟨0,((((((p+1)+1)+1)+1)+1)+2),l16,(some ⟨b3,0,none⟩),3,us17⟩ [0,1] ⟨so,by first | (simp only [];omega) | (simp;omega),hv17⟩ t4 rfl
 try simp only [sQ,ne_eq] at g2
 refine Za (ZG (h:=xA (h:=Zb rfl (fun g3=>?_) (fun g3=>?_))))
 try simp only [sQ,ne_eq] at g3
 refine Zc (xM (h:=xM (h:=xBs [(0,_),(1,_),(2,_),(3,_)] [_,_,_,_] Tryz.underlying57 sz3 zo3 (h:=fun b18=>ZZ 2 rfl (ZT.ints (ls:=([(-1),0,200,201]:List Int))) Zb9.mono om3 (fun B19 hle19 hr19=>?_)))))
 replace hv1:=hv1.mono ZA.mono hle19
 replace hbm:=hbm.mono hle19
 have hr19n:=hr19.len
 refine xM (h:=xX 0 rfl Z6 rfl (ZJ _ _ _ _ _ _ oz oz oz hm _ hbm) (h:=?_))
 rintro _ _ ⟨rs,rfl,rsa,rsb,rfl⟩
 obtain ⟨e,he⟩:=Zey (xs:=([(-1),0,200,201]:List Int)) (i:=rs) om om
 obtain ⟨_,rfl,hc22⟩:=hr19.elem he
 refine xIx Tryz.underlying57 sz3 (h:=y1 lk3 hc22 0 (h:=?_))
 obtain ⟨z,hz⟩:=Zey (xs:=us1) (i:=rk) om om
 obtain ⟨bb24,_,hp24,⟨rfl,hb24,hb24b⟩,hw24,hc24⟩:=hv1.row hz
 refine xIp hp24 Tryz.underlying38 ZbQ (h:=xW Zf3 (h:=Zm (ZeA (k:=(rk).toNat) (off:=2) (⟨z.name,z.pass,e⟩) [_] 1 hv1 hp24 hz rfl rfl sz3 rfl rfl rfl rfl rfl rfl (by rintro _ ⟨rfl,e1,e2⟩;exact ⟨rfl,e1,e2⟩) (fun l25 hv25=>?_))))
 refine Zw ?_
 obtain ⟨us26,hn26,hv26⟩ :∃us26:List DUser,us26.length=us1.length∧ZT B19 l25 _ _ 142 3 ZA us26:=⟨_,by rw [List.length_set],hv25⟩
 rw [← hn26]
 exact ZH ⟨0,((((((p+1)+1)+1)+1)+1)+1),l25,(some ⟨b3,0,none⟩),3,us26⟩ [0,1] ⟨so,by first | (simp only [];omega) | (simp;omega),hv26⟩ t4 rfl
 try simp only [sQ,ne_eq] at g3
 refine Za (ZG (h:=xA (h:=Zb rfl (fun g4=>?_) (fun g4=>?_))))
 try simp only [sQ,ne_eq] at g4
 refine Zc (xM (h:=xB [(0,_),(1,_),(2,_)] [_,_,_] [_,_,_] Zkh ZcN (h:=xB [(0,_),(1,_),(2,_)] [_,_,_] [_,_,_] Zkh ZcN (h:=xBs [(0,_),(1,_)] [_,_,_,_,_,_] Tryz.underlying38 ZbQ ZcN (h:=fun b27=>Zm (ZnM (rows:=[[str [100,97,110],str [100,52],.int .i64 9],[str [101,118,101],str [101,53],.int .i64 9]]) (ys:=[⟨[100,97,110],[100,52],9⟩,⟨[101,118,101],[101,53],9⟩]) (R:=ZA) 1 rfl hv1 rfl rfl rfl Zoi ZnR rfl rfl rfl (ZaO.box 2 rfl) rfl (by intro row hr;simp only [List.mem_cons,List.not_mem_nil,or_false] at hr;rcases hr with rfl | rfl <;> rfl) (.cons (⟨rfl,by first | assumption | omega | (simp;done) | (simp;done) | (simp;omega),by first | assumption | omega | (simp;done) | (simp;done) | (simp;omega)⟩) (.cons (⟨rfl,by first | assumption | omega | (simp;done) | (simp;done) | (simp;done) | (simp;omega),by first | assumption | omega | (simp;done) | (simp;done) | (simp;done) | (simp;omega)⟩) .nil)) om (fun l28 p28 c28 hv28=>?_)))))))
 refine xA (h:=Zw ?_)
 exact ZH ⟨0,(((((p+1)+1)+1)+1)+1),l28,p28,c28,(us1 ++ [⟨[100,97,110],[100,52],9⟩,⟨[101,118,101],[101,53],9⟩])⟩ [0,1] ⟨by simp only [];omega,by first | (simp only [];omega) | (simp;omega),hv28⟩ ⟨rfl,rfl,rfl,rfl,trivial⟩ rfl
 try simp only [sQ,ne_eq] at g4
 refine ZL (Zw ?_)
 exact ZH ⟨0,(((((p+1)+1)+1)+1)+1),_,(some ⟨b3,0,none⟩),3,us1⟩ [0,1] ⟨so,by first | (simp only [];omega) | (simp;omega),hv1⟩ t4 rfl
 obtain ⟨hgp,hgn,hw⟩:=hF
 refine ZN [(0,_),(2,_),(3,_),(4,_)] [_,_] t4 rfl (ZdS 1 rfl hw ZA.mono om3 (fun B29 hle29 hr29=>?_))
 have hr29n:=hr29.len
 refine Za (xM (h:=xA (h:=tL2 (Zd ?_))))
 exact eN [0] rfl t1 ⟨_,_,_,_,rfl,hr29,oz,oz,rfl⟩

theorem Zpt (q:Option Addr) (cp:Nat) (x:DBox) (B:Kn) (hm:SlK B q cp 3 ZS x.mail):Zu (pj J) 164 [.agg #[.int .i64 x.next,.slice q x.mail.length cp]] B [] (fun v B' Ls=>B'=B∧∃l a c,Ls=[l]∧v = .agg #[.int .i64 x.next,.slice a x.mail.length c]∧ZT B l a c 89 3 ZS x.mail):=by
 refine cB 10 Tryz.func164 (h:=?_)
 have hxn:=hm.len
 refine Za (xBx [_,_] (h:=fun b1=>xAl [_,_] Zfo (h:=fun b2=>tL2 (Zh (ZV (keeps _ [0] _) mo kr ⟨Kn.le.refl _,Zae.refl _ _⟩ (fun _ _=>?_))))))
 refine aW 0 rfl ZcP (h:=aT 1 rfl (Zx fun D B L hI=>Ze rfl rfl lk3 rfl (atL 0 (hI.2.1.trans rfl) rfl rfl) r4) (h:=aW 3 rfl Za0 (h:=aT 4 rfl (Zx fun D B L hI=>Ze rfl rfl Zgc rfl (atL 0 (hI.2.1.trans rfl) rfl rfl) r4) (h:=Zo 2 kr rfl kr (Zs (parts:=[]) [] rfl rfl Tryz.underlying83 ZhC Zou rfl rfl rfl rfl rfl (fun b3=>?_))))))
 refine ⟨⟨Kn.le.refl _,t1⟩,(Zo 5 kr rfl kr (ZaP (R:=ZS) 2 rfl (ZT.lit0 (R:=ZS)) rfl rfl rfl Zxd Zw9 rfl rfl rfl hm.rows ZS.one rfl om (fun l4 p4 c4 hv4=>?_)))⟩
 refine ⟨⟨Kn.le.refl _,t1⟩,(aT 6 rfl (Zx fun D B L hI=>Zam (parts:=[(0,_),(1,_)]) [_,_] [_,_] rfl rfl Zn0 Zfo rfl rfl rfl r4) (h:=ZO 7 kr rfl kr kr kr (ZE [_,_] 1 [_,_] rfl rfl ZcQ rfl rfl rfl rfl rfl rfl rfl rfl ?_)))⟩
 refine Zj (tL3 (Zd ?_))
 exact eN [2] rfl ⟨⟨_,rfl,.inr ⟨[_,_],ZbT,Zaa 1 rfl rfl rfl,rfl⟩⟩,trivial⟩ ⟨rfl,_,_,_,rfl,rfl,hv4⟩

theorem ZkC (qa qb:Option Addr) (ca cb:Nat) (x:DFolder) (B:Kn) (hg:SlK B qa ca 2 Z0 x.grants) (hm:SlK B qb cb 3 ZS x.mail):Zu (pj J) 196 [.agg #[str x.owner,str x.name,.slice qa x.grants.length ca,.int .i64 x.next,.slice qb x.mail.length cb]] B [] (fun v B' Ls=>B'=B∧∃l a c l' a' c',Ls=[l,l']∧v = .agg #[str x.owner,str x.name,.slice a x.grants.length c,.int .i64 x.next,.slice a' x.mail.length c']∧ZT B l a c 224 2 Z0 x.grants∧ZT B l' a' c' 89 3 ZS x.mail):=by
 refine cB 13 Tryz.func196 (h:=?_)
 have hgn:=hg.len
 have hmn:=hm.len
 refine Za (xBx [_,_,_,_,_] (h:=fun b1=>xAl [_,_,_,_,_] ZdQ (h:=fun b2=>tL2 (Za (xBs [] [] Tryz.underlying82 ZbP ZdM (h:=fun b3=>xW Zeq (h:=x1 ZtU 0 (h:=Zm (ZaP (R:=Z0) 2 rfl (ZT.lit0 (R:=Z0)) rfl rfl rfl Zrk Zp8 rfl rfl rfl hg.rows Z0.one rfl om (fun l4 p4 c4 hv4=>?_))))))))))
 refine xW Zeq (h:=xS [_] 0 [_,_,_,_,_] Zv8 (h:=tL3 (Za (xW Zcx (h:=xL [_,_] ZbT 0 (h:=xC Zy0 rfl (Zpt _ _ (⟨x.next,x.mail⟩:DBox) _ hm) (h:=?_)))))))
 rintro _ B5 _ hle5 ⟨rfl,l5,a5,c5,rfl,rfl,hs5⟩
 refine xW Zcx (h:=xS [_,_] 0 [_,_,_,_,_] ZcQ (h:=tL4 (Za (xL [_,_,_,_,_] ZhP 0 (h:=xS [_,_,_,_,_] 1 [_,_,_,_,_] Zbo (h:=tL4 (Zd ?_)))))))
 exact eN [2,3] rfl ⟨⟨_,rfl,.inr ⟨[_,_,_,_,_],ZhP,Zaa 1 rfl rfl rfl,rfl⟩⟩,trivial⟩ ⟨rfl,_,_,_,_,_,_,rfl,rfl,hv4,hs5⟩

theorem Zqe (q:Option Addr) (cp:Nat) (d:Str) (us:List DUser) (hd:d.length≤2000000) (hl:us.length≤1100000) (B:Kn) (hu:SlK B q cp 3 ZA us):Zu (pj J) 170 [str d,.slice q us.length cp] B [] (fun v B' Ls=>Ls=[]∧∃q1 c1 q2 c2 q3 c3,v = .tuple #[.agg #[str (Zco d us).1.domain,.slice q1 (Zco d us).1.users.length c1,.slice q2 (Zco d us).1.folders.length c2,.int .i64 (Zco d us).1.queue.next,.slice q3 (Zco d us).1.queue.items.length c3],.bool (Zco d us).2]∧SlK B' q1 c1 3 ZA (Zco d us).1.users∧SlK B' q2 c2 5 Zf (Zco d us).1.folders∧SlK B' q3 c3 4 ZC (Zco d us).1.queue.items):=by
 refine cB 41 Tryz.func170 (h:=?_)
 have hun:=hu.len
 refine Za (xAl [_,_,_,_,_] Za6 (h:=fun b1=>xA (h:=tL1 (Za (xM (h:=xBs [] [] Tryz.underlying38 ZbQ ZcN (h:=fun b2=>xM (h:=Zm (ZaP (R:=ZA) 1 rfl (ZT.lit0 (R:=ZA)) rfl rfl rfl Zoi ZnR rfl rfl rfl hu.rows ZA.one rfl om (fun l3 p3 c3 hv3=>?_))))))))))
 refine xBs [] [] Tryz.underlying39 Zbo ZdQ (h:=fun b4=>xBs [] [] Tryz.underlying40 Zbn Zc1 (h:=fun b5=>xB [(0,_),(1,_)] [_,_] [_,_] ZtQ ZhA (h:=xB [(0,_),(1,_),(2,_),(3,_)] [_,_,_,_,_] [_,_,_,_,_] ZdY Za6 (h:=xAl [_,_,_,_,_] Za6 (h:=fun b6=>xS [_,_,_,_,_] 4 [_,_,_,_,_] Zau (h:=tL5 (Zh (Za (xA (h:=Zn (ZQ (α:=Gh DFolder) [0,1,4,5,6] (fun g=>[(7,.int .i64 g.k)]) [2,4] (fun g=>[g.l,Z8 b6 [str d,.slice p3 us.length c3,.slice g.a g.xs.length g.c,.int .i64 1,.slice (some ⟨b5,0,none⟩) 0 0] 44]) (fun g Bx=>g.k≤us.length∧g.xs=(us.take g.k).map (fun u=>Zkk u.name)∧ZT Bx g.l g.a g.c 87 5 Zf g.xs) (fun g=>us.length - g.k) ⟨0,0,_,_,_,[]⟩ t1 rfl (⟨Nat.zero_le _,by simp,ZT.lit0⟩) (fun g B7 hle7 hI=>?_))))))))))))
 obtain ⟨hk,hx,hv⟩:=hI
 have hgl:g.xs.length≤us.length:=by rw [hx,List.length_map,List.length_take];omega
 replace hu:=up1 hle7 hu
 replace hv3:=hv3.mono ZA.mono hle7
 refine ZN [(0,_),(1,_),(4,_),(5,_),(6,_),(7,_)] [_,_,_,_,_] t6 rfl (Zh (Za (xM (h:=xM (h:=xV Tryz.underlying38 (h:=Zag (h:=Zb rfl (fun g3=>?_) (fun g3=>?_))))))))
 try simp only [sQ,ne_eq] at g3
 refine wSk (Zh (Zn (ZV (keeps _ [4] _) mo kr ⟨Kn.le.refl _,Zae.refl _ _⟩ (fun _ _=>?_))))
 refine aW 0 rfl Z1 (h:=aT 1 rfl (Zx fun D B L hI=>Ze rfl rfl ZcM rfl (atL 4 (hI.2.1.trans rfl) rfl rfl) r4) (h:=aM 2 rfl (h:=aM 3 rfl (h:=?_))))
 obtain ⟨w,hw⟩:=ZaA (xs:=us) (i:=g.k) om
 obtain ⟨bb9,oo9,rfl⟩:=hu.base hw
 obtain ⟨_,⟨rfl,hb10,hb10b⟩,hc10⟩:=hu.elem hw
 refine aIx 4 rfl Tryz.underlying38 ZbQ (h:=aW 5 rfl Zb7 (h:=aT 6 rfl (Zx fun D B L hI=>Ze rfl rfl lk9 rfl ((hc10.mono hI.1) _ 0 _ rfl) r4) (h:=Zaf [7,8] kr kr kr ⟨?_,?_⟩)))
 refine (Zs (parts:=[]) [] rfl rfl Tryz.underlying82 ZbP ZdM rfl rfl rfl rfl rfl (fun b11=>⟨⟨Kn.le.refl _,t1⟩,(ZaK 5 rfl (ZT.lit0 (R:=Z0) (w:=2)) Z0.mono om3 (fun B' hle'=>⟨hle',t1⟩) (fun B12 hle12 hr12=>?_))⟩))
 replace hv3:=hv3.mono ZA.mono hle12
 replace hv:=hv.mono Zf.mono hle12
 have hr12n:=hr12.len
 refine Zo 8 kr rfl kr (Zs (parts:=[]) [] rfl rfl Tryz.underlying83 ZhC Zou rfl rfl rfl rfl rfl (fun b13=>?_))
 refine ⟨⟨hle12,t1⟩,(ZaK 6 rfl (ZT.lit0 (R:=ZS) (w:=3)) ZS.mono om3 (fun B' hle'=>⟨hle12.trans hle',t1⟩) (fun B14 hle14 hr14=>?_))⟩
 replace hr12:=up1 hle14 hr12
 replace hv3:=hv3.mono ZA.mono hle14
 replace hv:=hv.mono Zf.mono hle14
 have hr14n:=hr14.len
 refine aT 9 rfl (Zx fun D B L hI=>Zam (parts:=[(0,_),(1,_)]) [_,_] [_,_] rfl rfl Zn0 Zfo rfl rfl rfl r4) (h:=aT 10 rfl (Zx fun D B L hI=>Zam (parts:=[(0,_),(1,_),(2,_),(3,_)]) [_,_,_,_,_] [_,_,_,_,_] rfl rfl ZxH ZdQ rfl rfl rfl r4) (h:=Zo 11 kr rfl kr (Zs (parts:=[(0,_)]) [_,_,_,_,_] rfl rfl Tryz.underlying39 Zbo ZdQ rfl rfl rfl rfl rfl (fun b15=>?_))))
 refine ⟨⟨(hle12.trans hle14),t1⟩,(Zo 12 kr rfl kr (Zbe (z:=⟨w.name,[105,110,98,111,120],[],1,[]⟩) (R:=Zf) 2 rfl hv rfl rfl rfl Zi2 Zji rfl rfl (ZaO.box 7 rfl) rfl rfl (⟨_,_,_,_,rfl,hr12,hr14,by first | assumption | omega | (simp;done) | (simp;omega),by first | assumption | omega | (simp;done) | (simp;omega)⟩) om (fun l16 p16 c16 hv16=>?_)))⟩
 refine ⟨⟨(hle12.trans hle14),t1⟩,(aW 13 rfl Z1 (h:=ZO 14 kr rfl kr kr kr (ZE [_] 4 [_,_,_,_,_] rfl rfl ZrT rfl rfl rfl rfl rfl rfl rfl rfl ?_)))⟩
 refine Zw (Zj (Zc (xM (h:=xD (h:=xA (h:=?_))))))
 exact ZD ⟨g.k+1,0,l16,p16,c16,(g.xs ++ [⟨w.name,[105,110,98,111,120],[],1,[]⟩])⟩ [0,1,2,3,4] so2 ⟨so,by rw [List.take_add_one,hw];simp [hx,Zkk,inbox],hv16⟩ t6 rfl
 refine (Zs (parts:=[]) [] rfl rfl Tryz.underlying83 ZhC Zou rfl rfl rfl rfl rfl (fun b17=>⟨⟨Kn.le.refl _,t1⟩,(aT 9 rfl (Zx fun D B L hI=>Zam (parts:=[(0,_),(1,_)]) [_,_] [_,_] rfl rfl Zn0 Zfo rfl rfl rfl r4) (h:=Zo 7 kr rfl kr (Zs (parts:=[]) [] rfl rfl Tryz.underlying82 ZbP ZdM rfl rfl rfl rfl rfl (fun b18=>?_))))⟩))
 refine ⟨⟨Kn.le.refl _,t1⟩,(ZaK 6 rfl (ZT.lit0 (R:=Z0) (w:=2)) Z0.mono om3 (fun B' hle'=>⟨hle',t1⟩) (fun B19 hle19 hr19=>?_))⟩
 replace hv3:=hv3.mono ZA.mono hle19
 replace hv:=hv.mono Zf.mono hle19
 have hr19n:=hr19.len
 refine ZaK 5 rfl (ZT.lit0 (R:=ZS) (w:=3)) ZS.mono om3 (fun B' hle'=>⟨hle19.trans hle',t1⟩) (fun B20 hle20 hr20=>?_)
 replace hr19:=up1 hle20 hr19
 replace hv3:=hv3.mono ZA.mono hle20
 replace hv:=hv.mono Zf.mono hle20
 have hr20n:=hr20.len
 refine aT 10 rfl (Zx fun D B L hI=>Zam (parts:=[(0,_),(1,_),(2,_),(3,_)]) [_,_,_,_,_] [_,_,_,_,_] rfl rfl ZxH ZdQ rfl rfl rfl r4) (h:=Zo 11 kr rfl kr (Zs (parts:=[(0,_)]) [_,_,_,_,_] rfl rfl Tryz.underlying39 Zbo ZdQ rfl rfl rfl rfl rfl (fun b21=>?_)))
 refine ⟨⟨(hle19.trans hle20),t1⟩,(Zo 12 kr rfl kr (Zbe (z:=⟨w.name,[105,110,98,111,120],[],1,[]⟩) (R:=Zf) 2 rfl hv rfl rfl rfl Zi2 Zji rfl rfl (ZaO.box 7 rfl) rfl rfl (⟨_,_,_,_,rfl,hr19,hr20,by first | assumption | omega | (simp;done) | (simp;omega),by first | assumption | omega | (simp;done) | (simp;omega)⟩) om (fun l22 p22 c22 hv22=>?_)))⟩
 refine ⟨⟨(hle19.trans hle20),t1⟩,(aW 13 rfl Z1 (h:=ZO 14 kr rfl kr kr kr (ZE [_] 4 [_,_,_,_,_] rfl rfl ZrT rfl rfl rfl rfl rfl rfl rfl rfl ?_)))⟩
 refine Zw (Zj (Zc (xM (h:=xD (h:=xA (h:=?_))))))
 exact ZD ⟨g.k+1,0,l22,p22,c22,(g.xs ++ [⟨w.name,[105,110,98,111,120],[],1,[]⟩])⟩ [0,1,2,3,4] so2 ⟨so,by rw [List.take_add_one,hw];simp [hx,Zkk,inbox],hv22⟩ t6 rfl
 try simp only [sQ,ne_eq] at g3
 have he:(us.map fun u=>Zkk u.name)=g.xs:=by rw [hx,List.take_of_length_le oz]
 have hne:(⟨d,us,g.xs,⟨1,[]⟩⟩:DHost)=Zqu d us:=by rw [Zqu,he]
 refine ZU (Zak (Z3 (ZK (Zj (Zh (Za (xL [_,_,_,_,_] ZY 4 (h:=ZZ 1 rfl hv3 ZA.mono om3 (fun B23 hle23 hr23=>?_)))))))))
 replace hv:=hv.mono Zf.mono hle23
 have hr23n:=hr23.len
 refine ZZ 2 rfl hv Zf.mono om3 (fun B24 hle24 hr24=>?_)
 replace hr23:=up1 hle24 hr23
 have hr24n:=hr24.len
 refine ZZ 3 rfl (ZT.lit0 (R:=ZC) (w:=4)) ZC.mono om3 (fun B25 hle25 hr25=>?_)
 obtain ⟨hr23,hr24⟩:=up2 hle25 hr23 hr24
 have hr25n:=hr25.len
 refine xR Zrl rfl (Zbp _ _ _ _ _ _ (⟨d,us,g.xs,⟨1,[]⟩⟩:DHost) om2 _ hr23 hr24 hr25) (h:=?_)
 refine xN (h:=tL5 (Zb rfl (fun g4=>?_) (fun g4=>?_)))
 try simp only [sQ,ne_eq] at g4
 rw [Zpd (by rw [← hne];simpa using g4)]
 refine Za (xB [] [_,_,_,_,_] [_,_,_,_,_] ZdY Za6 (h:=xS [_,_,_,_,_] 0 [_,_,_,_,_] Zau (h:=xA (h:=tL5 (Zd (Zp ?_))))))
 exact Zat .ret (.inl rfl) [_,_] [] rfl ⟨⟨_,rfl,.inr ⟨[_,_,_,_,_],ZY,Zaa 0 rfl rfl rfl,rfl⟩⟩,rfl,trivial⟩ ⟨rfl,none,0,none,0,none,0,rfl,SlK.nil,SlK.nil,SlK.nil⟩
 try simp only [sQ,ne_eq] at g4
 refine wSk (Za (xL [_,_,_,_,_] ZY 4 (h:=xS [_,_,_,_,_] 0 [_,_,_,_,_] Zau (h:=xA (h:=tL5 (Zd ?_))))))
 exact Zat .ret (.inl rfl) [_,_] [] rfl ⟨⟨_,rfl,.inr ⟨[_,_,_,_,_],ZY,Zaa 0 rfl rfl rfl,rfl⟩⟩,rfl,trivial⟩ (by rw [ZiM (by rw [← hne];simpa using g4),← hne];exact ⟨rfl,_,_,_,_,_,_,rfl,hr23,hr24,hr25⟩)

theorem Zkq (k:Nat) (hk:k<6) (B:Kn):ZaX (pj J) 205 [.int .i64 k] B (.int .i64 (ZbB k)):=by
 refine cB 7 Tryz.func205 (h:=?_)
 refine Za (xA (h:=Za (xBs [(0,_),(1,_),(2,_),(3,_),(4,_),(5,_)] [_,_,_,_,_,_] Tryz.underlying57 sz3 zo3 (h:=fun b1=>?_))))
 have hvq:ZT B (Z8 b1 (([1,2,4,8,16,32]:List Int).map fun x=>.int .i64 x) 3) (some ⟨b1,0,none⟩) 6 3 1 Zb9 ([1,2,4,8,16,32]:List Int):=ZT.ints
 refine xM (h:=?_)
 obtain ⟨e,he⟩:=ZaA (xs:=([1,2,4,8,16,32]:List Int)) (i:=k) om
 obtain ⟨bb3,_,hp3,rfl,hw3,hc3⟩:=hvq.row he
 refine xIp hp3 Tryz.underlying57 sz3 (h:=Zm (Ze rfl rfl lk3 rfl (hc3 _ 0 rfl 0 _ rfl) (xA (h:=tL1 (Zd ?_)))))
 exact eR t1 ⟨ZaH (Zst he),rfl,rfl⟩

theorem Zm4 (k:Nat) (hk:k<5) (B:Kn):ZaX (pj J) 287 [.int .i64 k] B (.int .i64 (ZbB k)):=by
 refine cB 7 Tryz.func287 (h:=?_)
 refine Za (xA (h:=Za (xBs [(0,_),(1,_),(2,_),(3,_),(4,_)] [_,_,_,_,_] Tryz.underlying57 sz3 zo3 (h:=fun b1=>?_))))
 have hvq:ZT B (Z8 b1 (([1,2,4,8,16]:List Int).map fun x=>.int .i64 x) 3) (some ⟨b1,0,none⟩) 5 3 1 Zb9 ([1,2,4,8,16]:List Int):=ZT.ints
 refine xM (h:=?_)
 obtain ⟨e,he⟩:=ZaA (xs:=([1,2,4,8,16]:List Int)) (i:=k) om
 obtain ⟨bb3,_,hp3,rfl,hw3,hc3⟩:=hvq.row he
 refine xIp hp3 Tryz.underlying57 sz3 (h:=Zm (Ze rfl rfl lk3 rfl (hc3 _ 0 rfl 0 _ rfl) (xA (h:=tL1 (Zd ?_)))))
 exact eR t1 ⟨ZaH (Zqo he),rfl,rfl⟩

theorem ZuM (q:Option Addr) (cp:Nat) (gs:List DGrant) (u:Str) (hr :∀y,y∈gs→0≤y.rights∧y.rights≤63) (B:Kn) (hg:SlK B q cp 2 Z0 gs):ZaX (pj J) 157 [.slice q gs.length cp,str u] B (.int .i64 (ZbJ gs u)):=by
 refine cB 55 Tryz.func157 (h:=?_)
 have hgn:=hg.len
 refine Za (xA (h:=Za (xA (h:=Zh (Za (xA (h:=Zn (ZQ (α:=Nat × Int) [0,1,4] (fun g=>[(5,.int .i64 g.2),(6,.int .i64 g.1)]) [] (fun g=>[]) (fun g Bx=>Bx=B∧g.1≤6∧g.2=ZfM gs u g.1) (fun g=>6 - g.1) (0,0) t2 rfl (⟨rfl,oz,rfl⟩) (fun g B1 hle1 hI=>?_)))))))))
 obtain ⟨rfl,hk,hs⟩:=hI
 have hbd:=Zjd gs u g.1 hk
 refine ZN [(0,_),(1,_),(4,_),(5,_),(6,_)] [] t5 rfl (Zh (Za (xM (h:=Zag (h:=Zb rfl (fun g1=>?_) (fun g1=>?_))))))
 try simp only [sQ,ne_eq] at g1
 have hp:=ZkR (k:=g.1) oz
 refine wSk (Zh (Zn (Za (xA (h:=Zh (Za (xA (h:=Zn (ZQ (α:=Nat × Bool) [0,1,4,5,6,10] (fun o=>[(7,.bool o.2),(8,.int .i64 o.1)]) [] (fun o=>[]) (fun o Bx=>Bx=B1∧o.1≤gs.length∧o.2=(gs.take o.1).any (onB u (ZbB g.1))) (fun o=>gs.length - o.1) (0,false) t2 rfl (⟨rfl,Nat.zero_le _,rfl⟩) (fun o B2 hle2 hI=>?_))))))))))
 obtain ⟨rfl,ho,hon⟩:=hI
 refine ZN [(0,_),(1,_),(4,_),(5,_),(6,_),(7,_),(8,_),(10,_)] [] t8 rfl (Zh (Za (xM (h:=xM (h:=xV Tryz.underlying82 (h:=Zag (h:=Zb rfl (fun g2=>?_) (fun g2=>?_))))))))
 try simp only [sQ,ne_eq] at g2
 obtain ⟨x,hx⟩:=ZaA (xs:=gs) (i:=o.1) oz
 have hrx:=hr x (List.mem_of_getElem? hx)
 refine wSk (Zh (Zn (ZV (same _ _) mo kr ⟨rfl,rfl⟩ (fun _ _=>?_))))
 refine aM 0 rfl (h:=aM 1 rfl (h:=ZaE (d:=20) rfl (fun g3=>?_) (fun g3=>?_)))
 try simp only [sQ,ne_eq] at g3
 refine aZ 2 rfl (h:=aZ 3 rfl (h:=aZ 4 rfl (h:=aZ 5 rfl (h:=aZ 6 rfl (h:=aZ 7 rfl (h:=aZ 8 rfl (h:=aZ 9 rfl (h:=aZ 10 rfl (h:=aZ 11 rfl (h:=aZ 12 rfl (h:=aZ 13 rfl (h:=aZ 14 rfl (h:=aZ 15 rfl (h:=aZ 16 rfl (h:=aZ 17 rfl (h:=aZ 18 rfl (h:=aZ 19 rfl (h:=aZ 20 rfl (h:=aZ 21 rfl (h:=aZ 22 rfl (h:=aZ 23 rfl (h:=aZ 24 rfl (h:=aZ 25 rfl (h:=aZ 26 rfl (h:=aZ 27 rfl (h:=aZ 28 rfl (h:=aPT 29 rfl (h:=aA 30 rfl (h:=Zv kr kr ?_)))))))))))))))))))))))))))))
 refine Zw (Zj (Zc (xM (h:=xD (h:=xA (h:=?_))))))
 exact ZD (o.1+1,true) [] so2 ⟨rfl,so,by rw [Zd5 hx,← hon,g3];rfl⟩ t8 rfl
 try simp only [sQ,ne_eq] at g3
 refine aM 2 rfl (h:=aM 3 rfl (h:=?_))
 obtain ⟨bb3,oo3,rfl⟩:=hg.base hx
 obtain ⟨_,⟨rfl,hb4⟩,hc4⟩:=hg.elem hx
 refine aIx 4 rfl Tryz.underlying82 ZbP (h:=aW 5 rfl ZcV (h:=aT 6 rfl (Zaj fun D=>Ze rfl rfl lk9 rfl (hc4 _ 0 _ rfl) r4) (h:=aM 7 rfl (h:=ZrN 8 rfl (h:=aM 9 rfl (h:=ZaE (d:=28) rfl (fun g4=>?_) (fun g4=>?_)))))))
 try simp only [sQ,ne_eq] at g4
 refine aZ 10 rfl (h:=aZ 11 rfl (h:=aZ 12 rfl (h:=aZ 13 rfl (h:=aZ 14 rfl (h:=aZ 15 rfl (h:=aPT 16 rfl (h:=aM 17 rfl (h:=aM 18 rfl (h:=aM 19 rfl (h:=aIx 20 rfl Tryz.underlying82 ZbP (h:=aW 21 rfl ZgU (h:=aT 22 rfl (Zaj fun D=>Ze rfl rfl lk3 rfl (hc4 _ 1 _ rfl) r4) (h:=aM 23 rfl (h:=aT 24 rfl (Zaj fun D=>ZaF rfl rfl Zvg rfl (Zkq g.1 om2 _) r4) (h:=?_)))))))))))))))
 refine aT 25 rfl (Zaj fun D=>Zia (a:=x.rights) (b:=(ZbB g.1)) (r:=Int.tdiv x.rights (ZbB g.1)) rfl rfl rfl rfl oz (ZjF oz oz oz) r4) (h:=?_)
 refine aT 26 rfl (Zaj fun D=>ZhB (a:=(Int.tdiv x.rights (ZbB g.1))) (b:=2) (r:=Int.tmod (Int.tdiv x.rights (ZbB g.1)) 2) rfl rfl rfl rfl (by decide) rfl r4) (h:=?_)
 refine ZrO 27 rfl (h:=aPT 28 rfl (h:=aPF 29 rfl (h:=aA 30 rfl (h:=Zv kr kr ?_))))
 refine Zw (Zj (Zc (xM (h:=xD (h:=xA (h:=?_))))))
 exact ZD (o.1+1,decide (Int.tmod (Int.tdiv x.rights (ZbB g.1)) 2=1)) [] so2 ⟨rfl,so,by rw [Zd5 hx,← hon,g3,onB];simp [g4]⟩ t8 rfl
 try simp only [sQ,ne_eq] at g4
 refine aM 10 rfl (h:=aM 11 rfl (h:=aIx 12 rfl Tryz.underlying82 ZbP (h:=aW 13 rfl ZcV (h:=aT 14 rfl (Zaj fun D=>Ze rfl rfl lk9 rfl (hc4 _ 0 _ rfl) r4) (h:=ZrN 15 rfl (h:=aPF 16 rfl (h:=aM 17 rfl (h:=ZaE (d:=36) rfl (fun g5=>?_) (fun g5=>?_)))))))))
 try simp only [sQ,ne_eq] at g5
 refine aM 18 rfl (h:=aM 19 rfl (h:=aIx 20 rfl Tryz.underlying82 ZbP (h:=aW 21 rfl ZgU (h:=aT 22 rfl (Zaj fun D=>Ze rfl rfl lk3 rfl (hc4 _ 1 _ rfl) r4) (h:=aM 23 rfl (h:=aT 24 rfl (Zaj fun D=>ZaF rfl rfl Zvg rfl (Zkq g.1 om2 _) r4) (h:=?_)))))))
 refine aT 25 rfl (Zaj fun D=>Zia (a:=x.rights) (b:=(ZbB g.1)) (r:=Int.tdiv x.rights (ZbB g.1)) rfl rfl rfl rfl oz (ZjF oz oz oz) r4) (h:=?_)
 refine aT 26 rfl (Zaj fun D=>ZhB (a:=(Int.tdiv x.rights (ZbB g.1))) (b:=2) (r:=Int.tmod (Int.tdiv x.rights (ZbB g.1)) 2) rfl rfl rfl rfl (by decide) rfl r4) (h:=?_)
 refine ZrO 27 rfl (h:=aPT 28 rfl (h:=aPF 29 rfl (h:=aA 30 rfl (h:=Zv kr kr ?_))))
 refine Zw (Zj (Zc (xM (h:=xD (h:=xA (h:=?_))))))
 exact ZD (o.1+1,decide (Int.tmod (Int.tdiv x.rights (ZbB g.1)) 2=1)) [] so2 ⟨rfl,so,by rw [Zd5 hx,← hon,g3,onB];simp [g5,anyone]⟩ t8 rfl
 try simp only [sQ,ne_eq] at g5
 refine aZ 18 rfl (h:=aZ 19 rfl (h:=aZ 20 rfl (h:=aZ 21 rfl (h:=aZ 22 rfl (h:=aZ 23 rfl (h:=aZ 24 rfl (h:=aZ 25 rfl (h:=aZ 26 rfl (h:=aZ 27 rfl (h:=aPF 28 rfl (h:=aPF 29 rfl (h:=aA 30 rfl (h:=Zv kr kr ?_)))))))))))))
 refine Zw (Zj (Zc (xM (h:=xD (h:=xA (h:=?_))))))
 exact ZD (o.1+1,false) [] so2 ⟨rfl,so,by rw [Zd5 hx,← hon,g3,onB];simp [g4,g5,anyone]⟩ t8 rfl
 try simp only [sQ,ne_eq] at g2
 have hae:=ZrH hon oz
 refine ZU (Zak (Z3 (ZK (Zj (Za (xM (h:=Zb rfl (fun g6=>?_) (fun g6=>?_))))))))
 try simp only [sQ,ne_eq] at g6
 refine Zc (xM (h:=xM (h:=xR Zvg rfl (Zkq g.1 om2 _) (h:=?_))))
 refine xD (h:=xA (h:=Zw (Zj (Zc (xM (h:=xD (h:=xA (h:=?_))))))))
 exact ZD (g.1+1,g.2+ZbB g.1) [] so2 ⟨rfl,so,by simp only [ZfM];rw [← hae,if_pos g6,hs]⟩ t5 rfl
 try simp only [sQ,ne_eq] at g6
 refine ZL (Zw (Zj (Zc (xM (h:=xD (h:=xA (h:=?_)))))))
 exact ZD (g.1+1,g.2) [] so2 ⟨rfl,so,by simp only [ZfM];rw [← hae,if_neg (by simp [g6]),hs]⟩ t5 rfl
 try simp only [sQ,ne_eq] at g1
 refine ZU (Zak (Z3 (ZK (Zj (Za (xM (h:=xA (h:=Zd ?_))))))))
 exact eR t1 ⟨ZaH (by rw [hs,show g.1=6 from by omega];rfl),rfl,rfl⟩

theorem ZiC (n:Int) (B:Kn):ZaX (pj J) 254 [.int .i64 n] B (.bool (ZdW n)):=by
 refine cB 5 Tryz.func254 (h:=?_)
 refine Za (xA (h:=Za (xM (h:=xR ZjW rfl (Zct _ _ _ _) (h:=xA (h:=Zd ?_))))))
 exact eR t1 ⟨rfl,rfl,rfl⟩

theorem Zn9 (q1 q2 q3:Option Addr) (c1 c2 c3:Nat) (x:DHost) (k:Int) (u:Str) (r:Int) (f:DFolder) (hk0:0≤k) (hk:x.folders[k.toNat]? = some f) (hrr:Zh1 x.folders) (h1:0<r) (B:Kn) (hf:SlK B q2 c2 5 Zf x.folders):ZaX (pj J) 111 [.agg #[str x.domain,.slice q1 x.users.length c1,.slice q2 x.folders.length c2,.int .i64 x.queue.next,.slice q3 x.queue.items.length c3],.int .i64 k,str u,.int .i64 r] B (.bool (Zmd f u r)):=by
 refine cB 31 Tryz.func111 (h:=?_)
 have hfn:=hf.len
 have hkl:=(List.getElem?_eq_some_iff.1 hk).1
 have hrb:=ZmO f.grants u
 refine Za (xBx [_,_,_,_,_] (h:=fun b1=>xA (h:=tL1 (Za (xM (h:=xW Z1 (h:=x1 ZcM 0 (h:=xM (h:=?_)))))))))
 obtain ⟨bb2,oo2,rfl⟩:=hf.base hk
 obtain ⟨_,⟨qg3,cg3,qm3,cm3,rfl,hg3,hm3,hb3,hb3b⟩,hc3⟩:=hf.elem hk
 have hg3n:=hg3.len
 have hm3n:=hm3.len
 have hm3s:=Z5 hm3
 refine xIx Tryz.underlying39 Zbo (h:=xW Zc8 (h:=y1 lk9 hc3 0 (h:=Zeh (h:=xM (h:=Zq (d:=17) rfl (fun g1=>?_) (fun g1=>?_))))))
 refine xP (h:=xP (h:=xP (h:=xP (h:=xP (h:=xP (h:=xP (h:=xP (h:=xP (h:=xP (h:=xP (h:=xP (h:=xT (h:=xA (h:=Zd ?_))))))))))))))
 exact eR t1 ⟨Zk (by simp [Zmd,g1]),rfl,rfl⟩
 refine xW Z1 (h:=x1 ZcM 0 (h:=xM (h:=xIx Tryz.underlying39 Zbo (h:=xW Zeq (h:=y1 ZtU hc3 2 (h:=xM (h:=xR Zy5 rfl (ZuM _ _ f.grants u (by first | assumption | exact hrr _ (List.mem_of_getElem? (oy))) _ hg3) (h:=?_))))))))
 refine xM (h:=Zm (Zia (a:=(ZbJ f.grants u)) (b:=r) (r:=Int.tdiv (ZbJ f.grants u) r) rfl rfl rfl rfl oz (ZjF oz oz oz) ?_))
 refine Zm (ZhB (a:=(Int.tdiv (ZbJ f.grants u) r)) (b:=2) (r:=Int.tmod (Int.tdiv (ZbJ f.grants u) r) 2) rfl rfl rfl rfl (by decide) rfl ?_)
 refine ZG (h:=xF (h:=xA (h:=Zd ?_)))
 exact eR t1 ⟨Zk (by simp [Zmd,g1]),rfl,rfl⟩

theorem Zdo (q1 q2 q3:Option Addr) (c1 c2 c3:Nat) (x:DHost) (u:Str) (k r:Int) (hk:k<x.folders.length) (hrr:Zh1 x.folders) (h1:0<r) (B:Kn) (hu:SlK B q1 c1 3 ZA x.users) (hf:SlK B q2 c2 5 Zf x.folders):ZaX (pj J) 65 [.agg #[str x.domain,.slice q1 x.users.length c1,.slice q2 x.folders.length c2,.int .i64 x.queue.next,.slice q3 x.queue.items.length c3],str u,.int .i64 k,.int .i64 r] B (.int .i64 (Zgz x.users x.folders u k r)):=by
 refine cB 32 Tryz.func65 (h:=?_)
 refine Za (xBx [_,_,_,_,_] (h:=fun b1=>xA (h:=tL1 (Zh (Zn (Za (xW Zcg (h:=x1 ZjM 0 (h:=xM (h:=xR ZtZ rfl (Zc6 _ _ _ _ _ hu) (h:=Zag (h:=xM (h:=Zq (d:=15) rfl (fun g1=>?_) (fun g1=>?_))))))))))))))
 try simp only [sQ,ne_eq] at g1
 refine xP (h:=xP (h:=xT (h:=xA (h:=Zb (t:=true) rfl (fun _=>Za (xA (h:=Zd (ZI (Zp ?_))))) (fun h=>Bool.noConfusion h)))))
 exact eR t1 ⟨ZaH (ZkP (.inl g1)).symm,rfl,rfl⟩
 try simp only [sQ,ne_eq] at g1
 refine xM (h:=Zag (h:=xF (h:=xA (h:=Zb rfl (fun g2=>?_) (fun g2=>?_)))))
 try simp only [sQ,ne_eq] at g2
 refine Za (xA (h:=Zd (ZI (Zp ?_))))
 exact eR t1 ⟨ZaH (ZkP (.inr g2)).symm,rfl,rfl⟩
 try simp only [sQ,ne_eq] at g2
 have hfn:=hf.len
 obtain ⟨f,hf0⟩ :∃f,x.folders[k.toNat]? = some f:=⟨_,List.getElem?_eq_getElem oz⟩
 have hce:=ZrA (us:=x.users) (u:=u) (r:=r) oz hf0
 refine Za (xL [_,_,_,_,_] ZY 0 (h:=xM (h:=xM (h:=xR ZwR rfl (Zn9 _ _ _ _ _ _ x k u 1 _ oz (oy) hrr oz _ hf) (h:=?_)))))
 refine xN (h:=xA (h:=Zb rfl (fun g3=>?_) (fun g3=>?_)))
 try simp only [sQ,ne_eq] at g3
 refine Za (xA (h:=Zd (ZI (Zp ?_))))
 exact eR t1 ⟨ZaH (by rw [hce,if_pos g3]),rfl,rfl⟩
 try simp only [sQ,ne_eq] at g3
 refine Za (xL [_,_,_,_,_] ZY 0 (h:=xM (h:=xM (h:=xM (h:=xR ZwR rfl (Zn9 _ _ _ _ _ _ x k u r _ oz (oy) hrr oz _ hf) (h:=?_))))))
 refine xN (h:=xA (h:=Zb rfl (fun g4=>?_) (fun g4=>?_)))
 try simp only [sQ,ne_eq] at g4
 refine Za (xA (h:=Zd (ZI (Zp ?_))))
 exact eR t1 ⟨ZaH (by rw [hce,if_neg (by simp [g3]),if_pos g4]),rfl,rfl⟩
 try simp only [sQ,ne_eq] at g4
 refine ZL (Zw (Zj (Za (xA (h:=Zd ?_)))))
 exact eR t1 ⟨ZaH (by rw [hce,if_neg (by simp [g3]),if_neg (by simp [g4])]),rfl,rfl⟩

theorem ZiD (q:Option Addr) (cp:Nat) (x:DBox) (B:Kn) (hm:SlK B q cp 3 ZS x.mail):Zu (pj J) 151 [.agg #[.int .i64 x.next,.slice q x.mail.length cp]] B [] (fun v B' Ls=>B'=B∧∃l a c,Ls=[l]∧v = .agg #[.int .i64 x.next,.slice a x.mail.length c]∧ZT B l a c 89 3 ZS x.mail):=by
 refine cB 9 Tryz.func151 (h:=?_)
 have hxn:=hm.len
 refine Za (xBx [_,_] (h:=fun b1=>xAl [_,_] Zfo (h:=fun b2=>tL2 (Za (xBs [] [] Tryz.underlying83 ZhC Zou (h:=fun b3=>xW Za0 (h:=x1 Zgc 0 (h:=Zm (ZaP (R:=ZS) 2 rfl (ZT.lit0 (R:=ZS)) rfl rfl rfl Zxd Zw9 rfl rfl rfl hm.rows ZS.one rfl om (fun l4 p4 c4 hv4=>?_))))))))))
 refine xW Za0 (h:=xS [_] 0 [_,_] ZxD (h:=tL3 (Za (xL [_,_] ZbT 0 (h:=xS [_,_] 1 [_,_] ZcQ (h:=tL3 (Zd ?_)))))))
 exact eN [2] rfl ⟨⟨_,rfl,.inr ⟨[_,_],ZbT,Zaa 1 rfl rfl rfl,rfl⟩⟩,trivial⟩ ⟨rfl,_,_,_,rfl,rfl,hv4⟩

theorem Zm6 (qa qb:Option Addr) (ca cb:Nat) (x:DFolder) (B:Kn) (hg:SlK B qa ca 2 Z0 x.grants) (hm:SlK B qb cb 3 ZS x.mail):Zu (pj J) 102 [.agg #[str x.owner,str x.name,.slice qa x.grants.length ca,.int .i64 x.next,.slice qb x.mail.length cb]] B [] (fun v B' Ls=>B'=B∧∃l a c l' a' c',Ls=[l,l']∧v = .agg #[str x.owner,str x.name,.slice a x.grants.length c,.int .i64 x.next,.slice a' x.mail.length c']∧ZT B l a c 224 2 Z0 x.grants∧ZT B l' a' c' 89 3 ZS x.mail):=by
 refine cB 13 Tryz.func102 (h:=?_)
 have hgn:=hg.len
 have hmn:=hm.len
 refine Za (xBx [_,_,_,_,_] (h:=fun b1=>xAl [_,_,_,_,_] ZdQ (h:=fun b2=>tL2 (Za (xBs [] [] Tryz.underlying82 ZbP ZdM (h:=fun b3=>xW Zeq (h:=x1 ZtU 0 (h:=Zm (ZaP (R:=Z0) 2 rfl (ZT.lit0 (R:=Z0)) rfl rfl rfl Zrk Zp8 rfl rfl rfl hg.rows Z0.one rfl om (fun l4 p4 c4 hv4=>?_))))))))))
 refine xW Zeq (h:=xS [_] 0 [_,_,_,_,_] Zv8 (h:=tL3 (Za (xW Zcx (h:=xL [_,_] ZbT 0 (h:=xC Zvi rfl (ZiD _ _ (⟨x.next,x.mail⟩:DBox) _ hm) (h:=?_)))))))
 rintro _ B5 _ hle5 ⟨hB5,l5,a5,c5,rfl,rfl,hs5⟩
 have hB5:=hB5.symm
 subst hB5
 refine xW Zcx (h:=xS [_,_] 0 [_,_,_,_,_] ZcQ (h:=tL4 (Za (xL [_,_,_,_,_] ZhP 0 (h:=xS [_,_,_,_,_] 1 [_,_,_,_,_] Zbo (h:=tL4 (Zd ?_)))))))
 exact eN [2,3] rfl ⟨⟨_,rfl,.inr ⟨[_,_,_,_,_],ZhP,Zaa 1 rfl rfl rfl,rfl⟩⟩,trivial⟩ ⟨rfl,_,_,_,_,_,_,rfl,rfl,hv4,hs5⟩

end Go.Proofs.YtbebcagblefhcaaGreatDoor
