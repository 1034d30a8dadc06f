/-
  Each function's contract, proved off its printed body (written by program).
-/
import Derived.Test.YtonfijmgahdgeaaGreatDoorC1
namespace Go.Proofs.YtonfijmgahdgeaaGreatDoor
open Go Go.BL
set_option linter.unusedVariables false
set_option linter.unusedSimpArgs false
set_option maxRecDepth 4000
set_option maxHeartbeats 6400000
variable {J : JoinT}
theorem ZxP (q:Option Addr) (cp:Nat) (gs:List DGrant) (u:Str) (hr :∀y,y∈gs→0≤y.rights∧y.rights≤63) (B:Kn) (hg:SlK B q cp 2 Zaf gs):Z1 (pj J) 166 [.slice q gs.length cp,str u] B (.int .i64 (Zbt gs u)):=by
 refine cB 55 Tryz.func166 (h:=?_)
 have hgn:=hg.len
 refine Za (xA (h:=Za (xA (h:=Ze (Za (xA (h:=Zg (Zv (α:=Nat × Int) [0,1,4] (fun g=>[(5,.int .i64 g.2),(6,.int .i64 g.1)]) [] (fun g=>[]) (fun g Bx=>Bx=B∧g.1≤6∧g.2=ZfF gs u g.1) (fun g=>6 - g.1) (0,0) t2 rfl (⟨rfl,oz,rfl⟩) (fun g B1 hle1 hI=>?_)))))))))
 obtain ⟨rfl,hk,hs⟩:=hI
 have hbd:=ZiG gs u g.1 hk
 refine Zz [(0,_),(1,_),(4,_),(5,_),(6,_)] [] t5 rfl (Ze (Za (xM (h:=ZC (h:=Zb rfl (fun g1=>?_) (fun g1=>?_))))))
 try simp only [sQ,ne_eq] at g1
 have hp:=Ztr (k:=g.1) oz
 refine wSk (Ze (Zg (Za (xA (h:=Ze (Za (xA (h:=Zg (Zv (α:=Nat × Bool) [0,1,4,5,6,10] (fun o=>[(7,.bool o.2),(8,.int .i64 o.1)]) [] (fun o=>[]) (fun o Bx=>Bx=B1∧o.1≤gs.length∧o.2=(gs.take o.1).any (onB u (Zcw g.1))) (fun o=>gs.length - o.1) (0,false) t2 rfl (⟨rfl,Nat.zero_le _,rfl⟩) (fun o B2 hle2 hI=>?_))))))))))
 obtain ⟨rfl,ho,hon⟩:=hI
 refine Zz [(0,_),(1,_),(4,_),(5,_),(6,_),(7,_),(8,_),(10,_)] [] t8 rfl (Ze (Za (xM (h:=xM (h:=xV Tryz.underlying85 (h:=ZC (h:=Zb rfl (fun g2=>?_) (fun g2=>?_))))))))
 try simp only [sQ,ne_eq] at g2
 obtain ⟨x,hx⟩:=ZM (xs:=gs) (i:=o.1) oz
 have hrx:=hr x (List.mem_of_getElem? hx)
 refine wSk (Ze (Zg (ZW (same _ _) mo kr ⟨rfl,rfl⟩ (fun _ _=>?_))))
 refine aM 0 rfl (h:=aM 1 rfl (h:=Zax (d:=20) rfl (fun g3=>?_) (fun g3=>?_)))
 try simp only [sQ,ne_eq] at g3
 refine aZ 2 rfl (h:=aZ 3 rfl (h:=aZ 4 rfl (h:=aZ 5 rfl (h:=aZ 6 rfl (h:=aZ 7 rfl (h:=aZ 8 rfl (h:=aZ 9 rfl (h:=aZ 10 rfl (h:=aZ 11 rfl (h:=aZ 12 rfl (h:=aZ 13 rfl (h:=aZ 14 rfl (h:=aZ 15 rfl (h:=aZ 16 rfl (h:=aZ 17 rfl (h:=aZ 18 rfl (h:=aZ 19 rfl (h:=aZ 20 rfl (h:=aZ 21 rfl (h:=aZ 22 rfl (h:=aZ 23 rfl (h:=aZ 24 rfl (h:=aZ 25 rfl (h:=aZ 26 rfl (h:=aZ 27 rfl (h:=aZ 28 rfl (h:=aPT 29 rfl (h:=aA 30 rfl (h:=Zy kr kr ?_)))))))))))))))))))))))))))))
 refine ZD (Zm (Zd (xM (h:=xD (h:=xA (h:=?_))))))
 exact Zx (o.1+1,true) [] so2 ⟨rfl,so,by rw [Zdi hx,← hon,g3];rfl⟩ t8 rfl
 try simp only [sQ,ne_eq] at g3
 refine aM 2 rfl (h:=aM 3 rfl (h:=?_))
 obtain ⟨bb3,oo3,rfl⟩:=hg.base hx
 obtain ⟨_,⟨rfl,hb4⟩,hc4⟩:=hg.elem hx
 refine aIx 4 rfl Tryz.underlying85 ZeP (h:=aW 5 rfl ZcJ (h:=aT 6 rfl (Z3 fun D=>Zn rfl rfl lk9 rfl (hc4 _ 0 _ rfl) r4) (h:=aM 7 rfl (h:=ZtA 8 rfl (h:=aM 9 rfl (h:=Zax (d:=28) rfl (fun g4=>?_) (fun g4=>?_)))))))
 try simp only [sQ,ne_eq] at g4
 refine aZ 10 rfl (h:=aZ 11 rfl (h:=aZ 12 rfl (h:=aZ 13 rfl (h:=aZ 14 rfl (h:=aZ 15 rfl (h:=aPT 16 rfl (h:=aM 17 rfl (h:=aM 18 rfl (h:=aM 19 rfl (h:=aIx 20 rfl Tryz.underlying85 ZeP (h:=aW 21 rfl ZdT (h:=aT 22 rfl (Z3 fun D=>Zn rfl rfl lk3 rfl (hc4 _ 1 _ rfl) r4) (h:=aM 23 rfl (h:=aT 24 rfl (Z3 fun D=>Z5 rfl rfl ZyF rfl (Zka g.1 om2 _) r4) (h:=?_)))))))))))))))
 refine aT 25 rfl (Z3 fun D=>Zo4 (a:=x.rights) (b:=(Zcw g.1)) (r:=Int.tdiv x.rights (Zcw g.1)) rfl rfl rfl rfl oz (Zrp oz oz oz) r4) (h:=?_)
 refine aT 26 rfl (Z3 fun D=>ZqA (a:=(Int.tdiv x.rights (Zcw g.1))) (b:=2) (r:=Int.tmod (Int.tdiv x.rights (Zcw g.1)) 2) rfl rfl rfl rfl (by decide) rfl r4) (h:=?_)
 refine ZtB 27 rfl (h:=aPT 28 rfl (h:=aPF 29 rfl (h:=aA 30 rfl (h:=Zy kr kr ?_))))
 refine ZD (Zm (Zd (xM (h:=xD (h:=xA (h:=?_))))))
 exact Zx (o.1+1,decide (Int.tmod (Int.tdiv x.rights (Zcw g.1)) 2=1)) [] so2 ⟨rfl,so,by rw [Zdi hx,← hon,g3,onB];simp [g4]⟩ t8 rfl
 try simp only [sQ,ne_eq] at g4
 refine aM 10 rfl (h:=aM 11 rfl (h:=aIx 12 rfl Tryz.underlying85 ZeP (h:=aW 13 rfl ZcJ (h:=aT 14 rfl (Z3 fun D=>Zn rfl rfl lk9 rfl (hc4 _ 0 _ rfl) r4) (h:=ZtA 15 rfl (h:=aPF 16 rfl (h:=aM 17 rfl (h:=Zax (d:=36) rfl (fun g5=>?_) (fun g5=>?_)))))))))
 try simp only [sQ,ne_eq] at g5
 refine aM 18 rfl (h:=aM 19 rfl (h:=aIx 20 rfl Tryz.underlying85 ZeP (h:=aW 21 rfl ZdT (h:=aT 22 rfl (Z3 fun D=>Zn rfl rfl lk3 rfl (hc4 _ 1 _ rfl) r4) (h:=aM 23 rfl (h:=aT 24 rfl (Z3 fun D=>Z5 rfl rfl ZyF rfl (Zka g.1 om2 _) r4) (h:=?_)))))))
 refine aT 25 rfl (Z3 fun D=>Zo4 (a:=x.rights) (b:=(Zcw g.1)) (r:=Int.tdiv x.rights (Zcw g.1)) rfl rfl rfl rfl oz (Zrp oz oz oz) r4) (h:=?_)
 refine aT 26 rfl (Z3 fun D=>ZqA (a:=(Int.tdiv x.rights (Zcw g.1))) (b:=2) (r:=Int.tmod (Int.tdiv x.rights (Zcw g.1)) 2) rfl rfl rfl rfl (by decide) rfl r4) (h:=?_)
 refine ZtB 27 rfl (h:=aPT 28 rfl (h:=aPF 29 rfl (h:=aA 30 rfl (h:=Zy kr kr ?_))))
 refine ZD (Zm (Zd (xM (h:=xD (h:=xA (h:=?_))))))
 exact Zx (o.1+1,decide (Int.tmod (Int.tdiv x.rights (Zcw g.1)) 2=1)) [] so2 ⟨rfl,so,by rw [Zdi hx,← hon,g3,onB];simp [g5,anyone]⟩ t8 rfl
 try simp only [sQ,ne_eq] at g5
 refine aZ 18 rfl (h:=aZ 19 rfl (h:=aZ 20 rfl (h:=aZ 21 rfl (h:=aZ 22 rfl (h:=aZ 23 rfl (h:=aZ 24 rfl (h:=aZ 25 rfl (h:=aZ 26 rfl (h:=aZ 27 rfl (h:=aPF 28 rfl (h:=aPF 29 rfl (h:=aA 30 rfl (h:=Zy kr kr ?_)))))))))))))
 refine ZD (Zm (Zd (xM (h:=xD (h:=xA (h:=?_))))))
 exact Zx (o.1+1,false) [] so2 ⟨rfl,so,by rw [Zdi hx,← hon,g3,onB];simp [g4,g5,anyone]⟩ t8 rfl
 try simp only [sQ,ne_eq] at g2
 have hae:=Ztv hon oz
 refine ZA (ZQ (ZB (Zs (Zm (Za (xM (h:=Zb rfl (fun g6=>?_) (fun g6=>?_))))))))
 try simp only [sQ,ne_eq] at g6
 refine Zd (xM (h:=xM (h:=xR ZyF rfl (Zka g.1 om2 _) (h:=?_))))
 refine xD (h:=xA (h:=ZD (Zm (Zd (xM (h:=xD (h:=xA (h:=?_))))))))
 exact Zx (g.1+1,g.2+Zcw g.1) [] so2 ⟨rfl,so,by simp only [ZfF];rw [← hae,if_pos g6,hs]⟩ t5 rfl
 try simp only [sQ,ne_eq] at g6
 refine ZK (ZD (Zm (Zd (xM (h:=xD (h:=xA (h:=?_)))))))
 exact Zx (g.1+1,g.2) [] so2 ⟨rfl,so,by simp only [ZfF];rw [← hae,if_neg (by simp [g6]),hs]⟩ t5 rfl
 try simp only [sQ,ne_eq] at g1
 refine ZA (ZQ (ZB (Zs (Zm (Za (xM (h:=xA (h:=Zf ?_))))))))
 exact eR t1 ⟨ZH (by rw [hs,show g.1=6 from by omega];rfl),rfl,rfl⟩

theorem ZoD (q1 q2 q3:Option Addr) (c1 c2 c3:Nat) (x:DHost) (k:Int) (u:Str) (r:Int) (f:DFolder) (hk0:0≤k) (hk:x.folders[k.toNat]? = some f) (hrr:ZhJ x.folders) (h1:0<r) (B:Kn) (hf:SlK B q2 c2 5 ZF x.folders):Z1 (pj J) 125 [.agg #[str x.domain,.slice q1 x.users.length c1,.slice q2 x.folders.length c2,.int .i64 x.queue.next,.slice q3 x.queue.items.length c3],.int .i64 k,str u,.int .i64 r] B (.bool (Zmm f u r)):=by
 refine cB 31 Tryz.func125 (h:=?_)
 have hfn:=hf.len
 have hkl:=(List.getElem?_eq_some_iff.1 hk).1
 have hrb:=Zm5 f.grants u
 refine Za (xBx [_,_,_,_,_] (h:=fun b1=>xA (h:=tL1 (Za (xM (h:=xW Za5 (h:=x1 ZgE 0 (h:=xM (h:=?_)))))))))
 obtain ⟨bb2,oo2,rfl⟩:=hf.base hk
 obtain ⟨_,⟨qg3,cg3,qm3,cm3,rfl,hg3,hm3,hb3,hb3b⟩,hc3⟩:=hf.elem hk
 have hg3n:=hg3.len
 have hm3n:=hm3.len
 have hm3s:=ZaN hm3
 refine xIx Tryz.underlying36 ZeO (h:=xW Zcy (h:=y1 lk9 hc3 0 (h:=Zcj (h:=xM (h:=Zq (d:=17) rfl (fun g1=>?_) (fun g1=>?_))))))
 refine xP (h:=xP (h:=xP (h:=xP (h:=xP (h:=xP (h:=xP (h:=xP (h:=xP (h:=xP (h:=xP (h:=xP (h:=xT (h:=xA (h:=Zf ?_))))))))))))))
 exact eR t1 ⟨Zc (by simp [Zmm,g1]),rfl,rfl⟩
 refine xW Za5 (h:=x1 ZgE 0 (h:=xM (h:=xIx Tryz.underlying36 ZeO (h:=xW ZfB (h:=y1 Zwt hc3 2 (h:=xM (h:=xR ZDy rfl (ZxP _ _ f.grants u (by first | assumption | exact hrr _ (List.mem_of_getElem? (oy))) _ hg3) (h:=?_))))))))
 refine xM (h:=Zh (Zo4 (a:=(Zbt f.grants u)) (b:=r) (r:=Int.tdiv (Zbt f.grants u) r) rfl rfl rfl rfl oz (Zrp oz oz oz) ?_))
 refine Zh (ZqA (a:=(Int.tdiv (Zbt f.grants u) r)) (b:=2) (r:=Int.tmod (Int.tdiv (Zbt f.grants u) r) 2) rfl rfl rfl rfl (by decide) rfl ?_)
 refine Z2 (h:=xF (h:=xA (h:=Zf ?_)))
 exact eR t1 ⟨Zc (by simp [Zmm,g1]),rfl,rfl⟩

theorem Zjh (q1 q2 q3:Option Addr) (c1 c2 c3:Nat) (x:DHost) (u:Str) (k r:Int) (hk:k<x.folders.length) (hrr:ZhJ x.folders) (h1:0<r) (B:Kn) (hu:SlK B q1 c1 3 ZL x.users) (hf:SlK B q2 c2 5 ZF x.folders):Z1 (pj J) 78 [.agg #[str x.domain,.slice q1 x.users.length c1,.slice q2 x.folders.length c2,.int .i64 x.queue.next,.slice q3 x.queue.items.length c3],str u,.int .i64 k,.int .i64 r] B (.int .i64 (Zqb x.users x.folders u k r)):=by
 refine cB 32 Tryz.func78 (h:=?_)
 refine Za (xBx [_,_,_,_,_] (h:=fun b1=>xA (h:=tL1 (Ze (Zg (Za (xW Zcz (h:=x1 ZlN 0 (h:=xM (h:=xR ZA5 rfl (Zgq _ _ _ _ _ hu) (h:=ZC (h:=xM (h:=Zq (d:=15) rfl (fun g1=>?_) (fun g1=>?_))))))))))))))
 try simp only [sQ,ne_eq] at g1
 refine xP (h:=xP (h:=xT (h:=xA (h:=Zb (t:=true) rfl (fun _=>Za (xA (h:=Zf (Zt (Zj ?_))))) (fun h=>Bool.noConfusion h)))))
 exact eR t1 ⟨ZH (ZkG (.inl g1)).symm,rfl,rfl⟩
 try simp only [sQ,ne_eq] at g1
 refine xM (h:=ZC (h:=xF (h:=xA (h:=Zb rfl (fun g2=>?_) (fun g2=>?_)))))
 try simp only [sQ,ne_eq] at g2
 refine Za (xA (h:=Zf (Zt (Zj ?_))))
 exact eR t1 ⟨ZH (ZkG (.inr g2)).symm,rfl,rfl⟩
 try simp only [sQ,ne_eq] at g2
 have hfn:=hf.len
 obtain ⟨f,hf0⟩ :∃f,x.folders[k.toNat]? = some f:=⟨_,List.getElem?_eq_getElem oz⟩
 have hce:=Ztg (us:=x.users) (u:=u) (r:=r) oz hf0
 refine Za (xL [_,_,_,_,_] ZgD 0 (h:=xM (h:=xM (h:=xR ZAG rfl (ZoD _ _ _ _ _ _ x k u 1 _ oz (oy) hrr oz _ hf) (h:=?_)))))
 refine xN (h:=xA (h:=Zb rfl (fun g3=>?_) (fun g3=>?_)))
 try simp only [sQ,ne_eq] at g3
 refine Za (xA (h:=Zf (Zt (Zj ?_))))
 exact eR t1 ⟨ZH (by rw [hce,if_pos g3]),rfl,rfl⟩
 try simp only [sQ,ne_eq] at g3
 refine Za (xL [_,_,_,_,_] ZgD 0 (h:=xM (h:=xM (h:=xM (h:=xR ZAG rfl (ZoD _ _ _ _ _ _ x k u r _ oz (oy) hrr oz _ hf) (h:=?_))))))
 refine xN (h:=xA (h:=Zb rfl (fun g4=>?_) (fun g4=>?_)))
 try simp only [sQ,ne_eq] at g4
 refine Za (xA (h:=Zf (Zt (Zj ?_))))
 exact eR t1 ⟨ZH (by rw [hce,if_neg (by simp [g3]),if_pos g4]),rfl,rfl⟩
 try simp only [sQ,ne_eq] at g4
 refine ZK (ZD (Zm (Za (xA (h:=Zf ?_)))))
 exact eR t1 ⟨ZH (by rw [hce,if_neg (by simp [g3]),if_neg (by simp [g4])]),rfl,rfl⟩

theorem Zlf (q:Option Addr) (cp:Nat) (xs:List DSpan) (B:Kn) (hs:SlK B q cp 2 ZN xs):Z1 (pj J) 31 [.slice q xs.length cp] B (.bool (Zdq xs)):=by
 refine cB 29 Tryz.func31 (h:=?_)
 have hsn:=hs.len
 refine Za (xA (h:=Ze (Za (xA (h:=Zg (Zv (α:=Nat) [0] (fun k=>[(3,.int .i64 k)]) [] (fun k=>[]) (fun k Bx=>Bx=B∧k≤xs.length∧∀y,y∈xs.take k→ZeT y=true) (fun k=>xs.length - k) 0 t1 rfl (⟨rfl,Nat.zero_le _,by simp⟩) (fun k B1 hle1 hI=>?_)))))))
 obtain ⟨rfl,hk,hall⟩:=hI
 refine Zz [(0,_),(3,_)] [] t2 rfl (Ze (Za (xM (h:=xM (h:=xV Tryz.underlying47 (h:=ZC (h:=Zb rfl (fun g1=>?_) (fun g1=>?_))))))))
 try simp only [sQ,ne_eq] at g1
 refine wSk (Ze (Zg (Za (xM (h:=xM (h:=?_))))))
 obtain ⟨m,hm⟩:=ZM (xs:=xs) (i:=k) om
 obtain ⟨bb3,oo3,rfl⟩:=hs.base hm
 obtain ⟨_,rfl,hc4⟩:=hs.elem hm
 refine xIx Tryz.underlying47 ZmU (h:=xW Zhu (h:=y1 lk3 hc4 0 (h:=xR ZmD rfl (Zc6 _ _ _ _) (h:=xN (h:=xM (h:=Zq (d:=17) rfl (fun g2=>?_) (fun g2=>?_)))))))
 try simp only [sQ,ne_eq] at g2
 refine xP (h:=xP (h:=xP (h:=xP (h:=xP (h:=xP (h:=xP (h:=xT (h:=Zb (t:=true) rfl (fun _=>Za (xA (h:=Zf (Zt (Zj (ZJ (Zt (Zj ?_)))))))) (fun h=>Bool.noConfusion h)))))))))
 exact eR t1 ⟨Zc (by rw [Zdq,Zb1 hm (by simp only [ZeT,g2,Bool.false_and]),Bool.false_and]),rfl,rfl⟩
 try simp only [sQ,ne_eq] at g2
 refine xM (h:=xM (h:=xIx Tryz.underlying47 ZmU (h:=xW Zht (h:=y1 lk3 hc4 1 (h:=xR ZmD rfl (Zc6 _ _ _ _) (h:=xN (h:=xF (h:=Zb rfl (fun g3=>?_) (fun g3=>?_)))))))))
 try simp only [sQ,ne_eq] at g3
 refine Za (xA (h:=Zf (Zt (Zj (ZJ (Zt (Zj ?_)))))))
 exact eR t1 ⟨Zc (by rw [Zdq,Zb1 hm (by simp only [ZeT,g3,Bool.and_false]),Bool.false_and]),rfl,rfl⟩
 try simp only [sQ,ne_eq] at g3
 refine ZK (ZD (Zm (Zd (xM (h:=xD (h:=xA (h:=?_)))))))
 exact Zx (k+1) [] so2 ⟨rfl,oz,ZaW hm hall (by simp only [ZeT];rw [show (decide (0≤m.low) && decide (m.low≤99))=true by simpa only [Bool.not_eq_false] using g2,show (decide (0≤m.high) && decide (m.high≤99))=true by simpa only [Bool.not_eq_false] using g3];rfl)⟩ t2 rfl
 try simp only [sQ,ne_eq] at g1
 refine ZA (ZQ (ZB (Zs (Zm (Za (xM (h:=xV Tryz.underlying47 (h:=xR ZmD rfl (Zc6 _ _ _ _) (h:=xA (h:=Zf ?_))))))))))
 exact eR t1 ⟨Zc (by rw [Zdq,ZdP (Za0 oz hall),Bool.true_and,Bool.eq_iff_iff];simp;try omega),rfl,rfl⟩

theorem Zr1 (q:Option Addr) (cp:Nat) (xs:List DSpan) (last n:Int) (B:Kn) (hs:SlK B q cp 2 ZN xs):Z1 (pj J) 128 [.slice q xs.length cp,.int .i64 last,.int .i64 n] B (.bool (Zbz xs last n)):=by
 refine cB 40 Tryz.func128 (h:=?_)
 have hsn:=hs.len
 refine Za (xA (h:=Ze (Za (xA (h:=Zg (Zv (α:=Nat) [0,1,2] (fun k=>[(7,.int .i64 k)]) [] (fun k=>[]) (fun k Bx=>Bx=B∧k≤xs.length∧(xs.take k).any (ZcC last n)=false) (fun k=>xs.length - k) 0 t1 rfl (⟨rfl,Nat.zero_le _,rfl⟩) (fun k B1 hle1 hI=>?_)))))))
 obtain ⟨rfl,hk,hna⟩:=hI
 refine Zz [(0,_),(1,_),(2,_),(7,_)] [] t4 rfl (Ze (Za (xM (h:=xM (h:=xV Tryz.underlying47 (h:=ZC (h:=Zb rfl (fun g1=>?_) (fun g1=>?_))))))))
 try simp only [sQ,ne_eq] at g1
 refine wSk (Ze (Zg (Za (xM (h:=xM (h:=?_))))))
 obtain ⟨m,hm⟩:=ZM (xs:=xs) (i:=k) om
 obtain ⟨bb3,oo3,rfl⟩:=hs.base hm
 obtain ⟨_,rfl,hc4⟩:=hs.elem hm
 refine xIx Tryz.underlying47 ZmU (h:=xW Zhu (h:=y1 lk3 hc4 0 (h:=xA (h:=Za (xM (h:=xM (h:=xIx Tryz.underlying47 ZmU (h:=xW Zht (h:=y1 lk3 hc4 1 (h:=xA (h:=Ze (Za (xM (h:=Z2 (h:=Zb rfl (fun g2=>?_) (fun g2=>?_))))))))))))))))
 try simp only [sQ,ne_eq] at g2
 refine Zd (xM (h:=xA (h:=Zm (Ze (Za (xM (h:=Z2 (h:=Zb rfl (fun g3=>?_) (fun g3=>?_)))))))))
 try simp only [sQ,ne_eq] at g3
 refine Zd (xM (h:=xA (h:=Zm (Za (xM (h:=xM (h:=xM (h:=Zh (ZhR rfl rfl rfl rfl (xM (h:=xM (h:=Zh (Zn4 rfl rfl rfl rfl (xR ZmD rfl (Zc6 _ _ _ _) (h:=Zb rfl (fun g4=>?_) (fun g4=>?_))))))))))))))))
 try simp only [sQ,ne_eq] at g4
 refine Za (xA (h:=Zf (Zt (Zj (ZJ (Zt (Zj ?_)))))))
 exact eR t1 ⟨Zc (by symm;rw [Zbz,List.any_eq_true];exact ⟨m,List.mem_of_getElem? hm,by simp only [ZcC,g2,g3,if_true,if_false];simpa using g4⟩),rfl,rfl⟩
 try simp only [sQ,ne_eq] at g4
 refine ZK (ZD (Zm (Zd (xM (h:=xD (h:=xA (h:=?_)))))))
 exact Zx (k+1) [] so2 ⟨rfl,oz,by rw [Zdi hm,hna];simp only [ZcC,g2,g3,if_true,if_false];simpa using g4⟩ t4 rfl
 try simp only [sQ,ne_eq] at g3
 refine wSk (Za (xM (h:=xM (h:=xM (h:=Zh (ZhR rfl rfl rfl rfl (xM (h:=xM (h:=Zh (Zn4 rfl rfl rfl rfl (xR ZmD rfl (Zc6 _ _ _ _) (h:=Zb rfl (fun g4=>?_) (fun g4=>?_)))))))))))))
 try simp only [sQ,ne_eq] at g4
 refine Za (xA (h:=Zf (Zt (Zj (ZJ (Zt (Zj ?_)))))))
 exact eR t1 ⟨Zc (by symm;rw [Zbz,List.any_eq_true];exact ⟨m,List.mem_of_getElem? hm,by simp only [ZcC,g2,g3,if_true,if_false];simpa using g4⟩),rfl,rfl⟩
 try simp only [sQ,ne_eq] at g4
 refine ZK (ZD (Zm (Zd (xM (h:=xD (h:=xA (h:=?_)))))))
 exact Zx (k+1) [] so2 ⟨rfl,oz,by rw [Zdi hm,hna];simp only [ZcC,g2,g3,if_true,if_false];simpa using g4⟩ t4 rfl
 try simp only [sQ,ne_eq] at g2
 refine wSk (Ze (Za (xM (h:=Z2 (h:=Zb rfl (fun g3=>?_) (fun g3=>?_))))))
 try simp only [sQ,ne_eq] at g3
 refine Zd (xM (h:=xA (h:=Zm (Za (xM (h:=xM (h:=xM (h:=Zh (ZhR rfl rfl rfl rfl (xM (h:=xM (h:=Zh (Zn4 rfl rfl rfl rfl (xR ZmD rfl (Zc6 _ _ _ _) (h:=Zb rfl (fun g4=>?_) (fun g4=>?_))))))))))))))))
 try simp only [sQ,ne_eq] at g4
 refine Za (xA (h:=Zf (Zt (Zj (ZJ (Zt (Zj ?_)))))))
 exact eR t1 ⟨Zc (by symm;rw [Zbz,List.any_eq_true];exact ⟨m,List.mem_of_getElem? hm,by simp only [ZcC,g2,g3,if_true,if_false];simpa using g4⟩),rfl,rfl⟩
 try simp only [sQ,ne_eq] at g4
 refine ZK (ZD (Zm (Zd (xM (h:=xD (h:=xA (h:=?_)))))))
 exact Zx (k+1) [] so2 ⟨rfl,oz,by rw [Zdi hm,hna];simp only [ZcC,g2,g3,if_true,if_false];simpa using g4⟩ t4 rfl
 try simp only [sQ,ne_eq] at g3
 refine wSk (Za (xM (h:=xM (h:=xM (h:=Zh (ZhR rfl rfl rfl rfl (xM (h:=xM (h:=Zh (Zn4 rfl rfl rfl rfl (xR ZmD rfl (Zc6 _ _ _ _) (h:=Zb rfl (fun g4=>?_) (fun g4=>?_)))))))))))))
 try simp only [sQ,ne_eq] at g4
 refine Za (xA (h:=Zf (Zt (Zj (ZJ (Zt (Zj ?_)))))))
 exact eR t1 ⟨Zc (by symm;rw [Zbz,List.any_eq_true];exact ⟨m,List.mem_of_getElem? hm,by simp only [ZcC,g2,g3,if_true,if_false];simpa using g4⟩),rfl,rfl⟩
 try simp only [sQ,ne_eq] at g4
 refine ZK (ZD (Zm (Zd (xM (h:=xD (h:=xA (h:=?_)))))))
 exact Zx (k+1) [] so2 ⟨rfl,oz,by rw [Zdi hm,hna];simp only [ZcC,g2,g3,if_true,if_false];simpa using g4⟩ t4 rfl
 try simp only [sQ,ne_eq] at g1
 refine ZA (ZQ (ZB (Zs (Zm (Za (xA (h:=Zf ?_)))))))
 exact eR t1 ⟨Zc (by rw [Zbz,← Ztv (b:=false) hna.symm oz]),rfl,rfl⟩

theorem ZxN (q1 q2 q3:Option Addr) (c1 c2 c3:Nat) (x:DHost) (s:DSess) (hs1:s.user.length≤2000000) (hs2:s.owner.length≤2000000) (hs3:s.name.length≤2000000) (r:Int) (hrr:ZhJ x.folders) (h1:0<r) (B:Kn) (hu:SlK B q1 c1 3 ZL x.users) (hf:SlK B q2 c2 5 ZF x.folders):Z1 (pj J) 34 [.agg #[str x.domain,.slice q1 x.users.length c1,.slice q2 x.folders.length c2,.int .i64 x.queue.next,.slice q3 x.queue.items.length c3],.agg #[str s.user,str s.owner,str s.name],.int .i64 r] B (.tuple #[.int .i64 (atF x s r).1,.int .i64 (atF x s r).2]):=by
 refine cB 32 Tryz.func34 (h:=?_)
 have hun:=hu.len
 have hfn:=hf.len
 have hix:=Zij (inF s.owner s.name) x.folders
 refine Za (xBx [_,_,_,_,_] (h:=fun b1=>xBx [_,_,_] (h:=fun b2=>xA (h:=xA (h:=tL2 (Za (xL [_,_,_,_,_] ZgD 0 (h:=xW Zst (h:=x1 lk9 1 (h:=xW Zss (h:=x1 lk9 1 (h:=xR ZEB rfl (ZlR _ _ _ _ _ _ x s.owner s.name om2 om2 _ hf) (h:=?_)))))))))))))
 refine xA (h:=Za (xL [_,_,_,_,_] ZgD 0 (h:=xW ZoM (h:=x1 lk9 1 (h:=xM (h:=xR ZEA rfl (Zjh _ _ _ _ _ _ x s.user (Zb5 (inF s.owner s.name) x.folders) 2 oz hrr oz _ hu hf) (h:=?_)))))))
 refine xA (h:=Ze (Za (xM (h:=Zaa (h:=Zb rfl (fun g1=>?_) (fun g1=>?_))))))
 try simp only [sQ,ne_eq] at g1
 refine Za (xM (h:=xM (h:=xA (h:=xA (h:=Zf (Zj ?_))))))
 exact Zqo .ret (.inl rfl) [_,_] t2 ⟨by rw [atF,if_pos g1];rfl,rfl,rfl⟩
 try simp only [sQ,ne_eq] at g1
 refine wSk (Za (xM (h:=xL [_,_,_,_,_] ZgD 0 (h:=xW ZoM (h:=x1 lk9 1 (h:=xM (h:=xM (h:=xR ZEA rfl (Zjh _ _ _ _ _ _ x s.user (Zb5 (inF s.owner s.name) x.folders) r oz hrr oz _ hu hf) (h:=?_)))))))))
 refine xA (h:=xA (h:=Zf ?_))
 exact Zqo .ret (.inl rfl) [_,_] t2 ⟨by rw [atF,if_neg (fun h=>h g1)];rfl,rfl,rfl⟩

theorem ZnU (q:Option Addr) (cp:Nat) (gs:List DGrant) (o u:Str) (ho:o.length≤2000000) (hn:u.length≤2000000) (B:Kn) (hg:SlK B q cp 2 Zaf gs):Z1 (pj J) 245 [.slice q gs.length cp,str o,str u] B (.int .i64 (ZkO gs o u)):=by
 refine cB 35 Tryz.func245 (h:=?_)
 refine Za (xA (h:=Za (xM (h:=xC ZAv rfl (ZoX _ _ _ _ hg) (h:=?_)))))
 rintro _ Bm _ hlem ⟨mm,lm,rfl,rfl,rfl,hlm⟩
 refine xM (h:=xE (h:=xE (h:=xA (h:=xA (h:=tL1 (Ze (Za (xM (h:=xN (h:=xM (h:=Zq (d:=16) rfl (fun g1=>?_) (fun g1=>?_))))))))))))
 try simp only [sQ,ne_eq] at g1
 refine xP (h:=xP (h:=xP (h:=xT (h:=xM (h:=xP (h:=xP (h:=xP (h:=xT (h:=Zb (t:=true) rfl (fun _=>Za (xA (h:=Zf (Zj ?_)))) (fun h=>Bool.noConfusion h))))))))))
 exact eR t1 ⟨ZH (ZkN (by simp [g1])).symm,rfl,rfl⟩
 try simp only [sQ,ne_eq] at g1
 refine xM (h:=xR Zkz rfl (ZbI _ om2 _) (h:=?_))
 refine xN (h:=xF (h:=xM (h:=Zq (d:=21) rfl (fun g2=>?_) (fun g2=>?_))))
 try simp only [sQ,ne_eq] at g2
 refine xP (h:=xP (h:=xP (h:=xT (h:=Zb (t:=true) rfl (fun _=>Za (xA (h:=Zf (Zj ?_)))) (fun h=>Bool.noConfusion h)))))
 exact eR t1 ⟨ZH (ZkN (by simp [g2])).symm,rfl,rfl⟩
 try simp only [sQ,ne_eq] at g2
 refine xM (h:=xR Zkz rfl (ZbI _ om2 _) (h:=?_))
 refine xN (h:=xF (h:=Zb rfl (fun g3=>?_) (fun g3=>?_)))
 try simp only [sQ,ne_eq] at g3
 refine Za (xA (h:=Zf (Zj ?_)))
 exact eR t1 ⟨ZH (ZkN (by simp [g3])).symm,rfl,rfl⟩
 try simp only [sQ,ne_eq] at g3
 have hce:=Zv2 (gs:=gs) (o:=o) (u:=u) g1 g2 (by simpa using g3)
 obtain ⟨bm,hmb,hml⟩:=hlm g1
 subst hmb
 clear hlm
 have hlm:=hml
 refine wSk (Ze (Za (xM (h:=xM (h:=Zcj (h:=Zb rfl (fun g4=>?_) (fun g4=>?_)))))))
 try simp only [sQ,ne_eq] at g4
 refine Za (xA (h:=Zf (Zj ?_)))
 exact eR t1 ⟨ZH (by rw [hce,if_pos g4]),rfl,rfl⟩
 try simp only [sQ,ne_eq] at g4
 refine wSk (Za (xM (h:=xM (h:=Zh (Zn5 (k:=u) 0 rfl hlm rfl rfl Tryz.underlying303 Tryz.underlying9 zo3 rfl rfl (xM (h:=Zh (Zn5 (k:=[97,110,121,111,110,101]) 0 rfl hlm rfl rfl Tryz.underlying303 Tryz.underlying9 zo3 rfl rfl (Zh (ZBl rfl rfl rfl rfl (xA (h:=Zf ?_))))))))))))
 exact eR t1 ⟨ZH (by rw [hce,if_neg g4];rfl),rfl,rfl⟩

theorem ZzV (b o:Nat) (q1 q2 q3:Option Addr) (c1 c2 c3:Nat) (x:DHost) (qa qb:Option Addr) (ca cb:Nat) (u:Str) (f:DFolder) (rr:Int) (hn:u.length≤2000000) (ho:f.owner.length≤2000000) (B:Kn) (hh:Zam B b o [str x.domain,.slice q1 x.users.length c1,.slice q2 x.folders.length c2,.int .i64 x.queue.next,.slice q3 x.queue.items.length c3]) (hu:SlK B q1 c1 3 ZL x.users) (hg:SlK B qa ca 2 Zaf f.grants):Z1 (pj J) 191 [ptr ⟨b,o,none⟩,str u,.agg #[str f.owner,str f.name,.slice qa f.grants.length ca,.int .i64 f.next,.slice qb f.mail.length cb],.int .i64 rr] B (.bool (ZrS x.users f u rr)):=by
 refine cB 29 Tryz.func191 (h:=?_)
 refine Za (xBx [_,_,_,_,_] (h:=fun b1=>xA (h:=tL1 (Za (xW ZfB (h:=x1 Zwt 0 (h:=xW Zcy (h:=x1 lk9 0 (h:=xM (h:=xR ZCR rfl (ZnU _ _ f.grants f.owner u om2 om2 _ hg) (h:=?_)))))))))))
 refine xA (h:=Za (xM (h:=xM (h:=xR ZvB rfl (ZhG _ _ _ _ _ _ _ _ x u om2 _ hh hu) (h:=?_)))))
 refine xM (h:=Zq (d:=19) rfl (fun g1=>?_) (fun g1=>?_))
 refine xM (h:=Zc9 (h:=xT (h:=xM (h:=Zq (d:=23) rfl (fun g2=>?_) (fun g2=>?_)))))
 refine xM (h:=xM (h:=Zh (ZqK rfl rfl rfl rfl (Zaa (h:=xT (h:=xA (h:=Zf ?_)))))))
 exact eR t1 ⟨Zc (by simp [ZrS,g1,g2]),rfl,rfl⟩
 refine xP (h:=xP (h:=xP (h:=xP (h:=xF (h:=xA (h:=Zf ?_))))))
 exact eR t1 ⟨Zc (by simp [ZrS,g1,g2];try omega),rfl,rfl⟩
 refine xP (h:=xP (h:=xF (h:=xM (h:=xP (h:=xP (h:=xP (h:=xP (h:=xF (h:=xA (h:=Zf ?_))))))))))
 exact eR t1 ⟨Zc (by simp [ZrS,g1]),rfl,rfl⟩

theorem ZmS (u y z:Str) (h1:u.length≤140737488355328) (h2:y.length≤140737488355328) (h3:z.length≤140737488355328) (left:Int) (hl0:0≤left) (hl1:left≤1048576) (B:Kn):Z1 (pj J) 6 [.agg #[str u,str y,str z],.int .i64 left] B (.int .i64 (szI left (u.length+y.length+z.length))):=by
 refine cB 27 Tryz.func6 (h:=?_)
 refine Za (xBx [_,_,_] (h:=fun b1=>xA (h:=tL1 (Za (xM (h:=xW ZwA (h:=x1 lk9 0 (h:=xVs Tryz.underlying9 (h:=xU (h:=xA (h:=Ze (Za (xM (h:=ZC (h:=Zb rfl (fun g1=>?_) (fun g1=>?_))))))))))))))))
 try simp only [sQ,ne_eq] at g1
 refine Za (xA (h:=Zf (Zj ?_)))
 exact eR t1 ⟨ZH (by first | (unfold szI;split <;> omega)),rfl,rfl⟩
 try simp only [sQ,ne_eq] at g1
 refine wSk (Za (xM (h:=xW Zwz (h:=x1 lk9 0 (h:=xVs Tryz.underlying9 (h:=xU (h:=xA (h:=Ze (Za (xM (h:=ZC (h:=Zb rfl (fun g2=>?_) (fun g2=>?_)))))))))))))
 try simp only [sQ,ne_eq] at g2
 refine Za (xA (h:=Zf (Zj ?_)))
 exact eR t1 ⟨ZH (by first | (unfold szI;split <;> omega)),rfl,rfl⟩
 try simp only [sQ,ne_eq] at g2
 refine wSk (Za (xM (h:=xW Zwy (h:=x1 lk9 0 (h:=xVs Tryz.underlying9 (h:=xU (h:=xA (h:=Ze (Za (xM (h:=ZC (h:=Zb rfl (fun g3=>?_) (fun g3=>?_)))))))))))))
 try simp only [sQ,ne_eq] at g3
 refine Za (xA (h:=Zf (Zj ?_)))
 exact eR t1 ⟨ZH (by first | (unfold szI;split <;> omega)),rfl,rfl⟩
 try simp only [sQ,ne_eq] at g3
 refine wSk (Za (xM (h:=xA (h:=Zf ?_))))
 exact eR t1 ⟨ZH (by first | (unfold szI;split <;> omega)),rfl,rfl⟩

theorem ZfL (u y z:Str) (B:Kn):Z1 (pj J) 10 [.agg #[str u,str y,str z]] B (.agg #[str u,str y,str z]):=by
 refine cB 14 Tryz.func10 (h:=?_)
 refine Za (xBx [_,_,_] (h:=fun b1=>xAl [_,_,_] ZEi (h:=fun b2=>tL2 (Za (xAl [_,_,_] ZEi (h:=fun b3=>tL3 (Za (xW ZwA (h:=x1 lk9 0 (h:=xW ZoM (h:=xS [_] 2 [_,_,_] sz9 (h:=tL3 (Za (xW Zwz (h:=x1 lk9 0 (h:=xW Zst (h:=xS [_] 2 [_,_,_] sz9 (h:=tL3 (Za (xW Zwy (h:=x1 lk9 0 (h:=xW Zss (h:=xS [_] 2 [_,_,_] sz9 (h:=tL3 (Za (xL [_,_,_] ZA3 2 (h:=xS [_,_,_] 1 [_,_,_] ZEV (h:=tL3 (Zf ?_)))))))))))))))))))))))))))))
 exact eR ⟨⟨_,rfl,.inr ⟨[_,_,_],ZA3,ZbZ 1 rfl rfl rfl,rfl⟩⟩,trivial⟩ ⟨rfl,rfl,rfl⟩

set_option maxHeartbeats 400000 in
theorem Zj4 (q:Option Addr) (cp:Nat) (xs:List DFolder) (l:Cells) (k:Nat) (hk:kL Zfr k xs≤800000000000000) (hn:xs.length≤2000000) (B:Kn) (hv:ZaM l q cp 87 5 (Zai 223 146) xs):Zu (pj J) 53 [.slice q xs.length cp,.int .i64 k] B [l] (fun v B' Ls=>B'=B∧∃l',Ls=[l']∧v = .int .i64 ((kL Zfr k xs:Nat):Int)∧ZaM l' q cp 87 5 (Zai 223 146) (mkL Zfr mkF k xs)):=by
 refine Zdy 52 Tryz.func53 rfl rfl rfl (Nat.le_of_ble_eq_true rfl) ?_
 have hvc:=hv.cap
 refine Za ?_
 refine xA (h:=?_)
 refine Ze ?_
 refine Za ?_
 refine xA (h:=?_)
 refine Zg ?_
 refine Zv (α:=Nat × Nat × Cells × List DFolder) [4] (fun g=>[(0,.slice q xs.length cp),(1,.int .i64 ((g.2.1:Nat):Int)),(5,.int .i64 g.1)]) [0] (fun g=>[g.2.2.1]) (fun g Bx=>Bx=B∧g.1≤xs.length∧g.2.1=kL Zfr k (xs.take g.1)∧g.2.2.2.length=xs.length∧g.2.2.2.take g.1=mkL Zfr mkF k (xs.take g.1)∧g.2.2.2.drop g.1=xs.drop g.1∧ZaM g.2.2.1 q cp 87 5 (Zai 223 146) g.2.2.2) (fun g=>xs.length - g.1) (0,k,l,xs) t3 rfl (⟨rfl,Nat.zero_le _,Zsa.symm,rfl,rfl,rfl,hv⟩) (fun g B1 hle1 hI=>?_)
 obtain ⟨rfl,hi,hs,hle,ht,hd,hw⟩:=hI
 refine Zz [(0,_),(1,_),(4,_),(5,_)] [_] t4 rfl ?_
 refine Ze ?_
 refine Za ?_
 refine xM (h:=?_)
 refine xM (h:=?_)
 refine xV Tryz.underlying36 (h:=?_)
 refine ZC (h:=?_)
 refine Zb rfl (fun g1=>?_) (fun g1=>?_)
 try simp only [sQ,ne_eq] at g1
 obtain ⟨x,hx⟩:=ZM (xs:=xs) (i:=g.1) oz
 have hy:=(ZkB hd).trans hx
 have hkl:=Nat.le_trans (ZxS (st:=Zfr) (k:=k) hx) hk
 rw [← hs] at hkl
 have hst:Zfr x=3+2*x.grants.length+3*x.mail.length:=rfl
 refine ZK ?_
 refine Zm ?_
 refine Ze ?_
 refine Zg ?_
 refine Za ?_
 refine xM (h:=?_)
 refine xM (h:=?_)
 refine xM (h:=?_)
 refine xR ZiT rfl (Zbm (g.2.1) oz _) (h:=?_)
 obtain ⟨bb3,_,li3,lr3,hp3,⟨qg3,cg3,qm3,cm3,ia3,ib3,rfl,rfl,hg3,hm3,ho3,hn3,hx3,hy3⟩,hw3,hq3,hc3,hk3⟩:=hw.cell (B:=B1) (L:=[g.2.2.1]) hy 0 rfl
 refine xIp hp3 Tryz.underlying36 ZeO (h:=?_)
 refine xW Zcy (h:=?_)
 refine Zh (Zga (k:=g.1) (us:=[_]) ((⟨ZU (g.2.1),x.name,x.grants,x.next,x.mail⟩:DFolder)) 0 0 rfl hw hp3 hy rfl rfl sz9 rfl rfl rfl rfl (Nat.le_of_ble_eq_true rfl) (by rintro _ _ ⟨_,_,_,_,_,_,rfl,rfl,h1,h2,h3,h4,h5,h6⟩;exact ⟨_,_,_,_,_,_,rfl,rfl,h1,h2,show (ZU (g.2.1)).length≤2000000 from Nat.le_trans (Zbi (k:=g.2.1) oz) (by decide),h4,h5,h6⟩) (fun l4 hv4=>?_))
 have hs4:=Zcn (z:=((⟨ZU (g.2.1),x.name,x.grants,x.next,x.mail⟩:DFolder))) hy
 refine Zo2 [_] rfl ?_
 refine Za ?_
 refine xM (h:=?_)
 refine xD (h:=?_)
 refine xA (h:=?_)
 refine Za ?_
 refine xM (h:=?_)
 refine xM (h:=?_)
 refine xM (h:=?_)
 refine xR ZiT rfl (Zbm ((g.2.1)+1) oz _) (h:=?_)
 obtain ⟨bb6,_,li6,lr6,hp6,⟨qg6,cg6,qm6,cm6,ia6,ib6,rfl,rfl,hg6,hm6,ho6,hn6,hx6,hy6⟩,hw6,hq6,hc6,hk6⟩:=hv4.cell (B:=B1) (L:=[l4]) hs4 0 rfl
 refine xIp hp6 Tryz.underlying36 ZeO (h:=?_)
 refine xW ZeJ (h:=?_)
 refine Zh (Zga (k:=g.1) (us:=[_]) ((⟨ZU (g.2.1),ZU (g.2.1+1),x.grants,x.next,x.mail⟩:DFolder)) 1 0 rfl hv4 hp6 hs4 rfl rfl sz9 rfl rfl rfl rfl (Nat.le_of_ble_eq_true rfl) (by rintro _ _ ⟨_,_,_,_,_,_,rfl,rfl,h1,h2,h3,h4,h5,h6⟩;exact ⟨_,_,_,_,_,_,rfl,rfl,h1,h2,h3,show (ZU (g.2.1+1)).length≤2000000 from Nat.le_trans (Zbi (k:=g.2.1+1) oz) (by decide),h5,h6⟩) (fun l7 hv7=>?_))
 rw [List.set_set] at hv7
 have hs7:=Zcn (z:=((⟨ZU (g.2.1),ZU (g.2.1+1),x.grants,x.next,x.mail⟩:DFolder))) hy
 refine Zo2 [_] rfl ?_
 obtain ⟨bb8,_,li8,lr8,hp8,⟨qg8,cg8,qm8,cm8,ia8,ib8,rfl,rfl,hg8,hm8,ho8,hn8,hx8,hy8⟩,hw8,hq8,hc8,hk8⟩:=hv7.cell (B:=B1) (L:=[_]) hs7 0 rfl
 replace hc8:=fun m u h=>(hc8 m u h).perm (Zd2 0 rfl (Zlr hq8))
 refine ZgH 0 rfl (Zlr hq8) ?_
 refine Za ?_
 refine xM (h:=?_)
 refine xD (h:=?_)
 refine xA (h:=?_)
 refine Zo2 [_,_,_] rfl ?_
 refine Za ?_
 refine xM (h:=?_)
 refine xM (h:=?_)
 refine xIp hp8 Tryz.underlying36 ZeO (h:=?_)
 refine xW ZfB (h:=?_)
 refine Zh (Zn rfl rfl Zwt rfl (hc8 2 _ rfl) ?_)
 refine xM (h:=?_)
 refine Zh (Zbx [1] rfl rfl rfl rfl ZEb rfl (ZlL _ _ (((⟨ZU (g.2.1),ZU (g.2.1+1),x.grants,x.next,x.mail⟩:DFolder)).grants) _ (((g.2.1)+1)+1) oz oz _ (hg8.anyK Zaf.any)) ?_)
 rintro _ B9 _ hle9 ⟨rfl,l9,rfl,rfl,hs9⟩
 refine xA (h:=?_)
 refine Zo2 [_,_,_] rfl ?_
 refine Zen 0 2 rfl rfl (by decide) ?_
 refine Zen 0 1 rfl rfl (by decide) ?_
 have hv10:=hk8 (⟨ZU (g.2.1),ZU (g.2.1+1),Za2 (g.2.1+1+1) x.grants.length,x.next,x.mail⟩:DFolder) _ ⟨qg8,cg8,qm8,cm8,_,_,by simp only [ZdL,Zez],rfl,hs9.anyK Zaf.any,hm8.anyK Zah.any,ho8,hn8,by first | assumption | (rw [ZdL];assumption),by first | assumption | (rw [Zez];assumption)⟩
 rw [List.append_assoc,List.set_set] at hv10
 have hs10:=Zcn (z:=((⟨ZU (g.2.1),ZU (g.2.1+1),Za2 (g.2.1+1+1) x.grants.length,x.next,x.mail⟩:DFolder))) hy
 refine ZmJ [0] rfl ?_
 refine Za ?_
 refine xM (h:=?_)
 refine xM (h:=?_)
 refine xM (h:=?_)
 obtain ⟨bb11,_,li11,lr11,hp11,⟨qg11,cg11,qm11,cm11,ia11,ib11,rfl,rfl,hg11,hm11,ho11,hn11,hx11,hy11⟩,hw11,hq11,hc11,hk11⟩:=hv10.cell (B:=B9) (L:=[_]) hs10 0 rfl
 refine xIp hp11 Tryz.underlying36 ZeO (h:=?_)
 refine xW Zed (h:=?_)
 refine xW Zhv (h:=?_)
 refine Zh (Zga (k:=g.1) (us:=[_]) ((⟨ZU (g.2.1),ZU (g.2.1+1),Za2 (g.2.1+1+1) x.grants.length,((g.2.1+1+1+2*x.grants.length:Nat):Int),x.mail⟩:DFolder)) 3 0 rfl hv10 hp11 hs10 rfl rfl sz3 rfl rfl rfl rfl (Nat.le_of_ble_eq_true rfl) (by rintro _ _ ⟨_,_,_,_,_,_,rfl,rfl,h1,h2,h3,h4,h5,h6⟩;exact ⟨_,_,_,_,_,_,rfl,rfl,h1,h2,h3,h4,h5,h6⟩) (fun l12 hv12=>?_))
 rw [List.set_set] at hv12
 have hs12:=Zcn (z:=((⟨ZU (g.2.1),ZU (g.2.1+1),Za2 (g.2.1+1+1) x.grants.length,((g.2.1+1+1+2*x.grants.length:Nat):Int),x.mail⟩:DFolder))) hy
 refine Zo2 [_] rfl ?_
 obtain ⟨bb13,_,li13,lr13,hp13,⟨qg13,cg13,qm13,cm13,ia13,ib13,rfl,rfl,hg13,hm13,ho13,hn13,hx13,hy13⟩,hw13,hq13,hc13,hk13⟩:=hv12.cell (B:=B9) (L:=[_]) hs12 0 rfl
 replace hc13:=fun m u h=>(hc13 m u h).perm (Zd2 0 rfl (Zlr hq13))
 refine ZgH 0 rfl (Zlr hq13) ?_
 refine Za ?_
 refine xM (h:=?_)
 refine xD (h:=?_)
 refine xA (h:=?_)
 refine Zo2 [_,_,_] rfl ?_
 refine Zd ?_
 refine xM (h:=?_)
 refine xM (h:=?_)
 refine xIp hp13 Tryz.underlying36 ZeO (h:=?_)
 refine xW Zed (h:=?_)
 refine xW ZaI (h:=?_)
 refine Zh (Zn rfl rfl Zfs rfl (hc13 4 _ rfl) ?_)
 refine xM (h:=?_)
 refine Zh (Zbx [2] rfl rfl rfl rfl ZEa rfl (Znk _ _ (((⟨ZU (g.2.1),ZU (g.2.1+1),Za2 (g.2.1+1+1) x.grants.length,((g.2.1+1+1+2*x.grants.length:Nat):Int),x.mail⟩:DFolder)).mail) _ (((((g.2.1)+1)+1)+2*(((⟨ZU (g.2.1),ZU (g.2.1+1),x.grants,x.next,x.mail⟩:DFolder)).grants).length)+1) oz oz _ (hm13.anyK Zah.any)) ?_)
 rintro _ B14 _ hle14 ⟨rfl,l14,rfl,rfl,hs14⟩
 refine xA (h:=?_)
 refine ZD (Zm ?_)
 refine Zen 0 2 rfl rfl (by decide) ?_
 refine Zen 0 1 rfl rfl (by decide) ?_
 have hv15:=hk13 (⟨ZU (g.2.1),ZU (g.2.1+1),Za2 (g.2.1+1+1) x.grants.length,((g.2.1+1+1+2*x.grants.length:Nat):Int),ZcZ (g.2.1+1+1+2*x.grants.length+1) x.mail.length⟩:DFolder) _ ⟨qg13,cg13,qm13,cm13,_,_,by simp only [ZdL,Zez],rfl,hg13.anyK Zaf.any,hs14.anyK Zah.any,ho13,hn13,by first | assumption | (rw [ZdL];assumption),by first | assumption | (rw [Zez];assumption)⟩
 rw [List.append_assoc,List.set_set] at hv15
 have hs15:=Zcn (z:=((⟨ZU (g.2.1),ZU (g.2.1+1),Za2 (g.2.1+1+1) x.grants.length,((g.2.1+1+1+2*x.grants.length:Nat):Int),ZcZ (g.2.1+1+1+2*x.grants.length+1) x.mail.length⟩:DFolder))) hy
 refine ZmJ [0] rfl ?_
 refine Zd ?_
 refine xM (h:=?_)
 refine xD (h:=?_)
 refine xA (h:=?_)
 exact Zx (g.1+1,g.2.1+1+1+2*x.grants.length+1+3*x.mail.length,_,(g.2.2.2.set g.1 ((⟨ZU (g.2.1),ZU (g.2.1+1),Za2 (g.2.1+1+1) x.grants.length,((g.2.1+1+1+2*x.grants.length:Nat):Int),ZcZ (g.2.1+1+1+2*x.grants.length+1) x.mail.length⟩:DFolder)))) [0] so2 ⟨rfl,so,by simp only [];rw [Zkb hx,← hs,hst];omega,ZjK hle,ZlG ht hx hle hs,ZkA hd,hv15⟩ t4 rfl
 try simp only [sQ,ne_eq] at g1
 have he:=ZrQ ht hle oz
 have hgi:g.1=xs.length:=by omega
 refine ZA (ZQ (ZB (Zs (Zm ?_))))
 refine Za ?_
 refine xM (h:=?_)
 refine xA (h:=?_)
 refine Zf ?_
 exact Zdh .ret (.inl rfl) [_] [0] rfl t1 ⟨rfl,_,rfl,by rw [hs,Zsb oz];rfl,by rw [← he];exact hw⟩

theorem Znl (q:Option Addr) (cp:Nat) (xs:List DItem) (l:Cells) (k:Nat) (hk:kL ZfP k xs≤800000000000000) (hn:xs.length≤2000000) (B:Kn) (hv:ZaM l q cp 136 4 (ZbE 9) xs):Zu (pj J) 107 [.slice q xs.length cp,.int .i64 k] B [l] (fun v B' Ls=>B'=B∧∃l',Ls=[l']∧v = .int .i64 ((kL ZfP k xs:Nat):Int)∧ZaM l' q cp 136 4 (ZbE 9) (mkL ZfP mkI k xs)):=by
 refine cB 43 Tryz.func107 (h:=?_)
 have hvc:=hv.cap
 refine Za (xA (h:=Ze (Za (xA (h:=Zg (Zv (α:=Nat × Nat × Cells × List DItem) [4] (fun g=>[(0,.slice q xs.length cp),(1,.int .i64 ((g.2.1:Nat):Int)),(5,.int .i64 g.1)]) [0] (fun g=>[g.2.2.1]) (fun g Bx=>Bx=B∧g.1≤xs.length∧g.2.1=kL ZfP k (xs.take g.1)∧g.2.2.2.length=xs.length∧g.2.2.2.take g.1=mkL ZfP mkI k (xs.take g.1)∧g.2.2.2.drop g.1=xs.drop g.1∧ZaM g.2.2.1 q cp 136 4 (ZbE 9) g.2.2.2) (fun g=>xs.length - g.1) (0,k,l,xs) t3 rfl (⟨rfl,Nat.zero_le _,Zsa.symm,rfl,rfl,rfl,hv⟩) (fun g B1 hle1 hI=>?_)))))))
 obtain ⟨rfl,hi,hs,hle,ht,hd,hw⟩:=hI
 refine Zz [(0,_),(1,_),(4,_),(5,_)] [_] t4 rfl (Ze (Za (xM (h:=xM (h:=xV Tryz.underlying37 (h:=ZC (h:=Zb rfl (fun g1=>?_) (fun g1=>?_))))))))
 try simp only [sQ,ne_eq] at g1
 obtain ⟨x,hx⟩:=ZM (xs:=xs) (i:=g.1) oz
 have hy:=(ZkB hd).trans hx
 have hkl:=Nat.le_trans (ZxS (st:=ZfP) (k:=k) hx) hk
 rw [← hs] at hkl
 have hst:ZfP x=3+x.left.length:=rfl
 refine wSk (Ze (Zg (Za (xM (h:=xM (h:=xM (h:=?_)))))))
 obtain ⟨bb2,_,li2,lr2,hp2,⟨qg2,cg2,rfl,hg2,ho2,hn2,hx2⟩,hw2,hq2,hc2,hk2⟩:=hw.cell (B:=B1) (L:=[g.2.2.1]) hy 0 rfl
 refine xIp hp2 Tryz.underlying37 ZcR (h:=xW Ze7 (h:=Zh (Zga (k:=g.1) (us:=[_]) ((⟨((g.2.1:Nat):Int),x.fr,x.text,x.left⟩:DItem)) 0 0 rfl hw hp2 hy rfl rfl sz3 rfl rfl rfl rfl (Nat.le_of_ble_eq_true rfl) (by rintro _ _ ⟨_,_,rfl,h1,h2,h3,h4⟩;exact ⟨_,_,rfl,h1,h2,h3,h4⟩) (fun l3 hv3=>?_))))
 have hs3:=Zcn (z:=((⟨((g.2.1:Nat):Int),x.fr,x.text,x.left⟩:DItem))) hy
 refine tL1 (Za (xM (h:=xD (h:=xA (h:=Za (xM (h:=xM (h:=xM (h:=xR ZiT rfl (Zbm ((g.2.1)+1) oz _) (h:=?_))))))))))
 obtain ⟨bb5,_,li5,lr5,hp5,⟨qg5,cg5,rfl,hg5,ho5,hn5,hx5⟩,hw5,hq5,hc5,hk5⟩:=hv3.cell (B:=B1) (L:=[l3]) hs3 0 rfl
 refine xIp hp5 Tryz.underlying37 ZcR (h:=xW Ze6 (h:=Zh (Zga (k:=g.1) (us:=[_]) ((⟨((g.2.1:Nat):Int),ZU (g.2.1+1),x.text,x.left⟩:DItem)) 1 0 rfl hv3 hp5 hs3 rfl rfl sz9 rfl rfl rfl rfl (Nat.le_of_ble_eq_true rfl) (by rintro _ _ ⟨_,_,rfl,h1,h2,h3,h4⟩;exact ⟨_,_,rfl,h1,show (ZU (g.2.1+1)).length≤2000000 from Nat.le_trans (Zbi (k:=g.2.1+1) oz) (by decide),h3,h4⟩) (fun l6 hv6=>?_))))
 rw [List.set_set] at hv6
 have hs6:=Zcn (z:=((⟨((g.2.1:Nat):Int),ZU (g.2.1+1),x.text,x.left⟩:DItem))) hy
 refine tL1 (Za (xM (h:=xD (h:=xA (h:=Za (xM (h:=xM (h:=xM (h:=xR ZiT rfl (Zbm (((g.2.1)+1)+1) oz _) (h:=?_))))))))))
 obtain ⟨bb8,_,li8,lr8,hp8,⟨qg8,cg8,rfl,hg8,ho8,hn8,hx8⟩,hw8,hq8,hc8,hk8⟩:=hv6.cell (B:=B1) (L:=[l6]) hs6 0 rfl
 refine xIp hp8 Tryz.underlying37 ZcR (h:=xW Zg0 (h:=Zh (Zga (k:=g.1) (us:=[_]) ((⟨((g.2.1:Nat):Int),ZU (g.2.1+1),ZU (g.2.1+1+1),x.left⟩:DItem)) 2 0 rfl hv6 hp8 hs6 rfl rfl sz9 rfl rfl rfl rfl (Nat.le_of_ble_eq_true rfl) (by rintro _ _ ⟨_,_,rfl,h1,h2,h3,h4⟩;exact ⟨_,_,rfl,h1,h2,show (ZU (g.2.1+1+1)).length≤2000000 from Nat.le_trans (Zbi (k:=g.2.1+1+1) oz) (by decide),h4⟩) (fun l9 hv9=>?_))))
 rw [List.set_set] at hv9
 have hs9:=Zcn (z:=((⟨((g.2.1:Nat):Int),ZU (g.2.1+1),ZU (g.2.1+1+1),x.left⟩:DItem))) hy
 refine tL1 ?_
 obtain ⟨bb10,_,li10,lr10,hp10,⟨qg10,cg10,rfl,hg10,ho10,hn10,hx10⟩,hw10,hq10,hc10,hk10⟩:=hv9.cell (B:=B1) (L:=[_]) hs9 0 rfl
 replace hc10:=fun m u h=>(hc10 m u h).perm (Zd2 0 rfl (ZzJ hq10))
 refine ZgH 0 rfl (ZzJ hq10) ?_
 refine Za ?_
 refine Zh (Za9 rfl rfl rfl ?_)
 refine Zh (ZeM rfl rfl rfl rfl (by first | exact Zb2 (by first | omega | (simp;done) | (simp;omega)) (by first | omega | (simp;done) | (simp;omega)) | rfl) ?_)
 refine Zh (ZbF rfl rfl rfl ?_)
 refine Zo2 [_,_] rfl ?_
 refine Zd ?_
 refine Zh (Za9 rfl rfl rfl ?_)
 refine Zh (Za9 rfl rfl rfl ?_)
 refine Zh (ZgI hp10 rfl rfl Tryz.underlying37 ZcR rfl rfl (by first | omega | (simp;done) | (simp;omega)) (by first | omega | (simp;done) | (simp;omega)) ?_)
 refine Zh (Zac rfl rfl ZdV rfl ?_)
 refine Zh (Zn rfl rfl ZgU rfl (hc10 3 _ rfl) ?_)
 refine Zh (Za9 rfl rfl rfl ?_)
 refine Zh (Zbx [1] rfl rfl rfl rfl ZDJ rfl (Zj3 _ _ (((⟨((g.2.1:Nat):Int),ZU (g.2.1+1),ZU (g.2.1+1+1),x.left⟩:DItem)).left) _ ((((g.2.1)+1)+1)+1) (by omega) (by omega) _ (hg10.anyK Zel.any)) ?_)
 rintro _ B11 _ hle11 ⟨rfl,l11,rfl,rfl,hs11⟩
 refine xA (h:=ZD (Zm (Zen 0 1 rfl rfl (by decide) ?_)))
 have hv12:=hk10 (⟨((g.2.1:Nat):Int),ZU (g.2.1+1),ZU (g.2.1+1+1),ZeG (g.2.1+1+1+1) x.left.length⟩:DItem) _ ⟨qg10,cg10,by simp only [Zjf],hs11.anyK Zel.any,ho10,hn10,by first | assumption | (rw [Zjf];assumption)⟩
 rw [List.set_set] at hv12
 have hs12:=Zcn (z:=((⟨((g.2.1:Nat):Int),ZU (g.2.1+1),ZU (g.2.1+1+1),ZeG (g.2.1+1+1+1) x.left.length⟩:DItem))) hy
 refine ZmJ [0] rfl (Zd (xM (h:=xD (h:=xA (h:=?_)))))
 exact Zx (g.1+1,g.2.1+1+1+1+1*x.left.length,_,(g.2.2.2.set g.1 ((⟨((g.2.1:Nat):Int),ZU (g.2.1+1),ZU (g.2.1+1+1),ZeG (g.2.1+1+1+1) x.left.length⟩:DItem)))) [0] so2 ⟨rfl,so,by simp only [];rw [Zkb hx,← hs,hst];omega,ZjK hle,ZlG ht hx hle hs,ZkA hd,hv12⟩ t4 rfl
 try simp only [sQ,ne_eq] at g1
 have he:=ZrQ ht hle oz
 refine ZA (ZQ (ZB (Zs (Zm (Za (xM (h:=xA (h:=Zf ?_))))))))
 exact Zdh .ret (.inl rfl) [_] [0] rfl ⟨rfl,trivial⟩ ⟨rfl,_,rfl,by rw [hs,Zsb (by omega)];rfl,by rw [← he];exact hw⟩

theorem Znj (q1:Option Addr) (c1:Nat) (x:DQueue) (l1:Cells) (k:Nat) (hk:kL ZfP k x.items≤800000000000000) (hn:x.items.length≤2000000) (B:Kn) (hv:ZaM l1 q1 c1 136 4 (ZbE 9) x.items):Zu (pj J) 54 [.agg #[.int .i64 x.next,.slice q1 x.items.length c1],.int .i64 k] B [l1] (fun v B' Ls=>B'=B∧∃l',Ls=[l']∧v = .int .i64 ((kL ZfP k x.items:Nat):Int)∧ZaM l' q1 c1 136 4 (ZbE 9) (mkL ZfP mkI k x.items)):=by
 refine cB 10 Tryz.func54 (h:=?_)
 refine Za (xBx [_,_] (h:=fun b1=>xA (h:=tL2 (Za (xW Zc7 (h:=x1 ZmC 1 (h:=xM (h:=xK [0] rfl ZD9 rfl (Znl _ _ x.items _ k oa oz _ hv) (h:=?_)))))))))
 rintro _ B2 _ hle2 ⟨rfl,l2,rfl,rfl,hs2⟩
 refine xA (h:=tL2 (Za (xM (h:=xA (h:=Zf ?_)))))
 exact eN [0] rfl t1 ⟨rfl,_,rfl,rfl,hs2⟩

theorem ZpE (q1 q2 q3:Option Addr) (c1 c2 c3:Nat) (x:DHost) (l1 l2 l3:Cells) (k:Nat) (hk:kH k x≤800000000000000) (hn1:x.users.length≤2000000) (hn2:x.folders.length≤2000000) (hn3:x.queue.items.length≤2000000) (B:Kn) (hu:ZR Kn.none l1 q1 c1 132 3 ZL x.users) (hf:ZaM l2 q2 c2 87 5 (Zai 223 146) x.folders) (hi:ZaM l3 q3 c3 136 4 (ZbE 9) x.queue.items):Zu (pj J) 15 [.agg #[str x.domain,.slice q1 x.users.length c1,.slice q2 x.folders.length c2,.int .i64 x.queue.next,.slice q3 x.queue.items.length c3],.int .i64 k] B [l1,l2,l3] (fun v B' Ls=>B'=B∧∃l1' l2' l3',Ls=[l1',l2',l3']∧v = .int .i64 ((kH k x:Nat):Int)∧ZR Kn.none l1' q1 c1 132 3 ZL (ZfV k x.users.length)∧ZaM l2' q2 c2 87 5 (Zai 223 146) (mkL Zfr mkF (k+3*x.users.length) x.folders)∧ZaM l3' q3 c3 136 4 (ZbE 9) (mkL ZfP mkI (kL Zfr (k+3*x.users.length) x.folders) x.queue.items)):=by
 refine cB 18 Tryz.func15 (h:=?_)
 have hk3:kL ZfP (kL Zfr (k+3*x.users.length) x.folders) x.queue.items≤800000000000000:=hk
 have hk2:(kL Zfr (k+3*x.users.length) x.folders)≤800000000000000:=Nat.le_trans Zz8 hk3
 have hk1:(k+3*x.users.length)≤800000000000000:=Nat.le_trans Zz8 hk2
 refine Za (xBx [_,_,_,_,_] (h:=fun b1=>xA (h:=tL4 (Za (xW Zcz (h:=x1 ZlN 3 (h:=xM (h:=xK [0] rfl ZFD rfl (Zni _ _ x.users _ k oz oz _ (hu.anyK ZL.any)) (h:=?_)))))))))
 rintro _ B2 _ hle2 ⟨rfl,l2,rfl,rfl,hs2⟩
 refine xA (h:=tL4 (Za (xW Za5 (h:=x1 ZgE 3 (h:=xM (h:=xK [1] rfl ZFC rfl (Zj4 _ _ x.folders _ (k+3*x.users.length) oa oz _ hf) (h:=?_)))))))
 rintro _ B3 _ hle3 ⟨rfl,l3,rfl,rfl,hs3⟩
 refine xA (h:=tL4 (Za (xW ZfC (h:=xL [_,_] Zqn 3 (h:=xM (h:=xK [2] rfl ZFB rfl (Znj _ _ x.queue _ (kL Zfr (k+3*x.users.length) x.folders) oa oz _ hi) (h:=?_)))))))
 rintro _ B4 _ hle4 ⟨rfl,l4a,rfl,rfl,hs4a⟩
 refine xA (h:=tL4 (Za (xM (h:=xA (h:=Zf ?_)))))
 exact eN [0,1,2] rfl t1 ⟨rfl,_,_,_,rfl,rfl,hs2.anyK ZL.any,hs3,hs4a⟩

theorem ZAm (v:Value) (Q:Value→Kn→Cells→Prop) (B:Kn) (L:Cells):hb Tryz.prog (Extern.ReflectliteType.typeOf #[.iface 392 v]) Q B L=Q (.iface 326 (.agg #[.pointer (some ⟨9,392,none⟩)])) B L:=by kernel_rfl

theorem ZAn (v:Value) (k:Nat) (Q:FuncId × Value→Kn→Cells→Prop) (B:Kn) (L:Cells):hb Tryz.prog (Go.method (k+1) 326 v "Comparable") Q B L=Q (330,v) B L:=by kernel_rfl

theorem ZAo (Q:Value→Kn→Cells→Prop) (B:Kn) (L:Cells):hb Tryz.prog ((Extern.ReflectliteType.method fun t=>do Extern.Rtype.noPackHeld "Comparable" t;pure (.bool (← typeInfo t).comparable)) #[(.agg #[.pointer (some ⟨9,392,none⟩)])]) Q B L=Q (.bool true) B L:=by kernel_rfl

theorem Zyx:Extern.find Tryz.f330=some (Extern.ReflectliteType.method fun t=>do Extern.Rtype.noPackHeld "Comparable" t;pure (.bool (← typeInfo t).comparable)):=by kernel_rfl
theorem Zyw:Extern.find Tryz.f192=some Extern.ReflectliteType.typeOf:=by kernel_rfl

theorem ZCj:Extern.findNext Tryz.f192=none:=by kernel_rfl
theorem ZCk:Extern.findNext Tryz.f330=none:=by kernel_rfl

theorem Zyu (c k:Nat) (hc:c<4) (hk:k<4) (a:Nat→Addr)  (B:Kn) (hE:ErrsB 392 [0,1,2,3] B a):Z1 (pj J) 193 [errv 392 a (c+1),errv 392 a (k+1),.bool true] B (.bool (decide (c+1=k+1))):=by
 refine cB 54 Tryz.func193 (h:=?_)
 refine Za (xA (h:=Zg (Zv (α:=Unit) [1,2] (fun u=>[(0,errv 392 a (c+1))]) [] (fun u=>[]) (fun u Bx=>Bx=B) (fun u=>0) () t1 rfl (rfl) (fun u B1 hle1 hI=>?_))))
 subst hI
 refine Zz [(0,_),(1,_),(2,_)] [] t3 rfl (Zg (Ze (Za (xM (h:=xM (h:=Zq (d:=15) rfl (fun g1=>?_) (fun g1=>by cases g1)))))))
 try simp only [sQ,ne_eq] at g1
 refine xM (h:=xM (h:=Zh (ZqF (a:=a) (c:=(c+1)) (k:=k) hE oz oz rfl rfl Tryz.underlying100 Tryz.underlying392 ZEL Zzr rfl rfl ?_)))
 refine xT (h:=Zb rfl (fun g2=>?_) (fun g2=>?_))
 try simp only [sQ,ne_eq] at g2
 refine Za (xA (h:=Zf (Zj (Zt (ZJ (Zt ?_))))))
 exact eR t1 ⟨Zc (decide_eq_true g2).symm,rfl,rfl⟩
 try simp only [sQ,ne_eq] at g2
 refine wSk (Ze (Za (xM (h:=Zh (ZhT rfl rfl Tryz.underlying328 kr ZBa rfl ?_)))))
 refine xM (h:=xE (h:=xE (h:=xA (h:=xA (h:=Za (xM (h:=xM (h:=Zq (d:=26) rfl (fun g3=>by cases g3) (fun g3=>?_)))))))))
 try simp only [sQ,ne_eq] at g3
 refine xP (h:=xP (h:=xP (h:=xF (h:=Zb (t:=false) rfl (fun h=>Bool.noConfusion h) (fun _=>wSk (Za (xM (h:=Zg (Za (Zh (ZhT rfl rfl Tryz.underlying331 kr ZA9 rfl ?_)))))))))))
 refine xE (h:=xE (h:=Zb rfl (fun g5=>by cases g5) (fun g5=>?_)))
 try simp only [sQ,ne_eq] at g5
 refine Za (Zh (ZhT rfl rfl Tryz.underlying333 kr ZA8 rfl ?_))
 refine xE (h:=xE (h:=Zb rfl (fun g6=>by cases g6) (fun g6=>?_)))
 try simp only [sQ,ne_eq] at g6
 refine Za (xA (h:=Za (xA (h:=Zf (Zt (Zt (ZJ (Zt ?_))))))))
 exact eR t1 ⟨Zc (decide_eq_false g2).symm,rfl,rfl⟩

theorem Zyt (c k:Nat) (hc:c<4) (hk:k<4) (a:Nat→Addr)  (B:Kn) (hE:ErrsB 392 [0,1,2,3] B a):Z1 (pj J) 147 [errv 392 a (c+1),errv 392 a (k+1)] B (.bool (decide (c+1=k+1))):=by
 refine cB 22 Tryz.func147 (h:=?_)
 refine Za (xA (h:=Ze (Za (xM (h:=Zh (Zn6 (tE:=392) (a:=a) (c:=(c+1)) rfl rfl Tryz.underlying100 rfl (xM (h:=Zq (d:=8) rfl (fun g1=>by simp at g1) (fun g1=>?_)))))))))
 refine xM (h:=Zh (Zn6 (tE:=392) (a:=a) (c:=(k+1)) rfl rfl Tryz.underlying100 rfl (xF (h:=Zb rfl (fun g2=>by simp at g2) (fun g2=>?_)))))
 refine wSk (Za (xM (h:=Zh (Zzf (fn:=Tryz.f192) rfl rfl Tryz.func192 rfl rfl ZCj Zyw rfl (ZAm _) (Zh (Zzb (f:=330) (fn:=Tryz.f330) rfl rfl Tryz.func330 rfl rfl ZCk Zyx rfl (ZAn _) ZAo (xA (h:=Za (xM (h:=xM (h:=xM (h:=xR ZDh rfl (Zyu c k oz oz a _ hE) (h:=?_)))))))))))))
 refine xA (h:=Zf ?_)
 exact eR t1 ⟨rfl,rfl,rfl⟩

theorem Zyv (k:Nat) (hk:k<4) (a:Nat→Addr)  (B:Kn) (hE:ErrsB 392 [0,1,2,3] B a):Z1 (pj J) 147 [.nilIface,errv 392 a (k+1)] B (.bool (decide (0=k+1))):=by
 refine cB 22 Tryz.func147 (h:=?_)
 refine Za (xA (h:=Ze (Za (xM (h:=Zh (Zn6 (tE:=392) (a:=a) (c:=0) rfl rfl Tryz.underlying100 rfl (xM (h:=Zq (d:=8) rfl (fun g1=>?_) (fun g1=>by simp at g1)))))))))
 refine xP (h:=xP (h:=xT (h:=Zb (t:=true) rfl (fun _=>Za (xM (h:=xM (h:=Zh (ZqF (a:=a) (c:=0) (k:=k) hE oz oz rfl rfl Tryz.underlying100 Tryz.underlying392 ZEL Zzr rfl rfl ?_))))) (fun h=>Bool.noConfusion h))))
 refine xA (h:=Zf (Zj ?_))
 exact eR t1 ⟨rfl,rfl,rfl⟩

theorem ZoQ (c k:Nat) (hc:c<5) (hk:k<4) (a:Nat→Addr)  (B:Kn) (hE:ErrsB 392 [0,1,2,3] B a):Z1 (pj J) 147 [errv 392 a c,errv 392 a (k+1)] B (.bool (decide (c=k+1))):=by
 cases c with
 | zero=>exact Zyv k hk a B hE
 | succ c=>exact Zyt c k oz hk a B hE

theorem ZgV (c:Nat) (hc:c<5) (a:Nat→Addr)  (B:Kn) (hE:ErrsB 392 [0,1,2,3] B a):Z1 (pj J) 95 [errv 392 a (c)] B (.int .i64 c):=by
 refine cB 22 Tryz.func95 (h:=?_)
 refine Za (xA (h:=Ze (Zg (Za (xM (h:=Zh (Zn6 (tE:=392) (a:=a) (c:=c) rfl rfl Tryz.underlying100 rfl (xA (h:=Zb rfl (fun g0=>?_) (fun g0=>?_))))))))))
 try simp only [sQ,ne_eq] at g0
 refine Za (xA (h:=Zf (Zt (Zj ?_))))
 exact eR t1 ⟨ZH oz,rfl,rfl⟩
 try simp only [sQ,ne_eq] at g0
 refine Za (xM (h:=Zh (Zn rfl rfl Zno rfl ((hE.row 0 (by decide)) _ 0 _ rfl) ?_)))
 refine xR ZvD rfl (ZoQ c 0 om2 om2 a _ hE) (h:=?_)
 refine xA (h:=Zb rfl (fun g1=>?_) (fun g1=>?_))
 try simp only [sQ,ne_eq] at g1
 refine Za (xA (h:=Zf (Zt (Zj ?_))))
 exact eR t1 ⟨ZH oz,rfl,rfl⟩
 try simp only [sQ,ne_eq] at g1
 refine Za (xM (h:=Zh (Zn rfl rfl Zno rfl ((hE.row 1 (by decide)) _ 0 _ rfl) ?_)))
 refine xR ZvD rfl (ZoQ c 1 om2 om2 a _ hE) (h:=?_)
 refine xA (h:=Zb rfl (fun g2=>?_) (fun g2=>?_))
 try simp only [sQ,ne_eq] at g2
 refine Za (xA (h:=Zf (Zt (Zj ?_))))
 exact eR t1 ⟨ZH oz,rfl,rfl⟩
 try simp only [sQ,ne_eq] at g2
 refine Za (xM (h:=Zh (Zn rfl rfl Zno rfl ((hE.row 2 (by decide)) _ 0 _ rfl) ?_)))
 refine xR ZvD rfl (ZoQ c 2 om2 om2 a _ hE) (h:=?_)
 refine xA (h:=Zb rfl (fun g3=>?_) (fun g3=>?_))
 try simp only [sQ,ne_eq] at g3
 refine Za (xA (h:=Zf (Zt (Zj ?_))))
 exact eR t1 ⟨ZH oz,rfl,rfl⟩
 try simp only [sQ,ne_eq] at g3
 refine Za (xM (h:=Zh (Zn rfl rfl Zno rfl ((hE.row 3 (by decide)) _ 0 _ rfl) ?_)))
 refine xR ZvD rfl (ZoQ c 3 om2 om2 a _ hE) (h:=?_)
 refine xA (h:=Zb rfl (fun g4=>?_) (fun g4=>?_))
 try simp only [sQ,ne_eq] at g4
 refine Za (xA (h:=Zf (Zt (Zj ?_))))
 exact eR t1 ⟨ZH oz,rfl,rfl⟩
 try simp only [sQ,ne_eq] at g4
 refine ZK (ZD (Zm (Za (xA (h:=Zf ?_)))))
 exact eR t1 ⟨ZH oz,rfl,rfl⟩

theorem Zth (b o:Nat) (q1 q2 q3:Option Addr) (c1 c2 c3:Nat) (x:DHost) (u ow nm:Str) (rr:Int) (hn:u.length≤2000000) (ho:ow.length≤2000000) (hm:nm.length≤2000000) (a:Nat→Addr)  (B:Kn) (hE:ErrsB 392 [0,1,2,3] B a) (hh:Zam B b o [str x.domain,.slice q1 x.users.length c1,.slice q2 x.folders.length c2,.int .i64 x.queue.next,.slice q3 x.queue.items.length c3]) (hu:SlK B q1 c1 3 ZL x.users) (hf:SlK B q2 c2 5 ZF x.folders):Z1 (pj J) 146 [ptr ⟨b,o,none⟩,str u,str ow,str nm,.int .i64 rr] B (.tuple #[.int .i64 (if ZdO x.users x.folders u ow nm rr=0 then Zb5 (inF ow nm) x.folders else -1),errv 392 a (ZdO x.users x.folders u ow nm rr)]):=by
 refine cB 47 Tryz.func146 (h:=?_)
 have hfn:=hf.len
 have hix:=Zij (inF ow nm) x.folders
 refine Za (xA (h:=xA (h:=Za (xM (h:=xM (h:=xM (h:=xR ZAA rfl (ZwG _ _ _ _ _ _ _ _ x ow nm om2 om2 _ hh hf) (h:=?_))))))))
 refine xA (h:=Ze (Za (xM (h:=ZC (h:=xM (h:=Zq (d:=19) rfl (fun g1=>?_) (fun g1=>?_)))))))
 try simp only [sQ,ne_eq] at g1
 refine xP (h:=xP (h:=xP (h:=xP (h:=xP (h:=xP (h:=xP (h:=xP (h:=xP (h:=xP (h:=xP (h:=xT (h:=Zb (t:=true) rfl (fun _=>Ze (ZW (same _ _) mo kr ⟨rfl,rfl⟩ (fun _ _=>?_))) (fun h=>Bool.noConfusion h)))))))))))))
 refine aT 0 rfl (Z3 fun D=>Zn rfl rfl Zno rfl ((hE.row 0 (by decide)) _ 0 _ rfl) r4) (h:=?_)
 refine aA 1 rfl (h:=aA 2 rfl (h:=Zy kr kr ?_))
 refine Zm (Zf (Zj ?_))
 exact Zqo .ret (.inl rfl) [_,_] t2 ⟨(by rw [show ZdO x.users x.folders u ow nm rr=1 from Zte (by simpa using g1)];rfl),rfl,rfl⟩
 try simp only [sQ,ne_eq] at g1
 refine xM (h:=xM (h:=xM (h:=xNc (h:=xW Za5 (h:=Zh (Zn rfl rfl ZgE rfl (hh _ 2 _ rfl) (xM (h:=?_))))))))
 obtain ⟨w,hw⟩:=Zvq (xs:=x.folders) (i:=(Zb5 (inF ow nm) x.folders)) om om
 obtain ⟨bb3,oo3,rfl⟩:=hf.base hw
 obtain ⟨_,⟨qg4,cg4,qm4,cm4,rfl,hg4,hm4,hb4,hb4b⟩,hc4⟩:=hf.elem hw
 have hg4n:=hg4.len
 have hm4n:=hm4.len
 have hm4s:=ZaN hm4
 refine xIx Tryz.underlying36 ZeO (h:=yL [_,_,_,_,_] Zj5 hc4 0 (h:=xR ZAz rfl (ZzV _ _ _ _ _ _ _ _ x _ _ _ _ u w _ om2 om2 _ hh hu hg4) (h:=?_)))
 refine xN (h:=xF (h:=Zb rfl (fun g3=>?_) (fun g3=>?_)))
 try simp only [sQ,ne_eq] at g3
 refine Ze (ZW (same _ _) mo kr ⟨rfl,rfl⟩ (fun _ _=>?_))
 refine aT 0 rfl (Z3 fun D=>Zn rfl rfl Zno rfl ((hE.row 0 (by decide)) _ 0 _ rfl) r4) (h:=?_)
 refine aA 1 rfl (h:=aA 2 rfl (h:=Zy kr kr ?_))
 refine Zm (Zf (Zj ?_))
 exact Zqo .ret (.inl rfl) [_,_] t2 ⟨(by rw [show ZdO x.users x.folders u ow nm rr=1 from by rw [ZkF oz hw,if_pos (by simpa using g3)]];rfl),rfl,rfl⟩
 try simp only [sQ,ne_eq] at g3
 refine wSk (Ze (Za (xM (h:=xM (h:=xM (h:=xNc (h:=xW Za5 (h:=Zh (Zn rfl rfl ZgE rfl (hh _ 2 _ rfl) (xM (h:=xIx Tryz.underlying36 ZeO (h:=yL [_,_,_,_,_] Zj5 hc4 0 (h:=xM (h:=xR ZAz rfl (ZzV _ _ _ _ _ _ _ _ x _ _ _ _ u w _ om2 om2 _ hh hu hg4) (h:=?_)))))))))))))))
 refine xN (h:=Zb rfl (fun g4=>?_) (fun g4=>?_))
 try simp only [sQ,ne_eq] at g4
 refine Ze (ZW (same _ _) mo kr ⟨rfl,rfl⟩ (fun _ _=>?_))
 refine aT 0 rfl (Z3 fun D=>Zn rfl rfl Zno rfl ((hE.row 1 (by decide)) _ 0 _ rfl) r4) (h:=?_)
 refine aA 1 rfl (h:=aA 2 rfl (h:=Zy kr kr ?_))
 refine Zm (Zf (Zj ?_))
 exact Zqo .ret (.inl rfl) [_,_] t2 ⟨(by rw [show ZdO x.users x.folders u ow nm rr=2 from by rw [ZkF oz hw,if_neg (by simp [g3]),if_pos (by simpa using g4)]];rfl),rfl,rfl⟩
 try simp only [sQ,ne_eq] at g4
 refine wSk (Za (xM (h:=xA (h:=xA (h:=Zf ?_)))))
 exact Zqo .ret (.inl rfl) [_,_] t2 ⟨(by rw [show ZdO x.users x.folders u ow nm rr=0 from by rw [ZkF oz hw,if_neg (by simp [g3]),if_neg (by simp [g4])]];rfl),rfl,rfl⟩

theorem Zis (q:Option Addr) (cp:Nat) (xs:List DFolder) (B:Kn) (hx:SlK B q cp 5 ZF xs):Zu (pj J) 142 [.slice q xs.length cp] B [] (fun v B' Ls=>B'=B∧∃l a c,Ls=[l]∧v = .slice a xs.length c∧ZaM l a c 87 5 (Zai 223 146) xs):=by
 refine cB 22 Tryz.func142 (h:=?_)
 have hxn:=hx.len
 refine Za (xA (h:=Za (xM (h:=xV Tryz.underlying36 (h:=Zh (Zab (m:=0) (c:=xs.length) (by_:=88) [.string ⟨#[]⟩,.string ⟨#[]⟩,.slice none 0 0,.int .i64 0,.slice none 0 0] rfl rfl ZCm Zqk rfl rfl ⟨_,_,rfl,by first | omega | (simp;done) | (simp;omega)⟩ ⟨_,_,rfl,by first | omega | (simp;done) | (simp;omega)⟩ om om (fun b1=>?_)))))))
 have hd1:=ZaM.zeros (b:=b1) (T:=87) (R:=(Zai 223 146)) (d:=(⟨[],[],[],0,[]⟩:DFolder)) (m:=0) (c:=xs.length) (zs:=[.string ⟨#[]⟩,.string ⟨#[]⟩,.slice none 0 0,.int .i64 0,.slice none 0 0]) rfl (⟨_,_,_,_,[],[],rfl,rfl,ZR.nil,ZR.nil,by simp,by simp,by simp,by simp⟩) om
 refine xA (h:=tL1 (Ze (Za (xM (h:=xV Tryz.underlying36 (h:=xM (h:=Zg (Zv (α:=Gh DFolder) [0,2,9,10] (fun g=>[(3,.slice g.a g.xs.length g.c),(11,.int .i64 g.k)]) [0] (fun g=>[g.l]) (fun g Bx=>Bx=B∧g.k≤xs.length∧g.xs=xs.take g.k∧g.xs.length≤g.k∧ZaM g.l g.a g.c 87 5 (Zai 223 146) g.xs) (fun g=>xs.length - g.k) ⟨0,0,(ZP b1 (zrow [.string ⟨#[]⟩,.string ⟨#[]⟩,.slice none 0 0,.int .i64 0,.slice none 0 0] xs.length) 87),(some ⟨b1,0,none⟩),xs.length,[]⟩ t2 rfl (⟨rfl,Nat.zero_le _,by simp,Nat.le_refl _,hd1⟩) (fun g B2 hle2 hI=>?_)))))))))
 obtain ⟨rfl,hk,hxs,hxl,hv⟩:=hI
 refine Zz [(0,_),(2,_),(3,_),(9,_),(10,_),(11,_)] [_] t6 rfl (Za (ZC (h:=Ze (Zb rfl (fun g1=>?_) (fun g1=>?_)))))
 try simp only [sQ,ne_eq] at g1
 refine wSk (Ze (Zg (Za ?_)))
 obtain ⟨w,hw⟩:=ZM (xs:=xs) (i:=g.k) om
 obtain ⟨bb4,oo4,rfl⟩:=hx.base hw
 obtain ⟨_,⟨qg5,cg5,qm5,cm5,rfl,hg5,hm5,hb5,hb5b⟩,hc5⟩:=hx.elem hw
 have hg5n:=hg5.len
 have hm5n:=hm5.len
 have hm5s:=ZaN hm5
 refine xIx Tryz.underlying36 ZeO (h:=yL [_,_,_,_,_] Zj5 hc5 0 (h:=xAl [_,_,_,_,_] Zqk (h:=fun b6=>xS [_,_,_,_,_] 1 [_,_,_,_,_] ZeO (h:=tL2 (Zd (xM (h:=xL [_,_,_,_,_] Zj5 1 (h:=xC ZDl rfl (Zko _ _ _ _ w _ hg5 hm5) (h:=?_)))))))))
 rintro _ B7 _ hle7 ⟨rfl,l7,a7,c7,l7b,a7b,c7b,rfl,rfl,hs7,hs7b⟩
 refine xBs [(0,_)] [_,_,_,_,_] Tryz.underlying36 ZeO Zqk (h:=fun b8=>Zh (Zw3 (R:=(Zai 223 146)) (⟨w.owner,w.name,w.grants,w.next,w.mail⟩) 0 [2,3] rfl rfl hv rfl rfl rfl ZCm ZE1 rfl rfl (ZcX.box 4 rfl) rfl rfl (l7 ++ l7b) (by simp) (⟨_,_,_,_,_,_,rfl,rfl,(hs7.anyK Zaf.any),(hs7b.anyK Zah.any),by first | assumption | omega | (simp;done) | (simp;omega),by first | assumption | omega | (simp;done) | (simp;omega),by first | assumption | omega | (simp;done) | (simp;omega),by first | assumption | omega | (simp;done) | (simp;omega)⟩) om (fun l9 p9 c9 hd9=>?_)))
 refine xA (h:=ZD (Zm (Zd (xD (h:=xM (h:=?_))))))
 exact Zx ⟨g.k+1,0,l9,p9,c9,(g.xs ++ [⟨w.owner,w.name,w.grants,w.next,w.mail⟩])⟩ [0] (by first | omega | (simp only [];omega)) ⟨rfl,by simp only [];omega,by simp only [];rw [ZbP hw,hxs],by simp;omega,hd9⟩ ⟨rfl,rfl,rfl,rfl,rfl,rfl,trivial⟩ rfl
 try simp only [sQ,ne_eq] at g1
 have hxe:g.xs=xs:=by rw [hxs];exact List.take_of_length_le oz
 refine ZA (ZQ (ZB (Zs (Zm (Za (xM (h:=xA (h:=Zf ?_))))))))
 exact Zdh .ret (.inl rfl) [_] [0] rfl ⟨rfl,trivial⟩ ⟨rfl,_,_,_,rfl,by rw [← hxe];rfl,hxe ▸ hv⟩

theorem Zhp (q1 q2 q3:Option Addr) (c1 c2 c3:Nat) (x:DHost) (B:Kn) (hu:SlK B q1 c1 3 ZL x.users) (hf:SlK B q2 c2 5 ZF x.folders) (hi:SlK B q3 c3 4 Zar x.queue.items):Zu (pj J) 93 [.agg #[str x.domain,.slice q1 x.users.length c1,.slice q2 x.folders.length c2,.int .i64 x.queue.next,.slice q3 x.queue.items.length c3]] B [] (fun v B' Ls=>∃q1 c1 q2 c2 q3 c3 l1 l2 l3,Ls=[l1,l2,l3]∧v = .agg #[str x.domain,.slice q1 x.users.length c1,.slice q2 x.folders.length c2,.int .i64 x.queue.next,.slice q3 x.queue.items.length c3]∧ZR Kn.none l1 q1 c1 132 3 ZL x.users∧ZaM l2 q2 c2 87 5 (Zai 223 146) x.folders∧ZaM l3 q3 c3 136 4 (ZbE 9) x.queue.items):=by
 refine cB 16 Tryz.func93 (h:=?_)
 have hun:=hu.len
 have hfn:=hf.len
 have hin:=hi.len
 refine Za (xBx [_,_,_,_,_] (h:=fun b1=>xAl [_,_,_,_,_] Zqq (h:=fun b2=>tL2 (Ze (ZW (keeps _ [0] _) mo kr ⟨Kn.le.refl _,ZaH.refl _ _⟩ (fun _ _=>?_))))))
 refine aW 0 rfl Zjo (h:=aT 1 rfl (ZO fun D B L hI=>Zn rfl rfl lk9 rfl (atL 0 (hI.2.1.trans rfl) rfl rfl) r4) (h:=aW 3 rfl Zcz (h:=aT 4 rfl (ZO fun D B L hI=>Zn rfl rfl ZlN rfl (atL 0 (hI.2.1.trans rfl) rfl rfl) r4) (h:=aW 6 rfl Za5 (h:=aT 7 rfl (ZO fun D B L hI=>Zn rfl rfl ZgE rfl (atL 0 (hI.2.1.trans rfl) rfl rfl) r4) (h:=aW 9 rfl ZfC (h:=aT 10 rfl (ZO fun D B L hI=>ZI [_,_] rfl rfl Zqn rfl (ZbZ 0 (hI.2.1.trans rfl) rfl rfl) r4) (h:=ZV 2 kr rfl kr (ZcP (parts:=[]) [] rfl rfl Tryz.underlying35 Zcv Zf6 rfl rfl rfl rfl rfl (fun b3=>?_))))))))))
 refine ⟨⟨Kn.le.refl _,t1⟩,(ZV 5 kr rfl kr (Zn8 (R:=ZL) 2 rfl (ZR.lit0 (R:=ZL)) rfl rfl rfl ZEw ZE2 rfl rfl rfl hu.rows ZL.one rfl om (fun l4 p4 c4 hv4=>?_)))⟩
 refine ⟨⟨Kn.le.refl _,t1⟩,(ZV 8 kr rfl kr (Zb9 rfl rfl ZDQ rfl (Zis _ _ x.folders _ hf) ?_))⟩
 rintro _ B5 _ hle5 ⟨rfl,l5,a5,c5,rfl,rfl,hs5⟩
 refine ⟨⟨Kn.le.refl _,t1⟩,(ZV 11 kr rfl kr (Zb9 rfl rfl ZDP rfl (Zlp _ _ x.queue _ hi) ?_))⟩
 rintro _ B6 _ hle6 ⟨l6,q6,c6,rfl,rfl,hd6⟩
 replace hv4:=hv4.mono ZL.mono hle6
 refine ⟨⟨hle6,t1⟩,(aT 12 rfl (ZO fun D B L hI=>Zcl (parts:=[(0,_),(1,_),(2,_),(3,_)]) [_,_,_,_,_] [_,_,_,_,_] rfl rfl ZBK Zqq rfl rfl rfl r4) (h:=Zb8 13 kr rfl kr kr kr (Zav [_,_,_,_,_] 1 [_,_,_,_,_] rfl rfl Zq6 rfl rfl rfl rfl rfl rfl rfl rfl ?_)))⟩
 refine Zm (tL5 (Zf ?_))
 exact eN [2,3,4] rfl ⟨⟨_,rfl,.inr ⟨[_,_,_,_,_],ZgD,ZbZ 1 rfl rfl rfl,rfl⟩⟩,trivial⟩ ⟨_,_,_,_,_,_,_,_,_,rfl,rfl,hv4.anyK ZL.any,hs5,hd6⟩

theorem Zrg (n:Int) (B:Kn):Z1 (pj J) 89 [.int .i64 n] B (.bool (decide (0≤n) && decide (n≤99))):=by
 refine cB 9 Tryz.func89 (h:=?_)
 refine Za (xA (h:=Za (xM (h:=Zc9 (h:=xM (h:=Zq (d:=5) rfl (fun g1=>?_) (fun g1=>?_)))))))
 try simp only [sQ,ne_eq] at g1
 refine xM (h:=Zbd (h:=xT (h:=xA (h:=Zf ?_))))
 exact eR t1 ⟨Zc (by rw [Bool.eq_iff_iff];simp;try omega),rfl,rfl⟩
 try simp only [sQ,ne_eq] at g1
 refine xP (h:=xP (h:=xF (h:=xA (h:=Zf ?_))))
 exact eR t1 ⟨Zc (by rw [Bool.eq_iff_iff];simp;try omega),rfl,rfl⟩

theorem Zig (q:Option Addr) (cp:Nat) (xs:List DSpan) (B:Kn) (hs:SlK B q cp 2 ZN xs):Z1 (pj J) 42 [.slice q xs.length cp] B (.bool (Zdq xs)):=by
 refine cB 30 Tryz.func42 (h:=?_)
 have hsn:=hs.len
 refine Za (xA (h:=Ze (Za (xM (h:=xV Tryz.underlying47 (h:=ZC (h:=xM (h:=Zq (d:=8) rfl (fun g1=>?_) (fun g1=>?_)))))))))
 try simp only [sQ,ne_eq] at g1
 refine xP (h:=xP (h:=xP (h:=xT (h:=Zb (t:=true) rfl (fun _=>Za (xA (h:=Zf (Zj ?_)))) (fun h=>Bool.noConfusion h)))))
 exact eR t1 ⟨Zc (by simp only [Zdq];rw [show (decide (1≤xs.length) && decide (xs.length≤6))=false by simp;omega,Bool.and_false]),rfl,rfl⟩
 try simp only [sQ,ne_eq] at g1
 refine xM (h:=xV Tryz.underlying47 (h:=Zc8 (h:=xF (h:=Zb rfl (fun g2=>?_) (fun g2=>?_)))))
 try simp only [sQ,ne_eq] at g2
 refine Za (xA (h:=Zf (Zj ?_)))
 exact eR t1 ⟨Zc (by simp only [Zdq];rw [show (decide (1≤xs.length) && decide (xs.length≤6))=false by simp;omega,Bool.and_false]),rfl,rfl⟩
 try simp only [sQ,ne_eq] at g2
 refine wSk (Ze (Za (xM (h:=xV Tryz.underlying47 (h:=xM (h:=Zg (Zv (α:=Nat) [0,12,13,14] (fun k=>[(15,.int .i64 k)]) [] (fun k=>[]) (fun k Bx=>Bx=B∧k≤xs.length∧∀y,y∈xs.take k→ZeT y=true) (fun k=>xs.length - k) 0 t1 rfl (⟨rfl,Nat.zero_le _,by simp⟩) (fun k B1 hle1 hI=>?_))))))))
 obtain ⟨rfl,hk,hall⟩:=hI
 refine Zz [(0,_),(12,_),(13,_),(14,_),(15,_)] [] t5 rfl (Za (ZC (h:=Ze (Zb rfl (fun g3=>?_) (fun g3=>?_)))))
 try simp only [sQ,ne_eq] at g3
 refine wSk (Ze (Zg (Za ?_)))
 obtain ⟨m,hm⟩:=ZM (xs:=xs) (i:=k) om
 obtain ⟨bb3,oo3,rfl⟩:=hs.base hm
 obtain ⟨_,rfl,hc4⟩:=hs.elem hm
 refine xIx Tryz.underlying47 ZmU (h:=yL [_,_] ZyT hc4 0 (h:=xAl [_,_] ZyU (h:=fun b5=>xS [_,_] 0 [_,_] ZmU (h:=tL1 (Za (xW Zhu (h:=x1 lk3 0 (h:=xR ZEy rfl (Zrg m.low _) (h:=xN (h:=xM (h:=Zq (d:=23) rfl (fun g4=>?_) (fun g4=>?_))))))))))))
 try simp only [sQ,ne_eq] at g4
 refine xP (h:=xP (h:=xP (h:=xP (h:=xT (h:=Zb (t:=true) rfl (fun _=>Za (xA (h:=Zf (Zt (Zj (ZJ (Zt (Zj ?_)))))))) (fun h=>Bool.noConfusion h))))))
 exact eR t1 ⟨Zc (by rw [Zdq,Zb1 hm (by simp only [ZeT];rw [show (decide (0≤m.low) && decide (m.low≤99))=false by simpa using g4,Bool.false_and]),Bool.false_and]),rfl,rfl⟩
 try simp only [sQ,ne_eq] at g4
 refine xW Zht (h:=x1 lk3 0 (h:=xR ZEy rfl (Zrg m.high _) (h:=xN (h:=xF (h:=Zb rfl (fun g5=>?_) (fun g5=>?_))))))
 try simp only [sQ,ne_eq] at g5
 refine Za (xA (h:=Zf (Zt (Zj (ZJ (Zt (Zj ?_)))))))
 exact eR t1 ⟨Zc (by rw [Zdq,Zb1 hm (by simp only [ZeT];rw [show (decide (0≤m.high) && decide (m.high≤99))=false by simpa using g5,Bool.and_false]),Bool.false_and]),rfl,rfl⟩
 try simp only [sQ,ne_eq] at g5
 refine ZK (ZD (Zm (Zd (xD (h:=xM (h:=?_))))))
 exact Zx (k+1) [] so2 ⟨rfl,oz,ZaW hm hall (by simp only [ZeT];rw [show (decide (0≤m.low) && decide (m.low≤99))=true by simpa using g4,show (decide (0≤m.high) && decide (m.high≤99))=true by simpa using g5];rfl)⟩ t5 rfl
 try simp only [sQ,ne_eq] at g3
 refine ZA (ZQ (ZB (Zs (Zm (Za (xA (h:=Zf ?_)))))))
 exact eR t1 ⟨Zc (by rw [Zdq,ZdP (Za0 oz hall),Bool.true_and,Bool.eq_iff_iff];simp;omega),rfl,rfl⟩

theorem Zof (n last:Int) (B:Kn):Z1 (pj J) 100 [.int .i64 n,.int .i64 last] B (.int .i64 (if n=0 then last else n)):=by
 refine cB 9 Tryz.func100 (h:=?_)
 refine Za (xA (h:=Ze (Za (xM (h:=Z2 (h:=Zb rfl (fun g1=>?_) (fun g1=>?_)))))))
 try simp only [sQ,ne_eq] at g1
 refine Za (xM (h:=xA (h:=Zf (Zj ?_))))
 exact eR t1 ⟨congrArg (Value.int .i64) (by rw [if_pos g1]),rfl,rfl⟩
 try simp only [sQ,ne_eq] at g1
 refine wSk (Za (xM (h:=xA (h:=Zf ?_))))
 exact eR t1 ⟨congrArg (Value.int .i64) (by rw [if_neg g1]),rfl,rfl⟩

theorem Zjl (q:Option Addr) (cp:Nat) (xs:List DSpan) (last:Int) (B:Kn) (hs:SlK B q cp 2 ZN xs):Zu (pj J) 47 [.slice q xs.length cp,.int .i64 last] B [] (fun v B' Ls=>Ls=[]∧∃a c,v = .slice a (Zco xs last).length c∧SlK B' a c 1 Z9 (Zco xs last)):=by
 refine cB 67 Tryz.func47 (h:=?_)
 have hsn:=hs.len
 refine Za (xA (h:=Za (xBs [] [] Tryz.underlying58 sz3 zo3 (h:=fun b1=>xA (h:=tL1 (Ze (Za (xM (h:=xR ZCv rfl (Zig _ _ xs _ hs) (h:=xN (h:=xM (h:=Zq (d:=18) rfl (fun g1=>?_) (fun g1=>?_)))))))))))))
 try simp only [sQ,ne_eq] at g1
 refine xP (h:=xP (h:=xT (h:=Zb (t:=true) rfl (fun _=>Za (xM (h:=Zgj 0 rfl (ZR.lit0 (R:=Z9) (w:=1)) Z9.mono om3 (fun B3 hle3 hr3=>?_)))) (fun h=>Bool.noConfusion h))))
 replace hs:=up1 hle3 hs
 have hr3n:=hr3.len
 refine xA (h:=tL1 ?_)
 rw [ZlA (.inl (by simpa using g1))]
 refine Zf (Zj ?_)
 exact eN [] rfl t1 ⟨rfl,_,_,rfl,hr3⟩
 try simp only [sQ,ne_eq] at g1
 refine xM (h:=ZC (h:=xF (h:=Zb rfl (fun g2=>?_) (fun g2=>?_))))
 try simp only [sQ,ne_eq] at g2
 refine Za (xM (h:=Zgj 0 rfl (ZR.lit0 (R:=Z9) (w:=1)) Z9.mono om3 (fun B4 hle4 hr4=>?_)))
 replace hs:=up1 hle4 hs
 have hr4n:=hr4.len
 refine xA (h:=tL1 ?_)
 rw [ZlA (.inr g2)]
 refine Zf (Zj ?_)
 exact eN [] rfl t1 ⟨rfl,_,_,rfl,hr4⟩
 try simp only [sQ,ne_eq] at g2
 have hset:Zdq xs=true:=by simpa using g1
 refine wSk (Za (xM (h:=Zh (ZhR rfl rfl rfl rfl (xA (h:=Za (Zh (ZeR (l:=bitv fun _=>false) rfl rfl ZBf kr (fun b5=>?_)))))))))
 refine tL2 (Ze (Za (xM (h:=xV Tryz.underlying47 (h:=xM (h:=Zg (Zv (α:=Nat × (Nat→Bool)) [0,1,4,5,6,21,25,26] (fun g=>[(27,.int .i64 g.1)]) [1] (fun g=>[ZP b5 (bitv g.2) 177]) (fun g Bx=>Bx=B∧g.1≤xs.length∧g.2=Zic xs (min last 99) g.1) (fun g=>xs.length - g.1) (0,fun _=>false) t1 rfl (⟨rfl,Nat.zero_le _,ZrT _ _⟩) (fun g B6 hle6 hI=>?_))))))))
 obtain ⟨rfl,hk,hF⟩:=hI
 refine Zz [(0,_),(1,_),(4,_),(5,_),(6,_),(21,_),(25,_),(26,_),(27,_)] [_,_] t9 rfl (Za (ZC (h:=Ze (Zb rfl (fun g3=>?_) (fun g3=>?_)))))
 try simp only [sQ,ne_eq] at g3
 refine wSk (Ze (Zg (Za ?_)))
 obtain ⟨m,hm⟩:=ZM (xs:=xs) (i:=g.1) om
 obtain ⟨bb8,oo8,rfl⟩:=hs.base hm
 obtain ⟨_,rfl,hc9⟩:=hs.elem hm
 refine xIx Tryz.underlying47 ZmU (h:=?_)
 have hsp:=Zpj hset m (List.mem_of_getElem? hm)
 simp only [ZeT,Bool.and_eq_true,decide_eq_true_eq] at hsp
 have hlo1:1≤(if m.low=0 then (min last 99) else m.low):=by split <;> omega
 have hhi1:1≤(if m.high=0 then (min last 99) else m.high):=by split <;> omega
 refine yL [_,_] ZyT hc9 0 (h:=xAl [_,_] ZyU (h:=fun b10=>xS [_,_] 2 [_,_] ZmU (h:=tL3 (Ze (ZW (same _ _) mo kr ⟨rfl,rfl⟩ (fun _ _=>?_))))))
 refine aW 0 rfl Zhu (h:=aT 1 rfl (Z3 fun D=>Zn rfl rfl lk3 rfl (atL 2 rfl rfl rfl) r4) (h:=aM 2 rfl (h:=aT 3 rfl (Z3 fun D=>Z5 rfl rfl ZAK rfl (Zof m.low (min last 99) _) r4) (h:=aW 4 rfl Zht (h:=aT 5 rfl (Z3 fun D=>Zn rfl rfl lk3 rfl (atL 2 rfl rfl rfl) r4) (h:=aM 6 rfl (h:=aT 7 rfl (Z3 fun D=>Z5 rfl rfl ZAK rfl (Zof m.high (min last 99) _) r4) (h:=aA 8 rfl (h:=aA 9 rfl (h:=Zy kr kr ?_))))))))))
 refine Zm (Ze (Za (xM (h:=xM (h:=Zc8 (h:=Zb rfl (fun g4=>?_) (fun g4=>?_)))))))
 try simp only [sQ,ne_eq] at g4
 refine Zd (xM (h:=xM (h:=xA (h:=xA (h:=Zm (Za (xM (h:=xA (h:=Zg (Zv (α:=Int × (Nat→Bool)) [0,1,4,5,6,8,9,10,21,25,26,27,28,41] (fun o=>[(11,.int .i64 o.1)]) [1] (fun o=>[ZP b5 (bitv o.2) 177]) (fun o Bx=>Bx=B6∧(if m.high=0 then (min last 99) else m.high)≤o.1∧(o.1≤min (if m.low=0 then (min last 99) else m.low) (min last 99)+1∨o.1=(if m.high=0 then (min last 99) else m.high))∧o.2=Zku g.2 (if m.high=0 then (min last 99) else m.high) o.1) (fun o=>(min (if m.low=0 then (min last 99) else m.low) (min last 99)+1 - o.1).toNat) ((if m.high=0 then (min last 99) else m.high),g.2) t1 rfl (⟨rfl,Int.le_refl _,.inr rfl,Zjr _ _⟩) (fun o B13 hle13 hI=>?_)))))))))))
 obtain ⟨rfl,ho1,ho2,ho3⟩:=hI
 refine Zz [(0,_),(1,_),(4,_),(5,_),(6,_),(8,_),(9,_),(10,_),(11,_),(21,_),(25,_),(26,_),(27,_),(28,_),(41,_)] [_,_,_] t15 rfl (Ze (Za (xM (h:=xM (h:=xM (h:=Zh (ZhR rfl rfl rfl rfl (Zbd (h:=Zb rfl (fun g5=>?_) (fun g5=>?_))))))))))
 try simp only [sQ,ne_eq] at g5
 refine wSk (Ze (Zg (Zd (xM (h:=Zh (ZgJ rfl rfl Tryz.underlying177 sz4 rfl rfl oz oz ?_))))))
 refine Zh (Zn2 1 rfl rfl sz4 rfl rfl rfl oz ?_)
 refine ZD (Zm (Zd (xM (h:=xD (h:=xA (h:=?_))))))
 exact Zx (o.1+1,fun n=>if n=o.1.toNat then true else o.2 n) [0,1,2] so2 ⟨rfl,so,.inl (so),Zjs ho3 oz ho1⟩ t15 rfl
 try simp only [sQ,ne_eq] at g5
 refine ZA (ZQ (ZB (Zs (ZD (Zm (Zd (xD (h:=xM (h:=?_)))))))))
 exact Zx (g.1+1,o.2) [0,1] so2 ⟨rfl,so,ZlJ (a:=(if m.high=0 then (min last 99) else m.high)) (e:=(if m.low=0 then (min last 99) else m.low)) hm rfl rfl oz oz oz (by rw [← hF];exact ho3) oz ho1 oz⟩ t9 rfl
 try simp only [sQ,ne_eq] at g4
 refine wSk (Za (xM (h:=xA (h:=Zg (Zv (α:=Int × (Nat→Bool)) [0,1,4,5,6,8,9,10,21,25,26,27,28,41] (fun o=>[(11,.int .i64 o.1)]) [1] (fun o=>[ZP b5 (bitv o.2) 177]) (fun o Bx=>Bx=B6∧(if m.low=0 then (min last 99) else m.low)≤o.1∧(o.1≤min (if m.high=0 then (min last 99) else m.high) (min last 99)+1∨o.1=(if m.low=0 then (min last 99) else m.low))∧o.2=Zku g.2 (if m.low=0 then (min last 99) else m.low) o.1) (fun o=>(min (if m.high=0 then (min last 99) else m.high) (min last 99)+1 - o.1).toNat) ((if m.low=0 then (min last 99) else m.low),g.2) t1 rfl (⟨rfl,Int.le_refl _,.inr rfl,Zjr _ _⟩) (fun o B14 hle14 hI=>?_))))))
 obtain ⟨rfl,ho1,ho2,ho3⟩:=hI
 refine Zz [(0,_),(1,_),(4,_),(5,_),(6,_),(8,_),(9,_),(10,_),(11,_),(21,_),(25,_),(26,_),(27,_),(28,_),(41,_)] [_,_,_] t15 rfl (Ze (Za (xM (h:=xM (h:=xM (h:=Zh (ZhR rfl rfl rfl rfl (Zbd (h:=Zb rfl (fun g5=>?_) (fun g5=>?_))))))))))
 try simp only [sQ,ne_eq] at g5
 refine wSk (Ze (Zg (Zd (xM (h:=Zh (ZgJ rfl rfl Tryz.underlying177 sz4 rfl rfl oz oz ?_))))))
 refine Zh (Zn2 1 rfl rfl sz4 rfl rfl rfl oz ?_)
 refine ZD (Zm (Zd (xM (h:=xD (h:=xA (h:=?_))))))
 exact Zx (o.1+1,fun n=>if n=o.1.toNat then true else o.2 n) [0,1,2] so2 ⟨rfl,so,.inl (so),Zjs ho3 oz ho1⟩ t15 rfl
 try simp only [sQ,ne_eq] at g5
 refine ZA (ZQ (ZB (Zs (ZD (Zm (Zd (xD (h:=xM (h:=?_)))))))))
 exact Zx (g.1+1,o.2) [0,1] so2 ⟨rfl,so,ZlJ (a:=(if m.low=0 then (min last 99) else m.low)) (e:=(if m.high=0 then (min last 99) else m.high)) hm rfl rfl oz oz oz (by rw [← hF];exact ho3) oz ho1 oz⟩ t9 rfl
 try simp only [sQ,ne_eq] at g3
 have hF2:g.2=Zic xs (min last 99) xs.length:=by rw [hF,show g.1=xs.length from by omega]
 refine ZA (ZQ (ZB (Zs (Zm (Ze (Za (Zh (Zt0 1 rfl rfl ZB3 rfl rfl (xM (h:=Zg (Zv (α:=Gh Int) [0,1,4,6,21,25,26,27,28,55] (fun h=>[(5,.slice h.a h.xs.length h.c),(56,.int .i64 h.k)]) [0] (fun h=>[h.l]) (fun h Bx=>Bx=B6∧h.k≤100∧h.xs.length≤h.k∧h.xs=ZcV xs (min last 99) (min (h.k - 1) (min last 99).toNat)∧ZR Bx h.l h.a h.c 3 1 Z9 h.xs) (fun h=>100 - h.k) ⟨0,0,_,_,_,[]⟩ t2 rfl (⟨rfl,Nat.zero_le _,Nat.le_refl _,by rw [show min (0 - 1) (min last 99).toNat=0 from by omega];rfl,.lit0⟩) (fun h B15 hle15 hI=>?_))))))))))))
 obtain ⟨rfl,hk2,hgl,hnt,hv⟩:=hI
 refine Zz [(0,_),(1,_),(4,_),(5,_),(6,_),(21,_),(25,_),(26,_),(27,_),(28,_),(55,_),(56,_)] [_,_] t12 rfl (Za (ZC (h:=Ze (Zb rfl (fun g6=>?_) (fun g6=>?_)))))
 try simp only [sQ,ne_eq] at g6
 refine wSk (Ze (Zg (Za (xM (h:=Zh (Zt1 rfl rfl Tryz.underlying177 lk4 sz4 rfl rfl oz oz oz ?_))))))
 refine xA (h:=xA (h:=Za (xM (h:=Zb rfl (fun g7=>?_) (fun g7=>?_)))))
 try simp only [sQ,ne_eq] at g7
 refine Zd (xM (h:=xM (h:=xBs [(0,_)] [_] Tryz.underlying58 sz3 zo3 (h:=fun b16=>Zh (ZkZ (z:=(↑h.k:Int)) (R:=Z9) 0 rfl hv rfl rfl rfl ZCl ZBH rfl rfl (ZcX.box 2 rfl) rfl rfl (rfl) om (fun l17 p17 c17 hv17=>?_))))))
 refine xA (h:=ZD (Zm (Zd (xD (h:=xM (h:=?_))))))
 exact Zx ⟨h.k+1,0,l17,p17,c17,(h.xs ++ [(↑h.k:Int)])⟩ [0,1] so2 ⟨rfl,so,by simp;omega,by simp only [];rw [Nat.add_sub_cancel,ZuX (by rw [← hF2];simpa using g7),hnt],hv17⟩ t12 rfl
 try simp only [sQ,ne_eq] at g7
 refine ZK (ZD (Zm (Zd (xD (h:=xM (h:=?_))))))
 exact Zx ⟨h.k+1,0,h.l,h.a,h.c,h.xs⟩ [0,1] so2 ⟨rfl,so,so,by simp only [];rw [Nat.add_sub_cancel,ZxH (by rw [← hF2];simpa using g7),hnt],hv⟩ t12 rfl
 try simp only [sQ,ne_eq] at g6
 refine ZA (ZQ (ZB (Zs (Zm (Za (xM (h:=Zgj 0 rfl hv Z9.mono om3 (fun B18 hle18 hr18=>?_))))))))
 have hr18n:=hr18.len
 refine xA (h:=tL2 ?_)
 have hne:Zco xs last=h.xs:=by rw [Zja hset,hnt,show min (h.k - 1) (min last 99).toNat=(min last 99).toNat from by omega]
 rw [hne]
 refine Zf ?_
 exact eN [] rfl t1 ⟨rfl,_,_,rfl,hr18⟩

theorem ZqO (hJ:Joins Tryz.prog J) (ba b:Nat) (q1 q2 q3:Option Addr) (c1 c2 c3:Nat) (x:DHost) (l1 l2 l3:Cells) (u o n:Str) (r:Int) (f:FuncId) (cap:Array Value) (R:DHost) (kk:Nat) (he:enters Tryz.prog f=true) (hul:u.length≤2000000) (hol:o.length≤2000000) (hnl:n.length≤2000000) (hn1:x.users.length≤2000000) (hn2:x.folders.length≤2000000) (be:Nat) (qe:Option Addr) (ce:Nat) (le:Cells) (ys YS:List Int) (hyl:ys.length≤2000000) (a:Nat→Addr) (B:Kn) (hE:ErrsB 392 [0,1,2,3] B a) (hc1:Zam B ba 0 [str o,str n,str u,ptr ⟨b,0,none⟩]) (hu:ZR Kn.none l1 q1 c1 132 3 ZL x.users) (hf:ZaM l2 q2 c2 87 5 (Zai 223 146) x.folders) (hi:ZaM l3 q3 c3 136 4 (ZbE 9) x.queue.items) (hy:ZR Kn.none le qe ce 3 1 Z9 ys) (hw:ZdO x.users x.folders u o n 2=0→ZdO x.users x.folders u o n r=0→∀(B2:Kn),B.le B2→Zu (pj J) f (ptr ⟨b,2,none⟩ :: .int .i64 (if ZdO x.users x.folders u o n r=0 then Zb5 (inF o n) x.folders else -1) :: cap.toList) B2 [ZP b [.int .i32 1,.int .u32 0,str x.domain,.slice q1 x.users.length c1,.slice q2 x.folders.length c2,.int .i64 x.queue.next,.slice q3 x.queue.items.length c3] 163,l1,l2,l3,ZP be [.slice qe ys.length ce] 58,le] (fun v B' Ls=>∃q1' c1' q2' c2' q3' c3' l1' l2' l3' qe' ce' le',Ls=[ZP b [.int .i32 1,.int .u32 0,str R.domain,.slice q1' R.users.length c1',.slice q2' R.folders.length c2',.int .i64 R.queue.next,.slice q3' R.queue.items.length c3'] 163,l1',l2',l3',ZP be [.slice qe' (YS).length ce'] 58,le']∧v=errv 392 a (kk)∧ZR Kn.none l1' q1' c1' 132 3 ZL R.users∧ZaM l2' q2' c2' 87 5 (Zai 223 146) R.folders∧ZaM l3' q3' c3' 136 4 (ZbE 9) R.queue.items∧ZR Kn.none le' qe' ce' 3 1 Z9 (YS))):Zu (pj J) 94 [ptr ⟨ba,0,none⟩,.int .i64 r,.func (.func f) #[] cap] B [ZP b [.int .i32 0,.int .u32 0,str x.domain,.slice q1 x.users.length c1,.slice q2 x.folders.length c2,.int .i64 x.queue.next,.slice q3 x.queue.items.length c3] 163,l1,l2,l3,ZP be [.slice qe ys.length ce] 58,le] (fun v B' Ls=>∃q1' c1' q2' c2' q3' c3' l1' l2' l3' qe' ce' le',Ls=[ZP b [.int .i32 0,.int .u32 0,str (usX x u o n r R x).domain,.slice q1' (usX x u o n r R x).users.length c1',.slice q2' (usX x u o n r R x).folders.length c2',.int .i64 (usX x u o n r R x).queue.next,.slice q3' (usX x u o n r R x).queue.items.length c3'] 163,l1',l2',l3',ZP be [.slice qe' (usX x u o n r YS ys).length ce'] 58,le']∧v=errv 392 a (usN x u o n r kk)∧ZR Kn.none l1' q1' c1' 132 3 ZL (usX x u o n r R x).users∧ZaM l2' q2' c2' 87 5 (Zai 223 146) (usX x u o n r R x).folders∧ZaM l3' q3' c3' 136 4 (ZbE 9) (usX x u o n r R x).queue.items∧ZR Kn.none le' qe' ce' 3 1 Z9 (usX x u o n r YS ys)):=by
 refine ZhH (P:=pj J) 88 Tryz.func94 rfl rfl (Nat.le_of_ble_eq_true rfl) ?_
 intro X kind c cs F T0 hk hke hA hn0 hT0
 let CC:Cx (pj J):=⟨X,fb 94 kind,c :: cs,F,hke⟩
 show CC.X.R (Go.Conc.G (fat CC.b T0 [] _) CC.cs) B (List.flatten [ZP b [.int .i32 0,.int .u32 0,str x.domain,.slice q1 x.users.length c1,.slice q2 x.folders.length c2,.int .i64 x.queue.next,.slice q3 x.queue.items.length c3] 163,l1,l2,l3,ZP be [.slice qe ys.length ce] 58,le] ++ CC.F)
 refine Zbl (C:=CC) (ZaD (C:=CC) (Zch (C:=CC) (i:=0) (todo:=[]) rfl hn0 hT0 (Zh (ZbF rfl rfl rfl (fun T1 hn1 hT1=>ZY (C:=CC) (Zbl (C:=CC) (ZaD (C:=CC) (Zch (C:=CC) (i:=0) (todo:=[1,2,3,4,5,6]) rfl hn1 hT1 (Zh (Za9 rfl rfl rfl (fun T2 hn2 hT2=>Zch (C:=CC) (i:=1) (todo:=[2,3,4,5,6]) rfl hn2 hT2 (Zh (ZaF rfl rfl rfl (fun T3 hn3 hT3=>Zch (C:=CC) (i:=2) (todo:=[3,4,5,6]) rfl hn3 hT3 (Zh (Zac rfl rfl Ze4 rfl (fun T4 hn4 hT4=>Zch (C:=CC) (i:=3) (todo:=[4,5,6]) rfl hn4 hT4 (Zh (Zn rfl rfl ZlO rfl (hc1 _ 3 _ rfl) (fun T5 hn5 hT5=>Zch (C:=CC) (i:=4) (todo:=[5,6]) rfl hn5 hT5 (Zh (ZaF rfl rfl rfl (fun T6 hn6 hT6=>Zch (C:=CC) (i:=5) (todo:=[6]) rfl hn6 hT6 (Zh (Zac rfl rfl ZsC rfl (fun T7 hn7 hT7=>Zch (C:=CC) (i:=6) (todo:=[]) rfl hn7 hT7 (Zh (Zbx [0] rfl rfl rfl rfl ZDO rfl (ZBY hJ ZuS Zks Zkr ZDi) ?_))))))))))))))))))))))))))))
 rintro _ B1 _ hle1 ⟨rfl,rfl,rfl⟩
 intro T8 hn8 hT8
 refine ZY (C:=CC) (ZFZ (C:=CC) [_,_,_,_,_,_] rfl (Zbl (C:=CC) (ZaD (C:=CC) (Zch (C:=CC) (i:=0) (todo:=[1,2,3,4,5,6]) rfl hn8 hT8 (Zh (Za9 rfl rfl rfl (fun T9 hn9 hT9=>Zch (C:=CC) (i:=1) (todo:=[2,3,4,5,6]) rfl hn9 hT9 (Zh (ZaF rfl rfl rfl (fun T10 hn10 hT10=>Zch (C:=CC) (i:=2) (todo:=[3,4,5,6]) rfl hn10 hT10 (Zh (Zac rfl rfl Ze4 rfl (fun T11 hn11 hT11=>Zch (C:=CC) (i:=3) (todo:=[4,5,6]) rfl hn11 hT11 (Zh (Zn rfl rfl ZlO rfl (hc1 _ 3 _ rfl) (fun T12 hn12 hT12=>Zch (C:=CC) (i:=4) (todo:=[5,6]) rfl hn12 hT12 (Zh (ZaF rfl rfl rfl (fun T13 hn13 hT13=>Zch (C:=CC) (i:=5) (todo:=[6]) rfl hn13 hT13 (Zh (Zac rfl rfl ZsC rfl (fun T14 hn14 hT14=>Zp8 hke rfl hT14 rfl (ZY (C:=CC) (Zmc (X:=X) (av:=[ptr ⟨b,0,none⟩]) (Post:=(fun v B' Ls=>∃q1' c1' q2' c2' q3' c3' l1' l2' l3' qe' ce' le',Ls=[ZP b [.int .i32 0,.int .u32 0,str (usX x u o n r R x).domain,.slice q1' (usX x u o n r R x).users.length c1',.slice q2' (usX x u o n r R x).folders.length c2',.int .i64 (usX x u o n r R x).queue.next,.slice q3' (usX x u o n r R x).queue.items.length c3'] 163,l1',l2',l3',ZP be [.slice qe' (usX x u o n r YS ys).length ce'] 58,le']∧v=errv 392 a (usN x u o n r kk)∧ZR Kn.none l1' q1' c1' 132 3 ZL (usX x u o n r R x).users∧ZaM l2' q2' c2' 87 5 (Zai 223 146) (usX x u o n r R x).folders∧ZaM l3' q3' c3' 136 4 (ZbE 9) (usX x u o n r R x).queue.items∧ZR Kn.none le' qe' ce' 3 1 Z9 (usX x u o n r YS ys))) Tryz.func94 hk hke Tryz.func145 kr rfl hn14 hT14 hA ?_))))))))))))))))))))))))
 refine Ze (Ze (ZW (same _ _) mo kr ⟨rfl,rfl⟩ (fun _ _=>?_)))
 refine aM 0 rfl (h:=aNc 1 rfl (h:=aW 2 rfl Ze4 (h:=aT 3 rfl (Z3 fun D=>Zn rfl rfl ZlO rfl (hc1 _ 3 _ rfl) r4) (h:=aNc 4 rfl (h:=aW 5 rfl ZgZ (h:=aM 6 rfl (h:=aNc 7 rfl (h:=aW 8 rfl ZsB (h:=aT 9 rfl (Z3 fun D=>Zn rfl rfl lk9 rfl (hc1 _ 2 _ rfl) r4) (h:=aM 10 rfl (h:=aNc 11 rfl (h:=aW 12 rfl Zkq (h:=aW 13 rfl ZsE (h:=aT 14 rfl (Z3 fun D=>Zn rfl rfl lk9 rfl (hc1 _ 0 _ rfl) r4) (h:=aM 15 rfl (h:=aNc 16 rfl (h:=aW 17 rfl Zkq (h:=aW 18 rfl ZsD (h:=aT 19 rfl (Z3 fun D=>Zn rfl rfl lk9 rfl (hc1 _ 1 _ rfl) r4) (h:=aT 20 rfl (Z3 fun D=>Zn3 [0,1,2,3] rfl rfl rfl rfl rfl ZAD rfl (Z1.borrowL fun hm2=>Zth _ _ _ _ _ _ _ _ x u o n 2 om2 om2 om2 a _ (hE.mono (Kn.le_add _ _)) (Zam.drop2 (ZEM 0 rfl hm2)) (hu.lendK ZL.any 1 rfl hm2 om) (hf.lendK Zai.known ZF.mono 2 rfl hm2 om)) r4) (h:=?_)))))))))))))))))))))
 refine aM 21 rfl (h:=aE 22 rfl (h:=aE 23 rfl (h:=aA 24 rfl (h:=aA 25 rfl (h:=Zy kr kr ?_)))))
 refine Zm (tL6 (Za (xM (h:=Zh (Zwb (tE:=392) (a:=a) (c:=(ZdO x.users x.folders u o n 2)) rfl rfl Tryz.underlying100 rfl (Zb rfl (fun g1=>?_) (fun g1=>?_)))))))
 try simp only [sQ,ne_eq] at g1
 refine Za (xM (h:=xA (h:=Zf (Zj ?_))))
 obtain ⟨e1,e2⟩:=Zwl (x:=x) (u:=u) (o:=o) (n:=n) (r:=r) oz kk
 show _∧_
 refine ZCo (.inl rfl) [_] [0,1,2,3,4,5] rfl (fun _ _=>t1) ((ZmP hJ ZuS Zks ZB2 Zkr ZyG).frame1.mono ?_)
 rintro _ _ _ _ ⟨_,⟨rfl,_,rfl⟩,rfl⟩
 rw [e1,e2,e2]
 exact ⟨_,_,_,_,_,_,_,_,_,_,_,_,rfl,rfl,hu,hf,hi,hy⟩
 try simp only [sQ,ne_eq] at g1
 have h2:ZdO x.users x.folders u o n 2=0:=by omega
 refine wSk (Ze (ZW (same _ _) mo kr ⟨rfl,rfl⟩ (fun _ _=>?_)))
 refine aM 0 rfl (h:=aNc 1 rfl (h:=aW 2 rfl Ze4 (h:=aT 3 rfl (Z3 fun D=>Zn rfl rfl ZlO rfl (hc1 _ 3 _ rfl) r4) (h:=aNc 4 rfl (h:=aW 5 rfl ZgZ (h:=aM 6 rfl (h:=aNc 7 rfl (h:=aW 8 rfl ZsB (h:=aT 9 rfl (Z3 fun D=>Zn rfl rfl lk9 rfl (hc1 _ 2 _ rfl) r4) (h:=aM 10 rfl (h:=aNc 11 rfl (h:=aW 12 rfl Zkq (h:=aW 13 rfl ZsE (h:=aT 14 rfl (Z3 fun D=>Zn rfl rfl lk9 rfl (hc1 _ 0 _ rfl) r4) (h:=aM 15 rfl (h:=aNc 16 rfl (h:=aW 17 rfl Zkq (h:=aW 18 rfl ZsD (h:=aT 19 rfl (Z3 fun D=>Zn rfl rfl lk9 rfl (hc1 _ 1 _ rfl) r4) (h:=aM 20 rfl (h:=aT 21 rfl (Z3 fun D=>Zn3 [0,1,2,3] rfl rfl rfl rfl rfl ZAD rfl (Z1.borrowL fun hm3=>Zth _ _ _ _ _ _ _ _ x u o n r om2 om2 om2 a _ (hE.mono (Kn.le_add _ _)) (Zam.drop2 (ZEM 0 rfl hm3)) (hu.lendK ZL.any 1 rfl hm3 om) (hf.lendK Zai.known ZF.mono 2 rfl hm3 om)) r4) (h:=?_))))))))))))))))))))))
 refine aM 22 rfl (h:=aE 23 rfl (h:=aE 24 rfl (h:=aA 25 rfl (h:=aA 26 rfl (h:=Zy kr kr ?_)))))
 refine Zm (Ze (Za (xM (h:=Zh (Zwb (tE:=392) (a:=a) (c:=(ZdO x.users x.folders u o n r)) rfl rfl Tryz.underlying100 rfl (Zb rfl (fun g2=>?_) (fun g2=>?_)))))))
 try simp only [sQ,ne_eq] at g2
 refine Za (xM (h:=xA (h:=Zf (Zj ?_))))
 obtain ⟨e1,e2⟩:=Zzl (x:=x) (u:=u) (o:=o) (n:=n) (r:=r) h2 oz kk
 show _∧_
 refine ZCo (.inl rfl) [_] [0,1,2,3,4,5] rfl (fun _ _=>t1) ((ZmP hJ ZuS Zks ZB2 Zkr ZyG).frame1.mono ?_)
 rintro _ _ _ _ ⟨_,⟨rfl,_,rfl⟩,rfl⟩
 rw [e1,e2,e2]
 exact ⟨_,_,_,_,_,_,_,_,_,_,_,_,rfl,rfl,hu,hf,hi,hy⟩
 try simp only [sQ,ne_eq] at g2
 have hr:ZdO x.users x.folders u o n r=0:=by omega
 refine ZK ?_
 refine Zm ?_
 refine Za ?_
 refine Zh (Za9 rfl rfl rfl ?_)
 refine Zh (Za9 rfl rfl rfl ?_)
 refine Zh (ZaF rfl rfl rfl ?_)
 refine Zh (Zac rfl rfl Ze4 rfl ?_)
 refine Zh (Zn rfl rfl ZlO rfl (hc1 _ 3 _ rfl) ?_)
 refine Zh (ZaF rfl rfl rfl ?_)
 refine Zh (Zac rfl rfl ZgZ rfl ?_)
 refine Zh (Za9 rfl rfl rfl ?_)
 refine Zh (Zw1 [0,1,2,3,4,5] rfl rfl rfl rfl he rfl rfl (hw h2 hr _ (Kn.le.refl _)) ?_)
 rintro _ B4 _ hle4 ⟨q14,c14,q24,c24,q34,c34,l14,l24,l34,qe4,ce4,le4,rfl,rfl,hu4,hf4,hi4,hy4⟩
 refine xA (h:=tL6 (Zf ?_))
 obtain ⟨e1,e2⟩:=Zwk (x:=x) (u:=u) (o:=o) (n:=n) (r:=r) h2 hr kk
 show _∧_
 refine ZCo (.inl rfl) [_] [0,1,2,3,4,5] rfl (fun _ _=>t1) ((ZmP hJ ZuS Zks ZB2 Zkr ZyG).frame1.mono ?_)
 rintro _ _ _ _ ⟨_,⟨rfl,_,rfl⟩,rfl⟩
 rw [e1,e2,e2]
 exact ⟨_,_,_,_,_,_,_,_,_,_,_,_,rfl,rfl,hu4,hf4,hi4,hy4⟩

theorem ZmY (q1 q2 q3:Option Addr) (c1 c2 c3:Nat) (x:DHost) (u o n:Str) (hul:u.length≤2000000) (hol:o.length≤2000000) (hnl:n.length≤2000000) (ar:Bool) (r:Int) (f:FuncId) (cap:Array Value) (R:DHost) (kk:Nat) (hk:kk<5) (he:enters Tryz.prog f=true) (hJ:Joins Tryz.prog J) (be:Nat) (qe:Option Addr) (ce:Nat) (le:Cells) (ys YS:List Int) (hyl:ys.length≤2000000) (hd:x.domain.length≤2000000) (a:Nat→Addr) (B:Kn) (hE:ErrsB 392 [0,1,2,3] B a) (hu:SlK B q1 c1 3 ZL x.users) (hf:SlK B q2 c2 5 ZF x.folders) (hi:SlK B q3 c3 4 Zar x.queue.items) (hy:ZR Kn.none le qe ce 3 1 Z9 ys) (hw:ar=true→ZaB x=true→ZdO x.users x.folders u o n 2=0→ZdO x.users x.folders u o n r=0→∀(B2:Kn) (b:Nat) (q1 q2 q3:Option Addr) (c1 c2 c3:Nat) (l1 l2 l3:Cells),B.le B2→ZR Kn.none l1 q1 c1 132 3 ZL x.users→ZaM l2 q2 c2 87 5 (Zai 223 146) x.folders→ZaM l3 q3 c3 136 4 (ZbE 9) x.queue.items→Zu (pj J) f (ptr ⟨b,2,none⟩ :: .int .i64 (if ZdO x.users x.folders u o n r=0 then Zb5 (inF o n) x.folders else -1) :: cap.toList) B2 [ZP b [.int .i32 1,.int .u32 0,str x.domain,.slice q1 x.users.length c1,.slice q2 x.folders.length c2,.int .i64 x.queue.next,.slice q3 x.queue.items.length c3] 163,l1,l2,l3,ZP be [.slice qe ys.length ce] 58,le] (fun v B' Ls=>∃q1' c1' q2' c2' q3' c3' l1' l2' l3' qe' ce' le',Ls=[ZP b [.int .i32 1,.int .u32 0,str R.domain,.slice q1' R.users.length c1',.slice q2' R.folders.length c2',.int .i64 R.queue.next,.slice q3' R.queue.items.length c3'] 163,l1',l2',l3',ZP be [.slice qe' (YS).length ce'] 58,le']∧v=errv 392 a (kk)∧ZR Kn.none l1' q1' c1' 132 3 ZL R.users∧ZaM l2' q2' c2' 87 5 (Zai 223 146) R.folders∧ZaM l3' q3' c3' 136 4 (ZbE 9) R.queue.items∧ZR Kn.none le' qe' ce' 3 1 Z9 (YS))):Zu (pj J) 44 [.agg #[str x.domain,.slice q1 x.users.length c1,.slice q2 x.folders.length c2,.int .i64 x.queue.next,.slice q3 x.queue.items.length c3],.agg #[str u,str o,str n],.bool ar,.int .i64 r,.func (.func f) #[] cap] B [ZP be [.slice qe ys.length ce] 58,le] (fun v B' Ls=>∃(Y:DHost) (d:Int) (YY:List Int),∃q1 c1 q2 c2 q3 c3 l1 l2 l3 qe' ce' le',(Y,d,YY)=(if ar=true∧ZaB x=true then (usX x u o n r R x,(usN x u o n r kk:Int),usX x u o n r YS ys) else (Zox,5,ys))∧Ls=[ZP be [.slice qe' YY.length ce'] 58,le',l1,l2,l3]∧v = .tuple #[.agg #[str Y.domain,.slice q1 Y.users.length c1,.slice q2 Y.folders.length c2,.int .i64 Y.queue.next,.slice q3 Y.queue.items.length c3],.int .i64 d]∧ZR Kn.none l1 q1 c1 132 3 ZL Y.users∧ZaM l2 q2 c2 87 5 (Zai 223 146) Y.folders∧ZaM l3 q3 c3 136 4 (ZbE 9) Y.queue.items∧ZR Kn.none le' qe' ce' 3 1 Z9 YY):=by
 refine Zdy 44 Tryz.func44 rfl rfl rfl (Nat.le_of_ble_eq_true rfl) ?_
 have hun:=hu.len
 have hfn:=hf.len
 have hin:=hi.len
 have hus:=Zzm (x:=x) (u:=u) (o:=o) (n:=n) (r:=r) hk
 refine Za (xBx [_,_,_,_,_] (h:=fun b1=>xBx [_,_,_] (h:=fun b2=>xAl [_,_,_,_,_] Zqq (h:=fun b3=>xA (h:=tL5 (Ze (Za (xM (h:=xN (h:=xM (h:=Zq (d:=16) rfl (fun g1=>?_) (fun g1=>?_))))))))))))
 try simp only [sQ,ne_eq] at g1
 refine xP (h:=xP (h:=xP (h:=xT (h:=Zzg [[],[],[]] rfl (Zb (t:=true) rfl (fun _=>Za (xB [] [_,_,_,_,_] [_,_,_,_,_] ZBK Zqq (h:=xS [_,_,_,_,_] 4 [_,_,_,_,_] Zq6 (h:=xA (h:=tL8 (Zf (Zj ?_))))))) (fun h=>Bool.noConfusion h))))))
 exact Zdh .ret (.inl rfl) [_,_] [0,1,5,6,7] rfl ⟨⟨_,rfl,.inr ⟨[_,_,_,_,_],ZgD,ZbZ 4 rfl rfl rfl,rfl⟩⟩,rfl,trivial⟩ ⟨Zox,5,ys,none,0,none,0,none,0,[],[],[],qe,ce,le,by rw [if_neg (by simp [g1])],rfl,rfl,ZR.nil,ZaM.nil,ZaM.nil,hy⟩
 try simp only [sQ,ne_eq] at g1
 refine xL [_,_,_,_,_] ZgD 2 (h:=xQ ZFi rfl (ZnA hJ _ _ _ _ _ _ x om2 _ hu hf hi) (h:=?_))
 intro vv Bv hlev
 rintro rfl
 replace hu:=hu.mono ZL.mono hlev
 replace hf:=hf.mono ZF.mono hlev
 replace hi:=hi.mono Zar.mono hlev
 replace hy:=hy.mono Z9.mono hlev
 replace hE:=hE.mono hlev
 refine xN (h:=xF (h:=Zb rfl (fun g2=>?_) (fun g2=>?_)))
 try simp only [sQ,ne_eq] at g2
 refine Zzg [[],[],[]] rfl (Za (xB [] [_,_,_,_,_] [_,_,_,_,_] ZBK Zqq (h:=xS [_,_,_,_,_] 4 [_,_,_,_,_] Zq6 (h:=xA (h:=tL8 (Zf (Zj ?_)))))))
 exact Zdh .ret (.inl rfl) [_,_] [0,1,5,6,7] rfl ⟨⟨_,rfl,.inr ⟨[_,_,_,_,_],ZgD,ZbZ 4 rfl rfl rfl,rfl⟩⟩,rfl,trivial⟩ ⟨Zox,5,ys,none,0,none,0,none,0,[],[],[],qe,ce,le,by rw [if_neg (by simp [g2])],rfl,rfl,ZR.nil,ZaM.nil,ZaM.nil,hy⟩
 try simp only [sQ,ne_eq] at g2
 refine wSk (Ze (ZW (keeps _ [2,3] _) mo kr ⟨Kn.le.refl _,ZaH.refl _ _⟩ (fun _ _=>?_)))
 refine aW 0 rfl Zst (h:=aT 1 rfl (ZO fun D B L hI=>Zn rfl rfl lk9 rfl (atL 3 (hI.2.2.1.trans rfl) rfl rfl) r4) (h:=aW 2 rfl Zss (h:=aT 3 rfl (ZO fun D B L hI=>Zn rfl rfl lk9 rfl (atL 3 (hI.2.2.1.trans rfl) rfl rfl) r4) (h:=aT 4 rfl (ZO fun D B L hI=>Zcl (parts:=[(0,_),(1,_)]) [_,_] [_,_] rfl rfl ZBT ZBg rfl rfl rfl r4) (h:=aW 5 rfl ZoM (h:=aT 6 rfl (ZO fun D B L hI=>Zn rfl rfl lk9 rfl (atL 3 (hI.2.2.1.trans rfl) rfl rfl) r4) (h:=aT 7 rfl (ZO fun D B L hI=>ZI [_,_,_,_,_] rfl rfl ZgD rfl (ZbZ 2 (hI.2.1.trans rfl) rfl rfl) r4) (h:=ZkL [8,12] kr kr kr ⟨?_,?_⟩))))))))
 refine (Zb9 rfl rfl ZEx rfl (Zhp _ _ _ _ _ _ x _ hu hf hi) ?_)
 rintro _ Bc _ hlec ⟨q1c,c1c,q2c,c2c,q3c,c3c,l1c,l2c,l3c,rfl,rfl,huc,hfc,hic⟩
 replace hu:=hu.mono ZL.mono hlec
 replace hf:=hf.mono ZF.mono hlec
 replace hi:=hi.mono Zar.mono hlec
 replace hy:=hy.mono Z9.mono hlec
 replace hE:=hE.mono hlec
 refine ⟨⟨hlec,t2⟩,(aT 9 rfl (ZO fun D B L hI=>Zcl (parts:=[(1,_)]) [_,_,_,_,_,_,_] [_,_,_,_,_,_,_] rfl rfl ZzG ZyZ rfl rfl rfl r4) (h:=ZkL [10,12] kr kr kr ⟨?_,?_⟩))⟩
 refine (ZqJ (l:=[_,_,_,_,_,_,_]) rfl rfl rfl rfl (fun b6=>⟨⟨hlec,t2⟩,(aT 11 rfl (ZO fun D B L hI=>Zcl (parts:=[(0,_),(1,_),(2,_)]) [_,_,_,_] [_,_,_,_] rfl rfl Zxt ZoZ rfl rfl rfl r4) (h:=ZV 12 kr rfl kr (ZeR (l:=[_,_,_,_]) rfl rfl ZoZ rfl (fun b7=>?_))))⟩))
 refine ⟨⟨hlec,t2⟩,(Zb8 13 kr rfl kr kr kr (Zav [_,_,_,_] 9 [_,_,_,_] rfl rfl Zxi rfl rfl rfl rfl rfl rfl rfl rfl ?_))⟩
 refine Zm (ZtG (ZqB 9 rfl (fun B8 hle8 hpm8=>?_)))
 have hc8:=ZbA hpm8
 replace hu:=hu.mono ZL.mono hle8
 replace hf:=hf.mono ZF.mono hle8
 replace hi:=hi.mono Zar.mono hle8
 replace hy:=hy.mono Z9.mono hle8
 replace huc:=huc.mono ZL.mono hle8
 replace hE:=hE.mono hle8
 refine Za (xM (h:=xM (h:=xK [8,5,6,7,0,1] rfl ZCr rfl (ZqO hJ _ _ _ _ _ _ _ _ x _ _ _ u o n r f cap R kk he hul hol hnl om2 om2 be _ _ _ ys YS hyl a _ hE hc8 huc hfc hic hy (fun h2 hr B2 hle=>hw (by simpa using g1) (by simpa using g2) h2 hr B2 _ _ _ _ _ _ _ _ _ _ (hlev.trans (hlec.trans (hle8.trans hle))) huc hfc hic)) (h:=?_))))
 rintro _ B9 _ hle9 ⟨q19,c19,q29,c29,q39,c39,l19,l29,l39,qe9,ce9,le9,rfl,rfl,hu9,hf9,hi9,hy9⟩
 replace hu:=hu.mono ZL.mono hle9
 replace hf:=hf.mono ZF.mono hle9
 replace hi:=hi.mono Zar.mono hle9
 replace hc8:=hc8.mono hle9
 replace hy:=hy.mono Z9.mono hle9
 replace huc:=huc.mono ZL.mono hle9
 replace hE:=hE.mono hle9
 refine xA (h:=ZtG (Ze (ZW (keeps _ [] _) mo kr ⟨Kn.le.refl _,ZaH.refl _ _⟩ (fun _ _=>?_))))
 refine aW 0 rfl Ze4 (h:=aT 1 rfl (ZO fun D B L hI=>Zn rfl rfl ZlO rfl ((hc8.mono hI.1) _ 3 _ rfl) r4) (h:=aNc 2 rfl (h:=aW 3 rfl ZgZ (h:=aM 5 rfl (h:=aT 6 rfl (ZO fun D B L hI=>Z5 rfl rfl ZCq rfl (ZgV (usN x u o n r kk) om2 a _ (hE.mono hI.1)) r4) (h:=?_))))))
 refine ZV 4 kr rfl kr (ZI [_,_,_,_,_] rfl rfl ZgD rfl (ZbZ 8 rfl rfl rfl) ?_)
 refine ⟨⟨Kn.le.refl _,trivial⟩,(Zf4 7 kr rfl kr kr (Zav [_,_,_,_,_] 4 [_,_,_,_,_] rfl rfl Zq6 rfl rfl rfl rfl rfl rfl rfl rfl ?_))⟩
 refine aA 8 rfl (h:=Zy kr kr ?_)
 refine Zm (ZtG (Zf ?_))
 exact Zdh .ret (.inl rfl) [_,_] [0,1,5,6,7] rfl ⟨⟨_,rfl,.inr ⟨[_,_,_,_,_],ZgD,ZbZ 4 rfl rfl rfl,rfl⟩⟩,rfl,trivial⟩ ⟨(usX x u o n r R x),_,usX x u o n r YS ys,_,_,_,_,_,_,_,_,_,_,_,_,by rw [if_pos ⟨by simpa using g1,by simpa using g2⟩],rfl,rfl,hu9,hf9,hi9,hy9⟩
 refine (ZeR (l:=[_,_,_,_]) rfl rfl ZoZ rfl (fun b11=>⟨⟨hlec,t2⟩,(ZV 10 kr rfl kr (ZqJ (l:=[_,_,_,_,_,_,_]) rfl rfl rfl rfl (fun b12=>?_)))⟩))
 refine ⟨⟨hlec,t2⟩,(aT 11 rfl (ZO fun D B L hI=>Zcl (parts:=[(0,_),(1,_),(2,_)]) [_,_,_,_] [_,_,_,_] rfl rfl Zxt ZoZ rfl rfl rfl r4) (h:=Zb8 13 kr rfl kr kr kr (Zav [_,_,_,_] 8 [_,_,_,_] rfl rfl Zxi rfl rfl rfl rfl rfl rfl rfl rfl ?_)))⟩
 refine Zm (ZtG (ZqB 8 rfl (fun B13 hle13 hpm13=>?_)))
 have hc13:=ZbA hpm13
 replace hu:=hu.mono ZL.mono hle13
 replace hf:=hf.mono ZF.mono hle13
 replace hi:=hi.mono Zar.mono hle13
 replace hy:=hy.mono Z9.mono hle13
 replace huc:=huc.mono ZL.mono hle13
 replace hE:=hE.mono hle13
 refine Za (xM (h:=xM (h:=xK [9,5,6,7,0,1] rfl ZCr rfl (ZqO hJ _ _ _ _ _ _ _ _ x _ _ _ u o n r f cap R kk he hul hol hnl om2 om2 be _ _ _ ys YS hyl a _ hE hc13 huc hfc hic hy (fun h2 hr B2 hle=>hw (by simpa using g1) (by simpa using g2) h2 hr B2 _ _ _ _ _ _ _ _ _ _ (hlev.trans (hlec.trans (hle13.trans hle))) huc hfc hic)) (h:=?_))))
 rintro _ B14 _ hle14 ⟨q114,c114,q214,c214,q314,c314,l114,l214,l314,qe14,ce14,le14,rfl,rfl,hu14,hf14,hi14,hy14⟩
 replace hu:=hu.mono ZL.mono hle14
 replace hf:=hf.mono ZF.mono hle14
 replace hi:=hi.mono Zar.mono hle14
 replace hc13:=hc13.mono hle14
 replace hy:=hy.mono Z9.mono hle14
 replace huc:=huc.mono ZL.mono hle14
 replace hE:=hE.mono hle14
 refine xA (h:=ZtG (Ze (ZW (keeps _ [] _) mo kr ⟨Kn.le.refl _,ZaH.refl _ _⟩ (fun _ _=>?_))))
 refine aW 0 rfl Ze4 (h:=aT 1 rfl (ZO fun D B L hI=>Zn rfl rfl ZlO rfl ((hc13.mono hI.1) _ 3 _ rfl) r4) (h:=aNc 2 rfl (h:=aW 3 rfl ZgZ (h:=aM 5 rfl (h:=aT 6 rfl (ZO fun D B L hI=>Z5 rfl rfl ZCq rfl (ZgV (usN x u o n r kk) om2 a _ (hE.mono hI.1)) r4) (h:=?_))))))
 refine ZV 4 kr rfl kr (ZI [_,_,_,_,_] rfl rfl ZgD rfl (ZbZ 9 rfl rfl rfl) ?_)
 refine ⟨⟨Kn.le.refl _,trivial⟩,(Zf4 7 kr rfl kr kr (Zav [_,_,_,_,_] 4 [_,_,_,_,_] rfl rfl Zq6 rfl rfl rfl rfl rfl rfl rfl rfl ?_))⟩
 refine aA 8 rfl (h:=Zy kr kr ?_)
 refine Zm (ZtG (Zf ?_))
 exact Zdh .ret (.inl rfl) [_,_] [0,1,5,6,7] rfl ⟨⟨_,rfl,.inr ⟨[_,_,_,_,_],ZgD,ZbZ 4 rfl rfl rfl,rfl⟩⟩,rfl,trivial⟩ ⟨(usX x u o n r R x),_,usX x u o n r YS ys,_,_,_,_,_,_,_,_,_,_,_,_,by rw [if_pos ⟨by simpa using g1,by simpa using g2⟩],rfl,rfl,hu14,hf14,hi14,hy14⟩
 refine (ZeR (l:=[_,_,_,_]) rfl rfl ZoZ rfl (fun b16=>⟨⟨Kn.le.refl _,t2⟩,(ZV 8 kr rfl kr (Zb9 rfl rfl ZEx rfl (Zhp _ _ _ _ _ _ x _ hu hf hi) ?_))⟩))
 rintro _ Bc _ hlec ⟨q1c,c1c,q2c,c2c,q3c,c3c,l1c,l2c,l3c,rfl,rfl,huc,hfc,hic⟩
 replace hy:=hy.mono Z9.mono hlec
 replace hE:=hE.mono hlec
 refine ⟨⟨hlec,t2⟩,(aT 9 rfl (ZO fun D B L hI=>Zcl (parts:=[(1,_)]) [_,_,_,_,_,_,_] [_,_,_,_,_,_,_] rfl rfl ZzG ZyZ rfl rfl rfl r4) (h:=ZV 10 kr rfl kr (ZqJ (l:=[_,_,_,_,_,_,_]) rfl rfl rfl rfl (fun b18=>?_))))⟩
 refine ⟨⟨hlec,t2⟩,(aT 11 rfl (ZO fun D B L hI=>Zcl (parts:=[(0,_),(1,_),(2,_)]) [_,_,_,_] [_,_,_,_] rfl rfl Zxt ZoZ rfl rfl rfl r4) (h:=Zb8 13 kr rfl kr kr kr (Zav [_,_,_,_] 5 [_,_,_,_] rfl rfl Zxi rfl rfl rfl rfl rfl rfl rfl rfl ?_)))⟩
 refine Zm (ZtG (ZqB 5 rfl (fun B19 hle19 hpm19=>?_)))
 have hc19:=ZbA hpm19
 replace hy:=hy.mono Z9.mono hle19
 replace huc:=huc.mono ZL.mono hle19
 replace hE:=hE.mono hle19
 refine Za (xM (h:=xM (h:=xK [9,6,7,8,0,1] rfl ZCr rfl (ZqO hJ _ _ _ _ _ _ _ _ x _ _ _ u o n r f cap R kk he hul hol hnl om2 om2 be _ _ _ ys YS hyl a _ hE hc19 huc hfc hic hy (fun h2 hr B2 hle=>hw (by simpa using g1) (by simpa using g2) h2 hr B2 _ _ _ _ _ _ _ _ _ _ (hlev.trans (hlec.trans (hle19.trans hle))) huc hfc hic)) (h:=?_))))
 rintro _ B20 _ hle20 ⟨q120,c120,q220,c220,q320,c320,l120,l220,l320,qe20,ce20,le20,rfl,rfl,hu20,hf20,hi20,hy20⟩
 replace hc19:=hc19.mono hle20
 replace hE:=hE.mono hle20
 refine xA (h:=ZtG (Ze (ZW (keeps _ [] _) mo kr ⟨Kn.le.refl _,ZaH.refl _ _⟩ (fun _ _=>?_))))
 refine aW 0 rfl Ze4 (h:=aT 1 rfl (ZO fun D B L hI=>Zn rfl rfl ZlO rfl ((hc19.mono hI.1) _ 3 _ rfl) r4) (h:=aNc 2 rfl (h:=aW 3 rfl ZgZ (h:=aM 5 rfl (h:=aT 6 rfl (ZO fun D B L hI=>Z5 rfl rfl ZCq rfl (ZgV (usN x u o n r kk) om2 a _ (hE.mono hI.1)) r4) (h:=?_))))))
 refine ZV 4 kr rfl kr (ZI [_,_,_,_,_] rfl rfl ZgD rfl (ZbZ 9 rfl rfl rfl) ?_)
 refine ⟨⟨Kn.le.refl _,trivial⟩,(Zf4 7 kr rfl kr kr (Zav [_,_,_,_,_] 4 [_,_,_,_,_] rfl rfl Zq6 rfl rfl rfl rfl rfl rfl rfl rfl ?_))⟩
 refine aA 8 rfl (h:=Zy kr kr ?_)
 refine Zm (ZtG (Zf ?_))
 exact Zdh .ret (.inl rfl) [_,_] [0,1,6,7,8] rfl ⟨⟨_,rfl,.inr ⟨[_,_,_,_,_],ZgD,ZbZ 4 rfl rfl rfl,rfl⟩⟩,rfl,trivial⟩ ⟨(usX x u o n r R x),_,usX x u o n r YS ys,_,_,_,_,_,_,_,_,_,_,_,_,by rw [if_pos ⟨by simpa using g1,by simpa using g2⟩],rfl,rfl,hu20,hf20,hi20,hy20⟩

theorem Zq0 (q:Option Addr) (cp:Nat) (xs:List DSpan) (left:Int) (hl0:0≤left) (hl1:left≤1048576) (B:Kn) (hx:SlB B q cp 2 ZN xs):Z1 (pj J) 7 [.slice q xs.length cp,.int .i64 left] B (.int .i64 (szI left xs.length)):=by
 refine cB 12 Tryz.func7 (h:=?_)
 have hxn:=hx.len
 refine Za (xA (h:=Za (xM (h:=xM (h:=xV Tryz.underlying31 (h:=xU (h:=xA (h:=Ze (Za (xM (h:=ZC (h:=Zb rfl (fun g1=>?_) (fun g1=>?_)))))))))))))
 try simp only [sQ,ne_eq] at g1
 refine Za (xA (h:=Zf (Zj ?_)))
 exact eR t1 ⟨ZH (by first | (unfold szI;split <;> omega)),rfl,rfl⟩
 try simp only [sQ,ne_eq] at g1
 refine wSk (Za (xM (h:=xA (h:=Zf ?_))))
 exact eR t1 ⟨ZH (by first | (unfold szI;split <;> omega)),rfl,rfl⟩

theorem Zib (q:Option Addr) (cp:Nat) (xs:List DSpan) (l:Cells) (k:Nat) (hk:k≤900000000000000) (hn:xs.length≤2000000) (B:Kn) (hv:ZR B l q cp 93 2 ZN xs):Zu (pj J) 16 [.slice q xs.length cp,.int .i64 k] B [l] (fun v B' Ls=>B'=B∧∃l',Ls=[l']∧v = .int .i64 ((k+2*xs.length:Nat):Int)∧ZR B l' q cp 93 2 ZN (ZcI k xs.length)):=by
 refine cB 27 Tryz.func16 (h:=?_)
 have hvc:=hv.cap
 refine Za (xA (h:=Ze (Za (xA (h:=Zg (Zv (α:=Nat × Cells × List DSpan) [4] (fun g=>[(0,.slice q xs.length cp),(1,.int .i64 ((k+2*g.1:Nat):Int)),(5,.int .i64 g.1)]) [0] (fun g=>[g.2.1]) (fun g Bx=>Bx=B∧g.1≤xs.length∧g.2.2.length=xs.length∧g.2.2.take g.1=ZcI k g.1∧ZR Bx g.2.1 q cp 93 2 ZN g.2.2) (fun g=>xs.length - g.1) (0,l,xs) t3 rfl (⟨rfl,Nat.zero_le _,rfl,rfl,hv⟩) (fun g B1 hle1 hI=>?_)))))))
 obtain ⟨rfl,hi,hle,ht,hw⟩:=hI
 refine Zz [(0,_),(1,_),(4,_),(5,_)] [_] t4 rfl (Ze (Za (xM (h:=xM (h:=xV Tryz.underlying47 (h:=ZC (h:=Zb rfl (fun g1=>?_) (fun g1=>?_))))))))
 try simp only [sQ,ne_eq] at g1
 refine wSk (Ze (Zg (Za (xM (h:=xM (h:=xM (h:=?_)))))))
 obtain ⟨z1,hz1⟩:=ZM (xs:=g.2.2) (i:=g.1) om
 obtain ⟨bb3,_,hp3,rfl,hw3,hc3⟩:=hw.row hz1
 refine xIp hp3 Tryz.underlying47 ZmU (h:=xW Zhu (h:=Zh (Zf9 (k:=g.1) (off:=0) (⟨((k+2*g.1:Nat):Int),z1.high⟩) [_] 0 hw hp3 hz1 rfl rfl sz3 rfl rfl rfl rfl rfl rfl (by rintro _ rfl;rfl) (fun l4 hv4=>?_))))
 refine tL1 (Za (xM (h:=xD (h:=xA (h:=Za (xM (h:=xM (h:=xM (h:=?_)))))))))
 obtain ⟨z2,hz2⟩:=ZM (xs:=(g.2.2.set g.1 (⟨((k+2*g.1:Nat):Int),z1.high⟩))) (i:=g.1) om
 obtain ⟨bb6,_,hp6,rfl,hw6,hc6⟩:=hv4.row hz2
 refine xIp hp6 Tryz.underlying47 ZmU (h:=xW Zht (h:=Zh (Zf9 (k:=g.1) (off:=1) (⟨z2.low,((k+2*g.1+1:Nat):Int)⟩) [_] 0 hv4 hp6 hz2 rfl rfl sz3 rfl rfl rfl rfl rfl rfl (by rintro _ rfl;rfl) (fun l7 hv7=>?_))))
 refine tL1 (Zd (xM (h:=xD (h:=xA (h:=ZD (Zm (Zd (xM (h:=xD (h:=xA (h:=?_)))))))))))
 exact Zx (g.1+1,l7,((g.2.2.set g.1 (⟨((k+2*g.1:Nat):Int),z1.high⟩)).set g.1 (⟨z2.low,((k+2*g.1+1:Nat):Int)⟩))) [0] so2 ⟨rfl,so,by simp only [List.length_set];exact hle,ZlE ht hz1 hz2,hv7⟩ t4 rfl
 try simp only [sQ,ne_eq] at g1
 have he:=Zje ht oz
 have hgi:g.1=xs.length:=by omega
 rw [hgi] at he
 refine ZA (ZQ (ZB (Zs (Zm (Za (xM (h:=xA (h:=Zf ?_))))))))
 exact Zdh .ret (.inl rfl) [_] [0] rfl ⟨rfl,trivial⟩ ⟨rfl,_,rfl,by rw [hgi];rfl,by rw [← he];exact hw⟩

theorem ZpD (q:Option Addr) (cp:Nat) (xs:List Int) (l:Cells) (k:Nat) (hk:k≤900000000000000) (hn:xs.length≤2000000) (B:Kn) (hv:ZR B l q cp 3 1 Z9 xs):Zu (pj J) 25 [.slice q xs.length cp,.int .i64 k] B [l] (fun v B' Ls=>B'=B∧∃l',Ls=[l']∧v = .int .i64 ((k+1*xs.length:Nat):Int)∧ZR B l' q cp 3 1 Z9 (ZeH k xs.length)):=by
 refine cB 19 Tryz.func25 (h:=?_)
 have hvc:=hv.cap
 refine Za (xA (h:=Ze (Za (xA (h:=Zg (Zv (α:=Nat × Cells × List Int) [4] (fun g=>[(0,.slice q xs.length cp),(1,.int .i64 ((k+1*g.1:Nat):Int)),(5,.int .i64 g.1)]) [0] (fun g=>[g.2.1]) (fun g Bx=>Bx=B∧g.1≤xs.length∧g.2.2.length=xs.length∧g.2.2.take g.1=ZeH k g.1∧ZR Bx g.2.1 q cp 3 1 Z9 g.2.2) (fun g=>xs.length - g.1) (0,l,xs) t3 rfl (⟨rfl,Nat.zero_le _,rfl,rfl,hv⟩) (fun g B1 hle1 hI=>?_)))))))
 obtain ⟨rfl,hi,hle,ht,hw⟩:=hI
 refine Zz [(0,_),(1,_),(4,_),(5,_)] [_] t4 rfl (Ze (Za (xM (h:=xM (h:=xV Tryz.underlying58 (h:=ZC (h:=Zb rfl (fun g1=>?_) (fun g1=>?_))))))))
 try simp only [sQ,ne_eq] at g1
 refine wSk (Ze (Zg (Za (xM (h:=xM (h:=xM (h:=?_)))))))
 obtain ⟨z1,hz1⟩:=ZM (xs:=g.2.2) (i:=g.1) om
 obtain ⟨bb3,_,hp3,rfl,hw3,hc3⟩:=hw.row hz1
 refine xIp hp3 Tryz.underlying58 sz3 (h:=Zh (Zf9 (k:=g.1) (off:=0) (((k+1*g.1:Nat):Int)) [_] 0 hw hp3 hz1 rfl rfl sz3 rfl rfl rfl rfl rfl rfl (by rintro _ rfl;rfl) (fun l4 hv4=>?_)))
 refine tL1 (Zd (xM (h:=xD (h:=xA (h:=ZD (Zm (Zd (xM (h:=xD (h:=xA (h:=?_)))))))))))
 exact Zx (g.1+1,l4,(g.2.2.set g.1 (((k+1*g.1:Nat):Int)))) [0] so2 ⟨rfl,so,by simp only [List.length_set];exact hle,Znf ht hz1,hv4⟩ t4 rfl
 try simp only [sQ,ne_eq] at g1
 have he:=Zje ht oz
 have hgi:g.1=xs.length:=by omega
 rw [hgi] at he
 refine ZA (ZQ (ZB (Zs (Zm (Za (xM (h:=xA (h:=Zf ?_))))))))
 exact Zdh .ret (.inl rfl) [_] [0] rfl ⟨rfl,trivial⟩ ⟨rfl,_,rfl,by rw [hgi];rfl,by rw [← he];exact hw⟩

theorem Zjm (q:Option Addr) (cp:Nat) (xs:List Int) (k m n:Nat) (hmn:m=n) (he:xs=ZeH k n) (hk:k+1*n≤900000000000000) (B:Kn) (hx0:SlK B q cp 1 Z9 xs):Z1 (pj J) 26 [.slice q m cp,.int .i64 k] B (.int .i64 ((k+1*n:Nat):Int)):=by
 refine cB 21 Tryz.func26 (h:=?_)
 have hxn:=hx0.len
 have hxl:xs.length=n:=by rw [he];exact Zff _ _
 refine Za (xA (h:=Ze (Za (xA (h:=Zg (Zv (α:=Nat) [0] (fun g=>[(1,.int .i64 ((k+1*g:Nat):Int)),(5,.int .i64 g)]) [] (fun g=>[]) (fun g Bx=>Bx=B∧g≤n) (fun g=>n - g) 0 t2 rfl (⟨rfl,Nat.zero_le _⟩) (fun g B1 hle1 hI=>?_)))))))
 obtain ⟨rfl,hi⟩:=hI
 refine Zz [(0,_),(1,_),(5,_)] [] t3 rfl (Ze (Za (xM (h:=xM (h:=xV Tryz.underlying58 (h:=ZC (h:=Zb rfl (fun g1=>?_) (fun g1=>?_))))))))
 try simp only [sQ,ne_eq] at g1
 have hx:xs[g]? = some (((k+1*g:Nat):Int):Int):=by rw [he];exact ZpB oz
 refine wSk (Ze (Zg (Ze (Za (xM (h:=xM (h:=?_)))))))
 obtain ⟨bb2,oo2,rfl⟩:=hx0.base hx
 obtain ⟨_,rfl,hc3⟩:=hx0.elem hx
 refine xIx Tryz.underlying58 sz3 (h:=y1 lk3 hc3 0 (h:=xM (h:=Zaa (h:=Zb rfl (fun h1=>by simp at h1) (fun h1=>?_)))))
 try simp only [sQ,ne_eq] at h1
 refine wSk (Zd (xM (h:=xD (h:=xA (h:=ZD (Zm (Zd (xM (h:=xD (h:=xA (h:=?_)))))))))))
 exact Zx (g+1) [] so2 ⟨rfl,oz⟩ t3 rfl
 try simp only [sQ,ne_eq] at g1
 refine ZA (ZQ (ZB (Zs (Zm (Za (xM (h:=xA (h:=Zf ?_))))))))
 exact eR t1 ⟨ZH (by rw [show g=n from by omega]),rfl,rfl⟩

theorem ZnF (a o:Int) (B:Kn):Z1 (pj J) 158 [.int .i64 a,.int .i64 o] B (.bool ((ZbO a && ZbO o) && decide (Ztw a o=o))):=by
 refine cB 18 Tryz.func158 (h:=?_)
 refine Za (xA (h:=Za (xM (h:=xR ZCs rfl (ZfY _ _) (h:=xM (h:=Zq (d:=7) rfl (fun g1=>?_) (fun g1=>?_)))))))
 refine xM (h:=xR ZCs rfl (ZfY _ _) (h:=xT (h:=xM (h:=Zq (d:=11) rfl (fun g2=>?_) (fun g2=>?_)))))
 refine xM (h:=xM (h:=Zh (ZqK rfl rfl rfl rfl (xM (h:=Z2 (h:=xT (h:=xA (h:=Zf ?_))))))))
 exact eR t1 ⟨Zc (by simp [ZbO] at *;try omega),rfl,rfl⟩
 refine xP (h:=xP (h:=xP (h:=xP (h:=xP (h:=xF (h:=xA (h:=Zf ?_)))))))
 exact eR t1 ⟨Zc (by simp [ZbO] at *;try omega),rfl,rfl⟩
 refine xP (h:=xP (h:=xF (h:=xM (h:=xP (h:=xP (h:=xP (h:=xP (h:=xP (h:=xF (h:=xA (h:=Zf ?_)))))))))))
 exact eR t1 ⟨Zc (by simp [ZbO] at *;try omega),rfl,rfl⟩

def SzL (J : JoinT) (n : Nat) : Prop := ∀ (q : Option Addr) (cp : Nat) (xs : List DKey) (left : Int) (hl0 : 0 ≤ left) (hl1 : left ≤ 1048576) (B : Kn) (hx : SlB B q cp 5 (ZkP n) xs), Z1 (pj J) 58 [.slice q xs.length cp, .int .i64 left] B (.int .i64 (szI left (szL ZcQ xs)))
def SzK (J : JoinT) (n : Nat) : Prop := ∀ (q q' : Option Addr) (c c' : Nat) (x : DKey) (h1 : x.text.length ≤ 140737488355328) (left : Int) (hl0 : 0 ≤ left) (hl1 : left ≤ 1048576) (B : Kn) (hs : SlB B q c 2 ZN x.set) (hk : SlB B q' c' 5 (ZkP n) x.keys), Z1 (pj J) 18 [.agg #[.int .i64 x.kind, .int .i64 x.flag, str x.text, .slice q x.set.length c, .slice q' x.keys.length c'], .int .i64 left] B (.int .i64 (szI left (ZcQ x)))
theorem Zuj (n:Nat) (hK :∀m,n=m+1→SzK J m) (q:Option Addr) (cp:Nat) (xs:List DKey) (left:Int) (hl0:0≤left) (hl1:left≤1048576) (B:Kn) (hx:SlB B q cp 5 (ZkP n) xs):Z1 (pj J) 58 [.slice q xs.length cp,.int .i64 left] B (.int .i64 (szI left (szL ZcQ xs))):=by
 refine cB 27 Tryz.func58 (h:=?_)
 have hxn:=hx.len
 refine Za (xA (h:=Za (xM (h:=xM (h:=xV Tryz.underlying54 (h:=xU (h:=xA (h:=Ze (Za (xM (h:=ZC (h:=Zb rfl (fun g1=>?_) (fun g1=>?_)))))))))))))
 try simp only [sQ,ne_eq] at g1
 refine Za (xA (h:=Zf (Zj ?_)))
 exact eR t1 ⟨ZH (ZfO oz).symm,rfl,rfl⟩
 try simp only [sQ,ne_eq] at g1
 refine ZK ?_
 refine Zm ?_
 refine Ze ?_
 refine Za ?_
 refine Zh (ZbF rfl rfl rfl ?_)
 refine Zg ?_
 refine Zv (α:=Nat × Int) [0,11] (fun g=>[(1,.int .i64 g.2),(5,.int .i64 g.1)]) [] (fun g=>[]) (fun g Bx=>Bx=B∧g.1≤xs.length∧g.2=left - xs.length - ((xs.take g.1).map ZcQ).sum∧0≤g.2) (fun g=>xs.length - g.1) (0,left - ↑xs.length) ⟨rfl,rfl,trivial⟩ rfl (⟨rfl,Nat.zero_le _,by simp,g1⟩) (fun g B1 hle1 hI=>?_)
 obtain ⟨rfl,hk,hs,hl⟩:=hI
 refine Zz [(0,_),(1,_),(5,_),(11,_)] [] t4 rfl (Ze (Za (xM (h:=xM (h:=xV Tryz.underlying54 (h:=ZC (h:=Zb rfl (fun g2=>?_) (fun g2=>?_))))))))
 try simp only [sQ,ne_eq] at g2
 obtain ⟨m,rfl⟩:=hx.succ oz
 refine wSk (Ze (Zg (Za (xM (h:=xM (h:=?_))))))
 obtain ⟨z,hz⟩:=ZM (xs:=xs) (i:=g.1) om
 obtain ⟨bb3,oo3,rfl⟩:=hx.base hz
 obtain ⟨_,⟨qs4,cs4,qk4,ck4,rfl,hs4,hk4,hb4⟩,hc4⟩:=hx.elem hz
 have hs4n:=hs4.len
 have hk4n:=hk4.len
 refine xIx Tryz.underlying54 ZEl (h:=yL [_,_,_,_,_] ZxK hc4 0 (h:=xM (h:=?_)))
 have hq5:=hK m rfl _ _ _ _ z om2 g.2 om2 om2 _ hs4 hk4
 refine xR ZEJ rfl hq5 (h:=xA (h:=Za (xM (h:=ZC (h:=Zb rfl (fun g3=>?_) (fun g3=>?_))))))
 try simp only [sQ,ne_eq] at g3
 refine Za (xA (h:=Zf (Zt (Zj (ZJ (Zt (Zj ?_)))))))
 exact eR t1 ⟨ZH (ZfM hz hs ((ZbN hl).1 g3)).symm,rfl,rfl⟩
 try simp only [sQ,ne_eq] at g3
 refine ZK (ZD (Zm (Zd (xM (h:=xD (h:=xA (h:=?_)))))))
 exact Zx (g.1+1,szI g.2 (ZcQ z)) [] so2 ⟨rfl,so,by have:=(Zby hl g3).1;rw [ZdJ _ hz];simp only [];omega,g3⟩ t4 rfl
 try simp only [sQ,ne_eq] at g2
 refine ZA (ZQ (ZB (Zs (Zm (Za (xM (h:=xA (h:=Zf ?_))))))))
 exact eR t1 ⟨ZH (ZfN hs hl oz).symm,rfl,rfl⟩

theorem Zxe (n:Nat) (hS:SzL J n) (q q':Option Addr) (c c':Nat) (x:DKey) (h1:x.text.length≤140737488355328) (left:Int) (hl0:0≤left) (hl1:left≤1048576) (B:Kn) (hs:SlB B q c 2 ZN x.set) (hk:SlB B q' c' 5 (ZkP n) x.keys):Z1 (pj J) 18 [.agg #[.int .i64 x.kind,.int .i64 x.flag,str x.text,.slice q x.set.length c,.slice q' x.keys.length c'],.int .i64 left] B (.int .i64 (szI left (ZcQ x))):=by
 refine cB 25 Tryz.func18 (h:=?_)
 have hsn:=hs.len
 have hkn:=hk.len
 have hze:=Zoc x
 refine Za (xBx [_,_,_,_,_] (h:=fun b1=>xA (h:=tL1 (Za (xM (h:=xW Zwx (h:=x1 lk9 0 (h:=xVs Tryz.underlying9 (h:=xU (h:=xA (h:=Ze (Za (xM (h:=ZC (h:=Zb rfl (fun g1=>?_) (fun g1=>?_))))))))))))))))
 try simp only [sQ,ne_eq] at g1
 refine Za (xA (h:=Zf (Zj ?_)))
 exact eR t1 ⟨ZH (by rw [Zbn oz]),rfl,rfl⟩
 try simp only [sQ,ne_eq] at g1
 refine wSk (Za (xW Zww (h:=x1 ZEo 0 (h:=xM (h:=?_)))))
 have hq2:=Zq0 (J:=J) _ _ x.set (left - ↑x.text.length) om2 om2 _ hs
 refine xR en7 rfl hq2 (h:=xA (h:=Ze (Za (xM (h:=ZC (h:=Zb rfl (fun g2=>?_) (fun g2=>?_)))))))
 try simp only [sQ,ne_eq] at g2
 have g2x:=(ZbN oz).1 g2
 refine Za (xA (h:=Zf (Zj ?_)))
 exact eR t1 ⟨ZH (by rw [Zbn oz]),rfl,rfl⟩
 try simp only [sQ,ne_eq] at g2
 have g2x:=Zby oz g2
 refine wSk (Za (xW Zwv (h:=x1 ZEn 0 (h:=xM (h:=?_)))))
 have hq3:=hS _ _ x.keys (szI (left - ↑x.text.length) x.set.length) om2 om2 _ hk
 refine xR ZFA rfl hq3 (h:=xA (h:=Ze (Za (xM (h:=ZC (h:=Zb rfl (fun g3=>?_) (fun g3=>?_)))))))
 try simp only [sQ,ne_eq] at g3
 have g3x:=(ZbN oz).1 g3
 refine Za (xA (h:=Zf (Zj ?_)))
 exact eR t1 ⟨ZH (by rw [Zbn oz]),rfl,rfl⟩
 try simp only [sQ,ne_eq] at g3
 have g3x:=Zby oz g3
 refine wSk (Za (xM (h:=xA (h:=Zf ?_))))
 exact eR t1 ⟨ZH (by (try dsimp only at *);rw [Zlb (left:=left) (s:=ZcQ x) oz];omega),rfl,rfl⟩

theorem Zq3 (n:Nat):SzL J n∧SzK J n:=ZdR (L:=SzL J) (K:=SzK J) (fun n h=>Zuj n h) (fun n h=>Zxe n h) n

def ToL (J : JoinT) (n : Nat) : Prop := ∀ (q : Option Addr) (cp : Nat) (xs : List DKey) (hx20 : szL ZcQ xs ≤ 1048576) (B : Kn) (hx : SlK B q cp 5 (Zbw n) xs), Zu (pj J) 61 [.slice q xs.length cp] B [] (fun v B' Ls => ∃ q c l, v = .slice q xs.length c ∧ B' = B ∧ Ls = [l] ∧ ZaM l q c 63 5 (Zhz 93 63 (n + 1)) xs)
def ToK (J : JoinT) (n : Nat) : Prop := ∀ (q q' : Option Addr) (c c' : Nat) (x : DKey) (hsz : ZcQ x ≤ 1048576) (B : Kn) (hs : SlK B q c 2 ZN x.set) (hk : SlK B q' c' 5 (Zbw n) x.keys), Zu (pj J) 20 [.agg #[.int .i64 x.kind, .int .i64 x.flag, str x.text, .slice q x.set.length c, .slice q' x.keys.length c']] B [] (fun v B' Ls => ∃ q0 c0 l0 q1 c1 l1, v = .agg #[.int .i64 x.kind, .int .i64 x.flag, str x.text, .slice q0 x.set.length c0, .slice q1 x.keys.length c1] ∧ B' = B ∧ Ls = [l0, l1] ∧ ZR Kn.none l0 q0 c0 93 2 ZN x.set ∧ ZaM l1 q1 c1 63 5 (Zhz 93 63 (n + 1)) x.keys)
theorem Zud (n:Nat) (hK :∀m,n=m+1→ToK J m) (q:Option Addr) (cp:Nat) (xs:List DKey) (hx20:szL ZcQ xs≤1048576) (B:Kn) (hx:SlK B q cp 5 (Zbw n) xs):Zu (pj J) 61 [.slice q xs.length cp] B [] (fun v B' Ls=>∃q c l,v = .slice q xs.length c∧B'=B∧Ls=[l]∧ZaM l q c 63 5 (Zhz 93 63 (n+1)) xs):=by
 refine cB 23 Tryz.func61 (h:=?_)
 have hxn:=hx.len
 have hx21:=(Zaz hx20).1
 refine Za (xA (h:=Za (xM (h:=xV Tryz.underlying54 (h:=Zh (Zab (m:=xs.length) (c:=xs.length) (by_:=80) [.int .i64 0,.int .i64 0,.string ⟨#[]⟩,.slice none 0 0,.slice none 0 0] rfl rfl ZFf ZyV rfl rfl ⟨_,_,rfl,by first | omega | (simp;done) | (simp;omega)⟩ ⟨_,_,rfl,by first | omega | (simp;done) | (simp;omega)⟩ om om (fun b1=>?_)))))))
 have hd1:=ZaM.zeros (b:=b1) (T:=63) (R:=(Zhz 93 63 (n+1))) (d:=(.mk 0 0 [] [] []:DKey)) (m:=xs.length) (c:=xs.length) (zs:=[.int .i64 0,.int .i64 0,.string ⟨#[]⟩,.slice none 0 0,.slice none 0 0]) rfl (Zhz.zero) om
 refine xA (h:=tL1 (Ze (Za (xA (h:=Zg (Zv (α:=Nat × Cells) [0,2] (fun g=>[(3,.slice (some ⟨b1,0,none⟩) xs.length xs.length),(4,.int .i64 g.1)]) [0] (fun g=>[g.2]) (fun g Bx=>Bx=B∧g.1≤xs.length∧ZaM g.2 (some ⟨b1,0,none⟩) xs.length 63 5 (Zhz 93 63 (n+1)) (fill xs (.mk 0 0 [] [] []:DKey) g.1)) (fun g=>xs.length - g.1) (0,_) t2 rfl (⟨rfl,Nat.zero_le _,by rw [Za6];exact hd1⟩) (fun g B2 hle2 hI=>?_)))))))
 obtain ⟨rfl,hk,hvl⟩:=hI
 have hfl:=Zbu (d:=(.mk 0 0 [] [] []:DKey)) hk
 refine Zz [(0,_),(2,_),(3,_),(4,_)] [_] t4 rfl (Ze (Za (xM (h:=xM (h:=xV Tryz.underlying54 (h:=ZC (h:=Zb rfl (fun g1=>?_) (fun g1=>?_))))))))
 try simp only [sQ,ne_eq] at g1
 obtain ⟨m,rfl⟩:=hx.succ oz
 refine wSk (Ze (Zg (Zd (xM (h:=xM (h:=xM (h:=xM (h:=?_))))))))
 obtain ⟨z,hz⟩:=ZM (xs:=xs) (i:=g.1) om
 obtain ⟨bb4,oo4,rfl⟩:=hx.base hz
 obtain ⟨_,⟨qs5,cs5,qk5,ck5,rfl,hs5,hk5,hb5⟩,hc5⟩:=hx.elem hz
 have hs5n:=hs5.len
 have hk5n:=hk5.len
 refine xIx Tryz.underlying54 ZEl (h:=?_)
 have hzz:=(Zaz hx20).2 z (List.mem_of_getElem? hz)
 have hza:=ZoE hzz
 have hzb:=(Zaz hza.2.2).1
 refine yL [_,_,_,_,_] ZxK hc5 0 (h:=xC ZAy rfl (hK m rfl _ _ _ _ z om2 _ hs5 hk5) (h:=?_))
 rintro _ B6 _ hle6 ⟨q6,c6,l6,q6b,c6b,l6b,rfl,rfl,rfl,hv6,hw6⟩
 refine xIp rfl Tryz.underlying61 Zi1 (h:=Zh (ZwW (R:=(Zhz 93 63 (m+1+1))) (k:=g.1) (z) 0 [1,2] rfl rfl hvl rfl om rfl rfl Zi1 rfl rfl rfl rfl rfl (l6 ++ l6b) (by simp) (⟨_,_,_,_,_,_,rfl,rfl,(hv6.anyK ZN.any),hw6,om2,om2,om2⟩) (fun l8 hd8=>?_)))
 refine ZD (Zm (Zd (xM (h:=xD (h:=xA (h:=?_))))))
 exact Zx (g.1+1,l8) [0] so2 ⟨rfl,so,by rw [← ZaC hz];exact hd8⟩ t4 rfl
 try simp only [sQ,ne_eq] at g1
 refine ZA (ZQ (ZB (Zs (Zm (Za (xM (h:=xA (h:=Zf ?_))))))))
 exact eN [0] rfl t1 ⟨_,_,_,rfl,rfl,rfl,by have e:=hvl;rw [Zbv oz] at e;exact e⟩

theorem Zw9 (n:Nat) (hS:ToL J n) (q q':Option Addr) (c c':Nat) (x:DKey) (hsz:ZcQ x≤1048576) (B:Kn) (hs:SlK B q c 2 ZN x.set) (hk:SlK B q' c' 5 (Zbw n) x.keys):Zu (pj J) 20 [.agg #[.int .i64 x.kind,.int .i64 x.flag,str x.text,.slice q x.set.length c,.slice q' x.keys.length c']] B [] (fun v B' Ls=>∃q0 c0 l0 q1 c1 l1,v = .agg #[.int .i64 x.kind,.int .i64 x.flag,str x.text,.slice q0 x.set.length c0,.slice q1 x.keys.length c1]∧B'=B∧Ls=[l0,l1]∧ZR Kn.none l0 q0 c0 93 2 ZN x.set∧ZaM l1 q1 c1 63 5 (Zhz 93 63 (n+1)) x.keys):=by
 refine cB 22 Tryz.func20 (h:=?_)
 have hza:=ZoE hsz
 have hsn:=hs.len
 have hkn:=hk.len
 refine Za (xBx [_,_,_,_,_] (h:=fun b1=>xAl [_,_,_,_,_] ZyV (h:=fun b2=>tL2 (Za (xAl [_,_,_,_,_] ZyV (h:=fun b3=>tL3 (Za (xW ZAh (h:=x1 lk3 0 (h:=xW ZbD (h:=xS [_] 2 [_,_,_,_,_] sz3 (h:=tL3 (Za (xW ZAg (h:=x1 lk3 0 (h:=xW Ze3 (h:=xS [_] 2 [_,_,_,_,_] sz3 (h:=tL3 (Za (xW Zwx (h:=x1 lk9 0 (h:=xW ZeK (h:=xS [_] 2 [_,_,_,_,_] sz9 (h:=tL3 (Za (xW Zww (h:=x1 ZEo 0 (h:=xC ZFY rfl (ZqS _ _ x.set om2 _ hs) (h:=?_)))))))))))))))))))))))))))))
 rintro _ B4 _ hle4 ⟨q4,c4,l4,rfl,rfl,rfl,hv4⟩
 refine xW Zcf (h:=xS [_] 2 [_,_,_,_,_] ZBv (h:=tL4 (Za (xW Zwv (h:=x1 ZEn 0 (h:=xC ZFy rfl (hS _ _ x.keys om2 _ hk) (h:=?_)))))))
 rintro _ B5 _ hle5 ⟨q5,c5,l5,rfl,rfl,rfl,hv5⟩
 refine xW Zbk (h:=xS [_] 2 [_,_,_,_,_] ZEU (h:=tL5 (Za (xL [_,_,_,_,_] ZfW 2 (h:=xS [_,_,_,_,_] 1 [_,_,_,_,_] Zi1 (h:=tL5 (Zf ?_)))))))
 exact eN [3,4] rfl ⟨⟨_,rfl,.inr ⟨[_,_,_,_,_],ZfW,ZbZ 1 rfl rfl rfl,rfl⟩⟩,trivial⟩ ⟨_,_,_,_,_,_,rfl,rfl,rfl,hv4,hv5⟩

theorem Zgc (n:Nat):ToL J n∧ToK J n:=ZdR (L:=ToL J) (K:=ToK J) (fun n h=>Zud n h) (fun n h=>Zw9 n h) n

def EqL (J : JoinT) (n : Nat) : Prop := ∀ (q q' : Option Addr) (cp cp' : Nat) (xs ys : List DKey) (B : Kn) (ha : SlK B q cp 5 (Zbw n) xs) (hb : SlK B q' cp' 5 (Zbw n) ys), Z1 (pj J) 65 [.slice q xs.length cp, .slice q' ys.length cp'] B (.bool (decide (xs = ys)))
def EqK (J : JoinT) (n : Nat) : Prop := ∀ (q1 p1 q2 p2 : Option Addr) (c1 d1 c2 d2 : Nat) (a b : DKey) (B : Kn) (h1 : SlK B q1 c1 2 ZN a.set) (k1 : SlK B p1 d1 5 (Zbw n) a.keys) (h2 : SlK B q2 c2 2 ZN b.set) (k2 : SlK B p2 d2 5 (Zbw n) b.keys), Z1 (pj J) 23 [.agg #[.int .i64 a.kind, .int .i64 a.flag, str a.text, .slice q1 a.set.length c1, .slice p1 a.keys.length d1], .agg #[.int .i64 b.kind, .int .i64 b.flag, str b.text, .slice q2 b.set.length c2, .slice p2 b.keys.length d2]] B (.bool (decide (a = b)))
theorem Zvx (n:Nat) (hK :∀m,n=m+1→EqK J m) (q q':Option Addr) (cp cp':Nat) (xs ys:List DKey) (B:Kn) (ha:SlK B q cp 5 (Zbw n) xs) (hb:SlK B q' cp' 5 (Zbw n) ys):Z1 (pj J) 65 [.slice q xs.length cp,.slice q' ys.length cp'] B (.bool (decide (xs=ys))):=by
 refine cB 27 Tryz.func65 (h:=?_)
 have han:=ha.len
 have hbn:=hb.len
 refine Za (xA (h:=Ze (Za (xM (h:=xV Tryz.underlying61 (h:=xM (h:=xV Tryz.underlying61 (h:=Zaa (h:=Zb rfl (fun g1=>?_) (fun g1=>?_))))))))))
 try simp only [sQ,ne_eq] at g1
 refine Za (xA (h:=Zf (Zj ?_)))
 exact eR t1 ⟨Zc (ZeC g1),rfl,rfl⟩
 try simp only [sQ,ne_eq] at g1
 refine wSk (Ze (Za (xA (h:=Zg (Zv (α:=Nat) [0,1,10] (fun k=>[(5,.int .i64 k)]) [] (fun k=>[]) (fun k Bx=>Bx=B∧k≤xs.length∧xs.take k=ys.take k) (fun k=>xs.length - k) 0 t1 rfl (⟨rfl,Nat.zero_le _,by simp⟩) (fun k B1 hle1 hI=>?_))))))
 obtain ⟨rfl,hk,he⟩:=hI
 refine Zz [(0,_),(1,_),(5,_),(10,_)] [] t4 rfl (Ze (Za (xM (h:=xM (h:=xV Tryz.underlying61 (h:=ZC (h:=Zb rfl (fun g2=>?_) (fun g2=>?_))))))))
 try simp only [sQ,ne_eq] at g2
 obtain ⟨m,rfl⟩:=ha.succ oz
 refine wSk (Ze (Zg (Ze (ZW (same _ _) mo kr ⟨rfl,rfl⟩ (fun _ _=>?_)))))
 refine aM 0 rfl (h:=aM 1 rfl (h:=?_))
 obtain ⟨x,hx⟩:=ZM (xs:=xs) (i:=k) om
 obtain ⟨bb3,oo3,rfl⟩:=ha.base hx
 obtain ⟨_,⟨qs4,cs4,qk4,ck4,rfl,hs4,hk4,hb4⟩,hc4⟩:=ha.elem hx
 have hs4n:=hs4.len
 have hk4n:=hk4.len
 refine aIx 2 rfl Tryz.underlying61 Zi1 (h:=aT 3 rfl (Z3 fun D=>ZI [_,_,_,_,_] rfl rfl ZfW rfl (Zhh hc4 0 rfl rfl) r4) (h:=aM 4 rfl (h:=aM 5 rfl (h:=?_))))
 obtain ⟨y,hy⟩:=ZM (xs:=ys) (i:=k) om
 obtain ⟨bb6,oo6,rfl⟩:=hb.base hy
 obtain ⟨_,⟨qs7,cs7,qk7,ck7,rfl,hs7,hk7,hb7⟩,hc7⟩:=hb.elem hy
 have hs7n:=hs7.len
 have hk7n:=hk7.len
 refine aIx 6 rfl Tryz.underlying61 Zi1 (h:=aT 7 rfl (Z3 fun D=>ZI [_,_,_,_,_] rfl rfl ZfW rfl (Zhh hc7 0 rfl rfl) r4) (h:=aT 8 rfl (Z3 fun D=>Z5 rfl rfl ZEH rfl (hK m rfl _ _ _ _ _ _ _ _ x y _ hs4 hk4 hs7 hk7) r4) (h:=aN 9 rfl (h:=Zy kr kr ?_))))
 refine Zm (Zb rfl (fun g3=>?_) (fun g3=>?_))
 try simp only [sQ,ne_eq] at g3
 refine Za (xA (h:=Zf (Zt (Zj (ZJ (Zt (Zj ?_)))))))
 exact eR t1 ⟨Zc (Zdg hx hy g3),rfl,rfl⟩
 try simp only [sQ,ne_eq] at g3
 refine ZK (ZD (Zm (Zd (xM (h:=xD (h:=xA (h:=?_)))))))
 exact Zx (k+1) [] so2 ⟨rfl,oz,ZaZ hx hy g3 he⟩ t4 rfl
 try simp only [sQ,ne_eq] at g2
 refine ZA (ZQ (ZB (Zs (Zm (Za (xA (h:=Zf ?_)))))))
 exact eR t1 ⟨Zc (eqT oz oz he),rfl,rfl⟩

theorem Zyy (n:Nat) (hS:EqL J n) (q1 p1 q2 p2:Option Addr) (c1 d1 c2 d2:Nat) (a b:DKey) (B:Kn) (h1:SlK B q1 c1 2 ZN a.set) (k1:SlK B p1 d1 5 (Zbw n) a.keys) (h2:SlK B q2 c2 2 ZN b.set) (k2:SlK B p2 d2 5 (Zbw n) b.keys):Z1 (pj J) 23 [.agg #[.int .i64 a.kind,.int .i64 a.flag,str a.text,.slice q1 a.set.length c1,.slice p1 a.keys.length d1],.agg #[.int .i64 b.kind,.int .i64 b.flag,str b.text,.slice q2 b.set.length c2,.slice p2 b.keys.length d2]] B (.bool (decide (a=b))):=by
 refine cB 32 Tryz.func23 (h:=?_)
 refine Za (xBx [_,_,_,_,_] (h:=fun b1=>xBx [_,_,_,_,_] (h:=fun b2=>xA (h:=tL2 (Ze (Za (xW ZbD (h:=x1 lk3 0 (h:=xW ZbD (h:=x1 lk3 1 (h:=Zaa (h:=Zb rfl (fun g1=>?_) (fun g1=>?_)))))))))))))
 try simp only [sQ,ne_eq] at g1
 refine Za (xA (h:=Zf (Zj ?_)))
 exact eR t1 ⟨Zc (by symm;rw [decide_eq_false_iff_not];rintro rfl;exact g1 rfl),rfl,rfl⟩
 try simp only [sQ,ne_eq] at g1
 refine wSk (Ze (Za (xW Ze3 (h:=x1 lk3 0 (h:=xW Ze3 (h:=x1 lk3 1 (h:=Zaa (h:=Zb rfl (fun g2=>?_) (fun g2=>?_)))))))))
 try simp only [sQ,ne_eq] at g2
 refine Za (xA (h:=Zf (Zj ?_)))
 exact eR t1 ⟨Zc (by symm;rw [decide_eq_false_iff_not];rintro rfl;exact g2 rfl),rfl,rfl⟩
 try simp only [sQ,ne_eq] at g2
 refine wSk (Ze (Za (xW ZeK (h:=x1 lk9 0 (h:=xW ZeK (h:=x1 lk9 1 (h:=Zd0 (h:=Zb rfl (fun g3=>?_) (fun g3=>?_)))))))))
 try simp only [sQ,ne_eq] at g3
 refine Za (xA (h:=Zf (Zj ?_)))
 exact eR t1 ⟨Zc (by symm;rw [decide_eq_false_iff_not];rintro rfl;exact g3 rfl),rfl,rfl⟩
 try simp only [sQ,ne_eq] at g3
 refine wSk (Ze (Za (xW Zcf (h:=x1 Zj6 0 (h:=xW Zcf (h:=x1 Zj6 1 (h:=xR ZFW rfl (ZsX _ _ _ _ _ _ _ h1 h2) (h:=xN (h:=Zb rfl (fun g4=>?_) (fun g4=>?_))))))))))
 try simp only [sQ,ne_eq] at g4
 refine Za (xA (h:=Zf (Zj ?_)))
 exact eR t1 ⟨Zc (by symm;rw [decide_eq_false_iff_not];rintro rfl;exact g4 rfl),rfl,rfl⟩
 try simp only [sQ,ne_eq] at g4
 refine wSk (Ze (Za (xW Zbk (h:=x1 ZhF 0 (h:=xW Zbk (h:=x1 ZhF 1 (h:=xR ZFv rfl (hS _ _ _ _ a.keys b.keys _ k1 k2) (h:=xN (h:=Zb rfl (fun g5=>?_) (fun g5=>?_))))))))))
 try simp only [sQ,ne_eq] at g5
 refine Za (xA (h:=Zf (Zj ?_)))
 exact eR t1 ⟨Zc (by symm;rw [decide_eq_false_iff_not];rintro rfl;exact g5 rfl),rfl,rfl⟩
 try simp only [sQ,ne_eq] at g5
 refine wSk (Za (xA (h:=Zf ?_)))
 exact eR t1 ⟨Zc (by symm;rw [decide_eq_true_eq];exact DKey.ext (by simpa using g1) (by simpa using g2) (by simpa using g3) (by simpa using g4) (by simpa using g5)),rfl,rfl⟩

theorem Zs1 (n:Nat):EqL J n∧EqK J n:=ZdR (L:=EqL J) (K:=EqK J) (fun n h=>Zvx n h) (fun n h=>Zyy n h) n

def MkL (J : JoinT) (n : Nat) : Prop := ∀ (q : Option Addr) (cp : Nat) (xs : List DKey) (l : Cells) (k : Nat) (hk : kL Zer k xs ≤ 800000000000000) (hn : xs.length ≤ 2000000) (B : Kn) (hv : ZaM l q cp 63 5 (Zhz 93 63 n) xs), Zu (pj J) 66 [.slice q xs.length cp, .int .i64 k] B [l] (fun v B' Ls => B' = B ∧ ∃ l' ys, Ls = [l'] ∧ v = .int .i64 ((kL Zer k xs : Nat) : Int) ∧ ys.length = xs.length ∧ ZaM l' q cp 63 5 (Zhz 93 63 n) ys)
theorem ZpC (n:Nat) (hK :∀m,n=m+1→MkL J m) (q:Option Addr) (cp:Nat) (xs:List DKey) (l:Cells) (k:Nat) (hk:kL Zer k xs≤800000000000000) (hn:xs.length≤2000000) (B:Kn) (hv:ZaM l q cp 63 5 (Zhz 93 63 n) xs):Zu (pj J) 66 [.slice q xs.length cp,.int .i64 k] B [l] (fun v B' Ls=>B'=B∧∃l' ys,Ls=[l']∧v = .int .i64 ((kL Zer k xs:Nat):Int)∧ys.length=xs.length∧ZaM l' q cp 63 5 (Zhz 93 63 n) ys):=by
 refine cB 49 Tryz.func66 (h:=?_)
 have hvc:=hv.cap
 refine Za (xA (h:=Ze (Za (xA (h:=Zg (Zv (α:=Nat × Nat × Cells × List DKey) [4] (fun g=>[(0,.slice q xs.length cp),(1,.int .i64 ((g.2.1:Nat):Int)),(5,.int .i64 g.1)]) [0] (fun g=>[g.2.2.1]) (fun g Bx=>Bx=B∧g.1≤xs.length∧g.2.1=kL Zer k (xs.take g.1)∧g.2.2.2.length=xs.length∧g.2.2.2.drop g.1=xs.drop g.1∧ZaM g.2.2.1 q cp 63 5 (Zhz 93 63 n) g.2.2.2) (fun g=>xs.length - g.1) (0,k,l,xs) t3 rfl (⟨rfl,Nat.zero_le _,Zsa.symm,rfl,rfl,hv⟩) (fun g B1 hle1 hI=>?_)))))))
 obtain ⟨rfl,hi,hs,hle,hd,hw⟩:=hI
 refine Zz [(0,_),(1,_),(4,_),(5,_)] [_] t4 rfl (Ze (Za (xM (h:=xM (h:=xV Tryz.underlying61 (h:=ZC (h:=Zb rfl (fun g1=>?_) (fun g1=>?_))))))))
 try simp only [sQ,ne_eq] at g1
 obtain ⟨m,rfl⟩:=hw.succ oz
 obtain ⟨x,hx⟩:=ZM (xs:=xs) (i:=g.1) oz
 have hy:=(ZkB hd).trans hx
 have hkl:=Nat.le_trans (ZxS (st:=Zer) (k:=k) hx) hk
 rw [← hs] at hkl
 have hst:=Zoe x
 have hst2:kL Zer (g.2.1+1+1+1+2*x.set.length) x.keys=g.2.1+Zer x:=by unfold kL;omega
 refine wSk (Ze (Zg (Za (xM (h:=xM (h:=xM (h:=?_)))))))
 obtain ⟨bb2,_,li2,lr2,hp2,⟨qg2,cg2,qm2,cm2,ia2,ib2,rfl,rfl,hg2,hm2,ho2,hx2,hy2⟩,hw2,hq2,hc2,hk2⟩:=hw.cell (B:=B1) (L:=[g.2.2.1]) hy 0 rfl
 refine xIp hp2 Tryz.underlying61 Zi1 (h:=xW ZbD (h:=Zh (Zga (k:=g.1) (us:=[_]) ((.mk ((g.2.1:Nat):Int) x.flag x.text x.set x.keys:DKey)) 0 0 rfl hw hp2 hy rfl rfl sz3 rfl rfl rfl rfl (Nat.le_of_ble_eq_true rfl) (by rintro _ _ ⟨_,_,_,_,_,_,rfl,rfl,h1,h2,h3,h4,h5⟩;exact ⟨_,_,_,_,_,_,rfl,rfl,h1,h2,h3,h4,h5⟩) (fun l3 hv3=>?_))))
 have hs3:=Zcn (z:=((.mk ((g.2.1:Nat):Int) x.flag x.text x.set x.keys:DKey))) hy
 refine tL1 (Za (xM (h:=xD (h:=xA (h:=Za (xM (h:=xM (h:=xM (h:=?_)))))))))
 obtain ⟨bb4,_,li4,lr4,hp4,⟨qg4,cg4,qm4,cm4,ia4,ib4,rfl,rfl,hg4,hm4,ho4,hx4,hy4⟩,hw4,hq4,hc4,hk4⟩:=hv3.cell (B:=B1) (L:=[l3]) hs3 0 rfl
 refine xIp hp4 Tryz.underlying61 Zi1 (h:=xW Ze3 (h:=Zh (Zga (k:=g.1) (us:=[_]) ((.mk ((g.2.1:Nat):Int) ((g.2.1+1:Nat):Int) x.text x.set x.keys:DKey)) 1 0 rfl hv3 hp4 hs3 rfl rfl sz3 rfl rfl rfl rfl (Nat.le_of_ble_eq_true rfl) (by rintro _ _ ⟨_,_,_,_,_,_,rfl,rfl,h1,h2,h3,h4,h5⟩;exact ⟨_,_,_,_,_,_,rfl,rfl,h1,h2,h3,h4,h5⟩) (fun l5 hv5=>?_))))
 rw [List.set_set] at hv5
 have hs5:=Zcn (z:=((.mk ((g.2.1:Nat):Int) ((g.2.1+1:Nat):Int) x.text x.set x.keys:DKey))) hy
 refine tL1 (Za (xM (h:=xD (h:=xA (h:=Za (xM (h:=xM (h:=xM (h:=xR ZiT rfl (Zbm (((g.2.1)+1)+1) oz _) (h:=?_))))))))))
 obtain ⟨bb7,_,li7,lr7,hp7,⟨qg7,cg7,qm7,cm7,ia7,ib7,rfl,rfl,hg7,hm7,ho7,hx7,hy7⟩,hw7,hq7,hc7,hk7⟩:=hv5.cell (B:=B1) (L:=[l5]) hs5 0 rfl
 refine xIp hp7 Tryz.underlying61 Zi1 (h:=xW ZeK (h:=Zh (Zga (k:=g.1) (us:=[_]) ((.mk ((g.2.1:Nat):Int) ((g.2.1+1:Nat):Int) (ZU (g.2.1+1+1)) x.set x.keys:DKey)) 2 0 rfl hv5 hp7 hs5 rfl rfl sz9 rfl rfl rfl rfl (Nat.le_of_ble_eq_true rfl) (by rintro _ _ ⟨_,_,_,_,_,_,rfl,rfl,h1,h2,h3,h4,h5⟩;exact ⟨_,_,_,_,_,_,rfl,rfl,h1,h2,show (ZU (g.2.1+1+1)).length≤2000000 from Nat.le_trans (Zbi (k:=g.2.1+1+1) oz) (by decide),h4,h5⟩) (fun l8 hv8=>?_))))
 rw [List.set_set] at hv8
 have hs8:=Zcn (z:=((.mk ((g.2.1:Nat):Int) ((g.2.1+1:Nat):Int) (ZU (g.2.1+1+1)) x.set x.keys:DKey))) hy
 refine tL1 ?_
 obtain ⟨bb9,_,li9,lr9,hp9,⟨qg9,cg9,qm9,cm9,ia9,ib9,rfl,rfl,hg9,hm9,ho9,hx9,hy9⟩,hw9,hq9,hc9,hk9⟩:=hv8.cell (B:=B1) (L:=[_]) hs8 0 rfl
 replace hc9:=fun m u h=>(hc9 m u h).perm (Zd2 0 rfl (Zlr hq9))
 refine ZgH 0 rfl (Zlr hq9) ?_
 refine Za ?_
 refine Zh (Za9 rfl rfl rfl ?_)
 refine Zh (ZeM rfl rfl rfl rfl (by first | exact Zb2 (by first | omega | (simp;done) | (simp;omega)) (by first | omega | (simp;done) | (simp;omega)) | rfl) ?_)
 refine Zh (ZbF rfl rfl rfl ?_)
 refine Zo2 [_,_,_] rfl ?_
 refine Za ?_
 refine Zh (Za9 rfl rfl rfl ?_)
 refine Zh (Za9 rfl rfl rfl ?_)
 refine Zh (ZgI hp9 rfl rfl Tryz.underlying61 Zi1 rfl rfl (by first | omega | (simp;done) | (simp;omega)) (by first | omega | (simp;done) | (simp;omega)) ?_)
 refine Zh (Zac rfl rfl Zcf rfl ?_)
 refine Zh (Zn rfl rfl Zj6 rfl (hc9 3 _ rfl) ?_)
 refine Zh (Za9 rfl rfl rfl ?_)
 refine Zh (Zbx [1] rfl rfl rfl rfl ZEK rfl (Zib _ _ x.set _ ((((g.2.1)+1)+1)+1) (by omega) (by omega) _ (hg9.anyK ZN.any)) ?_)
 rintro _ B10 _ hle10 ⟨rfl,l10,rfl,rfl,hs10⟩
 refine xA (h:=tL3 (Zen 0 2 rfl rfl (by decide) ?_))
 refine Zen 0 1 rfl rfl (by decide) ?_
 have hv11:=hk9 (.mk ((g.2.1:Nat):Int) ((g.2.1+1:Nat):Int) (ZU (g.2.1+1+1)) (ZcI ((((g.2.1)+1)+1)+1) x.set.length) x.keys:DKey) _ ⟨qg9,cg9,qm9,cm9,_,_,by simp only [DKey.kind,DKey.flag,DKey.text,DKey.set,DKey.keys,Zey],rfl,hs10.anyK ZN.any,hm9,show (ZU (g.2.1+1+1)).length≤2000000 from Nat.le_trans (Zbi (k:=g.2.1+1+1) oz) (by decide),by first | assumption | (simp only [DKey.set,Zey] at *;omega),by first | assumption | (simp only [DKey.keys] at *;omega)⟩
 rw [List.append_assoc,List.set_set] at hv11
 have hs11:=Zcn (z:=((.mk ((g.2.1:Nat):Int) ((g.2.1+1:Nat):Int) (ZU (g.2.1+1+1)) (ZcI ((((g.2.1)+1)+1)+1) x.set.length) x.keys:DKey))) hy
 refine ZmJ [0] rfl ?_
 obtain ⟨bb12,_,li12,lr12,hp12,⟨qg12,cg12,qm12,cm12,ia12,ib12,rfl,rfl,hg12,hm12,ho12,hx12,hy12⟩,hw12,hq12,hc12,hk12⟩:=hv11.cell (B:=B10) (L:=[_]) hs11 0 rfl
 replace hc12:=fun m u h=>(hc12 m u h).perm (Zd2 0 rfl (Zlr hq12))
 refine ZgH 0 rfl (Zlr hq12) ?_
 refine Zd ?_
 refine Zh (Za9 rfl rfl rfl ?_)
 refine Zh (Za9 rfl rfl rfl ?_)
 refine Zh (ZgI hp12 rfl rfl Tryz.underlying61 Zi1 rfl rfl (by first | omega | (simp;done) | (simp;omega)) (by first | omega | (simp;done) | (simp;omega)) ?_)
 refine Zh (Zac rfl rfl Zbk rfl ?_)
 refine Zh (Zn rfl rfl ZhF rfl (hc12 4 _ rfl) ?_)
 refine Zh (Za9 rfl rfl rfl ?_)
 refine Zh (Zbx [2] rfl rfl rfl rfl ZEC rfl (hK m rfl _ _ x.keys _ (((((g.2.1)+1)+1)+1)+2*x.set.length) (by first | assumption | omega) (by omega) _ hm12) ?_)
 rintro _ B13 _ hle13 ⟨rfl,l13,ys13,rfl,rfl,hl13,hs13⟩
 refine xA (h:=ZD (Zm (Zen 0 2 rfl rfl (by decide) ?_)))
 refine Zen 0 1 rfl rfl (by decide) ?_
 have hv14:=hk12 (.mk ((g.2.1:Nat):Int) ((g.2.1+1:Nat):Int) (ZU (g.2.1+1+1)) (ZcI (g.2.1+1+1+1) x.set.length) ys13:DKey) _ ⟨qg12,cg12,qm12,cm12,_,_,by simp only [DKey.kind,DKey.flag,DKey.text,DKey.set,DKey.keys,Zey,hl13],rfl,hg12.anyK ZN.any,hs13,show (ZU (g.2.1+1+1)).length≤2000000 from Nat.le_trans (Zbi (k:=g.2.1+1+1) oz) (by decide),by first | assumption | (simp only [DKey.set,Zey] at *;omega),by first | assumption | (simp only [DKey.keys,hl13] at *;omega)⟩
 rw [List.append_assoc,List.set_set] at hv14
 have hs14:=Zcn (z:=((.mk ((g.2.1:Nat):Int) ((g.2.1+1:Nat):Int) (ZU (g.2.1+1+1)) (ZcI (g.2.1+1+1+1) x.set.length) ys13:DKey))) hy
 refine ZmJ [0] rfl (Zd (xM (h:=xD (h:=xA (h:=?_)))))
 exact Zx (g.1+1,kL Zer (g.2.1+1+1+1+2*x.set.length) x.keys,_,(g.2.2.2.set g.1 ((.mk ((g.2.1:Nat):Int) ((g.2.1+1:Nat):Int) (ZU (g.2.1+1+1)) (ZcI (g.2.1+1+1+1) x.set.length) ys13:DKey)))) [0] so2 ⟨rfl,so,by simp only [];rw [Zkb hx,← hs];omega,ZjK hle,ZkA hd,hv14⟩ t4 rfl
 try simp only [sQ,ne_eq] at g1
 refine ZA (ZQ (ZB (Zs (Zm (Za (xM (h:=xA (h:=Zf ?_))))))))
 exact Zdh .ret (.inl rfl) [_] [0] rfl ⟨rfl,trivial⟩ ⟨rfl,_,_,rfl,by rw [hs,Zsb (by omega)];rfl,hle,hw⟩

theorem ZlK (n:Nat):MkL J n:=(ZdR (L:=MkL J) (K:=MkL J) (fun n h=>ZpC n h) (fun _ h=>h) n).1

def NdK (J : JoinT) (n : Nat) : Prop := ∀ (q q' : Option Addr) (c c' : Nat) (x : DKey) (hN : x.nodes ≤ 2000000) (B : Kn) (hs : SlK B q c 2 ZN x.set) (hk : SlK B q' c' 5 (Zbw n) x.keys), Z1 (pj J) 112 [.agg #[.int .i64 x.kind, .int .i64 x.flag, str x.text, .slice q x.set.length c, .slice q' x.keys.length c']] B (.int .i64 x.nodes)
theorem ZpL (n:Nat) (hK :∀m,n=m+1→NdK J m) (q q':Option Addr) (c c':Nat) (x:DKey) (hN:x.nodes≤2000000) (B:Kn) (hs:SlK B q c 2 ZN x.set) (hk:SlK B q' c' 5 (Zbw n) x.keys):Z1 (pj J) 112 [.agg #[.int .i64 x.kind,.int .i64 x.flag,str x.text,.slice q x.set.length c,.slice q' x.keys.length c']] B (.int .i64 x.nodes):=by
 refine cB 21 Tryz.func112 (h:=?_)
 have hkn:=hk.len
 have hxe:=Zow x
 refine Za (xBx [_,_,_,_,_] (h:=fun b1=>xA (h:=tL1 (Za (xA (h:=Ze (Za (xA (h:=Zg (Zv (α:=Nat × Nat) [0,1,2] (fun g=>[(3,.int .i64 g.2),(4,.int .i64 g.1)]) [] (fun g=>[]) (fun g Bx=>Bx=B∧g.1≤x.keys.length∧g.2=1+DKey.nodesL (x.keys.take g.1)) (fun g=>x.keys.length - g.1) (0,1) t2 rfl (⟨rfl,Nat.zero_le _,rfl⟩) (fun g B2 hle2 hI=>?_)))))))))))
 obtain ⟨rfl,hk0,hn0⟩:=hI
 refine Zz [(0,_),(1,_),(2,_),(3,_),(4,_)] [_] t5 rfl (Ze (Za (xM (h:=xW Zbk (h:=x1 ZhF 0 (h:=xV Tryz.underlying61 (h:=ZC (h:=Zb rfl (fun g1=>?_) (fun g1=>?_)))))))))
 try simp only [sQ,ne_eq] at g1
 obtain ⟨m,rfl⟩:=hk.succ oz
 refine wSk (Ze (Zg (Zd (xM (h:=xW Zbk (h:=x1 ZhF 0 (h:=xM (h:=?_))))))))
 obtain ⟨z,hz⟩:=ZM (xs:=x.keys) (i:=g.1) om
 obtain ⟨bb4,oo4,rfl⟩:=hk.base hz
 obtain ⟨_,⟨qs5,cs5,qk5,ck5,rfl,hs5,hk5,hb5⟩,hc5⟩:=hk.elem hz
 have hs5n:=hs5.len
 have hk5n:=hk5.len
 refine xIx Tryz.underlying61 Zi1 (h:=?_)
 have hzn:=Zpy hz
 have hzl:=ZjY x.keys (g.1+1)
 refine yL [_,_,_,_,_] ZfW hc5 0 (h:=xR ZAI rfl (hK m rfl _ _ _ _ z om2 _ hs5 hk5) (h:=?_))
 refine xD (h:=xA (h:=ZD (Zm (Zd (xM (h:=xD (h:=xA (h:=?_))))))))
 exact Zx (g.1+1,g.2+z.nodes) [0] so2 ⟨rfl,so,so⟩ t5 rfl
 try simp only [sQ,ne_eq] at g1
 refine ZA (ZQ (ZB (Zs (Zm (Za (xM (h:=xA (h:=Zf ?_))))))))
 exact eR t1 ⟨ZH (by rw [List.take_of_length_le oz] at hn0;omega),rfl,rfl⟩

theorem ZlS (n:Nat):NdK J n:=(ZdR (L:=fun n=>∀m,n=m+1→NdK J m) (K:=NdK J) (fun n h=>h) (fun n h=>ZpL n h) n).2

theorem Zr6 (n:Int) (B:Kn):Z1 (pj J) 197 [.int .i64 n] B (.bool (ZbB n)):=by
 refine cB 21 Tryz.func197 (h:=?_)
 refine Za (xA (h:=Za (xM (h:=Z2 (h:=xM (h:=Zq (d:=5) rfl (fun g1=>?_) (fun g1=>?_)))))))
 refine xP (h:=xP (h:=xT (h:=xM (h:=xP (h:=xP (h:=xT (h:=xM (h:=xP (h:=xP (h:=xT (h:=xM (h:=xP (h:=xP (h:=xT (h:=xA (h:=Zf ?_))))))))))))))))
 exact eR t1 ⟨Zc (by simp [ZbB, *]),rfl,rfl⟩
 refine xM (h:=Z2 (h:=xF (h:=xM (h:=Zq (d:=9) rfl (fun g2=>?_) (fun g2=>?_)))))
 refine xP (h:=xP (h:=xT (h:=xM (h:=xP (h:=xP (h:=xT (h:=xM (h:=xP (h:=xP (h:=xT (h:=xA (h:=Zf ?_))))))))))))
 exact eR t1 ⟨Zc (by simp [ZbB, *]),rfl,rfl⟩
 refine xM (h:=Z2 (h:=xF (h:=xM (h:=Zq (d:=13) rfl (fun g3=>?_) (fun g3=>?_)))))
 refine xP (h:=xP (h:=xT (h:=xM (h:=xP (h:=xP (h:=xT (h:=xA (h:=Zf ?_))))))))
 exact eR t1 ⟨Zc (by simp [ZbB, *]),rfl,rfl⟩
 refine xM (h:=Z2 (h:=xF (h:=xM (h:=Zq (d:=17) rfl (fun g4=>?_) (fun g4=>?_)))))
 refine xP (h:=xP (h:=xT (h:=xA (h:=Zf ?_))))
 exact eR t1 ⟨Zc (by simp [ZbB, *]),rfl,rfl⟩
 refine xM (h:=Z2 (h:=xF (h:=xA (h:=Zf ?_))))
 exact eR t1 ⟨Zc (by simp [ZbB, *]),rfl,rfl⟩

theorem Zr4 (s:Str) (h1:s.length≤2000000) (B:Kn):Z1 (pj J) 198 [str s] B (.bool (Zaj s)):=by
 refine cB 5 Tryz.func198 (h:=?_)
 refine Za (xA (h:=Za (xM (h:=xR Zmd rfl (Zca _ om2 _) (h:=?_)))))
 refine xA (h:=Zf ?_)
 exact eR t1 ⟨rfl,rfl,rfl⟩

theorem Zr5 (n:Nat) (q q':Option Addr) (c c':Nat) (x:DKey) (h1:x.text.length≤2000000) (B:Kn) (hs:SlK B q c 2 ZN x.set) (hk:SlK B q' c' 5 (Zbw n) x.keys):Z1 (pj J) 155 [.agg #[.int .i64 x.kind,.int .i64 x.flag,str x.text,.slice q x.set.length c,.slice q' x.keys.length c']] B (.bool x.nodeOk):=by
 refine cB 92 Tryz.func155 (h:=?_)
 have hkn:=hk.len
 have hsn:=hs.len
 refine Za (xBx [_,_,_,_,_] (h:=fun b1=>xA (h:=tL1 (Ze (ZeQ (α:=Bool) [0,1,2] (fun bb=>[(36,.bool bb)]) [] (fun bb=>[]) (fun bb=>[]) (fun bb Bx=>Bx=B∧bb = !x.bare) ?_ (fun bb B2 hle2 hF=>?_))))))
 refine Zd (xW ZbD (h:=x1 lk3 0 (h:=Zaa (h:=xM (h:=Zq (d:=6) rfl (fun g1=>?_) (fun g1=>?_))))))
 refine xW Ze3 (h:=x1 lk3 0 (h:=Zaa (h:=xT (h:=xM (h:=Zq (d:=11) rfl (fun g2=>?_) (fun g2=>?_))))))
 refine xP (h:=xP (h:=xP (h:=xP (h:=xP (h:=xP (h:=xP (h:=xP (h:=xT (h:=xM (h:=xP (h:=xP (h:=xP (h:=xP (h:=xP (h:=xP (h:=xP (h:=xP (h:=xP (h:=xP (h:=xP (h:=xP (h:=xP (h:=xP (h:=xT (h:=?_)))))))))))))))))))))))))
 exact ZX _ [0] ⟨rfl,by simp only [DKey.bare];first | (simp_all;done) | (simp_all;cases x.set <;> simp)⟩ t4 rfl
 refine xW ZbD (h:=x1 lk3 0 (h:=Zaa (h:=xM (h:=Zq (d:=15) rfl (fun g3=>?_) (fun g3=>?_)))))
 refine xW ZeK (h:=x1 lk9 0 (h:=Zd0 (h:=xT (h:=xF (h:=xM (h:=Zq (d:=21) rfl (fun g4=>?_) (fun g4=>?_)))))))
 refine xP (h:=xP (h:=xP (h:=xP (h:=xP (h:=xP (h:=xP (h:=xP (h:=xP (h:=xP (h:=xP (h:=xP (h:=xP (h:=xP (h:=xT (h:=?_)))))))))))))))
 exact ZX _ [0] ⟨rfl,by simp only [DKey.bare];first | (simp_all;done) | (simp_all;cases x.set <;> simp)⟩ t4 rfl
 refine xW ZbD (h:=x1 lk3 0 (h:=Zaa (h:=xM (h:=Zq (d:=25) rfl (fun g5=>?_) (fun g5=>?_)))))
 refine xW ZbD (h:=x1 lk3 0 (h:=Zaa (h:=xT (h:=xM (h:=Zq (d:=30) rfl (fun g6=>?_) (fun g6=>?_))))))
 refine xW Zcf (h:=x1 Zj6 0 (h:=xV Tryz.underlying47 (h:=Zc8 (h:=xT (h:=xF (h:=?_))))))
 exact ZX _ [0] ⟨rfl,by simp only [DKey.bare];first | (simp_all;done) | (simp_all;cases x.set <;> simp)⟩ t4 rfl
 refine xP (h:=xP (h:=xP (h:=xP (h:=xF (h:=xF (h:=?_))))))
 exact ZX _ [0] ⟨rfl,by simp only [DKey.bare];first | (simp_all;done) | (simp_all;cases x.set <;> simp)⟩ t4 rfl
 refine xP (h:=xP (h:=xP (h:=xF (h:=xM (h:=xP (h:=xP (h:=xP (h:=xP (h:=xF (h:=xF (h:=?_)))))))))))
 exact ZX _ [0] ⟨rfl,by simp only [DKey.bare];first | (simp_all;done) | (simp_all;cases x.set <;> simp)⟩ t4 rfl
 refine xP (h:=xP (h:=xP (h:=xF (h:=xF (h:=xM (h:=xW ZbD (h:=x1 lk3 0 (h:=Zaa (h:=xM (h:=Zq (d:=25) rfl (fun g7=>?_) (fun g7=>?_)))))))))))
 refine xW ZbD (h:=x1 lk3 0 (h:=Zaa (h:=xT (h:=xM (h:=Zq (d:=30) rfl (fun g8=>?_) (fun g8=>?_))))))
 refine xW Zcf (h:=x1 Zj6 0 (h:=xV Tryz.underlying47 (h:=Zc8 (h:=xT (h:=xF (h:=?_))))))
 exact ZX _ [0] ⟨rfl,by simp only [DKey.bare];first | (simp_all;done) | (simp_all;cases x.set <;> simp)⟩ t4 rfl
 refine xP (h:=xP (h:=xP (h:=xP (h:=xF (h:=xF (h:=?_))))))
 exact ZX _ [0] ⟨rfl,by simp only [DKey.bare];first | (simp_all;done) | (simp_all;cases x.set <;> simp)⟩ t4 rfl
 refine xP (h:=xP (h:=xP (h:=xF (h:=xM (h:=xP (h:=xP (h:=xP (h:=xP (h:=xF (h:=xF (h:=?_)))))))))))
 exact ZX _ [0] ⟨rfl,by simp only [DKey.bare];first | (simp_all;done) | (simp_all;cases x.set <;> simp)⟩ t4 rfl
 refine xP (h:=xP (h:=xP (h:=xF (h:=xM (h:=xW ZbD (h:=x1 lk3 0 (h:=Zaa (h:=xM (h:=Zq (d:=15) rfl (fun g9=>?_) (fun g9=>?_))))))))))
 refine xW ZeK (h:=x1 lk9 0 (h:=Zd0 (h:=xT (h:=xF (h:=xM (h:=Zq (d:=21) rfl (fun g10=>?_) (fun g10=>?_)))))))
 refine xP (h:=xP (h:=xP (h:=xP (h:=xP (h:=xP (h:=xP (h:=xP (h:=xP (h:=xP (h:=xP (h:=xP (h:=xP (h:=xP (h:=xT (h:=?_)))))))))))))))
 exact ZX _ [0] ⟨rfl,by simp only [DKey.bare];first | (simp_all;done) | (simp_all;cases x.set <;> simp)⟩ t4 rfl
 refine xW ZbD (h:=x1 lk3 0 (h:=Zaa (h:=xM (h:=Zq (d:=25) rfl (fun g11=>?_) (fun g11=>?_)))))
 refine xW ZbD (h:=x1 lk3 0 (h:=Zaa (h:=xT (h:=xM (h:=Zq (d:=30) rfl (fun g12=>?_) (fun g12=>?_))))))
 refine xW Zcf (h:=x1 Zj6 0 (h:=xV Tryz.underlying47 (h:=Zc8 (h:=xT (h:=xF (h:=?_))))))
 exact ZX _ [0] ⟨rfl,by simp only [DKey.bare];first | (simp_all;done) | (simp_all;cases x.set <;> simp)⟩ t4 rfl
 refine xP (h:=xP (h:=xP (h:=xP (h:=xF (h:=xF (h:=?_))))))
 exact ZX _ [0] ⟨rfl,by simp only [DKey.bare];first | (simp_all;done) | (simp_all;cases x.set <;> simp)⟩ t4 rfl
 refine xP (h:=xP (h:=xP (h:=xF (h:=xM (h:=xP (h:=xP (h:=xP (h:=xP (h:=xF (h:=xF (h:=?_)))))))))))
 exact ZX _ [0] ⟨rfl,by simp only [DKey.bare];first | (simp_all;done) | (simp_all;cases x.set <;> simp)⟩ t4 rfl
 refine xP (h:=xP (h:=xP (h:=xF (h:=xF (h:=xM (h:=xW ZbD (h:=x1 lk3 0 (h:=Zaa (h:=xM (h:=Zq (d:=25) rfl (fun g13=>?_) (fun g13=>?_)))))))))))
 refine xW ZbD (h:=x1 lk3 0 (h:=Zaa (h:=xT (h:=xM (h:=Zq (d:=30) rfl (fun g14=>?_) (fun g14=>?_))))))
 refine xW Zcf (h:=x1 Zj6 0 (h:=xV Tryz.underlying47 (h:=Zc8 (h:=xT (h:=xF (h:=?_))))))
 exact ZX _ [0] ⟨rfl,by simp only [DKey.bare];first | (simp_all;done) | (simp_all;cases x.set <;> simp)⟩ t4 rfl
 refine xP (h:=xP (h:=xP (h:=xP (h:=xF (h:=xF (h:=?_))))))
 exact ZX _ [0] ⟨rfl,by simp only [DKey.bare];first | (simp_all;done) | (simp_all;cases x.set <;> simp)⟩ t4 rfl
 refine xP (h:=xP (h:=xP (h:=xF (h:=xM (h:=xP (h:=xP (h:=xP (h:=xP (h:=xF (h:=xF (h:=?_)))))))))))
 exact ZX _ [0] ⟨rfl,by simp only [DKey.bare];first | (simp_all;done) | (simp_all;cases x.set <;> simp)⟩ t4 rfl
 obtain ⟨rfl,hbb⟩:=hF
 refine Zz [(0,_),(1,_),(2,_),(36,_)] [_] t4 rfl (Zb rfl (fun g1=>?_) (fun g1=>?_))
 refine Za (xA (h:=Zf (Zj ?_)))
 exact eR t1 ⟨Zc (by rw [DKey.nodeOk,show x.bare=false by simpa [hbb] using g1,Bool.false_and]),rfl,rfl⟩
 have hb9:x.bare=true:=by simpa [hbb] using g1
 refine wSk (Ze (Za (xW ZbD (h:=x1 lk3 0 (h:=Zg (Za (Z2 (h:=xA (h:=Zb rfl (fun k0=>?_) (fun k0=>?_))))))))))
 refine Za (xW Zbk (h:=x1 ZhF 0 (h:=xV Tryz.underlying61 (h:=Z2 (h:=xA (h:=Zf (Zt (Zj ?_))))))))
 exact eR t1 ⟨Zc (by simp only [DKey.nodeOk];simp_all <;> omega),rfl,rfl⟩
 refine Za (Z2 (h:=xA (h:=Zb rfl (fun k1=>?_) (fun k1=>?_))))
 refine Za (xW Ze3 (h:=x1 lk3 0 (h:=xR ZDd rfl (Zr6 x.flag _) (h:=xM (h:=Zq (d:=50) rfl (fun f1=>?_) (fun f1=>?_))))))
 refine xW Zbk (h:=x1 ZhF 0 (h:=xV Tryz.underlying61 (h:=Z2 (h:=xT (h:=xA (h:=Zf (Zt (Zj ?_))))))))
 exact eR t1 ⟨Zc (by simp only [DKey.nodeOk];simp_all <;> omega),rfl,rfl⟩
 refine xP (h:=xP (h:=xP (h:=xP (h:=xF (h:=xA (h:=Zf (Zt (Zj ?_))))))))
 exact eR t1 ⟨Zc (by simp only [DKey.nodeOk];simp_all <;> omega),rfl,rfl⟩
 refine Za (Z2 (h:=xA (h:=Zb rfl (fun k2=>?_) (fun k2=>?_))))
 refine Za (xW ZeK (h:=x1 lk9 0 (h:=xR ZDc rfl (Zr4 x.text om2 _) (h:=?_))))
 refine xM (h:=Zq (d:=61) rfl (fun f2=>?_) (fun f2=>?_))
 refine xW Zbk (h:=x1 ZhF 0 (h:=xV Tryz.underlying61 (h:=Z2 (h:=xT (h:=xA (h:=Zf (Zt (Zj ?_))))))))
 exact eR t1 ⟨Zc (by simp only [DKey.nodeOk];simp_all <;> omega),rfl,rfl⟩
 refine xP (h:=xP (h:=xP (h:=xP (h:=xF (h:=xA (h:=Zf (Zt (Zj ?_))))))))
 exact eR t1 ⟨Zc (by simp only [DKey.nodeOk];simp_all <;> omega),rfl,rfl⟩
 refine Ze (Za (Z2 (h:=xA (h:=Zb rfl (fun k3=>?_) (fun k3=>?_)))))
 refine wSk (Zb rfl (fun m3=>?_) (fun m3=>by simp [k3] at m3))
 refine Za (xW Zcf (h:=x1 Zj6 0 (h:=xR ZEF rfl (Zlf _ _ x.set _ hs) (h:=xM (h:=Zq (d:=73) rfl (fun f3=>?_) (fun f3=>?_))))))
 refine xW Zbk (h:=x1 ZhF 0 (h:=xV Tryz.underlying61 (h:=Z2 (h:=xT (h:=xA (h:=Zf (Zt (Zj ?_))))))))
 exact eR t1 ⟨Zc (by simp only [DKey.nodeOk];simp_all <;> omega),rfl,rfl⟩
 refine xP (h:=xP (h:=xP (h:=xP (h:=xF (h:=xA (h:=Zf (Zt (Zj ?_))))))))
 exact eR t1 ⟨Zc (by simp only [DKey.nodeOk];simp_all <;> omega),rfl,rfl⟩
 refine Zd (Z2 (h:=xA (h:=Zm (Zb rfl (fun k4=>?_) (fun k4=>?_)))))
 refine Za (xW Zcf (h:=x1 Zj6 0 (h:=xR ZEF rfl (Zlf _ _ x.set _ hs) (h:=xM (h:=Zq (d:=73) rfl (fun f4=>?_) (fun f4=>?_))))))
 refine xW Zbk (h:=x1 ZhF 0 (h:=xV Tryz.underlying61 (h:=Z2 (h:=xT (h:=xA (h:=Zf (Zt (Zj ?_))))))))
 exact eR t1 ⟨Zc (by simp only [DKey.nodeOk];simp_all <;> omega),rfl,rfl⟩
 refine xP (h:=xP (h:=xP (h:=xP (h:=xF (h:=xA (h:=Zf (Zt (Zj ?_))))))))
 exact eR t1 ⟨Zc (by simp only [DKey.nodeOk];simp_all <;> omega),rfl,rfl⟩
 refine Za (Z2 (h:=xA (h:=Zb rfl (fun k5=>?_) (fun k5=>?_))))
 refine Za (xW Zbk (h:=x1 ZhF 0 (h:=xV Tryz.underlying61 (h:=Z2 (h:=xA (h:=Zf (Zt (Zj ?_))))))))
 exact eR t1 ⟨Zc (by simp only [DKey.nodeOk];simp_all <;> omega),rfl,rfl⟩
 refine Ze (Za (Z2 (h:=xA (h:=Zb rfl (fun k6=>?_) (fun k6=>?_)))))
 refine wSk (Zb rfl (fun m6=>?_) (fun m6=>by simp [k6] at m6))
 refine Za (xW Zbk (h:=x1 ZhF 0 (h:=xV Tryz.underlying61 (h:=Z2 (h:=xA (h:=Zf (Zt (Zj ?_))))))))
 exact eR t1 ⟨Zc (by simp only [DKey.nodeOk];simp_all <;> omega),rfl,rfl⟩
 refine Zd (Z2 (h:=xA (h:=Zm (Zb rfl (fun k7=>?_) (fun k7=>?_)))))
 refine Za (xW Zbk (h:=x1 ZhF 0 (h:=xV Tryz.underlying61 (h:=Z2 (h:=xA (h:=Zf (Zt (Zj ?_))))))))
 exact eR t1 ⟨Zc (by simp only [DKey.nodeOk];simp_all <;> omega),rfl,rfl⟩
 refine ZK (ZD (Zm (Za (xA (h:=Zf ?_)))))
 exact eR t1 ⟨Zc (by simp only [DKey.nodeOk];simp_all <;> omega),rfl,rfl⟩

def AlK (J : JoinT) (n : Nat) : Prop := ∀ (q q' : Option Addr) (c c' : Nat) (x : DKey) (h1 : x.text.length ≤ 2000000) (B : Kn) (hs : SlK B q c 2 ZN x.set) (hk : SlK B q' c' 5 (Zbw n) x.keys), Z1 (pj J) 111 [.agg #[.int .i64 x.kind, .int .i64 x.flag, str x.text, .slice q x.set.length c, .slice q' x.keys.length c']] B (.bool x.allOk)
theorem Zu2 (n:Nat) (hK :∀m,n=m+1→AlK J m) (q q':Option Addr) (c c':Nat) (x:DKey) (h1:x.text.length≤2000000) (B:Kn) (hs:SlK B q c 2 ZN x.set) (hk:SlK B q' c' 5 (Zbw n) x.keys):Z1 (pj J) 111 [.agg #[.int .i64 x.kind,.int .i64 x.flag,str x.text,.slice q x.set.length c,.slice q' x.keys.length c']] B (.bool x.allOk):=by
 refine cB 20 Tryz.func111 (h:=?_)
 have hkn:=hk.len
 refine Za (xBx [_,_,_,_,_] (h:=fun b1=>xA (h:=tL1 (Ze (Za (xA (h:=Zg (Zv (α:=Nat) [0,1] (fun k=>[(3,.int .i64 k)]) [] (fun k=>[]) (fun k Bx=>Bx=B∧k≤x.keys.length∧∀y,y∈x.keys.take k→y.allOk=true) (fun k=>x.keys.length - k) 0 t1 rfl (⟨rfl,Nat.zero_le _,by simp⟩) (fun k B2 hle2 hI=>?_)))))))))
 obtain ⟨rfl,hk0,hall⟩:=hI
 refine Zz [(0,_),(1,_),(3,_)] [_] t3 rfl (Ze (Za (xM (h:=xW Zbk (h:=x1 ZhF 0 (h:=xV Tryz.underlying61 (h:=ZC (h:=Zb rfl (fun g1=>?_) (fun g1=>?_)))))))))
 try simp only [sQ,ne_eq] at g1
 obtain ⟨m,rfl⟩:=hk.succ oz
 refine wSk (Ze (Zg (Za (xW Zbk (h:=x1 ZhF 0 (h:=xM (h:=?_)))))))
 obtain ⟨z,hz⟩:=ZM (xs:=x.keys) (i:=k) om
 obtain ⟨bb4,oo4,rfl⟩:=hk.base hz
 obtain ⟨_,⟨qs5,cs5,qk5,ck5,rfl,hs5,hk5,hb5⟩,hc5⟩:=hk.elem hz
 have hs5n:=hs5.len
 have hk5n:=hk5.len
 refine xIx Tryz.underlying61 Zi1 (h:=yL [_,_,_,_,_] ZfW hc5 0 (h:=xR ZAJ rfl (hK m rfl _ _ _ _ z om2 _ hs5 hk5) (h:=?_)))
 refine xN (h:=Zb rfl (fun g2=>?_) (fun g2=>?_))
 try simp only [sQ,ne_eq] at g2
 refine Za (xA (h:=Zf (Zt (Zj (ZJ (Zt (Zj ?_)))))))
 exact eR t1 ⟨Zc (by rw [ZeE,ZvZ hz (by simpa using g2)];rfl),rfl,rfl⟩
 try simp only [sQ,ne_eq] at g2
 refine ZK (ZD (Zm (Zd (xM (h:=xD (h:=xA (h:=?_)))))))
 exact Zx (k+1) [0] so2 ⟨rfl,oz,ZaW hz hall (by simpa using g2)⟩ t3 rfl
 try simp only [sQ,ne_eq] at g1
 refine ZA (ZQ (ZB (Zs (Zm (Za (xL [_,_,_,_,_] ZfW 0 (h:=xR ZDI rfl (Zr5 _ _ _ _ _ x om2 _ hs hk) (h:=?_))))))))
 refine xA (h:=Zf ?_)
 exact eR t1 ⟨Zc (by rw [ZeE,ZvY (Za0 oz hall),Bool.true_and]),rfl,rfl⟩

theorem ZpN (n:Nat):AlK J n:=(ZdR (L:=fun n=>∀m,n=m+1→AlK J m) (K:=AlK J) (fun n h=>h) (fun n h=>Zu2 n h) n).2

theorem Zli (n:Nat) (q q':Option Addr) (c c':Nat) (x:DKey) (h1:x.text.length≤2000000) (hN:x.nodes≤2000000) (B:Kn) (hs:SlK B q c 2 ZN x.set) (hk:SlK B q' c' 5 (Zbw n) x.keys):Z1 (pj J) 59 [.agg #[.int .i64 x.kind,.int .i64 x.flag,str x.text,.slice q x.set.length c,.slice q' x.keys.length c']] B (.bool (ZdE x)):=by
 refine cB 10 Tryz.func59 (h:=?_)
 refine Za (xBx [_,_,_,_,_] (h:=fun b1=>xA (h:=tL1 (Za (xL [_,_,_,_,_] ZfW 0 (h:=xR ZAJ rfl (ZpN _ _ _ _ _ x om2 _ hs hk) (h:=?_)))))))
 refine xM (h:=Zq (d:=5) rfl (fun g1=>?_) (fun g1=>?_))
 refine xL [_,_,_,_,_] ZfW 0 (h:=xR ZAI rfl (ZlS _ _ _ _ _ x om2 _ hs hk) (h:=?_))
 refine Zbd (h:=xT (h:=xA (h:=Zf ?_)))
 exact eR t1 ⟨Zc (by first | (simp [ZdE,g1];done) | (simp [ZdE,g1];omega)),rfl,rfl⟩
 refine xP (h:=xP (h:=xP (h:=xF (h:=xA (h:=Zf ?_)))))
 exact eR t1 ⟨Zc (by simp [ZdE,g1]),rfl,rfl⟩

end Go.Proofs.YtonfijmgahdgeaaGreatDoor
