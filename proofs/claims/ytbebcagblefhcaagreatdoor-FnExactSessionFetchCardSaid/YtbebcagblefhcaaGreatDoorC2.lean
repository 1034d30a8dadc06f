/-
  WHAT THE FUNCTIONS THAT THE LAWS REACH COMPUTE: each function's contract, proved off its printed body (the text is written by program). No condition beyond those that each theorem states.
-/
import Derived.Test.YtbebcagblefhcaaGreatDoorC1
namespace Go.BL
open Go.Conc Go.ConcN
theorem ZaM.nil {α:Type} {T:TypeId} {w:Nat} {R:ZgD α} : ZaM [] Option.none 0 T w R ([]:List α):=⟨[],[],[],.nil,(fun _ h=>by cases h),by simp,Zhx.nil T w⟩
theorem Zx.frame1 {P:PJ} {B:Kn} {f:FuncId} {args:List Value} {s:Cells} {r:List Cells} {Post:Value→Kn→List Cells→Prop} (h:Zx P f args B [s] Post):Zx P f args B (s :: r) (fun v B' Ls=>∃Ls1,Post v B' Ls1∧Ls=Ls1 ++ r):=fun X kind c cs F hk hA=>by
  have:=h X kind c cs (r.flatten ++ F) hk fun v B' Ls' hle hq=>by
    have:=hA v B' (Ls' ++ r) hle ⟨Ls',hq,rfl⟩
    rw [List.flatten_append,List.append_assoc] at this;exact this
  simpa [List.append_assoc] using this
theorem Zai.drop2 {B:Kn} {b:Nat} {v0 v1:Value} {row:List Value} (h:Zai B b 0 (v0 :: v1 :: row)):Zai B b 2 row:=fun L j u hj=>by
  have:=h L (j+2) u (by simpa using hj)
  rwa [show 0+(j+2)=2+j from by omega] at this
end Go.BL
namespace Go.Proofs.YtbebcagblefhcaaGreatDoor
open Go Go.BL
set_option linter.unusedVariables false
set_option linter.unusedSimpArgs false
set_option maxRecDepth 4000
set_option maxHeartbeats 6400000
variable {J : JoinT}
theorem ZtA (q:Option Addr) (cp:Nat) (gs:List DGrant) (u:Str) (hr :∀y,y∈gs→0≤y.rights∧y.rights≤63) (B:Kn) (hg:SlK B q cp 2 Z1 gs):Z0 (pj J) 157 [.slice q gs.length cp,str u] B (.int .i64 (Za1 gs u)):=by
 refine cB 55 Tryz.func157 (h:=?_)
 have hgn:=hg.len
 refine Za (xA (h:=Za (xA (h:=Zd (Za (xA (h:=Zh (Zv (α:=Nat × Int) [0,1,4] (fun g=>[(5,.int .i64 g.2),(6,.int .i64 g.1)]) [] (fun g=>[]) (fun g Bx=>Bx=B∧g.1≤6∧g.2=ZeQ gs u g.1) (fun g=>6 - g.1) (0,0) t2 rfl (⟨rfl,oz,rfl⟩) (fun g B1 hle1 hI=>?_)))))))))
 obtain ⟨rfl,hk,hs⟩:=hI
 have hbd:=Zhr gs u g.1 hk
 refine Zz [(0,_),(1,_),(4,_),(5,_),(6,_)] [] t5 rfl (Zd (Za (xM (h:=ZB (h:=Zb rfl (fun g1=>?_) (fun g1=>?_))))))
 try simp only [sQ,ne_eq] at g1
 have hp:=Zp9 (k:=g.1) oz
 refine wSk (Zd (Zh (Za (xA (h:=Zd (Za (xA (h:=Zh (Zv (α:=Nat × Bool) [0,1,4,5,6,10] (fun o=>[(7,.bool o.2),(8,.int .i64 o.1)]) [] (fun o=>[]) (fun o Bx=>Bx=B1∧o.1≤gs.length∧o.2=(gs.take o.1).any (onB u (ZbR g.1))) (fun o=>gs.length - o.1) (0,false) t2 rfl (⟨rfl,Nat.zero_le _,rfl⟩) (fun o B2 hle2 hI=>?_))))))))))
 obtain ⟨rfl,ho,hon⟩:=hI
 refine Zz [(0,_),(1,_),(4,_),(5,_),(6,_),(7,_),(8,_),(10,_)] [] t8 rfl (Zd (Za (xM (h:=xM (h:=xV Tryz.underlying82 (h:=ZB (h:=Zb rfl (fun g2=>?_) (fun g2=>?_))))))))
 try simp only [sQ,ne_eq] at g2
 obtain ⟨x,hx⟩:=ZM (xs:=gs) (i:=o.1) oz
 have hrx:=hr x (List.mem_of_getElem? hx)
 refine wSk (Zd (Zh (ZY (same _ _) mo kr ⟨rfl,rfl⟩ (fun _ _=>?_))))
 refine aM 0 rfl (h:=aM 1 rfl (h:=Zaq (d:=20) rfl (fun g3=>?_) (fun g3=>?_)))
 try simp only [sQ,ne_eq] at g3
 refine aZ 2 rfl (h:=aZ 3 rfl (h:=aZ 4 rfl (h:=aZ 5 rfl (h:=aZ 6 rfl (h:=aZ 7 rfl (h:=aZ 8 rfl (h:=aZ 9 rfl (h:=aZ 10 rfl (h:=aZ 11 rfl (h:=aZ 12 rfl (h:=aZ 13 rfl (h:=aZ 14 rfl (h:=aZ 15 rfl (h:=aZ 16 rfl (h:=aZ 17 rfl (h:=aZ 18 rfl (h:=aZ 19 rfl (h:=aZ 20 rfl (h:=aZ 21 rfl (h:=aZ 22 rfl (h:=aZ 23 rfl (h:=aZ 24 rfl (h:=aZ 25 rfl (h:=aZ 26 rfl (h:=aZ 27 rfl (h:=aZ 28 rfl (h:=aPT 29 rfl (h:=aA 30 rfl (h:=Zw kr kr ?_)))))))))))))))))))))))))))))
 refine ZI (Zm (Zf (xM (h:=xD (h:=xA (h:=?_))))))
 exact Zy (o.1+1,true) [] so2 ⟨rfl,so,by rw [Zcx hx,← hon,g3];rfl⟩ t8 rfl
 try simp only [sQ,ne_eq] at g3
 refine aM 2 rfl (h:=aM 3 rfl (h:=?_))
 obtain ⟨bb3,oo3,rfl⟩:=hg.base hx
 obtain ⟨_,⟨rfl,hb4⟩,hc4⟩:=hg.elem hx
 refine aIx 4 rfl Tryz.underlying82 Zd0 (h:=aW 5 rfl Zb3 (h:=aT 6 rfl (Z9 fun D=>Zn rfl rfl lk9 rfl (hc4 _ 0 _ rfl) r4) (h:=aM 7 rfl (h:=Zqg 8 rfl (h:=aM 9 rfl (h:=Zaq (d:=28) rfl (fun g4=>?_) (fun g4=>?_)))))))
 try simp only [sQ,ne_eq] at g4
 refine aZ 10 rfl (h:=aZ 11 rfl (h:=aZ 12 rfl (h:=aZ 13 rfl (h:=aZ 14 rfl (h:=aZ 15 rfl (h:=aPT 16 rfl (h:=aM 17 rfl (h:=aM 18 rfl (h:=aM 19 rfl (h:=aIx 20 rfl Tryz.underlying82 Zd0 (h:=aW 21 rfl Zc9 (h:=aT 22 rfl (Z9 fun D=>Zn rfl rfl lk3 rfl (hc4 _ 1 _ rfl) r4) (h:=aM 23 rfl (h:=aT 24 rfl (Z9 fun D=>Zaa rfl rfl Zt4 rfl (ZiD g.1 om2 _) r4) (h:=?_)))))))))))))))
 refine aT 25 rfl (Z9 fun D=>ZnM (a:=x.rights) (b:=(ZbR g.1)) (r:=Int.tdiv x.rights (ZbR g.1)) rfl rfl rfl rfl oz (Zoy oz oz oz) r4) (h:=?_)
 refine aT 26 rfl (Z9 fun D=>ZqF (a:=(Int.tdiv x.rights (ZbR g.1))) (b:=2) (r:=Int.tmod (Int.tdiv x.rights (ZbR g.1)) 2) rfl rfl rfl rfl (by decide) rfl r4) (h:=?_)
 refine Zqh 27 rfl (h:=aPT 28 rfl (h:=aPF 29 rfl (h:=aA 30 rfl (h:=Zw kr kr ?_))))
 refine ZI (Zm (Zf (xM (h:=xD (h:=xA (h:=?_))))))
 exact Zy (o.1+1,decide (Int.tmod (Int.tdiv x.rights (ZbR g.1)) 2=1)) [] so2 ⟨rfl,so,by rw [Zcx hx,← hon,g3,onB];simp [g4]⟩ t8 rfl
 try simp only [sQ,ne_eq] at g4
 refine aM 10 rfl (h:=aM 11 rfl (h:=aIx 12 rfl Tryz.underlying82 Zd0 (h:=aW 13 rfl Zb3 (h:=aT 14 rfl (Z9 fun D=>Zn rfl rfl lk9 rfl (hc4 _ 0 _ rfl) r4) (h:=Zqg 15 rfl (h:=aPF 16 rfl (h:=aM 17 rfl (h:=Zaq (d:=36) rfl (fun g5=>?_) (fun g5=>?_)))))))))
 try simp only [sQ,ne_eq] at g5
 refine aM 18 rfl (h:=aM 19 rfl (h:=aIx 20 rfl Tryz.underlying82 Zd0 (h:=aW 21 rfl Zc9 (h:=aT 22 rfl (Z9 fun D=>Zn rfl rfl lk3 rfl (hc4 _ 1 _ rfl) r4) (h:=aM 23 rfl (h:=aT 24 rfl (Z9 fun D=>Zaa rfl rfl Zt4 rfl (ZiD g.1 om2 _) r4) (h:=?_)))))))
 refine aT 25 rfl (Z9 fun D=>ZnM (a:=x.rights) (b:=(ZbR g.1)) (r:=Int.tdiv x.rights (ZbR g.1)) rfl rfl rfl rfl oz (Zoy oz oz oz) r4) (h:=?_)
 refine aT 26 rfl (Z9 fun D=>ZqF (a:=(Int.tdiv x.rights (ZbR g.1))) (b:=2) (r:=Int.tmod (Int.tdiv x.rights (ZbR g.1)) 2) rfl rfl rfl rfl (by decide) rfl r4) (h:=?_)
 refine Zqh 27 rfl (h:=aPT 28 rfl (h:=aPF 29 rfl (h:=aA 30 rfl (h:=Zw kr kr ?_))))
 refine ZI (Zm (Zf (xM (h:=xD (h:=xA (h:=?_))))))
 exact Zy (o.1+1,decide (Int.tmod (Int.tdiv x.rights (ZbR g.1)) 2=1)) [] so2 ⟨rfl,so,by rw [Zcx hx,← hon,g3,onB];simp [g5,anyone]⟩ t8 rfl
 try simp only [sQ,ne_eq] at g5
 refine aZ 18 rfl (h:=aZ 19 rfl (h:=aZ 20 rfl (h:=aZ 21 rfl (h:=aZ 22 rfl (h:=aZ 23 rfl (h:=aZ 24 rfl (h:=aZ 25 rfl (h:=aZ 26 rfl (h:=aZ 27 rfl (h:=aPF 28 rfl (h:=aPF 29 rfl (h:=aA 30 rfl (h:=Zw kr kr ?_)))))))))))))
 refine ZI (Zm (Zf (xM (h:=xD (h:=xA (h:=?_))))))
 exact Zy (o.1+1,false) [] so2 ⟨rfl,so,by rw [Zcx hx,← hon,g3,onB];simp [g4,g5,anyone]⟩ t8 rfl
 try simp only [sQ,ne_eq] at g2
 have hae:=Zqd hon oz
 refine ZA (ZP (ZC (Zs (Zm (Za (xM (h:=Zb rfl (fun g6=>?_) (fun g6=>?_))))))))
 try simp only [sQ,ne_eq] at g6
 refine Zf (xM (h:=xM (h:=xR Zt4 rfl (ZiD g.1 om2 _) (h:=?_))))
 refine xD (h:=xA (h:=ZI (Zm (Zf (xM (h:=xD (h:=xA (h:=?_))))))))
 exact Zy (g.1+1,g.2+ZbR g.1) [] so2 ⟨rfl,so,by simp only [ZeQ];rw [← hae,if_pos g6,hs]⟩ t5 rfl
 try simp only [sQ,ne_eq] at g6
 refine ZL (ZI (Zm (Zf (xM (h:=xD (h:=xA (h:=?_)))))))
 exact Zy (g.1+1,g.2) [] so2 ⟨rfl,so,by simp only [ZeQ];rw [← hae,if_neg (by simp [g6]),hs]⟩ t5 rfl
 try simp only [sQ,ne_eq] at g1
 refine ZA (ZP (ZC (Zs (Zm (Za (xM (h:=xA (h:=Ze ?_))))))))
 exact eR t1 ⟨ZE (by rw [hs,show g.1=6 from by omega];rfl),rfl,rfl⟩

theorem Zmd (q1 q2 q3:Option Addr) (c1 c2 c3:Nat) (x:DHost) (k:Int) (u:Str) (r:Int) (f:DFolder) (hk0:0≤k) (hk:x.folders[k.toNat]? = some f) (hrr:ZgC x.folders) (h1:0<r) (B:Kn) (hf:SlK B q2 c2 5 ZG x.folders):Z0 (pj J) 111 [.agg #[str x.domain,.slice q1 x.users.length c1,.slice q2 x.folders.length c2,.int .i64 x.queue.next,.slice q3 x.queue.items.length c3],.int .i64 k,str u,.int .i64 r] B (.bool (Zkm f u r)):=by
 refine cB 31 Tryz.func111 (h:=?_)
 have hfn:=hf.len
 have hkl:=(List.getElem?_eq_some_iff.1 hk).1
 have hrb:=ZkW f.grants u
 refine Za (xBx [_,_,_,_,_] (h:=fun b1=>xA (h:=tL1 (Za (xM (h:=xW ZaB (h:=x1 Zfs 0 (h:=xM (h:=?_)))))))))
 obtain ⟨bb2,oo2,rfl⟩:=hf.base hk
 obtain ⟨_,⟨qg3,cg3,qm3,cm3,rfl,hg3,hm3,hb3,hb3b⟩,hc3⟩:=hf.elem hk
 have hg3n:=hg3.len
 have hm3n:=hm3.len
 have hm3s:=Zal hm3
 refine xIx Tryz.underlying39 ZdS (h:=xW ZbS (h:=y1 lk9 hc3 0 (h:=Zdc (h:=xM (h:=Zt (d:=17) rfl (fun g1=>?_) (fun g1=>?_))))))
 refine xP (h:=xP (h:=xP (h:=xP (h:=xP (h:=xP (h:=xP (h:=xP (h:=xP (h:=xP (h:=xP (h:=xP (h:=xT (h:=xA (h:=Ze ?_))))))))))))))
 exact eR t1 ⟨Zc (by simp [Zkm,g1]),rfl,rfl⟩
 refine xW ZaB (h:=x1 Zfs 0 (h:=xM (h:=xIx Tryz.underlying39 ZdS (h:=xW ZeM (h:=y1 ZsB hc3 2 (h:=xM (h:=xR ZxQ rfl (ZtA _ _ f.grants u (by first | assumption | exact hrr _ (List.mem_of_getElem? (oy))) _ hg3) (h:=?_))))))))
 refine xM (h:=Zk (ZnM (a:=(Za1 f.grants u)) (b:=r) (r:=Int.tdiv (Za1 f.grants u) r) rfl rfl rfl rfl oz (Zoy oz oz oz) ?_))
 refine Zk (ZqF (a:=(Int.tdiv (Za1 f.grants u) r)) (b:=2) (r:=Int.tmod (Int.tdiv (Za1 f.grants u) r) 2) rfl rfl rfl rfl (by decide) rfl ?_)
 refine ZgI (h:=xF (h:=xA (h:=Ze ?_)))
 exact eR t1 ⟨Zc (by simp [Zkm,g1]),rfl,rfl⟩

theorem Zh0 (q1 q2 q3:Option Addr) (c1 c2 c3:Nat) (x:DHost) (u:Str) (k r:Int) (hk:k<x.folders.length) (hrr:ZgC x.folders) (h1:0<r) (B:Kn) (hu:SlK B q1 c1 3 ZJ x.users) (hf:SlK B q2 c2 5 ZG x.folders):Z0 (pj J) 65 [.agg #[str x.domain,.slice q1 x.users.length c1,.slice q2 x.folders.length c2,.int .i64 x.queue.next,.slice q3 x.queue.items.length c3],str u,.int .i64 k,.int .i64 r] B (.int .i64 (Znp x.users x.folders u k r)):=by
 refine cB 32 Tryz.func65 (h:=?_)
 refine Za (xBx [_,_,_,_,_] (h:=fun b1=>xA (h:=tL1 (Zd (Zh (Za (xW ZbU (h:=x1 ZjW 0 (h:=xM (h:=xR Zv6 rfl (Zfu _ _ _ _ _ hu) (h:=ZB (h:=xM (h:=Zt (d:=15) rfl (fun g1=>?_) (fun g1=>?_))))))))))))))
 try simp only [sQ,ne_eq] at g1
 refine xP (h:=xP (h:=xT (h:=xA (h:=Zb (t:=true) rfl (fun _=>Za (xA (h:=Ze (Zu (Zl ?_))))) (fun h=>Bool.noConfusion h)))))
 exact eR t1 ⟨ZE (Zi1 (.inl g1)).symm,rfl,rfl⟩
 try simp only [sQ,ne_eq] at g1
 refine xM (h:=ZB (h:=xF (h:=xA (h:=Zb rfl (fun g2=>?_) (fun g2=>?_)))))
 try simp only [sQ,ne_eq] at g2
 refine Za (xA (h:=Ze (Zu (Zl ?_))))
 exact eR t1 ⟨ZE (Zi1 (.inr g2)).symm,rfl,rfl⟩
 try simp only [sQ,ne_eq] at g2
 have hfn:=hf.len
 obtain ⟨f,hf0⟩ :∃f,x.folders[k.toNat]? = some f:=⟨_,List.getElem?_eq_getElem oz⟩
 have hce:=Zp3 (us:=x.users) (u:=u) (r:=r) oz hf0
 refine Za (xL [_,_,_,_,_] ZfE 0 (h:=xM (h:=xM (h:=xR ZvI rfl (Zmd _ _ _ _ _ _ x k u 1 _ oz (oy) hrr oz _ hf) (h:=?_)))))
 refine xN (h:=xA (h:=Zb rfl (fun g3=>?_) (fun g3=>?_)))
 try simp only [sQ,ne_eq] at g3
 refine Za (xA (h:=Ze (Zu (Zl ?_))))
 exact eR t1 ⟨ZE (by rw [hce,if_pos g3]),rfl,rfl⟩
 try simp only [sQ,ne_eq] at g3
 refine Za (xL [_,_,_,_,_] ZfE 0 (h:=xM (h:=xM (h:=xM (h:=xR ZvI rfl (Zmd _ _ _ _ _ _ x k u r _ oz (oy) hrr oz _ hf) (h:=?_))))))
 refine xN (h:=xA (h:=Zb rfl (fun g4=>?_) (fun g4=>?_)))
 try simp only [sQ,ne_eq] at g4
 refine Za (xA (h:=Ze (Zu (Zl ?_))))
 exact eR t1 ⟨ZE (by rw [hce,if_neg (by simp [g3]),if_pos g4]),rfl,rfl⟩
 try simp only [sQ,ne_eq] at g4
 refine ZL (ZI (Zm (Za (xA (h:=Ze ?_)))))
 exact eR t1 ⟨ZE (by rw [hce,if_neg (by simp [g3]),if_neg (by simp [g4])]),rfl,rfl⟩

theorem Zju (q:Option Addr) (cp:Nat) (xs:List DSpan) (B:Kn) (hs:SlK B q cp 2 Zak xs):Z0 (pj J) 37 [.slice q xs.length cp] B (.bool (Zc7 xs)):=by
 refine cB 29 Tryz.func37 (h:=?_)
 have hsn:=hs.len
 refine Za (xA (h:=Zd (Za (xA (h:=Zh (Zv (α:=Nat) [0] (fun k=>[(3,.int .i64 k)]) [] (fun k=>[]) (fun k Bx=>Bx=B∧k≤xs.length∧∀y,y∈xs.take k→Zd8 y=true) (fun k=>xs.length - k) 0 t1 rfl (⟨rfl,Nat.zero_le _,by simp⟩) (fun k B1 hle1 hI=>?_)))))))
 obtain ⟨rfl,hk,hall⟩:=hI
 refine Zz [(0,_),(3,_)] [] t2 rfl (Zd (Za (xM (h:=xM (h:=xV Tryz.underlying48 (h:=ZB (h:=Zb rfl (fun g1=>?_) (fun g1=>?_))))))))
 try simp only [sQ,ne_eq] at g1
 refine wSk (Zd (Zh (Za (xM (h:=xM (h:=?_))))))
 obtain ⟨m,hm⟩:=ZM (xs:=xs) (i:=k) om
 obtain ⟨bb3,oo3,rfl⟩:=hs.base hm
 obtain ⟨_,rfl,hc4⟩:=hs.elem hm
 refine xIx Tryz.underlying48 ZkM (h:=xW Zgq (h:=y1 lk3 hc4 0 (h:=xR Zky rfl (Zcp _ _ _ _) (h:=xN (h:=xM (h:=Zt (d:=17) rfl (fun g2=>?_) (fun g2=>?_)))))))
 try simp only [sQ,ne_eq] at g2
 refine xP (h:=xP (h:=xP (h:=xP (h:=xP (h:=xP (h:=xP (h:=xT (h:=Zb (t:=true) rfl (fun _=>Za (xA (h:=Ze (Zu (Zl (ZF (Zu (Zl ?_)))))))) (fun h=>Bool.noConfusion h)))))))))
 exact eR t1 ⟨Zc (by rw [Zc7,Zbr hm (by simp only [Zd8,g2,Bool.false_and]),Bool.false_and]),rfl,rfl⟩
 try simp only [sQ,ne_eq] at g2
 refine xM (h:=xM (h:=xIx Tryz.underlying48 ZkM (h:=xW Zgp (h:=y1 lk3 hc4 1 (h:=xR Zky rfl (Zcp _ _ _ _) (h:=xN (h:=xF (h:=Zb rfl (fun g3=>?_) (fun g3=>?_)))))))))
 try simp only [sQ,ne_eq] at g3
 refine Za (xA (h:=Ze (Zu (Zl (ZF (Zu (Zl ?_)))))))
 exact eR t1 ⟨Zc (by rw [Zc7,Zbr hm (by simp only [Zd8,g3,Bool.and_false]),Bool.false_and]),rfl,rfl⟩
 try simp only [sQ,ne_eq] at g3
 refine ZL (ZI (Zm (Zf (xM (h:=xD (h:=xA (h:=?_)))))))
 exact Zy (k+1) [] so2 ⟨rfl,oz,ZaJ hm hall (by simp only [Zd8];rw [show (decide (0≤m.low) && decide (m.low≤99))=true by simpa only [Bool.not_eq_false] using g2,show (decide (0≤m.high) && decide (m.high≤99))=true by simpa only [Bool.not_eq_false] using g3];rfl)⟩ t2 rfl
 try simp only [sQ,ne_eq] at g1
 refine ZA (ZP (ZC (Zs (Zm (Za (xM (h:=xV Tryz.underlying48 (h:=xR Zky rfl (Zcp _ _ _ _) (h:=xA (h:=Ze ?_))))))))))
 exact eR t1 ⟨Zc (by rw [Zc7,Zc5 (ZaR oz hall),Bool.true_and,Bool.eq_iff_iff];simp;try omega),rfl,rfl⟩

theorem Ztx (q:Option Addr) (cp:Nat) (xs:List DSpan) (last n:Int) (B:Kn) (hs:SlK B q cp 2 Zak xs):Z0 (pj J) 139 [.slice q xs.length cp,.int .i64 last,.int .i64 n] B (.bool (ZdT xs last n)):=by
 refine cB 40 Tryz.func139 (h:=?_)
 have hsn:=hs.len
 refine Za (xA (h:=Zd (Za (xA (h:=Zh (Zv (α:=Nat) [0,1,2] (fun k=>[(7,.int .i64 k)]) [] (fun k=>[]) (fun k Bx=>Bx=B∧k≤xs.length∧(xs.take k).any (ZbY last n)=false) (fun k=>xs.length - k) 0 t1 rfl (⟨rfl,Nat.zero_le _,rfl⟩) (fun k B1 hle1 hI=>?_)))))))
 obtain ⟨rfl,hk,hna⟩:=hI
 refine Zz [(0,_),(1,_),(2,_),(7,_)] [] t4 rfl (Zd (Za (xM (h:=xM (h:=xV Tryz.underlying48 (h:=ZB (h:=Zb rfl (fun g1=>?_) (fun g1=>?_))))))))
 try simp only [sQ,ne_eq] at g1
 refine wSk (Zd (Zh (Za (xM (h:=xM (h:=?_))))))
 obtain ⟨m,hm⟩:=ZM (xs:=xs) (i:=k) om
 obtain ⟨bb3,oo3,rfl⟩:=hs.base hm
 obtain ⟨_,rfl,hc4⟩:=hs.elem hm
 refine xIx Tryz.underlying48 ZkM (h:=xW Zgq (h:=y1 lk3 hc4 0 (h:=xA (h:=Za (xM (h:=xM (h:=xIx Tryz.underlying48 ZkM (h:=xW Zgp (h:=y1 lk3 hc4 1 (h:=xA (h:=Zd (Za (xM (h:=ZgI (h:=Zb rfl (fun g2=>?_) (fun g2=>?_))))))))))))))))
 try simp only [sQ,ne_eq] at g2
 refine Zf (xM (h:=xA (h:=Zm (Zd (Za (xM (h:=ZgI (h:=Zb rfl (fun g3=>?_) (fun g3=>?_)))))))))
 try simp only [sQ,ne_eq] at g3
 refine Zf (xM (h:=xA (h:=Zm (Za (xM (h:=xM (h:=xM (h:=Zk (Zfg rfl rfl rfl rfl (xM (h:=xM (h:=Zk (ZlN rfl rfl rfl rfl (xR Zky rfl (Zcp _ _ _ _) (h:=Zb rfl (fun g4=>?_) (fun g4=>?_))))))))))))))))
 try simp only [sQ,ne_eq] at g4
 refine Za (xA (h:=Ze (Zu (Zl (ZF (Zu (Zl ?_)))))))
 exact eR t1 ⟨Zc (by symm;rw [ZdT,List.any_eq_true];exact ⟨m,List.mem_of_getElem? hm,by simp only [ZbY,g2,g3,if_true,if_false];simpa using g4⟩),rfl,rfl⟩
 try simp only [sQ,ne_eq] at g4
 refine ZL (ZI (Zm (Zf (xM (h:=xD (h:=xA (h:=?_)))))))
 exact Zy (k+1) [] so2 ⟨rfl,oz,by rw [Zcx hm,hna];simp only [ZbY,g2,g3,if_true,if_false];simpa using g4⟩ t4 rfl
 try simp only [sQ,ne_eq] at g3
 refine wSk (Za (xM (h:=xM (h:=xM (h:=Zk (Zfg rfl rfl rfl rfl (xM (h:=xM (h:=Zk (ZlN rfl rfl rfl rfl (xR Zky rfl (Zcp _ _ _ _) (h:=Zb rfl (fun g4=>?_) (fun g4=>?_)))))))))))))
 try simp only [sQ,ne_eq] at g4
 refine Za (xA (h:=Ze (Zu (Zl (ZF (Zu (Zl ?_)))))))
 exact eR t1 ⟨Zc (by symm;rw [ZdT,List.any_eq_true];exact ⟨m,List.mem_of_getElem? hm,by simp only [ZbY,g2,g3,if_true,if_false];simpa using g4⟩),rfl,rfl⟩
 try simp only [sQ,ne_eq] at g4
 refine ZL (ZI (Zm (Zf (xM (h:=xD (h:=xA (h:=?_)))))))
 exact Zy (k+1) [] so2 ⟨rfl,oz,by rw [Zcx hm,hna];simp only [ZbY,g2,g3,if_true,if_false];simpa using g4⟩ t4 rfl
 try simp only [sQ,ne_eq] at g2
 refine wSk (Zd (Za (xM (h:=ZgI (h:=Zb rfl (fun g3=>?_) (fun g3=>?_))))))
 try simp only [sQ,ne_eq] at g3
 refine Zf (xM (h:=xA (h:=Zm (Za (xM (h:=xM (h:=xM (h:=Zk (Zfg rfl rfl rfl rfl (xM (h:=xM (h:=Zk (ZlN rfl rfl rfl rfl (xR Zky rfl (Zcp _ _ _ _) (h:=Zb rfl (fun g4=>?_) (fun g4=>?_))))))))))))))))
 try simp only [sQ,ne_eq] at g4
 refine Za (xA (h:=Ze (Zu (Zl (ZF (Zu (Zl ?_)))))))
 exact eR t1 ⟨Zc (by symm;rw [ZdT,List.any_eq_true];exact ⟨m,List.mem_of_getElem? hm,by simp only [ZbY,g2,g3,if_true,if_false];simpa using g4⟩),rfl,rfl⟩
 try simp only [sQ,ne_eq] at g4
 refine ZL (ZI (Zm (Zf (xM (h:=xD (h:=xA (h:=?_)))))))
 exact Zy (k+1) [] so2 ⟨rfl,oz,by rw [Zcx hm,hna];simp only [ZbY,g2,g3,if_true,if_false];simpa using g4⟩ t4 rfl
 try simp only [sQ,ne_eq] at g3
 refine wSk (Za (xM (h:=xM (h:=xM (h:=Zk (Zfg rfl rfl rfl rfl (xM (h:=xM (h:=Zk (ZlN rfl rfl rfl rfl (xR Zky rfl (Zcp _ _ _ _) (h:=Zb rfl (fun g4=>?_) (fun g4=>?_)))))))))))))
 try simp only [sQ,ne_eq] at g4
 refine Za (xA (h:=Ze (Zu (Zl (ZF (Zu (Zl ?_)))))))
 exact eR t1 ⟨Zc (by symm;rw [ZdT,List.any_eq_true];exact ⟨m,List.mem_of_getElem? hm,by simp only [ZbY,g2,g3,if_true,if_false];simpa using g4⟩),rfl,rfl⟩
 try simp only [sQ,ne_eq] at g4
 refine ZL (ZI (Zm (Zf (xM (h:=xD (h:=xA (h:=?_)))))))
 exact Zy (k+1) [] so2 ⟨rfl,oz,by rw [Zcx hm,hna];simp only [ZbY,g2,g3,if_true,if_false];simpa using g4⟩ t4 rfl
 try simp only [sQ,ne_eq] at g1
 refine ZA (ZP (ZC (Zs (Zm (Za (xA (h:=Ze ?_)))))))
 exact eR t1 ⟨Zc (by rw [ZdT,← Zqd (b:=false) hna.symm oz]),rfl,rfl⟩

theorem ZmN (q:Option Addr) (cp:Nat) (xs:List DSpan) (last:Int) (hl0:0≤last) (B:Kn) (hs:SlK B q cp 2 Zak xs):Zx (pj J) 87 [.slice q xs.length cp,.int .i64 last] B [] (fun v B' Ls=>Ls=[]∧∃a c,v = .slice a (Z7 xs last).length c∧SlK B' a c 1 Zb7 (Z7 xs last)):=by
 refine cB 28 Tryz.func87 (h:=?_)
 have hsn:=hs.len
 refine Za (xA (h:=Za (xBs [] [] Tryz.underlying57 sz3 zo3 (h:=fun b1=>xA (h:=tL1 (Zd (Za (xA (h:=Zh (Zv (α:=Gh Int) [0,1,4] (fun g=>[(5,.slice g.a g.xs.length g.c),(6,.int .i64 ((g.k+1:Nat):Int))]) [0] (fun g=>[g.l]) (fun g Bx=>Bx=B∧g.k≤(min last 99).toNat∧g.xs.length≤g.k∧(0<g.k→Zc7 xs=true)∧g.xs=Zbk xs (min last 99) g.k∧ZU Bx g.l g.a g.c 3 1 Zb7 g.xs) (fun g=>(min last 99).toNat - g.k) ⟨0,0,_,_,_,[]⟩ t2 rfl (⟨rfl,Nat.zero_le _,Nat.le_refl _,by simp,rfl,.lit0⟩) (fun g B2 hle2 hI=>?_)))))))))))
 obtain ⟨rfl,hk,hgl,hok,hnt,hv⟩:=hI
 refine Zz [(0,_),(1,_),(4,_),(5,_),(6,_)] [_] t5 rfl (Zd (Za (xM (h:=xM (h:=Zk (Zfg rfl rfl rfl rfl (Zbs (h:=xM (h:=Zt (d:=12) rfl (fun g1=>?_) (fun g1=>?_))))))))))
 try simp only [sQ,ne_eq] at g1
 refine xM (h:=xR ZyR rfl (Zju _ _ xs _ hs) (h:=xT (h:=Zb rfl (fun g2=>?_) (fun g2=>?_))))
 try simp only [sQ,ne_eq] at g2
 refine wSk (Zd (Zh (Za (xM (h:=xM (h:=Zk (Zfg rfl rfl rfl rfl (xM (h:=xR Zx5 rfl (Ztx _ _ xs (min last 99) (↑(g.k+1)) _ hs) (h:=Zb rfl (fun g3=>?_) (fun g3=>?_)))))))))))
 try simp only [sQ,ne_eq] at g3
 refine Zf (xM (h:=xM (h:=xBs [(0,_)] [_] Tryz.underlying57 sz3 zo3 (h:=fun b5=>Zk (Zjh (z:=(↑(g.k+1):Int)) (R:=Zb7) 0 rfl hv rfl rfl rfl ZyG Zyv rfl rfl (Zcy.box 1 rfl) rfl rfl (rfl) om (fun l6 p6 c6 hv6=>?_))))))
 refine xA (h:=ZI (Zm (Zf (xM (h:=xD (h:=xA (h:=?_)))))))
 exact Zy ⟨g.k+1,0,l6,p6,c6,(g.xs ++ [(↑(g.k+1):Int)])⟩ [0] so2 ⟨rfl,so,by simp;omega,fun _=>g2,by simp only [];rw [ZhQ (by exact_mod_cast g3),hnt],hv6⟩ t5 rfl
 try simp only [sQ,ne_eq] at g3
 refine ZL (ZI (Zm (Zf (xM (h:=xD (h:=xA (h:=?_)))))))
 exact Zy ⟨g.k+1,0,g.l,g.a,g.c,g.xs⟩ [0] so2 ⟨rfl,so,so,fun _=>g2,by simp only [];rw [ZjI (by exact_mod_cast g3),hnt],hv⟩ t5 rfl
 try simp only [sQ,ne_eq] at g2
 refine ZA (ZP (ZC (Zs (Zm (Za (xM (h:=Zfn 0 rfl hv Zb7.mono om3 (fun B7 hle7 hr7=>?_))))))))
 have hr7n:=hr7.len
 refine xA (h:=tL1 ?_)
 have hne:Z7 xs last=g.xs:=by
    rw [Z7,if_neg (by simp [g2]),hnt]
    have:g.k=0:=by
      rcases Nat.eq_zero_or_pos g.k with h | h
      · exact h
      · rw [hok h] at g2;cases g2
    rw [this];rfl
 rw [hne]
 refine Ze ?_
 exact eN [] rfl t1 ⟨rfl,_,_,rfl,hr7⟩
 try simp only [sQ,ne_eq] at g1
 refine xP (h:=xP (h:=xF (h:=Zb (t:=false) rfl (fun h=>Bool.noConfusion h) (fun _=>ZA (ZP (ZC (Zs (Zm (Za (xM (h:=Zfn 0 rfl hv Zb7.mono om3 (fun B8 hle8 hr8=>?_))))))))))))
 have hr8n:=hr8.len
 refine xA (h:=tL1 ?_)
 have hne:Z7 xs last=g.xs:=by
    have hk2:g.k=(min last 99).toNat:=by omega
    rw [Z7]
    rcases Nat.eq_zero_or_pos g.k with h | h
    · rw [← hk2,hnt,h];split <;> rfl
    · rw [if_pos (hok h),hnt,hk2]
 rw [hne]
 refine Ze ?_
 exact eN [] rfl t1 ⟨rfl,_,_,rfl,hr8⟩

theorem Zty (q1 q2 q3:Option Addr) (c1 c2 c3:Nat) (x:DHost) (s:DSess) (hs1:s.user.length≤2000000) (hs2:s.owner.length≤2000000) (hs3:s.name.length≤2000000) (r:Int) (hrr:ZgC x.folders) (h1:0<r) (B:Kn) (hu:SlK B q1 c1 3 ZJ x.users) (hf:SlK B q2 c2 5 ZG x.folders):Z0 (pj J) 38 [.agg #[str x.domain,.slice q1 x.users.length c1,.slice q2 x.folders.length c2,.int .i64 x.queue.next,.slice q3 x.queue.items.length c3],.agg #[str s.user,str s.owner,str s.name],.int .i64 r] B (.tuple #[.int .i64 (atF x s r).1,.int .i64 (atF x s r).2]):=by
 refine cB 32 Tryz.func38 (h:=?_)
 have hun:=hu.len
 have hfn:=hf.len
 have hix:=Zg6 (inF s.owner s.name) x.folders
 refine Za (xBx [_,_,_,_,_] (h:=fun b1=>xBx [_,_,_] (h:=fun b2=>xA (h:=xA (h:=tL2 (Za (xL [_,_,_,_,_] ZfE 0 (h:=xW Zpk (h:=x1 lk9 1 (h:=xW Zpj (h:=x1 lk9 1 (h:=xR ZyP rfl (ZjZ _ _ _ _ _ _ x s.owner s.name om2 om2 _ hf) (h:=?_)))))))))))))
 refine xA (h:=Za (xL [_,_,_,_,_] ZfE 0 (h:=xW Zmm (h:=x1 lk9 1 (h:=xM (h:=xR ZyO rfl (Zh0 _ _ _ _ _ _ x s.user (Zbe (inF s.owner s.name) x.folders) 2 oz hrr oz _ hu hf) (h:=?_)))))))
 refine xA (h:=Zd (Za (xM (h:=Zar (h:=Zb rfl (fun g1=>?_) (fun g1=>?_))))))
 try simp only [sQ,ne_eq] at g1
 refine Za (xM (h:=xM (h:=xA (h:=xA (h:=Ze (Zl ?_))))))
 exact ZpQ .ret (.inl rfl) [_,_] t2 ⟨by rw [atF,if_pos g1];rfl,rfl,rfl⟩
 try simp only [sQ,ne_eq] at g1
 refine wSk (Za (xM (h:=xL [_,_,_,_,_] ZfE 0 (h:=xW Zmm (h:=x1 lk9 1 (h:=xM (h:=xM (h:=xR ZyO rfl (Zh0 _ _ _ _ _ _ x s.user (Zbe (inF s.owner s.name) x.folders) r oz hrr oz _ hu hf) (h:=?_)))))))))
 refine xA (h:=xA (h:=Ze ?_))
 exact ZpQ .ret (.inl rfl) [_,_] t2 ⟨by rw [atF,if_neg (fun h=>h g1)];rfl,rfl,rfl⟩

theorem Zrq (q:Option Addr) (cp:Nat) (x:DBox) (q2:Option Addr) (cp2:Nat) (xs:List DSpan) (B:Kn) (hx:SlK B q cp 3 Zao x.mail) (hs:SlK B q2 cp2 2 Zak xs):Zx (pj J) 39 [.agg #[.int .i64 x.next,.slice q x.mail.length cp],.slice q2 xs.length cp2] B [] (fun v B' Ls=>Ls=[]∧∃a c,v = .slice a (Z7 xs x.mail.length).length c∧SlK B' a c 1 Zb7 (Z7 xs x.mail.length)):=by
 refine cB 10 Tryz.func39 (h:=?_)
 have hxn:=hx.len
 refine Za (xBx [_,_] (h:=fun b1=>xA (h:=tL1 (Za (xM (h:=xW ZbT (h:=x1 ZjV 0 (h:=xV Tryz.underlying83 (h:=xQ Zzv rfl (ZmN _ _ xs ↑x.mail.length om2 _ hs) (h:=?_))))))))))
 intro v2 B2 hle2
 rintro ⟨a2,c2,rfl,hs2⟩
 have hs2n:=hs2.len
 refine xA (h:=Ze ?_)
 exact eN [] rfl t1 ⟨rfl,_,_,rfl,hs2⟩

theorem ZlH (q:Option Addr) (cp:Nat) (gs:List DGrant) (o u:Str) (ho:o.length≤2000000) (hn:u.length≤2000000) (B:Kn) (hg:SlK B q cp 2 Z1 gs):Z0 (pj J) 160 [.slice q gs.length cp,str o,str u] B (.int .i64 (Zi7 gs o u)):=by
 refine cB 35 Tryz.func160 (h:=?_)
 refine Za (xA (h:=Za (xM (h:=xC ZvC rfl (Zmx _ _ _ _ hg) (h:=?_)))))
 rintro _ Bm _ hlem ⟨mm,lm,rfl,rfl,rfl,hlm⟩
 refine xM (h:=xE (h:=xE (h:=xA (h:=xA (h:=tL1 (Zd (Za (xM (h:=xN (h:=xM (h:=Zt (d:=16) rfl (fun g1=>?_) (fun g1=>?_))))))))))))
 try simp only [sQ,ne_eq] at g1
 refine xP (h:=xP (h:=xP (h:=xT (h:=xM (h:=xP (h:=xP (h:=xP (h:=xT (h:=Zb (t:=true) rfl (fun _=>Za (xA (h:=Ze (Zl ?_)))) (fun h=>Bool.noConfusion h))))))))))
 exact eR t1 ⟨ZE (Zi6 (by simp [g1])).symm,rfl,rfl⟩
 try simp only [sQ,ne_eq] at g1
 refine xM (h:=xR Zke rfl (ZbB _ om2 _) (h:=?_))
 refine xN (h:=xF (h:=xM (h:=Zt (d:=21) rfl (fun g2=>?_) (fun g2=>?_))))
 try simp only [sQ,ne_eq] at g2
 refine xP (h:=xP (h:=xP (h:=xT (h:=Zb (t:=true) rfl (fun _=>Za (xA (h:=Ze (Zl ?_)))) (fun h=>Bool.noConfusion h)))))
 exact eR t1 ⟨ZE (Zi6 (by simp [g2])).symm,rfl,rfl⟩
 try simp only [sQ,ne_eq] at g2
 refine xM (h:=xR Zke rfl (ZbB _ om2 _) (h:=?_))
 refine xN (h:=xF (h:=Zb rfl (fun g3=>?_) (fun g3=>?_)))
 try simp only [sQ,ne_eq] at g3
 refine Za (xA (h:=Ze (Zl ?_)))
 exact eR t1 ⟨ZE (Zi6 (by simp [g3])).symm,rfl,rfl⟩
 try simp only [sQ,ne_eq] at g3
 have hce:=Zsc (gs:=gs) (o:=o) (u:=u) g1 g2 (by simpa using g3)
 obtain ⟨bm,hmb,hml⟩:=hlm g1
 subst hmb
 clear hlm
 have hlm:=hml
 refine wSk (Zd (Za (xM (h:=xM (h:=Zdc (h:=Zb rfl (fun g4=>?_) (fun g4=>?_)))))))
 try simp only [sQ,ne_eq] at g4
 refine Za (xA (h:=Ze (Zl ?_)))
 exact eR t1 ⟨ZE (by rw [hce,if_pos g4]),rfl,rfl⟩
 try simp only [sQ,ne_eq] at g4
 refine wSk (Za (xM (h:=xM (h:=Zk (ZlO (k:=u) 0 rfl hlm rfl rfl Tryz.underlying281 Tryz.underlying9 zo3 rfl rfl (xM (h:=Zk (ZlO (k:=[97,110,121,111,110,101]) 0 rfl hlm rfl rfl Tryz.underlying281 Tryz.underlying9 zo3 rfl rfl (Zk (Zwm rfl rfl rfl rfl (xA (h:=Ze ?_))))))))))))
 exact eR t1 ⟨ZE (by rw [hce,if_neg g4];rfl),rfl,rfl⟩

theorem Zu9 (b o:Nat) (q1 q2 q3:Option Addr) (c1 c2 c3:Nat) (x:DHost) (qa qb:Option Addr) (ca cb:Nat) (u:Str) (f:DFolder) (rr:Int) (hn:u.length≤2000000) (ho:f.owner.length≤2000000) (B:Kn) (hh:Zai B b o [str x.domain,.slice q1 x.users.length c1,.slice q2 x.folders.length c2,.int .i64 x.queue.next,.slice q3 x.queue.items.length c3]) (hu:SlK B q1 c1 3 ZJ x.users) (hg:SlK B qa ca 2 Z1 f.grants):Z0 (pj J) 114 [ptr ⟨b,o,none⟩,str u,.agg #[str f.owner,str f.name,.slice qa f.grants.length ca,.int .i64 f.next,.slice qb f.mail.length cb],.int .i64 rr] B (.bool (ZoS x.users f u rr)):=by
 refine cB 29 Tryz.func114 (h:=?_)
 refine Za (xBx [_,_,_,_,_] (h:=fun b1=>xA (h:=tL1 (Za (xW ZeM (h:=x1 ZsB 0 (h:=xW ZbS (h:=x1 lk9 0 (h:=xM (h:=xR ZxN rfl (ZlH _ _ f.grants f.owner u om2 om2 _ hg) (h:=?_)))))))))))
 refine xA (h:=Za (xM (h:=xM (h:=xR ZrU rfl (Zgy _ _ _ _ _ _ _ _ x u om2 _ hh hu) (h:=?_)))))
 refine xM (h:=Zt (d:=19) rfl (fun g1=>?_) (fun g1=>?_))
 refine xM (h:=ZdY (h:=xT (h:=xM (h:=Zt (d:=23) rfl (fun g2=>?_) (fun g2=>?_)))))
 refine xM (h:=xM (h:=Zk (ZuH rfl rfl rfl rfl (Zar (h:=xT (h:=xA (h:=Ze ?_)))))))
 exact eR t1 ⟨Zc (by simp [ZoS,g1,g2]),rfl,rfl⟩
 refine xP (h:=xP (h:=xP (h:=xP (h:=xF (h:=xA (h:=Ze ?_))))))
 exact eR t1 ⟨Zc (by simp [ZoS,g1,g2];try omega),rfl,rfl⟩
 refine xP (h:=xP (h:=xF (h:=xM (h:=xP (h:=xP (h:=xP (h:=xP (h:=xF (h:=xA (h:=Ze ?_))))))))))
 exact eR t1 ⟨Zc (by simp [ZoS,g1]),rfl,rfl⟩

theorem ZkK (u y z:Str) (h1:u.length≤140737488355328) (h2:y.length≤140737488355328) (h3:z.length≤140737488355328) (left:Int) (hl0:0≤left) (hl1:left≤1048576) (B:Kn):Z0 (pj J) 8 [.agg #[str u,str y,str z],.int .i64 left] B (.int .i64 (szI left (u.length+y.length+z.length))):=by
 refine cB 27 Tryz.func8 (h:=?_)
 refine Za (xBx [_,_,_] (h:=fun b1=>xA (h:=tL1 (Za (xM (h:=xW ZsI (h:=x1 lk9 0 (h:=xVs Tryz.underlying9 (h:=xU (h:=xA (h:=Zd (Za (xM (h:=ZB (h:=Zb rfl (fun g1=>?_) (fun g1=>?_))))))))))))))))
 try simp only [sQ,ne_eq] at g1
 refine Za (xA (h:=Ze (Zl ?_)))
 exact eR t1 ⟨ZE (by first | (unfold szI;split <;> omega)),rfl,rfl⟩
 try simp only [sQ,ne_eq] at g1
 refine wSk (Za (xM (h:=xW ZsH (h:=x1 lk9 0 (h:=xVs Tryz.underlying9 (h:=xU (h:=xA (h:=Zd (Za (xM (h:=ZB (h:=Zb rfl (fun g2=>?_) (fun g2=>?_)))))))))))))
 try simp only [sQ,ne_eq] at g2
 refine Za (xA (h:=Ze (Zl ?_)))
 exact eR t1 ⟨ZE (by first | (unfold szI;split <;> omega)),rfl,rfl⟩
 try simp only [sQ,ne_eq] at g2
 refine wSk (Za (xM (h:=xW ZsG (h:=x1 lk9 0 (h:=xVs Tryz.underlying9 (h:=xU (h:=xA (h:=Zd (Za (xM (h:=ZB (h:=Zb rfl (fun g3=>?_) (fun g3=>?_)))))))))))))
 try simp only [sQ,ne_eq] at g3
 refine Za (xA (h:=Ze (Zl ?_)))
 exact eR t1 ⟨ZE (by first | (unfold szI;split <;> omega)),rfl,rfl⟩
 try simp only [sQ,ne_eq] at g3
 refine wSk (Za (xM (h:=xA (h:=Ze ?_))))
 exact eR t1 ⟨ZE (by first | (unfold szI;split <;> omega)),rfl,rfl⟩

theorem ZeW (u y z:Str) (B:Kn):Z0 (pj J) 12 [.agg #[str u,str y,str z]] B (.agg #[str u,str y,str z]):=by
 refine cB 14 Tryz.func12 (h:=?_)
 refine Za (xBx [_,_,_] (h:=fun b1=>xAl [_,_,_] Zyq (h:=fun b2=>tL2 (Za (xAl [_,_,_] Zyq (h:=fun b3=>tL3 (Za (xW ZsI (h:=x1 lk9 0 (h:=xW Zmm (h:=xS [_] 2 [_,_,_] sz9 (h:=tL3 (Za (xW ZsH (h:=x1 lk9 0 (h:=xW Zpk (h:=xS [_] 2 [_,_,_] sz9 (h:=tL3 (Za (xW ZsG (h:=x1 lk9 0 (h:=xW Zpj (h:=xS [_] 2 [_,_,_] sz9 (h:=tL3 (Za (xL [_,_,_] Zv2 2 (h:=xS [_,_,_] 1 [_,_,_] Zy4 (h:=tL3 (Ze ?_)))))))))))))))))))))))))))))
 exact eR ⟨⟨_,rfl,.inr ⟨[_,_,_],Zv2,Zct 1 rfl rfl rfl,rfl⟩⟩,trivial⟩ ⟨rfl,rfl,rfl⟩

set_option maxHeartbeats 400000 in
theorem Ziz (q:Option Addr) (cp:Nat) (xs:List DFolder) (l:Cells) (k:Nat) (hk:kL ZeD k xs≤800000000000000) (hn:xs.length≤2000000) (B:Kn) (hv:ZaM l q cp 87 5 (Z4 224 89) xs):Zx (pj J) 54 [.slice q xs.length cp,.int .i64 k] B [l] (fun v B' Ls=>B'=B∧∃l',Ls=[l']∧v = .int .i64 ((kL ZeD k xs:Nat):Int)∧ZaM l' q cp 87 5 (Z4 224 89) (mkL ZeD mkF k xs)):=by
 refine Zb5 52 Tryz.func54 rfl rfl rfl (Nat.le_of_ble_eq_true rfl) ?_
 have hvc:=hv.cap
 refine Za ?_
 refine xA (h:=?_)
 refine Zd ?_
 refine Za ?_
 refine xA (h:=?_)
 refine Zh ?_
 refine Zv (α:=Nat × Nat × Cells × List DFolder) [4] (fun g=>[(0,.slice q xs.length cp),(1,.int .i64 ((g.2.1:Nat):Int)),(5,.int .i64 g.1)]) [0] (fun g=>[g.2.2.1]) (fun g Bx=>Bx=B∧g.1≤xs.length∧g.2.1=kL ZeD k (xs.take g.1)∧g.2.2.2.length=xs.length∧g.2.2.2.take g.1=mkL ZeD mkF k (xs.take g.1)∧g.2.2.2.drop g.1=xs.drop g.1∧ZaM g.2.2.1 q cp 87 5 (Z4 224 89) g.2.2.2) (fun g=>xs.length - g.1) (0,k,l,xs) t3 rfl (⟨rfl,Nat.zero_le _,ZsD.symm,rfl,rfl,rfl,hv⟩) (fun g B1 hle1 hI=>?_)
 obtain ⟨rfl,hi,hs,hle,ht,hd,hw⟩:=hI
 refine Zz [(0,_),(1,_),(4,_),(5,_)] [_] t4 rfl ?_
 refine Zd ?_
 refine Za ?_
 refine xM (h:=?_)
 refine xM (h:=?_)
 refine xV Tryz.underlying39 (h:=?_)
 refine ZB (h:=?_)
 refine Zb rfl (fun g1=>?_) (fun g1=>?_)
 try simp only [sQ,ne_eq] at g1
 obtain ⟨x,hx⟩:=ZM (xs:=xs) (i:=g.1) oz
 have hy:=(Zmq hd).trans hx
 have hkl:=Nat.le_trans (Zvn (st:=ZeD) (k:=k) hx) hk
 rw [← hs] at hkl
 have hst:ZeD x=3+2*x.grants.length+3*x.mail.length:=rfl
 refine ZL ?_
 refine Zm ?_
 refine Zd ?_
 refine Zh ?_
 refine Za ?_
 refine xM (h:=?_)
 refine xM (h:=?_)
 refine xM (h:=?_)
 refine xR ZpR rfl (ZaL (g.2.1) oz _) (h:=?_)
 obtain ⟨bb3,_,li3,lr3,hp3,⟨qg3,cg3,qm3,cm3,ia3,ib3,rfl,rfl,hg3,hm3,ho3,hn3,hx3,hy3⟩,hw3,hq3,hc3,hk3⟩:=hw.cell (B:=B1) (L:=[g.2.2.1]) hy 0 rfl
 refine xIp hp3 Tryz.underlying39 ZdS (h:=?_)
 refine xW ZbS (h:=?_)
 refine Zk (ZhH (k:=g.1) (us:=[_]) ((⟨ZO (g.2.1),x.name,x.grants,x.next,x.mail⟩:DFolder)) 0 0 rfl hw hp3 hy rfl rfl sz9 rfl rfl rfl rfl (Nat.le_of_ble_eq_true rfl) (by rintro _ _ ⟨_,_,_,_,_,_,rfl,rfl,h1,h2,h3,h4,h5,h6⟩;exact ⟨_,_,_,_,_,_,rfl,rfl,h1,h2,show (ZO (g.2.1)).length≤2000000 from Nat.le_trans (Zbl (k:=g.2.1) oz) (by decide),h4,h5,h6⟩) (fun l4 hv4=>?_))
 have hs4:=ZdC (z:=((⟨ZO (g.2.1),x.name,x.grants,x.next,x.mail⟩:DFolder))) hy
 refine Znz [_] rfl ?_
 refine Za ?_
 refine xM (h:=?_)
 refine xD (h:=?_)
 refine xA (h:=?_)
 refine Za ?_
 refine xM (h:=?_)
 refine xM (h:=?_)
 refine xM (h:=?_)
 refine xR ZpR rfl (ZaL ((g.2.1)+1) oz _) (h:=?_)
 obtain ⟨bb6,_,li6,lr6,hp6,⟨qg6,cg6,qm6,cm6,ia6,ib6,rfl,rfl,hg6,hm6,ho6,hn6,hx6,hy6⟩,hw6,hq6,hc6,hk6⟩:=hv4.cell (B:=B1) (L:=[l4]) hs4 0 rfl
 refine xIp hp6 Tryz.underlying39 ZdS (h:=?_)
 refine xW ZdW (h:=?_)
 refine Zk (ZhH (k:=g.1) (us:=[_]) ((⟨ZO (g.2.1),ZO (g.2.1+1),x.grants,x.next,x.mail⟩:DFolder)) 1 0 rfl hv4 hp6 hs4 rfl rfl sz9 rfl rfl rfl rfl (Nat.le_of_ble_eq_true rfl) (by rintro _ _ ⟨_,_,_,_,_,_,rfl,rfl,h1,h2,h3,h4,h5,h6⟩;exact ⟨_,_,_,_,_,_,rfl,rfl,h1,h2,h3,show (ZO (g.2.1+1)).length≤2000000 from Nat.le_trans (Zbl (k:=g.2.1+1) oz) (by decide),h5,h6⟩) (fun l7 hv7=>?_))
 rw [List.set_set] at hv7
 have hs7:=ZdC (z:=((⟨ZO (g.2.1),ZO (g.2.1+1),x.grants,x.next,x.mail⟩:DFolder))) hy
 refine Znz [_] rfl ?_
 obtain ⟨bb8,_,li8,lr8,hp8,⟨qg8,cg8,qm8,cm8,ia8,ib8,rfl,rfl,hg8,hm8,ho8,hn8,hx8,hy8⟩,hw8,hq8,hc8,hk8⟩:=hv7.cell (B:=B1) (L:=[_]) hs7 0 rfl
 replace hc8:=fun m u h=>(hc8 m u h).perm (ZfL 0 rfl (ZoB hq8))
 refine ZgK 0 rfl (ZoB hq8) ?_
 refine Za ?_
 refine xM (h:=?_)
 refine xD (h:=?_)
 refine xA (h:=?_)
 refine Znz [_,_,_] rfl ?_
 refine Za ?_
 refine xM (h:=?_)
 refine xM (h:=?_)
 refine xIp hp8 Tryz.underlying39 ZdS (h:=?_)
 refine xW ZeM (h:=?_)
 refine Zk (Zn rfl rfl ZsB rfl (hc8 2 _ rfl) ?_)
 refine xM (h:=?_)
 refine Zk (ZbG [1] rfl rfl rfl rfl Zzo rfl (ZjS _ _ (((⟨ZO (g.2.1),ZO (g.2.1+1),x.grants,x.next,x.mail⟩:DFolder)).grants) _ (((g.2.1)+1)+1) oz oz _ (hg8.anyK Z1.any)) ?_)
 rintro _ B9 _ hle9 ⟨rfl,l9,rfl,rfl,hs9⟩
 refine xA (h:=?_)
 refine Znz [_,_,_] rfl ?_
 refine ZeT 0 2 rfl rfl (by decide) ?_
 refine ZeT 0 1 rfl rfl (by decide) ?_
 have hv10:=hk8 (⟨ZO (g.2.1),ZO (g.2.1+1),ZaE (g.2.1+1+1) x.grants.length,x.next,x.mail⟩:DFolder) _ ⟨qg8,cg8,qm8,cm8,_,_,by simp only [ZcZ,ZdG],rfl,hs9.anyK Z1.any,hm8.anyK Zao.any,ho8,hn8,by first | assumption | (rw [ZcZ];assumption),by first | assumption | (rw [ZdG];assumption)⟩
 rw [List.append_assoc,List.set_set] at hv10
 have hs10:=ZdC (z:=((⟨ZO (g.2.1),ZO (g.2.1+1),ZaE (g.2.1+1+1) x.grants.length,x.next,x.mail⟩:DFolder))) hy
 refine ZqE [0] rfl ?_
 refine Za ?_
 refine xM (h:=?_)
 refine xM (h:=?_)
 refine xM (h:=?_)
 obtain ⟨bb11,_,li11,lr11,hp11,⟨qg11,cg11,qm11,cm11,ia11,ib11,rfl,rfl,hg11,hm11,ho11,hn11,hx11,hy11⟩,hw11,hq11,hc11,hk11⟩:=hv10.cell (B:=B9) (L:=[_]) hs10 0 rfl
 refine xIp hp11 Tryz.underlying39 ZdS (h:=?_)
 refine xW Zc1 (h:=?_)
 refine xW Zgo (h:=?_)
 refine Zk (ZhH (k:=g.1) (us:=[_]) ((⟨ZO (g.2.1),ZO (g.2.1+1),ZaE (g.2.1+1+1) x.grants.length,((g.2.1+1+1+2*x.grants.length:Nat):Int),x.mail⟩:DFolder)) 3 0 rfl hv10 hp11 hs10 rfl rfl sz3 rfl rfl rfl rfl (Nat.le_of_ble_eq_true rfl) (by rintro _ _ ⟨_,_,_,_,_,_,rfl,rfl,h1,h2,h3,h4,h5,h6⟩;exact ⟨_,_,_,_,_,_,rfl,rfl,h1,h2,h3,h4,h5,h6⟩) (fun l12 hv12=>?_))
 rw [List.set_set] at hv12
 have hs12:=ZdC (z:=((⟨ZO (g.2.1),ZO (g.2.1+1),ZaE (g.2.1+1+1) x.grants.length,((g.2.1+1+1+2*x.grants.length:Nat):Int),x.mail⟩:DFolder))) hy
 refine Znz [_] rfl ?_
 obtain ⟨bb13,_,li13,lr13,hp13,⟨qg13,cg13,qm13,cm13,ia13,ib13,rfl,rfl,hg13,hm13,ho13,hn13,hx13,hy13⟩,hw13,hq13,hc13,hk13⟩:=hv12.cell (B:=B9) (L:=[_]) hs12 0 rfl
 replace hc13:=fun m u h=>(hc13 m u h).perm (ZfL 0 rfl (ZoB hq13))
 refine ZgK 0 rfl (ZoB hq13) ?_
 refine Za ?_
 refine xM (h:=?_)
 refine xD (h:=?_)
 refine xA (h:=?_)
 refine Znz [_,_,_] rfl ?_
 refine Zf ?_
 refine xM (h:=?_)
 refine xM (h:=?_)
 refine xIp hp13 Tryz.underlying39 ZdS (h:=?_)
 refine xW Zc1 (h:=?_)
 refine xW ZbT (h:=?_)
 refine Zk (Zn rfl rfl ZjV rfl (hc13 4 _ rfl) ?_)
 refine xM (h:=?_)
 refine Zk (ZbG [2] rfl rfl rfl rfl Zzn rfl (Zla _ _ (((⟨ZO (g.2.1),ZO (g.2.1+1),ZaE (g.2.1+1+1) x.grants.length,((g.2.1+1+1+2*x.grants.length:Nat):Int),x.mail⟩:DFolder)).mail) _ (((((g.2.1)+1)+1)+2*(((⟨ZO (g.2.1),ZO (g.2.1+1),x.grants,x.next,x.mail⟩:DFolder)).grants).length)+1) oz oz _ (hm13.anyK Zao.any)) ?_)
 rintro _ B14 _ hle14 ⟨rfl,l14,rfl,rfl,hs14⟩
 refine xA (h:=?_)
 refine ZI (Zm ?_)
 refine ZeT 0 2 rfl rfl (by decide) ?_
 refine ZeT 0 1 rfl rfl (by decide) ?_
 have hv15:=hk13 (⟨ZO (g.2.1),ZO (g.2.1+1),ZaE (g.2.1+1+1) x.grants.length,((g.2.1+1+1+2*x.grants.length:Nat):Int),Zci (g.2.1+1+1+2*x.grants.length+1) x.mail.length⟩:DFolder) _ ⟨qg13,cg13,qm13,cm13,_,_,by simp only [ZcZ,ZdG],rfl,hg13.anyK Z1.any,hs14.anyK Zao.any,ho13,hn13,by first | assumption | (rw [ZcZ];assumption),by first | assumption | (rw [ZdG];assumption)⟩
 rw [List.append_assoc,List.set_set] at hv15
 have hs15:=ZdC (z:=((⟨ZO (g.2.1),ZO (g.2.1+1),ZaE (g.2.1+1+1) x.grants.length,((g.2.1+1+1+2*x.grants.length:Nat):Int),Zci (g.2.1+1+1+2*x.grants.length+1) x.mail.length⟩:DFolder))) hy
 refine ZqE [0] rfl ?_
 refine Zf ?_
 refine xM (h:=?_)
 refine xD (h:=?_)
 refine xA (h:=?_)
 exact Zy (g.1+1,g.2.1+1+1+2*x.grants.length+1+3*x.mail.length,_,(g.2.2.2.set g.1 ((⟨ZO (g.2.1),ZO (g.2.1+1),ZaE (g.2.1+1+1) x.grants.length,((g.2.1+1+1+2*x.grants.length:Nat):Int),Zci (g.2.1+1+1+2*x.grants.length+1) x.mail.length⟩:DFolder)))) [0] so2 ⟨rfl,so,by simp only [];rw [Zlh hx,← hs,hst];omega,ZlU hle,ZjP ht hx hle hs,Zmp hd,hv15⟩ t4 rfl
 try simp only [sQ,ne_eq] at g1
 have he:=ZoQ ht hle oz
 have hgi:g.1=xs.length:=by omega
 refine ZA (ZP (ZC (Zs (Zm ?_))))
 refine Za ?_
 refine xM (h:=?_)
 refine xA (h:=?_)
 refine Ze ?_
 exact ZeG .ret (.inl rfl) [_] [0] rfl t1 ⟨rfl,_,rfl,by rw [hs,ZsE oz];rfl,by rw [← he];exact hw⟩

theorem Zlc (q:Option Addr) (cp:Nat) (xs:List DItem) (l:Cells) (k:Nat) (hk:kL ZeX k xs≤800000000000000) (hn:xs.length≤2000000) (B:Kn) (hv:ZaM l q cp 146 4 (Za8 9) xs):Zx (pj J) 100 [.slice q xs.length cp,.int .i64 k] B [l] (fun v B' Ls=>B'=B∧∃l',Ls=[l']∧v = .int .i64 ((kL ZeX k xs:Nat):Int)∧ZaM l' q cp 146 4 (Za8 9) (mkL ZeX mkI k xs)):=by
 refine cB 43 Tryz.func100 (h:=?_)
 have hvc:=hv.cap
 refine Za (xA (h:=Zd (Za (xA (h:=Zh (Zv (α:=Nat × Nat × Cells × List DItem) [4] (fun g=>[(0,.slice q xs.length cp),(1,.int .i64 ((g.2.1:Nat):Int)),(5,.int .i64 g.1)]) [0] (fun g=>[g.2.2.1]) (fun g Bx=>Bx=B∧g.1≤xs.length∧g.2.1=kL ZeX k (xs.take g.1)∧g.2.2.2.length=xs.length∧g.2.2.2.take g.1=mkL ZeX mkI k (xs.take g.1)∧g.2.2.2.drop g.1=xs.drop g.1∧ZaM g.2.2.1 q cp 146 4 (Za8 9) g.2.2.2) (fun g=>xs.length - g.1) (0,k,l,xs) t3 rfl (⟨rfl,Nat.zero_le _,ZsD.symm,rfl,rfl,rfl,hv⟩) (fun g B1 hle1 hI=>?_)))))))
 obtain ⟨rfl,hi,hs,hle,ht,hd,hw⟩:=hI
 refine Zz [(0,_),(1,_),(4,_),(5,_)] [_] t4 rfl (Zd (Za (xM (h:=xM (h:=xV Tryz.underlying40 (h:=ZB (h:=Zb rfl (fun g1=>?_) (fun g1=>?_))))))))
 try simp only [sQ,ne_eq] at g1
 obtain ⟨x,hx⟩:=ZM (xs:=xs) (i:=g.1) oz
 have hy:=(Zmq hd).trans hx
 have hkl:=Nat.le_trans (Zvn (st:=ZeX) (k:=k) hx) hk
 rw [← hs] at hkl
 have hst:ZeX x=3+x.left.length:=rfl
 refine wSk (Zd (Zh (Za (xM (h:=xM (h:=xM (h:=?_)))))))
 obtain ⟨bb2,_,li2,lr2,hp2,⟨qg2,cg2,rfl,hg2,ho2,hn2,hx2⟩,hw2,hq2,hc2,hk2⟩:=hw.cell (B:=B1) (L:=[g.2.2.1]) hy 0 rfl
 refine xIp hp2 Tryz.underlying40 Zcc (h:=xW Zej (h:=Zk (ZhH (k:=g.1) (us:=[_]) ((⟨((g.2.1:Nat):Int),x.fr,x.text,x.left⟩:DItem)) 0 0 rfl hw hp2 hy rfl rfl sz3 rfl rfl rfl rfl (Nat.le_of_ble_eq_true rfl) (by rintro _ _ ⟨_,_,rfl,h1,h2,h3,h4⟩;exact ⟨_,_,rfl,h1,h2,h3,h4⟩) (fun l3 hv3=>?_))))
 have hs3:=ZdC (z:=((⟨((g.2.1:Nat):Int),x.fr,x.text,x.left⟩:DItem))) hy
 refine tL1 (Za (xM (h:=xD (h:=xA (h:=Za (xM (h:=xM (h:=xM (h:=xR ZpR rfl (ZaL ((g.2.1)+1) oz _) (h:=?_))))))))))
 obtain ⟨bb5,_,li5,lr5,hp5,⟨qg5,cg5,rfl,hg5,ho5,hn5,hx5⟩,hw5,hq5,hc5,hk5⟩:=hv3.cell (B:=B1) (L:=[l3]) hs3 0 rfl
 refine xIp hp5 Tryz.underlying40 Zcc (h:=xW Zei (h:=Zk (ZhH (k:=g.1) (us:=[_]) ((⟨((g.2.1:Nat):Int),ZO (g.2.1+1),x.text,x.left⟩:DItem)) 1 0 rfl hv3 hp5 hs3 rfl rfl sz9 rfl rfl rfl rfl (Nat.le_of_ble_eq_true rfl) (by rintro _ _ ⟨_,_,rfl,h1,h2,h3,h4⟩;exact ⟨_,_,rfl,h1,show (ZO (g.2.1+1)).length≤2000000 from Nat.le_trans (Zbl (k:=g.2.1+1) oz) (by decide),h3,h4⟩) (fun l6 hv6=>?_))))
 rw [List.set_set] at hv6
 have hs6:=ZdC (z:=((⟨((g.2.1:Nat):Int),ZO (g.2.1+1),x.text,x.left⟩:DItem))) hy
 refine tL1 (Za (xM (h:=xD (h:=xA (h:=Za (xM (h:=xM (h:=xM (h:=xR ZpR rfl (ZaL (((g.2.1)+1)+1) oz _) (h:=?_))))))))))
 obtain ⟨bb8,_,li8,lr8,hp8,⟨qg8,cg8,rfl,hg8,ho8,hn8,hx8⟩,hw8,hq8,hc8,hk8⟩:=hv6.cell (B:=B1) (L:=[l6]) hs6 0 rfl
 refine xIp hp8 Tryz.underlying40 Zcc (h:=xW Zf1 (h:=Zk (ZhH (k:=g.1) (us:=[_]) ((⟨((g.2.1:Nat):Int),ZO (g.2.1+1),ZO (g.2.1+1+1),x.left⟩:DItem)) 2 0 rfl hv6 hp8 hs6 rfl rfl sz9 rfl rfl rfl rfl (Nat.le_of_ble_eq_true rfl) (by rintro _ _ ⟨_,_,rfl,h1,h2,h3,h4⟩;exact ⟨_,_,rfl,h1,h2,show (ZO (g.2.1+1+1)).length≤2000000 from Nat.le_trans (Zbl (k:=g.2.1+1+1) oz) (by decide),h4⟩) (fun l9 hv9=>?_))))
 rw [List.set_set] at hv9
 have hs9:=ZdC (z:=((⟨((g.2.1:Nat):Int),ZO (g.2.1+1),ZO (g.2.1+1+1),x.left⟩:DItem))) hy
 refine tL1 ?_
 obtain ⟨bb10,_,li10,lr10,hp10,⟨qg10,cg10,rfl,hg10,ho10,hn10,hx10⟩,hw10,hq10,hc10,hk10⟩:=hv9.cell (B:=B1) (L:=[_]) hs9 0 rfl
 replace hc10:=fun m u h=>(hc10 m u h).perm (ZfL 0 rfl (Zu5 hq10))
 refine ZgK 0 rfl (Zu5 hq10) ?_
 refine Za ?_
 refine Zk (Zbf rfl rfl rfl ?_)
 refine Zk (ZfG rfl rfl rfl rfl (by first | exact ZbP (by first | omega | (simp;done) | (simp;omega)) (by first | omega | (simp;done) | (simp;omega)) | rfl) ?_)
 refine Zk (Zbo rfl rfl rfl ?_)
 refine Znz [_,_] rfl ?_
 refine Zf ?_
 refine Zk (Zbf rfl rfl rfl ?_)
 refine Zk (Zbf rfl rfl rfl ?_)
 refine Zk (ZkC hp10 rfl rfl Tryz.underlying40 Zcc rfl rfl (by first | omega | (simp;done) | (simp;omega)) (by first | omega | (simp;done) | (simp;omega)) ?_)
 refine Zk (Zae rfl rfl Zda rfl ?_)
 refine Zk (Zn rfl rfl ZfV rfl (hc10 3 _ rfl) ?_)
 refine Zk (Zbf rfl rfl rfl ?_)
 refine Zk (ZbG [1] rfl rfl rfl rfl ZxU rfl (Ziy _ _ (((⟨((g.2.1:Nat):Int),ZO (g.2.1+1),ZO (g.2.1+1+1),x.left⟩:DItem)).left) _ ((((g.2.1)+1)+1)+1) (by omega) (by omega) _ (hg10.anyK Zdt.any)) ?_)
 rintro _ B11 _ hle11 ⟨rfl,l11,rfl,rfl,hs11⟩
 refine xA (h:=ZI (Zm (ZeT 0 1 rfl rfl (by decide) ?_)))
 have hv12:=hk10 (⟨((g.2.1:Nat):Int),ZO (g.2.1+1),ZO (g.2.1+1+1),ZdU (g.2.1+1+1+1) x.left.length⟩:DItem) _ ⟨qg10,cg10,by simp only [ZhX],hs11.anyK Zdt.any,ho10,hn10,by first | assumption | (rw [ZhX];assumption)⟩
 rw [List.set_set] at hv12
 have hs12:=ZdC (z:=((⟨((g.2.1:Nat):Int),ZO (g.2.1+1),ZO (g.2.1+1+1),ZdU (g.2.1+1+1+1) x.left.length⟩:DItem))) hy
 refine ZqE [0] rfl (Zf (xM (h:=xD (h:=xA (h:=?_)))))
 exact Zy (g.1+1,g.2.1+1+1+1+1*x.left.length,_,(g.2.2.2.set g.1 ((⟨((g.2.1:Nat):Int),ZO (g.2.1+1),ZO (g.2.1+1+1),ZdU (g.2.1+1+1+1) x.left.length⟩:DItem)))) [0] so2 ⟨rfl,so,by simp only [];rw [Zlh hx,← hs,hst];omega,ZlU hle,ZjP ht hx hle hs,Zmp hd,hv12⟩ t4 rfl
 try simp only [sQ,ne_eq] at g1
 have he:=ZoQ ht hle oz
 refine ZA (ZP (ZC (Zs (Zm (Za (xM (h:=xA (h:=Ze ?_))))))))
 exact ZeG .ret (.inl rfl) [_] [0] rfl ⟨rfl,trivial⟩ ⟨rfl,_,rfl,by rw [hs,ZsE (by omega)];rfl,by rw [← he];exact hw⟩

theorem Zk9 (q1:Option Addr) (c1:Nat) (x:DQueue) (l1:Cells) (k:Nat) (hk:kL ZeX k x.items≤800000000000000) (hn:x.items.length≤2000000) (B:Kn) (hv:ZaM l1 q1 c1 146 4 (Za8 9) x.items):Zx (pj J) 55 [.agg #[.int .i64 x.next,.slice q1 x.items.length c1],.int .i64 k] B [l1] (fun v B' Ls=>B'=B∧∃l',Ls=[l']∧v = .int .i64 ((kL ZeX k x.items:Nat):Int)∧ZaM l' q1 c1 146 4 (Za8 9) (mkL ZeX mkI k x.items)):=by
 refine cB 10 Tryz.func55 (h:=?_)
 refine Za (xBx [_,_] (h:=fun b1=>xA (h:=tL2 (Za (xW Zcq (h:=x1 Zkx 1 (h:=xM (h:=xK [0] rfl Zyn rfl (Zlc _ _ x.items _ k oa oz _ hv) (h:=?_)))))))))
 rintro _ B2 _ hle2 ⟨rfl,l2,rfl,rfl,hs2⟩
 refine xA (h:=tL2 (Za (xM (h:=xA (h:=Ze ?_)))))
 exact eN [0] rfl t1 ⟨rfl,_,rfl,rfl,hs2⟩

theorem Zm3 (q1 q2 q3:Option Addr) (c1 c2 c3:Nat) (x:DHost) (l1 l2 l3:Cells) (k:Nat) (hk:kH k x≤800000000000000) (hn1:x.users.length≤2000000) (hn2:x.folders.length≤2000000) (hn3:x.queue.items.length≤2000000) (B:Kn) (hu:ZU Kn.none l1 q1 c1 142 3 ZJ x.users) (hf:ZaM l2 q2 c2 87 5 (Z4 224 89) x.folders) (hi:ZaM l3 q3 c3 146 4 (Za8 9) x.queue.items):Zx (pj J) 18 [.agg #[str x.domain,.slice q1 x.users.length c1,.slice q2 x.folders.length c2,.int .i64 x.queue.next,.slice q3 x.queue.items.length c3],.int .i64 k] B [l1,l2,l3] (fun v B' Ls=>B'=B∧∃l1' l2' l3',Ls=[l1',l2',l3']∧v = .int .i64 ((kH k x:Nat):Int)∧ZU Kn.none l1' q1 c1 142 3 ZJ (Ze3 k x.users.length)∧ZaM l2' q2 c2 87 5 (Z4 224 89) (mkL ZeD mkF (k+3*x.users.length) x.folders)∧ZaM l3' q3 c3 146 4 (Za8 9) (mkL ZeX mkI (kL ZeD (k+3*x.users.length) x.folders) x.queue.items)):=by
 refine cB 18 Tryz.func18 (h:=?_)
 have hk3:kL ZeX (kL ZeD (k+3*x.users.length) x.folders) x.queue.items≤800000000000000:=hk
 have hk2:(kL ZeD (k+3*x.users.length) x.folders)≤800000000000000:=Nat.le_trans Zvm hk3
 have hk1:(k+3*x.users.length)≤800000000000000:=Nat.le_trans Zvm hk2
 refine Za (xBx [_,_,_,_,_] (h:=fun b1=>xA (h:=tL4 (Za (xW ZbU (h:=x1 ZjW 3 (h:=xM (h:=xK [0] rfl ZzI rfl (Zk7 _ _ x.users _ k oz oz _ (hu.anyK ZJ.any)) (h:=?_)))))))))
 rintro _ B2 _ hle2 ⟨rfl,l2,rfl,rfl,hs2⟩
 refine xA (h:=tL4 (Za (xW ZaB (h:=x1 Zfs 3 (h:=xM (h:=xK [1] rfl ZzH rfl (Ziz _ _ x.folders _ (k+3*x.users.length) oa oz _ hf) (h:=?_)))))))
 rintro _ B3 _ hle3 ⟨rfl,l3,rfl,rfl,hs3⟩
 refine xA (h:=tL4 (Za (xW ZeN (h:=xL [_,_] ZnC 3 (h:=xM (h:=xK [2] rfl ZzG rfl (Zk9 _ _ x.queue _ (kL ZeD (k+3*x.users.length) x.folders) oa oz _ hi) (h:=?_)))))))
 rintro _ B4 _ hle4 ⟨rfl,l4a,rfl,rfl,hs4a⟩
 refine xA (h:=tL4 (Za (xM (h:=xA (h:=Ze ?_)))))
 exact eN [0,1,2] rfl t1 ⟨rfl,_,_,_,rfl,rfl,hs2.anyK ZJ.any,hs3,hs4a⟩

theorem Zvx (v:Value) (Q:Value→Kn→Cells→Prop) (B:Kn) (L:Cells):hb Tryz.prog (Extern.ReflectliteType.typeOf #[.iface 372 v]) Q B L=Q (.iface 317 (.agg #[.pointer (some ⟨5,372,none⟩)])) B L:=by kernel_rfl

theorem Zvy (v:Value) (k:Nat) (Q:FuncId × Value→Kn→Cells→Prop) (B:Kn) (L:Cells):hb Tryz.prog (Go.method (k+1) 317 v "Comparable") Q B L=Q (313,v) B L:=by kernel_rfl

theorem Zvz (Q:Value→Kn→Cells→Prop) (B:Kn) (L:Cells):hb Tryz.prog ((Extern.ReflectliteType.method fun t=>do Extern.Rtype.noPackHeld "Comparable" t;pure (.bool (← typeInfo t).comparable)) #[(.agg #[.pointer (some ⟨5,372,none⟩)])]) Q B L=Q (.bool true) B L:=by kernel_rfl

theorem ZtY:Extern.find Tryz.f313=some (Extern.ReflectliteType.method fun t=>do Extern.Rtype.noPackHeld "Comparable" t;pure (.bool (← typeInfo t).comparable)):=by kernel_rfl
theorem ZtX:Extern.find Tryz.f187=some Extern.ReflectliteType.typeOf:=by kernel_rfl

theorem ZwP:Extern.findNext Tryz.f187=none:=by kernel_rfl
theorem ZwQ:Extern.findNext Tryz.f313=none:=by kernel_rfl

theorem ZtV (c k:Nat) (hc:c<4) (hk:k<4) (a:Nat→Addr)  (B:Kn) (hE:ErrsB 372 [0,1,2,3] B a):Z0 (pj J) 188 [errv 372 a (c+1),errv 372 a (k+1),.bool true] B (.bool (decide (c+1=k+1))):=by
 refine cB 54 Tryz.func188 (h:=?_)
 refine Za (xA (h:=Zh (Zv (α:=Unit) [1,2] (fun u=>[(0,errv 372 a (c+1))]) [] (fun u=>[]) (fun u Bx=>Bx=B) (fun u=>0) () t1 rfl (rfl) (fun u B1 hle1 hI=>?_))))
 subst hI
 refine Zz [(0,_),(1,_),(2,_)] [] t3 rfl (Zh (Zd (Za (xM (h:=xM (h:=Zt (d:=15) rfl (fun g1=>?_) (fun g1=>by cases g1)))))))
 try simp only [sQ,ne_eq] at g1
 refine xM (h:=xM (h:=Zk (ZnT (a:=a) (c:=(c+1)) (k:=k) hE oz oz rfl rfl Tryz.underlying100 Tryz.underlying372 ZyU ZuP rfl rfl ?_)))
 refine xT (h:=Zb rfl (fun g2=>?_) (fun g2=>?_))
 try simp only [sQ,ne_eq] at g2
 refine Za (xA (h:=Ze (Zl (Zu (ZF (Zu ?_))))))
 exact eR t1 ⟨Zc (decide_eq_true g2).symm,rfl,rfl⟩
 try simp only [sQ,ne_eq] at g2
 refine wSk (Zd (Za (xM (h:=Zk (ZgM rfl rfl Tryz.underlying319 kr Zwd rfl ?_)))))
 refine xM (h:=xE (h:=xE (h:=xA (h:=xA (h:=Za (xM (h:=xM (h:=Zt (d:=26) rfl (fun g3=>by cases g3) (fun g3=>?_)))))))))
 try simp only [sQ,ne_eq] at g3
 refine xP (h:=xP (h:=xP (h:=xF (h:=Zb (t:=false) rfl (fun h=>Bool.noConfusion h) (fun _=>wSk (Za (xM (h:=Zh (Za (Zk (ZgM rfl rfl Tryz.underlying322 kr Zwc rfl ?_)))))))))))
 refine xE (h:=xE (h:=Zb rfl (fun g5=>by cases g5) (fun g5=>?_)))
 try simp only [sQ,ne_eq] at g5
 refine Za (Zk (ZgM rfl rfl Tryz.underlying324 kr Zwb rfl ?_))
 refine xE (h:=xE (h:=Zb rfl (fun g6=>by cases g6) (fun g6=>?_)))
 try simp only [sQ,ne_eq] at g6
 refine Za (xA (h:=Za (xA (h:=Ze (Zu (Zu (ZF (Zu ?_))))))))
 exact eR t1 ⟨Zc (decide_eq_false g2).symm,rfl,rfl⟩

theorem ZtU (c k:Nat) (hc:c<4) (hk:k<4) (a:Nat→Addr)  (B:Kn) (hE:ErrsB 372 [0,1,2,3] B a):Z0 (pj J) 129 [errv 372 a (c+1),errv 372 a (k+1)] B (.bool (decide (c+1=k+1))):=by
 refine cB 22 Tryz.func129 (h:=?_)
 refine Za (xA (h:=Zd (Za (xM (h:=Zk (ZlP (tE:=372) (a:=a) (c:=(c+1)) rfl rfl Tryz.underlying100 rfl (xM (h:=Zt (d:=8) rfl (fun g1=>by simp at g1) (fun g1=>?_)))))))))
 refine xM (h:=Zk (ZlP (tE:=372) (a:=a) (c:=(k+1)) rfl rfl Tryz.underlying100 rfl (xF (h:=Zb rfl (fun g2=>by simp at g2) (fun g2=>?_)))))
 refine wSk (Za (xM (h:=Zk (ZuB (fn:=Tryz.f187) rfl rfl Tryz.func187 rfl rfl ZwP ZtX rfl (Zvx _) (Zk (Zuy (f:=313) (fn:=Tryz.f313) rfl rfl Tryz.func313 rfl rfl ZwQ ZtY rfl (Zvy _) Zvz (xA (h:=Za (xM (h:=xM (h:=xM (h:=xR ZxC rfl (ZtV c k oz oz a _ hE) (h:=?_)))))))))))))
 refine xA (h:=Ze ?_)
 exact eR t1 ⟨rfl,rfl,rfl⟩

theorem ZtW (k:Nat) (hk:k<4) (a:Nat→Addr)  (B:Kn) (hE:ErrsB 372 [0,1,2,3] B a):Z0 (pj J) 129 [.nilIface,errv 372 a (k+1)] B (.bool (decide (0=k+1))):=by
 refine cB 22 Tryz.func129 (h:=?_)
 refine Za (xA (h:=Zd (Za (xM (h:=Zk (ZlP (tE:=372) (a:=a) (c:=0) rfl rfl Tryz.underlying100 rfl (xM (h:=Zt (d:=8) rfl (fun g1=>?_) (fun g1=>by simp at g1)))))))))
 refine xP (h:=xP (h:=xT (h:=Zb (t:=true) rfl (fun _=>Za (xM (h:=xM (h:=Zk (ZnT (a:=a) (c:=0) (k:=k) hE oz oz rfl rfl Tryz.underlying100 Tryz.underlying372 ZyU ZuP rfl rfl ?_))))) (fun h=>Bool.noConfusion h))))
 refine xA (h:=Ze (Zl ?_))
 exact eR t1 ⟨rfl,rfl,rfl⟩

theorem Zmo (c k:Nat) (hc:c<5) (hk:k<4) (a:Nat→Addr)  (B:Kn) (hE:ErrsB 372 [0,1,2,3] B a):Z0 (pj J) 129 [errv 372 a c,errv 372 a (k+1)] B (.bool (decide (c=k+1))):=by
 cases c with
 | zero=>exact ZtW k hk a B hE
 | succ c=>exact ZtU c k oz hk a B hE

theorem ZfX (c:Nat) (hc:c<5) (a:Nat→Addr)  (B:Kn) (hE:ErrsB 372 [0,1,2,3] B a):Z0 (pj J) 75 [errv 372 a (c)] B (.int .i64 c):=by
 refine cB 22 Tryz.func75 (h:=?_)
 refine Za (xA (h:=Zd (Zh (Za (xM (h:=Zk (ZlP (tE:=372) (a:=a) (c:=c) rfl rfl Tryz.underlying100 rfl (xA (h:=Zb rfl (fun g0=>?_) (fun g0=>?_))))))))))
 try simp only [sQ,ne_eq] at g0
 refine Za (xA (h:=Ze (Zu (Zl ?_))))
 exact eR t1 ⟨ZE oz,rfl,rfl⟩
 try simp only [sQ,ne_eq] at g0
 refine Za (xM (h:=Zk (Zn rfl rfl Zle rfl ((hE.row 0 (by decide)) _ 0 _ rfl) ?_)))
 refine xR ZrV rfl (Zmo c 0 om2 om2 a _ hE) (h:=?_)
 refine xA (h:=Zb rfl (fun g1=>?_) (fun g1=>?_))
 try simp only [sQ,ne_eq] at g1
 refine Za (xA (h:=Ze (Zu (Zl ?_))))
 exact eR t1 ⟨ZE oz,rfl,rfl⟩
 try simp only [sQ,ne_eq] at g1
 refine Za (xM (h:=Zk (Zn rfl rfl Zle rfl ((hE.row 1 (by decide)) _ 0 _ rfl) ?_)))
 refine xR ZrV rfl (Zmo c 1 om2 om2 a _ hE) (h:=?_)
 refine xA (h:=Zb rfl (fun g2=>?_) (fun g2=>?_))
 try simp only [sQ,ne_eq] at g2
 refine Za (xA (h:=Ze (Zu (Zl ?_))))
 exact eR t1 ⟨ZE oz,rfl,rfl⟩
 try simp only [sQ,ne_eq] at g2
 refine Za (xM (h:=Zk (Zn rfl rfl Zle rfl ((hE.row 2 (by decide)) _ 0 _ rfl) ?_)))
 refine xR ZrV rfl (Zmo c 2 om2 om2 a _ hE) (h:=?_)
 refine xA (h:=Zb rfl (fun g3=>?_) (fun g3=>?_))
 try simp only [sQ,ne_eq] at g3
 refine Za (xA (h:=Ze (Zu (Zl ?_))))
 exact eR t1 ⟨ZE oz,rfl,rfl⟩
 try simp only [sQ,ne_eq] at g3
 refine Za (xM (h:=Zk (Zn rfl rfl Zle rfl ((hE.row 3 (by decide)) _ 0 _ rfl) ?_)))
 refine xR ZrV rfl (Zmo c 3 om2 om2 a _ hE) (h:=?_)
 refine xA (h:=Zb rfl (fun g4=>?_) (fun g4=>?_))
 try simp only [sQ,ne_eq] at g4
 refine Za (xA (h:=Ze (Zu (Zl ?_))))
 exact eR t1 ⟨ZE oz,rfl,rfl⟩
 try simp only [sQ,ne_eq] at g4
 refine ZL (ZI (Zm (Za (xA (h:=Ze ?_)))))
 exact eR t1 ⟨ZE oz,rfl,rfl⟩

theorem Zp4 (b o:Nat) (q1 q2 q3:Option Addr) (c1 c2 c3:Nat) (x:DHost) (u ow nm:Str) (rr:Int) (hn:u.length≤2000000) (ho:ow.length≤2000000) (hm:nm.length≤2000000) (a:Nat→Addr)  (B:Kn) (hE:ErrsB 372 [0,1,2,3] B a) (hh:Zai B b o [str x.domain,.slice q1 x.users.length c1,.slice q2 x.folders.length c2,.int .i64 x.queue.next,.slice q3 x.queue.items.length c3]) (hu:SlK B q1 c1 3 ZJ x.users) (hf:SlK B q2 c2 5 ZG x.folders):Z0 (pj J) 68 [ptr ⟨b,o,none⟩,str u,str ow,str nm,.int .i64 rr] B (.tuple #[.int .i64 (if Zc4 x.users x.folders u ow nm rr=0 then Zbe (inF ow nm) x.folders else -1),errv 372 a (Zc4 x.users x.folders u ow nm rr)]):=by
 refine cB 47 Tryz.func68 (h:=?_)
 have hfn:=hf.len
 have hix:=Zg6 (inF ow nm) x.folders
 refine Za (xA (h:=xA (h:=Za (xM (h:=xM (h:=xM (h:=xR ZvH rfl (ZsO _ _ _ _ _ _ _ _ x ow nm om2 om2 _ hh hf) (h:=?_))))))))
 refine xA (h:=Zd (Za (xM (h:=ZB (h:=xM (h:=Zt (d:=19) rfl (fun g1=>?_) (fun g1=>?_)))))))
 try simp only [sQ,ne_eq] at g1
 refine xP (h:=xP (h:=xP (h:=xP (h:=xP (h:=xP (h:=xP (h:=xP (h:=xP (h:=xP (h:=xP (h:=xT (h:=Zb (t:=true) rfl (fun _=>Zd (ZY (same _ _) mo kr ⟨rfl,rfl⟩ (fun _ _=>?_))) (fun h=>Bool.noConfusion h)))))))))))))
 refine aT 0 rfl (Z9 fun D=>Zn rfl rfl Zle rfl ((hE.row 0 (by decide)) _ 0 _ rfl) r4) (h:=?_)
 refine aA 1 rfl (h:=aA 2 rfl (h:=Zw kr kr ?_))
 refine Zm (Ze (Zl ?_))
 exact ZpQ .ret (.inl rfl) [_,_] t2 ⟨(by rw [show Zc4 x.users x.folders u ow nm rr=1 from Zp1 (by simpa using g1)];rfl),rfl,rfl⟩
 try simp only [sQ,ne_eq] at g1
 refine xM (h:=xM (h:=xM (h:=xNc (h:=xW ZaB (h:=Zk (Zn rfl rfl Zfs rfl (hh _ 2 _ rfl) (xM (h:=?_))))))))
 obtain ⟨w,hw⟩:=ZsF (xs:=x.folders) (i:=(Zbe (inF ow nm) x.folders)) om om
 obtain ⟨bb3,oo3,rfl⟩:=hf.base hw
 obtain ⟨_,⟨qg4,cg4,qm4,cm4,rfl,hg4,hm4,hb4,hb4b⟩,hc4⟩:=hf.elem hw
 have hg4n:=hg4.len
 have hm4n:=hm4.len
 have hm4s:=Zal hm4
 refine xIx Tryz.underlying39 ZdS (h:=yL [_,_,_,_,_] ZiA hc4 0 (h:=xR ZvG rfl (Zu9 _ _ _ _ _ _ _ _ x _ _ _ _ u w _ om2 om2 _ hh hu hg4) (h:=?_)))
 refine xN (h:=xF (h:=Zb rfl (fun g3=>?_) (fun g3=>?_)))
 try simp only [sQ,ne_eq] at g3
 refine Zd (ZY (same _ _) mo kr ⟨rfl,rfl⟩ (fun _ _=>?_))
 refine aT 0 rfl (Z9 fun D=>Zn rfl rfl Zle rfl ((hE.row 0 (by decide)) _ 0 _ rfl) r4) (h:=?_)
 refine aA 1 rfl (h:=aA 2 rfl (h:=Zw kr kr ?_))
 refine Zm (Ze (Zl ?_))
 exact ZpQ .ret (.inl rfl) [_,_] t2 ⟨(by rw [show Zc4 x.users x.folders u ow nm rr=1 from by rw [Zi0 oz hw,if_pos (by simpa using g3)]];rfl),rfl,rfl⟩
 try simp only [sQ,ne_eq] at g3
 refine wSk (Zd (Za (xM (h:=xM (h:=xM (h:=xNc (h:=xW ZaB (h:=Zk (Zn rfl rfl Zfs rfl (hh _ 2 _ rfl) (xM (h:=xIx Tryz.underlying39 ZdS (h:=yL [_,_,_,_,_] ZiA hc4 0 (h:=xM (h:=xR ZvG rfl (Zu9 _ _ _ _ _ _ _ _ x _ _ _ _ u w _ om2 om2 _ hh hu hg4) (h:=?_)))))))))))))))
 refine xN (h:=Zb rfl (fun g4=>?_) (fun g4=>?_))
 try simp only [sQ,ne_eq] at g4
 refine Zd (ZY (same _ _) mo kr ⟨rfl,rfl⟩ (fun _ _=>?_))
 refine aT 0 rfl (Z9 fun D=>Zn rfl rfl Zle rfl ((hE.row 1 (by decide)) _ 0 _ rfl) r4) (h:=?_)
 refine aA 1 rfl (h:=aA 2 rfl (h:=Zw kr kr ?_))
 refine Zm (Ze (Zl ?_))
 exact ZpQ .ret (.inl rfl) [_,_] t2 ⟨(by rw [show Zc4 x.users x.folders u ow nm rr=2 from by rw [Zi0 oz hw,if_neg (by simp [g3]),if_pos (by simpa using g4)]];rfl),rfl,rfl⟩
 try simp only [sQ,ne_eq] at g4
 refine wSk (Za (xM (h:=xA (h:=xA (h:=Ze ?_)))))
 exact ZpQ .ret (.inl rfl) [_,_] t2 ⟨(by rw [show Zc4 x.users x.folders u ow nm rr=0 from by rw [Zi0 oz hw,if_neg (by simp [g3]),if_neg (by simp [g4])]];rfl),rfl,rfl⟩

theorem Zhe (q:Option Addr) (cp:Nat) (xs:List DFolder) (B:Kn) (hx:SlK B q cp 5 ZG xs):Zx (pj J) 143 [.slice q xs.length cp] B [] (fun v B' Ls=>B'=B∧∃l a c,Ls=[l]∧v = .slice a xs.length c∧ZaM l a c 87 5 (Z4 224 89) xs):=by
 refine cB 22 Tryz.func143 (h:=?_)
 have hxn:=hx.len
 refine Za (xA (h:=Za (xM (h:=xV Tryz.underlying39 (h:=Zk (ZaQ (m:=0) (c:=xs.length) (by_:=88) [.string ⟨#[]⟩,.string ⟨#[]⟩,.slice none 0 0,.int .i64 0,.slice none 0 0] rfl rfl ZwR Zny rfl rfl ⟨_,_,rfl,by first | omega | (simp;done) | (simp;omega)⟩ ⟨_,_,rfl,by first | omega | (simp;done) | (simp;omega)⟩ om om (fun b1=>?_)))))))
 have hd1:=ZaM.zeros (b:=b1) (T:=87) (R:=(Z4 224 89)) (d:=(⟨[],[],[],0,[]⟩:DFolder)) (m:=0) (c:=xs.length) (zs:=[.string ⟨#[]⟩,.string ⟨#[]⟩,.slice none 0 0,.int .i64 0,.slice none 0 0]) rfl (⟨_,_,_,_,[],[],rfl,rfl,ZU.nil,ZU.nil,by simp,by simp,by simp,by simp⟩) om
 refine xA (h:=tL1 (Zd (Za (xM (h:=xV Tryz.underlying39 (h:=xM (h:=Zh (Zv (α:=Gh DFolder) [0,2,9,10] (fun g=>[(3,.slice g.a g.xs.length g.c),(11,.int .i64 g.k)]) [0] (fun g=>[g.l]) (fun g Bx=>Bx=B∧g.k≤xs.length∧g.xs=xs.take g.k∧g.xs.length≤g.k∧ZaM g.l g.a g.c 87 5 (Z4 224 89) g.xs) (fun g=>xs.length - g.k) ⟨0,0,(ZN b1 (zrow [.string ⟨#[]⟩,.string ⟨#[]⟩,.slice none 0 0,.int .i64 0,.slice none 0 0] xs.length) 87),(some ⟨b1,0,none⟩),xs.length,[]⟩ t2 rfl (⟨rfl,Nat.zero_le _,by simp,Nat.le_refl _,hd1⟩) (fun g B2 hle2 hI=>?_)))))))))
 obtain ⟨rfl,hk,hxs,hxl,hv⟩:=hI
 refine Zz [(0,_),(2,_),(3,_),(9,_),(10,_),(11,_)] [_] t6 rfl (Za (ZB (h:=Zd (Zb rfl (fun g1=>?_) (fun g1=>?_)))))
 try simp only [sQ,ne_eq] at g1
 refine wSk (Zd (Zh (Za ?_)))
 obtain ⟨w,hw⟩:=ZM (xs:=xs) (i:=g.k) om
 obtain ⟨bb4,oo4,rfl⟩:=hx.base hw
 obtain ⟨_,⟨qg5,cg5,qm5,cm5,rfl,hg5,hm5,hb5,hb5b⟩,hc5⟩:=hx.elem hw
 have hg5n:=hg5.len
 have hm5n:=hm5.len
 have hm5s:=Zal hm5
 refine xIx Tryz.underlying39 ZdS (h:=yL [_,_,_,_,_] ZiA hc5 0 (h:=xAl [_,_,_,_,_] Zny (h:=fun b6=>xS [_,_,_,_,_] 1 [_,_,_,_,_] ZdS (h:=tL2 (Zf (xM (h:=xL [_,_,_,_,_] ZiA 1 (h:=xC Zxu rfl (ZiN _ _ _ _ w _ hg5 hm5) (h:=?_)))))))))
 rintro _ B7 _ hle7 ⟨rfl,l7,a7,c7,l7b,a7b,c7b,rfl,rfl,hs7,hs7b⟩
 refine xBs [(0,_)] [_,_,_,_,_] Tryz.underlying39 ZdS Zny (h:=fun b8=>Zk (Zs2 (R:=(Z4 224 89)) (⟨w.owner,w.name,w.grants,w.next,w.mail⟩) 0 [2,3] rfl rfl hv rfl rfl rfl ZwR Zza rfl rfl (Zcy.box 4 rfl) rfl rfl (l7 ++ l7b) (by simp) (⟨_,_,_,_,_,_,rfl,rfl,(hs7.anyK Z1.any),(hs7b.anyK Zao.any),by first | assumption | omega | (simp;done) | (simp;omega),by first | assumption | omega | (simp;done) | (simp;omega),by first | assumption | omega | (simp;done) | (simp;omega),by first | assumption | omega | (simp;done) | (simp;omega)⟩) om (fun l9 p9 c9 hd9=>?_)))
 refine xA (h:=ZI (Zm (Zf (xD (h:=xM (h:=?_))))))
 exact Zy ⟨g.k+1,0,l9,p9,c9,(g.xs ++ [⟨w.owner,w.name,w.grants,w.next,w.mail⟩])⟩ [0] (by first | omega | (simp only [];omega)) ⟨rfl,by simp only [];omega,by simp only [];rw [Zcb hw,hxs],by simp;omega,hd9⟩ ⟨rfl,rfl,rfl,rfl,rfl,rfl,trivial⟩ rfl
 try simp only [sQ,ne_eq] at g1
 have hxe:g.xs=xs:=by rw [hxs];exact List.take_of_length_le oz
 refine ZA (ZP (ZC (Zs (Zm (Za (xM (h:=xA (h:=Ze ?_))))))))
 exact ZeG .ret (.inl rfl) [_] [0] rfl ⟨rfl,trivial⟩ ⟨rfl,_,_,_,rfl,by rw [← hxe];rfl,hxe ▸ hv⟩

theorem Zgk (q1 q2 q3:Option Addr) (c1 c2 c3:Nat) (x:DHost) (B:Kn) (hu:SlK B q1 c1 3 ZJ x.users) (hf:SlK B q2 c2 5 ZG x.folders) (hi:SlK B q3 c3 4 ZaA x.queue.items):Zx (pj J) 91 [.agg #[str x.domain,.slice q1 x.users.length c1,.slice q2 x.folders.length c2,.int .i64 x.queue.next,.slice q3 x.queue.items.length c3]] B [] (fun v B' Ls=>∃q1 c1 q2 c2 q3 c3 l1 l2 l3,Ls=[l1,l2,l3]∧v = .agg #[str x.domain,.slice q1 x.users.length c1,.slice q2 x.folders.length c2,.int .i64 x.queue.next,.slice q3 x.queue.items.length c3]∧ZU Kn.none l1 q1 c1 142 3 ZJ x.users∧ZaM l2 q2 c2 87 5 (Z4 224 89) x.folders∧ZaM l3 q3 c3 146 4 (Za8 9) x.queue.items):=by
 refine cB 16 Tryz.func91 (h:=?_)
 have hun:=hu.len
 have hfn:=hf.len
 have hin:=hi.len
 refine Za (xBx [_,_,_,_,_] (h:=fun b1=>xAl [_,_,_,_,_] ZnE (h:=fun b2=>tL2 (Zd (ZY (keeps _ [0] _) mo kr ⟨Kn.le.refl _,Za3.refl _ _⟩ (fun _ _=>?_))))))
 refine aW 0 rfl Zh5 (h:=aT 1 rfl (ZW fun D B L hI=>Zn rfl rfl lk9 rfl (atL 0 (hI.2.1.trans rfl) rfl rfl) r4) (h:=aW 3 rfl ZbU (h:=aT 4 rfl (ZW fun D B L hI=>Zn rfl rfl ZjW rfl (atL 0 (hI.2.1.trans rfl) rfl rfl) r4) (h:=aW 6 rfl ZaB (h:=aT 7 rfl (ZW fun D B L hI=>Zn rfl rfl Zfs rfl (atL 0 (hI.2.1.trans rfl) rfl rfl) r4) (h:=aW 9 rfl ZeN (h:=aT 10 rfl (ZW fun D B L hI=>ZR [_,_] rfl rfl ZnC rfl (Zct 0 (hI.2.1.trans rfl) rfl rfl) r4) (h:=ZV 2 kr rfl kr (Zbx (parts:=[]) [] rfl rfl Tryz.underlying38 ZbQ Zfc rfl rfl rfl rfl rfl (fun b3=>?_))))))))))
 refine ⟨⟨Kn.le.refl _,t1⟩,(ZV 5 kr rfl kr (ZlQ (R:=ZJ) 2 rfl (ZU.lit0 (R:=ZJ)) rfl rfl rfl ZyI Zzb rfl rfl rfl hu.rows ZJ.one rfl om (fun l4 p4 c4 hv4=>?_)))⟩
 refine ⟨⟨Kn.le.refl _,t1⟩,(ZV 8 kr rfl kr (Zck rfl rfl Zx1 rfl (Zhe _ _ x.folders _ hf) ?_))⟩
 rintro _ B5 _ hle5 ⟨rfl,l5,a5,c5,rfl,rfl,hs5⟩
 refine ⟨⟨Kn.le.refl _,t1⟩,(ZV 11 kr rfl kr (Zck rfl rfl Zx0 rfl (ZjC _ _ x.queue _ hi) ?_))⟩
 rintro _ B6 _ hle6 ⟨l6,q6,c6,rfl,rfl,hd6⟩
 replace hv4:=hv4.mono ZJ.mono hle6
 refine ⟨⟨hle6,t1⟩,(aT 12 rfl (ZW fun D B L hI=>ZcE (parts:=[(0,_),(1,_),(2,_),(3,_)]) [_,_,_,_,_] [_,_,_,_,_] rfl rfl ZwA ZnE rfl rfl rfl r4) (h:=ZcQ 13 kr rfl kr kr kr (ZaC [_,_,_,_,_] 1 [_,_,_,_,_] rfl rfl Zoh rfl rfl rfl rfl rfl rfl rfl rfl ?_)))⟩
 refine Zm (tL5 (Ze ?_))
 exact eN [2,3,4] rfl ⟨⟨_,rfl,.inr ⟨[_,_,_,_,_],ZfE,Zct 1 rfl rfl rfl,rfl⟩⟩,trivial⟩ ⟨_,_,_,_,_,_,_,_,_,rfl,rfl,hv4.anyK ZJ.any,hs5,hd6⟩

theorem Zoq (n:Int) (B:Kn):Z0 (pj J) 93 [.int .i64 n] B (.bool (decide (0≤n) && decide (n≤99))):=by
 refine cB 9 Tryz.func93 (h:=?_)
 refine Za (xA (h:=Za (xM (h:=ZdY (h:=xM (h:=Zt (d:=5) rfl (fun g1=>?_) (fun g1=>?_)))))))
 try simp only [sQ,ne_eq] at g1
 refine xM (h:=Zbs (h:=xT (h:=xA (h:=Ze ?_))))
 exact eR t1 ⟨Zc (by rw [Bool.eq_iff_iff];simp;try omega),rfl,rfl⟩
 try simp only [sQ,ne_eq] at g1
 refine xP (h:=xP (h:=xF (h:=xA (h:=Ze ?_))))
 exact eR t1 ⟨Zc (by rw [Bool.eq_iff_iff];simp;try omega),rfl,rfl⟩

theorem Zj1 (q:Option Addr) (cp:Nat) (xs:List DSpan) (B:Kn) (hs:SlK B q cp 2 Zak xs):Z0 (pj J) 45 [.slice q xs.length cp] B (.bool (Zc7 xs)):=by
 refine cB 30 Tryz.func45 (h:=?_)
 have hsn:=hs.len
 refine Za (xA (h:=Zd (Za (xM (h:=xV Tryz.underlying48 (h:=ZB (h:=xM (h:=Zt (d:=8) rfl (fun g1=>?_) (fun g1=>?_)))))))))
 try simp only [sQ,ne_eq] at g1
 refine xP (h:=xP (h:=xP (h:=xT (h:=Zb (t:=true) rfl (fun _=>Za (xA (h:=Ze (Zl ?_)))) (fun h=>Bool.noConfusion h)))))
 exact eR t1 ⟨Zc (by simp only [Zc7];rw [show (decide (1≤xs.length) && decide (xs.length≤6))=false by simp;omega,Bool.and_false]),rfl,rfl⟩
 try simp only [sQ,ne_eq] at g1
 refine xM (h:=xV Tryz.underlying48 (h:=Zd4 (h:=xF (h:=Zb rfl (fun g2=>?_) (fun g2=>?_)))))
 try simp only [sQ,ne_eq] at g2
 refine Za (xA (h:=Ze (Zl ?_)))
 exact eR t1 ⟨Zc (by simp only [Zc7];rw [show (decide (1≤xs.length) && decide (xs.length≤6))=false by simp;omega,Bool.and_false]),rfl,rfl⟩
 try simp only [sQ,ne_eq] at g2
 refine wSk (Zd (Za (xM (h:=xV Tryz.underlying48 (h:=xM (h:=Zh (Zv (α:=Nat) [0,12,13,14] (fun k=>[(15,.int .i64 k)]) [] (fun k=>[]) (fun k Bx=>Bx=B∧k≤xs.length∧∀y,y∈xs.take k→Zd8 y=true) (fun k=>xs.length - k) 0 t1 rfl (⟨rfl,Nat.zero_le _,by simp⟩) (fun k B1 hle1 hI=>?_))))))))
 obtain ⟨rfl,hk,hall⟩:=hI
 refine Zz [(0,_),(12,_),(13,_),(14,_),(15,_)] [] t5 rfl (Za (ZB (h:=Zd (Zb rfl (fun g3=>?_) (fun g3=>?_)))))
 try simp only [sQ,ne_eq] at g3
 refine wSk (Zd (Zh (Za ?_)))
 obtain ⟨m,hm⟩:=ZM (xs:=xs) (i:=k) om
 obtain ⟨bb3,oo3,rfl⟩:=hs.base hm
 obtain ⟨_,rfl,hc4⟩:=hs.elem hm
 refine xIx Tryz.underlying48 ZkM (h:=yL [_,_] Zuj hc4 0 (h:=xAl [_,_] Zuk (h:=fun b5=>xS [_,_] 0 [_,_] ZkM (h:=tL1 (Za (xW Zgq (h:=x1 lk3 0 (h:=xR ZyL rfl (Zoq m.low _) (h:=xN (h:=xM (h:=Zt (d:=23) rfl (fun g4=>?_) (fun g4=>?_))))))))))))
 try simp only [sQ,ne_eq] at g4
 refine xP (h:=xP (h:=xP (h:=xP (h:=xT (h:=Zb (t:=true) rfl (fun _=>Za (xA (h:=Ze (Zu (Zl (ZF (Zu (Zl ?_)))))))) (fun h=>Bool.noConfusion h))))))
 exact eR t1 ⟨Zc (by rw [Zc7,Zbr hm (by simp only [Zd8];rw [show (decide (0≤m.low) && decide (m.low≤99))=false by simpa using g4,Bool.false_and]),Bool.false_and]),rfl,rfl⟩
 try simp only [sQ,ne_eq] at g4
 refine xW Zgp (h:=x1 lk3 0 (h:=xR ZyL rfl (Zoq m.high _) (h:=xN (h:=xF (h:=Zb rfl (fun g5=>?_) (fun g5=>?_))))))
 try simp only [sQ,ne_eq] at g5
 refine Za (xA (h:=Ze (Zu (Zl (ZF (Zu (Zl ?_)))))))
 exact eR t1 ⟨Zc (by rw [Zc7,Zbr hm (by simp only [Zd8];rw [show (decide (0≤m.high) && decide (m.high≤99))=false by simpa using g5,Bool.and_false]),Bool.false_and]),rfl,rfl⟩
 try simp only [sQ,ne_eq] at g5
 refine ZL (ZI (Zm (Zf (xD (h:=xM (h:=?_))))))
 exact Zy (k+1) [] so2 ⟨rfl,oz,ZaJ hm hall (by simp only [Zd8];rw [show (decide (0≤m.low) && decide (m.low≤99))=true by simpa using g4,show (decide (0≤m.high) && decide (m.high≤99))=true by simpa using g5];rfl)⟩ t5 rfl
 try simp only [sQ,ne_eq] at g3
 refine ZA (ZP (ZC (Zs (Zm (Za (xA (h:=Ze ?_)))))))
 exact eR t1 ⟨Zc (by rw [Zc7,Zc5 (ZaR oz hall),Bool.true_and,Bool.eq_iff_iff];simp;omega),rfl,rfl⟩

theorem ZlX (n last:Int) (B:Kn):Z0 (pj J) 94 [.int .i64 n,.int .i64 last] B (.int .i64 (if n=0 then last else n)):=by
 refine cB 9 Tryz.func94 (h:=?_)
 refine Za (xA (h:=Zd (Za (xM (h:=ZgI (h:=Zb rfl (fun g1=>?_) (fun g1=>?_)))))))
 try simp only [sQ,ne_eq] at g1
 refine Za (xM (h:=xA (h:=Ze (Zl ?_))))
 exact eR t1 ⟨congrArg (Value.int .i64) (by rw [if_pos g1]),rfl,rfl⟩
 try simp only [sQ,ne_eq] at g1
 refine wSk (Za (xM (h:=xA (h:=Ze ?_))))
 exact eR t1 ⟨congrArg (Value.int .i64) (by rw [if_neg g1]),rfl,rfl⟩

theorem Zm8 (q:Option Addr) (cp:Nat) (xs:List DSpan) (last:Int) (B:Kn) (hs:SlK B q cp 2 Zak xs):Zx (pj J) 47 [.slice q xs.length cp,.int .i64 last] B [] (fun v B' Ls=>Ls=[]∧∃a c,v = .slice a (Z7 xs last).length c∧SlK B' a c 1 Zb7 (Z7 xs last)):=by
 refine cB 67 Tryz.func47 (h:=?_)
 have hsn:=hs.len
 refine Za (xA (h:=Za (xBs [] [] Tryz.underlying57 sz3 zo3 (h:=fun b1=>xA (h:=tL1 (Zd (Za (xM (h:=xR ZyQ rfl (Zj1 _ _ xs _ hs) (h:=xN (h:=xM (h:=Zt (d:=18) rfl (fun g1=>?_) (fun g1=>?_)))))))))))))
 try simp only [sQ,ne_eq] at g1
 refine xP (h:=xP (h:=xT (h:=Zb (t:=true) rfl (fun _=>Za (xM (h:=Zfn 0 rfl (ZU.lit0 (R:=Zb7) (w:=1)) Zb7.mono om3 (fun B3 hle3 hr3=>?_)))) (fun h=>Bool.noConfusion h))))
 replace hs:=up1 hle3 hs
 have hr3n:=hr3.len
 refine xA (h:=tL1 ?_)
 rw [ZjJ (.inl (by simpa using g1))]
 refine Ze (Zl ?_)
 exact eN [] rfl t1 ⟨rfl,_,_,rfl,hr3⟩
 try simp only [sQ,ne_eq] at g1
 refine xM (h:=ZB (h:=xF (h:=Zb rfl (fun g2=>?_) (fun g2=>?_))))
 try simp only [sQ,ne_eq] at g2
 refine Za (xM (h:=Zfn 0 rfl (ZU.lit0 (R:=Zb7) (w:=1)) Zb7.mono om3 (fun B4 hle4 hr4=>?_)))
 replace hs:=up1 hle4 hs
 have hr4n:=hr4.len
 refine xA (h:=tL1 ?_)
 rw [ZjJ (.inr g2)]
 refine Ze (Zl ?_)
 exact eN [] rfl t1 ⟨rfl,_,_,rfl,hr4⟩
 try simp only [sQ,ne_eq] at g2
 have hset:Zc7 xs=true:=by simpa using g1
 refine wSk (Za (xM (h:=Zk (Zfg rfl rfl rfl rfl (xA (h:=Za (Zk (Zdw (l:=bitv fun _=>false) rfl rfl Zwh kr (fun b5=>?_)))))))))
 refine tL2 (Zd (Za (xM (h:=xV Tryz.underlying48 (h:=xM (h:=Zh (Zv (α:=Nat × (Nat→Bool)) [0,1,4,5,6,21,25,26] (fun g=>[(27,.int .i64 g.1)]) [1] (fun g=>[ZN b5 (bitv g.2) 169]) (fun g Bx=>Bx=B∧g.1≤xs.length∧g.2=Zg1 xs (min last 99) g.1) (fun g=>xs.length - g.1) (0,fun _=>false) t1 rfl (⟨rfl,Nat.zero_le _,ZoT _ _⟩) (fun g B6 hle6 hI=>?_))))))))
 obtain ⟨rfl,hk,hF⟩:=hI
 refine Zz [(0,_),(1,_),(4,_),(5,_),(6,_),(21,_),(25,_),(26,_),(27,_)] [_,_] t9 rfl (Za (ZB (h:=Zd (Zb rfl (fun g3=>?_) (fun g3=>?_)))))
 try simp only [sQ,ne_eq] at g3
 refine wSk (Zd (Zh (Za ?_)))
 obtain ⟨m,hm⟩:=ZM (xs:=xs) (i:=g.1) om
 obtain ⟨bb8,oo8,rfl⟩:=hs.base hm
 obtain ⟨_,rfl,hc9⟩:=hs.elem hm
 refine xIx Tryz.underlying48 ZkM (h:=?_)
 have hsp:=ZmP hset m (List.mem_of_getElem? hm)
 simp only [Zd8,Bool.and_eq_true,decide_eq_true_eq] at hsp
 have hlo1:1≤(if m.low=0 then (min last 99) else m.low):=by split <;> omega
 have hhi1:1≤(if m.high=0 then (min last 99) else m.high):=by split <;> omega
 refine yL [_,_] Zuj hc9 0 (h:=xAl [_,_] Zuk (h:=fun b10=>xS [_,_] 2 [_,_] ZkM (h:=tL3 (Zd (ZY (same _ _) mo kr ⟨rfl,rfl⟩ (fun _ _=>?_))))))
 refine aW 0 rfl Zgq (h:=aT 1 rfl (Z9 fun D=>Zn rfl rfl lk3 rfl (atL 2 rfl rfl rfl) r4) (h:=aM 2 rfl (h:=aT 3 rfl (Z9 fun D=>Zaa rfl rfl ZyK rfl (ZlX m.low (min last 99) _) r4) (h:=aW 4 rfl Zgp (h:=aT 5 rfl (Z9 fun D=>Zn rfl rfl lk3 rfl (atL 2 rfl rfl rfl) r4) (h:=aM 6 rfl (h:=aT 7 rfl (Z9 fun D=>Zaa rfl rfl ZyK rfl (ZlX m.high (min last 99) _) r4) (h:=aA 8 rfl (h:=aA 9 rfl (h:=Zw kr kr ?_))))))))))
 refine Zm (Zd (Za (xM (h:=xM (h:=Zd4 (h:=Zb rfl (fun g4=>?_) (fun g4=>?_)))))))
 try simp only [sQ,ne_eq] at g4
 refine Zf (xM (h:=xM (h:=xA (h:=xA (h:=Zm (Za (xM (h:=xA (h:=Zh (Zv (α:=Int × (Nat→Bool)) [0,1,4,5,6,8,9,10,21,25,26,27,28,41] (fun o=>[(11,.int .i64 o.1)]) [1] (fun o=>[ZN b5 (bitv o.2) 169]) (fun o Bx=>Bx=B6∧(if m.high=0 then (min last 99) else m.high)≤o.1∧(o.1≤min (if m.low=0 then (min last 99) else m.low) (min last 99)+1∨o.1=(if m.high=0 then (min last 99) else m.high))∧o.2=ZiR g.2 (if m.high=0 then (min last 99) else m.high) o.1) (fun o=>(min (if m.low=0 then (min last 99) else m.low) (min last 99)+1 - o.1).toNat) ((if m.high=0 then (min last 99) else m.high),g.2) t1 rfl (⟨rfl,Int.le_refl _,.inr rfl,Zh7 _ _⟩) (fun o B13 hle13 hI=>?_)))))))))))
 obtain ⟨rfl,ho1,ho2,ho3⟩:=hI
 refine Zz [(0,_),(1,_),(4,_),(5,_),(6,_),(8,_),(9,_),(10,_),(11,_),(21,_),(25,_),(26,_),(27,_),(28,_),(41,_)] [_,_,_] t15 rfl (Zd (Za (xM (h:=xM (h:=xM (h:=Zk (Zfg rfl rfl rfl rfl (Zbs (h:=Zb rfl (fun g5=>?_) (fun g5=>?_))))))))))
 try simp only [sQ,ne_eq] at g5
 refine wSk (Zd (Zh (Zf (xM (h:=Zk (ZnS rfl rfl Tryz.underlying169 sz4 rfl rfl oz oz ?_))))))
 refine Zk (ZlM 1 rfl rfl sz4 rfl rfl rfl oz ?_)
 refine ZI (Zm (Zf (xM (h:=xD (h:=xA (h:=?_))))))
 exact Zy (o.1+1,fun n=>if n=o.1.toNat then true else o.2 n) [0,1,2] so2 ⟨rfl,so,.inl (so),Zh8 ho3 oz ho1⟩ t15 rfl
 try simp only [sQ,ne_eq] at g5
 refine ZA (ZP (ZC (Zs (ZI (Zm (Zf (xD (h:=xM (h:=?_)))))))))
 exact Zy (g.1+1,o.2) [0,1] so2 ⟨rfl,so,ZjR (a:=(if m.high=0 then (min last 99) else m.high)) (e:=(if m.low=0 then (min last 99) else m.low)) hm rfl rfl oz oz oz (by rw [← hF];exact ho3) oz ho1 oz⟩ t9 rfl
 try simp only [sQ,ne_eq] at g4
 refine wSk (Za (xM (h:=xA (h:=Zh (Zv (α:=Int × (Nat→Bool)) [0,1,4,5,6,8,9,10,21,25,26,27,28,41] (fun o=>[(11,.int .i64 o.1)]) [1] (fun o=>[ZN b5 (bitv o.2) 169]) (fun o Bx=>Bx=B6∧(if m.low=0 then (min last 99) else m.low)≤o.1∧(o.1≤min (if m.high=0 then (min last 99) else m.high) (min last 99)+1∨o.1=(if m.low=0 then (min last 99) else m.low))∧o.2=ZiR g.2 (if m.low=0 then (min last 99) else m.low) o.1) (fun o=>(min (if m.high=0 then (min last 99) else m.high) (min last 99)+1 - o.1).toNat) ((if m.low=0 then (min last 99) else m.low),g.2) t1 rfl (⟨rfl,Int.le_refl _,.inr rfl,Zh7 _ _⟩) (fun o B14 hle14 hI=>?_))))))
 obtain ⟨rfl,ho1,ho2,ho3⟩:=hI
 refine Zz [(0,_),(1,_),(4,_),(5,_),(6,_),(8,_),(9,_),(10,_),(11,_),(21,_),(25,_),(26,_),(27,_),(28,_),(41,_)] [_,_,_] t15 rfl (Zd (Za (xM (h:=xM (h:=xM (h:=Zk (Zfg rfl rfl rfl rfl (Zbs (h:=Zb rfl (fun g5=>?_) (fun g5=>?_))))))))))
 try simp only [sQ,ne_eq] at g5
 refine wSk (Zd (Zh (Zf (xM (h:=Zk (ZnS rfl rfl Tryz.underlying169 sz4 rfl rfl oz oz ?_))))))
 refine Zk (ZlM 1 rfl rfl sz4 rfl rfl rfl oz ?_)
 refine ZI (Zm (Zf (xM (h:=xD (h:=xA (h:=?_))))))
 exact Zy (o.1+1,fun n=>if n=o.1.toNat then true else o.2 n) [0,1,2] so2 ⟨rfl,so,.inl (so),Zh8 ho3 oz ho1⟩ t15 rfl
 try simp only [sQ,ne_eq] at g5
 refine ZA (ZP (ZC (Zs (ZI (Zm (Zf (xD (h:=xM (h:=?_)))))))))
 exact Zy (g.1+1,o.2) [0,1] so2 ⟨rfl,so,ZjR (a:=(if m.low=0 then (min last 99) else m.low)) (e:=(if m.high=0 then (min last 99) else m.high)) hm rfl rfl oz oz oz (by rw [← hF];exact ho3) oz ho1 oz⟩ t9 rfl
 try simp only [sQ,ne_eq] at g3
 have hF2:g.2=Zg1 xs (min last 99) xs.length:=by rw [hF,show g.1=xs.length from by omega]
 refine ZA (ZP (ZC (Zs (Zm (Zd (Za (Zk (ZqG 1 rfl rfl ZwJ rfl rfl (xM (h:=Zh (Zv (α:=Gh Int) [0,1,4,6,21,25,26,27,28,55] (fun h=>[(5,.slice h.a h.xs.length h.c),(56,.int .i64 h.k)]) [0] (fun h=>[h.l]) (fun h Bx=>Bx=B6∧h.k≤100∧h.xs.length≤h.k∧h.xs=Zbk xs (min last 99) (min (h.k - 1) (min last 99).toNat)∧ZU Bx h.l h.a h.c 3 1 Zb7 h.xs) (fun h=>100 - h.k) ⟨0,0,_,_,_,[]⟩ t2 rfl (⟨rfl,Nat.zero_le _,Nat.le_refl _,by rw [show min (0 - 1) (min last 99).toNat=0 from by omega];rfl,.lit0⟩) (fun h B15 hle15 hI=>?_))))))))))))
 obtain ⟨rfl,hk2,hgl,hnt,hv⟩:=hI
 refine Zz [(0,_),(1,_),(4,_),(5,_),(6,_),(21,_),(25,_),(26,_),(27,_),(28,_),(55,_),(56,_)] [_,_] t12 rfl (Za (ZB (h:=Zd (Zb rfl (fun g6=>?_) (fun g6=>?_)))))
 try simp only [sQ,ne_eq] at g6
 refine wSk (Zd (Zh (Za (xM (h:=Zk (ZqH rfl rfl Tryz.underlying169 lk4 sz4 rfl rfl oz oz oz ?_))))))
 refine xA (h:=xA (h:=Za (xM (h:=Zb rfl (fun g7=>?_) (fun g7=>?_)))))
 try simp only [sQ,ne_eq] at g7
 refine Zf (xM (h:=xM (h:=xBs [(0,_)] [_] Tryz.underlying57 sz3 zo3 (h:=fun b16=>Zk (Zjh (z:=(↑h.k:Int)) (R:=Zb7) 0 rfl hv rfl rfl rfl ZyG Zyv rfl rfl (Zcy.box 2 rfl) rfl rfl (rfl) om (fun l17 p17 c17 hv17=>?_))))))
 refine xA (h:=ZI (Zm (Zf (xD (h:=xM (h:=?_))))))
 exact Zy ⟨h.k+1,0,l17,p17,c17,(h.xs ++ [(↑h.k:Int)])⟩ [0,1] so2 ⟨rfl,so,by simp;omega,by simp only [];rw [Nat.add_sub_cancel,Zrn (by rw [← hF2];simpa using g7),hnt],hv17⟩ t12 rfl
 try simp only [sQ,ne_eq] at g7
 refine ZL (ZI (Zm (Zf (xD (h:=xM (h:=?_))))))
 exact Zy ⟨h.k+1,0,h.l,h.a,h.c,h.xs⟩ [0,1] so2 ⟨rfl,so,so,by simp only [];rw [Nat.add_sub_cancel,Ztu (by rw [← hF2];simpa using g7),hnt],hv⟩ t12 rfl
 try simp only [sQ,ne_eq] at g6
 refine ZA (ZP (ZC (Zs (Zm (Za (xM (h:=Zfn 0 rfl hv Zb7.mono om3 (fun B18 hle18 hr18=>?_))))))))
 have hr18n:=hr18.len
 refine xA (h:=tL2 ?_)
 have hne:Z7 xs last=h.xs:=by rw [Zm0 hset,hnt,show min (h.k - 1) (min last 99).toNat=(min last 99).toNat from by omega]
 rw [hne]
 refine Ze ?_
 exact eN [] rfl t1 ⟨rfl,_,_,rfl,hr18⟩

theorem Zn0 (hJ:Joins Tryz.prog J) (ba b:Nat) (q1 q2 q3:Option Addr) (c1 c2 c3:Nat) (x:DHost) (l1 l2 l3:Cells) (u o n:Str) (r:Int) (f:FuncId) (cap:Array Value) (R:DHost) (kk:Nat) (he:enters Tryz.prog f=true) (hul:u.length≤2000000) (hol:o.length≤2000000) (hnl:n.length≤2000000) (hn1:x.users.length≤2000000) (hn2:x.folders.length≤2000000) (be:Nat) (qe:Option Addr) (ce:Nat) (le:Cells) (ys YS:List DLine) (hyl:ys.length≤2000000) (a:Nat→Addr) (B:Kn) (hE:ErrsB 372 [0,1,2,3] B a) (hc1:Zai B ba 0 [str o,str n,str u,ptr ⟨b,0,none⟩]) (hu:ZU Kn.none l1 q1 c1 142 3 ZJ x.users) (hf:ZaM l2 q2 c2 87 5 (Z4 224 89) x.folders) (hi:ZaM l3 q3 c3 146 4 (Za8 9) x.queue.items) (hy:ZU Kn.none le qe ce 91 4 ZX ys) (hw:Zc4 x.users x.folders u o n 2=0→Zc4 x.users x.folders u o n r=0→∀(B2:Kn),B.le B2→Zx (pj J) f (ptr ⟨b,2,none⟩ :: .int .i64 (if Zc4 x.users x.folders u o n r=0 then Zbe (inF o n) x.folders else -1) :: cap.toList) B2 [ZN b [.int .i32 1,.int .u32 0,str x.domain,.slice q1 x.users.length c1,.slice q2 x.folders.length c2,.int .i64 x.queue.next,.slice q3 x.queue.items.length c3] 164,l1,l2,l3,ZN be [.slice qe ys.length ce] 35,le] (fun v B' Ls=>∃q1' c1' q2' c2' q3' c3' l1' l2' l3' qe' ce' le',Ls=[ZN b [.int .i32 1,.int .u32 0,str R.domain,.slice q1' R.users.length c1',.slice q2' R.folders.length c2',.int .i64 R.queue.next,.slice q3' R.queue.items.length c3'] 164,l1',l2',l3',ZN be [.slice qe' (YS).length ce'] 35,le']∧v=errv 372 a (kk)∧ZU Kn.none l1' q1' c1' 142 3 ZJ R.users∧ZaM l2' q2' c2' 87 5 (Z4 224 89) R.folders∧ZaM l3' q3' c3' 146 4 (Za8 9) R.queue.items∧ZU Kn.none le' qe' ce' 91 4 ZX (YS))):Zx (pj J) 92 [ptr ⟨ba,0,none⟩,.int .i64 r,.func (.func f) #[] cap] B [ZN b [.int .i32 0,.int .u32 0,str x.domain,.slice q1 x.users.length c1,.slice q2 x.folders.length c2,.int .i64 x.queue.next,.slice q3 x.queue.items.length c3] 164,l1,l2,l3,ZN be [.slice qe ys.length ce] 35,le] (fun v B' Ls=>∃q1' c1' q2' c2' q3' c3' l1' l2' l3' qe' ce' le',Ls=[ZN b [.int .i32 0,.int .u32 0,str (usX x u o n r R x).domain,.slice q1' (usX x u o n r R x).users.length c1',.slice q2' (usX x u o n r R x).folders.length c2',.int .i64 (usX x u o n r R x).queue.next,.slice q3' (usX x u o n r R x).queue.items.length c3'] 164,l1',l2',l3',ZN be [.slice qe' (usX x u o n r YS ys).length ce'] 35,le']∧v=errv 372 a (usN x u o n r kk)∧ZU Kn.none l1' q1' c1' 142 3 ZJ (usX x u o n r R x).users∧ZaM l2' q2' c2' 87 5 (Z4 224 89) (usX x u o n r R x).folders∧ZaM l3' q3' c3' 146 4 (Za8 9) (usX x u o n r R x).queue.items∧ZU Kn.none le' qe' ce' 91 4 ZX (usX x u o n r YS ys)):=by
 refine ZgA (P:=pj J) 88 Tryz.func92 rfl rfl (Nat.le_of_ble_eq_true rfl) ?_
 intro X kind c cs F T0 hk hke hA hn0 hT0
 let CC:Cx (pj J):=⟨X,fb 92 kind,c :: cs,F,hke⟩
 show CC.X.R (Go.Conc.G (fat CC.b T0 [] _) CC.cs) B (List.flatten [ZN b [.int .i32 0,.int .u32 0,str x.domain,.slice q1 x.users.length c1,.slice q2 x.folders.length c2,.int .i64 x.queue.next,.slice q3 x.queue.items.length c3] 164,l1,l2,l3,ZN be [.slice qe ys.length ce] 35,le] ++ CC.F)
 refine ZaX (C:=CC) (Zan (C:=CC) (ZbE (C:=CC) (i:=0) (todo:=[]) rfl hn0 hT0 (Zk (Zbo rfl rfl rfl (fun T1 hn1 hT1=>ZQ (C:=CC) (ZaX (C:=CC) (Zan (C:=CC) (ZbE (C:=CC) (i:=0) (todo:=[1,2,3,4,5,6]) rfl hn1 hT1 (Zk (Zbf rfl rfl rfl (fun T2 hn2 hT2=>ZbE (C:=CC) (i:=1) (todo:=[2,3,4,5,6]) rfl hn2 hT2 (Zk (Zau rfl rfl rfl (fun T3 hn3 hT3=>ZbE (C:=CC) (i:=2) (todo:=[3,4,5,6]) rfl hn3 hT3 (Zk (Zae rfl rfl Zeh rfl (fun T4 hn4 hT4=>ZbE (C:=CC) (i:=3) (todo:=[4,5,6]) rfl hn4 hT4 (Zk (Zn rfl rfl ZjX rfl (hc1 _ 3 _ rfl) (fun T5 hn5 hT5=>ZbE (C:=CC) (i:=4) (todo:=[5,6]) rfl hn5 hT5 (Zk (Zau rfl rfl rfl (fun T6 hn6 hT6=>ZbE (C:=CC) (i:=5) (todo:=[6]) rfl hn6 hT6 (Zk (Zae rfl rfl Zpt rfl (fun T7 hn7 hT7=>ZbE (C:=CC) (i:=6) (todo:=[]) rfl hn7 hT7 (Zk (ZbG [0] rfl rfl rfl rfl ZxZ rfl (ZwG hJ Zrj ZiQ ZiP Zxr) ?_))))))))))))))))))))))))))))
 rintro _ B1 _ hle1 ⟨rfl,rfl,rfl⟩
 intro T8 hn8 hT8
 refine ZQ (C:=CC) (Zz5 (C:=CC) [_,_,_,_,_,_] rfl (ZaX (C:=CC) (Zan (C:=CC) (ZbE (C:=CC) (i:=0) (todo:=[1,2,3,4,5,6]) rfl hn8 hT8 (Zk (Zbf rfl rfl rfl (fun T9 hn9 hT9=>ZbE (C:=CC) (i:=1) (todo:=[2,3,4,5,6]) rfl hn9 hT9 (Zk (Zau rfl rfl rfl (fun T10 hn10 hT10=>ZbE (C:=CC) (i:=2) (todo:=[3,4,5,6]) rfl hn10 hT10 (Zk (Zae rfl rfl Zeh rfl (fun T11 hn11 hT11=>ZbE (C:=CC) (i:=3) (todo:=[4,5,6]) rfl hn11 hT11 (Zk (Zn rfl rfl ZjX rfl (hc1 _ 3 _ rfl) (fun T12 hn12 hT12=>ZbE (C:=CC) (i:=4) (todo:=[5,6]) rfl hn12 hT12 (Zk (Zau rfl rfl rfl (fun T13 hn13 hT13=>ZbE (C:=CC) (i:=5) (todo:=[6]) rfl hn13 hT13 (Zk (Zae rfl rfl Zpt rfl (fun T14 hn14 hT14=>Znm hke rfl hT14 rfl (ZQ (C:=CC) (Zkd (X:=X) (av:=[ptr ⟨b,0,none⟩]) (Post:=(fun v B' Ls=>∃q1' c1' q2' c2' q3' c3' l1' l2' l3' qe' ce' le',Ls=[ZN b [.int .i32 0,.int .u32 0,str (usX x u o n r R x).domain,.slice q1' (usX x u o n r R x).users.length c1',.slice q2' (usX x u o n r R x).folders.length c2',.int .i64 (usX x u o n r R x).queue.next,.slice q3' (usX x u o n r R x).queue.items.length c3'] 164,l1',l2',l3',ZN be [.slice qe' (usX x u o n r YS ys).length ce'] 35,le']∧v=errv 372 a (usN x u o n r kk)∧ZU Kn.none l1' q1' c1' 142 3 ZJ (usX x u o n r R x).users∧ZaM l2' q2' c2' 87 5 (Z4 224 89) (usX x u o n r R x).folders∧ZaM l3' q3' c3' 146 4 (Za8 9) (usX x u o n r R x).queue.items∧ZU Kn.none le' qe' ce' 91 4 ZX (usX x u o n r YS ys))) Tryz.func92 hk hke Tryz.func146 kr rfl hn14 hT14 hA ?_))))))))))))))))))))))))
 refine Zd (Zd (ZY (same _ _) mo kr ⟨rfl,rfl⟩ (fun _ _=>?_)))
 refine aM 0 rfl (h:=aNc 1 rfl (h:=aW 2 rfl Zeh (h:=aT 3 rfl (Z9 fun D=>Zn rfl rfl ZjX rfl (hc1 _ 3 _ rfl) r4) (h:=aNc 4 rfl (h:=aW 5 rfl Zf0 (h:=aM 6 rfl (h:=aNc 7 rfl (h:=aW 8 rfl Zps (h:=aT 9 rfl (Z9 fun D=>Zn rfl rfl lk9 rfl (hc1 _ 2 _ rfl) r4) (h:=aM 10 rfl (h:=aNc 11 rfl (h:=aW 12 rfl ZiO (h:=aW 13 rfl Zpv (h:=aT 14 rfl (Z9 fun D=>Zn rfl rfl lk9 rfl (hc1 _ 0 _ rfl) r4) (h:=aM 15 rfl (h:=aNc 16 rfl (h:=aW 17 rfl ZiO (h:=aW 18 rfl Zpu (h:=aT 19 rfl (Z9 fun D=>Zn rfl rfl lk9 rfl (hc1 _ 1 _ rfl) r4) (h:=aT 20 rfl (Z9 fun D=>ZnL [0,1,2,3] rfl rfl rfl rfl rfl ZyN rfl (Z0.borrowL fun hm2=>Zp4 _ _ _ _ _ _ _ _ x u o n 2 om2 om2 om2 a _ (hE.mono (Kn.le_add _ _)) (Zai.drop2 (ZyV 0 rfl hm2)) (hu.lendK ZJ.any 1 rfl hm2 om) (hf.lendK Z4.known ZG.mono 2 rfl hm2 om)) r4) (h:=?_)))))))))))))))))))))
 refine aM 21 rfl (h:=aE 22 rfl (h:=aE 23 rfl (h:=aA 24 rfl (h:=aA 25 rfl (h:=Zw kr kr ?_)))))
 refine Zm (tL6 (Za (xM (h:=Zk (Zso (tE:=372) (a:=a) (c:=(Zc4 x.users x.folders u o n 2)) rfl rfl Tryz.underlying100 rfl (Zb rfl (fun g1=>?_) (fun g1=>?_)))))))
 try simp only [sQ,ne_eq] at g1
 refine Za (xM (h:=xA (h:=Ze (Zl ?_))))
 obtain ⟨e1,e2⟩:=Zsv (x:=x) (u:=u) (o:=o) (n:=n) (r:=r) oz kk
 show _∧_
 refine ZwU (.inl rfl) [_] [0,1,2,3,4,5] rfl (fun _ _=>t1) ((ZkI hJ Zrj ZiQ ZwI ZiP Zt5).frame1.mono ?_)
 rintro _ _ _ _ ⟨_,⟨rfl,_,rfl⟩,rfl⟩
 rw [e1,e2,e2]
 exact ⟨_,_,_,_,_,_,_,_,_,_,_,_,rfl,rfl,hu,hf,hi,hy⟩
 try simp only [sQ,ne_eq] at g1
 have h2:Zc4 x.users x.folders u o n 2=0:=by omega
 refine wSk (Zd (ZY (same _ _) mo kr ⟨rfl,rfl⟩ (fun _ _=>?_)))
 refine aM 0 rfl (h:=aNc 1 rfl (h:=aW 2 rfl Zeh (h:=aT 3 rfl (Z9 fun D=>Zn rfl rfl ZjX rfl (hc1 _ 3 _ rfl) r4) (h:=aNc 4 rfl (h:=aW 5 rfl Zf0 (h:=aM 6 rfl (h:=aNc 7 rfl (h:=aW 8 rfl Zps (h:=aT 9 rfl (Z9 fun D=>Zn rfl rfl lk9 rfl (hc1 _ 2 _ rfl) r4) (h:=aM 10 rfl (h:=aNc 11 rfl (h:=aW 12 rfl ZiO (h:=aW 13 rfl Zpv (h:=aT 14 rfl (Z9 fun D=>Zn rfl rfl lk9 rfl (hc1 _ 0 _ rfl) r4) (h:=aM 15 rfl (h:=aNc 16 rfl (h:=aW 17 rfl ZiO (h:=aW 18 rfl Zpu (h:=aT 19 rfl (Z9 fun D=>Zn rfl rfl lk9 rfl (hc1 _ 1 _ rfl) r4) (h:=aM 20 rfl (h:=aT 21 rfl (Z9 fun D=>ZnL [0,1,2,3] rfl rfl rfl rfl rfl ZyN rfl (Z0.borrowL fun hm3=>Zp4 _ _ _ _ _ _ _ _ x u o n r om2 om2 om2 a _ (hE.mono (Kn.le_add _ _)) (Zai.drop2 (ZyV 0 rfl hm3)) (hu.lendK ZJ.any 1 rfl hm3 om) (hf.lendK Z4.known ZG.mono 2 rfl hm3 om)) r4) (h:=?_))))))))))))))))))))))
 refine aM 22 rfl (h:=aE 23 rfl (h:=aE 24 rfl (h:=aA 25 rfl (h:=aA 26 rfl (h:=Zw kr kr ?_)))))
 refine Zm (Zd (Za (xM (h:=Zk (Zso (tE:=372) (a:=a) (c:=(Zc4 x.users x.folders u o n r)) rfl rfl Tryz.underlying100 rfl (Zb rfl (fun g2=>?_) (fun g2=>?_)))))))
 try simp only [sQ,ne_eq] at g2
 refine Za (xM (h:=xA (h:=Ze (Zl ?_))))
 obtain ⟨e1,e2⟩:=ZuJ (x:=x) (u:=u) (o:=o) (n:=n) (r:=r) h2 oz kk
 show _∧_
 refine ZwU (.inl rfl) [_] [0,1,2,3,4,5] rfl (fun _ _=>t1) ((ZkI hJ Zrj ZiQ ZwI ZiP Zt5).frame1.mono ?_)
 rintro _ _ _ _ ⟨_,⟨rfl,_,rfl⟩,rfl⟩
 rw [e1,e2,e2]
 exact ⟨_,_,_,_,_,_,_,_,_,_,_,_,rfl,rfl,hu,hf,hi,hy⟩
 try simp only [sQ,ne_eq] at g2
 have hr:Zc4 x.users x.folders u o n r=0:=by omega
 refine ZL ?_
 refine Zm ?_
 refine Za ?_
 refine Zk (Zbf rfl rfl rfl ?_)
 refine Zk (Zbf rfl rfl rfl ?_)
 refine Zk (Zau rfl rfl rfl ?_)
 refine Zk (Zae rfl rfl Zeh rfl ?_)
 refine Zk (Zn rfl rfl ZjX rfl (hc1 _ 3 _ rfl) ?_)
 refine Zk (Zau rfl rfl rfl ?_)
 refine Zk (Zae rfl rfl Zf0 rfl ?_)
 refine Zk (Zbf rfl rfl rfl ?_)
 refine Zk (Zs0 [0,1,2,3,4,5] rfl rfl rfl rfl he rfl rfl (hw h2 hr _ (Kn.le.refl _)) ?_)
 rintro _ B4 _ hle4 ⟨q14,c14,q24,c24,q34,c34,l14,l24,l34,qe4,ce4,le4,rfl,rfl,hu4,hf4,hi4,hy4⟩
 refine xA (h:=tL6 (Ze ?_))
 obtain ⟨e1,e2⟩:=Zsu (x:=x) (u:=u) (o:=o) (n:=n) (r:=r) h2 hr kk
 show _∧_
 refine ZwU (.inl rfl) [_] [0,1,2,3,4,5] rfl (fun _ _=>t1) ((ZkI hJ Zrj ZiQ ZwI ZiP Zt5).frame1.mono ?_)
 rintro _ _ _ _ ⟨_,⟨rfl,_,rfl⟩,rfl⟩
 rw [e1,e2,e2]
 exact ⟨_,_,_,_,_,_,_,_,_,_,_,_,rfl,rfl,hu4,hf4,hi4,hy4⟩

theorem ZkR (q1 q2 q3:Option Addr) (c1 c2 c3:Nat) (x:DHost) (u o n:Str) (hul:u.length≤2000000) (hol:o.length≤2000000) (hnl:n.length≤2000000) (ar:Bool) (r:Int) (f:FuncId) (cap:Array Value) (R:DHost) (kk:Nat) (hk:kk<5) (he:enters Tryz.prog f=true) (hJ:Joins Tryz.prog J) (be:Nat) (qe:Option Addr) (ce:Nat) (le:Cells) (ys YS:List DLine) (hyl:ys.length≤2000000) (hd:x.domain.length≤2000000) (a:Nat→Addr) (B:Kn) (hE:ErrsB 372 [0,1,2,3] B a) (hu:SlK B q1 c1 3 ZJ x.users) (hf:SlK B q2 c2 5 ZG x.folders) (hi:SlK B q3 c3 4 ZaA x.queue.items) (hy:ZU Kn.none le qe ce 91 4 ZX ys) (hw:ar=true→Zam x=true→Zc4 x.users x.folders u o n 2=0→Zc4 x.users x.folders u o n r=0→∀(B2:Kn) (b:Nat) (q1 q2 q3:Option Addr) (c1 c2 c3:Nat) (l1 l2 l3:Cells),B.le B2→ZU Kn.none l1 q1 c1 142 3 ZJ x.users→ZaM l2 q2 c2 87 5 (Z4 224 89) x.folders→ZaM l3 q3 c3 146 4 (Za8 9) x.queue.items→Zx (pj J) f (ptr ⟨b,2,none⟩ :: .int .i64 (if Zc4 x.users x.folders u o n r=0 then Zbe (inF o n) x.folders else -1) :: cap.toList) B2 [ZN b [.int .i32 1,.int .u32 0,str x.domain,.slice q1 x.users.length c1,.slice q2 x.folders.length c2,.int .i64 x.queue.next,.slice q3 x.queue.items.length c3] 164,l1,l2,l3,ZN be [.slice qe ys.length ce] 35,le] (fun v B' Ls=>∃q1' c1' q2' c2' q3' c3' l1' l2' l3' qe' ce' le',Ls=[ZN b [.int .i32 1,.int .u32 0,str R.domain,.slice q1' R.users.length c1',.slice q2' R.folders.length c2',.int .i64 R.queue.next,.slice q3' R.queue.items.length c3'] 164,l1',l2',l3',ZN be [.slice qe' (YS).length ce'] 35,le']∧v=errv 372 a (kk)∧ZU Kn.none l1' q1' c1' 142 3 ZJ R.users∧ZaM l2' q2' c2' 87 5 (Z4 224 89) R.folders∧ZaM l3' q3' c3' 146 4 (Za8 9) R.queue.items∧ZU Kn.none le' qe' ce' 91 4 ZX (YS))):Zx (pj J) 44 [.agg #[str x.domain,.slice q1 x.users.length c1,.slice q2 x.folders.length c2,.int .i64 x.queue.next,.slice q3 x.queue.items.length c3],.agg #[str u,str o,str n],.bool ar,.int .i64 r,.func (.func f) #[] cap] B [ZN be [.slice qe ys.length ce] 35,le] (fun v B' Ls=>∃(Y:DHost) (d:Int) (YY:List DLine),∃q1 c1 q2 c2 q3 c3 l1 l2 l3 qe' ce' le',(Y,d,YY)=(if ar=true∧Zam x=true then (usX x u o n r R x,(usN x u o n r kk:Int),usX x u o n r YS ys) else (Zl9,5,ys))∧Ls=[ZN be [.slice qe' YY.length ce'] 35,le',l1,l2,l3]∧v = .tuple #[.agg #[str Y.domain,.slice q1 Y.users.length c1,.slice q2 Y.folders.length c2,.int .i64 Y.queue.next,.slice q3 Y.queue.items.length c3],.int .i64 d]∧ZU Kn.none l1 q1 c1 142 3 ZJ Y.users∧ZaM l2 q2 c2 87 5 (Z4 224 89) Y.folders∧ZaM l3 q3 c3 146 4 (Za8 9) Y.queue.items∧ZU Kn.none le' qe' ce' 91 4 ZX YY):=by
 refine Zb5 44 Tryz.func44 rfl rfl rfl (Nat.le_of_ble_eq_true rfl) ?_
 have hun:=hu.len
 have hfn:=hf.len
 have hin:=hi.len
 have hus:=ZuK (x:=x) (u:=u) (o:=o) (n:=n) (r:=r) hk
 refine Za (xBx [_,_,_,_,_] (h:=fun b1=>xBx [_,_,_] (h:=fun b2=>xAl [_,_,_,_,_] ZnE (h:=fun b3=>xA (h:=tL5 (Zd (Za (xM (h:=xN (h:=xM (h:=Zt (d:=16) rfl (fun g1=>?_) (fun g1=>?_))))))))))))
 try simp only [sQ,ne_eq] at g1
 refine xP (h:=xP (h:=xP (h:=xT (h:=ZuD [[],[],[]] rfl (Zb (t:=true) rfl (fun _=>Za (xB [] [_,_,_,_,_] [_,_,_,_,_] ZwA ZnE (h:=xS [_,_,_,_,_] 4 [_,_,_,_,_] Zoh (h:=xA (h:=tL8 (Ze (Zl ?_))))))) (fun h=>Bool.noConfusion h))))))
 exact ZeG .ret (.inl rfl) [_,_] [0,1,5,6,7] rfl ⟨⟨_,rfl,.inr ⟨[_,_,_,_,_],ZfE,Zct 4 rfl rfl rfl,rfl⟩⟩,rfl,trivial⟩ ⟨Zl9,5,ys,none,0,none,0,none,0,[],[],[],qe,ce,le,by rw [if_neg (by simp [g1])],rfl,rfl,ZU.nil,ZaM.nil,ZaM.nil,hy⟩
 try simp only [sQ,ne_eq] at g1
 refine xL [_,_,_,_,_] ZfE 2 (h:=xQ ZzF rfl (Zlp hJ _ _ _ _ _ _ x om2 _ hu hf hi) (h:=?_))
 intro vv Bv hlev
 rintro rfl
 replace hu:=hu.mono ZJ.mono hlev
 replace hf:=hf.mono ZG.mono hlev
 replace hi:=hi.mono ZaA.mono hlev
 replace hy:=hy.mono ZX.mono hlev
 replace hE:=hE.mono hlev
 refine xN (h:=xF (h:=Zb rfl (fun g2=>?_) (fun g2=>?_)))
 try simp only [sQ,ne_eq] at g2
 refine ZuD [[],[],[]] rfl (Za (xB [] [_,_,_,_,_] [_,_,_,_,_] ZwA ZnE (h:=xS [_,_,_,_,_] 4 [_,_,_,_,_] Zoh (h:=xA (h:=tL8 (Ze (Zl ?_)))))))
 exact ZeG .ret (.inl rfl) [_,_] [0,1,5,6,7] rfl ⟨⟨_,rfl,.inr ⟨[_,_,_,_,_],ZfE,Zct 4 rfl rfl rfl,rfl⟩⟩,rfl,trivial⟩ ⟨Zl9,5,ys,none,0,none,0,none,0,[],[],[],qe,ce,le,by rw [if_neg (by simp [g2])],rfl,rfl,ZU.nil,ZaM.nil,ZaM.nil,hy⟩
 try simp only [sQ,ne_eq] at g2
 refine wSk (Zd (ZY (keeps _ [2,3] _) mo kr ⟨Kn.le.refl _,Za3.refl _ _⟩ (fun _ _=>?_)))
 refine aW 0 rfl Zpk (h:=aT 1 rfl (ZW fun D B L hI=>Zn rfl rfl lk9 rfl (atL 3 (hI.2.2.1.trans rfl) rfl rfl) r4) (h:=aW 2 rfl Zpj (h:=aT 3 rfl (ZW fun D B L hI=>Zn rfl rfl lk9 rfl (atL 3 (hI.2.2.1.trans rfl) rfl rfl) r4) (h:=aT 4 rfl (ZW fun D B L hI=>ZcE (parts:=[(0,_),(1,_)]) [_,_] [_,_] rfl rfl ZwC Zwi rfl rfl rfl r4) (h:=aW 5 rfl Zmm (h:=aT 6 rfl (ZW fun D B L hI=>Zn rfl rfl lk9 rfl (atL 3 (hI.2.2.1.trans rfl) rfl rfl) r4) (h:=aT 7 rfl (ZW fun D B L hI=>ZR [_,_,_,_,_] rfl rfl ZfE rfl (Zct 2 (hI.2.1.trans rfl) rfl rfl) r4) (h:=Zi4 [8,12] kr kr kr ⟨?_,?_⟩))))))))
 refine (Zck rfl rfl ZyM rfl (Zgk _ _ _ _ _ _ x _ hu hf hi) ?_)
 rintro _ Bc _ hlec ⟨q1c,c1c,q2c,c2c,q3c,c3c,l1c,l2c,l3c,rfl,rfl,huc,hfc,hic⟩
 replace hu:=hu.mono ZJ.mono hlec
 replace hf:=hf.mono ZG.mono hlec
 replace hi:=hi.mono ZaA.mono hlec
 replace hy:=hy.mono ZX.mono hlec
 replace hE:=hE.mono hlec
 refine ⟨⟨hlec,t2⟩,(aT 9 rfl (ZW fun D B L hI=>ZcE (parts:=[(1,_)]) [_,_,_,_,_,_,_] [_,_,_,_,_,_,_] rfl rfl Zu2 Zum rfl rfl rfl r4) (h:=Zi4 [10,12] kr kr kr ⟨?_,?_⟩))⟩
 refine (ZnX (l:=[_,_,_,_,_,_,_]) rfl rfl rfl rfl (fun b6=>⟨⟨hlec,t2⟩,(aT 11 rfl (ZW fun D B L hI=>ZcE (parts:=[(0,_),(1,_),(2,_)]) [_,_,_,_] [_,_,_,_] rfl rfl Zti Zmy rfl rfl rfl r4) (h:=ZV 12 kr rfl kr (Zdw (l:=[_,_,_,_]) rfl rfl Zmy rfl (fun b7=>?_))))⟩))
 refine ⟨⟨hlec,t2⟩,(ZcQ 13 kr rfl kr kr kr (ZaC [_,_,_,_] 9 [_,_,_,_] rfl rfl Zta rfl rfl rfl rfl rfl rfl rfl rfl ?_))⟩
 refine Zm (Zqm (ZnN 9 rfl (fun B8 hle8 hpm8=>?_)))
 have hc8:=Za4 hpm8
 replace hu:=hu.mono ZJ.mono hle8
 replace hf:=hf.mono ZG.mono hle8
 replace hi:=hi.mono ZaA.mono hle8
 replace hy:=hy.mono ZX.mono hle8
 replace huc:=huc.mono ZJ.mono hle8
 replace hE:=hE.mono hle8
 refine Za (xM (h:=xM (h:=xK [8,5,6,7,0,1] rfl ZwV rfl (Zn0 hJ _ _ _ _ _ _ _ _ x _ _ _ u o n r f cap R kk he hul hol hnl om2 om2 be _ _ _ ys YS hyl a _ hE hc8 huc hfc hic hy (fun h2 hr B2 hle=>hw (by simpa using g1) (by simpa using g2) h2 hr B2 _ _ _ _ _ _ _ _ _ _ (hlev.trans (hlec.trans (hle8.trans hle))) huc hfc hic)) (h:=?_))))
 rintro _ B9 _ hle9 ⟨q19,c19,q29,c29,q39,c39,l19,l29,l39,qe9,ce9,le9,rfl,rfl,hu9,hf9,hi9,hy9⟩
 replace hu:=hu.mono ZJ.mono hle9
 replace hf:=hf.mono ZG.mono hle9
 replace hi:=hi.mono ZaA.mono hle9
 replace hc8:=hc8.mono hle9
 replace hy:=hy.mono ZX.mono hle9
 replace huc:=huc.mono ZJ.mono hle9
 replace hE:=hE.mono hle9
 refine xA (h:=Zqm (Zd (ZY (keeps _ [] _) mo kr ⟨Kn.le.refl _,Za3.refl _ _⟩ (fun _ _=>?_))))
 refine aW 0 rfl Zeh (h:=aT 1 rfl (ZW fun D B L hI=>Zn rfl rfl ZjX rfl ((hc8.mono hI.1) _ 3 _ rfl) r4) (h:=aNc 2 rfl (h:=aW 3 rfl Zf0 (h:=aM 5 rfl (h:=aT 6 rfl (ZW fun D B L hI=>Zaa rfl rfl ZwW rfl (ZfX (usN x u o n r kk) om2 a _ (hE.mono hI.1)) r4) (h:=?_))))))
 refine ZV 4 kr rfl kr (ZR [_,_,_,_,_] rfl rfl ZfE rfl (Zct 8 rfl rfl rfl) ?_)
 refine ⟨⟨Kn.le.refl _,trivial⟩,(Zfa 7 kr rfl kr kr (ZaC [_,_,_,_,_] 4 [_,_,_,_,_] rfl rfl Zoh rfl rfl rfl rfl rfl rfl rfl rfl ?_))⟩
 refine aA 8 rfl (h:=Zw kr kr ?_)
 refine Zm (Zqm (Ze ?_))
 exact ZeG .ret (.inl rfl) [_,_] [0,1,5,6,7] rfl ⟨⟨_,rfl,.inr ⟨[_,_,_,_,_],ZfE,Zct 4 rfl rfl rfl,rfl⟩⟩,rfl,trivial⟩ ⟨(usX x u o n r R x),_,usX x u o n r YS ys,_,_,_,_,_,_,_,_,_,_,_,_,by rw [if_pos ⟨by simpa using g1,by simpa using g2⟩],rfl,rfl,hu9,hf9,hi9,hy9⟩
 refine (Zdw (l:=[_,_,_,_]) rfl rfl Zmy rfl (fun b11=>⟨⟨hlec,t2⟩,(ZV 10 kr rfl kr (ZnX (l:=[_,_,_,_,_,_,_]) rfl rfl rfl rfl (fun b12=>?_)))⟩))
 refine ⟨⟨hlec,t2⟩,(aT 11 rfl (ZW fun D B L hI=>ZcE (parts:=[(0,_),(1,_),(2,_)]) [_,_,_,_] [_,_,_,_] rfl rfl Zti Zmy rfl rfl rfl r4) (h:=ZcQ 13 kr rfl kr kr kr (ZaC [_,_,_,_] 8 [_,_,_,_] rfl rfl Zta rfl rfl rfl rfl rfl rfl rfl rfl ?_)))⟩
 refine Zm (Zqm (ZnN 8 rfl (fun B13 hle13 hpm13=>?_)))
 have hc13:=Za4 hpm13
 replace hu:=hu.mono ZJ.mono hle13
 replace hf:=hf.mono ZG.mono hle13
 replace hi:=hi.mono ZaA.mono hle13
 replace hy:=hy.mono ZX.mono hle13
 replace huc:=huc.mono ZJ.mono hle13
 replace hE:=hE.mono hle13
 refine Za (xM (h:=xM (h:=xK [9,5,6,7,0,1] rfl ZwV rfl (Zn0 hJ _ _ _ _ _ _ _ _ x _ _ _ u o n r f cap R kk he hul hol hnl om2 om2 be _ _ _ ys YS hyl a _ hE hc13 huc hfc hic hy (fun h2 hr B2 hle=>hw (by simpa using g1) (by simpa using g2) h2 hr B2 _ _ _ _ _ _ _ _ _ _ (hlev.trans (hlec.trans (hle13.trans hle))) huc hfc hic)) (h:=?_))))
 rintro _ B14 _ hle14 ⟨q114,c114,q214,c214,q314,c314,l114,l214,l314,qe14,ce14,le14,rfl,rfl,hu14,hf14,hi14,hy14⟩
 replace hu:=hu.mono ZJ.mono hle14
 replace hf:=hf.mono ZG.mono hle14
 replace hi:=hi.mono ZaA.mono hle14
 replace hc13:=hc13.mono hle14
 replace hy:=hy.mono ZX.mono hle14
 replace huc:=huc.mono ZJ.mono hle14
 replace hE:=hE.mono hle14
 refine xA (h:=Zqm (Zd (ZY (keeps _ [] _) mo kr ⟨Kn.le.refl _,Za3.refl _ _⟩ (fun _ _=>?_))))
 refine aW 0 rfl Zeh (h:=aT 1 rfl (ZW fun D B L hI=>Zn rfl rfl ZjX rfl ((hc13.mono hI.1) _ 3 _ rfl) r4) (h:=aNc 2 rfl (h:=aW 3 rfl Zf0 (h:=aM 5 rfl (h:=aT 6 rfl (ZW fun D B L hI=>Zaa rfl rfl ZwW rfl (ZfX (usN x u o n r kk) om2 a _ (hE.mono hI.1)) r4) (h:=?_))))))
 refine ZV 4 kr rfl kr (ZR [_,_,_,_,_] rfl rfl ZfE rfl (Zct 9 rfl rfl rfl) ?_)
 refine ⟨⟨Kn.le.refl _,trivial⟩,(Zfa 7 kr rfl kr kr (ZaC [_,_,_,_,_] 4 [_,_,_,_,_] rfl rfl Zoh rfl rfl rfl rfl rfl rfl rfl rfl ?_))⟩
 refine aA 8 rfl (h:=Zw kr kr ?_)
 refine Zm (Zqm (Ze ?_))
 exact ZeG .ret (.inl rfl) [_,_] [0,1,5,6,7] rfl ⟨⟨_,rfl,.inr ⟨[_,_,_,_,_],ZfE,Zct 4 rfl rfl rfl,rfl⟩⟩,rfl,trivial⟩ ⟨(usX x u o n r R x),_,usX x u o n r YS ys,_,_,_,_,_,_,_,_,_,_,_,_,by rw [if_pos ⟨by simpa using g1,by simpa using g2⟩],rfl,rfl,hu14,hf14,hi14,hy14⟩
 refine (Zdw (l:=[_,_,_,_]) rfl rfl Zmy rfl (fun b16=>⟨⟨Kn.le.refl _,t2⟩,(ZV 8 kr rfl kr (Zck rfl rfl ZyM rfl (Zgk _ _ _ _ _ _ x _ hu hf hi) ?_))⟩))
 rintro _ Bc _ hlec ⟨q1c,c1c,q2c,c2c,q3c,c3c,l1c,l2c,l3c,rfl,rfl,huc,hfc,hic⟩
 replace hy:=hy.mono ZX.mono hlec
 replace hE:=hE.mono hlec
 refine ⟨⟨hlec,t2⟩,(aT 9 rfl (ZW fun D B L hI=>ZcE (parts:=[(1,_)]) [_,_,_,_,_,_,_] [_,_,_,_,_,_,_] rfl rfl Zu2 Zum rfl rfl rfl r4) (h:=ZV 10 kr rfl kr (ZnX (l:=[_,_,_,_,_,_,_]) rfl rfl rfl rfl (fun b18=>?_))))⟩
 refine ⟨⟨hlec,t2⟩,(aT 11 rfl (ZW fun D B L hI=>ZcE (parts:=[(0,_),(1,_),(2,_)]) [_,_,_,_] [_,_,_,_] rfl rfl Zti Zmy rfl rfl rfl r4) (h:=ZcQ 13 kr rfl kr kr kr (ZaC [_,_,_,_] 5 [_,_,_,_] rfl rfl Zta rfl rfl rfl rfl rfl rfl rfl rfl ?_)))⟩
 refine Zm (Zqm (ZnN 5 rfl (fun B19 hle19 hpm19=>?_)))
 have hc19:=Za4 hpm19
 replace hy:=hy.mono ZX.mono hle19
 replace huc:=huc.mono ZJ.mono hle19
 replace hE:=hE.mono hle19
 refine Za (xM (h:=xM (h:=xK [9,6,7,8,0,1] rfl ZwV rfl (Zn0 hJ _ _ _ _ _ _ _ _ x _ _ _ u o n r f cap R kk he hul hol hnl om2 om2 be _ _ _ ys YS hyl a _ hE hc19 huc hfc hic hy (fun h2 hr B2 hle=>hw (by simpa using g1) (by simpa using g2) h2 hr B2 _ _ _ _ _ _ _ _ _ _ (hlev.trans (hlec.trans (hle19.trans hle))) huc hfc hic)) (h:=?_))))
 rintro _ B20 _ hle20 ⟨q120,c120,q220,c220,q320,c320,l120,l220,l320,qe20,ce20,le20,rfl,rfl,hu20,hf20,hi20,hy20⟩
 replace hc19:=hc19.mono hle20
 replace hE:=hE.mono hle20
 refine xA (h:=Zqm (Zd (ZY (keeps _ [] _) mo kr ⟨Kn.le.refl _,Za3.refl _ _⟩ (fun _ _=>?_))))
 refine aW 0 rfl Zeh (h:=aT 1 rfl (ZW fun D B L hI=>Zn rfl rfl ZjX rfl ((hc19.mono hI.1) _ 3 _ rfl) r4) (h:=aNc 2 rfl (h:=aW 3 rfl Zf0 (h:=aM 5 rfl (h:=aT 6 rfl (ZW fun D B L hI=>Zaa rfl rfl ZwW rfl (ZfX (usN x u o n r kk) om2 a _ (hE.mono hI.1)) r4) (h:=?_))))))
 refine ZV 4 kr rfl kr (ZR [_,_,_,_,_] rfl rfl ZfE rfl (Zct 9 rfl rfl rfl) ?_)
 refine ⟨⟨Kn.le.refl _,trivial⟩,(Zfa 7 kr rfl kr kr (ZaC [_,_,_,_,_] 4 [_,_,_,_,_] rfl rfl Zoh rfl rfl rfl rfl rfl rfl rfl rfl ?_))⟩
 refine aA 8 rfl (h:=Zw kr kr ?_)
 refine Zm (Zqm (Ze ?_))
 exact ZeG .ret (.inl rfl) [_,_] [0,1,6,7,8] rfl ⟨⟨_,rfl,.inr ⟨[_,_,_,_,_],ZfE,Zct 4 rfl rfl rfl,rfl⟩⟩,rfl,trivial⟩ ⟨(usX x u o n r R x),_,usX x u o n r YS ys,_,_,_,_,_,_,_,_,_,_,_,_,by rw [if_pos ⟨by simpa using g1,by simpa using g2⟩],rfl,rfl,hu20,hf20,hi20,hy20⟩

theorem ZiT (b be b5:Nat) (q1 q2 q3:Option Addr) (c1 c2 c3:Nat) (x:DHost) (l1 l2 l3:Cells) (k:Nat) (f:DFolder) (hfx:x.folders[k]? = some f) (hn1:x.users.length≤2000000) (hn2:x.folders.length≤2000000) (q4:Option Addr) (c4:Nat) (set:List DSpan) (qe:Option Addr) (ce:Nat) (le:Cells) (hml:f.mail.length≤10) (a:Nat→Addr) (B:Kn) (hu:ZU Kn.none l1 q1 c1 142 3 ZJ x.users) (hf:ZaM l2 q2 c2 87 5 (Z4 224 89) x.folders) (hi:ZaM l3 q3 c3 146 4 (Za8 9) x.queue.items) (hc5:Zai B b5 0 [.slice q4 set.length c4]) (hs:SlK B q4 c4 2 Zak set) (hy:ZU Kn.none le qe ce 91 4 ZX ([]:List DLine)):Zx (pj J) 46 [ptr ⟨b,2,none⟩,.int .i64 k,ptr ⟨b5,0,none⟩,ptr ⟨be,0,none⟩] B [ZN b [.int .i32 1,.int .u32 0,str x.domain,.slice q1 x.users.length c1,.slice q2 x.folders.length c2,.int .i64 x.queue.next,.slice q3 x.queue.items.length c3] 164,l1,l2,l3,ZN be [.slice qe ([]:List DLine).length ce] 35,le] (fun v B' Ls=>∃q1' c1' q2' c2' q3' c3' l1' l2' l3' qe' ce' le',Ls=[ZN b [.int .i32 1,.int .u32 0,str x.domain,.slice q1' x.users.length c1',.slice q2' x.folders.length c2',.int .i64 x.queue.next,.slice q3' x.queue.items.length c3'] 164,l1',l2',l3',ZN be [.slice qe' ((ZaD f.mail (Z7 set f.mail.length))).length ce'] 35,le']∧v=errv 372 a (0)∧ZU Kn.none l1' q1' c1' 142 3 ZJ x.users∧ZaM l2' q2' c2' 87 5 (Z4 224 89) x.folders∧ZaM l3' q3' c3' 146 4 (Za8 9) x.queue.items∧ZU Kn.none le' qe' ce' 91 4 ZX ((ZaD f.mail (Z7 set f.mail.length)))):=by
 refine Zb5 46 Tryz.func46 rfl rfl rfl (Nat.le_of_ble_eq_true rfl) ?_
 have hfk:=(List.getElem?_eq_some_iff.1 hfx).1
 have hnl:=ZhT set f.mail.length
 obtain ⟨bq,_,_,lre,hpq,⟨qg,cg,qm,cm,ia,ib,rfl,rfl,hvg,hvm,ho9,hn9,hx9,hy9⟩,hwq,hqq,hcl,hcr,hkk⟩:=hf.cellA hfx
 refine Za (xA (h:=Za (xM (h:=xNc (h:=xW ZaB (h:=x1 Zfs 0 (h:=xM (h:=Zk (ZkC hpq rfl rfl Tryz.underlying39 ZdS rfl rfl oz oz ?_)))))))))
 refine xW Zc1 (h:=xW ZbT (h:=Zk (Zn rfl rfl ZjV rfl (hcl _ _ 2 rfl 4 _ rfl) (xA (h:=ZgK 2 rfl (ZoB hqq) (Zd (Za (y1 Zyz hc5 0 (h:=xM (h:=xV Tryz.underlying83 (h:=xQ ZzO rfl (Zm8 _ _ set ↑f.mail.length _ hs) (h:=?_))))))))))))
 intro v1 B1 hle1
 rintro ⟨a1,c1,rfl,hs1⟩
 replace hc5:=hc5.mono hle1
 replace hu:=hu.mono ZJ.mono hle1
 replace hy:=hy.mono ZX.mono hle1
 replace hvg:=hvg.mono Z1.mono hle1
 replace hvm:=hvm.mono Zao.mono hle1
 have hs1n:=hs1.len
 refine xV Tryz.underlying57 (h:=xM (h:=tL8 (Zh (Zv (α:=Gh DLine) [0,1,2,3,6,7,23,24] (fun g=>[(25,.int .i64 g.k)]) [4,5] (fun g=>[ZN be [.slice g.a g.xs.length g.c] 35,g.l]) (fun g Bx=>Bx=B1∧g.k≤(Z7 set f.mail.length).length∧g.xs=ZaD f.mail ((Z7 set f.mail.length).take g.k)∧g.xs.length≤g.k∧ZU Bx g.l g.a g.c 91 4 ZX g.xs) (fun g=>(Z7 set f.mail.length).length - g.k) ⟨0,0,le,qe,ce,[]⟩ t1 rfl (⟨rfl,Nat.zero_le _,rfl,Nat.le_refl _,hy.anyK ZX.any⟩) (fun g B2 hle2 hI=>?_)))))
 obtain ⟨rfl,hk,hxs,hgl,hv⟩:=hI
 refine Zz [(0,_),(1,_),(2,_),(3,_),(6,_),(7,_),(23,_),(24,_),(25,_)] [_,_,_,_,_,_,_,_] t9 rfl (Za (ZB (h:=Zd (Zb rfl (fun g1=>?_) (fun g1=>?_)))))
 try simp only [sQ,ne_eq] at g1
 refine wSk (Zd (Zh (Za ?_)))
 obtain ⟨y,hy⟩:=ZM (xs:=(Z7 set ↑f.mail.length)) (i:=g.k) om
 obtain ⟨bb4,oo4,rfl⟩:=hs1.base hy
 obtain ⟨_,rfl,hc5⟩:=hs1.elem hy
 refine xIx Tryz.underlying57 sz3 (h:=?_)
 have hyb:=ZhS (List.mem_of_getElem? hy)
 refine y1 lk3 hc5 0 (h:=xA (h:=Za (xM (h:=xM (h:=xU (h:=?_))))))
 obtain ⟨m,hm⟩:=ZsF (xs:=f.mail) (i:=(y - 1)) om om
 obtain ⟨bb7,_,hp7,⟨rfl,hb7⟩,hw7,hc7⟩:=hvm.row hm
 refine xIp hp7 Tryz.underlying83 ZhA (h:=Zk (ZR [_,_,_] rfl rfl Zqn rfl (Zzc hc7 7 rfl 0 rfl rfl) (xAl [_,_,_] Zsi (h:=fun b8=>xS [_,_,_] 8 [_,_,_] ZhA (h:=tL9 (Zf (x1 Zv3 4 (h:=xM (h:=xW Zdm (h:=x1 lk3 8 (h:=xW Zgn (h:=x1 lk3 8 (h:=xW ZeL (h:=x1 lk9 8 (h:=xB [(0,_),(1,_),(2,_),(3,_)] [_,_,_,_] [_,_,_,_] Zyx Zuh (h:=xBs [(0,_)] [_,_,_,_] Tryz.underlying35 ZlW Zuh (h:=fun b9=>Zk (Zjh (z:=⟨y,m.uid,m.flags,m.text⟩) (R:=ZX) 5 rfl hv rfl rfl rfl ZyJ Zyw rfl rfl (Zcy.box 9 rfl) rfl rfl (⟨rfl,by first | assumption | omega | (simp;done) | (simp;omega)⟩) om (fun l10 p10 c10 hv10=>?_)))))))))))))))))))
 refine xS [_] 4 [_] Zyu (h:=ZI (Zm (Zf (xD (h:=xM (h:=?_))))))
 exact Zy ⟨g.k+1,0,l10,p10,c10,(g.xs ++ [⟨y,m.uid,m.flags,m.text⟩])⟩ [0,1,2,3,4,5,6,7] so2 ⟨rfl,so,by simp only [];rw [ZhZ hy hm,← hxs],by simp;omega,hv10⟩ t9 rfl
 try simp only [sQ,ne_eq] at g1
 refine ZeT 2 7 rfl rfl (by decide) ?_
 refine ZeT 2 6 rfl rfl (by decide) ?_
 have hf9:=hkk f _ ⟨qg,cg,qm,cm,_,_,rfl,rfl,hvg,hvm,ho9,hn9,hx9,hy9⟩
 rw [List.append_assoc,ZuY hfx] at hf9
 refine ZA (ZP (ZC (Zs (Zm (Za (xA (h:=tL8 (Ze ?_))))))))
 have hye:g.xs=(ZaD f.mail (Z7 set f.mail.length)):=by rw [hxs,List.take_of_length_le oz]
 rw [← hye]
 exact eN [0,1,2,3,4,5] rfl t1 ⟨_,_,_,_,_,_,_,_,_,_,_,_,rfl,rfl,hu,hf9,hi,hv.anyK ZX.any⟩

theorem ZkU (q1 q2 q3:Option Addr) (c1 c2 c3:Nat) (x:DHost) (s:DSess) (hs1:s.user.length≤2000000) (hs2:s.owner.length≤2000000) (hs3:s.name.length≤2000000) (q4:Option Addr) (c4:Nat) (set:List DSpan) (hd:x.domain.length≤2000000) (B:Kn) (hu:SlK B q1 c1 3 ZJ x.users) (hf:SlK B q2 c2 5 ZG x.folders) (hi:SlK B q3 c3 4 ZaA x.queue.items) (hs:SlK B q4 c4 2 Zak set):Zx (pj J) 10 [.agg #[str x.domain,.slice q1 x.users.length c1,.slice q2 x.folders.length c2,.int .i64 x.queue.next,.slice q3 x.queue.items.length c3],.agg #[str s.user,str s.owner,str s.name],.slice q4 set.length c4] B [] (fun v B' Ls=>Ls=[]∧∃qz cz,v = .tuple #[.slice qz (ZbK x s set).1.length cz,.int .i64 (ZbK x s set).2]∧SlK B' qz cz 4 ZX (ZbK x s set).1):=by
 refine cB 77 Tryz.func10 (h:=?_)
 have hun:=hu.len
 have hfn:=hf.len
 have hin:=hi.len
 have hsn:=hs.len
 have hix:=Zg6 (inF s.owner s.name) x.folders
 refine Za (xBx [_,_,_,_,_] (h:=fun b1=>xBx [_,_,_] (h:=fun b2=>xA (h:=xA (h:=tL2 (Za (xBs [] [] Tryz.underlying35 ZlW Zuh (h:=fun b3=>xA (h:=tL3 (Zd (Za (xL [_,_,_,_,_] ZfE 0 (h:=xR ZzV rfl (ZmO _ _ _ _ _ _ x om2 _ hu hf hi) (h:=?_))))))))))))))
 refine xN (h:=xM (h:=Zt (d:=18) rfl (fun g1=>?_) (fun g1=>?_)))
 try simp only [sQ,ne_eq] at g1
 refine xP (h:=xP (h:=xP (h:=xT (h:=Zb (t:=true) rfl (fun _=>Za (xM (h:=Zfn 2 rfl (ZU.lit0 (R:=ZX) (w:=4)) ZX.mono om3 (fun B5 hle5 hr5=>?_)))) (fun h=>Bool.noConfusion h)))))
 obtain ⟨hu,hf,hs⟩:=up3 hle5 hu hf hs
 have hr5n:=hr5.len
 refine xA (h:=?_)
 rw [ZbK,if_pos (by simp [g1])]
 refine xA (h:=tL3 (Ze (Zl ?_)))
 exact ZeG .ret (.inl rfl) [_,_] [] rfl t2 ⟨rfl,_,_,rfl,hr5⟩
 try simp only [sQ,ne_eq] at g1
 refine xM (h:=xR ZyR rfl (Zju _ _ set _ hs) (h:=xN (h:=xF (h:=Zb rfl (fun g2=>?_) (fun g2=>?_)))))
 try simp only [sQ,ne_eq] at g2
 refine Za (xM (h:=Zfn 2 rfl (ZU.lit0 (R:=ZX) (w:=4)) ZX.mono om3 (fun B7 hle7 hr7=>?_)))
 obtain ⟨hu,hf,hs⟩:=up3 hle7 hu hf hs
 have hr7n:=hr7.len
 refine xA (h:=?_)
 rw [ZbK,if_pos (by simp [g2])]
 refine xA (h:=tL3 (Ze (Zl ?_)))
 exact ZeG .ret (.inl rfl) [_,_] [] rfl t2 ⟨rfl,_,_,rfl,hr7⟩
 try simp only [sQ,ne_eq] at g2
 have hok:Zam x=true:=by simpa using g1
 have hrr:=ZiI hok
 have hnn : ¬ ¬ (Zam x=true∧Zc7 set=true):=fun h=>h ⟨hok,by simpa using g2⟩
 refine wSk (Za (xL [_,_,_,_,_] ZfE 0 (h:=xL [_,_,_] Zv2 1 (h:=xR ZzU rfl (Zty _ _ _ _ _ _ x s om2 om2 om2 2 hrr oz _ hu hf) (h:=?_)))))
 refine xM (h:=xE (h:=xE (h:=xA (h:=xA (h:=Zd (Za (xM (h:=Zar (h:=Zb rfl (fun g5=>?_) (fun g5=>?_))))))))))
 try simp only [sQ,ne_eq] at g5
 refine Za (xM (h:=Zfn 2 rfl (ZU.lit0 (R:=ZX) (w:=4)) ZX.mono om3 (fun B9 hle9 hr9=>?_)))
 obtain ⟨hf,hs⟩:=up2 hle9 hf hs
 have hr9n:=hr9.len
 refine xM (h:=?_)
 rw [ZbK,if_neg hnn,if_pos g5]
 refine xA (h:=xA (h:=tL3 (Ze (Zl ?_))))
 exact ZeG .ret (.inl rfl) [_,_] [] rfl t2 ⟨rfl,_,_,rfl,hr9⟩
 try simp only [sQ,ne_eq] at g5
 obtain ⟨hat,hk0,_,_,_⟩:=Zr4 g5
 obtain ⟨f,hf0⟩ :∃f,x.folders[(atF x s 2).1.toNat]? = some f:=⟨_,List.getElem?_eq_getElem oz⟩
 have hfb:Zd1 (⟨f.next,f.mail⟩:DBox)=true:=Zex (Zfy hok hf0)
 have hnl3:=ZhT set f.mail.length
 have hnl4:f.mail.length≤10:=(ZeA hfb).2.2
 have hse:ZbK x s set=((ZaD f.mail (Z7 set f.mail.length)),0):=by rw [ZbK,if_neg hnn,if_neg (fun h=>h g5),ZeB hf0];rfl
 refine wSk (Za (xW ZaB (h:=x1 Zfs 0 (h:=xM (h:=?_)))))
 obtain ⟨bb10,oo10,rfl⟩:=hf.base hf0
 obtain ⟨_,⟨qg11,cg11,qm11,cm11,rfl,hg11,hm11,hb11,hb11b⟩,hc11⟩:=hf.elem hf0
 have hg11n:=hg11.len
 have hm11n:=hm11.len
 have hm11s:=Zal hm11
 refine xIx Tryz.underlying39 ZdS (h:=xW Zc1 (h:=yL [_,_] ZnB hc11 3 (h:=xM (h:=xQ ZzT rfl (Zrq _ _ (⟨f.next,f.mail⟩:DBox) _ _ set _ hm11 hs) (h:=?_)))))
 intro v12 B12 hle12
 rintro ⟨a12,c12,rfl,hs12⟩
 replace hf:=up1 hle12 hf
 have hs12n:=hs12.len
 refine xA (h:=Zd (Za (xA (h:=Zh (Zv (α:=Gh DLine) [0,1,2,3,4,6,7,9,10,11,22,31] (fun g=>[(8,.slice g.a g.xs.length g.c),(12,.int .i64 g.k)]) [2] (fun g=>[g.l]) (fun g Bx=>Bx=B12∧g.k≤(Z7 set f.mail.length).length∧g.xs=ZaD f.mail ((Z7 set f.mail.length).take g.k)∧g.xs.length≤g.k∧ZU Bx g.l g.a g.c 91 4 ZX g.xs) (fun g=>(Z7 set f.mail.length).length - g.k) ⟨0,0,_,_,_,[]⟩ t2 rfl (⟨rfl,Nat.zero_le _,rfl,Nat.le_refl _,.lit0⟩) (fun g B13 hle13 hI=>?_))))))
 obtain ⟨rfl,hk,hxs,hgl,hv⟩:=hI
 refine Zz [(0,_),(1,_),(2,_),(3,_),(4,_),(6,_),(7,_),(8,_),(9,_),(10,_),(11,_),(12,_),(22,_),(31,_)] [_,_,_] t14 rfl (Zd (Za (xM (h:=xM (h:=xV Tryz.underlying57 (h:=ZB (h:=Zb rfl (fun g6=>?_) (fun g6=>?_))))))))
 try simp only [sQ,ne_eq] at g6
 obtain ⟨y,hy⟩:=ZM (xs:=(Z7 set f.mail.length)) (i:=g.k) oz
 have hyb:=ZhS (List.mem_of_getElem? hy)
 refine wSk (Zd (Zh (Zd (ZY (keeps _ [0,2] _) mo kr ⟨Kn.le.refl _,Za3.refl _ _⟩ (fun _ _=>?_)))))
 refine aW 0 rfl ZaB (h:=aT 1 rfl (ZW fun D B L hI=>Zn rfl rfl Zfs rfl (atL 0 (hI.2.1.trans rfl) rfl rfl) r4) (h:=aM 2 rfl (h:=?_)))
 obtain ⟨_,⟨qg14,cg14,qm14,cm14,rfl,hg14,hm14,hb14,hb14b⟩,hc14⟩:=hf.elem hf0
 have hg14n:=hg14.len
 have hm14n:=hm14.len
 have hm14s:=Zal hm14
 refine aIx 3 rfl Tryz.underlying39 ZdS (h:=aW 4 rfl Zc1 (h:=aW 5 rfl ZbT (h:=aT 6 rfl (ZW fun D B L hI=>Zn rfl rfl ZjV rfl ((hc14.mono hI.1) _ 4 _ rfl) r4) (h:=aM 7 rfl (h:=aM 8 rfl (h:=?_))))))
 obtain ⟨bb15,oo15,rfl⟩:=hs12.base hy
 obtain ⟨_,rfl,hc16⟩:=hs12.elem hy
 refine aIx 9 rfl Tryz.underlying57 sz3 (h:=aT 10 rfl (ZW fun D B L hI=>Zn rfl rfl lk3 rfl ((hc16.mono hI.1) _ 0 _ rfl) r4) (h:=aU 11 rfl (h:=?_)))
 obtain ⟨m,hm⟩:=ZsF (xs:=f.mail) (i:=(y - 1)) om om
 obtain ⟨bb18,oo18,rfl⟩:=hm14.base hm
 obtain ⟨_,⟨rfl,hb19⟩,hc19⟩:=hm14.elem hm
 refine aIx 12 rfl Tryz.underlying83 ZhA (h:=aT 13 rfl (ZW fun D B L hI=>ZR [_,_,_] rfl rfl Zqn rfl (Zi8 (hc19.mono hI.1) 0 rfl rfl) r4) (h:=ZV 14 kr rfl kr (Zdw (l:=[_,_,_]) rfl rfl Zsi rfl (fun b20=>?_))))
 refine ⟨⟨Kn.le.refl _,t2⟩,(ZcQ 15 kr rfl kr kr kr (ZaC [_,_,_] 3 [_,_,_] rfl rfl ZhA rfl rfl rfl rfl rfl rfl rfl rfl ?_))⟩
 refine Zm (tL4 (ZY (keeps _ [3] _) mo kr ⟨Kn.le.refl _,Za3.refl _ _⟩ (fun _ _=>?_)))
 refine aM 0 rfl (h:=aM 1 rfl (h:=aM 2 rfl (h:=aIx 3 rfl Tryz.underlying57 sz3 (h:=aT 4 rfl (ZW fun D B L hI=>Zn rfl rfl lk3 rfl ((hc16.mono hI.1) _ 0 _ rfl) r4) (h:=aW 5 rfl Zdm (h:=aT 6 rfl (ZW fun D B L hI=>Zn rfl rfl lk3 rfl (atL 3 (hI.2.1.trans rfl) rfl rfl) r4) (h:=aW 7 rfl Zgn (h:=aT 8 rfl (ZW fun D B L hI=>Zn rfl rfl lk3 rfl (atL 3 (hI.2.1.trans rfl) rfl rfl) r4) (h:=aW 9 rfl ZeL (h:=aT 10 rfl (ZW fun D B L hI=>Zn rfl rfl lk9 rfl (atL 3 (hI.2.1.trans rfl) rfl rfl) r4) (h:=aT 11 rfl (ZW fun D B L hI=>ZcE (parts:=[(0,_),(1,_),(2,_),(3,_)]) [_,_,_,_] [_,_,_,_] rfl rfl Zyx Zuh rfl rfl rfl r4) (h:=ZV 12 kr rfl kr (Zbx (parts:=[(0,_)]) [_,_,_,_] rfl rfl Tryz.underlying35 ZlW Zuh rfl rfl rfl rfl rfl (fun b21=>?_))))))))))))))
 refine ⟨⟨Kn.le.refl _,t1⟩,(ZV 13 kr rfl kr (Zjh (z:=⟨y,m.uid,m.flags,m.text⟩) (R:=ZX) 2 rfl hv rfl rfl rfl ZyJ Zyw rfl rfl (Zcy.box 4 rfl) rfl rfl (⟨rfl,by first | assumption | omega | (simp;done) | (simp;omega)⟩) om (fun l22 p22 c22 hv22=>?_)))⟩
 refine ⟨⟨Kn.le.refl _,t1⟩,(aA 14 rfl (h:=Zw kr kr ?_))⟩
 refine ZI (Zm (Zf (xM (h:=xD (h:=xA (h:=?_))))))
 exact Zy ⟨g.k+1,0,l22,p22,c22,(g.xs ++ [⟨y,m.uid,m.flags,m.text⟩])⟩ [0,1,2] (by first | omega | (simp only [];omega)) ⟨rfl,by simp only [];omega,by simp only [];rw [ZhZ hy hm,← hxs],by simp;omega,hv22⟩ ⟨rfl,rfl,rfl,rfl,rfl,rfl,rfl,rfl,rfl,rfl,rfl,rfl,rfl,rfl,trivial⟩ rfl
 try simp only [sQ,ne_eq] at g6
 refine ZA (ZP (ZC (Zs (Zm (Za (xM (h:=Zfn 2 rfl hv ZX.mono om3 (fun B23 hle23 hr23=>?_))))))))
 have hr23n:=hr23.len
 refine xA (h:=?_)
 have hye:g.xs=(ZaD f.mail (Z7 set f.mail.length)):=by rw [hxs,List.take_of_length_le oz]
 rw [hse,← hye]
 refine xA (h:=tL3 (Ze ?_))
 exact ZeG .ret (.inl rfl) [_,_] [] rfl t2 ⟨rfl,_,_,rfl,hr23⟩

theorem Zg4 (hJ:Joins Tryz.prog J) (q1 q2 q3:Option Addr) (c1 c2 c3:Nat) (x:DHost) (u o n:Str) (hul:u.length≤2000000) (hol:o.length≤2000000) (hnl:n.length≤2000000) (q4:Option Addr) (c4:Nat) (set:List DSpan) (hd:x.domain.length≤2000000) (a:Nat→Addr) (B:Kn) (hE:ErrsB 372 [0,1,2,3] B a) (hu:SlK B q1 c1 3 ZJ x.users) (hf:SlK B q2 c2 5 ZG x.folders) (hi:SlK B q3 c3 4 ZaA x.queue.items) (hs:SlK B q4 c4 2 Zak set):Zx (pj J) 14 [.agg #[str x.domain,.slice q1 x.users.length c1,.slice q2 x.folders.length c2,.int .i64 x.queue.next,.slice q3 x.queue.items.length c3],.agg #[str u,str o,str n],.slice q4 set.length c4] B [] (fun v B' Ls=>∃qe ce le,Ls=[le]∧v = .tuple #[.slice qe (ZbK x ⟨u,o,n⟩ set).1.length ce,.int .i64 (ZbK x ⟨u,o,n⟩ set).2]∧ZU Kn.none le qe ce 91 4 ZX (ZbK x ⟨u,o,n⟩ set).1):=by
 refine cB 23 Tryz.func14 (h:=?_)
 have hun:=hu.len
 have hfn:=hf.len
 have hin:=hi.len
 have hsn:=hs.len
 refine Za (xBx [_,_,_,_,_] (h:=fun b1=>xBx [_,_,_] (h:=fun b2=>xBx [_] (h:=fun b3=>xA (h:=xA (h:=tL3 (ZnN 2 rfl (fun B4 hle4 hpm4=>?_))))))))
 have hc4:=Za4 hpm4
 obtain ⟨hu,hf,hi,hs⟩:=up4 hle4 hu hf hi hs
 replace hE:=hE.mono hle4
 refine Za (xBs [] [] Tryz.underlying35 ZlW Zuh (h:=fun b5=>xAl [_] ZyY (h:=fun b6=>xS [_] 4 [_] Zyu (h:=tL5 (Zd (ZY (keeps _ [0,1] _) mo kr ⟨Kn.le.refl _,Za3.refl _ _⟩ (fun _ _=>?_)))))))
 refine aT 0 rfl (ZW fun D B L hI=>ZR [_,_,_,_,_] rfl rfl ZfE rfl (Zct 0 (hI.2.1.trans rfl) rfl rfl) r4) (h:=aT 1 rfl (ZW fun D B L hI=>ZR [_,_,_] rfl rfl Zv2 rfl (Zct 1 (hI.2.2.1.trans rfl) rfl rfl) r4) (h:=aT 2 rfl (ZW fun D B L hI=>Zn rfl rfl Zyz rfl ((hc4.mono hI.1) _ 0 _ rfl) r4) (h:=aT 3 rfl (ZW fun D B L hI=>Zaa rfl rfl ZyQ rfl (Zj1 _ _ set _ (hs.mono Zak.mono hI.1)) r4) (h:=Zi4 [4,9] kr kr kr ⟨?_,?_⟩))))
 refine (Zcz (xs:=[]) (ys:=[_,_]) rfl rfl rfl rfl (⟨⟨Kn.le.refl _,t2⟩,(Zi4 [5,9] kr kr kr ⟨?_,?_⟩)⟩))
 refine (ZbG [4,3] rfl rfl rfl rfl ZwY rfl (ZkR _ _ _ _ _ _ x u o n hul hol hnl _ 2 46 _ x 0 (by decide) ZwX hJ _ _ _ _ [] (ZaD (Zd2 x (Zbe (inF o n) x.folders).toNat).mail (Z7 set (Zd2 x (Zbe (inF o n) x.folders).toNat).mail.length)) (by simp) hd a _ hE hu hf hi ZU.lit0 (fun har hok h2 hr B2 b q1 q2 q3 c1 c2 c3 l1 l2 l3 hle k1 k2 k3=>by (obtain ⟨k,f,hk,hfx⟩:=Zho hr;have hat:(if Zc4 x.users x.folders u o n 2=0 then Zbe (inF o n) x.folders else -1)=(k:Int):=(by rw [if_pos hr,hk]);have hYS:(ZaD (Zd2 x (Zbe (inF o n) x.folders).toNat).mail (Z7 set (Zd2 x (Zbe (inF o n) x.folders).toNat).mail.length))=ZaD f.mail (Z7 set f.mail.length):=(by rw [hk,Int.toNat_natCast,ZeB hfx];rfl);have hml:f.mail.length≤10:=(ZeA (Zex (Zfy hok hfx))).2.2;rw [hat,hYS];exact ZiT b _ _ _ _ _ _ _ _ x l1 l2 l3 k f hfx oz oz _ _ set _ _ _ hml a B2 k1 k2 k3 (hc4.mono hle) (hs.mono Zak.mono hle) ZU.lit0))) ?_)
 rintro _ B8 _ hle8 ⟨Y8,d8,YY8,q18,c18,q28,c28,q38,c38,l18,l28,l38,qe8,ce8,le8,hYd8,rfl,rfl,hu8,hf8,hi8,hy8⟩
 obtain ⟨hu,hf,hi,hs⟩:=up4 hle8 hu hf hi hs
 replace hc4:=hc4.mono hle8
 replace hE:=hE.mono hle8
 obtain ⟨rfl,rfl⟩:=ZiS rfl hYd8
 refine ⟨⟨hle8,t2⟩,(aM 6 rfl (h:=aE 7 rfl (h:=aE 8 rfl (h:=ZV 9 kr rfl kr (Zdw (l:=[_,_,_,_,_]) rfl rfl ZnE rfl (fun b9=>?_))))))⟩
 refine ⟨⟨hle8,t2⟩,(Zfa 10 kr rfl kr kr (ZaC [_,_,_,_,_] 8 [_,_,_,_,_] rfl rfl Zoh rfl rfl rfl rfl rfl rfl rfl rfl ?_))⟩
 refine aA 11 rfl (h:=Zw kr kr ?_)
 refine Zm (tL9 (Za (x1 Zv3 4 (h:=xM (h:=xA (h:=xA (h:=Ze ?_)))))))
 exact ZeG .ret (.inl rfl) [_,_] [3] rfl t2 ⟨_,_,_,rfl,rfl,hy8⟩
 refine (Zdw (l:=[_,_,_,_,_]) rfl rfl ZnE rfl (fun b10=>⟨⟨Kn.le.refl _,t2⟩,(ZV 5 kr rfl kr (ZbG [4,3] rfl rfl rfl rfl ZwY rfl (ZkR _ _ _ _ _ _ x u o n hul hol hnl _ 2 46 _ x 0 (by decide) ZwX hJ _ _ _ _ [] (ZaD (Zd2 x (Zbe (inF o n) x.folders).toNat).mail (Z7 set (Zd2 x (Zbe (inF o n) x.folders).toNat).mail.length)) (by simp) hd a _ hE hu hf hi ZU.lit0 (fun har hok h2 hr B2 b q1 q2 q3 c1 c2 c3 l1 l2 l3 hle k1 k2 k3=>by (obtain ⟨k,f,hk,hfx⟩:=Zho hr;have hat:(if Zc4 x.users x.folders u o n 2=0 then Zbe (inF o n) x.folders else -1)=(k:Int):=(by rw [if_pos hr,hk]);have hYS:(ZaD (Zd2 x (Zbe (inF o n) x.folders).toNat).mail (Z7 set (Zd2 x (Zbe (inF o n) x.folders).toNat).mail.length))=ZaD f.mail (Z7 set f.mail.length):=(by rw [hk,Int.toNat_natCast,ZeB hfx];rfl);have hml:f.mail.length≤10:=(ZeA (Zex (Zfy hok hfx))).2.2;rw [hat,hYS];exact ZiT b _ _ _ _ _ _ _ _ x l1 l2 l3 k f hfx oz oz _ _ set _ _ _ hml a B2 k1 k2 k3 (hc4.mono hle) (hs.mono Zak.mono hle) ZU.lit0))) ?_))⟩))
 rintro _ B11 _ hle11 ⟨Y11,d11,YY11,q111,c111,q211,c211,q311,c311,l111,l211,l311,qe11,ce11,le11,hYd11,rfl,rfl,hu11,hf11,hi11,hy11⟩
 obtain ⟨hu,hf,hi,hs⟩:=up4 hle11 hu hf hi hs
 replace hc4:=hc4.mono hle11
 replace hE:=hE.mono hle11
 obtain ⟨rfl,rfl⟩:=ZiS rfl hYd11
 refine ⟨⟨hle11,t2⟩,(aM 6 rfl (h:=aE 7 rfl (h:=aE 8 rfl (h:=Zfa 10 kr rfl kr kr (ZaC [_,_,_,_,_] 5 [_,_,_,_,_] rfl rfl Zoh rfl rfl rfl rfl rfl rfl rfl rfl ?_)))))⟩
 refine aA 11 rfl (h:=Zw kr kr ?_)
 refine Zm (tL9 (Za (x1 Zv3 4 (h:=xM (h:=xA (h:=xA (h:=Ze ?_)))))))
 exact ZeG .ret (.inl rfl) [_,_] [3] rfl t2 ⟨_,_,_,rfl,rfl,hy11⟩
 refine (Zdw (l:=[_,_,_,_,_]) rfl rfl ZnE rfl (fun b12=>⟨⟨Kn.le.refl _,t2⟩,(ZV 4 kr rfl kr (Zcz (xs:=[]) (ys:=[_,_]) rfl rfl rfl rfl ?_))⟩))
 refine ⟨⟨Kn.le.refl _,t2⟩,(ZV 5 kr rfl kr (ZbG [4,3] rfl rfl rfl rfl ZwY rfl (ZkR _ _ _ _ _ _ x u o n hul hol hnl _ 2 46 _ x 0 (by decide) ZwX hJ _ _ _ _ [] (ZaD (Zd2 x (Zbe (inF o n) x.folders).toNat).mail (Z7 set (Zd2 x (Zbe (inF o n) x.folders).toNat).mail.length)) (by simp) hd a _ hE hu hf hi ZU.lit0 (fun har hok h2 hr B2 b q1 q2 q3 c1 c2 c3 l1 l2 l3 hle k1 k2 k3=>by (obtain ⟨k,f,hk,hfx⟩:=Zho hr;have hat:(if Zc4 x.users x.folders u o n 2=0 then Zbe (inF o n) x.folders else -1)=(k:Int):=(by rw [if_pos hr,hk]);have hYS:(ZaD (Zd2 x (Zbe (inF o n) x.folders).toNat).mail (Z7 set (Zd2 x (Zbe (inF o n) x.folders).toNat).mail.length))=ZaD f.mail (Z7 set f.mail.length):=(by rw [hk,Int.toNat_natCast,ZeB hfx];rfl);have hml:f.mail.length≤10:=(ZeA (Zex (Zfy hok hfx))).2.2;rw [hat,hYS];exact ZiT b _ _ _ _ _ _ _ _ x l1 l2 l3 k f hfx oz oz _ _ set _ _ _ hml a B2 k1 k2 k3 (hc4.mono hle) (hs.mono Zak.mono hle) ZU.lit0))) ?_))⟩
 rintro _ B13 _ hle13 ⟨Y13,d13,YY13,q113,c113,q213,c213,q313,c313,l113,l213,l313,qe13,ce13,le13,hYd13,rfl,rfl,hu13,hf13,hi13,hy13⟩
 obtain ⟨rfl,rfl⟩:=ZiS rfl hYd13
 refine ⟨⟨hle13,t2⟩,(aM 6 rfl (h:=aE 7 rfl (h:=aE 8 rfl (h:=Zfa 10 kr rfl kr kr (ZaC [_,_,_,_,_] 5 [_,_,_,_,_] rfl rfl Zoh rfl rfl rfl rfl rfl rfl rfl rfl ?_)))))⟩
 refine aA 11 rfl (h:=Zw kr kr ?_)
 refine Zm (tL9 (Za (x1 Zv3 4 (h:=xM (h:=xA (h:=xA (h:=Ze ?_)))))))
 exact ZeG .ret (.inl rfl) [_,_] [3] rfl t2 ⟨_,_,_,rfl,rfl,hy13⟩

theorem Zoc (q:Option Addr) (cp:Nat) (xs:List DSpan) (left:Int) (hl0:0≤left) (hl1:left≤1048576) (B:Kn) (hx:SlB B q cp 2 Zak xs):Z0 (pj J) 9 [.slice q xs.length cp,.int .i64 left] B (.int .i64 (szI left xs.length)):=by
 refine cB 12 Tryz.func9 (h:=?_)
 have hxn:=hx.len
 refine Za (xA (h:=Za (xM (h:=xM (h:=xV Tryz.underlying31 (h:=xU (h:=xA (h:=Zd (Za (xM (h:=ZB (h:=Zb rfl (fun g1=>?_) (fun g1=>?_)))))))))))))
 try simp only [sQ,ne_eq] at g1
 refine Za (xA (h:=Ze (Zl ?_)))
 exact eR t1 ⟨ZE (by first | (unfold szI;split <;> omega)),rfl,rfl⟩
 try simp only [sQ,ne_eq] at g1
 refine wSk (Za (xM (h:=xA (h:=Ze ?_))))
 exact eR t1 ⟨ZE (by first | (unfold szI;split <;> omega)),rfl,rfl⟩

theorem Zk8 (q:Option Addr) (cp:Nat) (xs:List DSpan) (l:Cells) (k:Nat) (hk:k≤900000000000000) (hn:xs.length≤2000000) (B:Kn) (hv:ZU B l q cp 72 2 Zak xs):Zx (pj J) 19 [.slice q xs.length cp,.int .i64 k] B [l] (fun v B' Ls=>B'=B∧∃l',Ls=[l']∧v = .int .i64 ((k+2*xs.length:Nat):Int)∧ZU B l' q cp 72 2 Zak (ZfS k xs.length)):=by
 refine cB 27 Tryz.func19 (h:=?_)
 have hvc:=hv.cap
 refine Za (xA (h:=Zd (Za (xA (h:=Zh (Zv (α:=Nat × Cells × List DSpan) [4] (fun g=>[(0,.slice q xs.length cp),(1,.int .i64 ((k+2*g.1:Nat):Int)),(5,.int .i64 g.1)]) [0] (fun g=>[g.2.1]) (fun g Bx=>Bx=B∧g.1≤xs.length∧g.2.2.length=xs.length∧g.2.2.take g.1=ZfS k g.1∧ZU Bx g.2.1 q cp 72 2 Zak g.2.2) (fun g=>xs.length - g.1) (0,l,xs) t3 rfl (⟨rfl,Nat.zero_le _,rfl,rfl,hv⟩) (fun g B1 hle1 hI=>?_)))))))
 obtain ⟨rfl,hi,hle,ht,hw⟩:=hI
 refine Zz [(0,_),(1,_),(4,_),(5,_)] [_] t4 rfl (Zd (Za (xM (h:=xM (h:=xV Tryz.underlying48 (h:=ZB (h:=Zb rfl (fun g1=>?_) (fun g1=>?_))))))))
 try simp only [sQ,ne_eq] at g1
 refine wSk (Zd (Zh (Za (xM (h:=xM (h:=xM (h:=?_)))))))
 obtain ⟨z1,hz1⟩:=ZM (xs:=g.2.2) (i:=g.1) om
 obtain ⟨bb3,_,hp3,rfl,hw3,hc3⟩:=hw.row hz1
 refine xIp hp3 Tryz.underlying48 ZkM (h:=xW Zgq (h:=Zk (Zd5 (k:=g.1) (off:=0) (⟨((k+2*g.1:Nat):Int),z1.high⟩) [_] 0 hw hp3 hz1 rfl rfl sz3 rfl rfl rfl rfl rfl rfl (by rintro _ rfl;rfl) (fun l4 hv4=>?_))))
 refine tL1 (Za (xM (h:=xD (h:=xA (h:=Za (xM (h:=xM (h:=xM (h:=?_)))))))))
 obtain ⟨z2,hz2⟩:=ZM (xs:=(g.2.2.set g.1 (⟨((k+2*g.1:Nat):Int),z1.high⟩))) (i:=g.1) om
 obtain ⟨bb6,_,hp6,rfl,hw6,hc6⟩:=hv4.row hz2
 refine xIp hp6 Tryz.underlying48 ZkM (h:=xW Zgp (h:=Zk (Zd5 (k:=g.1) (off:=1) (⟨z2.low,((k+2*g.1+1:Nat):Int)⟩) [_] 0 hv4 hp6 hz2 rfl rfl sz3 rfl rfl rfl rfl rfl rfl (by rintro _ rfl;rfl) (fun l7 hv7=>?_))))
 refine tL1 (Zf (xM (h:=xD (h:=xA (h:=ZI (Zm (Zf (xM (h:=xD (h:=xA (h:=?_)))))))))))
 exact Zy (g.1+1,l7,((g.2.2.set g.1 (⟨((k+2*g.1:Nat):Int),z1.high⟩)).set g.1 (⟨z2.low,((k+2*g.1+1:Nat):Int)⟩))) [0] so2 ⟨rfl,so,by simp only [List.length_set];exact hle,ZjM ht hz1 hz2,hv7⟩ t4 rfl
 try simp only [sQ,ne_eq] at g1
 have he:=ZhW ht oz
 have hgi:g.1=xs.length:=by omega
 rw [hgi] at he
 refine ZA (ZP (ZC (Zs (Zm (Za (xM (h:=xA (h:=Ze ?_))))))))
 exact ZeG .ret (.inl rfl) [_] [0] rfl ⟨rfl,trivial⟩ ⟨rfl,_,rfl,by rw [hgi];rfl,by rw [← he];exact hw⟩

theorem Zlb (q:Option Addr) (cp:Nat) (xs:List DLine) (l:Cells) (k:Nat) (hk:k≤900000000000000) (hn:xs.length≤2000000) (B:Kn) (hv:ZU B l q cp 91 4 ZX xs):Zx (pj J) 20 [.slice q xs.length cp,.int .i64 k] B [l] (fun v B' Ls=>B'=B∧∃l',Ls=[l']∧v = .int .i64 ((k+4*xs.length:Nat):Int)∧ZU B l' q cp 91 4 ZX (Zcj k xs.length)):=by
 refine cB 42 Tryz.func20 (h:=?_)
 have hvc:=hv.cap
 refine Za (xA (h:=Zd (Za (xA (h:=Zh (Zv (α:=Nat × Cells × List DLine) [4] (fun g=>[(0,.slice q xs.length cp),(1,.int .i64 ((k+4*g.1:Nat):Int)),(5,.int .i64 g.1)]) [0] (fun g=>[g.2.1]) (fun g Bx=>Bx=B∧g.1≤xs.length∧g.2.2.length=xs.length∧g.2.2.take g.1=Zcj k g.1∧ZU Bx g.2.1 q cp 91 4 ZX g.2.2) (fun g=>xs.length - g.1) (0,l,xs) t3 rfl (⟨rfl,Nat.zero_le _,rfl,rfl,hv⟩) (fun g B1 hle1 hI=>?_)))))))
 obtain ⟨rfl,hi,hle,ht,hw⟩:=hI
 refine Zz [(0,_),(1,_),(4,_),(5,_)] [_] t4 rfl (Zd (Za (xM (h:=xM (h:=xV Tryz.underlying35 (h:=ZB (h:=Zb rfl (fun g1=>?_) (fun g1=>?_))))))))
 try simp only [sQ,ne_eq] at g1
 refine wSk (Zd (Zh (Za (xM (h:=xM (h:=xM (h:=?_)))))))
 obtain ⟨z1,hz1⟩:=ZM (xs:=g.2.2) (i:=g.1) om
 obtain ⟨bb3,_,hp3,⟨rfl,hb3⟩,hw3,hc3⟩:=hw.row hz1
 refine xIp hp3 Tryz.underlying35 ZlW (h:=xW Zml (h:=Zk (Zd5 (k:=g.1) (off:=0) (⟨((k+4*g.1:Nat):Int),z1.uid,z1.flags,z1.text⟩) [_] 0 hw hp3 hz1 rfl rfl sz3 rfl rfl rfl rfl rfl rfl (by rintro _ ⟨rfl,e1⟩;exact ⟨rfl,e1⟩) (fun l4 hv4=>?_))))
 refine tL1 (Za (xM (h:=xD (h:=xA (h:=Za (xM (h:=xM (h:=xM (h:=?_)))))))))
 obtain ⟨z2,hz2⟩:=ZM (xs:=(g.2.2.set g.1 (⟨((k+4*g.1:Nat):Int),z1.uid,z1.flags,z1.text⟩))) (i:=g.1) om
 obtain ⟨bb6,_,hp6,⟨rfl,hb6⟩,hw6,hc6⟩:=hv4.row hz2
 refine xIp hp6 Tryz.underlying35 ZlW (h:=xW Zmk (h:=Zk (Zd5 (k:=g.1) (off:=1) (⟨z2.place,((k+4*g.1+1:Nat):Int),z2.flags,z2.text⟩) [_] 0 hv4 hp6 hz2 rfl rfl sz3 rfl rfl rfl rfl rfl rfl (by rintro _ ⟨rfl,e1⟩;exact ⟨rfl,e1⟩) (fun l7 hv7=>?_))))
 refine tL1 (Za (xM (h:=xD (h:=xA (h:=Za (xM (h:=xM (h:=xM (h:=?_)))))))))
 obtain ⟨z3,hz3⟩:=ZM (xs:=((g.2.2.set g.1 (⟨((k+4*g.1:Nat):Int),z1.uid,z1.flags,z1.text⟩)).set g.1 (⟨z2.place,((k+4*g.1+1:Nat):Int),z2.flags,z2.text⟩))) (i:=g.1) om
 obtain ⟨bb9,_,hp9,⟨rfl,hb9⟩,hw9,hc9⟩:=hv7.row hz3
 refine xIp hp9 Tryz.underlying35 ZlW (h:=xW Zmj (h:=Zk (Zd5 (k:=g.1) (off:=2) (⟨z3.place,z3.uid,((k+4*g.1+1+1:Nat):Int),z3.text⟩) [_] 0 hv7 hp9 hz3 rfl rfl sz3 rfl rfl rfl rfl rfl rfl (by rintro _ ⟨rfl,e1⟩;exact ⟨rfl,e1⟩) (fun l10 hv10=>?_))))
 refine tL1 (Za (xM (h:=xD (h:=xA (h:=Za (xM (h:=xM (h:=xM (h:=xR ZpR rfl (ZaL ((((k+4*g.1)+1)+1)+1) oz _) (h:=?_))))))))))
 obtain ⟨z4,hz4⟩:=ZM (xs:=(((g.2.2.set g.1 (⟨((k+4*g.1:Nat):Int),z1.uid,z1.flags,z1.text⟩)).set g.1 (⟨z2.place,((k+4*g.1+1:Nat):Int),z2.flags,z2.text⟩)).set g.1 (⟨z3.place,z3.uid,((k+4*g.1+1+1:Nat):Int),z3.text⟩))) (i:=g.1) om
 obtain ⟨bb13,_,hp13,⟨rfl,hb13⟩,hw13,hc13⟩:=hv10.row hz4
 refine xIp hp13 Tryz.underlying35 ZlW (h:=xW Zmi (h:=Zk (Zd5 (k:=g.1) (off:=3) (⟨z4.place,z4.uid,z4.flags,ZO (k+4*g.1+1+1+1)⟩) [_] 0 hv10 hp13 hz4 rfl rfl sz9 rfl rfl rfl rfl rfl rfl (by rintro _ ⟨rfl,e1⟩;exact ⟨rfl,show (ZO (k+4*g.1+1+1+1)).length≤2000000 from Nat.le_trans (Zbl (k:=k+4*g.1+1+1+1) oz) (by decide)⟩) (fun l14 hv14=>?_))))
 refine tL1 (Zf (xM (h:=xD (h:=xA (h:=ZI (Zm (Zf (xM (h:=xD (h:=xA (h:=?_)))))))))))
 exact Zy (g.1+1,l14,((((g.2.2.set g.1 (⟨((k+4*g.1:Nat):Int),z1.uid,z1.flags,z1.text⟩)).set g.1 (⟨z2.place,((k+4*g.1+1:Nat):Int),z2.flags,z2.text⟩)).set g.1 (⟨z3.place,z3.uid,((k+4*g.1+1+1:Nat):Int),z3.text⟩)).set g.1 (⟨z4.place,z4.uid,z4.flags,ZO (k+4*g.1+1+1+1)⟩))) [0] so2 ⟨rfl,so,by simp only [List.length_set];exact hle,ZjO ht hz1 hz2 hz3 hz4,hv14⟩ t4 rfl
 try simp only [sQ,ne_eq] at g1
 have he:=ZhW ht oz
 have hgi:g.1=xs.length:=by omega
 rw [hgi] at he
 refine ZA (ZP (ZC (Zs (Zm (Za (xM (h:=xA (h:=Ze ?_))))))))
 exact ZeG .ret (.inl rfl) [_] [0] rfl ⟨rfl,trivial⟩ ⟨rfl,_,rfl,by rw [hgi];rfl,by rw [← he];exact hw⟩

theorem Zg9 (q:Option Addr) (cp:Nat) (xs:List DLine) (k m n:Nat) (hmn:m=n) (he:xs=Zcj k n) (hk:k+4*n≤900000000000000) (B:Kn) (hx0:SlK B q cp 4 ZX xs):Z0 (pj J) 21 [.slice q m cp,.int .i64 k] B (.int .i64 ((k+4*n:Nat):Int)):=by
 refine cB 50 Tryz.func21 (h:=?_)
 have hxn:=hx0.len
 have hxl:xs.length=n:=by rw [he];exact ZdH _ _
 refine Za (xA (h:=Zd (Za (xA (h:=Zh (Zv (α:=Nat) [0] (fun g=>[(1,.int .i64 ((k+4*g:Nat):Int)),(5,.int .i64 g)]) [] (fun g=>[]) (fun g Bx=>Bx=B∧g≤n) (fun g=>n - g) 0 t2 rfl (⟨rfl,Nat.zero_le _⟩) (fun g B1 hle1 hI=>?_)))))))
 obtain ⟨rfl,hi⟩:=hI
 refine Zz [(0,_),(1,_),(5,_)] [] t3 rfl (Zd (Za (xM (h:=xM (h:=xV Tryz.underlying35 (h:=ZB (h:=Zb rfl (fun g1=>?_) (fun g1=>?_))))))))
 try simp only [sQ,ne_eq] at g1
 have hx:xs[g]? = some (⟨((k+4*g:Nat):Int),((k+4*g+1:Nat):Int),((k+4*g+1+1:Nat):Int),ZO (k+4*g+1+1+1)⟩:DLine):=by rw [he];exact Zk4 oz
 refine wSk (Zd (Zh (Zd (Za (xM (h:=xM (h:=?_)))))))
 obtain ⟨bb2,oo2,rfl⟩:=hx0.base hx
 obtain ⟨_,⟨rfl,hb3⟩,hc3⟩:=hx0.elem hx
 refine xIx Tryz.underlying35 ZlW (h:=xW Zml (h:=y1 lk3 hc3 0 (h:=xM (h:=Zar (h:=Zb rfl (fun h1=>by simp at h1) (fun h1=>?_))))))
 try simp only [sQ,ne_eq] at h1
 refine wSk (Za (xM (h:=xD (h:=xA (h:=Zd (Za (xM (h:=xM (h:=xIx Tryz.underlying35 ZlW (h:=xW Zmk (h:=y1 lk3 hc3 1 (h:=xM (h:=Zar (h:=Zb rfl (fun h2=>by simp at h2) (fun h2=>?_)))))))))))))))
 try simp only [sQ,ne_eq] at h2
 refine wSk (Za (xM (h:=xD (h:=xA (h:=Zd (Za (xM (h:=xM (h:=xIx Tryz.underlying35 ZlW (h:=xW Zmj (h:=y1 lk3 hc3 2 (h:=xM (h:=Zar (h:=Zb rfl (fun h3=>by simp at h3) (fun h3=>?_)))))))))))))))
 try simp only [sQ,ne_eq] at h3
 refine wSk (Za (xM (h:=xD (h:=xA (h:=Zd (Zd (ZY (same _ _) mo kr ⟨rfl,rfl⟩ (fun _ _=>?_))))))))
 refine aM 0 rfl (h:=aM 1 rfl (h:=aIx 2 rfl Tryz.underlying35 ZlW (h:=aW 3 rfl Zmi (h:=aT 4 rfl (Z9 fun D=>Zn rfl rfl lk9 rfl (hc3 _ 3 _ rfl) r4) (h:=aM 5 rfl (h:=aT 6 rfl (Z9 fun D=>Zaa rfl rfl ZpR rfl (ZaL ((((k+4*g)+1)+1)+1) oz _) r4) (h:=?_)))))))
 refine ZsS 7 rfl (h:=Zw kr kr ?_)
 refine Zm (Zb rfl (fun h4=>by simp at h4) (fun h4=>?_))
 try simp only [sQ,ne_eq] at h4
 refine wSk (Zf (xM (h:=xD (h:=xA (h:=ZI (Zm (Zf (xM (h:=xD (h:=xA (h:=?_)))))))))))
 exact Zy (g+1) [] so2 ⟨rfl,oz⟩ t3 rfl
 try simp only [sQ,ne_eq] at g1
 refine ZA (ZP (ZC (Zs (Zm (Za (xM (h:=xA (h:=Ze ?_))))))))
 exact eR t1 ⟨ZE (by rw [show g=n from by omega]),rfl,rfl⟩

end Go.Proofs.YtbebcagblefhcaaGreatDoor
