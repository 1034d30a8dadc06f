/-
  WHAT THE FUNCTIONS THAT THE LAWS REACH COMPUTE: each function's contract, proved off its printed body (the text is written by program). No condition beyond those that each theorem states.
-/
import Derived.Test.YtnfoidafdcgdbaaGreatDoorC2
namespace Go.Proofs.YtnfoidafdcgdbaaGreatDoor
open Go Go.BL
set_option linter.unusedVariables false
set_option linter.unusedSimpArgs false
set_option maxRecDepth 4000
variable {J : JoinT}
set_option maxHeartbeats 400000 in
theorem Zcs (q:Option Addr) (cp:Nat) (x:DBox) (B:Kn) (hx:SlK B q cp 3 ZJ x.mail):ZM (pj J) 93 [.agg #[.int .i64 x.next,.slice q x.mail.length cp]] B [] (fun v B' Ls=>∃l a c l' a' c',Ls=[l,l']∧v = .tuple #[.agg #[.int .i64 (expunge x).1.next,.slice a (expunge x).1.mail.length c],.slice a' (expunge x).2.length c']∧Z3 B' l a c 150 3 ZJ (expunge x).1.mail∧Z3 B' l' a' c' 3 1 Zbu (expunge x).2):=by
 refine Zc 52 Tryz.func93 rfl rfl rfl (Nat.le_of_ble_eq_true rfl) ?_
 have hxn:=hx.len
 refine Za (xBx [_,_] (h:=fun b1=>xAl [_,_] ZeW (h:=fun b2=>xA (h:=Zw [_,_] rfl (Zm (Za (xL [_,_] ZbN 0 (h:=xR Zvw rfl (ZfU _ _ (⟨x.next,x.mail⟩:DBox) _ hx) (h:=xN (h:=Zd rfl (fun g1=>?_) (fun g1=>?_)))))))))))
 try simp only [sQ,ne_eq] at g1
 refine Za (xB [] [_,_] [_,_] Zm3 ZeW (h:=Ztd (xBs [] [] Tryz.underlying142 sz3 zo3 (h:=fun b4=>?_))))
 rw [expunge,if_neg (by simp [g1])]
 refine xS [_,_] 1 [_,_] ZcC (h:=xA (h:=Zw [_,_,_,_] rfl (Zg (Zs ?_))))
 exact Zaf .ret (.inl rfl) [_,_] [2,3] rfl ⟨⟨_,rfl,.inr ⟨[_,_],ZbN,Zad 1 rfl rfl rfl,rfl⟩⟩,rfl,trivial⟩ ⟨_,none,0,_,_,_,rfl,rfl,Z3.nil,Z3.lit0⟩
 try simp only [sQ,ne_eq] at g1
 have hok:Zbh x=true:=by simpa using g1
 refine Zi (Zf (Za (xW Zcz (h:=x1 lk3 0 (h:=xBs [] [] Tryz.underlying54 ZcW Zgf (h:=fun b5=>xB [(0,_),(1,_)] [_,_] [_,_] Zm3 ZeW (h:=xAl [_,_] ZeW (h:=fun b6=>xS [_,_] 3 [_,_] ZcC (h:=Zw [_,_,_,_] rfl (Za (xBs [] [] Tryz.underlying142 sz3 zo3 (h:=fun b7=>xA (h:=?_)))))))))))))
 refine Zw [_,_,_,_,_] rfl (Zm (Za (xA (h:=Zr (ZU (α:=GEx) [0,1,2,3,4,9] (fun g=>[(5,.slice g.n.a g.n.xs.length g.n.c),(6,.int .i64 g.k)]) [2,3,4] (fun g=>[g.m.l,ZaY b6 [.int .i64 x.next,.slice g.m.a g.m.xs.length g.m.c] 56,g.n.l]) (fun g Bx=>Bx=B∧g.k≤x.mail.length∧g.m.xs=Zcv (x.mail.take g.k)∧g.n.xs=(Zj1 (x.mail.take g.k)).2∧g.n.xs.length≤g.k∧Z3 Bx g.m.l g.m.a g.m.c 150 3 ZJ g.m.xs∧Z3 Bx g.n.l g.n.a g.n.c 3 1 Zbu g.n.xs) (fun g=>x.mail.length - g.k) ⟨0,⟨0,0,_,_,_,[]⟩,⟨0,0,_,_,_,[]⟩⟩ t2 rfl (⟨rfl,Nat.zero_le _,rfl,rfl,Nat.le_refl _,.lit0,.lit0⟩) (fun g B8 hle8 hI=>?_))))))
 obtain ⟨rfl,hk,hm1,hn1,hnl,hv,hw⟩:=hI
 have hml:g.m.xs.length≤g.k:=by rw [hm1];exact ZrD _ _
 refine ZQ [(0,_),(1,_),(2,_),(3,_),(4,_),(5,_),(6,_),(9,_)] [_,_,_,_,_] t8 rfl (Zm (Za (xM (h:=xW ZaU (h:=x1 ZfJ 0 (h:=xV Tryz.underlying54 (h:=Zai (h:=Zd rfl (fun g2=>?_) (fun g2=>?_)))))))))
 try simp only [sQ,ne_eq] at g2
 refine Zi (Zf (Zm (Zr (Za (xW ZaU (h:=x1 ZfJ 0 (h:=xM (h:=?_))))))))
 obtain ⟨m,hm⟩:=Zax (xs:=x.mail) (i:=g.k) om
 obtain ⟨bb10,oo10,rfl⟩:=hx.base hm
 obtain ⟨_,⟨rfl,hb11⟩,hc11⟩:=hx.elem hm
 refine xIx Tryz.underlying54 ZcW (h:=xW ZfB (h:=y1 lk3 hc11 1 (h:=Zn (Zfj (a:=m.flags) (b:=8) (r:=Int.tdiv m.flags 8) rfl rfl rfl rfl oz (Zja (ZfF hok (List.mem_of_getElem? hm)).1 (Int.le_trans (ZfF hok (List.mem_of_getElem? hm)).2 (by decide)) (by decide)) ?_))))
 refine Zn (ZfN (a:=(Int.tdiv m.flags 8)) (b:=2) (r:=Int.tmod (Int.tdiv m.flags 8) 2) rfl rfl rfl rfl (by decide) rfl ?_)
 refine ZF (h:=Zd rfl (fun g3=>?_) (fun g3=>?_))
 try simp only [sQ,ne_eq] at g3
 refine Ze (xM (h:=xW ZaU (h:=x1 ZfJ 3 (h:=xV Tryz.underlying54 (h:=xD (h:=xBs [(0,_)] [_] Tryz.underlying142 sz3 zo3 (h:=fun b12=>Zn (Za8 (z:=((g.m.xs.length:Int)+1)) (R:=Zbu) 4 rfl hw rfl rfl rfl Zu2 ZuB rfl rfl (ZaV.box 5 rfl) rfl rfl (rfl) om (fun l13 p13 c13 hv13=>?_)))))))))
 refine xA (h:=Zz (Zf (Ze (xM (h:=xD (h:=xA (h:=?_)))))))
 exact ZE ⟨g.k+1,⟨0,0,g.m.l,g.m.a,g.m.c,g.m.xs⟩,⟨0,0,l13,p13,c13,(g.n.xs ++ [((g.m.xs.length:Int)+1)])⟩⟩ [0,1,2,3,4] so2 ⟨rfl,so,by simp only [];rw [Ztq hm (by simpa [ZoK] using g3),hm1],by simp only [];rw [Zjn hm,Zc7,if_pos (by simpa [ZoK] using g3),← hn1,Zp2,← hm1];rfl,by simp;omega,hv,hv13⟩ t8 rfl
 try simp only [sQ,ne_eq] at g3
 refine Z9 (keeps _ [0,3] _) mo kr ⟨Kn.le.refl _,Zar.refl _ _⟩ (fun _ _=>?_)
 refine aW 0 rfl ZaU (h:=aT 1 rfl (ZK fun D B L hI=>Zl rfl rfl ZfJ rfl (atL 3 (hI.2.2.1.trans rfl) rfl rfl) r4) (h:=aW 2 rfl ZaU (h:=aT 3 rfl (ZK fun D B L hI=>Zl rfl rfl ZfJ rfl (atL 0 (hI.2.1.trans rfl) rfl rfl) r4) (h:=aM 4 rfl (h:=aIx 5 rfl Tryz.underlying54 ZcW (h:=aT 6 rfl (ZK fun D B L hI=>Zag [_,_,_] rfl rfl Zn5 rfl (Zl1 (hc11.mono hI.1) 0 rfl rfl) r4) (h:=Zv 7 kr rfl kr (Zy (parts:=[(0,_)]) [_,_,_] rfl rfl Tryz.underlying54 ZcW Zgf rfl rfl rfl rfl rfl (fun b14=>?_)))))))))
 refine ⟨⟨Kn.le.refl _,t2⟩,(Zv 8 kr rfl kr (Za8 (z:=⟨m.uid,m.flags,m.text⟩) (R:=ZJ) 2 rfl hv rfl rfl rfl Zvt Zvr rfl rfl (ZaV.box 5 rfl) rfl rfl (⟨rfl,by first | assumption | omega | (simp;done) | (simp;omega)⟩) om (fun l15 p15 c15 hv15=>?_)))⟩
 refine ⟨⟨Kn.le.refl _,t2⟩,(aW 9 rfl ZaU (h:=ZV 10 kr rfl kr kr kr (ZO [_] 3 [_,_] rfl rfl ZvV rfl rfl rfl rfl rfl rfl rfl rfl ?_)))⟩
 refine Zz (Zf (Ze (xM (h:=xD (h:=xA (h:=?_))))))
 exact ZE ⟨g.k+1,⟨0,0,l15,p15,c15,(g.m.xs ++ [⟨m.uid,m.flags,m.text⟩])⟩,⟨0,0,g.n.l,g.n.a,g.n.c,g.n.xs⟩⟩ [0,1,2,3,4] so2 ⟨rfl,so,by simp only [];rw [ZrC hm (by simpa [ZoK] using g3),hm1],by simp only [];rw [Zjn hm,Zc7,if_neg (by simpa [ZoK] using g3),hn1],so,hv15,hw⟩ t8 rfl
 try simp only [sQ,ne_eq] at g2
 have hmf0:g.m.xs=Zcv x.mail:=by rw [hm1,List.take_of_length_le oz]
 have hnf0:g.n.xs=(Zj1 x.mail).2:=by rw [hn1,List.take_of_length_le oz]
 rw [expunge,if_pos (by simpa using g1),← hmf0,← hnf0]
 refine ZY (Zal (Z6 (ZN (Zf (Za (xL [_,_] ZbN 3 (h:=xM (h:=xS [_,_] 1 [_,_] ZcC (h:=xA (h:=Zw [_,_,_,_,_] rfl (Zg ?_)))))))))))
 exact Zaf .ret (.inl rfl) [_,_] [2,4] rfl ⟨⟨_,rfl,.inr ⟨[_,_],ZbN,Zad 1 rfl rfl rfl,rfl⟩⟩,rfl,trivial⟩ ⟨_,_,_,_,_,_,rfl,rfl,hv,hw⟩

set_option maxHeartbeats 400000 in
theorem ZhC (q:Option Addr) (cp:Nat) (xs:List DSpan) (B:Kn) (hs:SlK B q cp 2 Za6 xs):Za1 (pj J) 161 [.slice q xs.length cp] B (.bool (ZhE xs)):=by
 refine Zc 29 Tryz.func161 rfl rfl rfl (Nat.le_of_ble_eq_true rfl) ?_
 have hsn:=hs.len
 refine Za (xA (h:=Zm (Za (xA (h:=Zr (ZU (α:=Nat) [0] (fun k=>[(3,.int .i64 k)]) [] (fun k=>[]) (fun k Bx=>Bx=B∧k≤xs.length∧∀y,y∈xs.take k→ZkG y=true) (fun k=>xs.length - k) 0 t1 rfl (⟨rfl,Nat.zero_le _,by simp⟩) (fun k B1 hle1 hI=>?_)))))))
 obtain ⟨rfl,hk,hall⟩:=hI
 refine ZQ [(0,_),(3,_)] [] t2 rfl (Zm (Za (xM (h:=xM (h:=xV Tryz.underlying200 (h:=Zai (h:=Zd rfl (fun g1=>?_) (fun g1=>?_))))))))
 try simp only [sQ,ne_eq] at g1
 refine Zi (Zf (Zm (Zr (Za (xM (h:=xM (h:=?_)))))))
 obtain ⟨m,hm⟩:=Zax (xs:=xs) (i:=k) om
 obtain ⟨bb3,oo3,rfl⟩:=hs.base hm
 obtain ⟨_,rfl,hc4⟩:=hs.elem hm
 refine xIx Tryz.underlying200 Zo8 (h:=xW Zqa (h:=y1 lk3 hc4 0 (h:=xR Zjt rfl (Zch _ _ _ _) (h:=xN (h:=xM (h:=Zt (d:=17) rfl (fun g2=>?_) (fun g2=>?_)))))))
 try simp only [sQ,ne_eq] at g2
 refine xP (h:=xP (h:=xP (h:=xP (h:=xP (h:=xP (h:=xP (h:=xT (h:=Zd (t:=true) rfl (fun _=>Za (xA (h:=Zg (ZI (Zs (Z7 (ZI (Zs ?_)))))))) (fun h=>Bool.noConfusion h)))))))))
 exact ZW .ret (.inl rfl) [_] t1 ⟨Zp (by rw [ZhE,ZcN hm (by simp only [ZkG,g2,Bool.false_and]),Bool.false_and]),rfl,rfl⟩
 try simp only [sQ,ne_eq] at g2
 refine xM (h:=xM (h:=xIx Tryz.underlying200 Zo8 (h:=xW Zp9 (h:=y1 lk3 hc4 1 (h:=xR Zjt rfl (Zch _ _ _ _) (h:=xN (h:=xF (h:=Zd rfl (fun g3=>?_) (fun g3=>?_)))))))))
 try simp only [sQ,ne_eq] at g3
 refine Za (xA (h:=Zg (ZI (Zs (Z7 (ZI (Zs ?_)))))))
 exact ZW .ret (.inl rfl) [_] t1 ⟨Zp (by rw [ZhE,ZcN hm (by simp only [ZkG,g3,Bool.and_false]),Bool.false_and]),rfl,rfl⟩
 try simp only [sQ,ne_eq] at g3
 refine Zi (Zz (Zf (Ze (xM (h:=xD (h:=xA (h:=?_)))))))
 exact ZE (k+1) [] so2 ⟨rfl,oz,Zbl hm hall (by simp only [ZkG];rw [show (decide (0≤m.low) && decide (m.low≤99))=true by simpa only [Bool.not_eq_false] using g2,show (decide (0≤m.high) && decide (m.high≤99))=true by simpa only [Bool.not_eq_false] using g3];rfl)⟩ t2 rfl
 try simp only [sQ,ne_eq] at g1
 refine ZY (Zal (Z6 (ZN (Zf (Za (xM (h:=xV Tryz.underlying200 (h:=xR Zjt rfl (Zch _ _ _ _) (h:=xA (h:=Zg ?_))))))))))
 exact ZW .ret (.inl rfl) [_] t1 ⟨Zp (by rw [ZhE,Zek (ZbD oz hall),Bool.true_and,Bool.eq_iff_iff];simp;try omega),rfl,rfl⟩

set_option maxHeartbeats 400000 in
theorem Ztm (q:Option Addr) (cp:Nat) (xs:List DSpan) (last n:Int) (B:Kn) (hs:SlK B q cp 2 Za6 xs):Za1 (pj J) 170 [.slice q xs.length cp,.int .i64 last,.int .i64 n] B (.bool (ZfX xs last n)):=by
 refine Zc 40 Tryz.func170 rfl rfl rfl (Nat.le_of_ble_eq_true rfl) ?_
 have hsn:=hs.len
 refine Za (xA (h:=Zm (Za (xA (h:=Zr (ZU (α:=Nat) [0,1,2] (fun k=>[(7,.int .i64 k)]) [] (fun k=>[]) (fun k Bx=>Bx=B∧k≤xs.length∧(xs.take k).any (ZdM last n)=false) (fun k=>xs.length - k) 0 t1 rfl (⟨rfl,Nat.zero_le _,rfl⟩) (fun k B1 hle1 hI=>?_)))))))
 obtain ⟨rfl,hk,hna⟩:=hI
 refine ZQ [(0,_),(1,_),(2,_),(7,_)] [] t4 rfl (Zm (Za (xM (h:=xM (h:=xV Tryz.underlying200 (h:=Zai (h:=Zd rfl (fun g1=>?_) (fun g1=>?_))))))))
 try simp only [sQ,ne_eq] at g1
 refine Zi (Zf (Zm (Zr (Za (xM (h:=xM (h:=?_)))))))
 obtain ⟨m,hm⟩:=Zax (xs:=xs) (i:=k) om
 obtain ⟨bb3,oo3,rfl⟩:=hs.base hm
 obtain ⟨_,rfl,hc4⟩:=hs.elem hm
 refine xIx Tryz.underlying200 Zo8 (h:=xW Zqa (h:=y1 lk3 hc4 0 (h:=xA (h:=Za (xM (h:=xM (h:=xIx Tryz.underlying200 Zo8 (h:=xW Zp9 (h:=y1 lk3 hc4 1 (h:=xA (h:=Zm (Za ?_))))))))))))
 refine xM (h:=ZF (h:=Zd rfl (fun g2=>?_) (fun g2=>?_)))
 try simp only [sQ,ne_eq] at g2
 refine Ze (xM (h:=xA (h:=Zf (Zm (Za (xM (h:=ZF (h:=Zd rfl (fun g3=>?_) (fun g3=>?_)))))))))
 try simp only [sQ,ne_eq] at g3
 refine Ze (xM (h:=xA (h:=Zf (Za (xM (h:=xM (h:=xM (h:=Zn (ZiY rfl rfl rfl rfl (xM (h:=xM (h:=Zn (ZmL rfl rfl rfl rfl (xR Zjt rfl (Zch _ _ _ _) (h:=?_)))))))))))))))
 refine Zd rfl (fun g4=>?_) (fun g4=>?_)
 try simp only [sQ,ne_eq] at g4
 refine Za (xA (h:=Zg (ZI (Zs (Z7 (ZI (Zs ?_)))))))
 exact ZW .ret (.inl rfl) [_] t1 ⟨Zp (by symm;rw [ZfX,List.any_eq_true];exact ⟨m,List.mem_of_getElem? hm,by simp only [ZdM,g2,g3,if_true,if_false];simpa using g4⟩),rfl,rfl⟩
 try simp only [sQ,ne_eq] at g4
 refine Zi (Zz (Zf (Ze (xM (h:=xD (h:=xA (h:=?_)))))))
 exact ZE (k+1) [] so2 ⟨rfl,oz,by rw [ZdK hm,hna];simp only [ZdM,g2,g3,if_true,if_false];simpa using g4⟩ t4 rfl
 try simp only [sQ,ne_eq] at g3
 refine Zi (Zf (Za (xM (h:=xM (h:=xM (h:=Zn (ZiY rfl rfl rfl rfl (xM (h:=xM (h:=Zn (ZmL rfl rfl rfl rfl (xR Zjt rfl (Zch _ _ _ _) (h:=Zd rfl (fun g4=>?_) (fun g4=>?_))))))))))))))
 try simp only [sQ,ne_eq] at g4
 refine Za (xA (h:=Zg (ZI (Zs (Z7 (ZI (Zs ?_)))))))
 exact ZW .ret (.inl rfl) [_] t1 ⟨Zp (by symm;rw [ZfX,List.any_eq_true];exact ⟨m,List.mem_of_getElem? hm,by simp only [ZdM,g2,g3,if_true,if_false];simpa using g4⟩),rfl,rfl⟩
 try simp only [sQ,ne_eq] at g4
 refine Zi (Zz (Zf (Ze (xM (h:=xD (h:=xA (h:=?_)))))))
 exact ZE (k+1) [] so2 ⟨rfl,oz,by rw [ZdK hm,hna];simp only [ZdM,g2,g3,if_true,if_false];simpa using g4⟩ t4 rfl
 try simp only [sQ,ne_eq] at g2
 refine Zi (Zf (Zm (Za (xM (h:=ZF (h:=Zd rfl (fun g3=>?_) (fun g3=>?_)))))))
 try simp only [sQ,ne_eq] at g3
 refine Ze (xM (h:=xA (h:=Zf (Za (xM (h:=xM (h:=xM (h:=Zn (ZiY rfl rfl rfl rfl (xM (h:=xM (h:=Zn (ZmL rfl rfl rfl rfl (xR Zjt rfl (Zch _ _ _ _) (h:=?_)))))))))))))))
 refine Zd rfl (fun g4=>?_) (fun g4=>?_)
 try simp only [sQ,ne_eq] at g4
 refine Za (xA (h:=Zg (ZI (Zs (Z7 (ZI (Zs ?_)))))))
 exact ZW .ret (.inl rfl) [_] t1 ⟨Zp (by symm;rw [ZfX,List.any_eq_true];exact ⟨m,List.mem_of_getElem? hm,by simp only [ZdM,g2,g3,if_true,if_false];simpa using g4⟩),rfl,rfl⟩
 try simp only [sQ,ne_eq] at g4
 refine Zi (Zz (Zf (Ze (xM (h:=xD (h:=xA (h:=?_)))))))
 exact ZE (k+1) [] so2 ⟨rfl,oz,by rw [ZdK hm,hna];simp only [ZdM,g2,g3,if_true,if_false];simpa using g4⟩ t4 rfl
 try simp only [sQ,ne_eq] at g3
 refine Zi (Zf (Za (xM (h:=xM (h:=xM (h:=Zn (ZiY rfl rfl rfl rfl (xM (h:=xM (h:=Zn (ZmL rfl rfl rfl rfl (xR Zjt rfl (Zch _ _ _ _) (h:=Zd rfl (fun g4=>?_) (fun g4=>?_))))))))))))))
 try simp only [sQ,ne_eq] at g4
 refine Za (xA (h:=Zg (ZI (Zs (Z7 (ZI (Zs ?_)))))))
 exact ZW .ret (.inl rfl) [_] t1 ⟨Zp (by symm;rw [ZfX,List.any_eq_true];exact ⟨m,List.mem_of_getElem? hm,by simp only [ZdM,g2,g3,if_true,if_false];simpa using g4⟩),rfl,rfl⟩
 try simp only [sQ,ne_eq] at g4
 refine Zi (Zz (Zf (Ze (xM (h:=xD (h:=xA (h:=?_)))))))
 exact ZE (k+1) [] so2 ⟨rfl,oz,by rw [ZdK hm,hna];simp only [ZdM,g2,g3,if_true,if_false];simpa using g4⟩ t4 rfl
 try simp only [sQ,ne_eq] at g1
 refine ZY (Zal (Z6 (ZN (Zf (Za (xA (h:=Zg ?_)))))))
 exact ZW .ret (.inl rfl) [_] t1 ⟨Zp (by rw [ZfX,← ZqG (b:=false) hna.symm oz]),rfl,rfl⟩

set_option maxHeartbeats 400000 in
theorem ZnJ (q:Option Addr) (cp:Nat) (xs:List DSpan) (last:Int) (hl0:0≤last) (B:Kn) (hs:SlK B q cp 2 Za6 xs):ZM (pj J) 168 [.slice q xs.length cp,.int .i64 last] B [] (fun v B' Ls=>Ls=[]∧∃a c,v = .slice a (ZaC xs last).length c∧SlK B' a c 1 Zbu (ZaC xs last)):=by
 refine Zc 28 Tryz.func168 rfl rfl rfl (Nat.le_of_ble_eq_true rfl) ?_
 have hsn:=hs.len
 refine Za (xA (h:=Za (xBs [] [] Tryz.underlying142 sz3 zo3 (h:=fun b1=>xA (h:=Zw [_] rfl (Zm (Za (xA (h:=Zr (ZU (α:=Gh Int) [0,1,4] (fun g=>[(5,.slice g.a g.xs.length g.c),(6,.int .i64 ((g.k+1:Nat):Int))]) [0] (fun g=>[g.l]) (fun g Bx=>Bx=B∧g.k≤(min last 99).toNat∧g.xs.length≤g.k∧(0<g.k→ZhE xs=true)∧g.xs=ZcQ xs (min last 99) g.k∧Z3 Bx g.l g.a g.c 3 1 Zbu g.xs) (fun g=>(min last 99).toNat - g.k) ⟨0,0,_,_,_,[]⟩ t2 rfl (⟨rfl,Nat.zero_le _,Nat.le_refl _,by simp,rfl,.lit0⟩) (fun g B2 hle2 hI=>?_)))))))))))
 obtain ⟨rfl,hk,hgl,hok,hnt,hv⟩:=hI
 refine ZQ [(0,_),(1,_),(4,_),(5,_),(6,_)] [_] t5 rfl (Zm (Za (xM (h:=xM (h:=Zn (ZiY rfl rfl rfl rfl (ZcB (h:=xM (h:=Zt (d:=12) rfl (fun g1=>?_) (fun g1=>?_))))))))))
 try simp only [sQ,ne_eq] at g1
 refine xM (h:=xR ZtQ rfl (ZhC _ _ xs _ hs) (h:=xT (h:=Zd rfl (fun g2=>?_) (fun g2=>?_))))
 try simp only [sQ,ne_eq] at g2
 refine Zi (Zf (Zm (Zr (Za (xM (h:=xM (h:=Zn (ZiY rfl rfl rfl rfl (xM (h:=xR Zwj rfl (Ztm _ _ xs (min last 99) (↑(g.k+1)) _ hs) (h:=Zd rfl (fun g3=>?_) (fun g3=>?_))))))))))))
 try simp only [sQ,ne_eq] at g3
 refine Ze (xM (h:=xM (h:=xBs [(0,_)] [_] Tryz.underlying142 sz3 zo3 (h:=fun b5=>Zn (Za8 (z:=(↑(g.k+1):Int)) (R:=Zbu) 0 rfl hv rfl rfl rfl Zu2 ZuB rfl rfl (ZaV.box 1 rfl) rfl rfl (rfl) om (fun l6 p6 c6 hv6=>?_))))))
 refine xA (h:=Zz (Zf (Ze (xM (h:=xD (h:=xA (h:=?_)))))))
 exact ZE ⟨g.k+1,0,l6,p6,c6,(g.xs ++ [(↑(g.k+1):Int)])⟩ [0] so2 ⟨rfl,so,by simp;omega,fun _=>g2,by simp only [];rw [ZnY (by exact_mod_cast g3),hnt],hv6⟩ t5 rfl
 try simp only [sQ,ne_eq] at g3
 refine Zi (Zz (Zf (Ze (xM (h:=xD (h:=xA (h:=?_)))))))
 exact ZE ⟨g.k+1,0,g.l,g.a,g.c,g.xs⟩ [0] so2 ⟨rfl,so,so,fun _=>g2,by simp only [];rw [Zpr (by exact_mod_cast g3),hnt],hv⟩ t5 rfl
 try simp only [sQ,ne_eq] at g2
 refine ZY (Zal (Z6 (ZN (Zf (Za (xM (h:=ZZ 0 rfl hv Zbu.mono om3 (fun B7 hle7 hr7=>?_))))))))
 replace hs:=hs.mono Za6.mono hle7
 have hr7n:=hr7.len
 refine xA (h:=Zw [_] rfl ?_)
 have hne:ZaC xs last=g.xs:=by
    rw [ZaC,if_neg (by simp [g2]),hnt]
    have:g.k=0:=by
      rcases Nat.eq_zero_or_pos g.k with h | h
      · exact h
      · rw [hok h] at g2;cases g2
    rw [this];rfl
 rw [hne]
 refine Zg ?_
 exact Zaf .ret (.inl rfl) [_] [] rfl t1 ⟨rfl,_,_,rfl,hr7⟩
 try simp only [sQ,ne_eq] at g1
 refine xP (h:=xP (h:=xF (h:=Zd (t:=false) rfl (fun h=>Bool.noConfusion h) (fun _=>ZY (Zal (Z6 (ZN (Zf (Za (xM (h:=ZZ 0 rfl hv Zbu.mono om3 (fun B8 hle8 hr8=>?_))))))))))))
 replace hs:=hs.mono Za6.mono hle8
 have hr8n:=hr8.len
 refine xA (h:=Zw [_] rfl ?_)
 have hne:ZaC xs last=g.xs:=by
    have hk2:g.k=(min last 99).toNat:=by omega
    rw [ZaC]
    rcases Nat.eq_zero_or_pos g.k with h | h
    · rw [← hk2,hnt,h];split <;> rfl
    · rw [if_pos (hok h),hnt,hk2]
 rw [hne]
 refine Zg ?_
 exact Zaf .ret (.inl rfl) [_] [] rfl t1 ⟨rfl,_,_,rfl,hr8⟩

set_option maxHeartbeats 400000 in
theorem Zmh (q1 q2 q3:Option Addr) (c1 c2 c3:Nat) (x:DHost) (s:DSess) (hs1:s.user.length≤2000000) (hs2:s.owner.length≤2000000) (hs3:s.name.length≤2000000) (r:Int) (hrr:Zhn x.folders) (h1:0<r) (B:Kn) (hu:SlK B q1 c1 3 Zh x.users) (hf:SlK B q2 c2 5 Zb x.folders):Za1 (pj J) 162 [.agg #[str x.domain,.slice q1 x.users.length c1,.slice q2 x.folders.length c2,.int .i64 x.queue.next,.slice q3 x.queue.items.length c3],.agg #[str s.user,str s.owner,str s.name],.int .i64 r] B (.tuple #[.int .i64 (atF x s r).1,.int .i64 (atF x s r).2]):=by
 refine Zc 32 Tryz.func162 rfl rfl rfl (Nat.le_of_ble_eq_true rfl) ?_
 have hun:=hu.len
 have hfn:=hf.len
 have hix:=ZcG (inF s.owner s.name) x.folders
 refine Za (xBx [_,_,_,_,_] (h:=fun b1=>xBx [_,_,_] (h:=fun b2=>xA (h:=xA (h:=Zw [_,_] rfl (Za (xL [_,_,_,_,_] Z2 0 (h:=xW ZuS (h:=x1 lk9 1 (h:=xW ZuR (h:=x1 lk9 1 (h:=xR ZsJ rfl (ZcR _ _ _ _ _ _ x s.owner s.name om2 om2 _ hf) (h:=?_)))))))))))))
 refine xA (h:=Za (xL [_,_,_,_,_] Z2 0 (h:=xW Zfc (h:=x1 lk9 1 (h:=xM (h:=xR Zt7 rfl (Zdc _ _ _ _ _ _ x s.user (ZaD (inF s.owner s.name) x.folders) 2 oz hrr oz _ hu hf) (h:=?_)))))))
 refine xA (h:=Zm (Za (xM (h:=ZcZ (h:=Zd rfl (fun g1=>?_) (fun g1=>?_))))))
 try simp only [sQ,ne_eq] at g1
 refine Za (xM (h:=xM (h:=xA (h:=xA (h:=Zg (Zs ?_))))))
 exact ZW .ret (.inl rfl) [_,_] t2 ⟨by rw [atF,if_pos g1];rfl,rfl,rfl⟩
 try simp only [sQ,ne_eq] at g1
 refine Zi (Zf (Za (xM (h:=xL [_,_,_,_,_] Z2 0 (h:=xW Zfc (h:=x1 lk9 1 (h:=xM (h:=xM (h:=xR Zt7 rfl (Zdc _ _ _ _ _ _ x s.user (ZaD (inF s.owner s.name) x.folders) r oz hrr oz _ hu hf) (h:=?_))))))))))
 refine xA (h:=xA (h:=Zg ?_))
 exact ZW .ret (.inl rfl) [_,_] t2 ⟨by rw [atF,if_neg (fun h=>h g1)];rfl,rfl,rfl⟩

set_option maxHeartbeats 400000 in
theorem ZjS (q:Option Addr) (cp:Nat) (x:DBox) (q2:Option Addr) (cp2:Nat) (xs:List DSpan) (B:Kn) (hx:SlK B q cp 3 ZJ x.mail) (hs:SlK B q2 cp2 2 Za6 xs):ZM (pj J) 164 [.agg #[.int .i64 x.next,.slice q x.mail.length cp],.slice q2 xs.length cp2] B [] (fun v B' Ls=>Ls=[]∧∃a c,v = .slice a (ZaC xs x.mail.length).length c∧SlK B' a c 1 Zbu (ZaC xs x.mail.length)):=by
 refine Zc 10 Tryz.func164 rfl rfl rfl (Nat.le_of_ble_eq_true rfl) ?_
 have hxn:=hx.len
 refine Za (xBx [_,_] (h:=fun b1=>xA (h:=Zw [_] rfl (Za (xM (h:=xW ZaU (h:=x1 ZfJ 0 (h:=xV Tryz.underlying54 (h:=Zn (Zav rfl rfl Zwk rfl (ZnJ _ _ xs ↑x.mail.length om2 _ hs) ?_))))))))))
 intro v2 B2 hle2
 rintro ⟨a2,c2,rfl,hs2⟩
 replace hx:=hx.mono ZJ.mono hle2
 replace hs:=hs.mono Za6.mono hle2
 have hs2n:=hs2.len
 refine xA (h:=Zg ?_)
 exact Zaf .ret (.inl rfl) [_] [] rfl t1 ⟨rfl,_,_,rfl,hs2⟩

set_option maxHeartbeats 800000 in
theorem ZlX (q1 q2 q3:Option Addr) (c1 c2 c3:Nat) (x:DHost) (s:DSess) (hs1:s.user.length≤2000000) (hs2:s.owner.length≤2000000) (hs3:s.name.length≤2000000) (q4:Option Addr) (c4:Nat) (set:List DSpan) (how fl:Int) (hd:x.domain.length≤2000000) (B:Kn) (hu:SlK B q1 c1 3 Zh x.users) (hf:SlK B q2 c2 5 Zb x.folders) (hi:SlK B q3 c3 4 Zj x.queue.items) (hs:SlK B q4 c4 2 Za6 set):ZM (pj J) 142 [.agg #[str x.domain,.slice q1 x.users.length c1,.slice q2 x.folders.length c2,.int .i64 x.queue.next,.slice q3 x.queue.items.length c3],.agg #[str s.user,str s.owner,str s.name],.slice q4 set.length c4,.int .i64 how,.int .i64 fl] B [] (fun v B' Ls=>Ls=[]∧∃p1 d1 p2 d2 p3 d3,v = .tuple #[.agg #[str (Zb7 x s set how fl).1.domain,.slice p1 (Zb7 x s set how fl).1.users.length d1,.slice p2 (Zb7 x s set how fl).1.folders.length d2,.int .i64 (Zb7 x s set how fl).1.queue.next,.slice p3 (Zb7 x s set how fl).1.queue.items.length d3],.int .i64 (Zb7 x s set how fl).2]∧SlK B' p1 d1 3 Zh (Zb7 x s set how fl).1.users∧SlK B' p2 d2 5 Zb (Zb7 x s set how fl).1.folders∧SlK B' p3 d3 4 Zj (Zb7 x s set how fl).1.queue.items∧(Zb7 x s set how fl).1.domain.length≤2000000):=by
 refine Zc 75 Tryz.func142 rfl rfl rfl (Nat.le_of_ble_eq_true rfl) ?_
 have hun:=hu.len
 have hfn:=hf.len
 have hin:=hi.len
 have hsn:=hs.len
 have hix:=ZcG (inF s.owner s.name) x.folders
 refine Za (xBx [_,_,_,_,_] (h:=fun b1=>xBx [_,_,_] (h:=fun b2=>xAl [_,_,_,_,_] Zba (h:=fun b3=>xA (h:=Zw [_,_,_] rfl (Zm (Za (xL [_,_,_,_,_] Z2 0 (h:=xR Zqn rfl (Zbm _ _ _ _ _ _ x om2 _ hu hf hi) (h:=?_))))))))))
 refine xN (h:=xM (h:=Zt (d:=20) rfl (fun g1=>?_) (fun g1=>?_)))
 try simp only [sQ,ne_eq] at g1
 rw [Zb7,if_pos (by simp [g1])]
 refine xP (h:=xP (h:=xP (h:=xT (h:=xM (h:=xP (h:=xP (h:=xP (h:=xT (h:=xM (h:=xP (h:=xP (h:=xP (h:=?_)))))))))))))
 refine xT (h:=Zd (t:=true) rfl (fun _=>Za (xB [] [_,_,_,_,_] [_,_,_,_,_] ZdV Zba (h:=xS [_,_,_,_,_] 2 [_,_,_,_,_] Zaw (h:=xA (h:=Zw [_,_,_] rfl (Zg (Zs ?_))))))) (fun h=>Bool.noConfusion h))
 exact Zaf .ret (.inl rfl) [_,_] [] rfl ⟨⟨_,rfl,.inr ⟨[_,_,_,_,_],Z2,Zad 2 rfl rfl rfl,rfl⟩⟩,rfl,trivial⟩ ⟨rfl,none,0,none,0,none,0,rfl,SlK.nil,SlK.nil,SlK.nil,by simp [Za4]⟩
 try simp only [sQ,ne_eq] at g1
 refine xM (h:=xR ZtQ rfl (ZhC _ _ set _ hs) (h:=xN (h:=xF (h:=xM (h:=Zt (d:=25) rfl (fun g2=>?_) (fun g2=>?_))))))
 try simp only [sQ,ne_eq] at g2
 rw [Zb7,if_pos (by simp [g2])]
 refine xP (h:=xP (h:=xP (h:=xT (h:=xM (h:=xP (h:=xP (h:=xP (h:=xT (h:=Zd (t:=true) rfl (fun _=>Za (xB [] [_,_,_,_,_] [_,_,_,_,_] ZdV Zba (h:=xS [_,_,_,_,_] 2 [_,_,_,_,_] Zaw (h:=?_)))) (fun h=>Bool.noConfusion h))))))))))
 refine xA (h:=Zw [_,_,_] rfl (Zg (Zs ?_)))
 exact Zaf .ret (.inl rfl) [_,_] [] rfl ⟨⟨_,rfl,.inr ⟨[_,_,_,_,_],Z2,Zad 2 rfl rfl rfl,rfl⟩⟩,rfl,trivial⟩ ⟨rfl,none,0,none,0,none,0,rfl,SlK.nil,SlK.nil,SlK.nil,by simp [Za4]⟩
 try simp only [sQ,ne_eq] at g2
 refine xM (h:=xR Zqo rfl (ZeH _ _) (h:=xN (h:=xF (h:=xM (h:=Zt (d:=30) rfl (fun g3=>?_) (fun g3=>?_))))))
 try simp only [sQ,ne_eq] at g3
 rw [Zb7,if_pos (fun h=>by have:=h.2.2.1;simp only [ZaQ,g3] at this;cases this)]
 refine xP (h:=xP (h:=xP (h:=xT (h:=Zd (t:=true) rfl (fun _=>Za (xB [] [_,_,_,_,_] [_,_,_,_,_] ZdV Zba (h:=xS [_,_,_,_,_] 2 [_,_,_,_,_] Zaw (h:=xA (h:=Zw [_,_,_] rfl (Zg (Zs ?_))))))) (fun h=>Bool.noConfusion h)))))
 exact Zaf .ret (.inl rfl) [_,_] [] rfl ⟨⟨_,rfl,.inr ⟨[_,_,_,_,_],Z2,Zad 2 rfl rfl rfl,rfl⟩⟩,rfl,trivial⟩ ⟨rfl,none,0,none,0,none,0,rfl,SlK.nil,SlK.nil,SlK.nil,by simp [Za4]⟩
 try simp only [sQ,ne_eq] at g3
 refine xM (h:=xR Zjt rfl (Zch _ _ _ _) (h:=xN (h:=xF (h:=Zd rfl (fun g4=>?_) (fun g4=>?_)))))
 try simp only [sQ,ne_eq] at g4
 rw [Zb7,if_pos (fun h=>by have:=h.2.2.2;simp only [ZjY,g4] at this;cases this)]
 refine Za (xB [] [_,_,_,_,_] [_,_,_,_,_] ZdV Zba (h:=xS [_,_,_,_,_] 2 [_,_,_,_,_] Zaw (h:=xA (h:=Zw [_,_,_] rfl (Zg (Zs ?_))))))
 exact Zaf .ret (.inl rfl) [_,_] [] rfl ⟨⟨_,rfl,.inr ⟨[_,_,_,_,_],Z2,Zad 2 rfl rfl rfl,rfl⟩⟩,rfl,trivial⟩ ⟨rfl,none,0,none,0,none,0,rfl,SlK.nil,SlK.nil,SlK.nil,by simp [Za4]⟩
 try simp only [sQ,ne_eq] at g4
 have hok:ZA x=true:=by simpa using g1
 have hrr:=ZbV hok
 have hnn : ¬ ¬ (ZA x=true∧ZhE set=true∧ZaQ fl=true∧ZjY how=true):=fun h=>h ⟨hok,by simpa using g2,by simpa only [ZaQ,Bool.not_eq_false] using g3,by simpa only [ZjY,Bool.not_eq_false] using g4⟩
 refine Zi (Zf (Za (xL [_,_,_,_,_] Z2 0 (h:=xL [_,_,_] Zgo 1 (h:=xR ZtP rfl (Zmh _ _ _ _ _ _ x s om2 om2 om2 4 hrr oz _ hu hf) (h:=?_))))))
 refine xM (h:=xE (h:=xE (h:=xA (h:=xA (h:=Za (xL [_,_,_,_,_] Z2 0 (h:=Zn (Zac rfl rfl Znp rfl (Zbd _ _ _ _ _ _ x _ hu hf hi) ?_))))))))
 rintro _ B9 _ hle9 ⟨l9,a9,c9,q19,c19,q39,c39,rfl,rfl,hu9,hs9,hi9⟩
 replace hu:=hu.mono Zh.mono hle9
 replace hf:=hf.mono Zb.mono hle9
 replace hi:=hi.mono Zj.mono hle9
 replace hs:=hs.mono Za6.mono hle9
 have hu9n:=hu9.len
 have hi9n:=hi9.len
 refine xAl [_,_,_,_,_] Zba (h:=fun b10=>xS [_,_,_,_,_] 4 [_,_,_,_,_] Zaw (h:=Zw [_,_,_,_,_] rfl (Zm (Za (xM (h:=ZcZ (h:=Zd rfl (fun g5=>?_) (fun g5=>?_))))))))
 try simp only [sQ,ne_eq] at g5
 refine Za (xL [_,_,_,_,_] Z2 4 (h:=ZZ 3 rfl hs9 Zb.mono om3 (fun B11 hle11 hr11=>?_)))
 replace hu:=hu.mono Zh.mono hle11
 replace hf:=hf.mono Zb.mono hle11
 replace hi:=hi.mono Zj.mono hle11
 replace hs:=hs.mono Za6.mono hle11
 replace hu9:=hu9.mono Zh.mono hle11
 replace hi9:=hi9.mono Zj.mono hle11
 have hr11n:=hr11.len
 refine xM (h:=?_)
 rw [Zb7,if_neg hnn,if_pos g5]
 refine xS [_,_,_,_,_] 2 [_,_,_,_,_] Zaw (h:=xA (h:=Zw [_,_,_,_,_] rfl (Zg (Zs ?_))))
 exact Zaf .ret (.inl rfl) [_,_] [] rfl ⟨⟨_,rfl,.inr ⟨[_,_,_,_,_],Z2,Zad 2 rfl rfl rfl,rfl⟩⟩,rfl,trivial⟩ ⟨rfl,_,_,_,_,_,_,(by first | rfl | (simp only [DHost.withFolders,List.length_set];rfl)),hu9,hr11,hi9,by first | assumption | (rw [ZS.2.2.1];assumption)⟩
 try simp only [sQ,ne_eq] at g5
 obtain ⟨hat,hk0,_,_,_⟩:=Zhj g5
 obtain ⟨f,hf0⟩ :∃f,x.folders[(atF x s 4).1.toNat]? = some f:=⟨_,List.getElem?_eq_getElem oz⟩
 have hfb:Zbh (⟨f.next,f.mail⟩:DBox)=true:=ZbY (Zbq hok hf0)
 have hse:Zb7 x s set how fl=(x.withFolders (x.folders.set (atF x s 4).1.toNat (f.withBox (Zbf ⟨f.next,f.mail⟩ (ZaC set f.mail.length) how fl).1)),0):=by rw [Zb7,if_neg hnn,if_neg (fun h=>h g5),Zdf hf0,ZhF hf0];rfl
 refine Zi (Zf (Zm (Z9 (keeps _ [0,3] _) mo kr ⟨Kn.le.refl _,Zar.refl _ _⟩ (fun _ _=>?_))))
 refine aW 0 rfl Z0 (h:=aT 1 rfl (ZK fun D B L hI=>Zl rfl rfl Zcy rfl (atL 0 (hI.2.1.trans rfl) rfl rfl) r4) (h:=aM 2 rfl (h:=?_)))
 obtain ⟨bb12,oo12,rfl⟩:=hf.base hf0
 obtain ⟨_,⟨qg13,cg13,qm13,cm13,rfl,hg13,hm13,hb13,hb13b⟩,hc13⟩:=hf.elem hf0
 have hg13n:=hg13.len
 have hm13n:=hm13.len
 have hm13s:=Z4 hm13
 refine aIx 3 rfl Tryz.underlying24 Zbj (h:=aW 4 rfl Zcm (h:=aT 5 rfl (ZK fun D B L hI=>Zag [_,_] rfl rfl ZbN rfl (Zl1 (hc13.mono hI.1) 3 rfl rfl) r4) (h:=aW 6 rfl Z0 (h:=aT 7 rfl (ZK fun D B L hI=>Zl rfl rfl Zcy rfl (atL 0 (hI.2.1.trans rfl) rfl rfl) r4) (h:=aM 8 rfl (h:=aIx 9 rfl Tryz.underlying24 Zbj (h:=aW 10 rfl Zcm (h:=aT 11 rfl (ZK fun D B L hI=>Zag [_,_] rfl rfl ZbN rfl (Zl1 (hc13.mono hI.1) 3 rfl rfl) r4) (h:=aM 12 rfl (h:=aM 14 rfl (h:=aM 15 rfl (h:=Zap [13,20] kr kr kr ⟨?_,?_⟩))))))))))))
 refine (Zav rfl rfl ZtN rfl (ZjS _ _ (⟨f.next,f.mail⟩:DBox) _ _ set _ hm13 hs) ?_)
 intro v14 B14 hle14
 rintro ⟨a14,c14,rfl,hs14⟩
 replace hu:=hu.mono Zh.mono hle14
 replace hf:=hf.mono Zb.mono hle14
 replace hi:=hi.mono Zj.mono hle14
 replace hs:=hs.mono Za6.mono hle14
 replace hg13:=hg13.mono ZG.mono hle14
 replace hm13:=hm13.mono ZJ.mono hle14
 replace hc13:=hc13.mono hle14
 replace hs9:=hs9.mono Zb.mono hle14
 replace hu9:=hu9.mono Zh.mono hle14
 replace hi9:=hi9.mono Zj.mono hle14
 have hs14n:=hs14.len
 refine ⟨⟨hle14,t2⟩,(Zap [16,20] kr kr kr ⟨?_,?_⟩)⟩
 refine (Zav rfl rfl ZtO rfl (Zfq _ _ (⟨f.next,f.mail⟩:DBox) _ _ (ZaC set f.mail.length) how fl _ hm13 hs14) ?_)
 intro v15 B15 hle15
 rintro ⟨a15,c15,rfl,hs15⟩
 replace hu:=hu.mono Zh.mono hle15
 replace hf:=hf.mono Zb.mono hle15
 replace hi:=hi.mono Zj.mono hle15
 replace hs:=hs.mono Za6.mono hle15
 replace hg13:=hg13.mono ZG.mono hle15
 replace hm13:=hm13.mono ZJ.mono hle15
 replace hc13:=hc13.mono hle15
 replace hs14:=hs14.mono Zbu.mono hle15
 replace hs9:=hs9.mono Zb.mono hle15
 replace hu9:=hu9.mono Zh.mono hle15
 replace hi9:=hi9.mono Zj.mono hle15
 have hs15n:=hs15.len
 refine ⟨⟨(hle14.trans hle15),t2⟩,(aM 17 rfl (h:=aE 18 rfl (h:=aE 19 rfl (h:=Zv 20 kr rfl kr (Zam (l:=[_,_]) rfl rfl ZeW rfl (fun b16=>?_))))))⟩
 refine ⟨⟨(hle14.trans hle15),t2⟩,(ZbC 21 kr rfl kr kr (ZO [_,_] 5 [_,_] rfl rfl ZcC rfl rfl rfl rfl rfl rfl rfl rfl ?_))⟩
 refine aA 22 rfl (h:=ZD kr kr ?_)
 refine Zf (Zw [_,_,_,_,_,_] rfl (Za (xW Z0 (h:=x1 Zcy 4 (h:=xM (h:=xL [_,_] ZbN 5 (h:=?_)))))))
 obtain ⟨bb17,_,hp17,⟨qg17,cg17,qm17,cm17,rfl,hg17,hm17,hb17,hb17b⟩,hw17,hc17⟩:=hs9.row hf0
 have hg17n:=hg17.len
 have hm17n:=hm17.len
 have hm17s:=Z4 hm17
 refine xIp hp17 Tryz.underlying24 Zbj (h:=xW Zcm (h:=Zn (Zd8 (k:=((atF x s 4).1).toNat) (off:=3) (⟨f.owner,f.name,f.grants,(Zbf ⟨f.next,f.mail⟩ (ZaC set f.mail.length) how fl).1.next,(Zbf ⟨f.next,f.mail⟩ (ZaC set f.mail.length) how fl).1.mail⟩) [_,_] 3 hs9 hp17 hf0 rfl rfl ZcC rfl rfl rfl rfl rfl rfl (by rintro _ ⟨_,_,_,_,rfl,e1,_,e3,e4⟩;exact ⟨_,_,_,_,rfl,e1,hs15,e3,e4⟩) (fun l18 hv18=>?_))))
 refine Zw [_,_,_,_,_,_] rfl (Za (xL [_,_,_,_,_] Z2 4 (h:=ZZ 3 rfl hv18 Zb.mono om3 (fun B19 hle19 hr19=>?_))))
 replace hu:=hu.mono Zh.mono hle19
 replace hf:=hf.mono Zb.mono hle19
 replace hi:=hi.mono Zj.mono hle19
 replace hs:=hs.mono Za6.mono hle19
 replace hu9:=hu9.mono Zh.mono hle19
 replace hi9:=hi9.mono Zj.mono hle19
 replace hs15:=hs15.mono ZJ.mono hle19
 have hr19n:=hr19.len
 refine xS [_,_,_,_,_] 2 [_,_,_,_,_] Zaw (h:=?_)
 rw [hse]
 refine xA (h:=Zw [_,_,_,_,_,_] rfl (Zg ?_))
 exact Zaf .ret (.inl rfl) [_,_] [] rfl ⟨⟨_,rfl,.inr ⟨[_,_,_,_,_],Z2,Zad 2 rfl rfl rfl,rfl⟩⟩,rfl,trivial⟩ ⟨rfl,_,_,_,_,_,_,(by first | rfl | (simp only [DHost.withFolders,List.length_set];rfl)),hu9,hr19,hi9,by first | assumption | (rw [ZS.2.2.1];assumption)⟩
 refine (Zam (l:=[_,_]) rfl rfl ZeW rfl (fun b20=>⟨⟨hle14,t2⟩,(Zv 16 kr rfl kr (Zav rfl rfl ZtO rfl (Zfq _ _ (⟨f.next,f.mail⟩:DBox) _ _ (ZaC set f.mail.length) how fl _ hm13 hs14) ?_))⟩))
 intro v21 B21 hle21
 rintro ⟨a21,c21,rfl,hs21⟩
 replace hu:=hu.mono Zh.mono hle21
 replace hf:=hf.mono Zb.mono hle21
 replace hi:=hi.mono Zj.mono hle21
 replace hs:=hs.mono Za6.mono hle21
 replace hg13:=hg13.mono ZG.mono hle21
 replace hm13:=hm13.mono ZJ.mono hle21
 replace hc13:=hc13.mono hle21
 replace hs14:=hs14.mono Zbu.mono hle21
 replace hs9:=hs9.mono Zb.mono hle21
 replace hu9:=hu9.mono Zh.mono hle21
 replace hi9:=hi9.mono Zj.mono hle21
 have hs21n:=hs21.len
 refine ⟨⟨(hle14.trans hle21),t2⟩,(aM 17 rfl (h:=aE 18 rfl (h:=aE 19 rfl (h:=ZbC 21 kr rfl kr kr (ZO [_,_] 5 [_,_] rfl rfl ZcC rfl rfl rfl rfl rfl rfl rfl rfl ?_)))))⟩
 refine aA 22 rfl (h:=ZD kr kr ?_)
 refine Zf (Zw [_,_,_,_,_,_] rfl (Za (xW Z0 (h:=x1 Zcy 4 (h:=xM (h:=xL [_,_] ZbN 5 (h:=?_)))))))
 obtain ⟨bb22,_,hp22,⟨qg22,cg22,qm22,cm22,rfl,hg22,hm22,hb22,hb22b⟩,hw22,hc22⟩:=hs9.row hf0
 have hg22n:=hg22.len
 have hm22n:=hm22.len
 have hm22s:=Z4 hm22
 refine xIp hp22 Tryz.underlying24 Zbj (h:=xW Zcm (h:=Zn (Zd8 (k:=((atF x s 4).1).toNat) (off:=3) (⟨f.owner,f.name,f.grants,(Zbf ⟨f.next,f.mail⟩ (ZaC set f.mail.length) how fl).1.next,(Zbf ⟨f.next,f.mail⟩ (ZaC set f.mail.length) how fl).1.mail⟩) [_,_] 3 hs9 hp22 hf0 rfl rfl ZcC rfl rfl rfl rfl rfl rfl (by rintro _ ⟨_,_,_,_,rfl,e1,_,e3,e4⟩;exact ⟨_,_,_,_,rfl,e1,hs21,e3,e4⟩) (fun l23 hv23=>?_))))
 refine Zw [_,_,_,_,_,_] rfl (Za (xL [_,_,_,_,_] Z2 4 (h:=ZZ 3 rfl hv23 Zb.mono om3 (fun B24 hle24 hr24=>?_))))
 replace hu:=hu.mono Zh.mono hle24
 replace hf:=hf.mono Zb.mono hle24
 replace hi:=hi.mono Zj.mono hle24
 replace hs:=hs.mono Za6.mono hle24
 replace hu9:=hu9.mono Zh.mono hle24
 replace hi9:=hi9.mono Zj.mono hle24
 replace hs21:=hs21.mono ZJ.mono hle24
 have hr24n:=hr24.len
 refine xS [_,_,_,_,_] 2 [_,_,_,_,_] Zaw (h:=?_)
 rw [hse]
 refine xA (h:=Zw [_,_,_,_,_,_] rfl (Zg ?_))
 exact Zaf .ret (.inl rfl) [_,_] [] rfl ⟨⟨_,rfl,.inr ⟨[_,_,_,_,_],Z2,Zad 2 rfl rfl rfl,rfl⟩⟩,rfl,trivial⟩ ⟨rfl,_,_,_,_,_,_,(by first | rfl | (simp only [DHost.withFolders,List.length_set];rfl)),hu9,hr24,hi9,by first | assumption | (rw [ZS.2.2.1];assumption)⟩
 refine (Zam (l:=[_,_]) rfl rfl ZeW rfl (fun b25=>⟨⟨Kn.le.refl _,t2⟩,(Zv 13 kr rfl kr (Zav rfl rfl ZtN rfl (ZjS _ _ (⟨f.next,f.mail⟩:DBox) _ _ set _ hm13 hs) ?_))⟩))
 intro v26 B26 hle26
 rintro ⟨a26,c26,rfl,hs26⟩
 replace hu:=hu.mono Zh.mono hle26
 replace hf:=hf.mono Zb.mono hle26
 replace hi:=hi.mono Zj.mono hle26
 replace hs:=hs.mono Za6.mono hle26
 replace hg13:=hg13.mono ZG.mono hle26
 replace hm13:=hm13.mono ZJ.mono hle26
 replace hc13:=hc13.mono hle26
 replace hs9:=hs9.mono Zb.mono hle26
 replace hu9:=hu9.mono Zh.mono hle26
 replace hi9:=hi9.mono Zj.mono hle26
 have hs26n:=hs26.len
 refine ⟨⟨hle26,t2⟩,(Zv 16 kr rfl kr (Zav rfl rfl ZtO rfl (Zfq _ _ (⟨f.next,f.mail⟩:DBox) _ _ (ZaC set f.mail.length) how fl _ hm13 hs26) ?_))⟩
 intro v27 B27 hle27
 rintro ⟨a27,c27,rfl,hs27⟩
 replace hu:=hu.mono Zh.mono hle27
 replace hf:=hf.mono Zb.mono hle27
 replace hi:=hi.mono Zj.mono hle27
 replace hs:=hs.mono Za6.mono hle27
 replace hg13:=hg13.mono ZG.mono hle27
 replace hm13:=hm13.mono ZJ.mono hle27
 replace hc13:=hc13.mono hle27
 replace hs26:=hs26.mono Zbu.mono hle27
 replace hs9:=hs9.mono Zb.mono hle27
 replace hu9:=hu9.mono Zh.mono hle27
 replace hi9:=hi9.mono Zj.mono hle27
 have hs27n:=hs27.len
 refine ⟨⟨(hle26.trans hle27),t2⟩,(aM 17 rfl (h:=aE 18 rfl (h:=aE 19 rfl (h:=ZbC 21 kr rfl kr kr (ZO [_,_] 5 [_,_] rfl rfl ZcC rfl rfl rfl rfl rfl rfl rfl rfl ?_)))))⟩
 refine aA 22 rfl (h:=ZD kr kr ?_)
 refine Zf (Zw [_,_,_,_,_,_] rfl (Za (xW Z0 (h:=x1 Zcy 4 (h:=xM (h:=xL [_,_] ZbN 5 (h:=?_)))))))
 obtain ⟨bb28,_,hp28,⟨qg28,cg28,qm28,cm28,rfl,hg28,hm28,hb28,hb28b⟩,hw28,hc28⟩:=hs9.row hf0
 have hg28n:=hg28.len
 have hm28n:=hm28.len
 have hm28s:=Z4 hm28
 refine xIp hp28 Tryz.underlying24 Zbj (h:=xW Zcm (h:=Zn (Zd8 (k:=((atF x s 4).1).toNat) (off:=3) (⟨f.owner,f.name,f.grants,(Zbf ⟨f.next,f.mail⟩ (ZaC set f.mail.length) how fl).1.next,(Zbf ⟨f.next,f.mail⟩ (ZaC set f.mail.length) how fl).1.mail⟩) [_,_] 3 hs9 hp28 hf0 rfl rfl ZcC rfl rfl rfl rfl rfl rfl (by rintro _ ⟨_,_,_,_,rfl,e1,_,e3,e4⟩;exact ⟨_,_,_,_,rfl,e1,hs27,e3,e4⟩) (fun l29 hv29=>?_))))
 refine Zw [_,_,_,_,_,_] rfl (Za (xL [_,_,_,_,_] Z2 4 (h:=ZZ 3 rfl hv29 Zb.mono om3 (fun B30 hle30 hr30=>?_))))
 replace hu:=hu.mono Zh.mono hle30
 replace hf:=hf.mono Zb.mono hle30
 replace hi:=hi.mono Zj.mono hle30
 replace hs:=hs.mono Za6.mono hle30
 replace hu9:=hu9.mono Zh.mono hle30
 replace hi9:=hi9.mono Zj.mono hle30
 replace hs27:=hs27.mono ZJ.mono hle30
 have hr30n:=hr30.len
 refine xS [_,_,_,_,_] 2 [_,_,_,_,_] Zaw (h:=?_)
 rw [hse]
 refine xA (h:=Zw [_,_,_,_,_,_] rfl (Zg ?_))
 exact Zaf .ret (.inl rfl) [_,_] [] rfl ⟨⟨_,rfl,.inr ⟨[_,_,_,_,_],Z2,Zad 2 rfl rfl rfl,rfl⟩⟩,rfl,trivial⟩ ⟨rfl,_,_,_,_,_,_,(by first | rfl | (simp only [DHost.withFolders,List.length_set];rfl)),hu9,hr30,hi9,by first | assumption | (rw [ZS.2.2.1];assumption)⟩

set_option maxHeartbeats 400000 in
theorem ZnI (q1 q2 q3:Option Addr) (c1 c2 c3:Nat) (x:DHost) (s:DSess) (hs1:s.user.length≤2000000) (hs2:s.owner.length≤2000000) (hs3:s.name.length≤2000000) (hd:x.domain.length≤2000000) (B:Kn) (hu:SlK B q1 c1 3 Zh x.users) (hf:SlK B q2 c2 5 Zb x.folders) (hi:SlK B q3 c3 4 Zj x.queue.items):ZM (pj J) 143 [.agg #[str x.domain,.slice q1 x.users.length c1,.slice q2 x.folders.length c2,.int .i64 x.queue.next,.slice q3 x.queue.items.length c3],.agg #[str s.user,str s.owner,str s.name]] B [] (fun v B' Ls=>Ls=[]∧∃p1 d1 p2 d2 p3 d3 p4 d4,v = .tuple #[.agg #[str (ZaM x s).1.domain,.slice p1 (ZaM x s).1.users.length d1,.slice p2 (ZaM x s).1.folders.length d2,.int .i64 (ZaM x s).1.queue.next,.slice p3 (ZaM x s).1.queue.items.length d3],.slice p4 (ZaM x s).2.1.length d4,.int .i64 (ZaM x s).2.2]∧SlK B' p1 d1 3 Zh (ZaM x s).1.users∧SlK B' p2 d2 5 Zb (ZaM x s).1.folders∧SlK B' p3 d3 4 Zj (ZaM x s).1.queue.items∧SlK B' p4 d4 1 Zbu (ZaM x s).2.1∧(ZaM x s).1.domain.length≤2000000):=by
 refine Zc 48 Tryz.func143 rfl rfl rfl (Nat.le_of_ble_eq_true rfl) ?_
 have hun:=hu.len
 have hfn:=hf.len
 have hin:=hi.len
 have hix:=ZcG (inF s.owner s.name) x.folders
 refine Za (xBx [_,_,_,_,_] (h:=fun b1=>xBx [_,_,_] (h:=fun b2=>xAl [_,_,_,_,_] Zba (h:=fun b3=>xA (h:=xA (h:=Zw [_,_,_] rfl (Zm (Za (xL [_,_,_,_,_] Z2 0 (h:=xR Zqn rfl (Zbm _ _ _ _ _ _ x om2 _ hu hf hi) (h:=?_)))))))))))
 refine xN (h:=Zd rfl (fun g1=>?_) (fun g1=>?_))
 try simp only [sQ,ne_eq] at g1
 refine Za (xB [] [_,_,_,_,_] [_,_,_,_,_] ZdV Zba (h:=xBs [] [] Tryz.underlying142 sz3 zo3 (h:=fun b5=>ZZ 3 rfl (Z3.lit0 (R:=Zbu) (w:=1)) Zbu.mono om3 (fun B6 hle6 hr6=>?_))))
 replace hu:=hu.mono Zh.mono hle6
 replace hf:=hf.mono Zb.mono hle6
 replace hi:=hi.mono Zj.mono hle6
 have hr6n:=hr6.len
 refine xS [_,_,_,_,_] 2 [_,_,_,_,_] Zaw (h:=?_)
 rw [ZaM,if_pos g1]
 refine xA (h:=xA (h:=Zw [_,_,_,_] rfl (Zg (Zs ?_))))
 exact Zaf .ret (.inl rfl) [_,_,_] [] rfl ⟨⟨_,rfl,.inr ⟨[_,_,_,_,_],Z2,Zad 2 rfl rfl rfl,rfl⟩⟩,rfl,rfl,trivial⟩ ⟨rfl,none,0,none,0,none,0,_,_,rfl,SlK.nil,SlK.nil,SlK.nil,hr6,by simp [Za4]⟩
 try simp only [sQ,ne_eq] at g1
 have hok:ZA x=true:=by simpa using g1
 have hrr:=ZbV hok
 have hnn : ¬ ZA x=false:=by simp [hok]
 refine Zi (Zf (Za (xL [_,_,_,_,_] Z2 0 (h:=xL [_,_,_] Zgo 1 (h:=xR ZtP rfl (Zmh _ _ _ _ _ _ x s om2 om2 om2 16 hrr oz _ hu hf) (h:=?_))))))
 refine xM (h:=xE (h:=xE (h:=xA (h:=xA (h:=Za (xL [_,_,_,_,_] Z2 0 (h:=Zn (Zac rfl rfl Znp rfl (Zbd _ _ _ _ _ _ x _ hu hf hi) ?_))))))))
 rintro _ B8 _ hle8 ⟨l8,a8,c8,q18,c18,q38,c38,rfl,rfl,hu8,hs8,hi8⟩
 replace hu:=hu.mono Zh.mono hle8
 replace hf:=hf.mono Zb.mono hle8
 replace hi:=hi.mono Zj.mono hle8
 have hu8n:=hu8.len
 have hi8n:=hi8.len
 refine xAl [_,_,_,_,_] Zba (h:=fun b9=>xS [_,_,_,_,_] 4 [_,_,_,_,_] Zaw (h:=Zw [_,_,_,_,_] rfl (Zm (Za (xM (h:=ZcZ (h:=Zd rfl (fun g5=>?_) (fun g5=>?_))))))))
 try simp only [sQ,ne_eq] at g5
 refine Za (xL [_,_,_,_,_] Z2 4 (h:=ZZ 3 rfl hs8 Zb.mono om3 (fun B10 hle10 hr10=>?_)))
 replace hu:=hu.mono Zh.mono hle10
 replace hf:=hf.mono Zb.mono hle10
 replace hi:=hi.mono Zj.mono hle10
 replace hu8:=hu8.mono Zh.mono hle10
 replace hi8:=hi8.mono Zj.mono hle10
 have hr10n:=hr10.len
 refine xBs [] [] Tryz.underlying142 sz3 zo3 (h:=fun b11=>ZZ 5 rfl (Z3.lit0 (R:=Zbu) (w:=1)) Zbu.mono om3 (fun B12 hle12 hr12=>?_))
 replace hu:=hu.mono Zh.mono hle12
 replace hf:=hf.mono Zb.mono hle12
 replace hi:=hi.mono Zj.mono hle12
 replace hu8:=hu8.mono Zh.mono hle12
 replace hr10:=hr10.mono Zb.mono hle12
 replace hi8:=hi8.mono Zj.mono hle12
 have hr12n:=hr12.len
 refine xM (h:=?_)
 rw [ZaM,if_neg hnn,if_pos g5]
 refine xS [_,_,_,_,_] 2 [_,_,_,_,_] Zaw (h:=xA (h:=xA (h:=Zw [_,_,_,_,_,_] rfl (Zg (Zs ?_)))))
 exact Zaf .ret (.inl rfl) [_,_,_] [] rfl ⟨⟨_,rfl,.inr ⟨[_,_,_,_,_],Z2,Zad 2 rfl rfl rfl,rfl⟩⟩,rfl,rfl,trivial⟩ ⟨rfl,_,_,_,_,_,_,_,_,rfl,hu8,hr10,hi8,hr12,oy⟩
 try simp only [sQ,ne_eq] at g5
 obtain ⟨hat,hk0,_,_,_⟩:=Zhj g5
 obtain ⟨f,hf0⟩ :∃f,x.folders[(atF x s 16).1.toNat]? = some f:=⟨_,List.getElem?_eq_getElem oz⟩
 have hse:ZaM x s=(x.withFolders (x.folders.set (atF x s 16).1.toNat (f.withBox (expunge ⟨f.next,f.mail⟩).1)),(expunge ⟨f.next,f.mail⟩).2,0):=by rw [ZaM,if_neg hnn,if_neg (fun h=>h g5),Zdf hf0,ZhF hf0];rfl
 have hxl:(expunge (⟨f.next,f.mail⟩:DBox)).1.mail.length≤f.mail.length∧(expunge (⟨f.next,f.mail⟩:DBox)).2.length≤f.mail.length:=Zmv (⟨f.next,f.mail⟩:DBox)
 have hfb:Zbh (⟨f.next,f.mail⟩:DBox)=true:=ZbY (Zbq hok hf0)
 have hfm:f.mail.length≤10:=(Zde hfb).2.2
 refine Zi (Zf (Za (xW Z0 (h:=x1 Zcy 0 (h:=xM (h:=?_))))))
 obtain ⟨bb13,oo13,rfl⟩:=hf.base hf0
 obtain ⟨_,⟨qg14,cg14,qm14,cm14,rfl,hg14,hm14,hb14,hb14b⟩,hc14⟩:=hf.elem hf0
 have hg14n:=hg14.len
 have hm14n:=hm14.len
 have hm14s:=Z4 hm14
 refine xIx Tryz.underlying24 Zbj (h:=xW Zcm (h:=yL [_,_] ZbN hc14 3 (h:=Zn (Zac rfl rfl ZrY rfl (Zcs _ _ (⟨f.next,f.mail⟩:DBox) _ hm14) ?_))))
 rintro _ B15 _ hle15 ⟨l15,a15,c15,l15b,a15b,c15b,rfl,rfl,hs15,hs15b⟩
 replace hu:=hu.mono Zh.mono hle15
 replace hf:=hf.mono Zb.mono hle15
 replace hi:=hi.mono Zj.mono hle15
 replace hg14:=hg14.mono ZG.mono hle15
 replace hm14:=hm14.mono ZJ.mono hle15
 replace hc14:=hc14.mono hle15
 replace hs8:=hs8.mono Zb.mono hle15
 replace hu8:=hu8.mono Zh.mono hle15
 replace hi8:=hi8.mono Zj.mono hle15
 replace hs15:=hs15.anyK (B':=B15) ZJ.any
 replace hs15b:=hs15b.anyK (B':=B15) Zbu.any
 refine xM (h:=xE (h:=ZZ 5 rfl hs15 ZJ.mono om3 (fun B16 hle16 hr16=>?_)))
 replace hu:=hu.mono Zh.mono hle16
 replace hf:=hf.mono Zb.mono hle16
 replace hi:=hi.mono Zj.mono hle16
 replace hg14:=hg14.mono ZG.mono hle16
 replace hm14:=hm14.mono ZJ.mono hle16
 replace hc14:=hc14.mono hle16
 replace hs8:=hs8.mono Zb.mono hle16
 replace hu8:=hu8.mono Zh.mono hle16
 replace hi8:=hi8.mono Zj.mono hle16
 replace hs15b:=hs15b.mono Zbu.mono hle16
 have hr16n:=hr16.len
 refine xE (h:=ZZ 6 rfl hs15b Zbu.mono om3 (fun B17 hle17 hr17=>?_))
 replace hu:=hu.mono Zh.mono hle17
 replace hf:=hf.mono Zb.mono hle17
 replace hi:=hi.mono Zj.mono hle17
 replace hg14:=hg14.mono ZG.mono hle17
 replace hm14:=hm14.mono ZJ.mono hle17
 replace hc14:=hc14.mono hle17
 replace hr16:=hr16.mono ZJ.mono hle17
 replace hs8:=hs8.mono Zb.mono hle17
 replace hu8:=hu8.mono Zh.mono hle17
 replace hi8:=hi8.mono Zj.mono hle17
 have hr17n:=hr17.len
 refine xAl [_,_] ZeW (h:=fun b18=>xS [_,_] 7 [_,_] ZcC (h:=xA (h:=Zw [_,_,_,_,_,_,_,_] rfl (Za (xW Z0 (h:=x1 Zcy 4 (h:=xM (h:=xL [_,_] ZbN 7 (h:=?_)))))))))
 obtain ⟨bb19,_,hp19,⟨qg19,cg19,qm19,cm19,rfl,hg19,hm19,hb19,hb19b⟩,hw19,hc19⟩:=hs8.row hf0
 have hg19n:=hg19.len
 have hm19n:=hm19.len
 have hm19s:=Z4 hm19
 refine xIp hp19 Tryz.underlying24 Zbj (h:=xW Zcm (h:=Zn (Zd8 (k:=((atF x s 16).1).toNat) (off:=3) (⟨f.owner,f.name,f.grants,(expunge ⟨f.next,f.mail⟩).1.next,(expunge ⟨f.next,f.mail⟩).1.mail⟩) [_,_] 3 hs8 hp19 hf0 rfl rfl ZcC rfl rfl rfl rfl rfl rfl (by rintro _ ⟨_,_,_,_,rfl,e1,_,e3,e4⟩;exact ⟨_,_,_,_,rfl,e1,hr16,e3,e4⟩) (fun l20 hv20=>?_))))
 refine Zw [_,_,_,_,_,_,_,_] rfl (Za (xL [_,_,_,_,_] Z2 4 (h:=ZZ 3 rfl hv20 Zb.mono om3 (fun B21 hle21 hr21=>?_))))
 replace hu:=hu.mono Zh.mono hle21
 replace hf:=hf.mono Zb.mono hle21
 replace hi:=hi.mono Zj.mono hle21
 replace hr17:=hr17.mono Zbu.mono hle21
 replace hu8:=hu8.mono Zh.mono hle21
 replace hi8:=hi8.mono Zj.mono hle21
 replace hr16:=hr16.mono ZJ.mono hle21
 have hr21n:=hr21.len
 refine xM (h:=?_)
 rw [hse]
 refine xS [_,_,_,_,_] 2 [_,_,_,_,_] Zaw (h:=xA (h:=xA (h:=Zw [_,_,_,_,_,_,_,_] rfl (Zg ?_))))
 exact Zaf .ret (.inl rfl) [_,_,_] [] rfl ⟨⟨_,rfl,.inr ⟨[_,_,_,_,_],Z2,Zad 2 rfl rfl rfl,rfl⟩⟩,rfl,rfl,trivial⟩ ⟨rfl,_,_,_,_,_,_,_,_,(by first | rfl | (simp only [DHost.withFolders,List.length_set];rfl)),hu8,hr21,hi8,hr17,oy⟩

set_option maxHeartbeats 800000 in
theorem ZnK (q1 q2 q3:Option Addr) (c1 c2 c3:Nat) (x:DHost) (s:DSess) (hs1:s.user.length≤2000000) (hs2:s.owner.length≤2000000) (hs3:s.name.length≤2000000) (q4:Option Addr) (c4:Nat) (set:List DSpan) (o n:Str) (hol:o.length≤2000000) (hnl:n.length≤2000000) (hd:x.domain.length≤2000000) (B:Kn) (hu:SlK B q1 c1 3 Zh x.users) (hf:SlK B q2 c2 5 Zb x.folders) (hi:SlK B q3 c3 4 Zj x.queue.items) (hs:SlK B q4 c4 2 Za6 set):ZM (pj J) 144 [.agg #[str x.domain,.slice q1 x.users.length c1,.slice q2 x.folders.length c2,.int .i64 x.queue.next,.slice q3 x.queue.items.length c3],.agg #[str s.user,str s.owner,str s.name],.slice q4 set.length c4,str o,str n] B [] (fun v B' Ls=>Ls=[]∧∃p1 d1 p2 d2 p3 d3,v = .tuple #[.agg #[str (Zeh x s set o n).1.domain,.slice p1 (Zeh x s set o n).1.users.length d1,.slice p2 (Zeh x s set o n).1.folders.length d2,.int .i64 (Zeh x s set o n).1.queue.next,.slice p3 (Zeh x s set o n).1.queue.items.length d3],.int .i64 (Zeh x s set o n).2]∧SlK B' p1 d1 3 Zh (Zeh x s set o n).1.users∧SlK B' p2 d2 5 Zb (Zeh x s set o n).1.folders∧SlK B' p3 d3 4 Zj (Zeh x s set o n).1.queue.items∧(Zeh x s set o n).1.domain.length≤2000000):=by
 refine Zc 102 Tryz.func144 rfl rfl rfl (Nat.le_of_ble_eq_true rfl) ?_
 have hun:=hu.len
 have hfn:=hf.len
 have hin:=hi.len
 have hsn:=hs.len
 have hix:=ZcG (inF s.owner s.name) x.folders
 have hix2:=ZcG (inF o n) x.folders
 refine Za (xBx [_,_,_,_,_] (h:=fun b1=>xBx [_,_,_] (h:=fun b2=>xAl [_,_,_,_,_] Zba (h:=fun b3=>xA (h:=Zw [_,_,_] rfl (Zm (Za (xL [_,_,_,_,_] Z2 0 (h:=xR Zqn rfl (Zbm _ _ _ _ _ _ x om2 _ hu hf hi) (h:=?_))))))))))
 refine xN (h:=xM (h:=Zt (d:=24) rfl (fun g1=>?_) (fun g1=>?_)))
 try simp only [sQ,ne_eq] at g1
 rw [Zeh,if_pos (by simp [g1])]
 refine xP (h:=xP (h:=xP (h:=xT (h:=Zd (t:=true) rfl (fun _=>Za (xB [] [_,_,_,_,_] [_,_,_,_,_] ZdV Zba (h:=xS [_,_,_,_,_] 2 [_,_,_,_,_] Zaw (h:=xA (h:=Zw [_,_,_] rfl (Zg (Zs ?_))))))) (fun h=>Bool.noConfusion h)))))
 exact Zaf .ret (.inl rfl) [_,_] [] rfl ⟨⟨_,rfl,.inr ⟨[_,_,_,_,_],Z2,Zad 2 rfl rfl rfl,rfl⟩⟩,rfl,trivial⟩ ⟨rfl,none,0,none,0,none,0,rfl,SlK.nil,SlK.nil,SlK.nil,by simp [Za4]⟩
 try simp only [sQ,ne_eq] at g1
 refine xM (h:=xR ZtQ rfl (ZhC _ _ set _ hs) (h:=xN (h:=xF (h:=Zd rfl (fun g2=>?_) (fun g2=>?_)))))
 try simp only [sQ,ne_eq] at g2
 rw [Zeh,if_pos (by simp [g2])]
 refine Za (xB [] [_,_,_,_,_] [_,_,_,_,_] ZdV Zba (h:=xS [_,_,_,_,_] 2 [_,_,_,_,_] Zaw (h:=xA (h:=Zw [_,_,_] rfl (Zg (Zs ?_))))))
 exact Zaf .ret (.inl rfl) [_,_] [] rfl ⟨⟨_,rfl,.inr ⟨[_,_,_,_,_],Z2,Zad 2 rfl rfl rfl,rfl⟩⟩,rfl,trivial⟩ ⟨rfl,none,0,none,0,none,0,rfl,SlK.nil,SlK.nil,SlK.nil,by simp [Za4]⟩
 try simp only [sQ,ne_eq] at g2
 have hok:ZA x=true:=by simpa using g1
 have hrr:=ZbV hok
 have hnn : ¬ ¬ (ZA x=true∧ZhE set=true):=fun h=>h ⟨hok,by simpa using g2⟩
 refine Zi (Zf (Za (xL [_,_,_,_,_] Z2 0 (h:=xL [_,_,_] Zgo 1 (h:=xR ZtP rfl (Zmh _ _ _ _ _ _ x s om2 om2 om2 2 hrr oz _ hu hf) (h:=?_))))))
 refine xM (h:=xE (h:=xE (h:=xA (h:=xA (h:=Zm (Za (xM (h:=ZcZ (h:=Zd rfl (fun g5=>?_) (fun g5=>?_))))))))))
 try simp only [sQ,ne_eq] at g5
 refine Za (xL [_,_,_,_,_] Z2 0 (h:=Zn (Zac rfl rfl Znp rfl (Zbd _ _ _ _ _ _ x _ hu hf hi) ?_)))
 rintro _ B7 _ hle7 ⟨l7,a7,c7,q17,c17,q37,c37,rfl,rfl,hu7,hs7,hi7⟩
 replace hu:=hu.mono Zh.mono hle7
 replace hf:=hf.mono Zb.mono hle7
 replace hi:=hi.mono Zj.mono hle7
 replace hs:=hs.mono Za6.mono hle7
 have hu7n:=hu7.len
 have hi7n:=hi7.len
 refine ZZ 3 rfl hs7 Zb.mono om3 (fun B8 hle8 hr8=>?_)
 replace hu:=hu.mono Zh.mono hle8
 replace hf:=hf.mono Zb.mono hle8
 replace hi:=hi.mono Zj.mono hle8
 replace hs:=hs.mono Za6.mono hle8
 replace hu7:=hu7.mono Zh.mono hle8
 replace hi7:=hi7.mono Zj.mono hle8
 have hr8n:=hr8.len
 refine xM (h:=?_)
 rw [Zeh,if_neg hnn,if_pos g5]
 refine xS [_,_,_,_,_] 2 [_,_,_,_,_] Zaw (h:=xA (h:=Zw [_,_,_,_] rfl (Zg (Zs ?_))))
 exact Zaf .ret (.inl rfl) [_,_] [] rfl ⟨⟨_,rfl,.inr ⟨[_,_,_,_,_],Z2,Zad 2 rfl rfl rfl,rfl⟩⟩,rfl,trivial⟩ ⟨rfl,_,_,_,_,_,_,(by first | rfl | (simp only [DHost.withFolders,List.length_set];rfl)),hu7,hr8,hi7,by first | assumption | (rw [ZS.2.2.1];assumption)⟩
 try simp only [sQ,ne_eq] at g5
 obtain ⟨hat,hk0,_,_,_⟩:=Zhj g5
 obtain ⟨f,hf0⟩ :∃f,x.folders[(atF x s 2).1.toNat]? = some f:=⟨_,List.getElem?_eq_getElem oz⟩
 have hfb:Zbh (⟨f.next,f.mail⟩:DBox)=true:=ZbY (Zbq hok hf0)
 have hnl3:=Zn1 set f.mail.length
 have hnl4:f.mail.length≤10:=(Zde hfb).2.2
 refine Zi (Zf (Za (xL [_,_,_,_,_] Z2 0 (h:=xM (h:=xM (h:=xR ZsJ rfl (ZcR _ _ _ _ _ _ x o n om2 om2 _ hf) (h:=?_)))))))
 refine xA (h:=Za (xL [_,_,_,_,_] Z2 0 (h:=xW Zfc (h:=x1 lk9 1 (h:=xM (h:=xR Zt7 rfl (Zdc _ _ _ _ _ _ x s.user (ZaD (inF o n) x.folders) 8 oz hrr oz _ hu hf) (h:=?_)))))))
 refine xA (h:=Za (xL [_,_,_,_,_] Z2 0 (h:=Zn (Zac rfl rfl Znp rfl (Zbd _ _ _ _ _ _ x _ hu hf hi) ?_))))
 rintro _ B11 _ hle11 ⟨l11,a11,c11,q111,c111,q311,c311,rfl,rfl,hu11,hs11,hi11⟩
 replace hu:=hu.mono Zh.mono hle11
 replace hf:=hf.mono Zb.mono hle11
 replace hi:=hi.mono Zj.mono hle11
 replace hs:=hs.mono Za6.mono hle11
 have hu11n:=hu11.len
 have hi11n:=hi11.len
 refine ZZ 3 rfl hs11 Zb.mono om3 (fun B12 hle12 hr12=>?_)
 replace hu:=hu.mono Zh.mono hle12
 replace hf:=hf.mono Zb.mono hle12
 replace hi:=hi.mono Zj.mono hle12
 replace hs:=hs.mono Za6.mono hle12
 replace hu11:=hu11.mono Zh.mono hle12
 replace hi11:=hi11.mono Zj.mono hle12
 have hr12n:=hr12.len
 refine xAl [_,_,_,_,_] Zba (h:=fun b13=>xS [_,_,_,_,_] 4 [_,_,_,_,_] Zaw (h:=Zw [_,_,_,_,_] rfl (Za (xW Z0 (h:=x1 Zcy 0 (h:=xM (h:=?_)))))))
 obtain ⟨bb14,oo14,rfl⟩:=hf.base hf0
 obtain ⟨_,⟨qg15,cg15,qm15,cm15,rfl,hg15,hm15,hb15,hb15b⟩,hc15⟩:=hf.elem hf0
 have hg15n:=hg15.len
 have hm15n:=hm15.len
 have hm15s:=Z4 hm15
 refine xIx Tryz.underlying24 Zbj (h:=xW Zcm (h:=yL [_,_] ZbN hc15 3 (h:=xM (h:=Zn (Zav rfl rfl ZtN rfl (ZjS _ _ (⟨f.next,f.mail⟩:DBox) _ _ set _ hm15 hs) ?_)))))
 intro v16 B16 hle16
 rintro ⟨a16,c16,rfl,hs16⟩
 replace hu:=hu.mono Zh.mono hle16
 replace hf:=hf.mono Zb.mono hle16
 replace hi:=hi.mono Zj.mono hle16
 replace hs:=hs.mono Za6.mono hle16
 replace hg15:=hg15.mono ZG.mono hle16
 replace hm15:=hm15.mono ZJ.mono hle16
 replace hc15:=hc15.mono hle16
 replace hu11:=hu11.mono Zh.mono hle16
 replace hr12:=hr12.mono Zb.mono hle16
 replace hi11:=hi11.mono Zj.mono hle16
 have hs16n:=hs16.len
 refine xA (h:=Zm (Za (xA (h:=Zr (ZU (α:=GCp) [0,1,2,3,4,5,6,10,11,12,14,15,16,28,37] (fun g=>[(13,.int .i64 g.c),(17,.int .i64 g.k)]) [4] (fun g=>[ZaY b13 [str g.x.domain,.slice g.q1 g.x.users.length g.c1,.slice g.q2 g.x.folders.length g.c2,.int .i64 g.x.queue.next,.slice g.q3 g.x.queue.items.length g.c3] 29]) (fun g Bx=>g.k≤(ZaC set f.mail.length).length∧(g.x,g.c)=(((ZaC set f.mail.length).take g.k).map (Zc0 f.mail)).foldl (ZbH (ZaD (inF o n) x.folders).toNat) (x,(Zf9 x.users x.folders s.user (ZaD (inF o n) x.folders) 8))∧(g.c=0→(Zf9 x.users x.folders s.user (ZaD (inF o n) x.folders) 8)=0)∧ZA g.x=true∧g.x.domain.length≤2000000∧g.x.folders.length=x.folders.length∧SlK Bx g.q1 g.c1 3 Zh g.x.users∧SlK Bx g.q2 g.c2 5 Zb g.x.folders∧SlK Bx g.q3 g.c3 4 Zj g.x.queue.items) (fun g=>(ZaC set f.mail.length).length - g.k) ⟨0,x,(Zf9 x.users x.folders s.user (ZaD (inF o n) x.folders) 8),_,_,_,_,_,_⟩ t2 rfl (⟨Nat.zero_le _,rfl,id,hok,hd,rfl,hu11,hr12,hi11⟩) (fun g B17 hle17 hI=>?_))))))
 obtain ⟨hgk,hgs,hgc,hgo,hgd,hgl,hgu,hgf,hgi⟩:=hI
 have hgun:=hgu.len
 have hgin:=hgi.len
 replace hu:=hu.mono Zh.mono hle17
 replace hf:=hf.mono Zb.mono hle17
 replace hi:=hi.mono Zj.mono hle17
 replace hs:=hs.mono Za6.mono hle17
 replace hs16:=hs16.mono Zbu.mono hle17
 refine ZQ [(0,_),(1,_),(2,_),(3,_),(4,_),(5,_),(6,_),(10,_),(11,_),(12,_),(13,_),(14,_),(15,_),(16,_),(17,_),(28,_),(37,_)] [_,_,_,_,_] t17 rfl (Zm (Za (xM (h:=xM (h:=xV Tryz.underlying142 (h:=Zai (h:=xM (h:=Zt (d:=64) rfl (fun g6=>?_) (fun g6=>?_)))))))))
 try simp only [sQ,ne_eq] at g6
 refine xM (h:=ZF (h:=xT (h:=Zd rfl (fun g7=>?_) (fun g7=>?_))))
 try simp only [sQ,ne_eq] at g7
 obtain ⟨_,hk8,_⟩:=Zdp (hgc g7)
 obtain ⟨y,hy⟩:=Zax (xs:=ZaC set f.mail.length) (i:=g.k) oz
 have hyb:=Zjd (List.mem_of_getElem? hy)
 refine Zi (Zf (Zm (Zr (Zm (Z9 (keeps _ [0] _) mo kr ⟨Kn.le.refl _,Zar.refl _ _⟩ (fun _ _=>?_))))))
 refine aW 0 rfl Z0 (h:=aT 1 rfl (ZK fun D B L hI=>Zl rfl rfl Zcy rfl (atL 0 (hI.2.1.trans rfl) rfl rfl) r4) (h:=aM 2 rfl (h:=?_)))
 obtain ⟨_,⟨qg18,cg18,qm18,cm18,rfl,hg18,hm18,hb18,hb18b⟩,hc18⟩:=hf.elem hf0
 have hg18n:=hg18.len
 have hm18n:=hm18.len
 have hm18s:=Z4 hm18
 refine aIx 3 rfl Tryz.underlying24 Zbj (h:=aW 4 rfl Zcm (h:=aW 5 rfl ZaU (h:=aT 6 rfl (ZK fun D B L hI=>Zl rfl rfl ZfJ rfl ((hc18.mono hI.1) _ 4 _ rfl) r4) (h:=aM 7 rfl (h:=aM 8 rfl (h:=?_))))))
 obtain ⟨bb19,oo19,rfl⟩:=hs16.base hy
 obtain ⟨_,rfl,hc20⟩:=hs16.elem hy
 refine aIx 9 rfl Tryz.underlying142 sz3 (h:=aT 10 rfl (ZK fun D B L hI=>Zl rfl rfl lk3 rfl ((hc20.mono hI.1) _ 0 _ rfl) r4) (h:=aU 11 rfl (h:=?_)))
 obtain ⟨m,hm⟩:=Zd7 (xs:=f.mail) (i:=(y - 1)) om om
 obtain ⟨bb22,oo22,rfl⟩:=hm18.base hm
 obtain ⟨_,⟨rfl,hb23⟩,hc23⟩:=hm18.elem hm
 refine aIx 12 rfl Tryz.underlying54 ZcW (h:=?_)
 have hmo:=(Zdq hfb).1 m (List.mem_of_getElem? hm)
 have hmt:m.text.length≤20:=by simp only [Zbw,Bool.and_eq_true,decide_eq_true_eq] at hmo;exact hmo.2
 have hme:Zc0 f.mail y=m:=by simp only [Zc0,hm]
 refine aT 13 rfl (ZK fun D B L hI=>Zag [_,_,_] rfl rfl Zn5 rfl (Zl1 (hc23.mono hI.1) 0 rfl rfl) r4) (h:=Zv 14 kr rfl kr (Zam (l:=[_,_,_]) rfl rfl Zgf rfl (fun b24=>?_)))
 refine ⟨⟨Kn.le.refl _,t1⟩,(ZV 15 kr rfl kr kr kr (ZO [_,_,_] 5 [_,_,_] rfl rfl ZcW rfl rfl rfl rfl rfl rfl rfl rfl ?_))⟩
 refine Zf (Zw [_,_,_,_,_,_] rfl (Za (xL [_,_,_,_,_] Z2 4 (h:=xM (h:=xW ZfB (h:=x1 lk3 5 (h:=xW Zif (h:=x1 lk9 5 (h:=Zn (Zav rfl rfl Zr1 rfl (Zhd _ _ _ _ _ _ g.x (ZaD (inF o n) x.folders) m.flags m.text om2 (oy) oz oz om2 _ hgu hgf hgi) ?_))))))))))
 intro va Ba hlea
 rintro ⟨p1a,d1a,p2a,d2a,p3a,d3a,rfl,hua,hfa,hia,hda⟩
 replace hu:=hu.mono Zh.mono hlea
 replace hf:=hf.mono Zb.mono hlea
 replace hi:=hi.mono Zj.mono hlea
 replace hs:=hs.mono Za6.mono hlea
 replace hs16:=hs16.mono Zbu.mono hlea
 replace hgu:=hgu.mono Zh.mono hlea
 replace hgf:=hgf.mono Zb.mono hlea
 replace hgi:=hgi.mono Zj.mono hlea
 have huan:=hua.len
 have hfan:=hfa.len
 have hian:=hia.len
 refine xM (h:=xE (h:=xE (h:=xAl [_,_,_,_,_] Zba (h:=fun b26=>xS [_,_,_,_,_] 6 [_,_,_,_,_] Zaw (h:=xA (h:=Zw [_,_,_,_,_,_,_] rfl (Za (xL [_,_,_,_,_] Z2 6 (h:=xS [_,_,_,_,_] 4 [_,_,_,_,_] Zaw (h:=Zw [_,_,_,_,_,_,_] rfl (Ze (xM (h:=?_)))))))))))))
 refine xA (h:=Zz (Zf (Ze (xM (h:=xD (h:=xA (h:=?_)))))))
 exact ZE ⟨g.k+1,(ZbI g.x (ZaD (inF o n) x.folders).toNat m.flags m.text).1,(ZbI g.x (ZaD (inF o n) x.folders).toNat m.flags m.text).2,_,_,_,_,_,_⟩ [0,1,2,3,4] so2 ⟨so,by simp only [];rw [Zqw hy,← hgs,hme,ZbH,if_pos g7],fun _=>hgc g7,Zg8 hgo (by simp only [Zbw,Bool.and_eq_true,decide_eq_true_eq] at hmo;simp only [ZaQ,Bool.and_eq_true,decide_eq_true_eq];exact hmo.1.2) hmt,hda,by simp only [];rw [ZS.2.2.2];exact hgl,hua,hfa,hia⟩ t17 rfl
 try simp only [sQ,ne_eq] at g7
 have hfin:=Zlb (n:=n) hnn g5 hf0 (Zqv hgs g7)
 refine ZY (Zal (Z6 (ZN (Zf (Zm (Za (xM (h:=ZcZ (h:=Zd rfl (fun g8=>?_) (fun g8=>by simp at g8;exact absurd g8 g7))))))))))
 try simp only [sQ,ne_eq] at g8
 refine Za (xL [_,_,_,_,_] Z2 0 (h:=Zn (Zac rfl rfl Znp rfl (Zbd _ _ _ _ _ _ x _ hu hf hi) ?_)))
 rintro _ B27 _ hle27 ⟨l27,a27,c27,q127,c127,q327,c327,rfl,rfl,hu27,hs27,hi27⟩
 replace hu:=hu.mono Zh.mono hle27
 replace hf:=hf.mono Zb.mono hle27
 replace hi:=hi.mono Zj.mono hle27
 replace hs:=hs.mono Za6.mono hle27
 replace hs16:=hs16.mono Zbu.mono hle27
 replace hgu:=hgu.mono Zh.mono hle27
 replace hgf:=hgf.mono Zb.mono hle27
 replace hgi:=hgi.mono Zj.mono hle27
 have hu27n:=hu27.len
 have hi27n:=hi27.len
 refine ZZ 5 rfl hs27 Zb.mono om3 (fun B28 hle28 hr28=>?_)
 replace hu:=hu.mono Zh.mono hle28
 replace hf:=hf.mono Zb.mono hle28
 replace hi:=hi.mono Zj.mono hle28
 replace hs:=hs.mono Za6.mono hle28
 replace hs16:=hs16.mono Zbu.mono hle28
 replace hu27:=hu27.mono Zh.mono hle28
 replace hi27:=hi27.mono Zj.mono hle28
 replace hgu:=hgu.mono Zh.mono hle28
 replace hgf:=hgf.mono Zb.mono hle28
 replace hgi:=hgi.mono Zj.mono hle28
 have hr28n:=hr28.len
 refine xM (h:=?_)
 rw [hfin,if_neg g7]
 refine xS [_,_,_,_,_] 2 [_,_,_,_,_] Zaw (h:=xA (h:=Zw [_,_,_,_,_,_] rfl (Zg (Zs ?_))))
 exact Zaf .ret (.inl rfl) [_,_] [] rfl ⟨⟨_,rfl,.inr ⟨[_,_,_,_,_],Z2,Zad 2 rfl rfl rfl,rfl⟩⟩,rfl,trivial⟩ ⟨rfl,_,_,_,_,_,_,(by first | rfl | (simp only [DHost.withFolders,List.length_set];rfl)),hu27,hr28,hi27,by first | assumption | (rw [ZS.2.2.1];assumption)⟩
 try simp only [sQ,ne_eq] at g6
 rw [List.take_of_length_le oz] at hgs
 have hfin:=Zlb (n:=n) hnn g5 hf0 hgs
 refine xP (h:=xP (h:=xF (h:=Zd (t:=false) rfl (fun h=>Bool.noConfusion h) (fun _=>ZY (Zal (Z6 (ZN (Zf (Zm (Za (xM (h:=ZcZ (h:=Zd rfl (fun g8=>?_) (fun g8=>?_))))))))))))))
 try simp only [sQ,ne_eq] at g8
 refine Za (xL [_,_,_,_,_] Z2 0 (h:=Zn (Zac rfl rfl Znp rfl (Zbd _ _ _ _ _ _ x _ hu hf hi) ?_)))
 rintro _ B29 _ hle29 ⟨l29,a29,c29,q129,c129,q329,c329,rfl,rfl,hu29,hs29,hi29⟩
 replace hu:=hu.mono Zh.mono hle29
 replace hf:=hf.mono Zb.mono hle29
 replace hi:=hi.mono Zj.mono hle29
 replace hs:=hs.mono Za6.mono hle29
 replace hs16:=hs16.mono Zbu.mono hle29
 replace hgu:=hgu.mono Zh.mono hle29
 replace hgf:=hgf.mono Zb.mono hle29
 replace hgi:=hgi.mono Zj.mono hle29
 have hu29n:=hu29.len
 have hi29n:=hi29.len
 refine ZZ 5 rfl hs29 Zb.mono om3 (fun B30 hle30 hr30=>?_)
 replace hu:=hu.mono Zh.mono hle30
 replace hf:=hf.mono Zb.mono hle30
 replace hi:=hi.mono Zj.mono hle30
 replace hs:=hs.mono Za6.mono hle30
 replace hs16:=hs16.mono Zbu.mono hle30
 replace hu29:=hu29.mono Zh.mono hle30
 replace hi29:=hi29.mono Zj.mono hle30
 replace hgu:=hgu.mono Zh.mono hle30
 replace hgf:=hgf.mono Zb.mono hle30
 replace hgi:=hgi.mono Zj.mono hle30
 have hr30n:=hr30.len
 refine xM (h:=?_)
 rw [hfin,if_neg g8]
 refine xS [_,_,_,_,_] 2 [_,_,_,_,_] Zaw (h:=xA (h:=Zw [_,_,_,_,_,_] rfl (Zg (Zs ?_))))
 exact Zaf .ret (.inl rfl) [_,_] [] rfl ⟨⟨_,rfl,.inr ⟨[_,_,_,_,_],Z2,Zad 2 rfl rfl rfl,rfl⟩⟩,rfl,trivial⟩ ⟨rfl,_,_,_,_,_,_,(by first | rfl | (simp only [DHost.withFolders,List.length_set];rfl)),hu29,hr30,hi29,by first | assumption | (rw [ZS.2.2.1];assumption)⟩
 try simp only [sQ,ne_eq] at g8
 rw [hfin,if_pos g8]
 refine Zi (Zf (Za (xL [_,_,_,_,_] Z2 4 (h:=xS [_,_,_,_,_] 2 [_,_,_,_,_] Zaw (h:=xA (h:=Zw [_,_,_,_,_] rfl (Zg ?_)))))))
 exact Zaf .ret (.inl rfl) [_,_] [] rfl ⟨⟨_,rfl,.inr ⟨[_,_,_,_,_],Z2,Zad 2 rfl rfl rfl,rfl⟩⟩,rfl,trivial⟩ ⟨rfl,_,_,_,_,_,_,(by first | rfl | (simp only [DHost.withFolders,List.length_set];rfl)),hgu,hgf,hgi,by first | assumption | (rw [ZS.2.2.1];assumption)⟩

set_option maxHeartbeats 800000 in
theorem ZuV (q1 q2 q3:Option Addr) (c1 c2 c3:Nat) (x:DHost) (e:DEvent) (he1:e.by_.length≤2000000) (he2:e.owner.length≤2000000) (he3:e.name.length≤2000000) (he4:e.to_.length≤2000000) (he5:e.text.length≤2000000) (hd:x.domain.length≤2000000) (B:Kn) (hu:SlK B q1 c1 3 Zh x.users) (hf:SlK B q2 c2 5 Zb x.folders) (hi:SlK B q3 c3 4 Zj x.queue.items):ZM (pj J) 97 [.agg #[str x.domain,.slice q1 x.users.length c1,.slice q2 x.folders.length c2,.int .i64 x.queue.next,.slice q3 x.queue.items.length c3],.agg #[.int .i64 e.kind,str e.by_,str e.owner,str e.name,str e.to_,str e.text,.int .i64 e.a,.int .i64 e.b]] B [] (fun v B' Ls=>Ls=[]∧∃p1 d1 p2 d2 p3 d3,v = .tuple #[.agg #[str (Zhi x e).1.domain,.slice p1 (Zhi x e).1.users.length d1,.slice p2 (Zhi x e).1.folders.length d2,.int .i64 (Zhi x e).1.queue.next,.slice p3 (Zhi x e).1.queue.items.length d3],.int .i64 (Zhi x e).2]∧SlK B' p1 d1 3 Zh (Zhi x e).1.users∧SlK B' p2 d2 5 Zb (Zhi x e).1.folders∧SlK B' p3 d3 4 Zj (Zhi x e).1.queue.items∧(Zhi x e).1.domain.length≤2000000):=by
 refine Zc 124 Tryz.func97 rfl rfl rfl (Nat.le_of_ble_eq_true rfl) ?_
 have hun:=hu.len
 have hfn:=hf.len
 have hin:=hi.len
 refine Za (xBx [_,_,_,_,_] (h:=fun b1=>xBx [_,_,_,_,_,_,_,_] (h:=fun b2=>xAl [_,_,_,_,_] Zba (h:=fun b3=>xA (h:=Zw [_,_,_] rfl (Za (xW Zid (h:=x1 lk9 1 (h:=xW Znh (h:=x1 lk9 1 (h:=xW Zle (h:=x1 lk9 1 (h:=?_)))))))))))))
 refine xB [(0,_),(1,_),(2,_)] [_,_,_] [_,_,_] Zs6 Zkg (h:=xAl [_,_,_] Zkg (h:=fun b4=>xS [_,_,_] 3 [_,_,_] ZlR (h:=Zw [_,_,_,_] rfl (Za (xW Zcl (h:=x1 lk3 1 (h:=xW Zcl (h:=x1 lk3 1 (h:=xB [(0,_),(1,_)] [_,_] [_,_] ZvY Zt8 (h:=xBs [(0,_)] [_,_] Tryz.underlying200 Zo8 Zt8 (h:=fun b5=>xA (h:=Zw [_,_,_,_,_] rfl ?_))))))))))))
 have hvq:Z3 B (ZaY b5 [.int .i64 e.a,.int .i64 e.a] 199) (some ⟨b5,0,none⟩) 1 199 2 Za6 [⟨e.a,e.a⟩]:=Z3.lit (rows:=[[.int .i64 e.a,.int .i64 e.a]]) (.cons rfl .nil) (by intro row hr;simp only [List.mem_cons,List.not_mem_nil,or_false] at hr;rcases hr with rfl;rfl)
 refine ZdA 4 rfl hvq Za6.mono om3 (fun B6 hle6 hr6=>?_)
 replace hu:=hu.mono Zh.mono hle6
 replace hf:=hf.mono Zb.mono hle6
 replace hi:=hi.mono Zj.mono hle6
 have hr6n:=hr6.len
 refine Zm (Za (xW Zc1 (h:=x1 lk3 1 (h:=Zw [_,_,_,_,_] rfl (Zr (Za (ZF (h:=xA (h:=Zd rfl (fun k1=>?_) (fun k1=>?_))))))))))
 try simp only [sQ,ne_eq] at k1
 rw [Zhi,if_pos k1]
 refine Za (xL [_,_,_,_,_] Z2 0 (h:=xW Zid (h:=x1 lk9 1 (h:=xW Zle (h:=x1 lk9 1 (h:=Zn (Zav rfl rfl ZwD rfl (ZkF _ _ _ _ _ _ x e.by_ e.name om2 om2 om2 _ hu hf hi) ?_)))))))
 intro v7 B7 hle7
 rintro ⟨p17,d17,p27,d27,p37,d37,rfl,hu7,hf7,hi7,hd7⟩
 replace hu:=hu.mono Zh.mono hle7
 replace hf:=hf.mono Zb.mono hle7
 replace hi:=hi.mono Zj.mono hle7
 replace hr6:=hr6.mono Za6.mono hle7
 have hu7n:=hu7.len
 have hf7n:=hf7.len
 have hi7n:=hi7.len
 refine xE (h:=xE (h:=xS [_,_,_,_,_] 2 [_,_,_,_,_] Zaw (h:=xA (h:=Zw [_,_,_,_,_] rfl (Zg (ZI (Zs ?_)))))))
 exact Zaf .ret (.inl rfl) [_,_] [] rfl ⟨⟨_,rfl,.inr ⟨[_,_,_,_,_],Z2,Zad 2 rfl rfl rfl,rfl⟩⟩,rfl,trivial⟩ ⟨rfl,_,_,_,_,_,_,rfl,hu7,hf7,hi7,oy⟩
 try simp only [sQ,ne_eq] at k1
 refine Za (ZF (h:=xA (h:=Zd rfl (fun k2=>?_) (fun k2=>?_))))
 try simp only [sQ,ne_eq] at k2
 rw [Zhi,if_neg k1,if_pos k2]
 refine Za (xL [_,_,_,_,_] Z2 0 (h:=xW Zid (h:=x1 lk9 1 (h:=xW Znh (h:=x1 lk9 1 (h:=xW Zle (h:=x1 lk9 1 (h:=xW Zfa (h:=x1 lk9 1 (h:=xW Zcl (h:=x1 lk3 1 (h:=Zn (Zav rfl rfl ZwC rfl (ZlY _ _ _ _ _ _ x e.by_ e.owner e.name e.to_ e.a om2 om2 om2 om2 om2 _ hu hf hi) ?_)))))))))))))
 intro v8 B8 hle8
 rintro ⟨p18,d18,p28,d28,p38,d38,rfl,hu8,hf8,hi8,hd8⟩
 replace hu:=hu.mono Zh.mono hle8
 replace hf:=hf.mono Zb.mono hle8
 replace hi:=hi.mono Zj.mono hle8
 replace hr6:=hr6.mono Za6.mono hle8
 have hu8n:=hu8.len
 have hf8n:=hf8.len
 have hi8n:=hi8.len
 refine xE (h:=xE (h:=xS [_,_,_,_,_] 2 [_,_,_,_,_] Zaw (h:=xA (h:=Zw [_,_,_,_,_] rfl (Zg (ZI (Zs ?_)))))))
 exact Zaf .ret (.inl rfl) [_,_] [] rfl ⟨⟨_,rfl,.inr ⟨[_,_,_,_,_],Z2,Zad 2 rfl rfl rfl,rfl⟩⟩,rfl,trivial⟩ ⟨rfl,_,_,_,_,_,_,rfl,hu8,hf8,hi8,oy⟩
 try simp only [sQ,ne_eq] at k2
 refine Za (ZF (h:=xA (h:=Zd rfl (fun k3=>?_) (fun k3=>?_))))
 try simp only [sQ,ne_eq] at k3
 rw [Zhi,if_neg k1,if_neg k2,if_pos k3]
 refine Za (xL [_,_,_,_,_] Z2 0 (h:=xW Zid (h:=x1 lk9 1 (h:=xW Znh (h:=x1 lk9 1 (h:=xW Zle (h:=x1 lk9 1 (h:=xW Zcl (h:=x1 lk3 1 (h:=xW ZsG (h:=x1 lk9 1 (h:=Zn (Zav rfl rfl ZwB rfl (Zpg _ _ _ _ _ _ x e.by_ e.owner e.name e.a e.text om2 om2 om2 om2 om2 _ hu hf hi) ?_)))))))))))))
 intro v9 B9 hle9
 rintro ⟨p19,d19,p29,d29,p39,d39,rfl,hu9,hf9,hi9,hd9⟩
 replace hu:=hu.mono Zh.mono hle9
 replace hf:=hf.mono Zb.mono hle9
 replace hi:=hi.mono Zj.mono hle9
 replace hr6:=hr6.mono Za6.mono hle9
 have hu9n:=hu9.len
 have hf9n:=hf9.len
 have hi9n:=hi9.len
 refine xE (h:=xE (h:=xS [_,_,_,_,_] 2 [_,_,_,_,_] Zaw (h:=xA (h:=Zw [_,_,_,_,_] rfl (Zg (ZI (Zs ?_)))))))
 exact Zaf .ret (.inl rfl) [_,_] [] rfl ⟨⟨_,rfl,.inr ⟨[_,_,_,_,_],Z2,Zad 2 rfl rfl rfl,rfl⟩⟩,rfl,trivial⟩ ⟨rfl,_,_,_,_,_,_,rfl,hu9,hf9,hi9,oy⟩
 try simp only [sQ,ne_eq] at k3
 refine Za (ZF (h:=xA (h:=Zd rfl (fun k4=>?_) (fun k4=>?_))))
 try simp only [sQ,ne_eq] at k4
 refine Za (xL [_,_,_,_,_] Z2 0 (h:=xW Zid (h:=x1 lk9 1 (h:=xW Zfa (h:=x1 lk9 1 (h:=xBs [(0,_)] [_] Tryz.underlying78 sz9 zo9 (h:=fun b10=>ZZ 5 rfl (Z3.strs (ls:=([e.to_]:List Str)) (by first | decide | (simp;done) | (simp;omega))) Za7.mono om3 (fun B11 hle11 hr11=>?_))))))))
 replace hu:=hu.mono Zh.mono hle11
 replace hf:=hf.mono Zb.mono hle11
 replace hi:=hi.mono Zj.mono hle11
 replace hr6:=hr6.mono Za6.mono hle11
 have hr11n:=hr11.len
 refine xW ZsG (h:=?_)
 rw [Zhi,if_neg k1,if_neg k2,if_neg k3,if_pos k4]
 refine x1 lk9 1 (h:=xB [(0,_),(1,_),(2,_)] [_,_,_] [_,_,_] Zri Znz (h:=Zn (Zav rfl rfl ZwA rfl (ZkD _ _ _ _ _ _ x _ _ (⟨e.by_,([e.to_]:List Str),e.text⟩) om2 _ hu hf hi hr11 om2 om2) ?_)))
 intro v12 B12 hle12
 rintro ⟨p112,d112,p212,d212,p312,d312,rfl,hu12,hf12,hi12,hd12⟩
 replace hu:=hu.mono Zh.mono hle12
 replace hf:=hf.mono Zb.mono hle12
 replace hi:=hi.mono Zj.mono hle12
 replace hr6:=hr6.mono Za6.mono hle12
 replace hr11:=hr11.mono Za7.mono hle12
 have hu12n:=hu12.len
 have hf12n:=hf12.len
 have hi12n:=hi12.len
 refine xE (h:=xE (h:=xS [_,_,_,_,_] 2 [_,_,_,_,_] Zaw (h:=xA (h:=Zw [_,_,_,_,_,_] rfl (Zg (ZI (Zs ?_)))))))
 exact Zaf .ret (.inl rfl) [_,_] [] rfl ⟨⟨_,rfl,.inr ⟨[_,_,_,_,_],Z2,Zad 2 rfl rfl rfl,rfl⟩⟩,rfl,trivial⟩ ⟨rfl,_,_,_,_,_,_,rfl,hu12,hf12,hi12,oy⟩
 try simp only [sQ,ne_eq] at k4
 refine Za (ZF (h:=xA (h:=Zd rfl (fun k5=>?_) (fun k5=>?_))))
 try simp only [sQ,ne_eq] at k5
 rw [Zhi,if_neg k1,if_neg k2,if_neg k3,if_neg k4,if_pos k5]
 refine Za (xL [_,_,_,_,_] Z2 0 (h:=xW Zcl (h:=x1 lk3 1 (h:=xW Zfa (h:=x1 lk9 1 (h:=Zn (Zav rfl rfl Zwz rfl (ZjC _ _ _ _ _ _ x e.a e.to_ om2 om2 _ hu hf hi) ?_)))))))
 intro v13 B13 hle13
 rintro ⟨p113,d113,p213,d213,p313,d313,rfl,hu13,hf13,hi13,hd13⟩
 replace hu:=hu.mono Zh.mono hle13
 replace hf:=hf.mono Zb.mono hle13
 replace hi:=hi.mono Zj.mono hle13
 replace hr6:=hr6.mono Za6.mono hle13
 have hu13n:=hu13.len
 have hf13n:=hf13.len
 have hi13n:=hi13.len
 refine xE (h:=xE (h:=xS [_,_,_,_,_] 2 [_,_,_,_,_] Zaw (h:=xA (h:=Zw [_,_,_,_,_] rfl (Zg (ZI (Zs ?_)))))))
 exact Zaf .ret (.inl rfl) [_,_] [] rfl ⟨⟨_,rfl,.inr ⟨[_,_,_,_,_],Z2,Zad 2 rfl rfl rfl,rfl⟩⟩,rfl,trivial⟩ ⟨rfl,_,_,_,_,_,_,rfl,hu13,hf13,hi13,oy⟩
 try simp only [sQ,ne_eq] at k5
 refine Za (ZF (h:=xA (h:=Zd rfl (fun k6=>?_) (fun k6=>?_))))
 try simp only [sQ,ne_eq] at k6
 rw [Zhi,if_neg k1,if_neg k2,if_neg k3,if_neg k4,if_neg k5,if_pos k6]
 refine Za (xL [_,_,_,_,_] Z2 0 (h:=xL [_,_,_] Zgo 3 (h:=xM (h:=xW Zp5 (h:=x1 lk3 1 (h:=Zn (Zav rfl rfl Zwy rfl (ZlX _ _ _ _ _ _ x (⟨e.by_,e.owner,e.name⟩) om2 om2 om2 _ _ ([⟨e.a,e.a⟩]:List DSpan) 1 e.b om2 _ hu hf hi hr6) ?_)))))))
 intro v14 B14 hle14
 rintro ⟨p114,d114,p214,d214,p314,d314,rfl,hu14,hf14,hi14,hd14⟩
 replace hu:=hu.mono Zh.mono hle14
 replace hf:=hf.mono Zb.mono hle14
 replace hi:=hi.mono Zj.mono hle14
 replace hr6:=hr6.mono Za6.mono hle14
 have hu14n:=hu14.len
 have hf14n:=hf14.len
 have hi14n:=hi14.len
 refine xE (h:=xE (h:=xS [_,_,_,_,_] 2 [_,_,_,_,_] Zaw (h:=xA (h:=Zw [_,_,_,_,_] rfl (Zg (ZI (Zs ?_)))))))
 exact Zaf .ret (.inl rfl) [_,_] [] rfl ⟨⟨_,rfl,.inr ⟨[_,_,_,_,_],Z2,Zad 2 rfl rfl rfl,rfl⟩⟩,rfl,trivial⟩ ⟨rfl,_,_,_,_,_,_,rfl,hu14,hf14,hi14,oy⟩
 try simp only [sQ,ne_eq] at k6
 refine Za (ZF (h:=xA (h:=Zd rfl (fun k7=>?_) (fun k7=>?_))))
 try simp only [sQ,ne_eq] at k7
 rw [Zhi,if_neg k1,if_neg k2,if_neg k3,if_neg k4,if_neg k5,if_neg k6,if_pos k7]
 refine Za (xL [_,_,_,_,_] Z2 0 (h:=xL [_,_,_] Zgo 3 (h:=Zn (Zav rfl rfl Zwx rfl (ZnI _ _ _ _ _ _ x (⟨e.by_,e.owner,e.name⟩) om2 om2 om2 om2 _ hu hf hi) ?_))))
 intro v15 B15 hle15
 rintro ⟨p115,d115,p215,d215,p315,d315,p415,d415,rfl,hu15,hf15,hi15,hg15,hd15⟩
 replace hu:=hu.mono Zh.mono hle15
 replace hf:=hf.mono Zb.mono hle15
 replace hi:=hi.mono Zj.mono hle15
 replace hr6:=hr6.mono Za6.mono hle15
 have hu15n:=hu15.len
 have hf15n:=hf15.len
 have hi15n:=hi15.len
 have hg15n:=hg15.len
 refine xM (h:=xE (h:=xE (h:=xE (h:=xAl [_,_,_,_,_] Zba (h:=fun b16=>xS [_,_,_,_,_] 5 [_,_,_,_,_] Zaw (h:=xA (h:=xA (h:=Zw [_,_,_,_,_,_] rfl (Za (xL [_,_,_,_,_] Z2 5 (h:=xM (h:=xS [_,_,_,_,_] 2 [_,_,_,_,_] Zaw (h:=?_)))))))))))))
 refine xA (h:=Zw [_,_,_,_,_,_] rfl (Zg (ZI (Zs ?_))))
 exact Zaf .ret (.inl rfl) [_,_] [] rfl ⟨⟨_,rfl,.inr ⟨[_,_,_,_,_],Z2,Zad 2 rfl rfl rfl,rfl⟩⟩,rfl,trivial⟩ ⟨rfl,_,_,_,_,_,_,rfl,hu15,hf15,hi15,oy⟩
 try simp only [sQ,ne_eq] at k7
 refine Za (ZF (h:=xA (h:=Zd rfl (fun k8=>?_) (fun k8=>?_))))
 try simp only [sQ,ne_eq] at k8
 rw [Zhi,if_neg k1,if_neg k2,if_neg k3,if_neg k4,if_neg k5,if_neg k6,if_neg k7,if_pos k8]
 refine Za (xL [_,_,_,_,_] Z2 0 (h:=xL [_,_,_] Zgo 3 (h:=xM (h:=xW Zfa (h:=x1 lk9 1 (h:=Zn (Zav rfl rfl Zww rfl (ZnK _ _ _ _ _ _ x (⟨e.by_,e.owner,e.name⟩) om2 om2 om2 _ _ ([⟨e.a,e.a⟩]:List DSpan) e.to_ [105,110,98,111,120] om2 om2 om2 _ hu hf hi hr6) ?_)))))))
 intro v17 B17 hle17
 rintro ⟨p117,d117,p217,d217,p317,d317,rfl,hu17,hf17,hi17,hd17⟩
 replace hu:=hu.mono Zh.mono hle17
 replace hf:=hf.mono Zb.mono hle17
 replace hi:=hi.mono Zj.mono hle17
 replace hr6:=hr6.mono Za6.mono hle17
 have hu17n:=hu17.len
 have hf17n:=hf17.len
 have hi17n:=hi17.len
 refine xE (h:=xE (h:=xS [_,_,_,_,_] 2 [_,_,_,_,_] Zaw (h:=xA (h:=Zw [_,_,_,_,_] rfl (Zg (ZI (Zs ?_)))))))
 exact Zaf .ret (.inl rfl) [_,_] [] rfl ⟨⟨_,rfl,.inr ⟨[_,_,_,_,_],Z2,Zad 2 rfl rfl rfl,rfl⟩⟩,rfl,trivial⟩ ⟨rfl,_,_,_,_,_,_,rfl,hu17,hf17,hi17,oy⟩
 try simp only [sQ,ne_eq] at k8
 rw [Zhi,if_neg k1,if_neg k2,if_neg k3,if_neg k4,if_neg k5,if_neg k6,if_neg k7,if_neg k8]
 refine Zi (Zz (Zf (Za (xB [] [_,_,_,_,_] [_,_,_,_,_] ZdV Zba (h:=xS [_,_,_,_,_] 2 [_,_,_,_,_] Zaw (h:=xA (h:=Zw [_,_,_,_,_] rfl (Zg ?_))))))))
 exact Zaf .ret (.inl rfl) [_,_] [] rfl ⟨⟨_,rfl,.inr ⟨[_,_,_,_,_],Z2,Zad 2 rfl rfl rfl,rfl⟩⟩,rfl,trivial⟩ ⟨rfl,none,0,none,0,none,0,rfl,SlK.nil,SlK.nil,SlK.nil,by simp [Za4]⟩

set_option maxHeartbeats 800000 in
theorem Zq7 (q1 q2 q3:Option Addr) (c1 c2 c3:Nat) (x:DHost) (e:DEvent) (he1:e.by_.length≤2000000) (he2:e.owner.length≤2000000) (he3:e.name.length≤2000000) (he4:e.to_.length≤2000000) (he5:e.text.length≤2000000) (hd:x.domain.length≤2000000) (B:Kn) (hu:SlK B q1 c1 3 Zh x.users) (hf:SlK B q2 c2 5 Zb x.folders) (hi:SlK B q3 c3 4 Zj x.queue.items):ZM (pj J) 54 [.agg #[str x.domain,.slice q1 x.users.length c1,.slice q2 x.folders.length c2,.int .i64 x.queue.next,.slice q3 x.queue.items.length c3],.agg #[.int .i64 e.kind,str e.by_,str e.owner,str e.name,str e.to_,str e.text,.int .i64 e.a,.int .i64 e.b]] B [] (fun v B' Ls=>Ls=[]∧∃p1 d1 p2 d2 p3 d3,v = .tuple #[.agg #[str (hDo x e).1.domain,.slice p1 (hDo x e).1.users.length d1,.slice p2 (hDo x e).1.folders.length d2,.int .i64 (hDo x e).1.queue.next,.slice p3 (hDo x e).1.queue.items.length d3],.int .i64 (hDo x e).2]∧SlK B' p1 d1 3 Zh (hDo x e).1.users∧SlK B' p2 d2 5 Zb (hDo x e).1.folders∧SlK B' p3 d3 4 Zj (hDo x e).1.queue.items∧(hDo x e).1.domain.length≤2000000):=by
 refine Zc 25 Tryz.func54 rfl rfl rfl (Nat.le_of_ble_eq_true rfl) ?_
 have hun:=hu.len
 have hfn:=hf.len
 have hin:=hi.len
 refine Za (xBx [_,_,_,_,_] (h:=fun b1=>xBx [_,_,_,_,_,_,_,_] (h:=fun b2=>xAl [_,_,_,_,_] Zba (h:=fun b3=>xA (h:=Zw [_,_,_] rfl (Zm (Za (xL [_,_,_,_,_] Z2 0 (h:=xR Zqn rfl (Zbm _ _ _ _ _ _ x om2 _ hu hf hi) (h:=?_))))))))))
 refine xN (h:=Zd rfl (fun g1=>?_) (fun g1=>?_))
 try simp only [sQ,ne_eq] at g1
 rw [hDo,if_pos g1]
 refine Za (xB [] [_,_,_,_,_] [_,_,_,_,_] ZdV Zba (h:=xS [_,_,_,_,_] 2 [_,_,_,_,_] Zaw (h:=xA (h:=Zw [_,_,_] rfl (Zg (Zs ?_))))))
 exact Zaf .ret (.inl rfl) [_,_] [] rfl ⟨⟨_,rfl,.inr ⟨[_,_,_,_,_],Z2,Zad 2 rfl rfl rfl,rfl⟩⟩,rfl,trivial⟩ ⟨rfl,none,0,none,0,none,0,rfl,SlK.nil,SlK.nil,SlK.nil,by simp [Za4]⟩
 try simp only [sQ,ne_eq] at g1
 have hnn : ¬ ZA x=false:=by simpa using g1
 refine Zi (Zf (Za (xL [_,_,_,_,_] Z2 0 (h:=xL [_,_,_,_,_,_,_,_] Zv2 1 (h:=Zn (Zav rfl rfl Zxm rfl (ZuV _ _ _ _ _ _ x e om2 om2 om2 om2 om2 om2 _ hu hf hi) ?_))))))
 intro v5 B5 hle5
 rintro ⟨p15,d15,p25,d25,p35,d35,rfl,hu5,hf5,hi5,hd5⟩
 replace hu:=hu.mono Zh.mono hle5
 replace hf:=hf.mono Zb.mono hle5
 replace hi:=hi.mono Zj.mono hle5
 have hu5n:=hu5.len
 have hf5n:=hf5.len
 have hi5n:=hi5.len
 refine xM (h:=xE (h:=xE (h:=xAl [_,_,_,_,_] Zba (h:=fun b6=>xS [_,_,_,_,_] 3 [_,_,_,_,_] Zaw (h:=xA (h:=Zw [_,_,_,_] rfl (Zm (Za (xM (h:=ZF (h:=Zd rfl (fun g2=>?_) (fun g2=>?_))))))))))))
 try simp only [sQ,ne_eq] at g2
 refine Za (xL [_,_,_,_,_] Z2 0 (h:=Zn (Zac rfl rfl Znp rfl (Zbd _ _ _ _ _ _ x _ hu hf hi) ?_)))
 rintro _ B7 _ hle7 ⟨l7,a7,c7,q17,c17,q37,c37,rfl,rfl,hu7,hs7,hi7⟩
 replace hu:=hu.mono Zh.mono hle7
 replace hf:=hf.mono Zb.mono hle7
 replace hi:=hi.mono Zj.mono hle7
 replace hu5:=hu5.mono Zh.mono hle7
 replace hf5:=hf5.mono Zb.mono hle7
 replace hi5:=hi5.mono Zj.mono hle7
 have hu7n:=hu7.len
 have hi7n:=hi7.len
 refine ZZ 4 rfl hs7 Zb.mono om3 (fun B8 hle8 hr8=>?_)
 replace hu:=hu.mono Zh.mono hle8
 replace hf:=hf.mono Zb.mono hle8
 replace hi:=hi.mono Zj.mono hle8
 replace hu7:=hu7.mono Zh.mono hle8
 replace hi7:=hi7.mono Zj.mono hle8
 replace hu5:=hu5.mono Zh.mono hle8
 replace hf5:=hf5.mono Zb.mono hle8
 replace hi5:=hi5.mono Zj.mono hle8
 have hr8n:=hr8.len
 refine xM (h:=?_)
 rw [hDo,if_neg hnn,if_pos g2]
 refine xS [_,_,_,_,_] 2 [_,_,_,_,_] Zaw (h:=xA (h:=Zw [_,_,_,_,_] rfl (Zg (Zs ?_))))
 exact Zaf .ret (.inl rfl) [_,_] [] rfl ⟨⟨_,rfl,.inr ⟨[_,_,_,_,_],Z2,Zad 2 rfl rfl rfl,rfl⟩⟩,rfl,trivial⟩ ⟨rfl,_,_,_,_,_,_,(by rw [g2];rfl),hu7,hr8,hi7,by first | assumption | (rw [ZS.2.2.1];assumption)⟩
 try simp only [sQ,ne_eq] at g2
 rw [hDo,if_neg hnn,if_neg g2]
 refine Zi (Zf (Za (xL [_,_,_,_,_] Z2 3 (h:=xM (h:=xS [_,_,_,_,_] 2 [_,_,_,_,_] Zaw (h:=xA (h:=Zw [_,_,_,_] rfl (Zg ?_))))))))
 exact Zaf .ret (.inl rfl) [_,_] [] rfl ⟨⟨_,rfl,.inr ⟨[_,_,_,_,_],Z2,Zad 2 rfl rfl rfl,rfl⟩⟩,rfl,trivial⟩ ⟨rfl,_,_,_,_,_,_,(by first | rfl | (simp only [DHost.withFolders,List.length_set];rfl)),hu5,hf5,hi5,by first | assumption | (rw [ZS.2.2.1];assumption)⟩

set_option maxHeartbeats 400000 in
theorem Ztf (b:Nat) (q:Option Addr) (m cp p:Nat) (q1:Option Addr) (c1:Nat) (ls:List Str) (hp:p≤900000000000) (hn:1≤ls.length) (hn2:ls.length≤1000000000000) (hm:m≤2000) (B:Kn) (hbm:Zak B q m) (hl:SlK B q1 c1 1 Za7 ls):Ex1 (pj J) 56 [ptr ⟨b,0,none⟩,.slice q1 ls.length c1] B (rd b q m cp p) (fun v s=>∃x,x∈ls∧v=str x∧s=rd b q m cp (p+1)):=by
 refine Zc 12 Tryz.func56 rfl rfl rfl (Nat.le_of_ble_eq_true rfl) ?_
 refine Za (xA (h:=Za (xM (h:=xM (h:=xM (h:=xV Tryz.underlying78 (h:=xX 0 rfl Za0 rfl (ZL _ _ _ _ _ _ oz oz oz hm _ hbm) (h:=?_))))))))
 rintro _ _ ⟨rk,rfl,rka,rkb,rfl⟩
 obtain ⟨z,hz⟩:=Zd7 (xs:=ls) (i:=rk) om om
 obtain ⟨bb3,oo3,rfl⟩:=hl.base hz
 obtain ⟨_,⟨rfl,hb4⟩,hc4⟩:=hl.elem hz
 refine xIx Tryz.underlying78 sz9 (h:=y1 lk9 hc4 0 (h:=xA (h:=Zw [_] rfl (Zg ?_))))
 exact ZfE .ret (.inl rfl) [_] 0 rfl t1 ⟨rfl,_,rfl,z,List.mem_of_getElem? hz,rfl,rfl⟩

set_option maxHeartbeats 400000 in
theorem ZhR (b:Nat) (q:Option Addr) (m cp p:Nat) (hp:p≤850000000000) (hm:m≤2000) (B:Kn) (hbm:Zak B q m):Ex1 (pj J) 98 [ptr ⟨b,0,none⟩] B (rd b q m cp p) (fun v s=>∃(z:Int) (k:Nat),v = .int .i64 z∧-1≤z∧z≤80∧k≤p+3∧s=rd b q m cp k):=by
 refine Zc 17 Tryz.func98 rfl rfl rfl (Nat.le_of_ble_eq_true rfl) ?_
 refine Za (xA (h:=Zm (Za (xM (h:=xX 0 rfl Za0 rfl (ZL _ _ _ _ _ _ oz oz oz hm _ hbm) (h:=?_))))))
 rintro _ _ ⟨r1,rfl,r1a,r1b,rfl⟩
 refine ZF (h:=Zw [_] rfl (Zd rfl (fun g1=>?_) (fun g1=>?_)))
 try simp only [sQ,ne_eq] at g1
 refine Za (xBs [(0,_),(1,_),(2,_),(3,_)] [_,_,_,_] Tryz.underlying142 sz3 zo3 (h:=fun b2=>?_))
 have hvq3:Z3 B (ZaY b2 (([(-1),0,63,64]:List Int).map fun x=>.int .i64 x) 3) (some ⟨b2,0,none⟩) 4 3 1 Zbu ([(-1),0,63,64]:List Int):=Z3.ints
 refine xM (h:=xX 0 rfl Za0 rfl (ZL _ _ _ _ _ _ oz oz oz hm _ hbm) (h:=?_))
 rintro _ _ ⟨r4,rfl,r4a,r4b,rfl⟩
 obtain ⟨e,he⟩:=Zd7 (xs:=([(-1),0,63,64]:List Int)) (i:=r4) om om
 obtain ⟨bb6,_,hp6,rfl,hw6,hc6⟩:=hvq3.row he
 refine xIp hp6 Tryz.underlying142 sz3 (h:=?_)
 have hme:=List.mem_of_getElem? he
 refine Zn (Zl rfl rfl lk3 rfl (hc6 _ 1 rfl 0 _ rfl) (xA (h:=Zw [_,_] rfl (Zg (Zs ?_)))))
 exact ZfE .ret (.inl rfl) [_] 0 rfl t1 ⟨rfl,_,rfl,e,_,rfl,by simp only [List.mem_cons,List.not_mem_nil,or_false] at hme;omega,by simp only [List.mem_cons,List.not_mem_nil,or_false] at hme;omega,oz,rfl⟩
 try simp only [sQ,ne_eq] at g1
 refine Zi (Zf (Za (xM (h:=xX 0 rfl Za0 rfl (ZL _ _ _ _ _ _ oz oz oz hm _ hbm) (h:=?_)))))
 rintro _ _ ⟨r7,rfl,r7a,r7b,rfl⟩
 refine xY (h:=xM (h:=xX 0 rfl Za0 rfl (ZL _ _ _ _ _ _ oz oz oz hm _ hbm) (h:=?_)))
 rintro _ _ ⟨r8,rfl,r8a,r8b,rfl⟩
 refine xD (h:=xA (h:=Zw [_] rfl (Zg ?_)))
 exact ZfE .ret (.inl rfl) [_] 0 rfl t1 ⟨rfl,_,rfl,_,_,rfl,oz,oz,oz,rfl⟩

set_option maxHeartbeats 400000 in
theorem ZhQ (b:Nat) (q:Option Addr) (m cp p:Nat) (hp:p≤850000000000) (hm:m≤2000) (B:Kn) (hbm:Zak B q m):Ex1 (pj J) 24 [ptr ⟨b,0,none⟩] B (rd b q m cp p) (fun v s=>∃(x:Str) (k:Nat),v=str x∧x.length≤40∧k≤p+3∧s=rd b q m cp k):=by
 refine Zc 11 Tryz.func24 rfl rfl rfl (Nat.le_of_ble_eq_true rfl) ?_
 refine Za (xA (h:=Zm (Za (xM (h:=xX 0 rfl Za0 rfl (ZL _ _ _ _ _ _ oz oz oz hm _ hbm) (h:=?_))))))
 rintro _ _ ⟨r1,rfl,r1a,r1b,rfl⟩
 refine ZF (h:=Zw [_] rfl (Zd rfl (fun g1=>?_) (fun g1=>?_)))
 try simp only [sQ,ne_eq] at g1
 refine Za (xM (h:=xX 0 rfl Zr0 rfl (Zcu _ _ _ _ _ oz hm _ hbm) (h:=?_)))
 rintro _ _ ⟨x2,rfl,hx2,rfl⟩
 refine xA (h:=Zw [_] rfl (Zg (Zs ?_)))
 exact ZfE .ret (.inl rfl) [_] 0 rfl t1 ⟨rfl,_,rfl,_,_,rfl,oa,oz,rfl⟩
 try simp only [sQ,ne_eq] at g1
 refine Zi (Zf (Za (xM (h:=xBs [(0,_),(1,_),(2,_)] [_,_,_] Tryz.underlying78 sz9 zo9 (h:=fun b3=>Zn (Z8 [0,1] rfl rfl rfl rfl Zno rfl (Zpq _ _ _ _ _ _ ([[97,109,121],[98,111,98],[99,121,100]]:List Str) oz (by decide) (by decide) hm _ hbm) ?_))))))
 rintro _ B4 _ hle4 ⟨rfl,x4,hx4,rfl,rfl⟩
 replace hx4:=(show∀y∈( ([[97,109,121],[98,111,98],[99,121,100]]:List Str):List Str),y.length≤40 from by decide) _ hx4
 refine xA (h:=Zw [_,_] rfl (Zg ?_))
 exact ZfE .ret (.inl rfl) [_] 0 rfl t1 ⟨rfl,_,rfl,_,_,rfl,oa,oz,rfl⟩

set_option maxHeartbeats 400000 in
theorem Zna (b:Nat) (q:Option Addr) (m cp p:Nat) (hp:p≤800000000000) (hm:m≤2000) (q1 q2 q3:Option Addr) (d1 d2 d3:Nat) (x:DHost) (B:Kn) (hbm:Zak B q m) (hf:SlK B q2 d2 5 Zb x.folders):Ex1 (pj J) 12 [ptr ⟨b,0,none⟩,.agg #[str x.domain,.slice q1 x.users.length d1,.slice q2 x.folders.length d2,.int .i64 x.queue.next,.slice q3 x.queue.items.length d3]] B (rd b q m cp p) (fun v s=>∃(y z:Str) (k:Nat),v = .tuple #[str y,str z]∧y.length≤2000000∧z.length≤2000000∧k≤p+6∧s=rd b q m cp k):=by
 refine Zc 35 Tryz.func12 rfl rfl rfl (Nat.le_of_ble_eq_true rfl) ?_
 have hfn:=hf.len
 refine Za (xBx [_,_,_,_,_] (h:=fun b1=>xA (h:=xA (h:=Zw [_,_] rfl (Zm (Za (xW Z0 (h:=x1 Zcy 1 (h:=xV Tryz.underlying24 (h:=ZbA (h:=xM (h:=Zt (d:=12) rfl (fun g1=>?_) (fun g1=>?_)))))))))))))
 try simp only [sQ,ne_eq] at g1
 refine xM (h:=xX 0 rfl Za0 rfl (ZL _ _ _ _ _ _ oz oz oz hm _ hbm) (h:=?_))
 rintro _ _ ⟨r2,rfl,r2a,r2b,rfl⟩
 refine ZbA (h:=xT (h:=Zw [_,_] rfl (Zd rfl (fun g2=>?_) (fun g2=>?_))))
 try simp only [sQ,ne_eq] at g2
 refine Zm (Z9 (keeps _ [1] _) mo kr ⟨Kn.le.refl _,Zar.refl _ _⟩ (fun _ _=>?_))
 refine aW 0 rfl Z0 (h:=aT 1 rfl (ZK fun D B L hI=>Zl rfl rfl Zcy rfl (atL 1 (hI.2.1.trans rfl) rfl rfl) r4) (h:=aM 2 rfl (h:=aW 3 rfl Z0 (h:=aT 4 rfl (ZK fun D B L hI=>Zl rfl rfl Zcy rfl (atL 1 (hI.2.1.trans rfl) rfl rfl) r4) (h:=aV 5 rfl Tryz.underlying24 (h:=Zap [6,9] kr kr kr ⟨?_,?_⟩))))))
 refine (Zcp 0 rfl rfl rfl Za0 rfl (ZL _ _ _ _ _ _ oz oz oz hm _ hbm) ?_)
 rintro _ _ ⟨rk,rfl,rka,rkb,rfl⟩
 refine ⟨⟨Kn.le.refl _,t1⟩,?_⟩
 obtain ⟨w,hw⟩:=Zd7 (xs:=x.folders) (i:=rk) om om
 obtain ⟨bb5,oo5,rfl⟩:=hf.base hw
 obtain ⟨_,⟨qg6,cg6,qm6,cm6,rfl,hg6,hm6,hb6,hb6b⟩,hc6⟩:=hf.elem hw
 have hg6n:=hg6.len
 have hm6n:=hm6.len
 have hm6s:=Z4 hm6
 refine aIx 7 rfl Tryz.underlying24 Zbj (h:=aT 8 rfl (ZK fun D B L hI=>Zag [_,_,_,_,_] rfl rfl ZgQ rfl (Zl1 (hc6.mono hI.1) 0 rfl rfl) r4) (h:=Zv 9 kr rfl kr (Zam (l:=[_,_,_,_,_]) rfl rfl Zdx rfl (fun b7=>?_))))
 refine ⟨⟨Kn.le.refl _,t1⟩,(ZV 10 kr rfl kr kr kr (ZO [_,_,_,_,_] 2 [_,_,_,_,_] rfl rfl Zbj rfl rfl rfl rfl rfl rfl rfl rfl ?_))⟩
 refine Zf (Zw [_,_,_] rfl (Zm (Z9 (same _ _) mo kr ⟨rfl,rfl⟩ (fun _ _=>?_))))
 refine aW 0 rfl ZcU (h:=aT 1 rfl (Zan fun D=>Zl rfl rfl lk9 rfl (atL 2 rfl rfl rfl) r4) (h:=aW 2 rfl Zfb (h:=aT 3 rfl (Zan fun D=>Zl rfl rfl lk9 rfl (atL 2 rfl rfl rfl) r4) (h:=aA 4 rfl (h:=aA 5 rfl (h:=ZD kr kr ?_))))))
 refine Zf (Zg (Zs ?_))
 exact ZfE .ret (.inl rfl) [_,_] 0 rfl t2 ⟨rfl,_,rfl,_,_,_,rfl,oa,oa,oz,rfl⟩
 refine (Zam (l:=[_,_,_,_,_]) rfl rfl Zdx rfl (fun b8=>⟨⟨Kn.le.refl _,t1⟩,(Zv 6 kr rfl kr (Zcp 0 rfl rfl rfl Za0 rfl (ZL _ _ _ _ _ _ oz oz oz hm _ hbm) ?_))⟩))
 rintro _ _ ⟨rk,rfl,rka,rkb,rfl⟩
 refine ⟨⟨Kn.le.refl _,t1⟩,?_⟩
 obtain ⟨w,hw⟩:=Zd7 (xs:=x.folders) (i:=rk) om om
 obtain ⟨bb11,oo11,rfl⟩:=hf.base hw
 obtain ⟨_,⟨qg12,cg12,qm12,cm12,rfl,hg12,hm12,hb12,hb12b⟩,hc12⟩:=hf.elem hw
 have hg12n:=hg12.len
 have hm12n:=hm12.len
 have hm12s:=Z4 hm12
 refine aIx 7 rfl Tryz.underlying24 Zbj (h:=aT 8 rfl (ZK fun D B L hI=>Zag [_,_,_,_,_] rfl rfl ZgQ rfl (Zl1 (hc12.mono hI.1) 0 rfl rfl) r4) (h:=ZV 10 kr rfl kr kr kr (ZO [_,_,_,_,_] 2 [_,_,_,_,_] rfl rfl Zbj rfl rfl rfl rfl rfl rfl rfl rfl ?_)))
 refine Zf (Zw [_,_,_] rfl (Zm (Z9 (same _ _) mo kr ⟨rfl,rfl⟩ (fun _ _=>?_))))
 refine aW 0 rfl ZcU (h:=aT 1 rfl (Zan fun D=>Zl rfl rfl lk9 rfl (atL 2 rfl rfl rfl) r4) (h:=aW 2 rfl Zfb (h:=aT 3 rfl (Zan fun D=>Zl rfl rfl lk9 rfl (atL 2 rfl rfl rfl) r4) (h:=aA 4 rfl (h:=aA 5 rfl (h:=ZD kr kr ?_))))))
 refine Zf (Zg (Zs ?_))
 exact ZfE .ret (.inl rfl) [_,_] 0 rfl t2 ⟨rfl,_,rfl,_,_,_,rfl,oa,oa,oz,rfl⟩
 try simp only [sQ,ne_eq] at g2
 refine Zi (Zf (Za (xM (h:=xX 0 rfl Zwg rfl (ZhQ _ _ _ _ _ oz hm _ hbm) (h:=?_)))))
 rintro _ _ ⟨x13,k13,rfl,hx13,hk13,rfl⟩
 refine xA (h:=Zw [_,_] rfl (Za (xM (h:=xM (h:=xX 0 rfl Zr0 rfl (Zcu _ _ _ _ _ oz hm _ hbm) (h:=?_))))))
 rintro _ _ ⟨x14,rfl,hx14,rfl⟩
 refine xA (h:=xA (h:=Zw [_,_] rfl (Zg ?_)))
 exact ZfE .ret (.inl rfl) [_,_] 0 rfl t2 ⟨rfl,_,rfl,_,_,_,rfl,oa,oa,oz,rfl⟩
 try simp only [sQ,ne_eq] at g1
 refine xP (h:=xP (h:=xP (h:=xF (h:=Zd (t:=false) rfl (fun h=>Bool.noConfusion h) (fun _=>Zi (Zf (Za (xM (h:=xX 0 rfl Zwg rfl (ZhQ _ _ _ _ _ oz hm _ hbm) (h:=?_))))))))))
 rintro _ _ ⟨x15,k15,rfl,hx15,hk15,rfl⟩
 refine xA (h:=Zw [_,_] rfl (Za (xM (h:=xM (h:=xX 0 rfl Zr0 rfl (Zcu _ _ _ _ _ oz hm _ hbm) (h:=?_))))))
 rintro _ _ ⟨x16,rfl,hx16,rfl⟩
 refine xA (h:=xA (h:=Zw [_,_] rfl (Zg ?_)))
 exact ZfE .ret (.inl rfl) [_,_] 0 rfl t2 ⟨rfl,_,rfl,_,_,_,rfl,oa,oa,oz,rfl⟩

set_option maxHeartbeats 1600000 in
theorem Zoa (b:Nat) (q:Option Addr) (m cp p:Nat) (hp:p≤750000000000) (hm:m≤2000) (q1 q2 q3:Option Addr) (d1 d2 d3:Nat) (x:DHost) (hleft :∀y,y∈x.queue.items→0<y.left.length) (B:Kn) (hbm:Zak B q m) (hi:SlK B q3 d3 4 Zj x.queue.items):ZM (pj J) 55 [ptr ⟨b,0,none⟩,.agg #[str x.domain,.slice q1 x.users.length d1,.slice q2 x.folders.length d2,.int .i64 x.queue.next,.slice q3 x.queue.items.length d3]] B [rd b q m cp p] (fun v B' Ls=>∃(e:DEvent) (k:Nat),v = .agg #[.int .i64 e.kind,str e.by_,str e.owner,str e.name,str e.to_,str e.text,.int .i64 e.a,.int .i64 e.b]∧e.by_.length≤40∧e.owner.length≤40∧e.name.length≤40∧e.to_.length≤2000000∧e.text.length≤40∧k≤p+60∧Ls=[rd b q m cp k]):=by
 refine Zc 148 Tryz.func55 rfl rfl rfl (Nat.le_of_ble_eq_true rfl) ?_
 have hin:=hi.len
 refine Za (xBx [_,_,_,_,_] (h:=fun b1=>xAl [_,_,_,_,_,_,_,_] ZvD (h:=fun b2=>Zw [_,_,_] rfl (Za (xBs [(0,_),(1,_),(2,_)] [_,_,_] Tryz.underlying78 sz9 zo9 (h:=fun b3=>xA (h:=Zw [_,_,_,_] rfl (Za (ZZ 3 rfl (Z3.strs (ls:=([[97,109,121],[98,111,98],[99,121,100]]:List Str)) (by first | decide | (simp;done) | (simp;omega))) Za7.mono om3 (fun B4 hle4 hr4=>?_))))))))))
 replace hi:=hi.mono Zj.mono hle4
 replace hbm:=hbm.mono hle4
 have hr4n:=hr4.len
 refine xM (h:=xM (h:=xX 0 rfl Zno rfl (Ztf _ _ _ _ _ _ _ ([[97,109,121],[98,111,98],[99,121,100]]:List Str) oz (by decide) (by decide) hm _ hbm hr4) (h:=?_)))
 rintro _ _ ⟨x5,hx5,rfl,rfl⟩
 replace hx5:=(show∀y∈(([[97,109,121],[98,111,98],[99,121,100]]:List Str):List Str),y.length≤40 from by decide) _ hx5
 refine xM (h:=xM (h:=xX 0 rfl Zno rfl (Ztf _ _ _ _ _ _ _ ([[97,109,121],[98,111,98],[99,121,100]]:List Str) oz (by decide) (by decide) hm _ hbm hr4) (h:=?_)))
 rintro _ _ ⟨x6,hx6,rfl,rfl⟩
 replace hx6:=(show∀y∈(([[97,109,121],[98,111,98],[99,121,100]]:List Str):List Str),y.length≤40 from by decide) _ hx6
 refine xM (h:=xBs [(0,_),(1,_),(2,_),(3,_)] [_,_,_,_] Tryz.underlying78 sz9 zo9 (h:=fun b7=>Zn (Z8 [0,4] rfl rfl rfl rfl Zno rfl (Zpq _ _ _ _ _ _ ([[105,110,98,111,120],[105,110,98,111,120],[98,111,120,49],[120]]:List Str) oz (by decide) (by decide) hm _ hbm) ?_)))
 rintro _ B8 _ hle8 ⟨rfl,x8,hx8,rfl,rfl⟩
 replace hx8:=(show∀y∈( ([[105,110,98,111,120],[105,110,98,111,120],[98,111,120,49],[120]]:List Str):List Str),y.length≤40 from by decide) _ hx8
 refine xM (h:=xM (h:=xX 0 rfl Zno rfl (Ztf _ _ _ _ _ _ _ ([[97,109,121],[98,111,98],[99,121,100]]:List Str) oz (by decide) (by decide) hm _ hbm hr4) (h:=?_)))
 rintro _ _ ⟨x9,hx9,rfl,rfl⟩
 replace hx9:=(show∀y∈(([[97,109,121],[98,111,98],[99,121,100]]:List Str):List Str),y.length≤40 from by decide) _ hx9
 refine xM (h:=xX 0 rfl Zu3 rfl (ZeG _ _ _ _ _ oz hm _ hbm) (h:=?_))
 rintro _ _ ⟨x10,rfl,hx10,rfl⟩
 refine xB [(1,_),(2,_),(3,_),(4,_),(5,_)] [_,_,_,_,_,_,_,_] [_,_,_,_,_,_,_,_] Zxf ZvD (h:=xAl [_,_,_,_,_,_,_,_] ZvD (h:=fun b11=>xS [_,_,_,_,_,_,_,_] 5 [_,_,_,_,_,_,_,_] ZwT (h:=Zw [_,_,_,_,_,_] rfl (Zkl (α:=DEvent × Nat) [0,1,3,4,5,6] (fun g=>[]) [0,5] (fun g=>[rd b q m cp g.2,ZaY b11 [.int .i64 g.1.kind,str g.1.by_,str g.1.owner,str g.1.name,str g.1.to_,str g.1.text,.int .i64 g.1.a,.int .i64 g.1.b] 98]) (fun g=>[]) (fun g Bx=>g.1.by_.length≤40∧g.1.owner.length≤40∧g.1.name.length≤40∧g.1.to_.length≤2000000∧g.1.text.length≤40∧g.2≤p+7) ?_ (fun g B12 hle12 hF=>?_)))))
 refine Za (xM (h:=xX 0 rfl Za0 rfl (ZL _ _ _ _ _ _ oz oz oz hm _ hbm) (h:=?_)))
 rintro _ _ ⟨r13,rfl,r13a,r13b,rfl⟩
 refine ZbA (h:=Zw [_,_,_,_,_,_] rfl (Zd rfl (fun e1=>?_) (fun e1=>?_)))
 try simp only [sQ,ne_eq] at e1
 refine Ze (xW Zid (h:=x1 lk9 5 (h:=xW Znh (h:=xS [_] 5 [_,_,_,_,_,_,_,_] sz9 (h:=?_)))))
 exact ZH ⟨⟨0,x5,x5,x8,x9,x10,0,0⟩,((((((p+1)+1)+1)+1)+2)+1)⟩ [0,1,2,3,4,5] ⟨ob,ob,ob,ob,ob,ob⟩ t6 rfl
 try simp only [sQ,ne_eq] at e1
 refine Zi ?_
 exact ZH ⟨⟨0,x5,x6,x8,x9,x10,0,0⟩,((((((p+1)+1)+1)+1)+2)+1)⟩ [0,1,2,3,4,5] ⟨ob,ob,ob,ob,ob,ob⟩ t6 rfl
 obtain ⟨hg1,hg2,hg3,hg4,hg5,hgp⟩:=hF
 replace hi:=hi.mono Zj.mono hle12
 replace hr4:=hr4.mono Za7.mono hle12
 replace hbm:=hbm.mono hle12
 refine ZQ [(0,_),(1,_),(3,_),(4,_),(5,_),(6,_)] [_,_,_,_,_,_] t6 rfl (Zkl (α:=DEvent × Nat) [0,1,3,4,5,6] (fun j=>[]) [0,5] (fun j=>[rd b q m cp j.2,ZaY b11 [.int .i64 j.1.kind,str j.1.by_,str j.1.owner,str j.1.name,str j.1.to_,str j.1.text,.int .i64 j.1.a,.int .i64 j.1.b] 98]) (fun j=>[]) (fun j Bx=>j.1.by_.length≤40∧j.1.owner.length≤40∧j.1.name.length≤40∧j.1.to_.length≤2000000∧j.1.text.length≤40∧j.2≤p+20) ?_ (fun j B14 hle14 hF=>?_))
 refine Za (xM (h:=xX 0 rfl Za0 rfl (ZL _ _ _ _ _ _ oz oz oz hm _ hbm) (h:=?_)))
 rintro _ _ ⟨rk,rfl,rka,rkb,rfl⟩
 refine Zw [_,_,_,_,_,_] rfl (Zr (Za (ZF (h:=xA (h:=Zd rfl (fun a0=>?_) (fun a0=>?_))))))
 try simp only [sQ,ne_eq] at a0
 refine Ze (xW Zc1 (h:=xS [_] 5 [_,_,_,_,_,_,_,_] sz3 (h:=Zz ?_)))
 exact ZH ⟨⟨1,g.1.by_,g.1.owner,g.1.name,g.1.to_,g.1.text,g.1.a,g.1.b⟩,(g.2+1)⟩ [0,1,2,3,4,5] ⟨ob,ob,ob,ob,ob,ob⟩ t6 rfl
 try simp only [sQ,ne_eq] at a0
 refine Zm (Za (ZF (h:=xA (h:=Zd rfl (fun a1=>?_) (fun a1=>?_)))))
 try simp only [sQ,ne_eq] at a1
 refine Zi (Zf (Zd rfl (fun a1t=>?_) (fun a1t=>by simp [a1] at a1t)))
 try simp only [sQ,ne_eq] at a1t
 refine Za (xW Zc1 (h:=xS [_] 5 [_,_,_,_,_,_,_,_] sz3 (h:=Zw [_,_,_,_,_,_] rfl (Za (xM (h:=xX 0 rfl ZwW rfl (ZhR _ _ _ _ _ oz hm _ hbm) (h:=?_)))))))
 rintro _ _ ⟨z16,k16,rfl,hz16,hz16b,hk16,rfl⟩
 refine xW Zcl (h:=xS [_] 5 [_,_,_,_,_,_,_,_] sz3 (h:=Zw [_,_,_,_,_,_] rfl (Za (xM (h:=xX 0 rfl Za0 rfl (ZL _ _ _ _ _ _ oz oz oz hm _ hbm) (h:=?_))))))
 rintro _ _ ⟨r17,rfl,r17a,r17b,rfl⟩
 refine ZF (h:=Zw [_,_,_,_,_,_] rfl (Zd rfl (fun b1=>?_) (fun b1=>?_)))
 try simp only [sQ,ne_eq] at b1
 refine Ze (xW Zfa (h:=xS [_] 5 [_,_,_,_,_,_,_,_] sz9 (h:=Zz ?_)))
 exact ZH ⟨⟨2,g.1.by_,g.1.owner,g.1.name,[97,110,121,111,110,101],g.1.text,z16,g.1.b⟩,(k16+1)⟩ [0,1,2,3,4,5] ⟨ob,ob,ob,ob,ob,ob⟩ t6 rfl
 try simp only [sQ,ne_eq] at b1
 refine Zi (Zz ?_)
 exact ZH ⟨⟨2,g.1.by_,g.1.owner,g.1.name,g.1.to_,g.1.text,z16,g.1.b⟩,(k16+1)⟩ [0,1,2,3,4,5] ⟨ob,ob,ob,ob,ob,ob⟩ t6 rfl
 try simp only [sQ,ne_eq] at a1
 refine Ze (ZF (h:=xA (h:=Zf (Zd rfl (fun a2=>?_) (fun a2=>?_)))))
 try simp only [sQ,ne_eq] at a2
 refine Za (xW Zc1 (h:=xS [_] 5 [_,_,_,_,_,_,_,_] sz3 (h:=Zw [_,_,_,_,_,_] rfl (Za (xM (h:=xX 0 rfl ZwW rfl (ZhR _ _ _ _ _ oz hm _ hbm) (h:=?_)))))))
 rintro _ _ ⟨z18,k18,rfl,hz18,hz18b,hk18,rfl⟩
 refine xW Zcl (h:=xS [_] 5 [_,_,_,_,_,_,_,_] sz3 (h:=Zw [_,_,_,_,_,_] rfl (Za (xM (h:=xX 0 rfl Za0 rfl (ZL _ _ _ _ _ _ oz oz oz hm _ hbm) (h:=?_))))))
 rintro _ _ ⟨r19,rfl,r19a,r19b,rfl⟩
 refine ZF (h:=Zw [_,_,_,_,_,_] rfl (Zd rfl (fun b1=>?_) (fun b1=>?_)))
 try simp only [sQ,ne_eq] at b1
 refine Ze (xW Zfa (h:=xS [_] 5 [_,_,_,_,_,_,_,_] sz9 (h:=Zz ?_)))
 exact ZH ⟨⟨2,g.1.by_,g.1.owner,g.1.name,[97,110,121,111,110,101],g.1.text,z18,g.1.b⟩,(k18+1)⟩ [0,1,2,3,4,5] ⟨ob,ob,ob,ob,ob,ob⟩ t6 rfl
 try simp only [sQ,ne_eq] at b1
 refine Zi (Zz ?_)
 exact ZH ⟨⟨2,g.1.by_,g.1.owner,g.1.name,g.1.to_,g.1.text,z18,g.1.b⟩,(k18+1)⟩ [0,1,2,3,4,5] ⟨ob,ob,ob,ob,ob,ob⟩ t6 rfl
 try simp only [sQ,ne_eq] at a2
 refine Zm (Za (ZF (h:=xA (h:=Zd rfl (fun a3=>?_) (fun a3=>?_)))))
 try simp only [sQ,ne_eq] at a3
 refine Zi (Zf (Zd rfl (fun a3t=>?_) (fun a3t=>by simp [a3] at a3t)))
 try simp only [sQ,ne_eq] at a3t
 refine Za (xW Zc1 (h:=xS [_] 5 [_,_,_,_,_,_,_,_] sz3 (h:=Zw [_,_,_,_,_,_] rfl (Ze (xM (h:=xX 0 rfl Za0 rfl (ZL _ _ _ _ _ _ oz oz oz hm _ hbm) (h:=?_)))))))
 rintro _ _ ⟨r20,rfl,r20a,r20b,rfl⟩
 refine xW Zcl (h:=xS [_] 5 [_,_,_,_,_,_,_,_] sz3 (h:=Zz ?_))
 exact ZH ⟨⟨3,g.1.by_,g.1.owner,g.1.name,g.1.to_,g.1.text,r20,g.1.b⟩,((g.2+1)+1)⟩ [0,1,2,3,4,5] ⟨ob,ob,ob,ob,ob,ob⟩ t6 rfl
 try simp only [sQ,ne_eq] at a3
 refine Za (ZF (h:=xA (h:=Zd rfl (fun a4=>?_) (fun a4=>?_))))
 try simp only [sQ,ne_eq] at a4
 refine Zi (Zf (Zd rfl (fun a4t=>?_) (fun a4t=>by simp [a4] at a4t)))
 try simp only [sQ,ne_eq] at a4t
 refine Za (xW Zc1 (h:=xS [_] 5 [_,_,_,_,_,_,_,_] sz3 (h:=Zw [_,_,_,_,_,_] rfl (Ze (xM (h:=xX 0 rfl Za0 rfl (ZL _ _ _ _ _ _ oz oz oz hm _ hbm) (h:=?_)))))))
 rintro _ _ ⟨r21,rfl,r21a,r21b,rfl⟩
 refine xW Zcl (h:=xS [_] 5 [_,_,_,_,_,_,_,_] sz3 (h:=Zz ?_))
 exact ZH ⟨⟨3,g.1.by_,g.1.owner,g.1.name,g.1.to_,g.1.text,r21,g.1.b⟩,((g.2+1)+1)⟩ [0,1,2,3,4,5] ⟨ob,ob,ob,ob,ob,ob⟩ t6 rfl
 try simp only [sQ,ne_eq] at a4
 refine Ze (ZF (h:=xA (h:=Zf (Zd rfl (fun a5=>?_) (fun a5=>?_)))))
 try simp only [sQ,ne_eq] at a5
 refine Za (xW Zc1 (h:=xS [_] 5 [_,_,_,_,_,_,_,_] sz3 (h:=Zw [_,_,_,_,_,_] rfl (Ze (xM (h:=xX 0 rfl Za0 rfl (ZL _ _ _ _ _ _ oz oz oz hm _ hbm) (h:=?_)))))))
 rintro _ _ ⟨r22,rfl,r22a,r22b,rfl⟩
 refine xW Zcl (h:=xS [_] 5 [_,_,_,_,_,_,_,_] sz3 (h:=Zz ?_))
 exact ZH ⟨⟨3,g.1.by_,g.1.owner,g.1.name,g.1.to_,g.1.text,r22,g.1.b⟩,((g.2+1)+1)⟩ [0,1,2,3,4,5] ⟨ob,ob,ob,ob,ob,ob⟩ t6 rfl
 try simp only [sQ,ne_eq] at a5
 refine Zm (Za (ZF (h:=xA (h:=Zd rfl (fun a6=>?_) (fun a6=>?_)))))
 try simp only [sQ,ne_eq] at a6
 refine Zi (Zf (Zd rfl (fun a6t=>?_) (fun a6t=>by simp [a6] at a6t)))
 try simp only [sQ,ne_eq] at a6t
 refine Ze (xW Zc1 (h:=xS [_] 5 [_,_,_,_,_,_,_,_] sz3 (h:=Zz ?_)))
 exact ZH ⟨⟨4,g.1.by_,g.1.owner,g.1.name,g.1.to_,g.1.text,g.1.a,g.1.b⟩,(g.2+1)⟩ [0,1,2,3,4,5] ⟨ob,ob,ob,ob,ob,ob⟩ t6 rfl
 try simp only [sQ,ne_eq] at a6
 refine Ze (ZF (h:=xA (h:=Zf (Zd rfl (fun a7=>?_) (fun a7=>?_)))))
 try simp only [sQ,ne_eq] at a7
 refine Ze (xW Zc1 (h:=xS [_] 5 [_,_,_,_,_,_,_,_] sz3 (h:=Zz ?_)))
 exact ZH ⟨⟨4,g.1.by_,g.1.owner,g.1.name,g.1.to_,g.1.text,g.1.a,g.1.b⟩,(g.2+1)⟩ [0,1,2,3,4,5] ⟨ob,ob,ob,ob,ob,ob⟩ t6 rfl
 try simp only [sQ,ne_eq] at a7
 refine Zm (Za (ZF (h:=xA (h:=Zd rfl (fun a8=>?_) (fun a8=>?_)))))
 try simp only [sQ,ne_eq] at a8
 refine Zi (Zf (Zd rfl (fun a8t=>?_) (fun a8t=>by simp [a8] at a8t)))
 try simp only [sQ,ne_eq] at a8t
 refine Za (xW Zc1 (h:=xS [_] 5 [_,_,_,_,_,_,_,_] sz3 (h:=Zw [_,_,_,_,_,_] rfl (Za (xM (h:=xX 0 rfl Za0 rfl (ZL _ _ _ _ _ _ oz oz oz hm _ hbm) (h:=?_)))))))
 rintro _ _ ⟨r23,rfl,r23a,r23b,rfl⟩
 refine xD (h:=xW Zcl (h:=xS [_] 5 [_,_,_,_,_,_,_,_] sz3 (h:=Zw [_,_,_,_,_,_] rfl (Za (xW ZcA (h:=xW ZaI (h:=x1 Zfz 1 (h:=xV Tryz.underlying25 (h:=ZbA (h:=xM (h:=Zt (d:=71) rfl (fun d1=>?_) (fun d1=>?_))))))))))))
 try simp only [sQ,ne_eq] at d1
 refine xM (h:=xX 0 rfl Za0 rfl (ZL _ _ _ _ _ _ oz oz oz hm _ hbm) (h:=?_))
 rintro _ _ ⟨r24,rfl,r24a,r24b,rfl⟩
 refine ZbA (h:=xT (h:=Zw [_,_,_,_,_,_] rfl (Zd rfl (fun d2=>?_) (fun d2=>?_))))
 try simp only [sQ,ne_eq] at d2
 refine Zm (Z9 (keeps _ [1] _) mo kr ⟨Kn.le.refl _,Zar.refl _ _⟩ (fun _ _=>?_))
 refine aW 0 rfl ZcA (h:=aW 1 rfl ZaI (h:=aT 2 rfl (ZK fun D B L hI=>Zl rfl rfl Zfz rfl (atL 1 (hI.2.1.trans rfl) rfl rfl) r4) (h:=aM 3 rfl (h:=aW 4 rfl ZcA (h:=aW 5 rfl ZaI (h:=aT 6 rfl (ZK fun D B L hI=>Zl rfl rfl Zfz rfl (atL 1 (hI.2.1.trans rfl) rfl rfl) r4) (h:=aV 7 rfl Tryz.underlying25 (h:=Zap [8,11] kr kr kr ⟨?_,?_⟩))))))))
 refine (Zcp 0 rfl rfl rfl Za0 rfl (ZL _ _ _ _ _ _ oz oz oz hm _ hbm) ?_)
 rintro _ _ ⟨rkd,rfl,rkda,rkdb,rfl⟩
 refine ⟨⟨Kn.le.refl _,t1⟩,?_⟩
 obtain ⟨w,hw⟩:=Zd7 (xs:=x.queue.items) (i:=rkd) om om
 obtain ⟨bb27,oo27,rfl⟩:=hi.base hw
 obtain ⟨_,⟨qi28,ci28,rfl,hi28,hb28,hb28b⟩,hc28⟩:=hi.elem hw
 have hi28n:=hi28.len
 refine aIx 9 rfl Tryz.underlying25 Zer (h:=?_)
 have hwl:=hleft w (List.mem_of_getElem? hw)
 refine aT 10 rfl (ZK fun D B L hI=>Zag [_,_,_,_] rfl rfl ZlF rfl (Zl1 (hc28.mono hI.1) 0 rfl rfl) r4) (h:=Zv 11 kr rfl kr (Zam (l:=[_,_,_,_]) rfl rfl ZiD rfl (fun b29=>?_)))
 refine ⟨⟨Kn.le.refl _,t1⟩,(ZV 12 kr rfl kr kr kr (ZO [_,_,_,_] 6 [_,_,_,_] rfl rfl Zer rfl rfl rfl rfl rfl rfl rfl rfl ?_))⟩
 refine Zf (Zw [_,_,_,_,_,_,_] rfl (Za (xW ZeM (h:=x1 lk3 6 (h:=xW Zcl (h:=xS [_] 5 [_,_,_,_,_,_,_,_] sz3 (h:=Zw [_,_,_,_,_,_,_] rfl (Z9 (keeps _ [5,6] _) mo kr ⟨Kn.le.refl _,Zar.refl _ _⟩ (fun _ _=>?_)))))))))
 refine aW 0 rfl ZbG (h:=aT 1 rfl (ZK fun D B L hI=>Zl rfl rfl Zhc rfl (atL 6 (hI.2.2.1.trans rfl) rfl rfl) r4) (h:=aM 2 rfl (h:=aW 3 rfl ZbG (h:=aT 4 rfl (ZK fun D B L hI=>Zl rfl rfl Zhc rfl (atL 6 (hI.2.2.1.trans rfl) rfl rfl) r4) (h:=aV 5 rfl Tryz.underlying78 (h:=Zv 6 kr rfl kr (Zcp 0 rfl rfl rfl Za0 rfl (ZL _ _ _ _ _ _ oz oz oz hm _ hbm) ?_)))))))
 rintro _ _ ⟨rke,rfl,rkea,rkeb,rfl⟩
 refine ⟨⟨Kn.le.refl _,t2⟩,?_⟩
 obtain ⟨ws,hws⟩:=Zd7 (xs:=w.left) (i:=rke) om om
 obtain ⟨bb32,oo32,rfl⟩:=hi28.base hws
 obtain ⟨_,⟨rfl,hb33⟩,hc33⟩:=hi28.elem hws
 refine aIx 7 rfl Tryz.underlying78 sz9 (h:=aT 8 rfl (ZK fun D B L hI=>Zl rfl rfl lk9 rfl ((hc33.mono hI.1) _ 0 _ rfl) r4) (h:=aW 9 rfl Zfa (h:=ZV 10 kr rfl kr kr kr (ZO [_] 5 [_,_,_,_,_,_,_,_] rfl rfl sz9 rfl rfl rfl rfl rfl rfl rfl rfl ?_))))
 refine Zz ?_
 exact ZH ⟨⟨5,g.1.by_,g.1.owner,g.1.name,ws,g.1.text,w.id,g.1.b⟩,(((((g.2+1)+1)+1)+1)+1)⟩ [0,1,2,3,4,5] ⟨ob,ob,ob,ob,ob,ob⟩ t6 rfl
 refine (Zam (l:=[_,_,_,_]) rfl rfl ZiD rfl (fun b34=>⟨⟨Kn.le.refl _,t1⟩,(Zv 8 kr rfl kr (Zcp 0 rfl rfl rfl Za0 rfl (ZL _ _ _ _ _ _ oz oz oz hm _ hbm) ?_))⟩))
 rintro _ _ ⟨rkd,rfl,rkda,rkdb,rfl⟩
 refine ⟨⟨Kn.le.refl _,t1⟩,?_⟩
 obtain ⟨w,hw⟩:=Zd7 (xs:=x.queue.items) (i:=rkd) om om
 obtain ⟨bb37,oo37,rfl⟩:=hi.base hw
 obtain ⟨_,⟨qi38,ci38,rfl,hi38,hb38,hb38b⟩,hc38⟩:=hi.elem hw
 have hi38n:=hi38.len
 refine aIx 9 rfl Tryz.underlying25 Zer (h:=?_)
 have hwl:=hleft w (List.mem_of_getElem? hw)
 refine aT 10 rfl (ZK fun D B L hI=>Zag [_,_,_,_] rfl rfl ZlF rfl (Zl1 (hc38.mono hI.1) 0 rfl rfl) r4) (h:=ZV 12 kr rfl kr kr kr (ZO [_,_,_,_] 6 [_,_,_,_] rfl rfl Zer rfl rfl rfl rfl rfl rfl rfl rfl ?_))
 refine Zf (Zw [_,_,_,_,_,_,_] rfl (Za (xW ZeM (h:=x1 lk3 6 (h:=xW Zcl (h:=xS [_] 5 [_,_,_,_,_,_,_,_] sz3 (h:=Zw [_,_,_,_,_,_,_] rfl (Z9 (keeps _ [5,6] _) mo kr ⟨Kn.le.refl _,Zar.refl _ _⟩ (fun _ _=>?_)))))))))
 refine aW 0 rfl ZbG (h:=aT 1 rfl (ZK fun D B L hI=>Zl rfl rfl Zhc rfl (atL 6 (hI.2.2.1.trans rfl) rfl rfl) r4) (h:=aM 2 rfl (h:=aW 3 rfl ZbG (h:=aT 4 rfl (ZK fun D B L hI=>Zl rfl rfl Zhc rfl (atL 6 (hI.2.2.1.trans rfl) rfl rfl) r4) (h:=aV 5 rfl Tryz.underlying78 (h:=Zv 6 kr rfl kr (Zcp 0 rfl rfl rfl Za0 rfl (ZL _ _ _ _ _ _ oz oz oz hm _ hbm) ?_)))))))
 rintro _ _ ⟨rke,rfl,rkea,rkeb,rfl⟩
 refine ⟨⟨Kn.le.refl _,t2⟩,?_⟩
 obtain ⟨ws,hws⟩:=Zd7 (xs:=w.left) (i:=rke) om om
 obtain ⟨bb41,oo41,rfl⟩:=hi38.base hws
 obtain ⟨_,⟨rfl,hb42⟩,hc42⟩:=hi38.elem hws
 refine aIx 7 rfl Tryz.underlying78 sz9 (h:=aT 8 rfl (ZK fun D B L hI=>Zl rfl rfl lk9 rfl ((hc42.mono hI.1) _ 0 _ rfl) r4) (h:=aW 9 rfl Zfa (h:=ZV 10 kr rfl kr kr kr (ZO [_] 5 [_,_,_,_,_,_,_,_] rfl rfl sz9 rfl rfl rfl rfl rfl rfl rfl rfl ?_))))
 refine Zz ?_
 exact ZH ⟨⟨5,g.1.by_,g.1.owner,g.1.name,ws,g.1.text,w.id,g.1.b⟩,(((((g.2+1)+1)+1)+1)+1)⟩ [0,1,2,3,4,5] ⟨ob,ob,ob,ob,ob,ob⟩ t6 rfl
 try simp only [sQ,ne_eq] at d2
 refine Zi (Zz ?_)
 exact ZH ⟨⟨5,g.1.by_,g.1.owner,g.1.name,g.1.to_,g.1.text,(1+r23),g.1.b⟩,(((g.2+1)+1)+1)⟩ [0,1,2,3,4,5] ⟨ob,ob,ob,ob,ob,ob⟩ t6 rfl
 try simp only [sQ,ne_eq] at d1
 refine xP (h:=xP (h:=xP (h:=xF (h:=Zd (t:=false) rfl (fun h=>Bool.noConfusion h) (fun _=>Zi (Zz ?_))))))
 exact ZH ⟨⟨5,g.1.by_,g.1.owner,g.1.name,g.1.to_,g.1.text,(1+r23),g.1.b⟩,((g.2+1)+1)⟩ [0,1,2,3,4,5] ⟨ob,ob,ob,ob,ob,ob⟩ t6 rfl
 try simp only [sQ,ne_eq] at a8
 refine Ze (ZF (h:=xA (h:=Zf (Zd rfl (fun a9=>?_) (fun a9=>?_)))))
 try simp only [sQ,ne_eq] at a9
 refine Za (xW Zc1 (h:=xS [_] 5 [_,_,_,_,_,_,_,_] sz3 (h:=Zw [_,_,_,_,_,_] rfl (Za (xM (h:=xX 0 rfl Za0 rfl (ZL _ _ _ _ _ _ oz oz oz hm _ hbm) (h:=?_)))))))
 rintro _ _ ⟨r43,rfl,r43a,r43b,rfl⟩
 refine xD (h:=xW Zcl (h:=xS [_] 5 [_,_,_,_,_,_,_,_] sz3 (h:=Zw [_,_,_,_,_,_] rfl (Za (xW ZcA (h:=xW ZaI (h:=x1 Zfz 1 (h:=xV Tryz.underlying25 (h:=ZbA (h:=xM (h:=Zt (d:=71) rfl (fun d1=>?_) (fun d1=>?_))))))))))))
 try simp only [sQ,ne_eq] at d1
 refine xM (h:=xX 0 rfl Za0 rfl (ZL _ _ _ _ _ _ oz oz oz hm _ hbm) (h:=?_))
 rintro _ _ ⟨r44,rfl,r44a,r44b,rfl⟩
 refine ZbA (h:=xT (h:=Zw [_,_,_,_,_,_] rfl (Zd rfl (fun d2=>?_) (fun d2=>?_))))
 try simp only [sQ,ne_eq] at d2
 refine Zm (Z9 (keeps _ [1] _) mo kr ⟨Kn.le.refl _,Zar.refl _ _⟩ (fun _ _=>?_))
 refine aW 0 rfl ZcA (h:=aW 1 rfl ZaI (h:=aT 2 rfl (ZK fun D B L hI=>Zl rfl rfl Zfz rfl (atL 1 (hI.2.1.trans rfl) rfl rfl) r4) (h:=aM 3 rfl (h:=aW 4 rfl ZcA (h:=aW 5 rfl ZaI (h:=aT 6 rfl (ZK fun D B L hI=>Zl rfl rfl Zfz rfl (atL 1 (hI.2.1.trans rfl) rfl rfl) r4) (h:=aV 7 rfl Tryz.underlying25 (h:=Zap [8,11] kr kr kr ⟨?_,?_⟩))))))))
 refine (Zcp 0 rfl rfl rfl Za0 rfl (ZL _ _ _ _ _ _ oz oz oz hm _ hbm) ?_)
 rintro _ _ ⟨rkd,rfl,rkda,rkdb,rfl⟩
 refine ⟨⟨Kn.le.refl _,t1⟩,?_⟩
 obtain ⟨w,hw⟩:=Zd7 (xs:=x.queue.items) (i:=rkd) om om
 obtain ⟨bb47,oo47,rfl⟩:=hi.base hw
 obtain ⟨_,⟨qi48,ci48,rfl,hi48,hb48,hb48b⟩,hc48⟩:=hi.elem hw
 have hi48n:=hi48.len
 refine aIx 9 rfl Tryz.underlying25 Zer (h:=?_)
 have hwl:=hleft w (List.mem_of_getElem? hw)
 refine aT 10 rfl (ZK fun D B L hI=>Zag [_,_,_,_] rfl rfl ZlF rfl (Zl1 (hc48.mono hI.1) 0 rfl rfl) r4) (h:=Zv 11 kr rfl kr (Zam (l:=[_,_,_,_]) rfl rfl ZiD rfl (fun b49=>?_)))
 refine ⟨⟨Kn.le.refl _,t1⟩,(ZV 12 kr rfl kr kr kr (ZO [_,_,_,_] 6 [_,_,_,_] rfl rfl Zer rfl rfl rfl rfl rfl rfl rfl rfl ?_))⟩
 refine Zf (Zw [_,_,_,_,_,_,_] rfl (Za (xW ZeM (h:=x1 lk3 6 (h:=xW Zcl (h:=xS [_] 5 [_,_,_,_,_,_,_,_] sz3 (h:=Zw [_,_,_,_,_,_,_] rfl (Z9 (keeps _ [5,6] _) mo kr ⟨Kn.le.refl _,Zar.refl _ _⟩ (fun _ _=>?_)))))))))
 refine aW 0 rfl ZbG (h:=aT 1 rfl (ZK fun D B L hI=>Zl rfl rfl Zhc rfl (atL 6 (hI.2.2.1.trans rfl) rfl rfl) r4) (h:=aM 2 rfl (h:=aW 3 rfl ZbG (h:=aT 4 rfl (ZK fun D B L hI=>Zl rfl rfl Zhc rfl (atL 6 (hI.2.2.1.trans rfl) rfl rfl) r4) (h:=aV 5 rfl Tryz.underlying78 (h:=Zv 6 kr rfl kr (Zcp 0 rfl rfl rfl Za0 rfl (ZL _ _ _ _ _ _ oz oz oz hm _ hbm) ?_)))))))
 rintro _ _ ⟨rke,rfl,rkea,rkeb,rfl⟩
 refine ⟨⟨Kn.le.refl _,t2⟩,?_⟩
 obtain ⟨ws,hws⟩:=Zd7 (xs:=w.left) (i:=rke) om om
 obtain ⟨bb52,oo52,rfl⟩:=hi48.base hws
 obtain ⟨_,⟨rfl,hb53⟩,hc53⟩:=hi48.elem hws
 refine aIx 7 rfl Tryz.underlying78 sz9 (h:=aT 8 rfl (ZK fun D B L hI=>Zl rfl rfl lk9 rfl ((hc53.mono hI.1) _ 0 _ rfl) r4) (h:=aW 9 rfl Zfa (h:=ZV 10 kr rfl kr kr kr (ZO [_] 5 [_,_,_,_,_,_,_,_] rfl rfl sz9 rfl rfl rfl rfl rfl rfl rfl rfl ?_))))
 refine Zz ?_
 exact ZH ⟨⟨5,g.1.by_,g.1.owner,g.1.name,ws,g.1.text,w.id,g.1.b⟩,(((((g.2+1)+1)+1)+1)+1)⟩ [0,1,2,3,4,5] ⟨ob,ob,ob,ob,ob,ob⟩ t6 rfl
 refine (Zam (l:=[_,_,_,_]) rfl rfl ZiD rfl (fun b54=>⟨⟨Kn.le.refl _,t1⟩,(Zv 8 kr rfl kr (Zcp 0 rfl rfl rfl Za0 rfl (ZL _ _ _ _ _ _ oz oz oz hm _ hbm) ?_))⟩))
 rintro _ _ ⟨rkd,rfl,rkda,rkdb,rfl⟩
 refine ⟨⟨Kn.le.refl _,t1⟩,?_⟩
 obtain ⟨w,hw⟩:=Zd7 (xs:=x.queue.items) (i:=rkd) om om
 obtain ⟨bb57,oo57,rfl⟩:=hi.base hw
 obtain ⟨_,⟨qi58,ci58,rfl,hi58,hb58,hb58b⟩,hc58⟩:=hi.elem hw
 have hi58n:=hi58.len
 refine aIx 9 rfl Tryz.underlying25 Zer (h:=?_)
 have hwl:=hleft w (List.mem_of_getElem? hw)
 refine aT 10 rfl (ZK fun D B L hI=>Zag [_,_,_,_] rfl rfl ZlF rfl (Zl1 (hc58.mono hI.1) 0 rfl rfl) r4) (h:=ZV 12 kr rfl kr kr kr (ZO [_,_,_,_] 6 [_,_,_,_] rfl rfl Zer rfl rfl rfl rfl rfl rfl rfl rfl ?_))
 refine Zf (Zw [_,_,_,_,_,_,_] rfl (Za (xW ZeM (h:=x1 lk3 6 (h:=xW Zcl (h:=xS [_] 5 [_,_,_,_,_,_,_,_] sz3 (h:=Zw [_,_,_,_,_,_,_] rfl (Z9 (keeps _ [5,6] _) mo kr ⟨Kn.le.refl _,Zar.refl _ _⟩ (fun _ _=>?_)))))))))
 refine aW 0 rfl ZbG (h:=aT 1 rfl (ZK fun D B L hI=>Zl rfl rfl Zhc rfl (atL 6 (hI.2.2.1.trans rfl) rfl rfl) r4) (h:=aM 2 rfl (h:=aW 3 rfl ZbG (h:=aT 4 rfl (ZK fun D B L hI=>Zl rfl rfl Zhc rfl (atL 6 (hI.2.2.1.trans rfl) rfl rfl) r4) (h:=aV 5 rfl Tryz.underlying78 (h:=Zv 6 kr rfl kr (Zcp 0 rfl rfl rfl Za0 rfl (ZL _ _ _ _ _ _ oz oz oz hm _ hbm) ?_)))))))
 rintro _ _ ⟨rke,rfl,rkea,rkeb,rfl⟩
 refine ⟨⟨Kn.le.refl _,t2⟩,?_⟩
 obtain ⟨ws,hws⟩:=Zd7 (xs:=w.left) (i:=rke) om om
 obtain ⟨bb61,oo61,rfl⟩:=hi58.base hws
 obtain ⟨_,⟨rfl,hb62⟩,hc62⟩:=hi58.elem hws
 refine aIx 7 rfl Tryz.underlying78 sz9 (h:=aT 8 rfl (ZK fun D B L hI=>Zl rfl rfl lk9 rfl ((hc62.mono hI.1) _ 0 _ rfl) r4) (h:=aW 9 rfl Zfa (h:=ZV 10 kr rfl kr kr kr (ZO [_] 5 [_,_,_,_,_,_,_,_] rfl rfl sz9 rfl rfl rfl rfl rfl rfl rfl rfl ?_))))
 refine Zz ?_
 exact ZH ⟨⟨5,g.1.by_,g.1.owner,g.1.name,ws,g.1.text,w.id,g.1.b⟩,(((((g.2+1)+1)+1)+1)+1)⟩ [0,1,2,3,4,5] ⟨ob,ob,ob,ob,ob,ob⟩ t6 rfl
 try simp only [sQ,ne_eq] at d2
 refine Zi (Zz ?_)
 exact ZH ⟨⟨5,g.1.by_,g.1.owner,g.1.name,g.1.to_,g.1.text,(1+r43),g.1.b⟩,(((g.2+1)+1)+1)⟩ [0,1,2,3,4,5] ⟨ob,ob,ob,ob,ob,ob⟩ t6 rfl
 try simp only [sQ,ne_eq] at d1
 refine xP (h:=xP (h:=xP (h:=xF (h:=Zd (t:=false) rfl (fun h=>Bool.noConfusion h) (fun _=>Zi (Zz ?_))))))
 exact ZH ⟨⟨5,g.1.by_,g.1.owner,g.1.name,g.1.to_,g.1.text,(1+r43),g.1.b⟩,((g.2+1)+1)⟩ [0,1,2,3,4,5] ⟨ob,ob,ob,ob,ob,ob⟩ t6 rfl
 try simp only [sQ,ne_eq] at a9
 refine Zm (Za (ZF (h:=xA (h:=Zd rfl (fun a10=>?_) (fun a10=>?_)))))
 try simp only [sQ,ne_eq] at a10
 refine Zi (Zf (Zd rfl (fun a10t=>?_) (fun a10t=>by simp [a10] at a10t)))
 try simp only [sQ,ne_eq] at a10t
 refine Za (xW Zc1 (h:=xS [_] 5 [_,_,_,_,_,_,_,_] sz3 (h:=Zw [_,_,_,_,_,_] rfl (Za (xM (h:=xX 0 rfl Za0 rfl (ZL _ _ _ _ _ _ oz oz oz hm _ hbm) (h:=?_)))))))
 rintro _ _ ⟨r63,rfl,r63a,r63b,rfl⟩
 refine xW Zcl (h:=xS [_] 5 [_,_,_,_,_,_,_,_] sz3 (h:=Zw [_,_,_,_,_,_] rfl (Ze (xM (h:=xX 0 rfl Za0 rfl (ZL _ _ _ _ _ _ oz oz oz hm _ hbm) (h:=?_))))))
 rintro _ _ ⟨r64,rfl,r64a,r64b,rfl⟩
 refine xY (h:=xM (h:=xX 0 rfl Za0 rfl (ZL _ _ _ _ _ _ oz oz oz hm _ hbm) (h:=?_)))
 rintro _ _ ⟨r65,rfl,r65a,r65b,rfl⟩
 refine xD (h:=xW Zp5 (h:=xS [_] 5 [_,_,_,_,_,_,_,_] sz3 (h:=Zz ?_)))
 exact ZH ⟨⟨6,g.1.by_,g.1.owner,g.1.name,g.1.to_,g.1.text,r63,((r64*8)+r65)⟩,((((g.2+1)+1)+1)+1)⟩ [0,1,2,3,4,5] ⟨ob,ob,ob,ob,ob,ob⟩ t6 rfl
 try simp only [sQ,ne_eq] at a10
 refine Ze (ZF (h:=xA (h:=Zf (Zd rfl (fun a11=>?_) (fun a11=>?_)))))
 try simp only [sQ,ne_eq] at a11
 refine Za (xW Zc1 (h:=xS [_] 5 [_,_,_,_,_,_,_,_] sz3 (h:=Zw [_,_,_,_,_,_] rfl (Za (xM (h:=xX 0 rfl Za0 rfl (ZL _ _ _ _ _ _ oz oz oz hm _ hbm) (h:=?_)))))))
 rintro _ _ ⟨r66,rfl,r66a,r66b,rfl⟩
 refine xW Zcl (h:=xS [_] 5 [_,_,_,_,_,_,_,_] sz3 (h:=Zw [_,_,_,_,_,_] rfl (Ze (xM (h:=xX 0 rfl Za0 rfl (ZL _ _ _ _ _ _ oz oz oz hm _ hbm) (h:=?_))))))
 rintro _ _ ⟨r67,rfl,r67a,r67b,rfl⟩
 refine xY (h:=xM (h:=xX 0 rfl Za0 rfl (ZL _ _ _ _ _ _ oz oz oz hm _ hbm) (h:=?_)))
 rintro _ _ ⟨r68,rfl,r68a,r68b,rfl⟩
 refine xD (h:=xW Zp5 (h:=xS [_] 5 [_,_,_,_,_,_,_,_] sz3 (h:=Zz ?_)))
 exact ZH ⟨⟨6,g.1.by_,g.1.owner,g.1.name,g.1.to_,g.1.text,r66,((r67*8)+r68)⟩,((((g.2+1)+1)+1)+1)⟩ [0,1,2,3,4,5] ⟨ob,ob,ob,ob,ob,ob⟩ t6 rfl
 try simp only [sQ,ne_eq] at a11
 refine Za (ZF (h:=xA (h:=Zd rfl (fun a12=>?_) (fun a12=>?_))))
 try simp only [sQ,ne_eq] at a12
 refine Ze (xW Zc1 (h:=xS [_] 5 [_,_,_,_,_,_,_,_] sz3 (h:=Zz ?_)))
 exact ZH ⟨⟨7,g.1.by_,g.1.owner,g.1.name,g.1.to_,g.1.text,g.1.a,g.1.b⟩,(g.2+1)⟩ [0,1,2,3,4,5] ⟨ob,ob,ob,ob,ob,ob⟩ t6 rfl
 try simp only [sQ,ne_eq] at a12
 refine Za (ZF (h:=xA (h:=Zd rfl (fun a13=>?_) (fun a13=>?_))))
 try simp only [sQ,ne_eq] at a13
 refine Za (xW Zc1 (h:=xS [_] 5 [_,_,_,_,_,_,_,_] sz3 (h:=Zw [_,_,_,_,_,_] rfl (Ze (xM (h:=xX 0 rfl Za0 rfl (ZL _ _ _ _ _ _ oz oz oz hm _ hbm) (h:=?_)))))))
 rintro _ _ ⟨r69,rfl,r69a,r69b,rfl⟩
 refine xW Zcl (h:=xS [_] 5 [_,_,_,_,_,_,_,_] sz3 (h:=Zz ?_))
 exact ZH ⟨⟨8,g.1.by_,g.1.owner,g.1.name,g.1.to_,g.1.text,r69,g.1.b⟩,((g.2+1)+1)⟩ [0,1,2,3,4,5] ⟨ob,ob,ob,ob,ob,ob⟩ t6 rfl
 try simp only [sQ,ne_eq] at a13
 refine Zi (Zz ?_)
 exact ZH ⟨⟨g.1.kind,g.1.by_,g.1.owner,g.1.name,g.1.to_,g.1.text,g.1.a,g.1.b⟩,(g.2+1)⟩ [0,1,2,3,4,5] ⟨ob,ob,ob,ob,ob,ob⟩ t6 rfl
 obtain ⟨hj1,hj2,hj3,hj4,hj5,hjp⟩:=hF
 replace hi:=hi.mono Zj.mono hle14
 replace hr4:=hr4.mono Za7.mono hle14
 replace hbm:=hbm.mono hle14
 refine ZQ [(0,_),(1,_),(3,_),(4,_),(5,_),(6,_)] [_,_,_,_,_,_] t6 rfl (Zkl (α:=DEvent × Nat) [0,1,3,4,5,6] (fun o=>[]) [0,5] (fun o=>[rd b q m cp o.2,ZaY b11 [.int .i64 o.1.kind,str o.1.by_,str o.1.owner,str o.1.name,str o.1.to_,str o.1.text,.int .i64 o.1.a,.int .i64 o.1.b] 98]) (fun o=>[]) (fun o Bx=>o.1.by_.length≤40∧o.1.owner.length≤40∧o.1.name.length≤40∧o.1.to_.length≤2000000∧o.1.text.length≤40∧o.2≤p+40) ?_ (fun o B70 hle70 hF=>?_))
 refine Za (xM (h:=xX 0 rfl Za0 rfl (ZL _ _ _ _ _ _ oz oz oz hm _ hbm) (h:=?_)))
 rintro _ _ ⟨rz,rfl,rza,rzb,rfl⟩
 refine Zw [_,_,_,_,_,_] rfl (Zr (Za (ZF (h:=xA (h:=Zd rfl (fun f0=>?_) (fun f0=>?_))))))
 try simp only [sQ,ne_eq] at f0
 refine Ze (xM (h:=xX 0 rfl Za0 rfl (ZL _ _ _ _ _ _ oz oz oz hm _ hbm) (h:=?_)))
 rintro _ _ ⟨r72,rfl,r72a,r72b,rfl⟩
 refine xU (h:=xW Zc1 (h:=xS [_] 5 [_,_,_,_,_,_,_,_] sz3 (h:=Zz ?_)))
 exact ZH ⟨⟨(r72 - 1),j.1.by_,j.1.owner,j.1.name,j.1.to_,j.1.text,j.1.a,j.1.b⟩,((j.2+1)+1)⟩ [0,1,2,3,4,5] ⟨ob,ob,ob,ob,ob,ob⟩ t6 rfl
 try simp only [sQ,ne_eq] at f0
 refine Za (ZF (h:=xA (h:=Zd rfl (fun f1=>?_) (fun f1=>?_))))
 try simp only [sQ,ne_eq] at f1
 refine Ze (xM (h:=xX 0 rfl Za0 rfl (ZL _ _ _ _ _ _ oz oz oz hm _ hbm) (h:=?_)))
 rintro _ _ ⟨r73,rfl,r73a,r73b,rfl⟩
 refine xU (h:=xW Zcl (h:=xS [_] 5 [_,_,_,_,_,_,_,_] sz3 (h:=Zz ?_)))
 exact ZH ⟨⟨j.1.kind,j.1.by_,j.1.owner,j.1.name,j.1.to_,j.1.text,(r73 - 5),j.1.b⟩,((j.2+1)+1)⟩ [0,1,2,3,4,5] ⟨ob,ob,ob,ob,ob,ob⟩ t6 rfl
 try simp only [sQ,ne_eq] at f1
 refine Za (ZF (h:=xA (h:=Zd rfl (fun f2=>?_) (fun f2=>?_))))
 try simp only [sQ,ne_eq] at f2
 refine Ze (xM (h:=xX 0 rfl Zr0 rfl (Zcu _ _ _ _ _ oz hm _ hbm) (h:=?_)))
 rintro _ _ ⟨x74,rfl,hx74,rfl⟩
 refine xW Zid (h:=xS [_] 5 [_,_,_,_,_,_,_,_] sz9 (h:=Zz ?_))
 exact ZH ⟨⟨j.1.kind,x74,j.1.owner,j.1.name,j.1.to_,j.1.text,j.1.a,j.1.b⟩,((j.2+1)+2)⟩ [0,1,2,3,4,5] ⟨ob,ob,ob,ob,ob,ob⟩ t6 rfl
 try simp only [sQ,ne_eq] at f2
 refine Za (ZF (h:=xA (h:=Zd rfl (fun f3=>?_) (fun f3=>?_))))
 try simp only [sQ,ne_eq] at f3
 refine Ze (xM (h:=xX 0 rfl Zr0 rfl (Zcu _ _ _ _ _ oz hm _ hbm) (h:=?_)))
 rintro _ _ ⟨x75,rfl,hx75,rfl⟩
 refine xW Zle (h:=xS [_] 5 [_,_,_,_,_,_,_,_] sz9 (h:=Zz ?_))
 exact ZH ⟨⟨j.1.kind,j.1.by_,j.1.owner,x75,j.1.to_,j.1.text,j.1.a,j.1.b⟩,((j.2+1)+2)⟩ [0,1,2,3,4,5] ⟨ob,ob,ob,ob,ob,ob⟩ t6 rfl
 try simp only [sQ,ne_eq] at f3
 refine Zi (Zz ?_)
 exact ZH ⟨⟨j.1.kind,j.1.by_,j.1.owner,j.1.name,j.1.to_,j.1.text,j.1.a,j.1.b⟩,(j.2+1)⟩ [0,1,2,3,4,5] ⟨ob,ob,ob,ob,ob,ob⟩ t6 rfl
 obtain ⟨ho1,ho2,ho3,ho4,ho5,hop⟩:=hF
 replace hi:=hi.mono Zj.mono hle70
 replace hr4:=hr4.mono Za7.mono hle70
 replace hbm:=hbm.mono hle70
 refine ZQ [(0,_),(1,_),(3,_),(4,_),(5,_),(6,_)] [_,_,_,_,_,_] t6 rfl (Za (xL [_,_,_,_,_,_,_,_] Zv2 5 (h:=xS [_,_,_,_,_,_,_,_] 2 [_,_,_,_,_,_,_,_] ZwT (h:=Zw [_,_,_,_,_,_] rfl (Zg ?_)))))
 exact Zaf .ret (.inl rfl) [_] [0] rfl ⟨⟨_,rfl,.inr ⟨[_,_,_,_,_,_,_,_],Zv2,Zad 2 rfl rfl rfl,rfl⟩⟩,trivial⟩ ⟨o.1,o.2,rfl,oy,oy,oy,oy,oy,oz,rfl⟩

set_option maxHeartbeats 400000 in
theorem ZdD (q:Option Addr) (cp:Nat) (x:DBox) (fl:Int) (t:Str) (ht:t.length≤2000000) (B:Kn) (hm:SlK B q cp 3 ZJ x.mail):ZM (pj J) 91 [.agg #[.int .i64 x.next,.slice q x.mail.length cp],.int .i64 fl,str t] B [] (fun v B' Ls=>∃l a c,Ls=[l]∧v = .tuple #[.agg #[.int .i64 (ZP x fl t).1.next,.slice a (ZP x fl t).1.mail.length c],.bool (ZP x fl t).2]∧Z3 B' l a c 150 3 ZJ (ZP x fl t).1.mail):=by
 refine Zc 28 Tryz.func91 rfl rfl rfl (Nat.le_of_ble_eq_true rfl) ?_
 have hxn:=hm.len
 refine Za (xBx [_,_] (h:=fun b1=>xAl [_,_] ZeW (h:=fun b2=>xA (h:=Zw [_,_] rfl (Zm (Za (xL [_,_] ZbN 0 (h:=xR Zvw rfl (ZfU _ _ (⟨x.next,x.mail⟩:DBox) _ hm) (h:=xN (h:=xM (h:=Zt (d:=11) rfl (fun g1=>?_) (fun g1=>?_))))))))))))
 try simp only [sQ,ne_eq] at g1
 have he:=ZeR (b:=x) (fl:=fl) (t:=t) (by simp [g1])
 refine xP (h:=xP (h:=xP (h:=xT (h:=xM (h:=xP (h:=xP (h:=xP (h:=xT (h:=Zd (t:=true) rfl (fun _=>Za (xB [] [_,_] [_,_] Zm3 ZeW (h:=xS [_,_] 1 [_,_] ZcC (h:=?_)))) (fun h=>Bool.noConfusion h))))))))))
 refine xA (h:=Zw [_,_] rfl (Zg (Zs ?_)))
 exact ZtL .ret (.inl rfl) [_,_] ⟨⟨_,rfl,.inr ⟨[_,_],ZbN,Zad 1 rfl rfl rfl,rfl⟩⟩,rfl,trivial⟩ ⟨_,none,0,rfl,by rw [he];rfl,by rw [he];exact Z3.nil⟩
 try simp only [sQ,ne_eq] at g1
 refine xM (h:=xR Zqo rfl (ZeH _ _) (h:=xN (h:=xF (h:=xM (h:=Zt (d:=16) rfl (fun g2=>?_) (fun g2=>?_))))))
 try simp only [sQ,ne_eq] at g2
 have he:=ZeR (b:=x) (fl:=fl) (t:=t) (fun h=>by have:=h.2.1;simp only [ZaQ,g2] at this;cases this)
 refine xP (h:=xP (h:=xP (h:=xT (h:=Zd (t:=true) rfl (fun _=>Za (xB [] [_,_] [_,_] Zm3 ZeW (h:=xS [_,_] 1 [_,_] ZcC (h:=xA (h:=Zw [_,_] rfl (Zg (Zs ?_))))))) (fun h=>Bool.noConfusion h)))))
 exact ZtL .ret (.inl rfl) [_,_] ⟨⟨_,rfl,.inr ⟨[_,_],ZbN,Zad 1 rfl rfl rfl,rfl⟩⟩,rfl,trivial⟩ ⟨_,none,0,rfl,by rw [he];rfl,by rw [he];exact Z3.nil⟩
 try simp only [sQ,ne_eq] at g2
 refine xM (h:=xVs Tryz.underlying9 (h:=ZbA (h:=xF (h:=Zd rfl (fun g3=>?_) (fun g3=>?_)))))
 try simp only [sQ,ne_eq] at g3
 have he:=ZeR (b:=x) (fl:=fl) (t:=t) (by simp;omega)
 refine Za (xB [] [_,_] [_,_] Zm3 ZeW (h:=xS [_,_] 1 [_,_] ZcC (h:=xA (h:=Zw [_,_] rfl (Zg (Zs ?_))))))
 exact ZtL .ret (.inl rfl) [_,_] ⟨⟨_,rfl,.inr ⟨[_,_],ZbN,Zad 1 rfl rfl rfl,rfl⟩⟩,rfl,trivial⟩ ⟨_,none,0,rfl,by rw [he];rfl,by rw [he];exact Z3.nil⟩
 try simp only [sQ,ne_eq] at g3
 have hok:Zbh x=true:=by simpa using g1
 rw [Zka ⟨hok,by simpa only [ZaQ,Bool.not_eq_false] using g2,oz⟩]
 refine Zi (Zf (Za (xL [_,_] ZbN 0 (h:=xM (h:=xM (h:=Zn (Zac rfl rfl Zu7 rfl (ZhV _ _ (⟨x.next,x.mail⟩:DBox) fl t oz (oy) _ hm) ?_)))))))
 rintro _ B5 _ hle5 ⟨l5,a5,c5,rfl,rfl,hs5⟩
 replace hm:=hm.mono ZJ.mono hle5
 replace hs5:=hs5.anyK (B':=B5) ZJ.any
 refine xE (h:=xE (h:=xS [_,_] 1 [_,_] ZcC (h:=xA (h:=Zw [_,_,_] rfl (Zg ?_)))))
 exact Zaf .ret (.inl rfl) [_,_] [2] rfl ⟨⟨_,rfl,.inr ⟨[_,_],ZbN,Zad 1 rfl rfl rfl,rfl⟩⟩,rfl,trivial⟩ ⟨_,_,_,rfl,rfl,hs5⟩

set_option maxHeartbeats 400000 in
theorem Zry (b:Nat) (q:Option Addr) (m cp p:Nat) (hp:p≤800000000000) (hm:m≤2000) (B:Kn) (hbm:Zak B q m):ZM (pj J) 50 [ptr ⟨b,0,none⟩] B [rd b q m cp p] (fun v B' Ls=>∃(q':Option Addr) (cp':Nat) (gs:List DGrant) (k:Nat),v = .slice q' gs.length cp'∧SlK B' q' cp' 2 ZG gs∧k≤p+60∧Ls=[rd b q m cp k]):=by
 refine Zc 52 Tryz.func50 rfl rfl rfl (Nat.le_of_ble_eq_true rfl) ?_
 refine Za (xA (h:=Za (xBs [] [] Tryz.underlying53 ZbL Zdy (h:=fun b1=>xA (h:=Zw [_,_] rfl (Za (xM (h:=xX 0 rfl Za0 rfl (ZL _ _ _ _ _ _ oz oz oz hm _ hbm) (h:=?_)))))))))
 rintro _ _ ⟨rn,rfl,rna,rnb,rfl⟩
 refine xA (h:=Zw [_,_] rfl (Zm (Za (xA (h:=Zr (ZU (α:=GAc) [0,2,4] (fun g=>[(3,.slice g.a g.xs.length g.c),(5,.int .i64 g.k)]) [0,1] (fun g=>[rd b q m cp g.p,g.l]) (fun g Bx=>g.k≤4∧g.p≤p+1+5*g.k∧g.xs.length≤4*g.k∧Z3 Bx g.l g.a g.c 139 2 ZG g.xs) (fun g=>4 - g.k) ⟨0,_,_,_,_,[]⟩ t2 rfl (⟨Nat.zero_le _,Nat.le_refl _,Nat.le_refl _,.lit0⟩) (fun g B3 hle3 hI=>?_)))))))
 obtain ⟨hk,hgp,hgl,hv⟩:=hI
 replace hbm:=hbm.mono hle3
 refine ZQ [(0,_),(2,_),(3,_),(4,_),(5,_)] [_,_] t5 rfl (Zm (Za (xM (h:=xM (h:=Zai (h:=Zd rfl (fun g1=>?_) (fun g1=>?_)))))))
 try simp only [sQ,ne_eq] at g1
 refine Zi (Zf (Zm (Zr (Za (xM (h:=xM (h:=xBs [(0,_),(1,_),(2,_),(3,_),(4,_)] [_,_,_,_,_] Tryz.underlying78 sz9 zo9 (h:=fun b4=>Zn (Z8 [0,2] rfl rfl rfl rfl Zno rfl (Zpq _ _ _ _ _ _ ([[97,109,121],[98,111,98],[99,121,100],[97,110,121,111,110,101],[100,97,110]]:List Str) oz (by decide) (by decide) hm _ hbm) ?_)))))))))
 rintro _ Bu _ hleu ⟨rfl,xu,hxu,rfl,rfl⟩
 replace hxu:=(show∀y∈( ([[97,109,121],[98,111,98],[99,121,100],[97,110,121,111,110,101],[100,97,110]]:List Str):List Str),y.length≤40 from by decide) _ hxu
 refine xM (h:=xX 0 rfl Za0 rfl (ZL _ _ _ _ _ _ oz oz oz hm _ hbm) (h:=?_))
 rintro _ _ ⟨re,rfl,rea,reb,rfl⟩
 refine Zn (Zkk (a:=re) (b:=8) rfl rfl rfl rfl (ZaK oz oz) ?_)
 have ht1:=Int.tmod_nonneg 63 (show 0≤re*8 by omega)
 have ht2:=Int.tmod_lt_of_pos (re*8) (show (0:Int)<63 by decide)
 refine Zn (ZfN (a:=(re*8)) (b:=63) (r:=Int.tmod (re*8) 63) rfl rfl rfl rfl (by decide) rfl ?_)
 refine xD (h:=xM (h:=xX 0 rfl Za0 rfl (ZL _ _ _ _ _ _ oz oz oz hm _ hbm) (h:=?_)))
 rintro _ _ ⟨rf,rfl,rfa,rfb,rfl⟩
 refine xD (h:=Zn (Z8 [1] rfl rfl rfl rfl Zwb rfl (ZM.borrow fun hma=>Zex _ _ g.xs xu ((1+(Int.tmod (re*8) 63))+rf) om2 _ (hv.lend ZG.mono hma om)) ?_))
 rintro _ Ba _ hlea ⟨BBa,_,rfl,hBa,_,hma,_,la,aa,ca,rfl,rfl,hsa⟩
 replace hv:=hv.mono ZG.mono hlea
 replace hbm:=hbm.mono hlea
 have hsan:=hsa.cap
 replace hsa:=hsa.anyK (B':=Ba) ZG.any
 refine xM (h:=xE (h:=xE (h:=xA (h:=xA (h:=Zw [_,_,_,_] rfl (Za (xM (h:=Zd rfl (fun g2=>?_) (fun g2=>?_)))))))))
 try simp only [sQ,ne_eq] at g2
 refine Ze (xM (h:=xA (h:=Zz (Zf (Ze (xM (h:=xD (h:=xA (h:=?_)))))))))
 exact ZE ⟨g.k+1,(((g.p+1)+1)+1),la,aa,ca,((Zb1 g.xs xu ((1+(Int.tmod (re*8) 63))+rf)).1)⟩ [0,3] so2 ⟨so,so,by first | (simp only [];omega) | exact Nat.le_trans (Ze5 _ _ _) (so),hsa⟩ t5 rfl
 try simp only [sQ,ne_eq] at g2
 refine Zi (Zz (Zf (Ze (xM (h:=xD (h:=xA (h:=?_)))))))
 exact ZE ⟨g.k+1,(((g.p+1)+1)+1),g.l,g.a,g.c,g.xs⟩ [0,1] so2 ⟨so,so,by first | (simp only [];omega) | exact Nat.le_trans (Ze5 _ _ _) (so),hv⟩ t5 rfl
 try simp only [sQ,ne_eq] at g1
 refine ZY (Zal (Z6 (ZN (Zf (Zm (Za (xM (h:=xX 0 rfl Za0 rfl (ZL _ _ _ _ _ _ oz oz oz hm _ hbm) (h:=?_)))))))))
 rintro _ _ ⟨rk2,rfl,rk2a,rk2b,rfl⟩
 refine Zw [_,_] rfl (Zr (Za (ZF (h:=xA (h:=Zd rfl (fun g3=>?_) (fun g3=>?_))))))
 try simp only [sQ,ne_eq] at g3
 refine Ze (xM (h:=xM (h:=xX 0 rfl Zr0 rfl (Zcu _ _ _ _ _ oz hm _ hbm) (h:=?_))))
 rintro _ _ ⟨xs,rfl,hxs,rfl⟩
 refine xM (h:=xX 0 rfl Za0 rfl (ZL _ _ _ _ _ _ oz oz oz hm _ hbm) (h:=?_))
 rintro _ _ ⟨ry,rfl,rya,ryb,rfl⟩
 refine xB [(0,_),(1,_)] [_,_] [_,_] Zs8 Zdy (h:=xBs [(0,_)] [_,_] Tryz.underlying53 ZbL Zdy (h:=fun b12=>Zn (Za8 (z:=⟨xs,ry⟩) (R:=ZG) 1 rfl hv rfl rfl rfl Zqk Zpa rfl rfl (ZaV.box 2 rfl) rfl rfl (⟨rfl,by first | assumption | omega | (simp;done) | (simp;omega)⟩) om (fun l13 p13 c13 hv13=>?_))))
 refine xA (h:=Zz (Zf (Za (xM (h:=ZZ 1 rfl hv13 ZG.mono om3 (fun B14 hle14 hr14=>?_))))))
 replace hbm:=hbm.mono hle14
 have hr14n:=hr14.len
 refine xA (h:=Zw [_,_,_] rfl (Zg ?_))
 exact Zaf .ret (.inl rfl) [_] [0] rfl t1 ⟨_,_,_,_,rfl,hr14,oz,rfl⟩
 try simp only [sQ,ne_eq] at g3
 refine Za (ZF (h:=xA (h:=Zd rfl (fun g4=>?_) (fun g4=>?_))))
 try simp only [sQ,ne_eq] at g4
 refine Ze (xM (h:=xM (h:=Zn (Zuq (R:=ZG) 1 rfl hv rfl rfl rfl Zqk Zpa rfl rfl ZG.one om (fun l15 p15 c15 hv15=>?_)))))
 refine xA (h:=Zz (Zf (Za (xM (h:=ZZ 1 rfl hv15 ZG.mono om3 (fun B16 hle16 hr16=>?_))))))
 replace hbm:=hbm.mono hle16
 have hr16n:=hr16.len
 refine xA (h:=Zw [_,_] rfl (Zg ?_))
 exact Zaf .ret (.inl rfl) [_] [0] rfl t1 ⟨_,_,_,_,rfl,hr16,oz,rfl⟩
 try simp only [sQ,ne_eq] at g4
 refine Zi (Zz (Zf (Za (xM (h:=ZZ 1 rfl hv ZG.mono om3 (fun B17 hle17 hr17=>?_))))))
 replace hbm:=hbm.mono hle17
 have hr17n:=hr17.len
 refine xA (h:=Zw [_,_] rfl (Zg ?_))
 exact Zaf .ret (.inl rfl) [_] [0] rfl t1 ⟨_,_,_,_,rfl,hr17,oz,rfl⟩

end Go.Proofs.YtnfoidafdcgdbaaGreatDoor
