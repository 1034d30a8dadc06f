/-
  WHAT THE FUNCTIONS THAT THE LAWS REACH COMPUTE: each function's contract, proved off its printed body (the text is written by program). No condition beyond those that each theorem states.
-/
import Derived.Test.YtkppijmhadbpdaaGreatDoorC2
namespace Go.Proofs.YtkppijmhadbpdaaGreatDoor
open Go Go.BL
set_option linter.unusedVariables false
set_option linter.unusedSimpArgs false
set_option maxRecDepth 4000
set_option maxHeartbeats 6400000
variable {J : JoinT}
theorem Zmz (b:Nat) (xs:List DMail) (s:Cells) (hn:xs.length≤2000000) (B:Kn) (hs:MLst 195 198 b xs s):Zv (pj J) 123 [ptr ⟨b,0,none⟩] B [s] (fun v B' Ls=>B'=B∧∃l a c,Ls=[l]∧v = .slice a xs.length c∧ZT Kn.none l a c 99 3 Z5 xs):=by
 refine cB 28 Tryz.func123 (h:=?_)
 obtain ⟨p,vl,s0,hp,hl⟩:=hs.chain
 refine ZeW 0 rfl hp (tL2 (Za (xA (h:=Za (xM (h:=xNc (h:=xW Zig (h:=x1 lk3 0 (h:=Zl (Za3 (m:=0) (c:=xs.length) (by_:=32) [.int .i64 0,.int .i64 0,.string ⟨#[]⟩] rfl rfl Zwn ZlU rfl rfl ⟨_,_,rfl,by first | omega | (simp;done) | (simp;omega)⟩ ⟨_,_,rfl,by first | omega | (simp;done) | (simp;omega)⟩ om om (fun b1=>?_)))))))))))
 have hv1:=ZT.zeros (B:=Kn.none) (b:=b1) (T:=99) (R:=Z5) (d:=(⟨0,0,[]⟩:DMail)) (m:=0) (c:=xs.length) (zs:=[.int .i64 0,.int .i64 0,.string ⟨#[]⟩]) rfl (⟨rfl,by simp⟩) om
 refine xA (h:=tL3 (Zc (Za (xM (h:=xNc (h:=xW Zq5 (h:=x1 ZqB 0 (h:=xA (h:=Zg (Zz (α:=MOf) [0,2] (fun g=>[(3,.slice g.q g.ys.length g.c),(4,.pointer g.p)]) [1,2] (fun g=>[g.cells,g.l]) (fun g Bx=>Bx=B∧g.ys ++ g.xs=xs∧Zhq 198 (.pointer g.p) g.xs g.cells∧ZT Kn.none g.l g.q g.c 99 3 Z5 g.ys) (fun g=>g.xs.length) ⟨p,[],xs,_,_,_,_⟩ t2 rfl (⟨rfl,rfl,hl,hv1⟩) (fun g B2 hle2 hI=>?_)))))))))))
 obtain ⟨rfl,hxs,hl,hv⟩:=hI
 refine ZD [(0,_),(2,_),(3,_),(4,_)] [_,_,_] t4 rfl (Zc (Za (xM (h:=Zl (Zui rfl rfl rfl rfl rfl (Zhy Tryz.underlying193) (Zb rfl (fun g1=>?_) (fun g1=>?_)))))))
 obtain ⟨y,ys,b8,np,rest8,hp8,hrest,hperm,hy8,hl8⟩:=hl.more (by simpa using g1)
 rw [hp8]
 have hlen:=congrArg List.length hxs
 rw [List.length_append,hrest,List.length_cons] at hlen
 replace hlen:g.ys.length+1≤2000000:=by omega
 refine ZeW 1 rfl hperm (tL4 (wSk (Zc (Zg (Zf (xM (h:=xM (h:=xNc (h:=xW ZvK (h:=xL [_,_,_] ZmA 1 (h:=xBs [(0,_)] [_,_,_] Tryz.underlying91 Zgg ZlU (h:=fun b3=>Zl (ZhK (z:=⟨y.uid,y.flags,y.text⟩) (R:=Z5) 2 rfl hv rfl rfl rfl Zwn Zx3 rfl rfl (Zc1.box 4 rfl) rfl rfl (⟨rfl,by first | assumption | omega | (simp;done) | (simp;omega)⟩) om (fun l4 p4 c4 hv4=>?_))))))))))))))
 refine xA (h:=ZK (Zp (Zf (xM (h:=xNc (h:=xW Zq4 (h:=x1 ZqB 1 (h:=xA (h:=?_)))))))))
 exact ZC ⟨np,g.ys ++ [y],ys,l4,p4,c4,rest8⟩ [0,3,2] (by rw [hrest];simp) ⟨rfl,by rw [← hxs,hrest];simp,hl8,hv4⟩ t4 rfl
 rw [hl.done (by simpa using g1),List.append_nil] at hxs
 subst hxs
 refine ZE (ZV (ZG (Zt (Zp (Za (xM (h:=xA (h:=Zd ?_))))))))
 exact eN [2] rfl t1 ⟨rfl,_,_,_,rfl,rfl,hv⟩

theorem ZrN (q:Option Addr) (cp:Nat) (x:DBox) (fl:Int) (t:Str) (hb:Zc6 x=true) (hfl:Zc5 fl=true) (ht:t.length≤20) (B:Kn) (hm:SlK B q cp 3 Z5 x.mail):Zv (pj J) 129 [.agg #[.int .i64 x.next,.slice q x.mail.length cp],.int .i64 fl,str t] B [] (fun v B' Ls=>∃l a c,Ls=[l]∧v = .tuple #[.agg #[.int .i64 (Zdn x fl t).1.next,.slice a (Zdn x fl t).1.mail.length c],.bool (Zdn x fl t).2]∧ZT Kn.none l a c 99 3 Z5 (Zdn x fl t).1.mail):=by
 refine cB 50 Tryz.func129 (h:=?_)
 have hxn:=hm.len
 have hbn:=Zcn hb
 have hfl2:0≤fl∧fl≤31:=by simpa [Zc5] using hfl
 refine Za (xBx [_,_] (h:=fun b1=>xAl [_,_] Zpc (h:=fun b2=>xA (h:=tL2 (Zc (Za (xL [_,_] Zfl 0 (h:=xR Zv6 rfl (Zh7 _ _ (⟨x.next,x.mail⟩:DBox) _ hm) (h:=xN (h:=xM (h:=Zx (d:=12) rfl (fun g1=>by simp [hb] at g1) (fun g1=>?_))))))))))))
 try simp only [sQ,ne_eq] at g1
 refine xM (h:=xR ZxI rfl (Zh6 _ _) (h:=xN (h:=xF (h:=xM (h:=Zx (d:=17) rfl (fun g2=>by first | (simp [hfl2] at g2;done) | (simp at g2;omega)) (fun g2=>?_))))))
 try simp only [sQ,ne_eq] at g2
 refine xM (h:=xVs Tryz.underlying9 (h:=ZdP (h:=xF (h:=Zb rfl (fun g3=>by first | omega | (simp at g3;omega)) (fun g3=>?_)))))
 try simp only [sQ,ne_eq] at g3
 refine wSk (Zc (Za (xW Zbc (h:=x1 Zh1 0 (h:=xV Tryz.underlying91 (h:=Zf8 (h:=xM (h:=Zx (d:=27) rfl (fun g4=>?_) (fun g4=>?_)))))))))
 try simp only [sQ,ne_eq] at g4
 refine xP (h:=xP (h:=xP (h:=xT (h:=Zb (t:=true) rfl (fun _=>Za (xL [_,_] Zfl 0 (h:=xC Zv4 rfl (Zg3 _ _ (⟨x.next,x.mail⟩:DBox) _ hm) (h:=?_)))) (fun h=>Bool.noConfusion h)))))
 rintro _ B5 _ hle5 ⟨rfl,l5,a5,c5,rfl,rfl,hs5⟩
 refine xS [_,_] 1 [_,_] Zjr (h:=xA (h:=tL3 (Zd (Zm ?_))))
 have hae:=Zgw (fl:=fl) (t:=t) (b:=x) (.inl oz)
 exact Zd2 .ret (.inl rfl) [_,_] [2] rfl ⟨⟨_,rfl,.inr ⟨[_,_],Zfl,Zbw 1 rfl rfl rfl,rfl⟩⟩,rfl,trivial⟩ (by rw [hae];exact ⟨_,_,_,rfl,rfl,hs5.anyK Z5.any⟩)
 try simp only [sQ,ne_eq] at g4
 refine xW Zda (h:=x1 lk3 0 (h:=ZdP (h:=xF (h:=Zb rfl (fun g5=>?_) (fun g5=>?_)))))
 try simp only [sQ,ne_eq] at g5
 refine Za (xL [_,_] Zfl 0 (h:=xC Zv4 rfl (Zg3 _ _ (⟨x.next,x.mail⟩:DBox) _ hm) (h:=?_)))
 rintro _ B6 _ hle6 ⟨rfl,l6,a6,c6,rfl,rfl,hs6⟩
 refine xS [_,_] 1 [_,_] Zjr (h:=xA (h:=tL3 (Zd (Zm ?_))))
 have hae:=Zgw (fl:=fl) (t:=t) (b:=x) (.inr oz)
 exact Zd2 .ret (.inl rfl) [_,_] [2] rfl ⟨⟨_,rfl,.inr ⟨[_,_],Zfl,Zbw 1 rfl rfl rfl,rfl⟩⟩,rfl,trivial⟩ (by rw [hae];exact ⟨_,_,_,rfl,rfl,hs6.anyK Z5.any⟩)
 try simp only [sQ,ne_eq] at g5
 refine wSk (Za (xW Zbc (h:=x1 Zh1 0 (h:=xC ZAv rfl (ZoA _ _ x.mail _ hm) (h:=?_)))))
 rintro _ B7 _ hle7 ⟨b7,s7,rfl,rfl,hs7⟩
 refine xA (h:=tL3 (Za (xM (h:=xW Zda (h:=x1 lk3 0 (h:=xM (h:=xM (h:=xB [(0,_),(1,_),(2,_)] [_,_,_] [_,_,_] ZAV ZlU (h:=xK [2] rfl ZxJ rfl (Zk7 _ x.mail (⟨x.next,fl,t⟩:DMail) _ om2 om2 _ hs7) (h:=?_))))))))))
 rintro _ B8 _ hle8 ⟨rfl,s8,rfl,hs8⟩
 refine tL3 (Zc (Z2 (keeps _ [0] _) mo kr ⟨Kn.le.refl _,Za6.refl _ _⟩ (fun _ _=>?_)))
 refine aW 0 rfl Zda (h:=aT 1 rfl (ZO fun D B L hI=>Zo rfl rfl lk3 rfl (atL 0 (hI.2.1.trans rfl) rfl rfl) r4) (h:=aD 2 rfl (h:=aM 3 rfl (h:=ZA 4 kr rfl kr (ZcI [2] rfl rfl rfl rfl ZAu rfl (Zmz _ (x.mail ++ [(⟨x.next,fl,t⟩:DMail)]) _ om2 _ hs8) ?_)))))
 rintro _ B9 _ hle9 ⟨rfl,l9,a9,c9,rfl,rfl,hv9⟩
 refine ⟨⟨Kn.le.refl _,t1⟩,(aT 5 rfl (ZO fun D B L hI=>Zaq (parts:=[(0,_),(1,_)]) [_,_] [_,_] rfl rfl ZAW Zpc rfl rfl rfl r4) (h:=Zbs 6 kr rfl kr kr (ZL [_,_] 1 [_,_] rfl rfl Zjr rfl rfl rfl rfl rfl rfl rfl rfl ?_)))⟩
 refine aA 7 rfl (h:=Zu kr kr ?_)
 refine Zp (tL3 (Zd ?_))
 have hae:=ZrV (fl:=fl) (t:=t) (b:=x) oz
 exact Zd2 .ret (.inl rfl) [_,_] [2] rfl ⟨⟨_,rfl,.inr ⟨[_,_],Zfl,Zbw 1 rfl rfl rfl,rfl⟩⟩,rfl,trivial⟩ (by rw [hae];exact ⟨_,_,_,rfl,rfl,hv9.anyK Z5.any⟩)

theorem Zp0 (n:Int) (B:Kn):Zac (pj J) 101 [.int .i64 n] B (.bool (decide (0≤n) && decide (n≤99))):=by
 refine cB 9 Tryz.func101 (h:=?_)
 refine Za (xA (h:=Za (xM (h:=Zep (h:=xM (h:=Zx (d:=5) rfl (fun g1=>?_) (fun g1=>?_)))))))
 try simp only [sQ,ne_eq] at g1
 refine xM (h:=Zb4 (h:=xT (h:=xA (h:=Zd ?_))))
 exact eR t1 ⟨Ze (by rw [Bool.eq_iff_iff];simp;try omega),rfl,rfl⟩
 try simp only [sQ,ne_eq] at g1
 refine xP (h:=xP (h:=xF (h:=xA (h:=Zd ?_))))
 exact eR t1 ⟨Ze (by rw [Bool.eq_iff_iff];simp;try omega),rfl,rfl⟩

theorem Zle (q:Option Addr) (cp:Nat) (xs:List DSpan) (B:Kn) (hs:SlK B q cp 2 Z1 xs):Zac (pj J) 44 [.slice q xs.length cp] B (.bool (Zdd xs)):=by
 refine cB 30 Tryz.func44 (h:=?_)
 have hsn:=hs.len
 refine Za (xA (h:=Zc (Za (xM (h:=xV Tryz.underlying41 (h:=ZF (h:=xM (h:=Zx (d:=8) rfl (fun g1=>?_) (fun g1=>?_)))))))))
 try simp only [sQ,ne_eq] at g1
 refine xP (h:=xP (h:=xP (h:=xT (h:=Zb (t:=true) rfl (fun _=>Za (xA (h:=Zd (Zm ?_)))) (fun h=>Bool.noConfusion h)))))
 exact eR t1 ⟨Ze (by simp only [Zdd];rw [show (decide (1≤xs.length) && decide (xs.length≤6))=false by simp;omega,Bool.and_false]),rfl,rfl⟩
 try simp only [sQ,ne_eq] at g1
 refine xM (h:=xV Tryz.underlying41 (h:=ZdP (h:=xF (h:=Zb rfl (fun g2=>?_) (fun g2=>?_)))))
 try simp only [sQ,ne_eq] at g2
 refine Za (xA (h:=Zd (Zm ?_)))
 exact eR t1 ⟨Ze (by simp only [Zdd];rw [show (decide (1≤xs.length) && decide (xs.length≤6))=false by simp;omega,Bool.and_false]),rfl,rfl⟩
 try simp only [sQ,ne_eq] at g2
 refine wSk (Zc (Za (xM (h:=xV Tryz.underlying41 (h:=xM (h:=Zg (Zz (α:=Nat) [0,12,13,14] (fun k=>[(15,.int .i64 k)]) [] (fun k=>[]) (fun k Bx=>Bx=B∧k≤xs.length∧∀y,y∈xs.take k→ZeY y=true) (fun k=>xs.length - k) 0 t1 rfl (⟨rfl,Nat.zero_le _,by simp⟩) (fun k B1 hle1 hI=>?_))))))))
 obtain ⟨rfl,hk,hall⟩:=hI
 refine ZD [(0,_),(12,_),(13,_),(14,_),(15,_)] [] t5 rfl (Za (ZF (h:=Zc (Zb rfl (fun g3=>?_) (fun g3=>?_)))))
 try simp only [sQ,ne_eq] at g3
 refine wSk (Zc (Zg (Za ?_)))
 obtain ⟨m,hm⟩:=ZY (xs:=xs) (i:=k) om
 obtain ⟨bb3,oo3,rfl⟩:=hs.base hm
 obtain ⟨_,rfl,hc4⟩:=hs.elem hm
 refine xIx Tryz.underlying41 Zl6 (h:=yL [_,_] Zwm hc4 0 (h:=xAl [_,_] Zwp (h:=fun b5=>xS [_,_] 0 [_,_] Zl6 (h:=tL1 (Za (xW Zhl (h:=x1 lk3 0 (h:=xR ZxO rfl (Zp0 m.low _) (h:=xN (h:=xM (h:=Zx (d:=23) rfl (fun g4=>?_) (fun g4=>?_))))))))))))
 try simp only [sQ,ne_eq] at g4
 refine xP (h:=xP (h:=xP (h:=xP (h:=xT (h:=Zb (t:=true) rfl (fun _=>Za (xA (h:=Zd (ZB (Zm (ZM (ZB (Zm ?_)))))))) (fun h=>Bool.noConfusion h))))))
 exact eR t1 ⟨Ze (by rw [Zdd,Zb2 hm (by simp only [ZeY];rw [show (decide (0≤m.low) && decide (m.low≤99))=false by simpa using g4,Bool.false_and]),Bool.false_and]),rfl,rfl⟩
 try simp only [sQ,ne_eq] at g4
 refine xW Zhk (h:=x1 lk3 0 (h:=xR ZxO rfl (Zp0 m.high _) (h:=xN (h:=xF (h:=Zb rfl (fun g5=>?_) (fun g5=>?_))))))
 try simp only [sQ,ne_eq] at g5
 refine Za (xA (h:=Zd (ZB (Zm (ZM (ZB (Zm ?_)))))))
 exact eR t1 ⟨Ze (by rw [Zdd,Zb2 hm (by simp only [ZeY];rw [show (decide (0≤m.high) && decide (m.high≤99))=false by simpa using g5,Bool.and_false]),Bool.false_and]),rfl,rfl⟩
 try simp only [sQ,ne_eq] at g5
 refine ZS (ZK (Zp (Zf (xD (h:=xM (h:=?_))))))
 exact ZC (k+1) [] so2 ⟨rfl,oz,Za8 hm hall (by simp only [ZeY];rw [show (decide (0≤m.low) && decide (m.low≤99))=true by simpa using g4,show (decide (0≤m.high) && decide (m.high≤99))=true by simpa using g5];rfl)⟩ t5 rfl
 try simp only [sQ,ne_eq] at g3
 refine ZE (ZV (ZG (Zt (Zp (Za (xA (h:=Zd ?_)))))))
 exact eR t1 ⟨Ze (by rw [Zdd,ZdX (Zbe oz hall),Bool.true_and,Bool.eq_iff_iff];simp;omega),rfl,rfl⟩

theorem Znr (n last:Int) (B:Kn):Zac (pj J) 102 [.int .i64 n,.int .i64 last] B (.int .i64 (if n=0 then last else n)):=by
 refine cB 9 Tryz.func102 (h:=?_)
 refine Za (xA (h:=Zc (Za (xM (h:=Zf8 (h:=Zb rfl (fun g1=>?_) (fun g1=>?_)))))))
 try simp only [sQ,ne_eq] at g1
 refine Za (xM (h:=xA (h:=Zd (Zm ?_))))
 exact eR t1 ⟨congrArg (Value.int .i64) (by rw [if_pos g1]),rfl,rfl⟩
 try simp only [sQ,ne_eq] at g1
 refine wSk (Za (xM (h:=xA (h:=Zd ?_))))
 exact eR t1 ⟨congrArg (Value.int .i64) (by rw [if_neg g1]),rfl,rfl⟩

theorem ZoI (q:Option Addr) (cp:Nat) (xs:List DSpan) (last:Int) (B:Kn) (hs:SlK B q cp 2 Z1 xs):Zv (pj J) 46 [.slice q xs.length cp,.int .i64 last] B [] (fun v B' Ls=>Ls=[]∧∃a c,v = .slice a (ZaA xs last).length c∧SlK B' a c 1 ZcH (ZaA xs last)):=by
 refine cB 67 Tryz.func46 (h:=?_)
 have hsn:=hs.len
 refine Za (xA (h:=Za (xBs [] [] Tryz.underlying65 sz3 zo3 (h:=fun b1=>xA (h:=tL1 (Zc (Za (xM (h:=xR ZBd rfl (Zle _ _ xs _ hs) (h:=xN (h:=xM (h:=Zx (d:=18) rfl (fun g1=>?_) (fun g1=>?_)))))))))))))
 try simp only [sQ,ne_eq] at g1
 refine xP (h:=xP (h:=xT (h:=Zb (t:=true) rfl (fun _=>Za (xM (h:=Zd8 0 rfl (ZT.lit0 (R:=ZcH) (w:=1)) ZcH.mono om3 (fun B3 hle3 hr3=>?_)))) (fun h=>Bool.noConfusion h))))
 replace hs:=up1 hle3 hs
 have hr3n:=hr3.len
 refine xA (h:=tL1 ?_)
 rw [ZkU (.inl (by simpa using g1))]
 refine Zd (Zm ?_)
 exact eN [] rfl t1 ⟨rfl,_,_,rfl,hr3⟩
 try simp only [sQ,ne_eq] at g1
 refine xM (h:=ZF (h:=xF (h:=Zb rfl (fun g2=>?_) (fun g2=>?_))))
 try simp only [sQ,ne_eq] at g2
 refine Za (xM (h:=Zd8 0 rfl (ZT.lit0 (R:=ZcH) (w:=1)) ZcH.mono om3 (fun B4 hle4 hr4=>?_)))
 replace hs:=up1 hle4 hs
 have hr4n:=hr4.len
 refine xA (h:=tL1 ?_)
 rw [ZkU (.inr g2)]
 refine Zd (Zm ?_)
 exact eN [] rfl t1 ⟨rfl,_,_,rfl,hr4⟩
 try simp only [sQ,ne_eq] at g2
 have hset:Zdd xs=true:=by simpa using g1
 refine wSk (Za (xM (h:=Zl (Zgd rfl rfl rfl rfl (xA (h:=Za (Zl (Zaj (l:=bitv fun _=>false) rfl rfl Zym kr (fun b5=>?_)))))))))
 refine tL2 (Zc (Za (xM (h:=xV Tryz.underlying41 (h:=xM (h:=Zg (Zz (α:=Nat × (Nat→Bool)) [0,1,4,5,6,21,25,26] (fun g=>[(27,.int .i64 g.1)]) [1] (fun g=>[ZN b5 (bitv g.2) 165]) (fun g Bx=>Bx=B∧g.1≤xs.length∧g.2=Zh0 xs (min last 99) g.1) (fun g=>xs.length - g.1) (0,fun _=>false) t1 rfl (⟨rfl,Nat.zero_le _,Zqv _ _⟩) (fun g B6 hle6 hI=>?_))))))))
 obtain ⟨rfl,hk,hF⟩:=hI
 refine ZD [(0,_),(1,_),(4,_),(5,_),(6,_),(21,_),(25,_),(26,_),(27,_)] [_,_] t9 rfl (Za (ZF (h:=Zc (Zb rfl (fun g3=>?_) (fun g3=>?_)))))
 try simp only [sQ,ne_eq] at g3
 refine wSk (Zc (Zg (Za ?_)))
 obtain ⟨m,hm⟩:=ZY (xs:=xs) (i:=g.1) om
 obtain ⟨bb8,oo8,rfl⟩:=hs.base hm
 obtain ⟨_,rfl,hc9⟩:=hs.elem hm
 refine xIx Tryz.underlying41 Zl6 (h:=?_)
 have hsp:=Zol hset m (List.mem_of_getElem? hm)
 simp only [ZeY,Bool.and_eq_true,decide_eq_true_eq] at hsp
 have hlo1:1≤(if m.low=0 then (min last 99) else m.low):=by split <;> omega
 have hhi1:1≤(if m.high=0 then (min last 99) else m.high):=by split <;> omega
 refine yL [_,_] Zwm hc9 0 (h:=xAl [_,_] Zwp (h:=fun b10=>xS [_,_] 2 [_,_] Zl6 (h:=tL3 (Zc (Z2 (same _ _) mo kr ⟨rfl,rfl⟩ (fun _ _=>?_))))))
 refine aW 0 rfl Zhl (h:=aT 1 rfl (Zae fun D=>Zo rfl rfl lk3 rfl (atL 2 rfl rfl rfl) r4) (h:=aM 2 rfl (h:=aT 3 rfl (Zae fun D=>Z7 rfl rfl ZxN rfl (Znr m.low (min last 99) _) r4) (h:=aW 4 rfl Zhk (h:=aT 5 rfl (Zae fun D=>Zo rfl rfl lk3 rfl (atL 2 rfl rfl rfl) r4) (h:=aM 6 rfl (h:=aT 7 rfl (Zae fun D=>Z7 rfl rfl ZxN rfl (Znr m.high (min last 99) _) r4) (h:=aA 8 rfl (h:=aA 9 rfl (h:=Zu kr kr ?_))))))))))
 refine Zp (Zc (Za (xM (h:=xM (h:=ZdP (h:=Zb rfl (fun g4=>?_) (fun g4=>?_)))))))
 try simp only [sQ,ne_eq] at g4
 refine Zf (xM (h:=xM (h:=xA (h:=xA (h:=Zp (Za (xM (h:=xA (h:=Zg (Zz (α:=Int × (Nat→Bool)) [0,1,4,5,6,8,9,10,21,25,26,27,28,41] (fun o=>[(11,.int .i64 o.1)]) [1] (fun o=>[ZN b5 (bitv o.2) 165]) (fun o Bx=>Bx=B6∧(if m.high=0 then (min last 99) else m.high)≤o.1∧(o.1≤min (if m.low=0 then (min last 99) else m.low) (min last 99)+1∨o.1=(if m.high=0 then (min last 99) else m.high))∧o.2=Zj1 g.2 (if m.high=0 then (min last 99) else m.high) o.1) (fun o=>(min (if m.low=0 then (min last 99) else m.low) (min last 99)+1 - o.1).toNat) ((if m.high=0 then (min last 99) else m.high),g.2) t1 rfl (⟨rfl,Int.le_refl _,.inr rfl,Zjd _ _⟩) (fun o B13 hle13 hI=>?_)))))))))))
 obtain ⟨rfl,ho1,ho2,ho3⟩:=hI
 refine ZD [(0,_),(1,_),(4,_),(5,_),(6,_),(8,_),(9,_),(10,_),(11,_),(21,_),(25,_),(26,_),(27,_),(28,_),(41,_)] [_,_,_] t15 rfl (Zc (Za (xM (h:=xM (h:=xM (h:=Zl (Zgd rfl rfl rfl rfl (Zb4 (h:=Zb rfl (fun g5=>?_) (fun g5=>?_))))))))))
 try simp only [sQ,ne_eq] at g5
 refine wSk (Zc (Zg (Zf (xM (h:=Zl (Zpt rfl rfl Tryz.underlying165 sz4 rfl rfl oz oz ?_))))))
 refine Zl (Znh 1 rfl rfl sz4 rfl rfl rfl oz ?_)
 refine ZK (Zp (Zf (xM (h:=xD (h:=xA (h:=?_))))))
 exact ZC (o.1+1,fun n=>if n=o.1.toNat then true else o.2 n) [0,1,2] so2 ⟨rfl,so,.inl (so),Zje ho3 oz ho1⟩ t15 rfl
 try simp only [sQ,ne_eq] at g5
 refine ZE (ZV (ZG (Zt (ZK (Zp (Zf (xD (h:=xM (h:=?_)))))))))
 exact ZC (g.1+1,o.2) [0,1] so2 ⟨rfl,so,Zk3 (a:=(if m.high=0 then (min last 99) else m.high)) (e:=(if m.low=0 then (min last 99) else m.low)) hm rfl rfl oz oz oz (by rw [← hF];exact ho3) oz ho1 oz⟩ t9 rfl
 try simp only [sQ,ne_eq] at g4
 refine wSk (Za (xM (h:=xA (h:=Zg (Zz (α:=Int × (Nat→Bool)) [0,1,4,5,6,8,9,10,21,25,26,27,28,41] (fun o=>[(11,.int .i64 o.1)]) [1] (fun o=>[ZN b5 (bitv o.2) 165]) (fun o Bx=>Bx=B6∧(if m.low=0 then (min last 99) else m.low)≤o.1∧(o.1≤min (if m.high=0 then (min last 99) else m.high) (min last 99)+1∨o.1=(if m.low=0 then (min last 99) else m.low))∧o.2=Zj1 g.2 (if m.low=0 then (min last 99) else m.low) o.1) (fun o=>(min (if m.high=0 then (min last 99) else m.high) (min last 99)+1 - o.1).toNat) ((if m.low=0 then (min last 99) else m.low),g.2) t1 rfl (⟨rfl,Int.le_refl _,.inr rfl,Zjd _ _⟩) (fun o B14 hle14 hI=>?_))))))
 obtain ⟨rfl,ho1,ho2,ho3⟩:=hI
 refine ZD [(0,_),(1,_),(4,_),(5,_),(6,_),(8,_),(9,_),(10,_),(11,_),(21,_),(25,_),(26,_),(27,_),(28,_),(41,_)] [_,_,_] t15 rfl (Zc (Za (xM (h:=xM (h:=xM (h:=Zl (Zgd rfl rfl rfl rfl (Zb4 (h:=Zb rfl (fun g5=>?_) (fun g5=>?_))))))))))
 try simp only [sQ,ne_eq] at g5
 refine wSk (Zc (Zg (Zf (xM (h:=Zl (Zpt rfl rfl Tryz.underlying165 sz4 rfl rfl oz oz ?_))))))
 refine Zl (Znh 1 rfl rfl sz4 rfl rfl rfl oz ?_)
 refine ZK (Zp (Zf (xM (h:=xD (h:=xA (h:=?_))))))
 exact ZC (o.1+1,fun n=>if n=o.1.toNat then true else o.2 n) [0,1,2] so2 ⟨rfl,so,.inl (so),Zje ho3 oz ho1⟩ t15 rfl
 try simp only [sQ,ne_eq] at g5
 refine ZE (ZV (ZG (Zt (ZK (Zp (Zf (xD (h:=xM (h:=?_)))))))))
 exact ZC (g.1+1,o.2) [0,1] so2 ⟨rfl,so,Zk3 (a:=(if m.low=0 then (min last 99) else m.low)) (e:=(if m.high=0 then (min last 99) else m.high)) hm rfl rfl oz oz oz (by rw [← hF];exact ho3) oz ho1 oz⟩ t9 rfl
 try simp only [sQ,ne_eq] at g3
 have hF2:g.2=Zh0 xs (min last 99) xs.length:=by rw [hF,show g.1=xs.length from by omega]
 refine ZE (ZV (ZG (Zt (Zp (Zc (Za (Zl (Zsm 1 rfl rfl ZyT rfl rfl (xM (h:=Zg (Zz (α:=Gh Int) [0,1,4,6,21,25,26,27,28,55] (fun h=>[(5,.slice h.a h.xs.length h.c),(56,.int .i64 h.k)]) [0] (fun h=>[h.l]) (fun h Bx=>Bx=B6∧h.k≤100∧h.xs.length≤h.k∧h.xs=ZbT xs (min last 99) (min (h.k - 1) (min last 99).toNat)∧ZT Bx h.l h.a h.c 3 1 ZcH h.xs) (fun h=>100 - h.k) ⟨0,0,_,_,_,[]⟩ t2 rfl (⟨rfl,Nat.zero_le _,Nat.le_refl _,by rw [show min (0 - 1) (min last 99).toNat=0 from by omega];rfl,.lit0⟩) (fun h B15 hle15 hI=>?_))))))))))))
 obtain ⟨rfl,hk2,hgl,hnt,hv⟩:=hI
 refine ZD [(0,_),(1,_),(4,_),(5,_),(6,_),(21,_),(25,_),(26,_),(27,_),(28,_),(55,_),(56,_)] [_,_] t12 rfl (Za (ZF (h:=Zc (Zb rfl (fun g6=>?_) (fun g6=>?_)))))
 try simp only [sQ,ne_eq] at g6
 refine wSk (Zc (Zg (Za (xM (h:=Zl (Zsn rfl rfl Tryz.underlying165 lk4 sz4 rfl rfl oz oz oz ?_))))))
 refine xA (h:=xA (h:=Za (xM (h:=Zb rfl (fun g7=>?_) (fun g7=>?_)))))
 try simp only [sQ,ne_eq] at g7
 refine Zf (xM (h:=xM (h:=xBs [(0,_)] [_] Tryz.underlying65 sz3 zo3 (h:=fun b16=>Zl (ZhK (z:=(↑h.k:Int)) (R:=ZcH) 0 rfl hv rfl rfl rfl ZA3 ZAR rfl rfl (Zc1.box 2 rfl) rfl rfl (rfl) om (fun l17 p17 c17 hv17=>?_))))))
 refine xA (h:=ZK (Zp (Zf (xD (h:=xM (h:=?_))))))
 exact ZC ⟨h.k+1,0,l17,p17,c17,(h.xs ++ [(↑h.k:Int)])⟩ [0,1] so2 ⟨rfl,so,by simp;omega,by simp only [];rw [Nat.add_sub_cancel,Zta (by rw [← hF2];simpa using g7),hnt],hv17⟩ t12 rfl
 try simp only [sQ,ne_eq] at g7
 refine ZS (ZK (Zp (Zf (xD (h:=xM (h:=?_))))))
 exact ZC ⟨h.k+1,0,h.l,h.a,h.c,h.xs⟩ [0,1] so2 ⟨rfl,so,so,by simp only [];rw [Nat.add_sub_cancel,Zvm (by rw [← hF2];simpa using g7),hnt],hv⟩ t12 rfl
 try simp only [sQ,ne_eq] at g6
 refine ZE (ZV (ZG (Zt (Zp (Za (xM (h:=Zd8 0 rfl hv ZcH.mono om3 (fun B18 hle18 hr18=>?_))))))))
 have hr18n:=hr18.len
 refine xA (h:=tL2 ?_)
 have hne:ZaA xs last=h.xs:=by rw [Zow hset,hnt,show min (h.k - 1) (min last 99).toNat=(min last 99).toNat from by omega]
 rw [hne]
 refine Zd ?_
 exact eN [] rfl t1 ⟨rfl,_,_,rfl,hr18⟩

theorem ZuS (hJ:Joins Tryz.prog J) (ba b:Nat) (q1 q2 q3:Option Addr) (c1 c2 c3:Nat) (x:DHost) (l1 l2 l3:Cells) (u o n:Str) (r:Int) (f:FuncId) (cap:Array Value) (R:DHost) (kk:Nat) (he:enters Tryz.prog f=true) (hul:u.length≤2000000) (hol:o.length≤2000000) (hnl:n.length≤2000000) (hn1:x.users.length≤2000000) (hn2:x.folders.length≤2000000) (a:Nat→Addr) (B:Kn) (hE:ErrsB 372 [0,1,2,3] B a) (hc1:Zal B ba 0 [str o,str n,str u,ptr ⟨b,0,none⟩]) (hu:ZT Kn.none l1 q1 c1 141 3 Zn x.users) (hf:ZaF l2 q2 c2 96 5 (ZU 259 99) x.folders) (hi:ZaF l3 q3 c3 145 4 (ZaQ 9) x.queue.items) (hw:ZcS x.users x.folders u o n 2=0→ZcS x.users x.folders u o n r=0→∀(B2:Kn),B.le B2→Zv (pj J) f (ptr ⟨b,2,none⟩ :: .int .i64 (if ZcS x.users x.folders u o n r=0 then ZaN (inF o n) x.folders else -1) :: cap.toList) B2 [ZN b [.int .i32 1,.int .u32 0,str x.domain,.slice q1 x.users.length c1,.slice q2 x.folders.length c2,.int .i64 x.queue.next,.slice q3 x.queue.items.length c3] 160,l1,l2,l3] (fun v B' Ls=>∃q1' c1' q2' c2' q3' c3' l1' l2' l3',Ls=[ZN b [.int .i32 1,.int .u32 0,str R.domain,.slice q1' R.users.length c1',.slice q2' R.folders.length c2',.int .i64 R.queue.next,.slice q3' R.queue.items.length c3'] 160,l1',l2',l3']∧v=errv 372 a (kk)∧ZT Kn.none l1' q1' c1' 141 3 Zn R.users∧ZaF l2' q2' c2' 96 5 (ZU 259 99) R.folders∧ZaF l3' q3' c3' 145 4 (ZaQ 9) R.queue.items)):Zv (pj J) 100 [ptr ⟨ba,0,none⟩,.int .i64 r,.func (.func f) #[] cap] B [ZN b [.int .i32 0,.int .u32 0,str x.domain,.slice q1 x.users.length c1,.slice q2 x.folders.length c2,.int .i64 x.queue.next,.slice q3 x.queue.items.length c3] 160,l1,l2,l3] (fun v B' Ls=>∃q1' c1' q2' c2' q3' c3' l1' l2' l3',Ls=[ZN b [.int .i32 0,.int .u32 0,str (usX x u o n r R x).domain,.slice q1' (usX x u o n r R x).users.length c1',.slice q2' (usX x u o n r R x).folders.length c2',.int .i64 (usX x u o n r R x).queue.next,.slice q3' (usX x u o n r R x).queue.items.length c3'] 160,l1',l2',l3']∧v=errv 372 a (usN x u o n r kk)∧ZT Kn.none l1' q1' c1' 141 3 Zn (usX x u o n r R x).users∧ZaF l2' q2' c2' 96 5 (ZU 259 99) (usX x u o n r R x).folders∧ZaF l3' q3' c3' 145 4 (ZaQ 9) (usX x u o n r R x).queue.items):=by
 refine ZhA (P:=pj J) 88 Tryz.func100 rfl rfl (Nat.le_of_ble_eq_true rfl) ?_
 intro X kind c cs F T0 hk hke hA hn0 hT0
 let CC:Cx (pj J):=⟨X,fb 100 kind,c :: cs,F,hke⟩
 show CC.X.R (Go.Conc.G (fat CC.b T0 [] _) CC.cs) B (List.flatten [ZN b [.int .i32 0,.int .u32 0,str x.domain,.slice q1 x.users.length c1,.slice q2 x.folders.length c2,.int .i64 x.queue.next,.slice q3 x.queue.items.length c3] 160,l1,l2,l3] ++ CC.F)
 refine Zbn (C:=CC) (ZaG (C:=CC) (Zcp (C:=CC) (i:=0) (todo:=[]) rfl hn0 hT0 (Zl (Zcs rfl rfl rfl (fun T1 hn1 hT1=>Z4 (C:=CC) (Zbn (C:=CC) (ZaG (C:=CC) (Zcp (C:=CC) (i:=0) (todo:=[1,2,3,4,5,6]) rfl hn1 hT1 (Zl (Zcr rfl rfl rfl (fun T2 hn2 hT2=>Zcp (C:=CC) (i:=1) (todo:=[2,3,4,5,6]) rfl hn2 hT2 (Zl (ZaU rfl rfl rfl (fun T3 hn3 hT3=>Zcp (C:=CC) (i:=2) (todo:=[3,4,5,6]) rfl hn3 hT3 (Zl (Zav rfl rfl Zfb rfl (fun T4 hn4 hT4=>Zcp (C:=CC) (i:=3) (todo:=[4,5,6]) rfl hn4 hT4 (Zl (Zo rfl rfl Zk8 rfl (hc1 _ 3 _ rfl) (fun T5 hn5 hT5=>Zcp (C:=CC) (i:=4) (todo:=[5,6]) rfl hn5 hT5 (Zl (ZaU rfl rfl rfl (fun T6 hn6 hT6=>Zcp (C:=CC) (i:=5) (todo:=[6]) rfl hn6 hT6 (Zl (Zav rfl rfl Zre rfl (fun T7 hn7 hT7=>Zcp (C:=CC) (i:=6) (todo:=[]) rfl hn7 hT7 (Zl (ZcI [0] rfl rfl rfl rfl Zz4 rfl (ZyQ hJ Zs6 Zj0 ZjZ ZzE) ?_))))))))))))))))))))))))))))
 rintro _ B1 _ hle1 ⟨rfl,rfl,rfl⟩
 intro T8 hn8 hT8
 refine Z4 (C:=CC) (ZCa (C:=CC) [_,_,_,_] rfl (Zbn (C:=CC) (ZaG (C:=CC) (Zcp (C:=CC) (i:=0) (todo:=[1,2,3,4,5,6]) rfl hn8 hT8 (Zl (Zcr rfl rfl rfl (fun T9 hn9 hT9=>Zcp (C:=CC) (i:=1) (todo:=[2,3,4,5,6]) rfl hn9 hT9 (Zl (ZaU rfl rfl rfl (fun T10 hn10 hT10=>Zcp (C:=CC) (i:=2) (todo:=[3,4,5,6]) rfl hn10 hT10 (Zl (Zav rfl rfl Zfb rfl (fun T11 hn11 hT11=>Zcp (C:=CC) (i:=3) (todo:=[4,5,6]) rfl hn11 hT11 (Zl (Zo rfl rfl Zk8 rfl (hc1 _ 3 _ rfl) (fun T12 hn12 hT12=>Zcp (C:=CC) (i:=4) (todo:=[5,6]) rfl hn12 hT12 (Zl (ZaU rfl rfl rfl (fun T13 hn13 hT13=>Zcp (C:=CC) (i:=5) (todo:=[6]) rfl hn13 hT13 (Zl (Zav rfl rfl Zre rfl (fun T14 hn14 hT14=>ZoZ hke rfl hT14 rfl (Z4 (C:=CC) (Zlv (X:=X) (av:=[ptr ⟨b,0,none⟩]) (Post:=(fun v B' Ls=>∃q1' c1' q2' c2' q3' c3' l1' l2' l3',Ls=[ZN b [.int .i32 0,.int .u32 0,str (usX x u o n r R x).domain,.slice q1' (usX x u o n r R x).users.length c1',.slice q2' (usX x u o n r R x).folders.length c2',.int .i64 (usX x u o n r R x).queue.next,.slice q3' (usX x u o n r R x).queue.items.length c3'] 160,l1',l2',l3']∧v=errv 372 a (usN x u o n r kk)∧ZT Kn.none l1' q1' c1' 141 3 Zn (usX x u o n r R x).users∧ZaF l2' q2' c2' 96 5 (ZU 259 99) (usX x u o n r R x).folders∧ZaF l3' q3' c3' 145 4 (ZaQ 9) (usX x u o n r R x).queue.items)) Tryz.func100 hk hke Tryz.func168 kr rfl hn14 hT14 hA ?_))))))))))))))))))))))))
 refine Zc (Zc (Z2 (same _ _) mo kr ⟨rfl,rfl⟩ (fun _ _=>?_)))
 refine aM 0 rfl (h:=aNc 1 rfl (h:=aW 2 rfl Zfb (h:=aT 3 rfl (Zae fun D=>Zo rfl rfl Zk8 rfl (hc1 _ 3 _ rfl) r4) (h:=aNc 4 rfl (h:=aW 5 rfl ZgZ (h:=aM 6 rfl (h:=aNc 7 rfl (h:=aW 8 rfl Zrd (h:=aT 9 rfl (Zae fun D=>Zo rfl rfl lk9 rfl (hc1 _ 2 _ rfl) r4) (h:=aM 10 rfl (h:=aNc 11 rfl (h:=aW 12 rfl ZjY (h:=aW 13 rfl Zrg (h:=aT 14 rfl (Zae fun D=>Zo rfl rfl lk9 rfl (hc1 _ 0 _ rfl) r4) (h:=aM 15 rfl (h:=aNc 16 rfl (h:=aW 17 rfl ZjY (h:=aW 18 rfl Zrf (h:=aT 19 rfl (Zae fun D=>Zo rfl rfl lk9 rfl (hc1 _ 1 _ rfl) r4) (h:=aT 20 rfl (Zae fun D=>ZfA [0,1,2,3] rfl rfl rfl rfl rfl Zzb rfl (Zac.borrowL fun hm2=>Zm5 _ _ _ _ _ _ _ _ x u o n 2 om2 om2 om2 a _ (hE.mono (Kn.le_add _ _)) (Zal.drop2 (Zyc 0 rfl hm2)) (hu.lendK Zn.any 1 rfl hm2 om) (hf.lendK ZU.known Zk.mono 2 rfl hm2 om)) r4) (h:=?_)))))))))))))))))))))
 refine aM 21 rfl (h:=aE 22 rfl (h:=aE 23 rfl (h:=aA 24 rfl (h:=aA 25 rfl (h:=Zu kr kr ?_)))))
 refine Zp (tL4 (Za (xM (h:=Zl (Zni (tE:=372) (a:=a) (c:=(ZcS x.users x.folders u o n 2)) rfl rfl Tryz.underlying82 rfl (Zb rfl (fun g1=>?_) (fun g1=>?_)))))))
 try simp only [sQ,ne_eq] at g1
 refine Za (xM (h:=xA (h:=Zd (Zm ?_))))
 obtain ⟨e1,e2⟩:=Zuo (x:=x) (u:=u) (o:=o) (n:=n) (r:=r) oz kk
 show _∧_
 refine Zy7 (.inl rfl) [_] [0,1,2,3] rfl (fun _ _=>t1) ((Zl2 hJ Zs6 Zj0 ZyS ZjZ Zv1).frame1.mono ?_)
 rintro _ _ _ _ ⟨_,⟨rfl,_,rfl⟩,rfl⟩
 rw [e1,e2]
 exact ⟨_,_,_,_,_,_,_,_,_,rfl,rfl,hu,hf,hi⟩
 try simp only [sQ,ne_eq] at g1
 have h2:ZcS x.users x.folders u o n 2=0:=by omega
 refine wSk (Zc (Z2 (same _ _) mo kr ⟨rfl,rfl⟩ (fun _ _=>?_)))
 refine aM 0 rfl (h:=aNc 1 rfl (h:=aW 2 rfl Zfb (h:=aT 3 rfl (Zae fun D=>Zo rfl rfl Zk8 rfl (hc1 _ 3 _ rfl) r4) (h:=aNc 4 rfl (h:=aW 5 rfl ZgZ (h:=aM 6 rfl (h:=aNc 7 rfl (h:=aW 8 rfl Zrd (h:=aT 9 rfl (Zae fun D=>Zo rfl rfl lk9 rfl (hc1 _ 2 _ rfl) r4) (h:=aM 10 rfl (h:=aNc 11 rfl (h:=aW 12 rfl ZjY (h:=aW 13 rfl Zrg (h:=aT 14 rfl (Zae fun D=>Zo rfl rfl lk9 rfl (hc1 _ 0 _ rfl) r4) (h:=aM 15 rfl (h:=aNc 16 rfl (h:=aW 17 rfl ZjY (h:=aW 18 rfl Zrf (h:=aT 19 rfl (Zae fun D=>Zo rfl rfl lk9 rfl (hc1 _ 1 _ rfl) r4) (h:=aM 20 rfl (h:=aT 21 rfl (Zae fun D=>ZfA [0,1,2,3] rfl rfl rfl rfl rfl Zzb rfl (Zac.borrowL fun hm3=>Zm5 _ _ _ _ _ _ _ _ x u o n r om2 om2 om2 a _ (hE.mono (Kn.le_add _ _)) (Zal.drop2 (Zyc 0 rfl hm3)) (hu.lendK Zn.any 1 rfl hm3 om) (hf.lendK ZU.known Zk.mono 2 rfl hm3 om)) r4) (h:=?_))))))))))))))))))))))
 refine aM 22 rfl (h:=aE 23 rfl (h:=aE 24 rfl (h:=aA 25 rfl (h:=aA 26 rfl (h:=Zu kr kr ?_)))))
 refine Zp (Zc (Za (xM (h:=Zl (Zni (tE:=372) (a:=a) (c:=(ZcS x.users x.folders u o n r)) rfl rfl Tryz.underlying82 rfl (Zb rfl (fun g2=>?_) (fun g2=>?_)))))))
 try simp only [sQ,ne_eq] at g2
 refine Za (xM (h:=xA (h:=Zd (Zm ?_))))
 obtain ⟨e1,e2⟩:=ZwN (x:=x) (u:=u) (o:=o) (n:=n) (r:=r) h2 oz kk
 show _∧_
 refine Zy7 (.inl rfl) [_] [0,1,2,3] rfl (fun _ _=>t1) ((Zl2 hJ Zs6 Zj0 ZyS ZjZ Zv1).frame1.mono ?_)
 rintro _ _ _ _ ⟨_,⟨rfl,_,rfl⟩,rfl⟩
 rw [e1,e2]
 exact ⟨_,_,_,_,_,_,_,_,_,rfl,rfl,hu,hf,hi⟩
 try simp only [sQ,ne_eq] at g2
 have hr:ZcS x.users x.folders u o n r=0:=by omega
 refine ZS ?_
 refine Zp ?_
 refine Za ?_
 refine Zl (Zcr rfl rfl rfl ?_)
 refine Zl (Zcr rfl rfl rfl ?_)
 refine Zl (ZaU rfl rfl rfl ?_)
 refine Zl (Zav rfl rfl Zfb rfl ?_)
 refine Zl (Zo rfl rfl Zk8 rfl (hc1 _ 3 _ rfl) ?_)
 refine Zl (ZaU rfl rfl rfl ?_)
 refine Zl (Zav rfl rfl ZgZ rfl ?_)
 refine Zl (Zcr rfl rfl rfl ?_)
 refine Zl (ZuP [0,1,2,3] rfl rfl rfl rfl he rfl rfl (hw h2 hr _ (Kn.le.refl _)) ?_)
 rintro _ B4 _ hle4 ⟨q14,c14,q24,c24,q34,c34,l14,l24,l34,rfl,rfl,hu4,hf4,hi4⟩
 refine xA (h:=tL4 (Zd ?_))
 obtain ⟨e1,e2⟩:=Zun (x:=x) (u:=u) (o:=o) (n:=n) (r:=r) h2 hr kk
 show _∧_
 refine Zy7 (.inl rfl) [_] [0,1,2,3] rfl (fun _ _=>t1) ((Zl2 hJ Zs6 Zj0 ZyS ZjZ Zv1).frame1.mono ?_)
 rintro _ _ _ _ ⟨_,⟨rfl,_,rfl⟩,rfl⟩
 rw [e1,e2]
 exact ⟨_,_,_,_,_,_,_,_,_,rfl,rfl,hu4,hf4,hi4⟩

theorem Zw0 (q1 q2 q3:Option Addr) (c1 c2 c3:Nat) (x:DHost) (u o n:Str) (hul:u.length≤2000000) (hol:o.length≤2000000) (hnl:n.length≤2000000) (ar:Bool) (r:Int) (f:FuncId) (cap:Array Value) (R:DHost) (kk:Nat) (hk:kk<5) (he:enters Tryz.prog f=true) (hJ:Joins Tryz.prog J) (hd:x.domain.length≤2000000) (a:Nat→Addr) (B:Kn) (hE:ErrsB 372 [0,1,2,3] B a) (hu:SlK B q1 c1 3 Zn x.users) (hf:SlK B q2 c2 5 Zk x.folders) (hi:SlK B q3 c3 4 Zy x.queue.items) (hw:ar=true→ZQ x=true→ZcS x.users x.folders u o n 2=0→ZcS x.users x.folders u o n r=0→∀(B2:Kn) (b:Nat) (q1 q2 q3:Option Addr) (c1 c2 c3:Nat) (l1 l2 l3:Cells),B.le B2→ZT Kn.none l1 q1 c1 141 3 Zn x.users→ZaF l2 q2 c2 96 5 (ZU 259 99) x.folders→ZaF l3 q3 c3 145 4 (ZaQ 9) x.queue.items→Zv (pj J) f (ptr ⟨b,2,none⟩ :: .int .i64 (if ZcS x.users x.folders u o n r=0 then ZaN (inF o n) x.folders else -1) :: cap.toList) B2 [ZN b [.int .i32 1,.int .u32 0,str x.domain,.slice q1 x.users.length c1,.slice q2 x.folders.length c2,.int .i64 x.queue.next,.slice q3 x.queue.items.length c3] 160,l1,l2,l3] (fun v B' Ls=>∃q1' c1' q2' c2' q3' c3' l1' l2' l3',Ls=[ZN b [.int .i32 1,.int .u32 0,str R.domain,.slice q1' R.users.length c1',.slice q2' R.folders.length c2',.int .i64 R.queue.next,.slice q3' R.queue.items.length c3'] 160,l1',l2',l3']∧v=errv 372 a (kk)∧ZT Kn.none l1' q1' c1' 141 3 Zn R.users∧ZaF l2' q2' c2' 96 5 (ZU 259 99) R.folders∧ZaF l3' q3' c3' 145 4 (ZaQ 9) R.queue.items)):Zv (pj J) 43 [.agg #[str x.domain,.slice q1 x.users.length c1,.slice q2 x.folders.length c2,.int .i64 x.queue.next,.slice q3 x.queue.items.length c3],.agg #[str u,str o,str n],.bool ar,.int .i64 r,.func (.func f) #[] cap] B [] (fun v B' Ls=>∃(Y:DHost) (d:Int),∃q1 c1 q2 c2 q3 c3 l1 l2 l3,(Y,d)=(if ar=true∧ZQ x=true then (usX x u o n r R x,(usN x u o n r kk:Int)) else (Zdu,5))∧Ls=[l1,l2,l3]∧v = .tuple #[.agg #[str Y.domain,.slice q1 Y.users.length c1,.slice q2 Y.folders.length c2,.int .i64 Y.queue.next,.slice q3 Y.queue.items.length c3],.int .i64 d]∧ZT Kn.none l1 q1 c1 141 3 Zn Y.users∧ZaF l2 q2 c2 96 5 (ZU 259 99) Y.folders∧ZaF l3 q3 c3 145 4 (ZaQ 9) Y.queue.items):=by
 refine Zcg 44 Tryz.func43 rfl rfl rfl (Nat.le_of_ble_eq_true rfl) ?_
 have hun:=hu.len
 have hfn:=hf.len
 have hin:=hi.len
 have hus:=ZwO (x:=x) (u:=u) (o:=o) (n:=n) (r:=r) hk
 refine Za (xBx [_,_,_,_,_] (h:=fun b1=>xBx [_,_,_] (h:=fun b2=>xAl [_,_,_,_,_] Zb3 (h:=fun b3=>xA (h:=tL3 (Zc (Za (xM (h:=xN (h:=xM (h:=Zx (d:=16) rfl (fun g1=>?_) (fun g1=>?_))))))))))))
 try simp only [sQ,ne_eq] at g1
 refine xP (h:=xP (h:=xP (h:=xT (h:=ZwI [[],[],[]] rfl (Zb (t:=true) rfl (fun _=>Za (xB [] [_,_,_,_,_] [_,_,_,_,_] Zhn Zb3 (h:=xS [_,_,_,_,_] 2 [_,_,_,_,_] ZcL (h:=xA (h:=tL6 (Zd (Zm ?_))))))) (fun h=>Bool.noConfusion h))))))
 exact Zd2 .ret (.inl rfl) [_,_] [3,4,5] rfl ⟨⟨_,rfl,.inr ⟨[_,_,_,_,_],Zcd,Zbw 2 rfl rfl rfl,rfl⟩⟩,rfl,trivial⟩ ⟨Zdu,5,none,0,none,0,none,0,[],[],[],by rw [if_neg (by simp [g1])],rfl,rfl,ZT.nil,ZaF.nil,ZaF.nil⟩
 try simp only [sQ,ne_eq] at g1
 refine xL [_,_,_,_,_] Zcd 0 (h:=xQ ZB4 rfl (ZmL hJ _ _ _ _ _ _ x om2 _ hu hf hi) (h:=?_))
 intro vv Bv hlev
 rintro rfl
 replace hu:=hu.mono Zn.mono hlev
 replace hf:=hf.mono Zk.mono hlev
 replace hi:=hi.mono Zy.mono hlev
 replace hE:=hE.mono hlev
 refine xN (h:=xF (h:=Zb rfl (fun g2=>?_) (fun g2=>?_)))
 try simp only [sQ,ne_eq] at g2
 refine ZwI [[],[],[]] rfl (Za (xB [] [_,_,_,_,_] [_,_,_,_,_] Zhn Zb3 (h:=xS [_,_,_,_,_] 2 [_,_,_,_,_] ZcL (h:=xA (h:=tL6 (Zd (Zm ?_)))))))
 exact Zd2 .ret (.inl rfl) [_,_] [3,4,5] rfl ⟨⟨_,rfl,.inr ⟨[_,_,_,_,_],Zcd,Zbw 2 rfl rfl rfl,rfl⟩⟩,rfl,trivial⟩ ⟨Zdu,5,none,0,none,0,none,0,[],[],[],by rw [if_neg (by simp [g2])],rfl,rfl,ZT.nil,ZaF.nil,ZaF.nil⟩
 try simp only [sQ,ne_eq] at g2
 refine wSk (Zc (Z2 (keeps _ [0,1] _) mo kr ⟨Kn.le.refl _,Za6.refl _ _⟩ (fun _ _=>?_)))
 refine aW 0 rfl ZqX (h:=aT 1 rfl (ZO fun D B L hI=>Zo rfl rfl lk9 rfl (atL 1 (hI.2.2.1.trans rfl) rfl rfl) r4) (h:=aW 2 rfl ZqW (h:=aT 3 rfl (ZO fun D B L hI=>Zo rfl rfl lk9 rfl (atL 1 (hI.2.2.1.trans rfl) rfl rfl) r4) (h:=aT 4 rfl (ZO fun D B L hI=>Zaq (parts:=[(0,_),(1,_)]) [_,_] [_,_] rfl rfl ZyL Zyn rfl rfl rfl r4) (h:=aW 5 rfl Zjb (h:=aT 6 rfl (ZO fun D B L hI=>Zo rfl rfl lk9 rfl (atL 1 (hI.2.2.1.trans rfl) rfl rfl) r4) (h:=aT 7 rfl (ZO fun D B L hI=>ZW [_,_,_,_,_] rfl rfl Zcd rfl (Zbw 0 (hI.2.1.trans rfl) rfl rfl) r4) (h:=ZaD [8,12] kr kr kr ⟨?_,?_⟩))))))))
 refine (Zad rfl rfl ZA6 rfl (Zhh _ _ _ _ _ _ x _ hu hf hi) ?_)
 rintro _ Bc _ hlec ⟨q1c,c1c,q2c,c2c,q3c,c3c,l1c,l2c,l3c,rfl,rfl,huc,hfc,hic⟩
 replace hu:=hu.mono Zn.mono hlec
 replace hf:=hf.mono Zk.mono hlec
 replace hi:=hi.mono Zy.mono hlec
 replace hE:=hE.mono hlec
 refine ⟨⟨hlec,t2⟩,(aT 9 rfl (ZO fun D B L hI=>Zaq (parts:=[(1,_)]) [_,_,_,_,_,_,_] [_,_,_,_,_,_,_] rfl rfl Zw6 Zws rfl rfl rfl r4) (h:=ZaD [10,12] kr kr kr ⟨?_,?_⟩))⟩
 refine (Zpy (l:=[_,_,_,_,_,_,_]) rfl rfl rfl rfl (fun b6=>⟨⟨hlec,t2⟩,(aT 11 rfl (ZO fun D B L hI=>Zaq (parts:=[(0,_),(1,_),(2,_)]) [_,_,_,_] [_,_,_,_] rfl rfl Zva Zn4 rfl rfl rfl r4) (h:=ZA 12 kr rfl kr (Zaj (l:=[_,_,_,_]) rfl rfl Zn4 rfl (fun b7=>?_))))⟩))
 refine ⟨⟨hlec,t2⟩,(Zag 13 kr rfl kr kr kr (ZL [_,_,_,_] 7 [_,_,_,_] rfl rfl Zu1 rfl rfl rfl rfl rfl rfl rfl rfl ?_))⟩
 refine Zp (tL8 (Zjp 7 rfl (fun B8 hle8 hpm8=>?_)))
 have hc8:=Za0 hpm8
 replace hu:=hu.mono Zn.mono hle8
 replace hf:=hf.mono Zk.mono hle8
 replace hi:=hi.mono Zy.mono hle8
 replace huc:=huc.mono Zn.mono hle8
 replace hE:=hE.mono hle8
 refine Za (xM (h:=xM (h:=xK [6,3,4,5] rfl Zv7 rfl (ZuS hJ _ _ _ _ _ _ _ _ x _ _ _ u o n r f cap R kk he hul hol hnl om2 om2 a _ hE hc8 huc hfc hic (fun h2 hr B2 hle=>hw (by simpa using g1) (by simpa using g2) h2 hr B2 _ _ _ _ _ _ _ _ _ _ (hlev.trans (hlec.trans (hle8.trans hle))) huc hfc hic)) (h:=?_))))
 rintro _ B9 _ hle9 ⟨q19,c19,q29,c29,q39,c39,l19,l29,l39,rfl,rfl,hu9,hf9,hi9⟩
 replace hu:=hu.mono Zn.mono hle9
 replace hf:=hf.mono Zk.mono hle9
 replace hi:=hi.mono Zy.mono hle9
 replace hc8:=hc8.mono hle9
 replace huc:=huc.mono Zn.mono hle9
 replace hE:=hE.mono hle9
 refine xA (h:=tL8 (Zc (Z2 (keeps _ [] _) mo kr ⟨Kn.le.refl _,Za6.refl _ _⟩ (fun _ _=>?_))))
 refine aW 0 rfl Zfb (h:=aT 1 rfl (ZO fun D B L hI=>Zo rfl rfl Zk8 rfl ((hc8.mono hI.1) _ 3 _ rfl) r4) (h:=aNc 2 rfl (h:=aW 3 rfl ZgZ (h:=aM 5 rfl (h:=aT 6 rfl (ZO fun D B L hI=>Z7 rfl rfl Zza rfl (ZgW (usN x u o n r kk) om2 a _ (hE.mono hI.1)) r4) (h:=?_))))))
 refine ZA 4 kr rfl kr (ZW [_,_,_,_,_] rfl rfl Zcd rfl (Zbw 6 rfl rfl rfl) ?_)
 refine ⟨⟨Kn.le.refl _,trivial⟩,(Zbs 7 kr rfl kr kr (ZL [_,_,_,_,_] 2 [_,_,_,_,_] rfl rfl ZcL rfl rfl rfl rfl rfl rfl rfl rfl ?_))⟩
 refine aA 8 rfl (h:=Zu kr kr ?_)
 refine Zp (tL8 (Zd ?_))
 exact Zd2 .ret (.inl rfl) [_,_] [3,4,5] rfl ⟨⟨_,rfl,.inr ⟨[_,_,_,_,_],Zcd,Zbw 2 rfl rfl rfl,rfl⟩⟩,rfl,trivial⟩ ⟨(usX x u o n r R x),_,_,_,_,_,_,_,_,_,_,by rw [if_pos ⟨by simpa using g1,by simpa using g2⟩],rfl,rfl,hu9,hf9,hi9⟩
 refine (Zaj (l:=[_,_,_,_]) rfl rfl Zn4 rfl (fun b11=>⟨⟨hlec,t2⟩,(ZA 10 kr rfl kr (Zpy (l:=[_,_,_,_,_,_,_]) rfl rfl rfl rfl (fun b12=>?_)))⟩))
 refine ⟨⟨hlec,t2⟩,(aT 11 rfl (ZO fun D B L hI=>Zaq (parts:=[(0,_),(1,_),(2,_)]) [_,_,_,_] [_,_,_,_] rfl rfl Zva Zn4 rfl rfl rfl r4) (h:=Zag 13 kr rfl kr kr kr (ZL [_,_,_,_] 6 [_,_,_,_] rfl rfl Zu1 rfl rfl rfl rfl rfl rfl rfl rfl ?_)))⟩
 refine Zp (tL8 (Zjp 6 rfl (fun B13 hle13 hpm13=>?_)))
 have hc13:=Za0 hpm13
 replace hu:=hu.mono Zn.mono hle13
 replace hf:=hf.mono Zk.mono hle13
 replace hi:=hi.mono Zy.mono hle13
 replace huc:=huc.mono Zn.mono hle13
 replace hE:=hE.mono hle13
 refine Za (xM (h:=xM (h:=xK [7,3,4,5] rfl Zv7 rfl (ZuS hJ _ _ _ _ _ _ _ _ x _ _ _ u o n r f cap R kk he hul hol hnl om2 om2 a _ hE hc13 huc hfc hic (fun h2 hr B2 hle=>hw (by simpa using g1) (by simpa using g2) h2 hr B2 _ _ _ _ _ _ _ _ _ _ (hlev.trans (hlec.trans (hle13.trans hle))) huc hfc hic)) (h:=?_))))
 rintro _ B14 _ hle14 ⟨q114,c114,q214,c214,q314,c314,l114,l214,l314,rfl,rfl,hu14,hf14,hi14⟩
 replace hu:=hu.mono Zn.mono hle14
 replace hf:=hf.mono Zk.mono hle14
 replace hi:=hi.mono Zy.mono hle14
 replace hc13:=hc13.mono hle14
 replace huc:=huc.mono Zn.mono hle14
 replace hE:=hE.mono hle14
 refine xA (h:=tL8 (Zc (Z2 (keeps _ [] _) mo kr ⟨Kn.le.refl _,Za6.refl _ _⟩ (fun _ _=>?_))))
 refine aW 0 rfl Zfb (h:=aT 1 rfl (ZO fun D B L hI=>Zo rfl rfl Zk8 rfl ((hc13.mono hI.1) _ 3 _ rfl) r4) (h:=aNc 2 rfl (h:=aW 3 rfl ZgZ (h:=aM 5 rfl (h:=aT 6 rfl (ZO fun D B L hI=>Z7 rfl rfl Zza rfl (ZgW (usN x u o n r kk) om2 a _ (hE.mono hI.1)) r4) (h:=?_))))))
 refine ZA 4 kr rfl kr (ZW [_,_,_,_,_] rfl rfl Zcd rfl (Zbw 7 rfl rfl rfl) ?_)
 refine ⟨⟨Kn.le.refl _,trivial⟩,(Zbs 7 kr rfl kr kr (ZL [_,_,_,_,_] 2 [_,_,_,_,_] rfl rfl ZcL rfl rfl rfl rfl rfl rfl rfl rfl ?_))⟩
 refine aA 8 rfl (h:=Zu kr kr ?_)
 refine Zp (tL8 (Zd ?_))
 exact Zd2 .ret (.inl rfl) [_,_] [3,4,5] rfl ⟨⟨_,rfl,.inr ⟨[_,_,_,_,_],Zcd,Zbw 2 rfl rfl rfl,rfl⟩⟩,rfl,trivial⟩ ⟨(usX x u o n r R x),_,_,_,_,_,_,_,_,_,_,by rw [if_pos ⟨by simpa using g1,by simpa using g2⟩],rfl,rfl,hu14,hf14,hi14⟩
 refine (Zaj (l:=[_,_,_,_]) rfl rfl Zn4 rfl (fun b16=>⟨⟨Kn.le.refl _,t2⟩,(ZA 8 kr rfl kr (Zad rfl rfl ZA6 rfl (Zhh _ _ _ _ _ _ x _ hu hf hi) ?_))⟩))
 rintro _ Bc _ hlec ⟨q1c,c1c,q2c,c2c,q3c,c3c,l1c,l2c,l3c,rfl,rfl,huc,hfc,hic⟩
 replace hE:=hE.mono hlec
 refine ⟨⟨hlec,t2⟩,(aT 9 rfl (ZO fun D B L hI=>Zaq (parts:=[(1,_)]) [_,_,_,_,_,_,_] [_,_,_,_,_,_,_] rfl rfl Zw6 Zws rfl rfl rfl r4) (h:=ZA 10 kr rfl kr (Zpy (l:=[_,_,_,_,_,_,_]) rfl rfl rfl rfl (fun b18=>?_))))⟩
 refine ⟨⟨hlec,t2⟩,(aT 11 rfl (ZO fun D B L hI=>Zaq (parts:=[(0,_),(1,_),(2,_)]) [_,_,_,_] [_,_,_,_] rfl rfl Zva Zn4 rfl rfl rfl r4) (h:=Zag 13 kr rfl kr kr kr (ZL [_,_,_,_] 3 [_,_,_,_] rfl rfl Zu1 rfl rfl rfl rfl rfl rfl rfl rfl ?_)))⟩
 refine Zp (tL8 (Zjp 3 rfl (fun B19 hle19 hpm19=>?_)))
 have hc19:=Za0 hpm19
 replace huc:=huc.mono Zn.mono hle19
 replace hE:=hE.mono hle19
 refine Za (xM (h:=xM (h:=xK [7,4,5,6] rfl Zv7 rfl (ZuS hJ _ _ _ _ _ _ _ _ x _ _ _ u o n r f cap R kk he hul hol hnl om2 om2 a _ hE hc19 huc hfc hic (fun h2 hr B2 hle=>hw (by simpa using g1) (by simpa using g2) h2 hr B2 _ _ _ _ _ _ _ _ _ _ (hlev.trans (hlec.trans (hle19.trans hle))) huc hfc hic)) (h:=?_))))
 rintro _ B20 _ hle20 ⟨q120,c120,q220,c220,q320,c320,l120,l220,l320,rfl,rfl,hu20,hf20,hi20⟩
 replace hc19:=hc19.mono hle20
 replace hE:=hE.mono hle20
 refine xA (h:=tL8 (Zc (Z2 (keeps _ [] _) mo kr ⟨Kn.le.refl _,Za6.refl _ _⟩ (fun _ _=>?_))))
 refine aW 0 rfl Zfb (h:=aT 1 rfl (ZO fun D B L hI=>Zo rfl rfl Zk8 rfl ((hc19.mono hI.1) _ 3 _ rfl) r4) (h:=aNc 2 rfl (h:=aW 3 rfl ZgZ (h:=aM 5 rfl (h:=aT 6 rfl (ZO fun D B L hI=>Z7 rfl rfl Zza rfl (ZgW (usN x u o n r kk) om2 a _ (hE.mono hI.1)) r4) (h:=?_))))))
 refine ZA 4 kr rfl kr (ZW [_,_,_,_,_] rfl rfl Zcd rfl (Zbw 7 rfl rfl rfl) ?_)
 refine ⟨⟨Kn.le.refl _,trivial⟩,(Zbs 7 kr rfl kr kr (ZL [_,_,_,_,_] 2 [_,_,_,_,_] rfl rfl ZcL rfl rfl rfl rfl rfl rfl rfl rfl ?_))⟩
 refine aA 8 rfl (h:=Zu kr kr ?_)
 refine Zp (tL8 (Zd ?_))
 exact Zd2 .ret (.inl rfl) [_,_] [4,5,6] rfl ⟨⟨_,rfl,.inr ⟨[_,_,_,_,_],Zcd,Zbw 2 rfl rfl rfl,rfl⟩⟩,rfl,trivial⟩ ⟨(usX x u o n r R x),_,_,_,_,_,_,_,_,_,_,by rw [if_pos ⟨by simpa using g1,by simpa using g2⟩],rfl,rfl,hu20,hf20,hi20⟩

theorem ZpN (q:Option Addr) (cp:Nat) (xs:List DSpan) (left:Int) (hl0:0≤left) (hl1:left≤1048576) (B:Kn) (hx:SlB B q cp 2 Z1 xs):Zac (pj J) 13 [.slice q xs.length cp,.int .i64 left] B (.int .i64 (szI left xs.length)):=by
 refine cB 12 Tryz.func13 (h:=?_)
 have hxn:=hx.len
 refine Za (xA (h:=Za (xM (h:=xM (h:=xV Tryz.underlying51 (h:=xU (h:=xA (h:=Zc (Za (xM (h:=ZF (h:=Zb rfl (fun g1=>?_) (fun g1=>?_)))))))))))))
 try simp only [sQ,ne_eq] at g1
 refine Za (xA (h:=Zd (Zm ?_)))
 exact eR t1 ⟨ZH (by first | (unfold szI;split <;> omega)),rfl,rfl⟩
 try simp only [sQ,ne_eq] at g1
 refine wSk (Za (xM (h:=xA (h:=Zd ?_))))
 exact eR t1 ⟨ZH (by first | (unfold szI;split <;> omega)),rfl,rfl⟩

theorem Zmu (q:Option Addr) (cp:Nat) (xs:List DSpan) (l:Cells) (k:Nat) (hk:k≤900000000000000) (hn:xs.length≤2000000) (B:Kn) (hv:ZT B l q cp 40 2 Z1 xs):Zv (pj J) 22 [.slice q xs.length cp,.int .i64 k] B [l] (fun v B' Ls=>B'=B∧∃l',Ls=[l']∧v = .int .i64 ((k+2*xs.length:Nat):Int)∧ZT B l' q cp 40 2 Z1 (ZgQ k xs.length)):=by
 refine cB 27 Tryz.func22 (h:=?_)
 have hvc:=hv.cap
 refine Za (xA (h:=Zc (Za (xA (h:=Zg (Zz (α:=Nat × Cells × List DSpan) [4] (fun g=>[(0,.slice q xs.length cp),(1,.int .i64 ((k+2*g.1:Nat):Int)),(5,.int .i64 g.1)]) [0] (fun g=>[g.2.1]) (fun g Bx=>Bx=B∧g.1≤xs.length∧g.2.2.length=xs.length∧g.2.2.take g.1=ZgQ k g.1∧ZT Bx g.2.1 q cp 40 2 Z1 g.2.2) (fun g=>xs.length - g.1) (0,l,xs) t3 rfl (⟨rfl,Nat.zero_le _,rfl,rfl,hv⟩) (fun g B1 hle1 hI=>?_)))))))
 obtain ⟨rfl,hi,hle,ht,hw⟩:=hI
 refine ZD [(0,_),(1,_),(4,_),(5,_)] [_] t4 rfl (Zc (Za (xM (h:=xM (h:=xV Tryz.underlying41 (h:=ZF (h:=Zb rfl (fun g1=>?_) (fun g1=>?_))))))))
 try simp only [sQ,ne_eq] at g1
 refine wSk (Zc (Zg (Za (xM (h:=xM (h:=xM (h:=?_)))))))
 obtain ⟨z1,hz1⟩:=ZY (xs:=g.2.2) (i:=g.1) om
 obtain ⟨bb3,_,hp3,rfl,hw3,hc3⟩:=hw.row hz1
 refine xIp hp3 Tryz.underlying41 Zl6 (h:=xW Zhl (h:=Zl (Zgb (k:=g.1) (off:=0) (⟨((k+2*g.1:Nat):Int),z1.high⟩) [_] 0 hw hp3 hz1 rfl rfl sz3 rfl rfl rfl rfl rfl rfl (by rintro _ rfl;rfl) (fun l4 hv4=>?_))))
 refine tL1 (Za (xM (h:=xD (h:=xA (h:=Za (xM (h:=xM (h:=xM (h:=?_)))))))))
 obtain ⟨z2,hz2⟩:=ZY (xs:=(g.2.2.set g.1 (⟨((k+2*g.1:Nat):Int),z1.high⟩))) (i:=g.1) om
 obtain ⟨bb6,_,hp6,rfl,hw6,hc6⟩:=hv4.row hz2
 refine xIp hp6 Tryz.underlying41 Zl6 (h:=xW Zhk (h:=Zl (Zgb (k:=g.1) (off:=1) (⟨z2.low,((k+2*g.1+1:Nat):Int)⟩) [_] 0 hv4 hp6 hz2 rfl rfl sz3 rfl rfl rfl rfl rfl rfl (by rintro _ rfl;rfl) (fun l7 hv7=>?_))))
 refine tL1 (Zf (xM (h:=xD (h:=xA (h:=ZK (Zp (Zf (xM (h:=xD (h:=xA (h:=?_)))))))))))
 exact ZC (g.1+1,l7,((g.2.2.set g.1 (⟨((k+2*g.1:Nat):Int),z1.high⟩)).set g.1 (⟨z2.low,((k+2*g.1+1:Nat):Int)⟩))) [0] so2 ⟨rfl,so,by simp only [List.length_set];exact hle,ZkY ht hz1 hz2,hv7⟩ t4 rfl
 try simp only [sQ,ne_eq] at g1
 have he:=ZkW ht oz
 have hgi:g.1=xs.length:=by omega
 rw [hgi] at he
 refine ZE (ZV (ZG (Zt (Zp (Za (xM (h:=xA (h:=Zd ?_))))))))
 exact Zd2 .ret (.inl rfl) [_] [0] rfl ⟨rfl,trivial⟩ ⟨rfl,_,rfl,by rw [hgi];rfl,by rw [← he];exact hw⟩

theorem Zna (b:Nat) (q1 q2 q3:Option Addr) (c1 c2 c3:Nat) (x:DHost) (l1 l2 l3:Cells) (k:Nat) (f:DFolder) (fl:Int) (t:Str) (hfx:x.folders[k]? = some f) (hn1:x.users.length≤2000000) (hn2:x.folders.length≤2000000) (hok:ZQ x=true) (hfl:Zc5 fl=true) (ht:t.length≤20) (a:Nat→Addr) (B:Kn) (hE:ErrsB 372 [0,1,2,3] B a) (bor:Bor) (hkn:ZuI bor B) (hnb:Zgy x k fl t=0→bor (f.withBox (Zdn f.box fl t).1)=none) (hu:ZT Kn.none l1 q1 c1 141 3 Zn x.users) (hf:ZaF l2 q2 c2 96 5 (Zaa 259 99 bor) x.folders) (hi:ZaF l3 q3 c3 145 4 (ZaQ 9) x.queue.items):Zv (pj J) 75 [ptr ⟨b,2,none⟩,.int .i64 k,.int .i64 fl,str t] B [ZN b [.int .i32 1,.int .u32 0,str x.domain,.slice q1 x.users.length c1,.slice q2 x.folders.length c2,.int .i64 x.queue.next,.slice q3 x.queue.items.length c3] 160,l1,l2,l3] (fun v B' Ls=>∃q1' c1' q3' c3' l1' l2' l3',Ls=[ZN b [.int .i32 1,.int .u32 0,str (ZaM x k fl t).1.domain,.slice q1' (ZaM x k fl t).1.users.length c1',.slice q2 (ZaM x k fl t).1.folders.length c2,.int .i64 (ZaM x k fl t).1.queue.next,.slice q3' (ZaM x k fl t).1.queue.items.length c3'] 160,l1',l2',l3']∧v=errv 372 a (Zgy x k fl t)∧ZT Kn.none l1' q1' c1' 141 3 Zn (ZaM x k fl t).1.users∧ZaF l2' q2 c2 96 5 (Zaa 259 99 bor) (ZaM x k fl t).1.folders∧ZaF l3' q3' c3' 145 4 (ZaQ 9) (ZaM x k fl t).1.queue.items):=by
 refine Zcg 44 Tryz.func75 rfl rfl rfl (Nat.le_of_ble_eq_true rfl) ?_
 have hfk:=(List.getElem?_eq_some_iff.1 hfx).1
 have hbo:Zc6 (⟨f.next,f.mail⟩:DBox)=true:=ZbI (Zbm hok hfx)
 have hol:=Zqe hok (List.mem_of_getElem? hfx)
 have hbn:f.mail.length≤10:=(Zcn hbo).2.2
 have hml:(f.withBox (Zdn f.box fl t).1).mail.length≤2000000:=Nat.le_trans (Zn0 f.box fl t) (by show f.mail.length+1≤_;omega)
 have hql:=ZeZ (Ztr hok)
 obtain ⟨bq,_,_,lre,hpq,⟨qg,cg,qm,cm,ia,ib,rfl,rfl,hg,hmb,ho,hn,hx,hy⟩,hwq,hqq,hcl,hcr,hkk⟩:=hf.cellA hfx
 refine Za (xA (h:=Za (xM (h:=xNc (h:=xW Zat (h:=x1 ZeB 0 (h:=xM (h:=Zl (ZiD hpq rfl rfl Tryz.underlying24 ZbM rfl rfl oz oz ?_)))))))))
 refine xA (h:=Zc (Za (xM (h:=xM (h:=xNc (h:=xW ZbW (h:=Zl (Zo rfl rfl lk9 rfl (hcl _ _ 2 rfl 0 _ rfl) (xM (h:=xVs Tryz.underlying9 (h:=Zl (ZfA [0,1,2,3] rfl rfl rfl rfl rfl ZxM rfl (Zac.borrowL fun hm1=>Zlt _ _ _ _ _ _ _ _ x f.owner ↑t.length om2 om2 om2 _ (Zal.drop2 (Zyc 0 rfl hm1)) (hu.lendK Zn.any 1 rfl hm1 om) (hf.lendW hkn 2 rfl hm1 om)) ?_))))))))))))
 refine Zb rfl (fun g1=>?_) (fun g1=>?_)
 refine Za (Zl (Zo rfl rfl Ztd rfl ((hE.row 2 (by decide)) _ 0 _ rfl) ?_))
 refine xA (h:=Zd (Zm ?_))
 obtain ⟨e1,e2⟩:=Zqa (fl:=fl) hok hfx g1
 exact eN [0,1,2,3] rfl t1 (by rw [e1,e2];exact ⟨_,_,_,_,_,_,_,rfl,rfl,hu,hf,hi⟩)
 refine ZeW 2 rfl (Zqd hqq) (wSk (Za (xM (h:=xNc (h:=xW Zbv (h:=Zl (ZW [_,_] rfl rfl Zfl rfl (ZAU (hcr _ _ 2 rfl) 3 rfl rfl) (xM (h:=xM (h:=xK [5] rfl ZAp rfl (Zv.borrow fun hm9=>ZrN _ _ (⟨f.next,f.mail⟩:DBox) fl t (oy) (oy) (oy) _ (hmb.known (hkn.mono (Kn.le_add _ _)) hy fun p hp=>hm9 p (by simpa using hp))) (h:=?_)))))))))))
 rintro _ B2 _ hle2 ⟨BB2,_,rfl,hB2,_,hm2,_,l2,a2,c2,rfl,rfl,hs2⟩
 replace hu:=hu.mono Zn.mono hle2
 replace hE:=hE.mono hle2
 refine xM (h:=xE (h:=xE (h:=xAl [_,_] Zpc (h:=fun b3=>xS [_,_] 7 [_,_] Zjr (h:=xA (h:=tL8 (ZfM 2 5 rfl rfl (by decide) ?_)))))))
 refine ZfM 2 4 rfl rfl (by decide) ?_
 have hf9:=hkk f _ ⟨qg,cg,qm,cm,_,_,rfl,rfl,hg,hmb,ho,hn,hx,hy⟩
 rw [List.append_assoc,Zw1 hfx] at hf9
 refine Zc (Za (xM (h:=xN (h:=tL8 (Zb rfl (fun g2=>?_) (fun g2=>?_))))))
 refine Za (Zl (Zo rfl rfl Ztd rfl ((hE.row 3 (by decide)) _ 0 _ rfl) ?_))
 refine xA (h:=Zd (Zm ?_))
 obtain ⟨e1,e2⟩:=ZsL hok hfx (by simpa using g1) (by simpa [DFolder.box] using g2)
 exact eN [0,1,2,3] rfl t1 (by rw [e1,e2];exact ⟨_,_,_,_,_,_,_,rfl,rfl,hu,hf9,hi⟩)
 have hpd:=ZsM hok hfx (by simpa using g1) (by simpa [DFolder.box] using g2)
 have hnb9:=hnb hpd.1
 refine wSk (Za (xM (h:=xL [_,_] Zfl 7 (h:=xNc (h:=xW Zbv (h:=Zl (Zud (R:=(Zaa 259 99 bor)) (x0:=f) (f.withBox (Zdn f.box fl t).1) (us:=[_,_]) (sz:=5) (k:=k) 3 2 [6] rfl rfl hf9 hpq hfx rfl rfl Zjr rfl rfl rfl rfl (Nat.le_of_ble_eq_true rfl) (by rintro _ _ ⟨_,_,_,_,_,_,rfl,rfl,k1,k2,k3,k4,k5,k6⟩;exact ⟨_,_,⟨_,_,_,_,_,_,rfl,rfl,k1,.inl ⟨hnb9,hs2⟩,k3,k4,k5,hml⟩,by simpa [List.append_assoc] using List.Perm.append_left _ List.perm_append_comm⟩) (fun l4 hd4=>?_))))))))
 refine tL8 (Za (xA (h:=Zd ?_)))
 obtain ⟨e1,e2⟩:=hpd
 exact eN [0,1,2,3] rfl t1 (by rw [e1,e2];simp only [DHost.withFolders,List.length_set];exact ⟨_,_,_,_,_,_,_,rfl,rfl,hu,hd4,hi⟩)

theorem Zwe (b b2 b3 b4 b5:Nat) (q1 q2 q3:Option Addr) (c1 c2 c3:Nat) (x:DHost) (l1 l2 l3:Cells) (k:Nat) (f:DFolder) (hfx:x.folders[k]? = some f) (hok:ZQ x=true) (hn1:x.users.length≤2000000) (hn2:x.folders.length≤2000000) (u y0 z0 o n:Str) (hul:u.length≤2000000) (hol:o.length≤2000000) (hnl:n.length≤2000000) (q4:Option Addr) (c4:Nat) (set:List DSpan) (a:Nat→Addr) (B:Kn) (hE:ErrsB 372 [0,1,2,3] B a) (hc2:Zal B b2 0 [str u,str y0,str z0]) (hc3:Zal B b3 0 [str o]) (hc4:Zal B b4 0 [str n]) (hc5:Zal B b5 0 [.slice q4 set.length c4]) (hs:SlK B q4 c4 2 Z1 set) (hu:ZT Kn.none l1 q1 c1 141 3 Zn x.users) (hf:ZaF l2 q2 c2 96 5 (ZU 259 99) x.folders) (hi:ZaF l3 q3 c3 145 4 (ZaQ 9) x.queue.items):Zv (pj J) 74 [ptr ⟨b,2,none⟩,.int .i64 k,ptr ⟨b2,0,none⟩,ptr ⟨b3,0,none⟩,ptr ⟨b4,0,none⟩,ptr ⟨b5,0,none⟩] B [ZN b [.int .i32 1,.int .u32 0,str x.domain,.slice q1 x.users.length c1,.slice q2 x.folders.length c2,.int .i64 x.queue.next,.slice q3 x.queue.items.length c3] 160,l1,l2,l3] (fun v B' Ls=>∃q1' c1' q2' c2' q3' c3' l1' l2' l3',Ls=[ZN b [.int .i32 1,.int .u32 0,str (ZlB x k set u o n).domain,.slice q1' (ZlB x k set u o n).users.length c1',.slice q2' (ZlB x k set u o n).folders.length c2',.int .i64 (ZlB x k set u o n).queue.next,.slice q3' (ZlB x k set u o n).queue.items.length c3'] 160,l1',l2',l3']∧v=errv 372 a ((ZnW x k set u o n))∧ZT Kn.none l1' q1' c1' 141 3 Zn (ZlB x k set u o n).users∧ZaF l2' q2' c2' 96 5 (ZU 259 99) (ZlB x k set u o n).folders∧ZaF l3' q3' c3' 145 4 (ZaQ 9) (ZlB x k set u o n).queue.items):=by
 refine Zcg 79 Tryz.func74 rfl rfl rfl (Nat.le_of_ble_eq_true rfl) ?_
 have hfk:=(List.getElem?_eq_some_iff.1 hfx).1
 have hnlN:=Zi0 set f.mail.length
 have hml0:f.mail.length≤10:=(Zcn (ZbI (Zbm hok hfx))).2.2
 refine Za (xA (h:=Za (xM (h:=xW Zjb (h:=y1 lk9 hc2 0 (h:=y1 lk9 hc3 0 (h:=y1 lk9 hc4 0 (h:=Zl (ZfA [0,1,2,3] rfl rfl rfl rfl rfl Zzb rfl (Zac.borrowL fun hm1=>Zm5 _ _ _ _ _ _ _ _ x u o n 8 om2 om2 om2 a _ (hE.mono (Kn.le_add _ _)) (Zal.drop2 (Zyc 0 rfl hm1)) (hu.lendK Zn.any 1 rfl hm1 om) (hf.lendK ZU.known Zk.mono 2 rfl hm1 om)) ?_)))))))))
 refine xM (h:=xE (h:=xE (h:=xA (h:=xA (h:=Zc (Za (xM (h:=Zl (Zni (tE:=372) (a:=a) (c:=(ZcS x.users x.folders u o n 8)) rfl rfl Tryz.underlying82 rfl (Zb rfl (fun g1=>?_) (fun g1=>?_)))))))))))
 try simp only [sQ,ne_eq] at g1
 refine Za (xM (h:=xA (h:=Zd (Zm ?_))))
 obtain ⟨e1,e2⟩:=ZnV (k:=k) (set:=set) (show ZcS x.users x.folders u o n 8≠0 by simpa using g1)
 rw [e1,e2]
 exact eN [0,1,2,3] rfl t1 ⟨_,_,_,_,_,_,_,_,_,rfl,rfl,hu.anyK Zn.any,hf,hi⟩
 try simp only [sQ,ne_eq] at g1
 have h8:ZcS x.users x.folders u o n 8=0:=by simpa using g1
 obtain ⟨to,ft,hto,hft⟩:=ZlD h8
 have hat:(if ZcS x.users x.folders u o n 8=0 then ZaN (inF o n) x.folders else -1)=(to:Int):=by rw [if_pos h8,hto]
 have htk:=(List.getElem?_eq_some_iff.1 hft).1
 have hml:ft.mail.length≤2000000:=Nat.le_trans (Zcn (ZbI (Zbm hok hft))).2.2 (by decide)
 rw [hat]
 obtain ⟨bor,lre,la,lb,qa,qt,ca,ct,hpq,hfw,hva,hba,hbt,hbo,hbk,hret⟩:=hf.lendTwo (ZdV hok) (List.mem_of_getElem? hfx) (List.mem_of_getElem? hft)
 obtain ⟨bA,_,_,hpA,hcA⟩:=hfw.cellW hfx hba
 obtain ⟨bT,_,_,hpT,hcT⟩:=hfw.cellW hft hbt
 refine ZeW 2 rfl hpq (wSk (Zc (Z2 (keeps _ [0,2] _) mo kr ⟨Kn.le.refl _,Za6.refl _ _⟩ (fun _ _=>?_))))
 refine aM 0 rfl (h:=aNc 1 rfl (h:=aW 2 rfl Zat (h:=aT 3 rfl (ZO fun D B L hI=>Zo rfl rfl ZeB rfl (atL 0 (hI.2.1.trans rfl) rfl rfl) r4) (h:=aM 4 rfl (h:=aT 5 rfl (ZO fun D B L hI=>ZiD hpA rfl rfl Tryz.underlying24 ZbM rfl rfl oz oz r4) (h:=?_))))))
 refine aW 6 rfl Zbv (h:=aW 7 rfl Zbc (h:=aT 8 rfl (ZO fun D B L hI=>Zo rfl rfl Zh1 rfl (hcA _ _ 2 (hI.2.2.1.trans rfl) 4 _ rfl) r4) (h:=aM 9 rfl (h:=aNc 10 rfl (h:=aW 11 rfl Zat (h:=aT 12 rfl (ZO fun D B L hI=>Zo rfl rfl ZeB rfl (atL 0 (hI.2.1.trans rfl) rfl rfl) r4) (h:=aM 13 rfl (h:=aT 14 rfl (ZO fun D B L hI=>ZiD hpT rfl rfl Tryz.underlying24 ZbM rfl rfl oz oz r4) (h:=?_)))))))))
 refine aW 15 rfl Zbv (h:=aT 16 rfl (ZO fun D B L hI=>ZW [_,_] rfl rfl Zfl rfl (ZAU (hcT _ _ 2 (hI.2.2.1.trans rfl)) 3 rfl rfl) r4) (h:=ZA 17 kr rfl kr (Zaj (l:=[_,_]) rfl rfl Zpc rfl (fun b2=>?_))))
 refine ⟨⟨Kn.le.refl _,t2⟩,(aA 18 rfl (h:=Zag 19 kr rfl kr kr kr (ZL [_,_] 6 [_,_] rfl rfl Zjr rfl rfl rfl rfl rfl rfl rfl rfl ?_)))⟩
 refine Zp (tL7 (Zc (Za (y1 ZA2 hc5 0 (h:=xM (h:=xV Tryz.underlying91 (h:=xQ ZB1 rfl (ZoI _ _ set ↑f.mail.length _ hs) (h:=?_))))))))
 intro v3 B3 hle3
 rintro ⟨a3,c3,rfl,hs3⟩
 replace hu:=hu.mono Zn.mono hle3
 replace hva:=hva.mono Z5.mono hle3
 replace hE:=hE.mono hle3
 have hs3n:=hs3.len
 refine xV Tryz.underlying65 (h:=xM (h:=Zg (Zz (α:=GC2) [0,1,2,3,4,5,9,10,11,12,27,49,50] (fun g=>[(51,.int .i64 g.k)]) [0,1,2,3] (fun g=>[ZN b [.int .i32 1,.int .u32 0,str g.y.domain,.slice g.q1 g.y.users.length g.c1,.slice q2 g.y.folders.length c2,.int .i64 g.y.queue.next,.slice g.q3 g.y.queue.items.length g.c3] 160,g.l1,g.l2,g.l3]) (fun g Bx=>g.k≤(ZaA set f.mail.length).length∧ZaR x ((ZdH x k set).take g.k) to=(g.y,0)∧CopySt x to ft g.y∧ZT Kn.none g.l1 g.q1 g.c1 141 3 Zn g.y.users∧ZaF g.l2 q2 c2 96 5 (Zaa 259 99 bor) g.y.folders∧ZaF g.l3 g.q3 g.c3 145 4 (ZaQ 9) g.y.queue.items) (fun g=>(ZaA set f.mail.length).length - g.k) ⟨0,x,_,_,_,_,_,_,_⟩ t1 rfl (⟨Nat.zero_le _,rfl,.init hok hft,hu.anyK Zn.any,hfw,hi⟩) (fun g B4 hle4 hI=>?_))))
 obtain ⟨hgk,hgc,hcs,hgu,hgf,hgi⟩:=hI
 have hgun:g.y.users.length≤2000000:=by rw [hcs.us];exact hn1
 have hgfn:=hcs.len
 obtain ⟨fc,hfc,hfb,_⟩:=hcs.here
 replace hs3:=hs3.mono ZcH.mono hle4
 replace hva:=hva.mono Z5.mono hle4
 replace hE:=hE.mono hle4
 refine ZD [(0,_),(1,_),(2,_),(3,_),(4,_),(5,_),(9,_),(10,_),(11,_),(12,_),(27,_),(49,_),(50,_),(51,_)] [_,_,_,_,_,_,_] t14 rfl (Za (ZF (h:=Zc (Zb rfl (fun g2=>?_) (fun g2=>?_)))))
 try simp only [sQ,ne_eq] at g2
 refine wSk (Zc (Zg (Za ?_)))
 obtain ⟨y,hy⟩:=ZY (xs:=(ZaA set ↑f.mail.length)) (i:=g.k) om
 obtain ⟨bb6,oo6,rfl⟩:=hs3.base hy
 obtain ⟨_,rfl,hc7⟩:=hs3.elem hy
 refine xIx Tryz.underlying65 sz3 (h:=?_)
 have hyb:=ZgN (List.mem_of_getElem? hy)
 refine y1 lk3 hc7 0 (h:=xA (h:=Za (xM (h:=xM (h:=xU (h:=?_))))))
 obtain ⟨m,hm⟩:=ZtF (xs:=f.mail) (i:=(y - 1)) om om
 obtain ⟨bb9,_,hp9,⟨rfl,hb9⟩,hw9,hc9⟩:=hva.row hm
 refine xIp hp9 Tryz.underlying91 Zgg (h:=?_)
 have hmo:=(ZdI (ZbI (Zbm hok hfx))).1 m (List.mem_of_getElem? hm)
 have hmt:m.text.length≤20:=by simp only [Zbk,Bool.and_eq_true,decide_eq_true_eq] at hmo;exact hmo.2
 have hmf:Zc5 m.flags=true:=by simp only [Zbk,Bool.and_eq_true,decide_eq_true_eq] at hmo;simp only [Zc5,Bool.and_eq_true,decide_eq_true_eq];exact hmo.1.2
 have hnb:(Zgy g.y to m.flags m.text)=0→bor (fc.withBox (Zdn fc.box m.flags m.text).1)=none:=fun h0=>(fun e=>hbo _ e.1 e.2) (hcs.new hfx hft hfc hmf hmt h0)
 refine Zl (ZW [_,_,_] rfl rfl ZmA rfl (ZBm hc9 4 rfl 0 rfl rfl) (xAl [_,_,_] ZlU (h:=fun b10=>xS [_,_,_] 7 [_,_,_] Zgg (h:=tL8 (Za (xM (h:=xM (h:=xW Zgr (h:=x1 lk3 7 (h:=xW Zfa (h:=x1 lk9 7 (h:=xK [4,5,0,1,2,3] rfl ZBF rfl (Zv.borrowK 2 fun hm9=>Zna b _ _ _ _ _ _ g.y g.l1 g.l2 g.l3 to fc m.flags m.text hfc oz oz hcs.ok hmf hmt a _ (hE.mono (Kn.le_add _ _)) bor (hbk _ hm9) hnb (hgu.anyK Zn.any) hgf hgi) (h:=?_)))))))))))))
 rintro _ B11 _ hle11 ⟨BB11,_,rfl,hB11,_,hm11,_,q111,c111,q311,c311,l111,l211,l311,rfl,rfl,hu11,hf11,hi11⟩
 replace hgu:=hgu.mono Zn.mono hle11
 refine xA (h:=tL8 (Za (xM (h:=Zl (Zni (tE:=372) (a:=a) (c:=(Zgy g.y to m.flags m.text)) rfl rfl Tryz.underlying82 rfl (Zb rfl (fun g3=>?_) (fun g3=>?_)))))))
 try simp only [sQ,ne_eq] at g3
 have hne:(Zgy g.y to m.flags m.text)≠0:=by simpa using g3
 rw [Zu8 hne] at hu11 hf11 hi11 ⊢
 refine Zc (Z2 (keeps _ [0,6] _) mo kr ⟨Kn.le.refl _,Za6.refl _ _⟩ (fun _ _=>?_))
 refine aM 0 rfl (h:=aNc 1 rfl (h:=aW 2 rfl Zat (h:=aT 3 rfl (ZO fun D B L hI=>Zo rfl rfl ZeB rfl (atL 0 (hI.2.1.trans rfl) rfl rfl) r4) (h:=aM 4 rfl (h:=aT 5 rfl (ZO fun D B L hI=>ZW [_,_] rfl rfl Zfl rfl (Zbw 6 (hI.2.2.1.trans rfl) rfl rfl) r4) (h:=aT 6 rfl (ZO fun D B L hI=>ZiD hpT rfl rfl Tryz.underlying24 ZbM rfl rfl oz oz r4) (h:=?_)))))))
 refine aW 7 rfl Zbv (h:=Zag 8 kr rfl kr kr kr (Zud (R:=(Zaa 259 99 bor)) (x0:=fc) (fc.withBox ft.box) (us:=[_,_]) (sz:=5) (k:=to) 3 2 [] rfl rfl hf11 hpT hfc rfl rfl Zjr rfl rfl rfl rfl (Nat.le_of_ble_eq_true rfl) (by rintro _ _ ⟨_,_,_,_,_,i8,rfl,rfl,k1,k2,k3,k4,k5,k6⟩;exact ⟨_,i8,⟨_,_,_,_,_,_,rfl,rfl,k1,.inr ⟨by rw [hfb];exact hbt,rfl⟩,k3,k4,k5,hml⟩,by simp⟩) (fun l12 hd12=>?_)))
 refine Zp (tL8 (Za (xM (h:=xA (h:=Zd (ZB (Zm (ZM (ZB (Zm ?_))))))))))
 obtain ⟨e1,e2⟩:=Zwb h8 hto hgc (ZnX hfx hy hm) hne
 rw [hfb] at hd12
 have hbx:=hcs.back hft
 obtain ⟨l9,gl9,hp9,hv9⟩:=hret _ _ (by have e:=ZdV hok;rw [← hbx] at e;exact e) hd12
 rw [e1,e2,← hbx]
 simp only [DHost.withFolders,List.length_set]
 exact ZA4 .ret (.inl rfl) [_] [0,1,2,3,4,5] rfl (ZkN hp9) t1 ⟨_,_,_,_,_,_,_,_,_,rfl,rfl,hu11.anyK Zn.any,hv9,hi11⟩
 try simp only [sQ,ne_eq] at g3
 have hz:(Zgy g.y to m.flags m.text)=0:=by simpa using g3
 refine ZS (ZK (Zp (Zf (xD (h:=xM (h:=?_))))))
 exact ZC ⟨g.k+1,(ZaM g.y to m.flags m.text).1,_,_,_,_,_,_,_⟩ [0,1,2,3,4,5,6] so2 ⟨so,ZtS hgc (ZnX hfx hy hm) hz,hcs.step hmf hmt hz,hu11.anyK Zn.any,hf11,hi11⟩ t14 rfl
 try simp only [sQ,ne_eq] at g2
 refine ZE (ZV (ZG (Zt (Zp (Za (xA (h:=Zd ?_)))))))
 obtain ⟨e1,e2⟩:=ZtT h8 hto hgc (by rw [ZrE hfx];omega)
 obtain ⟨l9,gl9,hp9,hv9⟩:=hret _ _ (ZdV hcs.ok) hgf
 rw [e1,e2]
 exact ZA4 .ret (.inl rfl) [_] [0,1,2,3,4,5] rfl (ZkN hp9) t1 ⟨_,_,_,_,_,_,_,_,_,rfl,rfl,hgu.anyK Zn.any,hv9,hgi⟩

theorem Zce (hJ:Joins Tryz.prog J) (q1 q2 q3:Option Addr) (c1 c2 c3:Nat) (x:DHost) (u o n:Str) (hul:u.length≤2000000) (hol:o.length≤2000000) (hnl:n.length≤2000000) (q4:Option Addr) (c4:Nat) (set:List DSpan) (o2 n2:Str) (hol2:o2.length≤2000000) (hnl2:n2.length≤2000000) (hd:x.domain.length≤2000000) (a:Nat→Addr) (B:Kn) (hE:ErrsB 372 [0,1,2,3] B a) (hu:SlK B q1 c1 3 Zn x.users) (hf:SlK B q2 c2 5 Zk x.folders) (hi:SlK B q3 c3 4 Zy x.queue.items) (hs:SlK B q4 c4 2 Z1 set):Zv (pj J) 32 [.agg #[str x.domain,.slice q1 x.users.length c1,.slice q2 x.folders.length c2,.int .i64 x.queue.next,.slice q3 x.queue.items.length c3],.agg #[str u,str o,str n],.slice q4 set.length c4,str o2,str n2] B [] (fun v B' Ls=>∃q1 c1 q2 c2 q3 c3 l1 l2 l3,Ls=[l1,l2,l3]∧v = .tuple #[.agg #[str (Z0 x ⟨u,o,n⟩ set o2 n2).1.domain,.slice q1 (Z0 x ⟨u,o,n⟩ set o2 n2).1.users.length c1,.slice q2 (Z0 x ⟨u,o,n⟩ set o2 n2).1.folders.length c2,.int .i64 (Z0 x ⟨u,o,n⟩ set o2 n2).1.queue.next,.slice q3 (Z0 x ⟨u,o,n⟩ set o2 n2).1.queue.items.length c3],.int .i64 (Z0 x ⟨u,o,n⟩ set o2 n2).2]∧ZT Kn.none l1 q1 c1 141 3 Zn (Z0 x ⟨u,o,n⟩ set o2 n2).1.users∧ZaF l2 q2 c2 96 5 (ZU 259 99) (Z0 x ⟨u,o,n⟩ set o2 n2).1.folders∧ZaF l3 q3 c3 145 4 (ZaQ 9) (Z0 x ⟨u,o,n⟩ set o2 n2).1.queue.items):=by
 refine cB 20 Tryz.func32 (h:=?_)
 have hun:=hu.len
 have hfn:=hf.len
 have hin:=hi.len
 have hsn:=hs.len
 refine Za (xBx [_,_,_,_,_] (h:=fun b1=>xBx [_,_,_] (h:=fun b2=>xBx [_] (h:=fun b3=>xBx [_] (h:=fun b4=>xBx [_] (h:=fun b5=>xAl [_,_,_,_,_] Zb3 (h:=fun b6=>xA (h:=tL6 (Zjp 1 rfl (fun B7 hle7 hpm7=>?_))))))))))
 have hc7:=Za0 hpm7
 obtain ⟨hu,hf,hi,hs⟩:=up4 hle7 hu hf hi hs
 replace hE:=hE.mono hle7
 refine Zjp 2 rfl (fun B8 hle8 hpm8=>?_)
 have hc8:=Za0 hpm8
 obtain ⟨hu,hf,hi,hs⟩:=up4 hle8 hu hf hi hs
 replace hc7:=hc7.mono hle8
 replace hE:=hE.mono hle8
 refine Zjp 3 rfl (fun B9 hle9 hpm9=>?_)
 have hc9:=Za0 hpm9
 obtain ⟨hu,hf,hi,hs⟩:=up4 hle9 hu hf hi hs
 replace hc7:=hc7.mono hle9
 replace hc8:=hc8.mono hle9
 replace hE:=hE.mono hle9
 refine Zjp 4 rfl (fun B10 hle10 hpm10=>?_)
 have hc10:=Za0 hpm10
 obtain ⟨hu,hf,hi,hs⟩:=up4 hle10 hu hf hi hs
 replace hc7:=hc7.mono hle10
 replace hc8:=hc8.mono hle10
 replace hc9:=hc9.mono hle10
 replace hE:=hE.mono hle10
 refine Zc (Z2 (keeps _ [0] _) mo kr ⟨Kn.le.refl _,Za6.refl _ _⟩ (fun _ _=>?_))
 refine aT 0 rfl (ZO fun D B L hI=>ZW [_,_,_,_,_] rfl rfl Zcd rfl (Zbw 0 (hI.2.1.trans rfl) rfl rfl) r4) (h:=aT 1 rfl (ZO fun D B L hI=>ZW [_,_,_] rfl rfl Zx7 rfl (Zkf (hc7.mono hI.1) 0 rfl rfl) r4) (h:=aT 2 rfl (ZO fun D B L hI=>Zo rfl rfl ZA2 rfl ((hc8.mono hI.1) _ 0 _ rfl) r4) (h:=aT 3 rfl (ZO fun D B L hI=>Z7 rfl rfl ZBd rfl (Zle _ _ set _ (hs.mono Z1.mono hI.1)) r4) (h:=ZA 4 kr rfl kr (Zd5 (xs:=[]) (ys:=[_,_,_,_]) rfl rfl rfl rfl ?_)))))
 refine ⟨⟨Kn.le.refl _,t1⟩,(ZA 5 kr rfl kr (Zad rfl rfl ZB2 rfl (Zw0 _ _ _ _ _ _ x u o n hul hol hnl (Zdd set) 2 74 _ (ZlB x (ZaN (inF o n) x.folders).toNat set u o2 n2) (ZnW x (ZaN (inF o n) x.folders).toNat set u o2 n2) (Zwc ..) ZBG hJ hd a _ hE hu hf hi (fun har hok h2 hr B2 b q1 q2 q3 c1 c2 c3 l1 l2 l3 hle k1 k2 k3=>by (obtain ⟨k,f,hk,hfx⟩:=ZlD hr;have hat:(if ZcS x.users x.folders u o n 2=0 then ZaN (inF o n) x.folders else -1)=(k:Int):=(by rw [if_pos hr,hk]);rw [hat,hk,Int.toNat_natCast];exact Zwe b _ _ _ _ _ _ _ _ _ _ x l1 l2 l3 k f hfx hok oz oz u o n o2 n2 hul hol2 hnl2 _ _ set a B2 (hE.mono hle) (hc7.mono hle) (hc9.mono hle) (hc10.mono hle) (hc8.mono hle) (hs.mono Z1.mono hle) k1 k2 k3))) ?_))⟩
 rintro _ B12 _ hle12 ⟨Y12,d12,q112,c112,q212,c212,q312,c312,l112,l212,l312,hYd12,rfl,rfl,hu12,hf12,hi12⟩
 rw [Zwd rfl rfl] at hYd12
 obtain ⟨rfl,rfl⟩:=Prod.mk.inj hYd12
 refine ⟨⟨hle12,t1⟩,(aE 6 rfl (h:=aE 7 rfl (h:=Zbs 8 kr rfl kr kr (ZL [_,_,_,_,_] 5 [_,_,_,_,_] rfl rfl ZcL rfl rfl rfl rfl rfl rfl rfl rfl ?_))))⟩
 refine aA 9 rfl (h:=Zu kr kr ?_)
 refine Zp (tL9 (Zd ?_))
 exact Zd2 .ret (.inl rfl) [_,_] [6,7,8] rfl ⟨⟨_,rfl,.inr ⟨[_,_,_,_,_],Zcd,Zbw 5 rfl rfl rfl,rfl⟩⟩,rfl,trivial⟩ ⟨_,_,_,_,_,_,_,_,_,rfl,rfl,hu12.anyK Zn.any,hf12,hi12⟩

theorem Zlu (q1 q2 q3:Option Addr) (c1 c2 c3:Nat) (x:DHost) (hd:x.domain.length≤140737488355328) (u y z:Str) (hw1:u.length≤140737488355328) (hw2:y.length≤140737488355328) (hw3:z.length≤140737488355328) (qs:Option Addr) (cs:Nat) (set:List DSpan) (o n:Str) (hw4:o.length≤140737488355328) (hw5:n.length≤140737488355328) (B:Kn) (a:Nat→Addr) (hE:ErrsB 372 [0,1,2,3] B a) (hu:SlB B q1 c1 3 ZlR x.users) (hf:SlB B q2 c2 5 Zff x.folders) (hi:SlB B q3 c3 4 Ziz x.queue.items) (hs:SlB B qs cs 2 Z1 set) :∃code,Tryz.f6.body=some code∧wpS (pj (Zpb Tryz.prog)) 148 code (Zfx (pj (Zpb Tryz.prog)) [.tmp 10] (fun v B' Ls=>v = .bool true)) (ZdK [.agg #[str x.domain,.slice q1 x.users.length c1,.slice q2 x.folders.length c2,.int .i64 x.queue.next,.slice q3 x.queue.items.length c3],.agg #[str u,str y,str z],.slice qs set.length cs,str o,str n] 0) [] B []:=by
 have hJ:=ZmF Tryz.prog
 refine ⟨_,rfl,(Za (xBx [_,_,_,_,_] (h:=fun b1=>xBx [_,_,_] (h:=fun b2=>xA (h:=tL2 (Zc (Za (xM (h:=xVs Tryz.underlying9 (h:=ZdP (h:=Zb rfl (fun g1=>?_) (fun g1=>?_))))))))))))⟩
 try simp only [sQ,ne_eq] at g1
 refine Za (xA (h:=Zd (Zm ?_)))
 exact eR t1 rfl
 try simp only [sQ,ne_eq] at g1
 refine wSk (Zc (Za (xM (h:=xVs Tryz.underlying9 (h:=ZdP (h:=Zb rfl (fun g2=>?_) (fun g2=>?_)))))))
 try simp only [sQ,ne_eq] at g2
 refine Za (xA (h:=Zd (Zm ?_)))
 exact eR t1 rfl
 try simp only [sQ,ne_eq] at g2
 refine wSk (Za (xA (h:=Za (xL [_,_,_,_,_] Zxd 0 (h:=xM (h:=xR ZB9 rfl (ZsC _ _ _ _ _ _ x om 1048576 om om _ hu hf hi) (h:=?_)))))))
 refine xA (h:=Zc (Za (xM (h:=ZF (h:=Zb rfl (fun g3=>?_) (fun g3=>?_))))))
 try simp only [sQ,ne_eq] at g3
 refine Za (xA (h:=Zd (Zm ?_)))
 exact eR t1 rfl
 try simp only [sQ,ne_eq] at g3
 have hsg:=Zct (left:=1048576) oz g3
 refine wSk (Za (xL [_,_,_] Zx6 1 (h:=xM (h:=xR ZB8 rfl (Zl4 u y z om2 om2 om2 (szI 1048576 (Zc8 x)) om2 om2 _) (h:=?_)))))
 refine xA (h:=Zc (Za (xM (h:=ZF (h:=Zb rfl (fun g4=>?_) (fun g4=>?_))))))
 try simp only [sQ,ne_eq] at g4
 refine Za (xA (h:=Zd (Zm ?_)))
 exact eR t1 rfl
 try simp only [sQ,ne_eq] at g4
 have hsg4:=Zct oz g4
 refine wSk (Za (xM (h:=xM (h:=xR ZB7 rfl (ZpN _ _ set (szI (szI 1048576 (Zc8 x)) (u.length+y.length+z.length)) om2 om2 _ hs) (h:=?_)))))
 refine xA (h:=Zc (Za (xM (h:=ZF (h:=Zb rfl (fun g5=>?_) (fun g5=>?_))))))
 try simp only [sQ,ne_eq] at g5
 refine Za (xA (h:=Zd (Zm ?_)))
 exact eR t1 rfl
 try simp only [sQ,ne_eq] at g5
 have hsg5:=Zct oz g5
 have hsz:Zc8 x≤1048576:=by have:=hsg.2;omega
 have hsu:=hsg4.2
 have hsp:=hsg5.2
 have hset:set.length≤1048576:=by omega
 have hsz2:=ZqM hsz
 have hkh:=ZyY hsz
 replace hu:=ZlZ hu hsz2.2.1
 replace hf:=ZjU hf hsz2.2.2.1
 replace hi:=ZmG hi hsz2.2.2.2
 have hs9:SlK _ qs cs 2 Z1 set:=hs.small oz (fun _ _ _ hr=>hr)
 replace hs:=hs9
 have hun:=hu.len
 have hfn:=hf.len
 have hin:=hi.len
 have hsn:=hs.len
 obtain ⟨hka,hkb,hkc,hkd⟩:=Ztk (x:=x) (s:=⟨u,y,z⟩) (set:=set) (o:=o) (n:=n)
 refine wSk (Znj (α:=GX) [0,1,2,3,4,5,6,10,11,25,28,33,38,43] (fun xw=>[(12,ptr ⟨xw.b,0,none⟩),(13,.int .i64 (Z0 x ⟨u,y,z⟩ set o n).2)]) (fun xw=>[ZN b1 [str x.domain,.slice q1 x.users.length c1,.slice q2 x.folders.length c2,.int .i64 x.queue.next,.slice q3 x.queue.items.length c3] 49,ZN b2 [str u,str y,str z] 50,ZN xw.b [str (Z0 x ⟨u,y,z⟩ set o n).1.domain,.slice xw.q1 (Z0 x ⟨u,y,z⟩ set o n).1.users.length xw.c1,.slice xw.q2 (Z0 x ⟨u,y,z⟩ set o n).1.folders.length xw.c2,.int .i64 (Z0 x ⟨u,y,z⟩ set o n).1.queue.next,.slice xw.q3 (Z0 x ⟨u,y,z⟩ set o n).1.queue.items.length xw.c3] 29]) (fun xw Bx=>SlK Bx xw.q1 xw.c1 3 Zn (Z0 x ⟨u,y,z⟩ set o n).1.users∧SlK Bx xw.q2 xw.c2 5 Zk (Z0 x ⟨u,y,z⟩ set o n).1.folders∧SlK Bx xw.q3 xw.c3 4 Zy (Z0 x ⟨u,y,z⟩ set o n).1.queue.items∧(Z0 x ⟨u,y,z⟩ set o n).1.domain.length≤2000000) ?_ (fun xw B6 hle6 hF=>?_))
 refine Z2 (keeps _ [0,1] _) mo kr ⟨Kn.le.refl _,Za6.refl _ _⟩ (fun _ _=>?_)
 refine aT 0 rfl (ZO fun D B L hI=>ZW [_,_,_,_,_] rfl rfl Zxd rfl (Zbw 0 (hI.2.1.trans rfl) rfl rfl) r4) (h:=aT 2 rfl (ZO fun D B L hI=>ZW [_,_,_] rfl rfl Zx6 rfl (Zbw 1 (hI.2.2.1.trans rfl) rfl rfl) r4) (h:=aM 4 rfl (h:=aM 6 rfl (h:=aM 7 rfl (h:=ZaD [1,12] kr kr kr ⟨?_,?_⟩)))))
 refine (Zad rfl rfl Zwo rfl (Zfi _ _ _ _ _ _ x _ hu hf hi om2) ?_)
 rintro _ B7 _ hle7 ⟨q7,c7,l7,q7b,c7b,l7b,q7c,c7c,l7c,rfl,rfl,rfl,hv7,hv7b,hv7c⟩
 refine ⟨⟨Kn.le.refl _,t2⟩,(ZaS [_,_,_,_,_] rfl ?_)⟩
 refine Zen 2 rfl hv7 Zn.any om (fun B' hle'=>⟨hle',t2⟩) (fun B8 hle8 hr8=>?_)
 replace hu:=hu.mono Zn.mono hle8
 replace hf:=hf.mono Zk.mono hle8
 replace hi:=hi.mono Zy.mono hle8
 replace hs:=hs.mono Z1.mono hle8
 replace hE:=hE.mono hle8
 have hr8n:=hr8.len
 refine ZfI 3 rfl hv7b ZU.known Zk.mono om (fun B' hle'=>⟨hle8.trans hle',t2⟩) (fun B9 hle9 hr9=>?_)
 replace hu:=hu.mono Zn.mono hle9
 replace hf:=hf.mono Zk.mono hle9
 replace hi:=hi.mono Zy.mono hle9
 replace hs:=hs.mono Z1.mono hle9
 replace hr8:=hr8.mono Zn.mono hle9
 replace hE:=hE.mono hle9
 have hr9n:=hr9.len
 refine ZfI 4 rfl hv7c ZaQ.known Zy.mono om (fun B' hle'=>⟨(hle8.trans hle9).trans hle',t2⟩) (fun B10 hle10 hr10=>?_)
 replace hu:=hu.mono Zn.mono hle10
 replace hf:=hf.mono Zk.mono hle10
 replace hi:=hi.mono Zy.mono hle10
 replace hs:=hs.mono Z1.mono hle10
 replace hr8:=hr8.mono Zn.mono hle10
 replace hr9:=hr9.mono Zk.mono hle10
 replace hE:=hE.mono hle10
 have hr10n:=hr10.len
 refine ZaD [3,12] kr kr kr ⟨?_,?_⟩
 refine (Z7 rfl rfl Zv5 rfl (Zb6 u y z _) (⟨⟨((hle8.trans hle9).trans hle10),t2⟩,(ZaS [_,_,_,_,_] rfl ?_)⟩))
 refine ZaD [5,12] kr kr kr ⟨?_,?_⟩
 refine (Zad rfl rfl Zr3 rfl (ZbO _ _ set om2 _ hs) ?_)
 rintro _ B12 _ hle12 ⟨q12,c12,l12,rfl,rfl,rfl,hv12⟩
 refine ⟨⟨((hle8.trans hle9).trans hle10),t2⟩,(ZaS [_,_,_,_,_,_] rfl ?_)⟩
 refine Zen 5 rfl hv12 Z1.any om (fun B' hle'=>⟨((hle8.trans hle9).trans hle10).trans hle',t2⟩) (fun B13 hle13 hr13=>?_)
 replace hu:=hu.mono Zn.mono hle13
 replace hf:=hf.mono Zk.mono hle13
 replace hi:=hi.mono Zy.mono hle13
 replace hs:=hs.mono Z1.mono hle13
 replace hr8:=hr8.mono Zn.mono hle13
 replace hr9:=hr9.mono Zk.mono hle13
 replace hr10:=hr10.mono Zy.mono hle13
 replace hE:=hE.mono hle13
 have hr13n:=hr13.len
 refine ZaD [8,12] kr kr kr ⟨?_,?_⟩
 refine (ZgA rfl rfl ZxE rfl (Zd6 _ _ _ _ _ _ x (⟨u,y,z⟩) om2 om2 om2 _ _ set o n om2 om2 om2 _ hr8 hr9 hr10 hr13) ?_)
 intro v14 B14 hle14
 rintro ⟨p114,d114,p214,d214,p314,d314,rfl,hu14,hf14,hi14,hd14⟩
 replace hu:=hu.mono Zn.mono hle14
 replace hf:=hf.mono Zk.mono hle14
 replace hi:=hi.mono Zy.mono hle14
 replace hs:=hs.mono Z1.mono hle14
 replace hr8:=hr8.mono Zn.mono hle14
 replace hr9:=hr9.mono Zk.mono hle14
 replace hr10:=hr10.mono Zy.mono hle14
 replace hr13:=hr13.mono Z1.mono hle14
 replace hE:=hE.mono hle14
 have hu14n:=hu14.len
 have hf14n:=hf14.len
 have hi14n:=hi14.len
 refine ⟨⟨((((hle8.trans hle9).trans hle10).trans hle13).trans hle14),t2⟩,(ZaS [_,_,_,_,_,_] rfl ?_)⟩
 refine aM 9 rfl (h:=aE 10 rfl (h:=aE 11 rfl (h:=ZA 12 kr rfl kr (Zaj (l:=[_,_,_,_,_]) rfl rfl Zb3 rfl (fun b15=>?_)))))
 refine ⟨⟨((((hle8.trans hle9).trans hle10).trans hle13).trans hle14),t2⟩,(Zbs 13 kr rfl kr kr (ZL [_,_,_,_,_] 6 [_,_,_,_,_] rfl rfl ZcL rfl rfl rfl rfl rfl rfl rfl rfl ?_))⟩
 refine aA 14 rfl (h:=Zu kr kr ?_)
 exact Zak ⟨_,_,_,_,_,_,_,none,0,[],[],[],[]⟩ [0,1,6] ⟨hu14,hf14,hi14,oy⟩ t16 rfl
 refine (Zaj (l:=[_,_,_,_,_]) rfl rfl Zb3 rfl (fun b16=>⟨⟨(((hle8.trans hle9).trans hle10).trans hle13),t2⟩,(ZA 8 kr rfl kr (ZgA rfl rfl ZxE rfl (Zd6 _ _ _ _ _ _ x (⟨u,y,z⟩) om2 om2 om2 _ _ set o n om2 om2 om2 _ hr8 hr9 hr10 hr13) ?_))⟩))
 intro v17 B17 hle17
 rintro ⟨p117,d117,p217,d217,p317,d317,rfl,hu17,hf17,hi17,hd17⟩
 replace hu:=hu.mono Zn.mono hle17
 replace hf:=hf.mono Zk.mono hle17
 replace hi:=hi.mono Zy.mono hle17
 replace hs:=hs.mono Z1.mono hle17
 replace hr8:=hr8.mono Zn.mono hle17
 replace hr9:=hr9.mono Zk.mono hle17
 replace hr10:=hr10.mono Zy.mono hle17
 replace hE:=hE.mono hle17
 have hu17n:=hu17.len
 have hf17n:=hf17.len
 have hi17n:=hi17.len
 refine ⟨⟨((((hle8.trans hle9).trans hle10).trans hle13).trans hle17),t2⟩,(ZaS [_,_,_,_,_,_,_] rfl ?_)⟩
 refine aM 9 rfl (h:=aE 10 rfl (h:=aE 11 rfl (h:=Zbs 13 kr rfl kr kr (ZL [_,_,_,_,_] 6 [_,_,_,_,_] rfl rfl ZcL rfl rfl rfl rfl rfl rfl rfl rfl ?_))))
 refine aA 14 rfl (h:=Zu kr kr ?_)
 exact Zak ⟨_,_,_,_,_,_,_,none,0,[],[],[],[]⟩ [0,1,6] ⟨hu17,hf17,hi17,oy⟩ t16 rfl
 refine (Zaj (l:=[_,_,_,_,_]) rfl rfl Zb3 rfl (fun b18=>⟨⟨((hle8.trans hle9).trans hle10),t2⟩,(ZA 5 kr rfl kr (Zad rfl rfl Zr3 rfl (ZbO _ _ set om2 _ hs) ?_))⟩))
 rintro _ B19 _ hle19 ⟨q19,c19,l19,rfl,rfl,rfl,hv19⟩
 refine ⟨⟨((hle8.trans hle9).trans hle10),t2⟩,(ZaS [_,_,_,_,_,_,_] rfl ?_)⟩
 refine Zen 6 rfl hv19 Z1.any om (fun B' hle'=>⟨((hle8.trans hle9).trans hle10).trans hle',t2⟩) (fun B20 hle20 hr20=>?_)
 replace hu:=hu.mono Zn.mono hle20
 replace hf:=hf.mono Zk.mono hle20
 replace hi:=hi.mono Zy.mono hle20
 replace hs:=hs.mono Z1.mono hle20
 replace hr8:=hr8.mono Zn.mono hle20
 replace hr9:=hr9.mono Zk.mono hle20
 replace hr10:=hr10.mono Zy.mono hle20
 replace hE:=hE.mono hle20
 have hr20n:=hr20.len
 refine ZA 8 kr rfl kr (ZgA rfl rfl ZxE rfl (Zd6 _ _ _ _ _ _ x (⟨u,y,z⟩) om2 om2 om2 _ _ set o n om2 om2 om2 _ hr8 hr9 hr10 hr20) ?_)
 intro v21 B21 hle21
 rintro ⟨p121,d121,p221,d221,p321,d321,rfl,hu21,hf21,hi21,hd21⟩
 replace hu:=hu.mono Zn.mono hle21
 replace hf:=hf.mono Zk.mono hle21
 replace hi:=hi.mono Zy.mono hle21
 replace hs:=hs.mono Z1.mono hle21
 replace hr8:=hr8.mono Zn.mono hle21
 replace hr9:=hr9.mono Zk.mono hle21
 replace hr10:=hr10.mono Zy.mono hle21
 replace hE:=hE.mono hle21
 have hu21n:=hu21.len
 have hf21n:=hf21.len
 have hi21n:=hi21.len
 refine ⟨⟨((((hle8.trans hle9).trans hle10).trans hle20).trans hle21),t2⟩,(ZaS [_,_,_,_,_,_,_] rfl ?_)⟩
 refine aM 9 rfl (h:=aE 10 rfl (h:=aE 11 rfl (h:=Zbs 13 kr rfl kr kr (ZL [_,_,_,_,_] 5 [_,_,_,_,_] rfl rfl ZcL rfl rfl rfl rfl rfl rfl rfl rfl ?_))))
 refine aA 14 rfl (h:=Zu kr kr ?_)
 exact Zak ⟨_,_,_,_,_,_,_,none,0,[],[],[],[]⟩ [0,1,5] ⟨hu21,hf21,hi21,oy⟩ t16 rfl
 refine (Zaj (l:=[_,_,_,_,_]) rfl rfl Zb3 rfl (fun b22=>⟨⟨((hle8.trans hle9).trans hle10),t2⟩,(ZA 3 kr rfl kr (Z7 rfl rfl Zv5 rfl (Zb6 u y z _) ?_))⟩))
 refine ⟨⟨((hle8.trans hle9).trans hle10),t2⟩,(ZaS [_,_,_,_,_,_] rfl ?_)⟩
 refine ZA 5 kr rfl kr (Zad rfl rfl Zr3 rfl (ZbO _ _ set om2 _ hs) ?_)
 rintro _ B24 _ hle24 ⟨q24,c24,l24,rfl,rfl,rfl,hv24⟩
 refine ⟨⟨((hle8.trans hle9).trans hle10),t2⟩,(ZaS [_,_,_,_,_,_,_] rfl ?_)⟩
 refine Zen 6 rfl hv24 Z1.any om (fun B' hle'=>⟨((hle8.trans hle9).trans hle10).trans hle',t2⟩) (fun B25 hle25 hr25=>?_)
 replace hu:=hu.mono Zn.mono hle25
 replace hf:=hf.mono Zk.mono hle25
 replace hi:=hi.mono Zy.mono hle25
 replace hs:=hs.mono Z1.mono hle25
 replace hr8:=hr8.mono Zn.mono hle25
 replace hr9:=hr9.mono Zk.mono hle25
 replace hr10:=hr10.mono Zy.mono hle25
 replace hE:=hE.mono hle25
 have hr25n:=hr25.len
 refine ZA 8 kr rfl kr (ZgA rfl rfl ZxE rfl (Zd6 _ _ _ _ _ _ x (⟨u,y,z⟩) om2 om2 om2 _ _ set o n om2 om2 om2 _ hr8 hr9 hr10 hr25) ?_)
 intro v26 B26 hle26
 rintro ⟨p126,d126,p226,d226,p326,d326,rfl,hu26,hf26,hi26,hd26⟩
 replace hu:=hu.mono Zn.mono hle26
 replace hf:=hf.mono Zk.mono hle26
 replace hi:=hi.mono Zy.mono hle26
 replace hs:=hs.mono Z1.mono hle26
 replace hE:=hE.mono hle26
 have hu26n:=hu26.len
 have hf26n:=hf26.len
 have hi26n:=hi26.len
 refine ⟨⟨((((hle8.trans hle9).trans hle10).trans hle25).trans hle26),t2⟩,(ZaS [_,_,_,_,_,_,_] rfl ?_)⟩
 refine aM 9 rfl (h:=aE 10 rfl (h:=aE 11 rfl (h:=Zbs 13 kr rfl kr kr (ZL [_,_,_,_,_] 5 [_,_,_,_,_] rfl rfl ZcL rfl rfl rfl rfl rfl rfl rfl rfl ?_))))
 refine aA 14 rfl (h:=Zu kr kr ?_)
 exact Zak ⟨_,_,_,_,_,_,_,none,0,[],[],[],[]⟩ [0,1,5] ⟨hu26,hf26,hi26,oy⟩ t16 rfl
 refine (Zaj (l:=[_,_,_,_,_]) rfl rfl Zb3 rfl (fun b27=>⟨⟨Kn.le.refl _,t2⟩,(ZA 1 kr rfl kr (Zad rfl rfl Zwo rfl (Zfi _ _ _ _ _ _ x _ hu hf hi om2) ?_))⟩))
 rintro _ B28 _ hle28 ⟨q28,c28,l28,q28b,c28b,l28b,q28c,c28c,l28c,rfl,rfl,rfl,hv28,hv28b,hv28c⟩
 refine ⟨⟨Kn.le.refl _,t2⟩,(ZaS [_,_,_,_,_,_] rfl ?_)⟩
 refine Zen 3 rfl hv28 Zn.any om (fun B' hle'=>⟨hle',t2⟩) (fun B29 hle29 hr29=>?_)
 replace hu:=hu.mono Zn.mono hle29
 replace hf:=hf.mono Zk.mono hle29
 replace hi:=hi.mono Zy.mono hle29
 replace hs:=hs.mono Z1.mono hle29
 replace hE:=hE.mono hle29
 have hr29n:=hr29.len
 refine ZfI 4 rfl hv28b ZU.known Zk.mono om (fun B' hle'=>⟨hle29.trans hle',t2⟩) (fun B30 hle30 hr30=>?_)
 replace hu:=hu.mono Zn.mono hle30
 replace hf:=hf.mono Zk.mono hle30
 replace hi:=hi.mono Zy.mono hle30
 replace hs:=hs.mono Z1.mono hle30
 replace hr29:=hr29.mono Zn.mono hle30
 replace hE:=hE.mono hle30
 have hr30n:=hr30.len
 refine ZfI 5 rfl hv28c ZaQ.known Zy.mono om (fun B' hle'=>⟨(hle29.trans hle30).trans hle',t2⟩) (fun B31 hle31 hr31=>?_)
 replace hu:=hu.mono Zn.mono hle31
 replace hf:=hf.mono Zk.mono hle31
 replace hi:=hi.mono Zy.mono hle31
 replace hs:=hs.mono Z1.mono hle31
 replace hr29:=hr29.mono Zn.mono hle31
 replace hr30:=hr30.mono Zk.mono hle31
 replace hE:=hE.mono hle31
 have hr31n:=hr31.len
 refine ZA 3 kr rfl kr (Z7 rfl rfl Zv5 rfl (Zb6 u y z _) ?_)
 refine ⟨⟨((hle29.trans hle30).trans hle31),t2⟩,(ZaS [_,_,_,_,_,_] rfl ?_)⟩
 refine ZA 5 kr rfl kr (Zad rfl rfl Zr3 rfl (ZbO _ _ set om2 _ hs) ?_)
 rintro _ B33 _ hle33 ⟨q33,c33,l33,rfl,rfl,rfl,hv33⟩
 refine ⟨⟨((hle29.trans hle30).trans hle31),t2⟩,(ZaS [_,_,_,_,_,_,_] rfl ?_)⟩
 refine Zen 6 rfl hv33 Z1.any om (fun B' hle'=>⟨((hle29.trans hle30).trans hle31).trans hle',t2⟩) (fun B34 hle34 hr34=>?_)
 replace hu:=hu.mono Zn.mono hle34
 replace hf:=hf.mono Zk.mono hle34
 replace hi:=hi.mono Zy.mono hle34
 replace hs:=hs.mono Z1.mono hle34
 replace hr29:=hr29.mono Zn.mono hle34
 replace hr30:=hr30.mono Zk.mono hle34
 replace hr31:=hr31.mono Zy.mono hle34
 replace hE:=hE.mono hle34
 have hr34n:=hr34.len
 refine ZA 8 kr rfl kr (ZgA rfl rfl ZxE rfl (Zd6 _ _ _ _ _ _ x (⟨u,y,z⟩) om2 om2 om2 _ _ set o n om2 om2 om2 _ hr29 hr30 hr31 hr34) ?_)
 intro v35 B35 hle35
 rintro ⟨p135,d135,p235,d235,p335,d335,rfl,hu35,hf35,hi35,hd35⟩
 replace hu:=hu.mono Zn.mono hle35
 replace hf:=hf.mono Zk.mono hle35
 replace hi:=hi.mono Zy.mono hle35
 replace hs:=hs.mono Z1.mono hle35
 replace hE:=hE.mono hle35
 have hu35n:=hu35.len
 have hf35n:=hf35.len
 have hi35n:=hi35.len
 refine ⟨⟨((((hle29.trans hle30).trans hle31).trans hle34).trans hle35),t2⟩,(ZaS [_,_,_,_,_,_,_] rfl ?_)⟩
 refine aM 9 rfl (h:=aE 10 rfl (h:=aE 11 rfl (h:=Zbs 13 kr rfl kr kr (ZL [_,_,_,_,_] 2 [_,_,_,_,_] rfl rfl ZcL rfl rfl rfl rfl rfl rfl rfl rfl ?_))))
 refine aA 14 rfl (h:=Zu kr kr ?_)
 exact Zak ⟨_,_,_,_,_,_,_,none,0,[],[],[],[]⟩ [0,1,2] ⟨hu35,hf35,hi35,oy⟩ t16 rfl
 obtain ⟨hw1,hw2,hw3,hw5⟩:=hF
 have hw1n:=hw1.len
 have hw2n:=hw2.len
 have hw3n:=hw3.len
 replace hu:=hu.mono Zn.mono hle6
 replace hf:=hf.mono Zk.mono hle6
 replace hi:=hi.mono Zy.mono hle6
 replace hs:=hs.mono Z1.mono hle6
 replace hE:=hE.mono hle6
 refine ZD [(0,_),(1,_),(2,_),(3,_),(4,_),(5,_),(6,_),(10,_),(11,_),(12,_),(13,_),(25,_),(28,_),(33,_),(38,_),(43,_)] [_,_,_] t16 rfl (Za (xL [_,_,_,_,_] Zxd 0 (h:=xC Zwo rfl (Zfi _ _ _ _ _ _ x _ hu hf hi om2) (h:=?_))))
 rintro _ B36 _ hle36 ⟨q36,c36,l36,q36b,c36b,l36b,q36c,c36c,l36c,rfl,rfl,rfl,hv36,hv36b,hv36c⟩
 refine xAl [_,_,_,_,_] Zb3 (h:=fun b37=>xS [_,_,_,_,_] 6 [_,_,_,_,_] ZcL (h:=tL7 (Za (xM (h:=xC Zr3 rfl (ZbO _ _ set om2 _ hs) (h:=?_))))))
 rintro _ B38 _ hle38 ⟨q38,c38,l38,rfl,rfl,rfl,hv38⟩
 refine xA (h:=tL8 (Znj (α:=GX) [0,1,2,3,4,5,6,10,11,12,13,14,15,25,28,33,38,43] (fun xg=>[(16,ptr ⟨xg.b,0,none⟩),(17,.int .i64 (Z0 x ⟨u,y,z⟩ set o n).2)]) (fun xg=>[ZN b1 [str x.domain,.slice q1 x.users.length c1,.slice q2 x.folders.length c2,.int .i64 x.queue.next,.slice q3 x.queue.items.length c3] 49,ZN b2 [str u,str y,str z] 50,ZN xw.b [str (Z0 x ⟨u,y,z⟩ set o n).1.domain,.slice xw.q1 (Z0 x ⟨u,y,z⟩ set o n).1.users.length xw.c1,.slice xw.q2 (Z0 x ⟨u,y,z⟩ set o n).1.folders.length xw.c2,.int .i64 (Z0 x ⟨u,y,z⟩ set o n).1.queue.next,.slice xw.q3 (Z0 x ⟨u,y,z⟩ set o n).1.queue.items.length xw.c3] 29,l36,l36b,l36c,ZN b37 [str x.domain,.slice q36 x.users.length c36,.slice q36b x.folders.length c36b,.int .i64 x.queue.next,.slice q36c x.queue.items.length c36c] 29,l38,xg.l1,xg.l2,xg.l3,ZN xg.b [str (Z0 x ⟨u,y,z⟩ set o n).1.domain,.slice xg.q1 (Z0 x ⟨u,y,z⟩ set o n).1.users.length xg.c1,.slice xg.q2 (Z0 x ⟨u,y,z⟩ set o n).1.folders.length xg.c2,.int .i64 (Z0 x ⟨u,y,z⟩ set o n).1.queue.next,.slice xg.q3 (Z0 x ⟨u,y,z⟩ set o n).1.queue.items.length xg.c3] 29]) (fun xg Bx=>ZT Kn.none xg.l1 xg.q1 xg.c1 141 3 Zn (Z0 x ⟨u,y,z⟩ set o n).1.users∧ZaF xg.l2 xg.q2 xg.c2 96 5 (ZU 259 99) (Z0 x ⟨u,y,z⟩ set o n).1.folders∧ZaF xg.l3 xg.q3 xg.c3 145 4 (ZaQ 9) (Z0 x ⟨u,y,z⟩ set o n).1.queue.items) ?_ (fun xg B39 hle39 hF=>?_)))
 refine Z2 (keeps _ [1,6] _) mo kr ⟨Kn.le.refl _,Za6.refl _ _⟩ (fun _ _=>?_)
 refine aT 0 rfl (ZO fun D B L hI=>ZW [_,_,_,_,_] rfl rfl Zcd rfl (Zbw 6 (hI.2.2.1.trans rfl) rfl rfl) r4) (h:=aT 1 rfl (ZO fun D B L hI=>ZW [_,_,_] rfl rfl Zx6 rfl (Zbw 1 (hI.2.1.trans rfl) rfl rfl) r4) (h:=aT 2 rfl (ZO fun D B L hI=>Z7 rfl rfl Zv5 rfl (Zb6 u y z _) r4) (h:=aM 3 rfl (h:=aM 4 rfl (h:=aM 5 rfl (h:=ZaD [6,10] kr kr kr ⟨?_,?_⟩))))))
 refine (ZcI [3,4,5,7] rfl rfl rfl rfl Zv0 rfl (Zv.borrowK 4 fun hm41=>Zce hJ _ _ _ _ _ _ x u y z om2 om2 om2 _ _ set o n om2 om2 om2 a _ (hE.mono (Kn.le_add _ _)) (hv36.lendK Zn.any 0 rfl hm41 om) (hv36b.lendK ZU.known Zk.mono 1 rfl hm41 om) (hv36c.lendK ZaQ.known Zy.mono 2 rfl hm41 om) (hv38.lendK Z1.any 3 rfl hm41 om)) ?_)
 rintro _ B41 _ hle41 ⟨BB41,_,rfl,hB41,_,hm41,_,q141,c141,q241,c241,q341,c341,l141,l241,l341,rfl,rfl,hu41,hf41,hi41⟩
 replace hu:=hu.mono Zn.mono hle41
 replace hf:=hf.mono Zk.mono hle41
 replace hi:=hi.mono Zy.mono hle41
 replace hs:=hs.mono Z1.mono hle41
 replace hw1:=hw1.mono Zn.mono hle41
 replace hw2:=hw2.mono Zk.mono hle41
 replace hw3:=hw3.mono Zy.mono hle41
 replace hv36:=hv36.mono Zn.mono hle41
 replace hv38:=hv38.mono Z1.mono hle41
 replace hE:=hE.mono hle41
 refine ⟨⟨hle41,t2⟩,(ZaS [_,_,_,_,_,_,_,_,_,_,_] rfl ?_)⟩
 refine aM 7 rfl (h:=aE 8 rfl (h:=aE 9 rfl (h:=ZA 10 kr rfl kr (Zaj (l:=[_,_,_,_,_]) rfl rfl Zb3 rfl (fun b42=>?_)))))
 refine ⟨⟨hle41,t2⟩,(Zbs 11 kr rfl kr kr (ZL [_,_,_,_,_] 11 [_,_,_,_,_] rfl rfl ZcL rfl rfl rfl rfl rfl rfl rfl rfl ?_))⟩
 refine aA 12 rfl (h:=Zu kr kr ?_)
 exact Zdx ⟨_,_,_,_,_,_,_,none,0,_,_,_,[]⟩ [_,_,_,_,_,_,_,_,_,_,_,_] rfl [0,1,2,3,4,5,6,7,8,9,10,11] ⟨hu41.anyK Zn.any,hf41,hi41⟩ t20 rfl
 refine (Zaj (l:=[_,_,_,_,_]) rfl rfl Zb3 rfl (fun b43=>⟨⟨Kn.le.refl _,t2⟩,(ZA 6 kr rfl kr (ZcI [3,4,5,7] rfl rfl rfl rfl Zv0 rfl (Zv.borrowK 4 fun hm44=>Zce hJ _ _ _ _ _ _ x u y z om2 om2 om2 _ _ set o n om2 om2 om2 a _ (hE.mono (Kn.le_add _ _)) (hv36.lendK Zn.any 0 rfl hm44 om) (hv36b.lendK ZU.known Zk.mono 1 rfl hm44 om) (hv36c.lendK ZaQ.known Zy.mono 2 rfl hm44 om) (hv38.lendK Z1.any 3 rfl hm44 om)) ?_))⟩))
 rintro _ B44 _ hle44 ⟨BB44,_,rfl,hB44,_,hm44,_,q144,c144,q244,c244,q344,c344,l144,l244,l344,rfl,rfl,hu44,hf44,hi44⟩
 replace hu:=hu.mono Zn.mono hle44
 replace hf:=hf.mono Zk.mono hle44
 replace hi:=hi.mono Zy.mono hle44
 replace hs:=hs.mono Z1.mono hle44
 replace hw1:=hw1.mono Zn.mono hle44
 replace hw2:=hw2.mono Zk.mono hle44
 replace hw3:=hw3.mono Zy.mono hle44
 replace hv36:=hv36.mono Zn.mono hle44
 replace hv38:=hv38.mono Z1.mono hle44
 replace hE:=hE.mono hle44
 refine ⟨⟨hle44,t2⟩,(ZaS [_,_,_,_,_,_,_,_,_,_,_,_] rfl ?_)⟩
 refine aM 7 rfl (h:=aE 8 rfl (h:=aE 9 rfl (h:=Zbs 11 kr rfl kr kr (ZL [_,_,_,_,_] 8 [_,_,_,_,_] rfl rfl ZcL rfl rfl rfl rfl rfl rfl rfl rfl ?_))))
 refine aA 12 rfl (h:=Zu kr kr ?_)
 exact Zdx ⟨_,_,_,_,_,_,_,none,0,_,_,_,[]⟩ [_,_,_,_,_,_,_,_,_,_,_,_] rfl [0,1,2,3,4,5,6,7,9,10,11,8] ⟨hu44.anyK Zn.any,hf44,hi44⟩ t20 rfl
 obtain ⟨hg1,hg2,hg3⟩:=hF
 replace hu:=hu.mono Zn.mono hle39
 replace hf:=hf.mono Zk.mono hle39
 replace hi:=hi.mono Zy.mono hle39
 replace hs:=hs.mono Z1.mono hle39
 replace hw1:=hw1.mono Zn.mono hle39
 replace hw2:=hw2.mono Zk.mono hle39
 replace hw3:=hw3.mono Zy.mono hle39
 replace hE:=hE.mono hle39
 refine ZD [(0,_),(1,_),(2,_),(3,_),(4,_),(5,_),(6,_),(10,_),(11,_),(12,_),(13,_),(14,_),(15,_),(16,_),(17,_),(25,_),(28,_),(33,_),(38,_),(43,_)] [_,_,_,_,_,_,_,_,_,_,_,_] t20 rfl (Zc (Za (xL [_,_,_,_,_] Zcd 11 (h:=xL [_,_,_,_,_] Zcd 2 (h:=Zl (ZfA [8,9,10] rfl rfl rfl rfl rfl Zyb rfl (Zac.borrowL fun hm45=>Zhz _ _ _ _ _ _ _ _ _ _ _ _ ((Z0 x ⟨u,y,z⟩ set o n).1) ((Z0 x ⟨u,y,z⟩ set o n).1) _ (hg1.lendK Zn.any 0 rfl hm45 om) (hg2.lendK ZU.known Zk.mono 1 rfl hm45 om) (hg3.lendK ZaQ.known Zy.mono 2 rfl hm45 om) (hw1.mono Zn.mono (Kn.le_add _ _)) (hw2.mono Zk.mono (Kn.le_add _ _)) (hw3.mono Zy.mono (Kn.le_add _ _))) ?_))))))
 refine xN (h:=xM (h:=Zx (d:=74) rfl (fun g6=>by simp at g6) (fun g6=>?_)))
 try simp only [sQ,ne_eq] at g6
 refine xM (h:=xM (h:=ZaH (h:=xF (h:=Zb rfl (fun g7=>by simp at g7) (fun g7=>?_)))))
 try simp only [sQ,ne_eq] at g7
 refine wSk (Zc (Zc (Z2 (keeps _ [0,6] _) mo kr ⟨Kn.le.refl _,Za6.refl _ _⟩ (fun _ _=>?_))))
 refine aT 0 rfl (ZO fun D B L hI=>ZW [_,_,_,_,_] rfl rfl Zcd rfl (Zbw 6 (hI.2.2.1.trans rfl) rfl rfl) r4) (h:=aT 1 rfl (ZO fun D B L hI=>ZW [_,_,_,_,_] rfl rfl Zxd rfl (Zbw 0 (hI.2.1.trans rfl) rfl rfl) r4) (h:=ZA 2 kr rfl kr (Zad rfl rfl Zwo rfl (Zfi _ _ _ _ _ _ x _ hu hf hi om2) ?_)))
 rintro _ B46 _ hle46 ⟨q46,c46,l46,q46b,c46b,l46b,q46c,c46c,l46c,rfl,rfl,rfl,hv46,hv46b,hv46c⟩
 refine ⟨⟨Kn.le.refl _,t2⟩,(ZaS [_,_,_,_,_,_,_,_,_,_,_,_,_,_,_] rfl ?_)⟩
 refine Zen 12 rfl hv46 Zn.any om (fun B' hle'=>⟨hle',t2⟩) (fun B47 hle47 hr47=>?_)
 replace hu:=hu.mono Zn.mono hle47
 replace hf:=hf.mono Zk.mono hle47
 replace hi:=hi.mono Zy.mono hle47
 replace hs:=hs.mono Z1.mono hle47
 replace hw1:=hw1.mono Zn.mono hle47
 replace hw2:=hw2.mono Zk.mono hle47
 replace hw3:=hw3.mono Zy.mono hle47
 replace hv36:=hv36.mono Zn.mono hle47
 replace hv38:=hv38.mono Z1.mono hle47
 replace hg1:=hg1.mono Zn.mono hle47
 replace hE:=hE.mono hle47
 have hr47n:=hr47.len
 refine ZfI 13 rfl hv46b ZU.known Zk.mono om (fun B' hle'=>⟨hle47.trans hle',t2⟩) (fun B48 hle48 hr48=>?_)
 replace hu:=hu.mono Zn.mono hle48
 replace hf:=hf.mono Zk.mono hle48
 replace hi:=hi.mono Zy.mono hle48
 replace hs:=hs.mono Z1.mono hle48
 replace hr47:=hr47.mono Zn.mono hle48
 replace hw1:=hw1.mono Zn.mono hle48
 replace hw2:=hw2.mono Zk.mono hle48
 replace hw3:=hw3.mono Zy.mono hle48
 replace hv36:=hv36.mono Zn.mono hle48
 replace hv38:=hv38.mono Z1.mono hle48
 replace hg1:=hg1.mono Zn.mono hle48
 replace hE:=hE.mono hle48
 have hr48n:=hr48.len
 refine ZfI 14 rfl hv46c ZaQ.known Zy.mono om (fun B' hle'=>⟨(hle47.trans hle48).trans hle',t2⟩) (fun B49 hle49 hr49=>?_)
 replace hu:=hu.mono Zn.mono hle49
 replace hf:=hf.mono Zk.mono hle49
 replace hi:=hi.mono Zy.mono hle49
 replace hs:=hs.mono Z1.mono hle49
 replace hr47:=hr47.mono Zn.mono hle49
 replace hr48:=hr48.mono Zk.mono hle49
 replace hw1:=hw1.mono Zn.mono hle49
 replace hw2:=hw2.mono Zk.mono hle49
 replace hw3:=hw3.mono Zy.mono hle49
 replace hv36:=hv36.mono Zn.mono hle49
 replace hv38:=hv38.mono Z1.mono hle49
 replace hg1:=hg1.mono Zn.mono hle49
 replace hE:=hE.mono hle49
 have hr49n:=hr49.len
 refine ZA 3 kr rfl kr (ZfA [3,4,5] rfl rfl rfl rfl rfl Zyb rfl (Zac.borrowL fun hm50=>Zhz _ _ _ _ _ _ _ _ _ _ _ _ x x _ (hv36.lendK Zn.any 0 rfl hm50 om) (hv36b.lendK ZU.known Zk.mono 1 rfl hm50 om) (hv36c.lendK ZaQ.known Zy.mono 2 rfl hm50 om) (hr47.mono Zn.mono (Kn.le_add _ _)) (hr48.mono Zk.mono (Kn.le_add _ _)) (hr49.mono Zy.mono (Kn.le_add _ _))) ?_)
 refine ⟨⟨((hle47.trans hle48).trans hle49),t2⟩,(ZaS [_,_,_,_,_,_,_,_,_,_,_,_,_,_,_] rfl ?_)⟩
 refine aN 4 rfl (h:=Zu kr kr ?_)
 refine Zp (ZBj (Zb rfl (fun g8=>by simp at g8) (fun g8=>?_)))
 try simp only [sQ,ne_eq] at g8
 refine wSk (Zc (Za (xM (h:=xM (h:=xC Zr3 rfl (ZbO _ _ set om2 _ hs) (h:=?_))))))
 rintro _ B51 _ hle51 ⟨q51,c51,l51,rfl,rfl,rfl,hv51⟩
 refine Zw2 15 rfl hv51 Z1.any om (fun B52 hle52 hr52=>?_)
 replace hu:=hu.mono Zn.mono hle52
 replace hf:=hf.mono Zk.mono hle52
 replace hi:=hi.mono Zy.mono hle52
 replace hs:=hs.mono Z1.mono hle52
 replace hw1:=hw1.mono Zn.mono hle52
 replace hw2:=hw2.mono Zk.mono hle52
 replace hw3:=hw3.mono Zy.mono hle52
 replace hv36:=hv36.mono Zn.mono hle52
 replace hv38:=hv38.mono Z1.mono hle52
 replace hg1:=hg1.mono Zn.mono hle52
 replace hE:=hE.mono hle52
 have hr52n:=hr52.len
 refine Zl (ZiN 7 rfl rfl rfl ZB6 rfl (Zac.borrow fun hm53=>Zro _ _ _ _ _ _ _ ((hv38.anyK Z1.any).lend Z1.mono hm53 om) (hr52.mono Z1.mono (Kn.le_add _ _))) ?_)
 refine xN (h:=Zpk [_,_,_,_,_,_,_,_,_,_,_,_,_,_,_,_] rfl (Zb rfl (fun g9=>by simp at g9) (fun g9=>?_)))
 try simp only [sQ,ne_eq] at g9
 refine wSk (Za (xA (h:=Za (xL [_,_,_,_,_] Zcd 6 (h:=xM (h:=xK [3,4,5] rfl ZBf rfl (Zi3 _ _ _ _ _ _ x _ _ _ 1 oa oz oz oz _ (hv36.anyK Zn.any) hv36b hv36c) (h:=?_)))))))
 rintro _ B54 _ hle54 ⟨rfl,l54a,l54b,l54c,rfl,rfl,hs54a,hs54b,hs54c⟩
 refine xA (h:=Zpk [_,_,_,_,_,_,_,_,_,_,_,_,_,_,_,_] rfl (Za (xM (h:=xM (h:=xK [7] rfl ZB5 rfl (Zmu _ _ set _ (kH 1 x) oz oz _ (hv38.anyK Z1.any)) (h:=?_))))))
 rintro _ B55 _ hle55 ⟨rfl,l55,rfl,rfl,hs55⟩
 refine xA (h:=Zpk [_,_,_,_,_,_,_,_,_,_,_,_,_,_,_,_] rfl (Zc (Za (xM (h:=ZF (h:=xM (h:=Zx (d:=97) rfl (fun ga=>by first | omega | (simp at ga;done) | (simp at ga;omega)) (fun ga=>?_))))))))
 try simp only [sQ,ne_eq] at ga
 refine xL [_,_,_,_,_] Zcd 11 (h:=xL [_,_,_,_,_] Zcd 2 (h:=Zl (ZfA [8,9,10] rfl rfl rfl rfl rfl Zyb rfl (Zac.borrowL fun hm56=>Zhz _ _ _ _ _ _ _ _ _ _ _ _ ((Z0 x ⟨u,y,z⟩ set o n).1) ((Z0 x ⟨u,y,z⟩ set o n).1) _ (hg1.lendK Zn.any 0 rfl hm56 om) (hg2.lendK ZU.known Zk.mono 1 rfl hm56 om) (hg3.lendK ZaQ.known Zy.mono 2 rfl hm56 om) (hw1.mono Zn.mono (Kn.le_add _ _)) (hw2.mono Zk.mono (Kn.le_add _ _)) (hw3.mono Zy.mono (Kn.le_add _ _))) ?_)))
 refine xN (h:=xF (h:=xM (h:=Zx (d:=103) rfl (fun gb=>by simp at gb) (fun gb=>?_))))
 try simp only [sQ,ne_eq] at gb
 refine xM (h:=xM (h:=ZaH (h:=xF (h:=Zb rfl (fun gc=>by simp at gc) (fun gc=>?_)))))
 try simp only [sQ,ne_eq] at gc
 refine wSk (Za (xA (h:=Za (xL [_,_,_,_,_] Zcd 11 (h:=xM (h:=xK [8,9,10] rfl ZBf rfl (Zi3 _ _ _ _ _ _ ((Z0 x ⟨u,y,z⟩ set o n).1) _ _ _ 1 oa oz oz oz _ (hg1.anyK Zn.any) hg2 hg3) (h:=?_)))))))
 rintro _ B57 _ hle57 ⟨rfl,l57a,l57b,l57c,rfl,rfl,hs57a,hs57b,hs57c⟩
 refine xA (h:=Zpk [_,_,_,_,_,_,_,_,_,_,_,_,_,_,_,_] rfl (Za (xA (h:=Za (xL [_,_,_,_,_] Zcd 11 (h:=xM (h:=Zl (ZfA [8,9,10] rfl rfl rfl rfl rfl ZBe rfl (Zac.borrowL fun hm58=>Zi7 _ _ _ _ _ _ (Z0 x ⟨u,y,z⟩ set o n).1 1 oa _ (hs57a.lendK Zn.any 0 rfl hm58 (by simp only [Zaz,ZaJ,Zby,Zbo,ZeA];omega)) (hs57b.lendK ZU.known Zk.mono 1 rfl hm58 (by simp only [Zaz,ZaJ,Zby,Zbo,ZeA];omega)) (hs57c.lendK ZaQ.known Zy.mono 2 rfl hm58 (by simp only [Zaz,ZaJ,Zby,Zbo,ZeA];omega))) ?_))))))))
 refine xA (h:=Zc (Za (xM (h:=ZF (h:=Zb rfl (fun gd=>by first | omega | (simp at gd;done) | (simp at gd;omega)) (fun gd=>?_))))))
 try simp only [sQ,ne_eq] at gd
 refine wSk (Zc (Za (xM (h:=xM (h:=ZaH (h:=Zb rfl (fun ge=>by simp at ge) (fun ge=>?_)))))))
 try simp only [sQ,ne_eq] at ge
 refine wSk (Znj (α:=GX) [0,1,2,3,4,5,6,10,11,12,13,14,15,16,17,18,19,20,25,28,33,38,43,78,83,88,107,115,118] (fun xh=>[(21,ptr ⟨xh.b,0,none⟩),(22,.int .i64 (Z0 x ⟨u,y,z⟩ set o n).2)]) (fun xh=>[ZN xw.b [str (Z0 x ⟨u,y,z⟩ set o n).1.domain,.slice xw.q1 (Z0 x ⟨u,y,z⟩ set o n).1.users.length xw.c1,.slice xw.q2 (Z0 x ⟨u,y,z⟩ set o n).1.folders.length xw.c2,.int .i64 (Z0 x ⟨u,y,z⟩ set o n).1.queue.next,.slice xw.q3 (Z0 x ⟨u,y,z⟩ set o n).1.queue.items.length xw.c3] 29,l57a,l57b,l57c,ZN xg.b [str (Z0 x ⟨u,y,z⟩ set o n).1.domain,.slice xg.q1 (Z0 x ⟨u,y,z⟩ set o n).1.users.length xg.c1,.slice xg.q2 (Z0 x ⟨u,y,z⟩ set o n).1.folders.length xg.c2,.int .i64 (Z0 x ⟨u,y,z⟩ set o n).1.queue.next,.slice xg.q3 (Z0 x ⟨u,y,z⟩ set o n).1.queue.items.length xg.c3] 29,xh.l1,xh.l2,xh.l3,ZN xh.b [str (Z0 x ⟨u,y,z⟩ set o n).1.domain,.slice xh.q1 (Z0 x ⟨u,y,z⟩ set o n).1.users.length xh.c1,.slice xh.q2 (Z0 x ⟨u,y,z⟩ set o n).1.folders.length xh.c2,.int .i64 (Z0 x ⟨u,y,z⟩ set o n).1.queue.next,.slice xh.q3 (Z0 x ⟨u,y,z⟩ set o n).1.queue.items.length xh.c3] 29]) (fun xh Bx=>ZT Kn.none xh.l1 xh.q1 xh.c1 141 3 Zn (Z0 x ⟨u,y,z⟩ set o n).1.users∧ZaF xh.l2 xh.q2 xh.c2 96 5 (ZU 259 99) (Z0 x ⟨u,y,z⟩ set o n).1.folders∧ZaF xh.l3 xh.q3 xh.c3 145 4 (ZaQ 9) (Z0 x ⟨u,y,z⟩ set o n).1.queue.items) ?_ (fun xh B59 hle59 hF=>?_))
 refine Z2 (keeps _ [0,1] _) mo kr ⟨Kn.le.refl _,Za6.refl _ _⟩ (fun _ _=>?_)
 refine aT 0 rfl (ZO fun D B L hI=>ZW [_,_,_,_,_] rfl rfl Zxd rfl (Zbw 0 (hI.2.1.trans rfl) rfl rfl) r4) (h:=aT 2 rfl (ZO fun D B L hI=>ZW [_,_,_] rfl rfl Zx6 rfl (Zbw 1 (hI.2.2.1.trans rfl) rfl rfl) r4) (h:=aM 4 rfl (h:=aM 6 rfl (h:=aM 7 rfl (h:=ZaD [1,12] kr kr kr ⟨?_,?_⟩)))))
 refine (Zad rfl rfl Zwo rfl (Zfi _ _ _ _ _ _ x _ hu hf hi om2) ?_)
 rintro _ B60 _ hle60 ⟨q60,c60,l60,q60b,c60b,l60b,q60c,c60c,l60c,rfl,rfl,rfl,hv60,hv60b,hv60c⟩
 refine ⟨⟨Kn.le.refl _,t2⟩,(ZaS [_,_,_,_,_,_,_,_,_,_,_,_,_,_,_,_,_,_,_] rfl ?_)⟩
 refine Zen 16 rfl hv60 Zn.any om (fun B' hle'=>⟨hle',t2⟩) (fun B61 hle61 hr61=>?_)
 replace hu:=hu.mono Zn.mono hle61
 replace hf:=hf.mono Zk.mono hle61
 replace hi:=hi.mono Zy.mono hle61
 replace hs:=hs.mono Z1.mono hle61
 replace hw1:=hw1.mono Zn.mono hle61
 replace hw2:=hw2.mono Zk.mono hle61
 replace hw3:=hw3.mono Zy.mono hle61
 replace hs57a:=hs57a.mono Zn.mono hle61
 replace hE:=hE.mono hle61
 have hr61n:=hr61.len
 refine ZfI 17 rfl hv60b ZU.known Zk.mono om (fun B' hle'=>⟨hle61.trans hle',t2⟩) (fun B62 hle62 hr62=>?_)
 replace hu:=hu.mono Zn.mono hle62
 replace hf:=hf.mono Zk.mono hle62
 replace hi:=hi.mono Zy.mono hle62
 replace hs:=hs.mono Z1.mono hle62
 replace hr61:=hr61.mono Zn.mono hle62
 replace hw1:=hw1.mono Zn.mono hle62
 replace hw2:=hw2.mono Zk.mono hle62
 replace hw3:=hw3.mono Zy.mono hle62
 replace hs57a:=hs57a.mono Zn.mono hle62
 replace hE:=hE.mono hle62
 have hr62n:=hr62.len
 refine ZfI 18 rfl hv60c ZaQ.known Zy.mono om (fun B' hle'=>⟨(hle61.trans hle62).trans hle',t2⟩) (fun B63 hle63 hr63=>?_)
 replace hu:=hu.mono Zn.mono hle63
 replace hf:=hf.mono Zk.mono hle63
 replace hi:=hi.mono Zy.mono hle63
 replace hs:=hs.mono Z1.mono hle63
 replace hr61:=hr61.mono Zn.mono hle63
 replace hr62:=hr62.mono Zk.mono hle63
 replace hw1:=hw1.mono Zn.mono hle63
 replace hw2:=hw2.mono Zk.mono hle63
 replace hw3:=hw3.mono Zy.mono hle63
 replace hs57a:=hs57a.mono Zn.mono hle63
 replace hE:=hE.mono hle63
 have hr63n:=hr63.len
 refine ZaD [3,12] kr kr kr ⟨?_,?_⟩
 refine (Z7 rfl rfl Zv5 rfl (Zb6 u y z _) (⟨⟨((hle61.trans hle62).trans hle63),t2⟩,(ZaS [_,_,_,_,_,_,_,_,_,_,_,_,_,_,_,_,_,_,_] rfl ?_)⟩))
 refine ZaD [5,12] kr kr kr ⟨?_,?_⟩
 refine (Zad rfl rfl Zr3 rfl (ZbO _ _ set om2 _ hs) ?_)
 rintro _ B65 _ hle65 ⟨q65,c65,l65,rfl,rfl,rfl,hv65⟩
 refine ⟨⟨((hle61.trans hle62).trans hle63),t2⟩,(ZaS [_,_,_,_,_,_,_,_,_,_,_,_,_,_,_,_,_,_,_,_] rfl ?_)⟩
 refine Zen 19 rfl hv65 Z1.any om (fun B' hle'=>⟨((hle61.trans hle62).trans hle63).trans hle',t2⟩) (fun B66 hle66 hr66=>?_)
 replace hu:=hu.mono Zn.mono hle66
 replace hf:=hf.mono Zk.mono hle66
 replace hi:=hi.mono Zy.mono hle66
 replace hs:=hs.mono Z1.mono hle66
 replace hr61:=hr61.mono Zn.mono hle66
 replace hr62:=hr62.mono Zk.mono hle66
 replace hr63:=hr63.mono Zy.mono hle66
 replace hw1:=hw1.mono Zn.mono hle66
 replace hw2:=hw2.mono Zk.mono hle66
 replace hw3:=hw3.mono Zy.mono hle66
 replace hs57a:=hs57a.mono Zn.mono hle66
 replace hE:=hE.mono hle66
 have hr66n:=hr66.len
 refine ZaD [8,12] kr kr kr ⟨?_,?_⟩
 refine (Zad rfl rfl Zv0 rfl (Zce hJ _ _ _ _ _ _ x u y z om2 om2 om2 _ _ set o n om2 om2 om2 a _ hE hr61 hr62 hr63 hr66) ?_)
 rintro _ B67 _ hle67 ⟨q167,c167,q267,c267,q367,c367,l167,l267,l367,rfl,rfl,hu67,hf67,hi67⟩
 replace hu:=hu.mono Zn.mono hle67
 replace hf:=hf.mono Zk.mono hle67
 replace hi:=hi.mono Zy.mono hle67
 replace hs:=hs.mono Z1.mono hle67
 replace hr61:=hr61.mono Zn.mono hle67
 replace hr62:=hr62.mono Zk.mono hle67
 replace hr63:=hr63.mono Zy.mono hle67
 replace hr66:=hr66.mono Z1.mono hle67
 replace hw1:=hw1.mono Zn.mono hle67
 replace hw2:=hw2.mono Zk.mono hle67
 replace hw3:=hw3.mono Zy.mono hle67
 replace hs57a:=hs57a.mono Zn.mono hle67
 replace hE:=hE.mono hle67
 refine ⟨⟨((((hle61.trans hle62).trans hle63).trans hle66).trans hle67),t2⟩,(ZaS [_,_,_,_,_,_,_,_,_,_,_,_,_,_,_,_,_,_,_,_,_,_,_] rfl ?_)⟩
 refine aM 9 rfl (h:=aE 10 rfl (h:=aE 11 rfl (h:=ZA 12 kr rfl kr (Zaj (l:=[_,_,_,_,_]) rfl rfl Zb3 rfl (fun b68=>?_)))))
 refine ⟨⟨((((hle61.trans hle62).trans hle63).trans hle66).trans hle67),t2⟩,(Zbs 13 kr rfl kr kr (ZL [_,_,_,_,_] 23 [_,_,_,_,_] rfl rfl ZcL rfl rfl rfl rfl rfl rfl rfl rfl ?_))⟩
 refine aA 14 rfl (h:=Zu kr kr ?_)
 exact Zdx ⟨_,_,_,_,_,_,_,none,0,_,_,_,[]⟩ [_,_,_,_,_,_,_,_,_,_,_,_,_,_,_,_,_,_,_,_,_,_,_,_] rfl [2,8,9,10,11,20,21,22,23] ⟨hu67.anyK Zn.any,hf67,hi67⟩ ⟨rfl,rfl,rfl,rfl,rfl,rfl,rfl,rfl,rfl,rfl,rfl,rfl,rfl,rfl,rfl,rfl,rfl,rfl,rfl,rfl,rfl,rfl,rfl,rfl,rfl,rfl,rfl,rfl,rfl,rfl,rfl,trivial⟩ rfl
 refine (Zaj (l:=[_,_,_,_,_]) rfl rfl Zb3 rfl (fun b69=>⟨⟨(((hle61.trans hle62).trans hle63).trans hle66),t2⟩,(ZA 8 kr rfl kr (Zad rfl rfl Zv0 rfl (Zce hJ _ _ _ _ _ _ x u y z om2 om2 om2 _ _ set o n om2 om2 om2 a _ hE hr61 hr62 hr63 hr66) ?_))⟩))
 rintro _ B70 _ hle70 ⟨q170,c170,q270,c270,q370,c370,l170,l270,l370,rfl,rfl,hu70,hf70,hi70⟩
 replace hu:=hu.mono Zn.mono hle70
 replace hf:=hf.mono Zk.mono hle70
 replace hi:=hi.mono Zy.mono hle70
 replace hs:=hs.mono Z1.mono hle70
 replace hr61:=hr61.mono Zn.mono hle70
 replace hr62:=hr62.mono Zk.mono hle70
 replace hr63:=hr63.mono Zy.mono hle70
 replace hw1:=hw1.mono Zn.mono hle70
 replace hw2:=hw2.mono Zk.mono hle70
 replace hw3:=hw3.mono Zy.mono hle70
 replace hs57a:=hs57a.mono Zn.mono hle70
 replace hE:=hE.mono hle70
 refine ⟨⟨((((hle61.trans hle62).trans hle63).trans hle66).trans hle70),t2⟩,(ZaS [_,_,_,_,_,_,_,_,_,_,_,_,_,_,_,_,_,_,_,_,_,_,_,_] rfl ?_)⟩
 refine aM 9 rfl (h:=aE 10 rfl (h:=aE 11 rfl (h:=Zbs 13 kr rfl kr kr (ZL [_,_,_,_,_] 20 [_,_,_,_,_] rfl rfl ZcL rfl rfl rfl rfl rfl rfl rfl rfl ?_))))
 refine aA 14 rfl (h:=Zu kr kr ?_)
 exact Zdx ⟨_,_,_,_,_,_,_,none,0,_,_,_,[]⟩ [_,_,_,_,_,_,_,_,_,_,_,_,_,_,_,_,_,_,_,_,_,_,_,_] rfl [2,8,9,10,11,21,22,23,20] ⟨hu70.anyK Zn.any,hf70,hi70⟩ ⟨rfl,rfl,rfl,rfl,rfl,rfl,rfl,rfl,rfl,rfl,rfl,rfl,rfl,rfl,rfl,rfl,rfl,rfl,rfl,rfl,rfl,rfl,rfl,rfl,rfl,rfl,rfl,rfl,rfl,rfl,rfl,trivial⟩ rfl
 refine (Zaj (l:=[_,_,_,_,_]) rfl rfl Zb3 rfl (fun b71=>⟨⟨((hle61.trans hle62).trans hle63),t2⟩,(ZA 5 kr rfl kr (Zad rfl rfl Zr3 rfl (ZbO _ _ set om2 _ hs) ?_))⟩))
 rintro _ B72 _ hle72 ⟨q72,c72,l72,rfl,rfl,rfl,hv72⟩
 refine ⟨⟨((hle61.trans hle62).trans hle63),t2⟩,(ZaS [_,_,_,_,_,_,_,_,_,_,_,_,_,_,_,_,_,_,_,_,_] rfl ?_)⟩
 refine Zen 20 rfl hv72 Z1.any om (fun B' hle'=>⟨((hle61.trans hle62).trans hle63).trans hle',t2⟩) (fun B73 hle73 hr73=>?_)
 replace hu:=hu.mono Zn.mono hle73
 replace hf:=hf.mono Zk.mono hle73
 replace hi:=hi.mono Zy.mono hle73
 replace hs:=hs.mono Z1.mono hle73
 replace hr61:=hr61.mono Zn.mono hle73
 replace hr62:=hr62.mono Zk.mono hle73
 replace hr63:=hr63.mono Zy.mono hle73
 replace hw1:=hw1.mono Zn.mono hle73
 replace hw2:=hw2.mono Zk.mono hle73
 replace hw3:=hw3.mono Zy.mono hle73
 replace hs57a:=hs57a.mono Zn.mono hle73
 replace hE:=hE.mono hle73
 have hr73n:=hr73.len
 refine ZA 8 kr rfl kr (Zad rfl rfl Zv0 rfl (Zce hJ _ _ _ _ _ _ x u y z om2 om2 om2 _ _ set o n om2 om2 om2 a _ hE hr61 hr62 hr63 hr73) ?_)
 rintro _ B74 _ hle74 ⟨q174,c174,q274,c274,q374,c374,l174,l274,l374,rfl,rfl,hu74,hf74,hi74⟩
 replace hu:=hu.mono Zn.mono hle74
 replace hf:=hf.mono Zk.mono hle74
 replace hi:=hi.mono Zy.mono hle74
 replace hs:=hs.mono Z1.mono hle74
 replace hr61:=hr61.mono Zn.mono hle74
 replace hr62:=hr62.mono Zk.mono hle74
 replace hr63:=hr63.mono Zy.mono hle74
 replace hw1:=hw1.mono Zn.mono hle74
 replace hw2:=hw2.mono Zk.mono hle74
 replace hw3:=hw3.mono Zy.mono hle74
 replace hs57a:=hs57a.mono Zn.mono hle74
 replace hE:=hE.mono hle74
 refine ⟨⟨((((hle61.trans hle62).trans hle63).trans hle73).trans hle74),t2⟩,(ZaS [_,_,_,_,_,_,_,_,_,_,_,_,_,_,_,_,_,_,_,_,_,_,_,_] rfl ?_)⟩
 refine aM 9 rfl (h:=aE 10 rfl (h:=aE 11 rfl (h:=Zbs 13 kr rfl kr kr (ZL [_,_,_,_,_] 19 [_,_,_,_,_] rfl rfl ZcL rfl rfl rfl rfl rfl rfl rfl rfl ?_))))
 refine aA 14 rfl (h:=Zu kr kr ?_)
 exact Zdx ⟨_,_,_,_,_,_,_,none,0,_,_,_,[]⟩ [_,_,_,_,_,_,_,_,_,_,_,_,_,_,_,_,_,_,_,_,_,_,_,_] rfl [2,8,9,10,11,21,22,23,19] ⟨hu74.anyK Zn.any,hf74,hi74⟩ ⟨rfl,rfl,rfl,rfl,rfl,rfl,rfl,rfl,rfl,rfl,rfl,rfl,rfl,rfl,rfl,rfl,rfl,rfl,rfl,rfl,rfl,rfl,rfl,rfl,rfl,rfl,rfl,rfl,rfl,rfl,rfl,trivial⟩ rfl
 refine (Zaj (l:=[_,_,_,_,_]) rfl rfl Zb3 rfl (fun b75=>⟨⟨((hle61.trans hle62).trans hle63),t2⟩,(ZA 3 kr rfl kr (Z7 rfl rfl Zv5 rfl (Zb6 u y z _) ?_))⟩))
 refine ⟨⟨((hle61.trans hle62).trans hle63),t2⟩,(ZaS [_,_,_,_,_,_,_,_,_,_,_,_,_,_,_,_,_,_,_,_] rfl ?_)⟩
 refine ZA 5 kr rfl kr (Zad rfl rfl Zr3 rfl (ZbO _ _ set om2 _ hs) ?_)
 rintro _ B77 _ hle77 ⟨q77,c77,l77,rfl,rfl,rfl,hv77⟩
 refine ⟨⟨((hle61.trans hle62).trans hle63),t2⟩,(ZaS [_,_,_,_,_,_,_,_,_,_,_,_,_,_,_,_,_,_,_,_,_] rfl ?_)⟩
 refine Zen 20 rfl hv77 Z1.any om (fun B' hle'=>⟨((hle61.trans hle62).trans hle63).trans hle',t2⟩) (fun B78 hle78 hr78=>?_)
 replace hu:=hu.mono Zn.mono hle78
 replace hf:=hf.mono Zk.mono hle78
 replace hi:=hi.mono Zy.mono hle78
 replace hs:=hs.mono Z1.mono hle78
 replace hr61:=hr61.mono Zn.mono hle78
 replace hr62:=hr62.mono Zk.mono hle78
 replace hr63:=hr63.mono Zy.mono hle78
 replace hw1:=hw1.mono Zn.mono hle78
 replace hw2:=hw2.mono Zk.mono hle78
 replace hw3:=hw3.mono Zy.mono hle78
 replace hs57a:=hs57a.mono Zn.mono hle78
 replace hE:=hE.mono hle78
 have hr78n:=hr78.len
 refine ZA 8 kr rfl kr (Zad rfl rfl Zv0 rfl (Zce hJ _ _ _ _ _ _ x u y z om2 om2 om2 _ _ set o n om2 om2 om2 a _ hE hr61 hr62 hr63 hr78) ?_)
 rintro _ B79 _ hle79 ⟨q179,c179,q279,c279,q379,c379,l179,l279,l379,rfl,rfl,hu79,hf79,hi79⟩
 replace hu:=hu.mono Zn.mono hle79
 replace hf:=hf.mono Zk.mono hle79
 replace hi:=hi.mono Zy.mono hle79
 replace hs:=hs.mono Z1.mono hle79
 replace hw1:=hw1.mono Zn.mono hle79
 replace hw2:=hw2.mono Zk.mono hle79
 replace hw3:=hw3.mono Zy.mono hle79
 replace hs57a:=hs57a.mono Zn.mono hle79
 replace hE:=hE.mono hle79
 refine ⟨⟨((((hle61.trans hle62).trans hle63).trans hle78).trans hle79),t2⟩,(ZaS [_,_,_,_,_,_,_,_,_,_,_,_,_,_,_,_,_,_,_,_,_,_,_,_] rfl ?_)⟩
 refine aM 9 rfl (h:=aE 10 rfl (h:=aE 11 rfl (h:=Zbs 13 kr rfl kr kr (ZL [_,_,_,_,_] 19 [_,_,_,_,_] rfl rfl ZcL rfl rfl rfl rfl rfl rfl rfl rfl ?_))))
 refine aA 14 rfl (h:=Zu kr kr ?_)
 exact Zdx ⟨_,_,_,_,_,_,_,none,0,_,_,_,[]⟩ [_,_,_,_,_,_,_,_,_,_,_,_,_,_,_,_,_,_,_,_,_,_,_,_] rfl [2,8,9,10,11,21,22,23,19] ⟨hu79.anyK Zn.any,hf79,hi79⟩ ⟨rfl,rfl,rfl,rfl,rfl,rfl,rfl,rfl,rfl,rfl,rfl,rfl,rfl,rfl,rfl,rfl,rfl,rfl,rfl,rfl,rfl,rfl,rfl,rfl,rfl,rfl,rfl,rfl,rfl,rfl,rfl,trivial⟩ rfl
 refine (Zaj (l:=[_,_,_,_,_]) rfl rfl Zb3 rfl (fun b80=>⟨⟨Kn.le.refl _,t2⟩,(ZA 1 kr rfl kr (Zad rfl rfl Zwo rfl (Zfi _ _ _ _ _ _ x _ hu hf hi om2) ?_))⟩))
 rintro _ B81 _ hle81 ⟨q81,c81,l81,q81b,c81b,l81b,q81c,c81c,l81c,rfl,rfl,rfl,hv81,hv81b,hv81c⟩
 refine ⟨⟨Kn.le.refl _,t2⟩,(ZaS [_,_,_,_,_,_,_,_,_,_,_,_,_,_,_,_,_,_,_,_] rfl ?_)⟩
 refine Zen 17 rfl hv81 Zn.any om (fun B' hle'=>⟨hle',t2⟩) (fun B82 hle82 hr82=>?_)
 replace hs:=hs.mono Z1.mono hle82
 replace hw1:=hw1.mono Zn.mono hle82
 replace hw2:=hw2.mono Zk.mono hle82
 replace hw3:=hw3.mono Zy.mono hle82
 replace hs57a:=hs57a.mono Zn.mono hle82
 replace hE:=hE.mono hle82
 have hr82n:=hr82.len
 refine ZfI 18 rfl hv81b ZU.known Zk.mono om (fun B' hle'=>⟨hle82.trans hle',t2⟩) (fun B83 hle83 hr83=>?_)
 replace hs:=hs.mono Z1.mono hle83
 replace hr82:=hr82.mono Zn.mono hle83
 replace hw1:=hw1.mono Zn.mono hle83
 replace hw2:=hw2.mono Zk.mono hle83
 replace hw3:=hw3.mono Zy.mono hle83
 replace hs57a:=hs57a.mono Zn.mono hle83
 replace hE:=hE.mono hle83
 have hr83n:=hr83.len
 refine ZfI 19 rfl hv81c ZaQ.known Zy.mono om (fun B' hle'=>⟨(hle82.trans hle83).trans hle',t2⟩) (fun B84 hle84 hr84=>?_)
 replace hs:=hs.mono Z1.mono hle84
 replace hr82:=hr82.mono Zn.mono hle84
 replace hr83:=hr83.mono Zk.mono hle84
 replace hw1:=hw1.mono Zn.mono hle84
 replace hw2:=hw2.mono Zk.mono hle84
 replace hw3:=hw3.mono Zy.mono hle84
 replace hs57a:=hs57a.mono Zn.mono hle84
 replace hE:=hE.mono hle84
 have hr84n:=hr84.len
 refine ZA 3 kr rfl kr (Z7 rfl rfl Zv5 rfl (Zb6 u y z _) ?_)
 refine ⟨⟨((hle82.trans hle83).trans hle84),t2⟩,(ZaS [_,_,_,_,_,_,_,_,_,_,_,_,_,_,_,_,_,_,_,_] rfl ?_)⟩
 refine ZA 5 kr rfl kr (Zad rfl rfl Zr3 rfl (ZbO _ _ set om2 _ hs) ?_)
 rintro _ B86 _ hle86 ⟨q86,c86,l86,rfl,rfl,rfl,hv86⟩
 refine ⟨⟨((hle82.trans hle83).trans hle84),t2⟩,(ZaS [_,_,_,_,_,_,_,_,_,_,_,_,_,_,_,_,_,_,_,_,_] rfl ?_)⟩
 refine Zen 20 rfl hv86 Z1.any om (fun B' hle'=>⟨((hle82.trans hle83).trans hle84).trans hle',t2⟩) (fun B87 hle87 hr87=>?_)
 replace hr82:=hr82.mono Zn.mono hle87
 replace hr83:=hr83.mono Zk.mono hle87
 replace hr84:=hr84.mono Zy.mono hle87
 replace hw1:=hw1.mono Zn.mono hle87
 replace hw2:=hw2.mono Zk.mono hle87
 replace hw3:=hw3.mono Zy.mono hle87
 replace hs57a:=hs57a.mono Zn.mono hle87
 replace hE:=hE.mono hle87
 have hr87n:=hr87.len
 refine ZA 8 kr rfl kr (Zad rfl rfl Zv0 rfl (Zce hJ _ _ _ _ _ _ x u y z om2 om2 om2 _ _ set o n om2 om2 om2 a _ hE hr82 hr83 hr84 hr87) ?_)
 rintro _ B88 _ hle88 ⟨q188,c188,q288,c288,q388,c388,l188,l288,l388,rfl,rfl,hu88,hf88,hi88⟩
 replace hw1:=hw1.mono Zn.mono hle88
 replace hw2:=hw2.mono Zk.mono hle88
 replace hw3:=hw3.mono Zy.mono hle88
 replace hs57a:=hs57a.mono Zn.mono hle88
 refine ⟨⟨((((hle82.trans hle83).trans hle84).trans hle87).trans hle88),t2⟩,(ZaS [_,_,_,_,_,_,_,_,_,_,_,_,_,_,_,_,_,_,_,_,_,_,_,_] rfl ?_)⟩
 refine aM 9 rfl (h:=aE 10 rfl (h:=aE 11 rfl (h:=Zbs 13 kr rfl kr kr (ZL [_,_,_,_,_] 16 [_,_,_,_,_] rfl rfl ZcL rfl rfl rfl rfl rfl rfl rfl rfl ?_))))
 refine aA 14 rfl (h:=Zu kr kr ?_)
 exact Zdx ⟨_,_,_,_,_,_,_,none,0,_,_,_,[]⟩ [_,_,_,_,_,_,_,_,_,_,_,_,_,_,_,_,_,_,_,_,_,_,_,_] rfl [2,8,9,10,11,21,22,23,16] ⟨hu88.anyK Zn.any,hf88,hi88⟩ ⟨rfl,rfl,rfl,rfl,rfl,rfl,rfl,rfl,rfl,rfl,rfl,rfl,rfl,rfl,rfl,rfl,rfl,rfl,rfl,rfl,rfl,rfl,rfl,rfl,rfl,rfl,rfl,rfl,rfl,rfl,rfl,trivial⟩ rfl
 obtain ⟨hh1,hh2,hh3⟩:=hF
 replace hw1:=hw1.mono Zn.mono hle59
 replace hw2:=hw2.mono Zk.mono hle59
 replace hw3:=hw3.mono Zy.mono hle59
 refine ZD [(0,_),(1,_),(2,_),(3,_),(4,_),(5,_),(6,_),(10,_),(11,_),(12,_),(13,_),(14,_),(15,_),(16,_),(17,_),(18,_),(19,_),(20,_),(21,_),(22,_),(25,_),(28,_),(33,_),(38,_),(43,_),(78,_),(83,_),(88,_),(107,_),(115,_),(118,_)] [_,_,_,_,_,_,_,_,_] ⟨rfl,rfl,rfl,rfl,rfl,rfl,rfl,rfl,rfl,rfl,rfl,rfl,rfl,rfl,rfl,rfl,rfl,rfl,rfl,rfl,rfl,rfl,rfl,rfl,rfl,rfl,rfl,rfl,rfl,rfl,rfl,trivial⟩ rfl (Zc (Za (xL [_,_,_,_,_] Zcd 8 (h:=xL [_,_,_,_,_] Zcd 0 (h:=Zl (ZfA [5,6,7] rfl rfl rfl rfl rfl Zyb rfl (Zac.borrowL fun hm89=>Zhz _ _ _ _ _ _ _ _ _ _ _ _ ((Z0 x ⟨u,y,z⟩ set o n).1) ((Z0 x ⟨u,y,z⟩ set o n).1) _ (hh1.lendK Zn.any 0 rfl hm89 om) (hh2.lendK ZU.known Zk.mono 1 rfl hm89 om) (hh3.lendK ZaQ.known Zy.mono 2 rfl hm89 om) (hw1.mono Zn.mono (Kn.le_add _ _)) (hw2.mono Zk.mono (Kn.le_add _ _)) (hw3.mono Zy.mono (Kn.le_add _ _))) ?_))))))
 refine xN (h:=xM (h:=Zx (d:=135) rfl (fun gf=>by simp at gf) (fun gf=>?_)))
 try simp only [sQ,ne_eq] at gf
 refine xM (h:=xM (h:=ZaH (h:=xF (h:=Zb rfl (fun gg=>by simp at gg) (fun gg=>?_)))))
 try simp only [sQ,ne_eq] at gg
 refine wSk (Za (xA (h:=Za (xL [_,_,_,_,_] Zcd 4 (h:=xM (h:=Zl (ZfA [1,2,3] rfl rfl rfl rfl rfl ZBe rfl (Zac.borrowL fun hm90=>Zi7 _ _ _ _ _ _ (Z0 x ⟨u,y,z⟩ set o n).1 1 oa _ (hs57a.lendK Zn.any 0 rfl hm90 (by simp only [Zaz,ZaJ,Zby,Zbo,ZeA];omega)) (hs57b.lendK ZU.known Zk.mono 1 rfl hm90 (by simp only [Zaz,ZaJ,Zby,Zbo,ZeA];omega)) (hs57c.lendK ZaQ.known Zy.mono 2 rfl hm90 (by simp only [Zaz,ZaJ,Zby,Zbo,ZeA];omega))) ?_)))))))
 refine xA (h:=Zc (Za (xM (h:=ZF (h:=Zb rfl (fun gh=>by first | omega | (simp at gh;done) | (simp at gh;omega)) (fun gh=>?_))))))
 try simp only [sQ,ne_eq] at gh
 refine wSk (Zc (Za (xM (h:=xM (h:=ZaH (h:=Zb rfl (fun gi=>by simp at gi) (fun gi=>?_)))))))
 try simp only [sQ,ne_eq] at gi
 refine wSk (Za (xA (h:=Zd ?_)))
 exact eR t1 rfl

end Go.Proofs.YtkppijmhadbpdaaGreatDoor
