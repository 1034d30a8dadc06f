/-
  WHAT THE FUNCTIONS THAT THE LAWS REACH COMPUTE: each function's contract, proved off its printed body (the text is written by program). No condition beyond those that each theorem states.
-/
import Derived.Test.YtpdpnilbhlojbaaC0
namespace Go.Proofs.Ytpdpnilbhlojbaa
open Go Go.BL
set_option linter.unusedVariables false
set_option linter.unusedSimpArgs false
set_option maxRecDepth 4000
variable {J : JoinT}
set_option maxHeartbeats 400000 in
theorem Zg4 (q:Option Addr) (cp:Nat) (x:DLetter) (h1:x.fr.length≤140737488355328) (h2:x.text.length≤140737488355328) (left:Int) (hl0:0≤left) (hl1:left≤1048576) (B:Kn) (hx:SlB B q cp 1 ZdM x.to_):Z8 (pj J) 13 [.agg #[str x.fr,.slice q x.to_.length cp,str x.text],.int .i64 left] B (.int .i64 (szI left (ZaM x))):=by
 refine Zg 26 Try.func13 rfl rfl rfl (Nat.le_of_ble_eq_true rfl) ?_
 have hxn:=hx.len
 refine Za (xBx [_,_,_] (h:=fun b1=>xA (h:=ZF [_] rfl (Za (xM (h:=xW Zj3 (h:=x1 lk9 0 (h:=xVs Try.underlying9 (h:=xU (h:=xA (h:=Zi (Za ?_))))))))))))
 refine xM (h:=ZO (h:=Zc rfl (fun g1=>?_) (fun g1=>?_)))
 try simp only [sQ,ne_eq] at g1
 refine Za (xA (h:=Zm (ZK ?_)))
 exact Z4 .ret (.inl rfl) [_] t1 ⟨Za0 (by rw [ZbT (by unfold ZaM;omega)]),rfl,rfl⟩
 try simp only [sQ,ne_eq] at g1
 refine Ze (Zd (Za (xW Zj2 (h:=x1 Zc9 0 (h:=xM (h:=?_))))))
 have hq2:=Zgx (J:=J) _ _ x.to_ (left - ↑x.fr.length) om om _ hx
 refine xR Zms rfl hq2 (h:=xA (h:=Zi (Za (xM (h:=ZO (h:=Zc rfl (fun g2=>?_) (fun g2=>?_)))))))
 try simp only [sQ,ne_eq] at g2
 have g2x:=(ZeW oz).1 g2
 refine Za (xA (h:=Zm (ZK ?_)))
 exact Z4 .ret (.inl rfl) [_] t1 ⟨Za0 (by rw [ZbT (by unfold ZaM ZaV;omega)]),rfl,rfl⟩
 try simp only [sQ,ne_eq] at g2
 have g2x:=ZcH oz g2
 refine Ze (Zd (Za (xM (h:=xW Zj1 (h:=x1 lk9 0 (h:=xVs Try.underlying9 (h:=xU (h:=xA (h:=Zi (Za (xM (h:=ZO (h:=?_)))))))))))))
 refine Zc rfl (fun g3=>?_) (fun g3=>?_)
 try simp only [sQ,ne_eq] at g3
 refine Za (xA (h:=Zm (ZK ?_)))
 exact Z4 .ret (.inl rfl) [_] t1 ⟨Za0 (by (try dsimp only at *);rw [ZbT (by unfold ZaM ZaV;omega)]),rfl,rfl⟩
 try simp only [sQ,ne_eq] at g3
 refine Ze (Zd (Za (xM (h:=xA (h:=Zm ?_)))))
 exact Z4 .ret (.inl rfl) [_] t1 ⟨Za0 (by (try dsimp only at *);rw [ZhN (left:=left) (s:=ZaM x) (by unfold ZaM ZaV;omega)];unfold ZaM ZaV;omega),rfl,rfl⟩

set_option maxHeartbeats 400000 in
theorem ZI (q:Option Addr) (cp:Nat) (x:DLetter) (B:Kn) (hx:SlK B q cp 1 Zt x.to_) (hl:ZaV x.to_≤1048576):Zx (pj J) 15 [.agg #[str x.fr,.slice q x.to_.length cp,str x.text]] B [] (fun v B' Ls=>∃q0 c0 l0,v = .agg #[str x.fr,.slice q0 x.to_.length c0,str x.text]∧B'=B∧Ls=[l0]∧Zaa Kn.none l0 q0 c0 9 1 Zt x.to_):=by
 refine Zg 15 Try.func15 rfl rfl rfl (Nat.le_of_ble_eq_true rfl) ?_
 refine Za (xBx [_,_,_] (h:=fun b1=>xAl [_,_,_] ZjH (h:=fun b2=>ZF [_,_] rfl (Za (xAl [_,_,_] ZjH (h:=fun b3=>ZF [_,_,_] rfl (Za (xW Zj3 (h:=x1 lk9 0 (h:=xW Zei (h:=xS [_] 2 [_,_,_] sz9 (h:=ZF [_,_,_] rfl ?_))))))))))))
 refine Za (xW Zj2 (h:=x1 Zc9 0 (h:=Zh (Zs rfl rfl Zmq rfl (Zgu _ _ x.to_ om2 _ hx) ?_))))
 rintro _ B4 _ hle4 ⟨q4,c4,l4,rfl,rfl,rfl,hv4⟩
 refine xW Zdf (h:=xS [_] 2 [_,_,_] Zkp (h:=ZF [_,_,_,_] rfl (Za (xW Zj1 (h:=x1 lk9 0 (h:=xW Zeh (h:=xS [_] 2 [_,_,_] sz9 (h:=ZF [_,_,_,_] rfl (Za (xL [_,_,_] ZfU 2 (h:=xS [_,_,_] 1 [_,_,_] Zk9 (h:=ZF [_,_,_,_] rfl ?_))))))))))))
 refine Zm ?_
 exact ZbQ .ret (.inl rfl) [_] [3] rfl ⟨⟨_,rfl,.inr ⟨[_,_,_],ZfU,Za4 1 rfl rfl rfl,rfl⟩⟩,trivial⟩ ⟨_,_,_,rfl,rfl,rfl,hv4⟩

set_option maxHeartbeats 400000 in
theorem Zcp (q1:Option Addr) (cp1:Nat) (q2:Option Addr) (cp2:Nat) (a b:DLetter) (B:Kn) (h1:SlK B q1 cp1 1 Zt a.to_) (h2:SlK B q2 cp2 1 Zt b.to_):Z8 (pj J) 17 [.agg #[str a.fr,.slice q1 a.to_.length cp1,str a.text],.agg #[str b.fr,.slice q2 b.to_.length cp2,str b.text]] B (.bool (decide (a=b))):=by
 refine Zg 21 Try.func17 rfl rfl rfl (Nat.le_of_ble_eq_true rfl) ?_
 refine Za (xBx [_,_,_] (h:=fun b1=>xBx [_,_,_] (h:=fun b2=>xA (h:=ZF [_,_] rfl (Zi (Za (xW Zei (h:=x1 lk9 0 (h:=xW Zei (h:=x1 lk9 1 (h:=Zdt (h:=Zc rfl (fun g1=>?_) (fun g1=>?_)))))))))))))
 try simp only [sQ,ne_eq] at g1
 refine Za (xA (h:=Zm (ZK ?_)))
 exact Z4 .ret (.inl rfl) [_] t1 ⟨Zr (by symm;rw [decide_eq_false_iff_not];rintro rfl;exact g1 rfl),rfl,rfl⟩
 try simp only [sQ,ne_eq] at g1
 refine Ze (Zd (Zi (Za (xW Zdf (h:=x1 Zc9 0 (h:=xW Zdf (h:=x1 Zc9 1 (h:=xR Zmn rfl (Zel _ _ _ _ _ _ _ h1 h2) (h:=xN (h:=Zc rfl (fun g2=>?_) (fun g2=>?_)))))))))))
 try simp only [sQ,ne_eq] at g2
 refine Za (xA (h:=Zm (ZK ?_)))
 exact Z4 .ret (.inl rfl) [_] t1 ⟨Zr (by symm;rw [decide_eq_false_iff_not];rintro rfl;exact g2 rfl),rfl,rfl⟩
 try simp only [sQ,ne_eq] at g2
 refine Ze (Zd (Zi (Za (xW Zeh (h:=x1 lk9 0 (h:=xW Zeh (h:=x1 lk9 1 (h:=Zdt (h:=Zc rfl (fun g3=>?_) (fun g3=>?_))))))))))
 try simp only [sQ,ne_eq] at g3
 refine Za (xA (h:=Zm (ZK ?_)))
 exact Z4 .ret (.inl rfl) [_] t1 ⟨Zr (by symm;rw [decide_eq_false_iff_not];rintro rfl;exact g3 rfl),rfl,rfl⟩
 try simp only [sQ,ne_eq] at g3
 refine Ze (Zd (Za (xA (h:=Zm ?_))))
 exact Z4 .ret (.inl rfl) [_] t1 ⟨Zr (by symm;rw [decide_eq_true_eq];cases a;cases b;simp_all),rfl,rfl⟩

set_option maxHeartbeats 400000 in
theorem ZbB (q1:Option Addr) (c1:Nat) (x:DLetter) (l1:Cells) (k:Nat) (hk:k≤850000000000000) (hn:x.to_.length≤2000000) (B:Kn) (hv:Zaa Kn.none l1 q1 c1 9 1 Zt x.to_):Zx (pj J) 18 [.agg #[str x.fr,.slice q1 x.to_.length c1,str x.text],.int .i64 k] B [l1] (fun v B' Ls=>B'=B∧∃l',Ls=[l']∧v = .int .i64 ((k+1*x.to_.length:Nat):Int)∧Zaa Kn.none l' q1 c1 9 1 Zt (Zbk k x.to_.length)):=by
 refine Zg 10 Try.func18 rfl rfl rfl (Nat.le_of_ble_eq_true rfl) ?_
 refine Za (xBx [_,_,_] (h:=fun b1=>xA (h:=ZF [_,_] rfl (Za (xW Zdf (h:=x1 Zc9 1 (h:=xM (h:=Zh (ZX [0] rfl rfl rfl rfl Zmm rfl (Zc8 _ _ x.to_ _ k oz oz _ (hv.anyK Zt.any)) ?_)))))))))
 rintro _ B2 _ hle2 ⟨rfl,l2,rfl,rfl,hs2⟩
 refine xA (h:=ZF [_,_] rfl (Za (xM (h:=xA (h:=Zm ?_)))))
 exact ZbQ .ret (.inl rfl) [_] [0] rfl t1 ⟨rfl,_,rfl,rfl,hs2.anyK Zt.any⟩

set_option maxHeartbeats 400000 in
theorem Zhg (q:Option Addr) (cp:Nat) (xs:List Str) (k m n:Nat) (hmn:m=n) (he:xs=Zbk k n) (hk:k+1*n≤900000000000000) (B:Kn) (hx0:SlK B q cp 1 Zt xs):Z8 (pj J) 69 [.slice q m cp,.int .i64 k] B (.int .i64 ((k+1*n:Nat):Int)):=by
 refine Zg 22 Try.func69 rfl rfl rfl (Nat.le_of_ble_eq_true rfl) ?_
 have hxn:=hx0.len
 have hxl:xs.length=n:=by rw [he];exact ZB _ _
 refine Za (xA (h:=Zi (Za (xA (h:=Zu (Z1 (α:=Nat) [0] (fun g=>[(1,.int .i64 ((k+1*g:Nat):Int)),(5,.int .i64 g)]) [] (fun g=>[]) (fun g Bx=>Bx=B∧g≤n) (fun g=>n - g) 0 t2 rfl (⟨rfl,Nat.zero_le _⟩) (fun g B1 hle1 hI=>?_)))))))
 obtain ⟨rfl,hi⟩:=hI
 refine Zak [(0,_),(1,_),(5,_)] [] t3 rfl (Zi (Za (xM (h:=xM (h:=xV Try.underlying35 (h:=ZO (h:=Zc rfl (fun g1=>?_) (fun g1=>?_))))))))
 try simp only [sQ,ne_eq] at g1
 have hx:xs[g]? = some (ZaJ (k+1*g):Str):=by rw [he];exact Zhc oz
 refine Ze (Zd (Zi (Zu (Zi (Zi (Z9 (same _ _) mo kr ⟨rfl,rfl⟩ (fun _ _=>?_)))))))
 refine aM 0 rfl (h:=aM 1 rfl (h:=?_))
 obtain ⟨bb2,oo2,rfl⟩:=hx0.base hx
 obtain ⟨_,⟨rfl,hb3⟩,hc3⟩:=hx0.elem hx
 refine aIx 2 rfl Try.underlying35 sz9 (h:=aT 3 rfl (Zc2 fun D=>ZG rfl rfl lk9 rfl (hc3 _ 0 _ rfl) r4) (h:=aM 4 rfl (h:=aT 5 rfl (Zc2 fun D=>Zdu rfl rfl ZkR rfl (Zbo (k+1*g) oz _) r4) (h:=?_))))
 refine ZgW 6 rfl (h:=Zv kr kr ?_)
 refine Zd (Zc rfl (fun h1=>by simp at h1) (fun h1=>?_))
 try simp only [sQ,ne_eq] at h1
 refine Ze (Zd (Zn (xM (h:=xD (h:=xA (h:=Zaz (Zd (Zn (xM (h:=xD (h:=xA (h:=?_))))))))))))
 exact Z6 (g+1) [] so2 ⟨rfl,oz⟩ t3 rfl
 try simp only [sQ,ne_eq] at g1
 refine Z5 (ZaI (Zac (ZR (Zd (Za (xM (h:=xA (h:=Zm ?_))))))))
 exact Z4 .ret (.inl rfl) [_] t1 ⟨Za0 (by rw [show g=n from by omega]),rfl,rfl⟩

set_option maxHeartbeats 400000 in
theorem Zga (q:Option Addr) (cp:Nat) (xs:List DItem) (l:Cells) (k:Nat) (hk:kL ZaC k xs≤800000000000000) (hn:xs.length≤2000000) (B:Kn) (hv:Zbp l q cp 67 4 (Zz 9) xs):Zx (pj J) 39 [.slice q xs.length cp,.int .i64 k] B [l] (fun v B' Ls=>B'=B∧∃l',Ls=[l']∧v = .int .i64 ((kL ZaC k xs:Nat):Int)∧Zbp l' q cp 67 4 (Zz 9) (mkL ZaC mkI k xs)):=by
 refine Zg 43 Try.func39 rfl rfl rfl (Nat.le_of_ble_eq_true rfl) ?_
 have hvc:=hv.cap
 refine Za ?_
 refine xA (h:=?_)
 refine Zi ?_
 refine Za ?_
 refine xA (h:=?_)
 refine Zu ?_
 refine Z1 (α:=Nat × Nat × Cells × List DItem) [4] (fun g=>[(0,.slice q xs.length cp),(1,.int .i64 ((g.2.1:Nat):Int)),(5,.int .i64 g.1)]) [0] (fun g=>[g.2.2.1]) (fun g Bx=>Bx=B∧g.1≤xs.length∧g.2.1=kL ZaC k (xs.take g.1)∧g.2.2.2.length=xs.length∧g.2.2.2.take g.1=mkL ZaC mkI k (xs.take g.1)∧g.2.2.2.drop g.1=xs.drop g.1∧Zbp g.2.2.1 q cp 67 4 (Zz 9) g.2.2.2) (fun g=>xs.length - g.1) (0,k,l,xs) t3 rfl (⟨rfl,Nat.zero_le _,ZjY.symm,rfl,rfl,rfl,hv⟩) (fun g B1 hle1 hI=>?_)
 obtain ⟨rfl,hi,hs,hle,ht,hd,hw⟩:=hI
 refine Zak [(0,_),(1,_),(4,_),(5,_)] [_] t4 rfl ?_
 refine Zi ?_
 refine Za ?_
 refine xM (h:=?_)
 refine xM (h:=?_)
 refine xV Try.underlying26 (h:=?_)
 refine ZO (h:=?_)
 refine Zc rfl (fun g1=>?_) (fun g1=>?_)
 try simp only [sQ,ne_eq] at g1
 obtain ⟨x,hx⟩:=Za2 (xs:=xs) (i:=g.1) oz
 have hy:=(Zjs hd).trans hx
 have hkl:=Nat.le_trans (Zlm (st:=ZaC) (k:=k) hx) hk
 rw [← hs] at hkl
 have hst:ZaC x=3+x.left.length:=rfl
 refine Ze ?_
 refine Zd ?_
 refine Zi ?_
 refine Zu ?_
 refine Za ?_
 refine xM (h:=?_)
 refine xM (h:=?_)
 refine xM (h:=?_)
 obtain ⟨bb2,_,li2,lr2,hp2,⟨qg2,cg2,rfl,hg2,ho2,hn2,hx2⟩,hw2,hq2,hc2,hk2⟩:=hw.cell (B:=B1) (L:=[g.2.2.1]) hy 0 rfl
 refine xIp hp2 Try.underlying26 ZbU (h:=?_)
 refine xW Zcd (h:=?_)
 refine Zh (Zhy (k:=g.1) (us:=[_]) ((⟨((g.2.1:Nat):Int),x.fr,x.text,x.left⟩:DItem)) 0 0 rfl hw hp2 hy rfl rfl sz3 rfl rfl rfl rfl (Nat.le_of_ble_eq_true rfl) (by rintro _ _ ⟨_,_,rfl,h1,h2,h3,h4⟩;exact ⟨_,_,rfl,h1,h2,h3,h4⟩) (fun l3 hv3=>?_))
 have hs3:=ZeY (z:=((⟨((g.2.1:Nat):Int),x.fr,x.text,x.left⟩:DItem))) hy
 refine ZF [_] rfl ?_
 refine Za ?_
 refine xM (h:=?_)
 refine xD (h:=?_)
 refine xA (h:=?_)
 refine Za ?_
 refine xM (h:=?_)
 refine xM (h:=?_)
 refine xM (h:=?_)
 refine xR ZkR rfl (Zbo ((g.2.1)+1) oz _) (h:=?_)
 obtain ⟨bb5,_,li5,lr5,hp5,⟨qg5,cg5,rfl,hg5,ho5,hn5,hx5⟩,hw5,hq5,hc5,hk5⟩:=hv3.cell (B:=B1) (L:=[l3]) hs3 0 rfl
 refine xIp hp5 Try.underlying26 ZbU (h:=?_)
 refine xW Zeg (h:=?_)
 refine Zh (Zhy (k:=g.1) (us:=[_]) ((⟨((g.2.1:Nat):Int),ZaJ (g.2.1+1),x.text,x.left⟩:DItem)) 1 0 rfl hv3 hp5 hs3 rfl rfl sz9 rfl rfl rfl rfl (Nat.le_of_ble_eq_true rfl) (by rintro _ _ ⟨_,_,rfl,h1,h2,h3,h4⟩;exact ⟨_,_,rfl,h1,show (ZaJ (g.2.1+1)).length≤2000000 from Nat.le_trans (Zd8 (k:=g.2.1+1) oz) (by decide),h3,h4⟩) (fun l6 hv6=>?_))
 rw [List.set_set] at hv6
 have hs6:=ZeY (z:=((⟨((g.2.1:Nat):Int),ZaJ (g.2.1+1),x.text,x.left⟩:DItem))) hy
 refine ZF [_] rfl ?_
 refine Za ?_
 refine xM (h:=?_)
 refine xD (h:=?_)
 refine xA (h:=?_)
 refine Za ?_
 refine xM (h:=?_)
 refine xM (h:=?_)
 refine xM (h:=?_)
 refine xR ZkR rfl (Zbo (((g.2.1)+1)+1) oz _) (h:=?_)
 obtain ⟨bb8,_,li8,lr8,hp8,⟨qg8,cg8,rfl,hg8,ho8,hn8,hx8⟩,hw8,hq8,hc8,hk8⟩:=hv6.cell (B:=B1) (L:=[l6]) hs6 0 rfl
 refine xIp hp8 Try.underlying26 ZbU (h:=?_)
 refine xW Zde (h:=?_)
 refine Zh (Zhy (k:=g.1) (us:=[_]) ((⟨((g.2.1:Nat):Int),ZaJ (g.2.1+1),ZaJ (g.2.1+1+1),x.left⟩:DItem)) 2 0 rfl hv6 hp8 hs6 rfl rfl sz9 rfl rfl rfl rfl (Nat.le_of_ble_eq_true rfl) (by rintro _ _ ⟨_,_,rfl,h1,h2,h3,h4⟩;exact ⟨_,_,rfl,h1,h2,show (ZaJ (g.2.1+1+1)).length≤2000000 from Nat.le_trans (Zd8 (k:=g.2.1+1+1) oz) (by decide),h4⟩) (fun l9 hv9=>?_))
 rw [List.set_set] at hv9
 have hs9:=ZeY (z:=((⟨((g.2.1:Nat):Int),ZaJ (g.2.1+1),ZaJ (g.2.1+1+1),x.left⟩:DItem))) hy
 refine ZF [_] rfl ?_
 obtain ⟨bb10,_,li10,lr10,hp10,⟨qg10,cg10,rfl,hg10,ho10,hn10,hx10⟩,hw10,hq10,hc10,hk10⟩:=hv9.cell (B:=B1) (L:=[_]) hs9 0 rfl
 replace hc10:=fun m u h=>(hc10 m u h).perm (ZeA 0 rfl (Zlf hq10))
 refine Zhz 0 rfl (Zlf hq10) ?_
 refine Za ?_
 refine xM (h:=?_)
 refine xD (h:=?_)
 refine xA (h:=?_)
 refine ZF [_,_] rfl ?_
 refine Zn ?_
 refine xM (h:=?_)
 refine xM (h:=?_)
 refine xIp hp10 Try.underlying26 ZbU (h:=?_)
 refine xW ZaH (h:=?_)
 refine Zh (ZG rfl rfl Zc9 rfl (hc10 3 _ rfl) ?_)
 refine xM (h:=?_)
 refine Zh (ZX [1] rfl rfl rfl rfl Zmm rfl (Zc8 _ _ (((⟨((g.2.1:Nat):Int),ZaJ (g.2.1+1),ZaJ (g.2.1+1+1),x.left⟩:DItem)).left) _ ((((g.2.1)+1)+1)+1) oz oz _ (hg10.anyK Zt.any)) ?_)
 rintro _ B11 _ hle11 ⟨rfl,l11,rfl,rfl,hs11⟩
 refine xA (h:=?_)
 refine Zaz (Zd ?_)
 refine Zke 0 1 rfl rfl (by decide) ?_
 have hv12:=hk10 (⟨((g.2.1:Nat):Int),ZaJ (g.2.1+1),ZaJ (g.2.1+1+1),Zbk (g.2.1+1+1+1) x.left.length⟩:DItem) _ ⟨qg10,cg10,by simp only [ZB],hs11.anyK Zt.any,ho10,hn10,by first | assumption | (rw [ZB];assumption)⟩
 rw [List.set_set] at hv12
 have hs12:=ZeY (z:=((⟨((g.2.1:Nat):Int),ZaJ (g.2.1+1),ZaJ (g.2.1+1+1),Zbk (g.2.1+1+1+1) x.left.length⟩:DItem))) hy
 refine ZlF [0] rfl ?_
 refine Zn ?_
 refine xM (h:=?_)
 refine xD (h:=?_)
 refine xA (h:=?_)
 exact Z6 (g.1+1,g.2.1+1+1+1+1*x.left.length,_,(g.2.2.2.set g.1 ((⟨((g.2.1:Nat):Int),ZaJ (g.2.1+1),ZaJ (g.2.1+1+1),Zbk (g.2.1+1+1+1) x.left.length⟩:DItem)))) [0] so2 ⟨rfl,so,by simp only [];rw [Zgc hx,← hs,hst];omega,ZiX hle,Zib ht hx hle hs,Zjr hd,hv12⟩ t4 rfl
 try simp only [sQ,ne_eq] at g1
 have he:=ZkA ht hle oz
 refine Z5 (ZaI (Zac (ZR (Zd ?_))))
 refine Za ?_
 refine xM (h:=?_)
 refine xA (h:=?_)
 refine Zm ?_
 exact ZbQ .ret (.inl rfl) [_] [0] rfl t1 ⟨rfl,_,rfl,by rw [hs,ZjZ oz];rfl,by rw [← he];exact hw⟩

set_option maxHeartbeats 400000 in
theorem Zar (q1:Option Addr) (c1:Nat) (x:DQueue) (l1:Cells) (k:Nat) (hk:kL ZaC k x.items≤800000000000000) (hn:x.items.length≤2000000) (B:Kn) (hv:Zbp l1 q1 c1 67 4 (Zz 9) x.items):Zx (pj J) 11 [.agg #[.int .i64 x.next,.slice q1 x.items.length c1],.int .i64 k] B [l1] (fun v B' Ls=>B'=B∧∃l',Ls=[l']∧v = .int .i64 ((kL ZaC k x.items:Nat):Int)∧Zbp l' q1 c1 67 4 (Zz 9) (mkL ZaC mkI k x.items)):=by
 refine Zg 10 Try.func11 rfl rfl rfl (Nat.le_of_ble_eq_true rfl) ?_
 refine Za (xBx [_,_] (h:=fun b1=>xA (h:=ZF [_,_] rfl (Za (xW Zae (h:=x1 ZdE 1 (h:=xM (h:=Zh (ZX [0] rfl rfl rfl rfl ZmV rfl (Zga _ _ x.items _ k oa oz _ hv) ?_)))))))))
 rintro _ B2 _ hle2 ⟨rfl,l2,rfl,rfl,hs2⟩
 refine xA (h:=ZF [_,_] rfl (Za (xM (h:=xA (h:=Zm ?_)))))
 exact ZbQ .ret (.inl rfl) [_] [0] rfl t1 ⟨rfl,_,rfl,rfl,hs2⟩

set_option maxHeartbeats 400000 in
theorem Zge (q:Option Addr) (cp:Nat) (xs:List DItem) (k m:Nat) (hmn:m=xs.length) (hk:kL ZaC k xs≤800000000000000) (B:Kn) (hx0:SlK B q cp 4 Zb (mkL ZaC mkI k xs)):Z8 (pj J) 40 [.slice q m cp,.int .i64 k] B (.int .i64 ((kL ZaC k xs:Nat):Int)):=by
 refine Zg 51 Try.func40 rfl rfl rfl (Nat.le_of_ble_eq_true rfl) ?_
 have hxn:=hx0.len
 have hml:=Zab (st:=ZaC) (mk:=mkI) (xs:=xs) k
 refine Za (xA (h:=Zi (Za (xA (h:=Zu (Z1 (α:=Nat × Nat) [0] (fun g=>[(1,.int .i64 g.2),(5,.int .i64 g.1)]) [] (fun g=>[]) (fun g Bx=>Bx=B∧g.1≤xs.length∧g.2=kL ZaC k (xs.take g.1)) (fun g=>xs.length - g.1) (0,k) t2 rfl (⟨rfl,Nat.zero_le _,ZjY.symm⟩) (fun g B1 hle1 hI=>?_)))))))
 obtain ⟨rfl,hi,hs⟩:=hI
 refine Zak [(0,_),(1,_),(5,_)] [] t3 rfl (Zi (Za (xM (h:=xM (h:=xV Try.underlying26 (h:=ZO (h:=Zc rfl (fun g1=>?_) (fun g1=>?_))))))))
 try simp only [sQ,ne_eq] at g1
 obtain ⟨x,hx⟩:=Za2 (xs:=xs) (i:=g.1) oz
 have hkl:=Nat.le_trans (Zlm (st:=ZaC) (k:=k) hx) hk
 rw [← hs] at hkl
 have hst:ZaC x=3+x.left.length:=rfl
 have hz:(mkL ZaC mkI k xs)[g.1]? = some (mkI g.2 x):=by rw [hs];exact Zic k hx
 refine Ze (Zd (Zi (Zu (Zi (Za (xM (h:=xM (h:=?_))))))))
 obtain ⟨bb2,oo2,rfl⟩:=hx0.base hz
 obtain ⟨_,⟨qi3,ci3,rfl,hi3,hb3,hb3b⟩,hc3⟩:=hx0.elem hz
 have hi3n:=hi3.len
 refine xIx Try.underlying26 ZbU (h:=xW Zcd (h:=y1 lk3 hc3 0 (h:=xM (h:=Zaj (h:=Zc rfl (fun h1=>by simp [mkI] at h1) (fun h1=>?_))))))
 try simp only [sQ,ne_eq] at h1
 refine Ze (Zd (Za (xM (h:=xD (h:=xA (h:=Zi (Zi (Z9 (same _ _) mo kr ⟨rfl,rfl⟩ (fun _ _=>?_)))))))))
 refine aM 0 rfl (h:=aM 1 rfl (h:=aIx 2 rfl Try.underlying26 ZbU (h:=aW 3 rfl Zeg (h:=aT 4 rfl (Zc2 fun D=>ZG rfl rfl lk9 rfl (hc3 _ 1 _ rfl) r4) (h:=aM 5 rfl (h:=aT 6 rfl (Zc2 fun D=>Zdu rfl rfl ZkR rfl (Zbo (g.2+1) oz _) r4) (h:=?_)))))))
 refine ZgW 7 rfl (h:=Zv kr kr ?_)
 refine Zd (Zc rfl (fun h2=>by simp [mkI] at h2) (fun h2=>?_))
 try simp only [sQ,ne_eq] at h2
 refine Ze (Zd (Za (xM (h:=xD (h:=xA (h:=Zi (Zi (Z9 (same _ _) mo kr ⟨rfl,rfl⟩ (fun _ _=>?_)))))))))
 refine aM 0 rfl (h:=aM 1 rfl (h:=aIx 2 rfl Try.underlying26 ZbU (h:=aW 3 rfl Zde (h:=aT 4 rfl (Zc2 fun D=>ZG rfl rfl lk9 rfl (hc3 _ 2 _ rfl) r4) (h:=aM 5 rfl (h:=aT 6 rfl (Zc2 fun D=>Zdu rfl rfl ZkR rfl (Zbo ((g.2+1)+1) oz _) r4) (h:=?_)))))))
 refine ZgW 7 rfl (h:=Zv kr kr ?_)
 refine Zd (Zc rfl (fun h3=>by simp [mkI] at h3) (fun h3=>?_))
 try simp only [sQ,ne_eq] at h3
 refine Ze (Zd (Za (xM (h:=xD (h:=xA (h:=Za (xM (h:=xM (h:=xIx Try.underlying26 ZbU (h:=xW ZaH (h:=y1 Zc9 hc3 3 (h:=xM (h:=?_)))))))))))))
 refine xR ZmM rfl (Zhg _ _ _ (((g.2+1)+1)+1) _ x.left.length (by first | rfl | exact ZB _ _) rfl oz _ hi3) (h:=?_)
 refine xA (h:=Za (xM (h:=ZO (h:=Zc rfl (fun h4=>by first | omega | (simp at h4;done) | (simp at h4;omega)) (fun h4=>?_)))))
 try simp only [sQ,ne_eq] at h4
 refine Ze (Zaz (Zd (Zn (xM (h:=xD (h:=xA (h:=?_)))))))
 exact Z6 (g.1+1,g.2+1+1+1+1*x.left.length) [] so2 ⟨rfl,so,by simp only [];rw [Zgc hx,← hs,hst];omega⟩ t3 rfl
 try simp only [sQ,ne_eq] at g1
 refine Z5 (ZaI (Zac (ZR (Zd (Za (xM (h:=xA (h:=Zm ?_))))))))
 exact Z4 .ret (.inl rfl) [_] t1 ⟨Za0 (by rw [hs,ZjZ oz]),rfl,rfl⟩

set_option maxHeartbeats 400000 in
theorem ZE (q:Option Addr) (cp:Nat) (x:DQueue) (k:Nat) (hk:kL ZaC k x.items≤800000000000000) (B:Kn) (hi:SlK B q cp 4 Zb (mkL ZaC mkI k x.items)):Z8 (pj J) 12 [.agg #[.int .i64 x.next,.slice q x.items.length cp],.int .i64 k] B (.int .i64 ((kL ZaC k x.items:Nat):Int)):=by
 refine Zg 12 Try.func12 rfl rfl rfl (Nat.le_of_ble_eq_true rfl) ?_
 refine Za (xBx [_,_] (h:=fun b1=>xA (h:=ZF [_] rfl (Za (xW Zae (h:=x1 ZdE 0 (h:=xM (h:=xR ZmU rfl (Zge _ _ x.items k _ rfl oa _ hi) (h:=?_)))))))))
 refine xA (h:=Zi (Za (xM (h:=ZO (h:=Zc rfl (fun h1=>by first | omega | (simp at h1;done) | (simp at h1;omega)) (fun h1=>?_))))))
 try simp only [sQ,ne_eq] at h1
 refine Ze (Zd (Za (xM (h:=xA (h:=Zm ?_)))))
 exact Z4 .ret (.inl rfl) [_] t1 ⟨rfl,rfl,rfl⟩

set_option maxHeartbeats 400000 in
theorem Ziv (W:World) (q:Option Addr) (cp:Nat) (x:DQueue) (id:Int) (u:Str) (hw:u.length≤140737488355328) (hx:SlB (ZaT W) q cp 4 ZcP x.items):Calls Try.prog 3 [.agg #[.int .i64 x.next,.slice q x.items.length cp],.int .i64 id,str u].toArray W fun e w'=>∃v,e = .returned v∧Kept W w'∧∃(B':Kn) (Ls':List Cells),Sat B' Ls'.flatten w'∧v = .bool true:=by
 refine ZgT (args:=[.agg #[.int .i64 x.next,.slice q x.items.length cp],.int .i64 id,str u]) 130 Try.func3 rfl rfl rfl (Nat.le_of_ble_eq_true rfl) ?_
 generalize ZaT W=B at hx ⊢
 refine Za (xBx [_,_] (h:=fun b1=>xA (h:=ZF [_] rfl (Zi (Za (xM (h:=xVs Try.underlying9 (h:=Zcr (h:=Zc rfl (fun g0=>?_) (fun g0=>?_))))))))))
 try simp only [sQ,ne_eq] at g0
 refine Za (xA (h:=Zm (ZK ?_)))
 exact Z4 .ret (.inl rfl) [_] t1 rfl
 try simp only [sQ,ne_eq] at g0
 refine Ze (Zd (Za (xA (h:=Za (xL [_,_] Ze5 0 (h:=xM (h:=xR en6 rfl (Zfs _ _ (⟨x.next,x.items⟩:DQueue) 1048576 om om _ hx) (h:=?_))))))))
 refine xA (h:=Zi (Za (xM (h:=ZO (h:=Zc rfl (fun g1=>?_) (fun g1=>?_))))))
 try simp only [sQ,ne_eq] at g1
 refine Za (xA (h:=Zm (ZK ?_)))
 exact Z4 .ret (.inl rfl) [_] t1 rfl
 try simp only [sQ,ne_eq] at g1
 have hsz:=(ZcH oz g1).2
 replace hsz:szL Zaw x.items≤1048576:=by omega
 have hkq:=@Zln 1 x.items
 replace hx:=Zd9 hx hsz
 have hxn:=hx.len
 have hka:=Zf6 (id:=id) (u:=u) hsz
 refine Ze (Zd (Za (xL [_,_] Ze5 0 (h:=Zh (Zs rfl rfl en8 rfl (ZS _ _ ⟨x.next,x.items⟩ _ hx om2) ?_)))))
 rintro _ B3 _ hle3 ⟨q3,c3,l3,rfl,rfl,rfl,hv3⟩
 refine ZjW 1 rfl hv3 Zz.known Zb.mono om (fun B4 hle4 hr4=>?_)
 replace hx:=hx.mono Zb.mono hle4
 have hr4n:=hr4.len
 refine xM (h:=xM (h:=Zh (Zs rfl rfl en7 rfl (Zg8 _ _ x id u _ hr4) ?_)))
 rintro _ B5 _ hle5 ⟨l5,a5,c5,rfl,rfl,hv5,ht5⟩
 replace hx:=hx.mono Zb.mono hle5
 replace hr4:=hr4.mono Zb.mono hle5
 replace hv5:=hv5.mono Zb.mono Kn.less_le
 refine xM (h:=xE (h:=xE (h:=xE (h:=xAl [_,_] Za6 (h:=fun b6=>xS [_,_] 3 [_,_] ZaW (h:=xA (h:=xA (h:=ZF [_,_,_,_] rfl (Za (xL [_,_] Ze5 0 (h:=Zh (Zs rfl rfl en8 rfl (ZS _ _ ⟨x.next,x.items⟩ _ hx om2) ?_))))))))))))
 rintro _ B7 _ hle7 ⟨q7,c7,l7,rfl,rfl,rfl,hv7⟩
 refine xAl [_,_] Za6 (h:=fun b8=>xS [_,_] 5 [_,_] ZaW (h:=ZF [_,_,_,_,_,_] rfl (Za (xL [_,_] ZQ 5 (h:=xM (h:=xM (h:=Zh (ZX [4] rfl rfl rfl rfl en9 rfl (Zx.borrowK 1 fun hm9=>ZeI _ _ x id u _ (hv7.lendK Zz.known Zb.mono 0 rfl hm9 om)) ?_))))))))
 rintro _ B9 _ hle9 ⟨BB9,_,rfl,hB9,_,hm9,_,l9,a9,c9,rfl,rfl,hd9,ht9⟩
 replace hx:=hx.mono Zb.mono hle9
 replace hv5:=hv5.mono Zb.mono hle9
 refine xM (h:=xE (h:=xE (h:=xE (h:=xAl [_,_] Za6 (h:=fun b10=>xS [_,_] 7 [_,_] ZaW (h:=xA (h:=xA (h:=ZF [_,_,_,_,_,_,_,_] rfl (Zi (Za (xL [_,_] ZQ 7 (h:=xL [_,_] ZQ 3 (h:=?_)))))))))))))
 refine Zh (ZJ [6,2] rfl rfl rfl rfl rfl Zcy rfl (Z8.borrowL fun hm11=>Zy _ _ _ _ ((Zan x id u).1) ((Zan x id u).1) _ (hd9.lendK Zz.known Zb.mono 0 rfl hm11 om) (hv5.lendR Zb.mono 1 rfl hm11 om)) ?_)
 refine xN (h:=xM (h:=Zq (d:=52) rfl (fun g2=>by simp at g2) (fun g2=>?_)))
 try simp only [sQ,ne_eq] at g2
 refine xM (h:=xM (h:=Zdt (h:=xF (h:=xM (h:=Zq (d:=57) rfl (fun g2b=>by simp at g2b) (fun g2b=>?_))))))
 try simp only [sQ,ne_eq] at g2b
 refine xM (h:=xM (h:=Zh (Zal rfl rfl rfl rfl rfl (Zav Try.underlying4) (xF (h:=Zc rfl (fun g3=>by simp at g3) (fun g3=>?_))))))
 try simp only [sQ,ne_eq] at g3
 refine Ze (Zd (Zi (Zi (Z9 (keeps _ [0,5] _) mo kr ⟨Kn.le.refl _,Zat.refl _ _⟩ (fun _ _=>?_)))))
 refine aT 0 rfl (Z2 fun D B L hI=>ZN [_,_] rfl rfl ZQ rfl (Za4 5 (hI.2.2.1.trans rfl) rfl rfl) r4) (h:=aT 1 rfl (Z2 fun D B L hI=>ZN [_,_] rfl rfl Ze5 rfl (Za4 0 (hI.2.1.trans rfl) rfl rfl) r4) (h:=Zp 2 kr rfl kr (Zs rfl rfl en8 rfl (ZS _ _ ⟨x.next,x.items⟩ _ hx om2) ?_)))
 rintro _ B12 _ hle12 ⟨q12,c12,l12,rfl,rfl,rfl,hv12⟩
 refine ⟨⟨Kn.le.refl _,t2⟩,(Zbv 8 rfl hv12 Zz.known Zb.mono om (fun B' hle'=>⟨hle',t2⟩) (fun B13 hle13 hr13=>?_))⟩
 replace hx:=hx.mono Zb.mono hle13
 replace hv5:=hv5.mono Zb.mono hle13
 have hr13n:=hr13.len
 refine Zp 3 kr rfl kr (ZJ [4] rfl rfl rfl rfl rfl Zcy rfl (Z8.borrowL fun hm14=>Zy _ _ _ _ x x _ (hv7.lendK Zz.known Zb.mono 0 rfl hm14 om) (hr13.mono Zb.mono (Kn.le_add _ _))) ?_)
 refine ⟨⟨hle13,t2⟩,(aN 4 rfl (h:=Zv kr kr ?_))⟩
 refine Zd (ZF [_,_,_,_,_,_,_,_,_] rfl (Zc rfl (fun g4=>by simp at g4) (fun g4=>?_)))
 try simp only [sQ,ne_eq] at g4
 refine Ze (Zd (Za (xA (h:=Za (xL [_,_] ZQ 5 (h:=xM (h:=Zh (ZX [4] rfl rfl rfl rfl ZiQ rfl (Zar _ _ x _ 1 oa oz _ hv7) ?_))))))))
 rintro _ B15 _ hle15 ⟨rfl,l15a,rfl,rfl,hs15a⟩
 refine xA (h:=ZF [_,_,_,_,_,_,_,_,_] rfl (Zi (Za (xM (h:=ZO (h:=xM (h:=Zq (d:=72) rfl (fun g5=>by first | omega | (simp at g5;done) | (simp at g5;omega)) (fun g5=>?_))))))))
 try simp only [sQ,ne_eq] at g5
 refine xL [_,_] ZQ 7 (h:=xL [_,_] ZQ 3 (h:=Zh (ZJ [6,2] rfl rfl rfl rfl rfl Zcy rfl (Z8.borrowL fun hm16=>Zy _ _ _ _ ((Zan x id u).1) ((Zan x id u).1) _ (hd9.lendK Zz.known Zb.mono 0 rfl hm16 om) (hv5.lendR Zb.mono 1 rfl hm16 om)) ?_)))
 refine xN (h:=xF (h:=xM (h:=Zq (d:=78) rfl (fun g6=>by simp at g6) (fun g6=>?_))))
 try simp only [sQ,ne_eq] at g6
 refine xM (h:=xM (h:=Zdt (h:=xF (h:=xM (h:=Zq (d:=83) rfl (fun g6b=>by simp at g6b) (fun g6b=>?_))))))
 try simp only [sQ,ne_eq] at g6b
 refine xM (h:=xM (h:=Zh (Zal rfl rfl rfl rfl rfl (Zav Try.underlying4) (xF (h:=Zc rfl (fun g7=>by simp at g7) (fun g7=>?_))))))
 try simp only [sQ,ne_eq] at g7
 refine Ze (Zd (Za (xA (h:=Za (xL [_,_] ZQ 7 (h:=xM (h:=Zh (ZX [6] rfl rfl rfl rfl ZiQ rfl (Zar _ _ ((Zan x id u).1) _ 1 oa oz _ hd9) ?_))))))))
 rintro _ B17 _ hle17 ⟨rfl,l17a,rfl,rfl,hs17a⟩
 refine xA (h:=ZF [_,_,_,_,_,_,_,_,_] rfl (Za (xA (h:=Za (xL [_,_] ZQ 7 (h:=xM (h:=Zh (ZJ [6] rfl rfl rfl rfl rfl Zes rfl (Z8.borrowL fun hm18=>ZE _ _ (Zan x id u).1 1 oa _ (hs17a.lendK Zz.known Zb.mono 0 rfl hm18 (by simp only [Zw,ZD,ZC,ZB,Zab];omega))) ?_))))))))
 refine xA (h:=Zi (Za (xM (h:=ZO (h:=Zc rfl (fun g8=>by first | omega | (simp at g8;done) | (simp at g8;omega)) (fun g8=>?_))))))
 try simp only [sQ,ne_eq] at g8
 refine Ze (Zd (Zi (Za (xM (h:=xM (h:=Zaj (h:=Zc rfl (fun g9=>by simp at g9) (fun g9=>?_))))))))
 try simp only [sQ,ne_eq] at g9
 refine Ze (Zd (Za (xL [_,_] Ze5 0 (h:=Zh (Zs rfl rfl en8 rfl (ZS _ _ ⟨x.next,x.items⟩ _ hx om2) ?_)))))
 rintro _ B19 _ hle19 ⟨q19,c19,l19,rfl,rfl,rfl,hv19⟩
 refine ZjW 9 rfl hv19 Zz.known Zb.mono om (fun B20 hle20 hr20=>?_)
 replace hx:=hx.mono Zb.mono hle20
 replace hv5:=hv5.mono Zb.mono hle20
 have hr20n:=hr20.len
 refine xM (h:=xM (h:=Zh (Zs rfl rfl en9 rfl (ZeI _ _ x id u _ hr20) ?_)))
 rintro _ B21 _ hle21 ⟨l21,a21,c21,rfl,rfl,hd21,ht21⟩
 replace hx:=hx.mono Zb.mono hle21
 replace hr20:=hr20.mono Zb.mono hle21
 replace hv5:=hv5.mono Zb.mono hle21
 refine xM (h:=xE (h:=xE (h:=xE (h:=xAl [_,_] Za6 (h:=fun b22=>xS [_,_] 11 [_,_] ZaW (h:=xA (h:=xA (h:=ZF [_,_,_,_,_,_,_,_,_,_,_,_] rfl (Zi (Za (xL [_,_] ZQ 11 (h:=xL [_,_] ZQ 3 (h:=?_)))))))))))))
 refine Zh (ZJ [10,2] rfl rfl rfl rfl rfl Zcy rfl (Z8.borrowL fun hm23=>Zy _ _ _ _ ((Zan x id u).1) ((Zan x id u).1) _ (hd21.lendK Zz.known Zb.mono 0 rfl hm23 om) (hv5.lendR Zb.mono 1 rfl hm23 om)) ?_)
 refine xN (h:=xM (h:=Zq (d:=112) rfl (fun ga=>by simp at ga) (fun ga=>?_)))
 try simp only [sQ,ne_eq] at ga
 refine xM (h:=xM (h:=Zdt (h:=xF (h:=xM (h:=Zq (d:=117) rfl (fun gab=>by simp at gab) (fun gab=>?_))))))
 try simp only [sQ,ne_eq] at gab
 refine xM (h:=xM (h:=Zh (Zal rfl rfl rfl rfl rfl (Zav Try.underlying4) (xF (h:=Zc rfl (fun gb=>by simp at gb) (fun gb=>?_))))))
 try simp only [sQ,ne_eq] at gb
 refine Ze (Zd (Za (xA (h:=Za (xL [_,_] ZQ 7 (h:=xM (h:=Zh (ZJ [6] rfl rfl rfl rfl rfl Zes rfl (Z8.borrowL fun hm24=>ZE _ _ (Zan x id u).1 1 oa _ (hs17a.lendK Zz.known Zb.mono 0 rfl hm24 (by simp only [Zw,ZD,ZC,ZB,Zab];omega))) ?_))))))))
 refine xA (h:=Zi (Za (xM (h:=ZO (h:=Zc rfl (fun gc=>by first | omega | (simp at gc;done) | (simp at gc;omega)) (fun gc=>?_))))))
 try simp only [sQ,ne_eq] at gc
 refine Ze (Zd (Zi (Za (xM (h:=xM (h:=Zaj (h:=Zc rfl (fun gd=>by simp at gd) (fun gd=>?_))))))))
 try simp only [sQ,ne_eq] at gd
 refine Ze (Zd (Za (xA (h:=Zm ?_))))
 exact Z4 .ret (.inl rfl) [_] t1 rfl

set_option maxHeartbeats 4000000 in
theorem Zjo (W:World) (q:Option Addr) (cp:Nat) (x:DQueue) (qz:Option Addr) (cz:Nat) (z:DLetter) (h1:z.fr.length≤140737488355328) (h2:z.text.length≤140737488355328) (hx:SlB (ZaT W) q cp 4 ZcP x.items) (hz:SlB (ZaT W) qz cz 1 ZdM z.to_):Calls Try.prog 4 [.agg #[.int .i64 x.next,.slice q x.items.length cp],.agg #[str z.fr,.slice qz z.to_.length cz,str z.text]].toArray W fun e w'=>∃v,e = .returned v∧Kept W w'∧∃(B':Kn) (Ls':List Cells),Sat B' Ls'.flatten w'∧v = .bool true:=by
 refine ZgT (args:=[.agg #[.int .i64 x.next,.slice q x.items.length cp],.agg #[str z.fr,.slice qz z.to_.length cz,str z.text]]) 119 Try.func4 rfl rfl rfl (Nat.le_of_ble_eq_true rfl) ?_
 generalize ZaT W=B at hx hz ⊢
 refine Za (xBx [_,_] (h:=fun b1=>xBx [_,_,_] (h:=fun b2=>xA (h:=ZF [_,_] rfl (Za (xA (h:=Za (xL [_,_] Ze5 0 (h:=xM (h:=xR en6 rfl (Zfs _ _ (⟨x.next,x.items⟩:DQueue) 1048576 om om _ hx) (h:=?_)))))))))))
 refine xA (h:=Zi (Za (xM (h:=ZO (h:=Zc rfl (fun g1=>?_) (fun g1=>?_))))))
 try simp only [sQ,ne_eq] at g1
 refine Za (xA (h:=Zm (ZK ?_)))
 exact Z4 .ret (.inl rfl) [_] t1 rfl
 try simp only [sQ,ne_eq] at g1
 have hsg:=ZcH (left:=1048576) oz g1
 refine Ze (Zd (Za (xL [_,_,_] ZgG 1 (h:=xM (h:=xR Zm1 rfl (Zg4 _ _ z om2 om2 (szI 1048576 (szL Zaw x.items)) om2 om2 _ hz) (h:=?_))))))
 refine xA (h:=Zi (Za (xM (h:=ZO (h:=Zc rfl (fun g2=>?_) (fun g2=>?_))))))
 try simp only [sQ,ne_eq] at g2
 refine Za (xA (h:=Zm (ZK ?_)))
 exact Z4 .ret (.inl rfl) [_] t1 rfl
 try simp only [sQ,ne_eq] at g2
 have hsz:=(ZcH oz g1).2
 replace hsz:szL Zaw x.items≤1048576:=by omega
 have hkq:=@Zln 1 x.items
 replace hx:=Zd9 hx hsz
 have hxn:=hx.len
 have hsu:=(ZcH oz g2).2
 replace hsu:ZaM z≤1048576:=by omega
 have hsu2:ZaV z.to_≤1048576:=by unfold ZaM at hsu;omega
 have hsu3:z.fr.length≤1048576∧z.text.length≤1048576:=by unfold ZaM at hsu;omega
 replace hz:=Zey hz hsu2
 have hzn:=hz.len
 have hka:=Zhq hsz hsu
 refine Ze (Zd (Zi (Z9 (keeps _ [0,1] _) mo kr ⟨Kn.le.refl _,Zat.refl _ _⟩ (fun _ _=>?_))))
 refine aT 0 rfl (Z2 fun D B L hI=>ZN [_,_] rfl rfl Ze5 rfl (Za4 0 (hI.2.1.trans rfl) rfl rfl) r4) (h:=aT 2 rfl (Z2 fun D B L hI=>ZN [_,_,_] rfl rfl ZgG rfl (Za4 1 (hI.2.2.1.trans rfl) rfl rfl) r4) (h:=ZaO [1,8] kr kr kr ⟨?_,?_⟩))
 refine (Zs rfl rfl en8 rfl (ZS _ _ ⟨x.next,x.items⟩ _ hx om2) ?_)
 rintro _ B5 _ hle5 ⟨q5,c5,l5,rfl,rfl,rfl,hv5⟩
 refine ⟨⟨Kn.le.refl _,t2⟩,(Zbv 2 rfl hv5 Zz.known Zb.mono om (fun B' hle'=>⟨hle',t2⟩) (fun B6 hle6 hr6=>?_))⟩
 replace hx:=hx.mono Zb.mono hle6
 replace hz:=hz.mono Zt.mono hle6
 have hr6n:=hr6.len
 refine ZaO [3,8] kr kr kr ⟨?_,?_⟩
 refine (Zs rfl rfl Zen rfl (ZI _ _ z _ hz om2) ?_)
 rintro _ B7 _ hle7 ⟨q7,c7,l7,rfl,rfl,rfl,hv7⟩
 refine ⟨⟨hle6,t2⟩,(Za3 3 rfl hv7 Zt.any om (fun B' hle'=>⟨hle6.trans hle',t2⟩) (fun B8 hle8 hr8=>?_))⟩
 replace hx:=hx.mono Zb.mono hle8
 replace hz:=hz.mono Zt.mono hle8
 replace hr6:=hr6.mono Zb.mono hle8
 have hr8n:=hr8.len
 refine ZaO [4,8] kr kr kr ⟨?_,?_⟩
 refine (Zs rfl rfl ZlC rfl (ZcY _ _ x _ _ z _ hr6 hr8 (by first | assumption | omega | (simp;omega)) (by first | assumption | omega | (simp;omega))) ?_)
 rintro _ B9 _ hle9 ⟨l9,a9,c9,rfl,rfl,hv9⟩
 replace hx:=hx.mono Zb.mono hle9
 replace hz:=hz.mono Zt.mono hle9
 replace hr6:=hr6.mono Zb.mono hle9
 replace hr8:=hr8.mono Zt.mono hle9
 replace hv9:=hv9.mono Zb.mono Kn.less_le
 refine ⟨⟨((hle6.trans hle8).trans hle9),t2⟩,(aM 5 rfl (h:=aE 6 rfl (h:=aE 7 rfl (h:=Zp 8 kr rfl kr (Zaq (l:=[_,_]) rfl rfl Za6 rfl (fun b10=>?_))))))⟩
 refine ⟨⟨((hle6.trans hle8).trans hle9),t2⟩,(Zas 9 kr rfl kr kr (ZV [_,_] 5 [_,_] rfl rfl ZaW rfl rfl rfl rfl rfl rfl rfl rfl ?_))⟩
 refine aA 10 rfl (h:=Zv kr kr ?_)
 refine Zd (ZF [_,_,_,_,_,_] rfl (Za (xL [_,_] Ze5 0 (h:=Zh (Zs rfl rfl en8 rfl (ZS _ _ ⟨x.next,x.items⟩ _ hx om2) ?_)))))
 rintro _ B11 _ hle11 ⟨q11,c11,l11,rfl,rfl,rfl,hv11⟩
 refine xAl [_,_] Za6 (h:=fun b12=>xS [_,_] 7 [_,_] ZaW (h:=ZF [_,_,_,_,_,_,_,_] rfl (Za (xL [_,_,_] ZgG 1 (h:=Zh (Zs rfl rfl Zen rfl (ZI _ _ z _ hz om2) ?_))))))
 rintro _ B13 _ hle13 ⟨q13,c13,l13,rfl,rfl,rfl,hv13⟩
 refine xAl [_,_,_] ZjH (h:=fun b14=>xS [_,_,_] 9 [_,_,_] Zk9 (h:=ZF [_,_,_,_,_,_,_,_,_,_] rfl (Za (xL [_,_] ZQ 7 (h:=xL [_,_,_] ZfU 9 (h:=Zh (ZX [6,8] rfl rfl rfl rfl ZeO rfl (Zx.borrowK 2 fun hm15=>ZY _ _ x _ _ z _ (hv11.lendK Zz.known Zb.mono 0 rfl hm15 om) (hv13.lendK Zt.any 1 rfl hm15 om) (by first | assumption | omega | (simp;omega)) (by first | assumption | omega | (simp;omega))) ?_)))))))
 rintro _ B15 _ hle15 ⟨BB15,_,rfl,hB15,_,hm15,_,l15,a15,c15,rfl,rfl,hd15⟩
 replace hx:=hx.mono Zb.mono hle15
 replace hz:=hz.mono Zt.mono hle15
 replace hv9:=hv9.mono Zb.mono hle15
 replace hv13:=hv13.mono Zt.mono hle15
 refine xM (h:=xE (h:=xE (h:=xAl [_,_] Za6 (h:=fun b16=>xS [_,_] 11 [_,_] ZaW (h:=xA (h:=ZF [_,_,_,_,_,_,_,_,_,_,_,_] rfl (Zi (Za (xL [_,_] ZQ 11 (h:=xL [_,_] ZQ 5 (h:=Zh (ZJ [10,4] rfl rfl rfl rfl rfl Zcy rfl (Z8.borrowL fun hm17=>Zy _ _ _ _ ((Zai x z).1) ((Zai x z).1) _ (hd15.lendK Zz.known Zb.mono 0 rfl hm17 om) (hv9.lendR Zb.mono 1 rfl hm17 om)) ?_))))))))))))
 refine xN (h:=xM (h:=Zq (d:=49) rfl (fun g3=>by simp at g3) (fun g3=>?_)))
 try simp only [sQ,ne_eq] at g3
 refine xM (h:=xM (h:=Zh (Zal rfl rfl rfl rfl rfl (Zav Try.underlying4) (xF (h:=Zc rfl (fun g4=>by simp at g4) (fun g4=>?_))))))
 try simp only [sQ,ne_eq] at g4
 refine Ze (Zd (Zi (Zi (Z9 (keeps _ [0,7] _) mo kr ⟨Kn.le.refl _,Zat.refl _ _⟩ (fun _ _=>?_)))))
 refine aT 0 rfl (Z2 fun D B L hI=>ZN [_,_] rfl rfl ZQ rfl (Za4 7 (hI.2.2.1.trans rfl) rfl rfl) r4) (h:=aT 1 rfl (Z2 fun D B L hI=>ZN [_,_] rfl rfl Ze5 rfl (Za4 0 (hI.2.1.trans rfl) rfl rfl) r4) (h:=Zp 2 kr rfl kr (Zs rfl rfl en8 rfl (ZS _ _ ⟨x.next,x.items⟩ _ hx om2) ?_)))
 rintro _ B18 _ hle18 ⟨q18,c18,l18,rfl,rfl,rfl,hv18⟩
 refine ⟨⟨Kn.le.refl _,t2⟩,(Zbv 12 rfl hv18 Zz.known Zb.mono om (fun B' hle'=>⟨hle',t2⟩) (fun B19 hle19 hr19=>?_))⟩
 replace hx:=hx.mono Zb.mono hle19
 replace hz:=hz.mono Zt.mono hle19
 replace hv9:=hv9.mono Zb.mono hle19
 replace hv13:=hv13.mono Zt.mono hle19
 have hr19n:=hr19.len
 refine Zp 3 kr rfl kr (ZJ [6] rfl rfl rfl rfl rfl Zcy rfl (Z8.borrowL fun hm20=>Zy _ _ _ _ x x _ (hv11.lendK Zz.known Zb.mono 0 rfl hm20 om) (hr19.mono Zb.mono (Kn.le_add _ _))) ?_)
 refine ⟨⟨hle19,t2⟩,(aN 4 rfl (h:=Zv kr kr ?_))⟩
 refine Zd (ZF [_,_,_,_,_,_,_,_,_,_,_,_,_] rfl (Zc rfl (fun g5=>by simp at g5) (fun g5=>?_)))
 try simp only [sQ,ne_eq] at g5
 refine Ze (Zd (Zi (Zi (Z9 (keeps _ [1,9] _) mo kr ⟨Kn.le.refl _,Zat.refl _ _⟩ (fun _ _=>?_)))))
 refine aT 0 rfl (Z2 fun D B L hI=>ZN [_,_,_] rfl rfl ZfU rfl (Za4 9 (hI.2.2.1.trans rfl) rfl rfl) r4) (h:=aT 1 rfl (Z2 fun D B L hI=>ZN [_,_,_] rfl rfl ZgG rfl (Za4 1 (hI.2.1.trans rfl) rfl rfl) r4) (h:=Zp 2 kr rfl kr (Zs rfl rfl Zen rfl (ZI _ _ z _ hz om2) ?_)))
 rintro _ B21 _ hle21 ⟨q21,c21,l21,rfl,rfl,rfl,hv21⟩
 refine ⟨⟨Kn.le.refl _,t2⟩,(Za3 13 rfl hv21 Zt.any om (fun B' hle'=>⟨hle',t2⟩) (fun B22 hle22 hr22=>?_))⟩
 replace hx:=hx.mono Zb.mono hle22
 replace hz:=hz.mono Zt.mono hle22
 replace hv9:=hv9.mono Zb.mono hle22
 replace hv13:=hv13.mono Zt.mono hle22
 have hr22n:=hr22.len
 refine Zp 3 kr rfl kr (ZdQ 8 rfl rfl rfl ZlB rfl (Z8.borrow fun hm23=>Zcp _ _ _ _ z z _ (hv13.lend Zt.mono hm23 om) (hr22.mono Zt.mono (Kn.le_add _ _))) ?_)
 refine ⟨⟨hle22,t2⟩,(aN 4 rfl (h:=Zv kr kr ?_))⟩
 refine Zd (ZF [_,_,_,_,_,_,_,_,_,_,_,_,_,_] rfl (Zc rfl (fun g6=>by simp at g6) (fun g6=>?_)))
 try simp only [sQ,ne_eq] at g6
 refine Ze (Zd (Za (xA (h:=Za (xL [_,_] ZQ 7 (h:=xM (h:=Zh (ZX [6] rfl rfl rfl rfl ZiQ rfl (Zar _ _ x _ 1 oa oz _ hv11) ?_))))))))
 rintro _ B24 _ hle24 ⟨rfl,l24a,rfl,rfl,hs24a⟩
 refine xA (h:=ZF [_,_,_,_,_,_,_,_,_,_,_,_,_,_] rfl (Za (xL [_,_,_] ZfU 9 (h:=xM (h:=Zh (ZX [8] rfl rfl rfl rfl ZlA rfl (ZbB _ _ z _ (kL ZaC 1 x.items) oz oz _ (hv13.anyK Zt.any)) ?_))))))
 rintro _ B25 _ hle25 ⟨rfl,l25,rfl,rfl,hs25⟩
 refine xA (h:=ZF [_,_,_,_,_,_,_,_,_,_,_,_,_,_] rfl (Zi (Za (xM (h:=ZO (h:=xM (h:=Zq (d:=72) rfl (fun g7=>by first | omega | (simp at g7;done) | (simp at g7;omega)) (fun g7=>?_))))))))
 try simp only [sQ,ne_eq] at g7
 refine xL [_,_] ZQ 11 (h:=xL [_,_] ZQ 5 (h:=Zh (ZJ [10,4] rfl rfl rfl rfl rfl Zcy rfl (Z8.borrowL fun hm26=>Zy _ _ _ _ ((Zai x z).1) ((Zai x z).1) _ (hd15.lendK Zz.known Zb.mono 0 rfl hm26 om) (hv9.lendR Zb.mono 1 rfl hm26 om)) ?_)))
 refine xN (h:=xF (h:=xM (h:=Zq (d:=78) rfl (fun g8=>by simp at g8) (fun g8=>?_))))
 try simp only [sQ,ne_eq] at g8
 refine xM (h:=xM (h:=Zh (Zal rfl rfl rfl rfl rfl (Zav Try.underlying4) (xF (h:=Zc rfl (fun g9=>by simp at g9) (fun g9=>?_))))))
 try simp only [sQ,ne_eq] at g9
 refine Ze (Zd (Za (xA (h:=Za (xL [_,_] ZQ 11 (h:=xM (h:=Zh (ZX [10] rfl rfl rfl rfl ZiQ rfl (Zar _ _ ((Zai x z).1) _ 1 oa oz _ hd15) ?_))))))))
 rintro _ B27 _ hle27 ⟨rfl,l27a,rfl,rfl,hs27a⟩
 refine xA (h:=ZF [_,_,_,_,_,_,_,_,_,_,_,_,_,_] rfl (Za (xA (h:=Za (xL [_,_] ZQ 11 (h:=xM (h:=Zh (ZJ [10] rfl rfl rfl rfl rfl Zes rfl (Z8.borrowL fun hm28=>ZE _ _ (Zai x z).1 1 oa _ (hs27a.lendK Zz.known Zb.mono 0 rfl hm28 (by simp only [Zw,ZD,ZC,ZB,Zab];omega))) ?_))))))))
 refine xA (h:=Zi (Za (xM (h:=ZO (h:=Zc rfl (fun ga=>by first | omega | (simp at ga;done) | (simp at ga;omega)) (fun ga=>?_))))))
 try simp only [sQ,ne_eq] at ga
 refine Ze (Zd (Zi (Za (xM (h:=xM (h:=Zaj (h:=Zc rfl (fun gb=>by simp at gb) (fun gb=>?_))))))))
 try simp only [sQ,ne_eq] at gb
 refine Ze (Zd (Zi (Z9 (keeps _ [0,1] _) mo kr ⟨Kn.le.refl _,Zat.refl _ _⟩ (fun _ _=>?_))))
 refine aT 0 rfl (Z2 fun D B L hI=>ZN [_,_] rfl rfl Ze5 rfl (Za4 0 (hI.2.1.trans rfl) rfl rfl) r4) (h:=aT 2 rfl (Z2 fun D B L hI=>ZN [_,_,_] rfl rfl ZgG rfl (Za4 1 (hI.2.2.1.trans rfl) rfl rfl) r4) (h:=ZaO [1,8] kr kr kr ⟨?_,?_⟩))
 refine (Zs rfl rfl en8 rfl (ZS _ _ ⟨x.next,x.items⟩ _ hx om2) ?_)
 rintro _ B29 _ hle29 ⟨q29,c29,l29,rfl,rfl,rfl,hv29⟩
 refine ⟨⟨Kn.le.refl _,t2⟩,(Zbv 14 rfl hv29 Zz.known Zb.mono om (fun B' hle'=>⟨hle',t2⟩) (fun B30 hle30 hr30=>?_))⟩
 replace hx:=hx.mono Zb.mono hle30
 replace hz:=hz.mono Zt.mono hle30
 replace hv9:=hv9.mono Zb.mono hle30
 replace hs25:=hs25.mono Zt.mono hle30
 have hr30n:=hr30.len
 refine ZaO [3,8] kr kr kr ⟨?_,?_⟩
 refine (Zs rfl rfl Zen rfl (ZI _ _ z _ hz om2) ?_)
 rintro _ B31 _ hle31 ⟨q31,c31,l31,rfl,rfl,rfl,hv31⟩
 refine ⟨⟨hle30,t2⟩,(Za3 15 rfl hv31 Zt.any om (fun B' hle'=>⟨hle30.trans hle',t2⟩) (fun B32 hle32 hr32=>?_))⟩
 replace hx:=hx.mono Zb.mono hle32
 replace hz:=hz.mono Zt.mono hle32
 replace hr30:=hr30.mono Zb.mono hle32
 replace hv9:=hv9.mono Zb.mono hle32
 replace hs25:=hs25.mono Zt.mono hle32
 have hr32n:=hr32.len
 refine ZaO [4,8] kr kr kr ⟨?_,?_⟩
 refine (Zs rfl rfl ZeO rfl (ZY _ _ x _ _ z _ hr30 hr32 (by first | assumption | omega | (simp;omega)) (by first | assumption | omega | (simp;omega))) ?_)
 rintro _ B33 _ hle33 ⟨l33,a33,c33,rfl,rfl,hd33⟩
 replace hx:=hx.mono Zb.mono hle33
 replace hz:=hz.mono Zt.mono hle33
 replace hr30:=hr30.mono Zb.mono hle33
 replace hr32:=hr32.mono Zt.mono hle33
 replace hv9:=hv9.mono Zb.mono hle33
 replace hs25:=hs25.mono Zt.mono hle33
 refine ⟨⟨((hle30.trans hle32).trans hle33),t2⟩,(aM 5 rfl (h:=aE 6 rfl (h:=aE 7 rfl (h:=Zp 8 kr rfl kr (Zaq (l:=[_,_]) rfl rfl Za6 rfl (fun b34=>?_))))))⟩
 refine ⟨⟨((hle30.trans hle32).trans hle33),t2⟩,(Zas 9 kr rfl kr kr (ZV [_,_] 17 [_,_] rfl rfl ZaW rfl rfl rfl rfl rfl rfl rfl rfl ?_))⟩
 refine aA 10 rfl (h:=Zv kr kr ?_)
 refine Zd (ZF [_,_,_,_,_,_,_,_,_,_,_,_,_,_,_,_,_,_] rfl (Zi (Za (xL [_,_] ZQ 17 (h:=xL [_,_] ZQ 5 (h:=Zh (ZJ [16,4] rfl rfl rfl rfl rfl Zcy rfl (Z8.borrowL fun hm35=>Zy _ _ _ _ ((Zai x z).1) ((Zai x z).1) _ (hd33.lendK Zz.known Zb.mono 0 rfl hm35 om) (hv9.lendR Zb.mono 1 rfl hm35 om)) ?_)))))))
 refine xN (h:=xM (h:=Zq (d:=106) rfl (fun gc=>by simp at gc) (fun gc=>?_)))
 try simp only [sQ,ne_eq] at gc
 refine xM (h:=xM (h:=Zh (Zal rfl rfl rfl rfl rfl (Zav Try.underlying4) (xF (h:=Zc rfl (fun gd=>by simp at gd) (fun gd=>?_))))))
 try simp only [sQ,ne_eq] at gd
 refine Ze (Zd (Za (xA (h:=Za (xL [_,_] ZQ 11 (h:=xM (h:=Zh (ZJ [10] rfl rfl rfl rfl rfl Zes rfl (Z8.borrowL fun hm36=>ZE _ _ (Zai x z).1 1 oa _ (hs27a.lendK Zz.known Zb.mono 0 rfl hm36 (by simp only [Zw,ZD,ZC,ZB,Zab];omega))) ?_))))))))
 refine xA (h:=Zi (Za (xM (h:=ZO (h:=Zc rfl (fun ge=>by first | omega | (simp at ge;done) | (simp at ge;omega)) (fun ge=>?_))))))
 try simp only [sQ,ne_eq] at ge
 refine Ze (Zd (Zi (Za (xM (h:=xM (h:=Zaj (h:=Zc rfl (fun gf=>by simp at gf) (fun gf=>?_))))))))
 try simp only [sQ,ne_eq] at gf
 refine Ze (Zd (Za (xA (h:=Zm ?_))))
 exact Z4 .ret (.inl rfl) [_] t1 rfl
 refine (Zaq (l:=[_,_]) rfl rfl Za6 rfl (fun b37=>⟨⟨(hle30.trans hle32),t2⟩,(Zp 4 kr rfl kr (Zs rfl rfl ZeO rfl (ZY _ _ x _ _ z _ hr30 hr32 (by first | assumption | omega | (simp;omega)) (by first | assumption | omega | (simp;omega))) ?_))⟩))
 rintro _ B38 _ hle38 ⟨l38,a38,c38,rfl,rfl,hd38⟩
 replace hx:=hx.mono Zb.mono hle38
 replace hz:=hz.mono Zt.mono hle38
 replace hr30:=hr30.mono Zb.mono hle38
 replace hr32:=hr32.mono Zt.mono hle38
 replace hv9:=hv9.mono Zb.mono hle38
 replace hs25:=hs25.mono Zt.mono hle38
 refine ⟨⟨((hle30.trans hle32).trans hle38),t2⟩,(aM 5 rfl (h:=aE 6 rfl (h:=aE 7 rfl (h:=Zas 9 kr rfl kr kr (ZV [_,_] 16 [_,_] rfl rfl ZaW rfl rfl rfl rfl rfl rfl rfl rfl ?_)))))⟩
 refine aA 10 rfl (h:=Zv kr kr ?_)
 refine Zd (ZF [_,_,_,_,_,_,_,_,_,_,_,_,_,_,_,_,_,_] rfl (Zi (Za (xL [_,_] ZQ 16 (h:=xL [_,_] ZQ 5 (h:=Zh (ZJ [17,4] rfl rfl rfl rfl rfl Zcy rfl (Z8.borrowL fun hm39=>Zy _ _ _ _ ((Zai x z).1) ((Zai x z).1) _ (hd38.lendK Zz.known Zb.mono 0 rfl hm39 om) (hv9.lendR Zb.mono 1 rfl hm39 om)) ?_)))))))
 refine xN (h:=xM (h:=Zq (d:=106) rfl (fun gc=>by simp at gc) (fun gc=>?_)))
 try simp only [sQ,ne_eq] at gc
 refine xM (h:=xM (h:=Zh (Zal rfl rfl rfl rfl rfl (Zav Try.underlying4) (xF (h:=Zc rfl (fun gd=>by simp at gd) (fun gd=>?_))))))
 try simp only [sQ,ne_eq] at gd
 refine Ze (Zd (Za (xA (h:=Za (xL [_,_] ZQ 11 (h:=xM (h:=Zh (ZJ [10] rfl rfl rfl rfl rfl Zes rfl (Z8.borrowL fun hm40=>ZE _ _ (Zai x z).1 1 oa _ (hs27a.lendK Zz.known Zb.mono 0 rfl hm40 (by simp only [Zw,ZD,ZC,ZB,Zab];omega))) ?_))))))))
 refine xA (h:=Zi (Za (xM (h:=ZO (h:=Zc rfl (fun ge=>by first | omega | (simp at ge;done) | (simp at ge;omega)) (fun ge=>?_))))))
 try simp only [sQ,ne_eq] at ge
 refine Ze (Zd (Zi (Za (xM (h:=xM (h:=Zaj (h:=Zc rfl (fun gf=>by simp at gf) (fun gf=>?_))))))))
 try simp only [sQ,ne_eq] at gf
 refine Ze (Zd (Za (xA (h:=Zm ?_))))
 exact Z4 .ret (.inl rfl) [_] t1 rfl
 refine (Zaq (l:=[_,_]) rfl rfl Za6 rfl (fun b41=>⟨⟨hle30,t2⟩,(Zp 3 kr rfl kr (Zs rfl rfl Zen rfl (ZI _ _ z _ hz om2) ?_))⟩))
 rintro _ B42 _ hle42 ⟨q42,c42,l42,rfl,rfl,rfl,hv42⟩
 refine ⟨⟨hle30,t2⟩,(Za3 16 rfl hv42 Zt.any om (fun B' hle'=>⟨hle30.trans hle',t2⟩) (fun B43 hle43 hr43=>?_))⟩
 replace hx:=hx.mono Zb.mono hle43
 replace hz:=hz.mono Zt.mono hle43
 replace hr30:=hr30.mono Zb.mono hle43
 replace hv9:=hv9.mono Zb.mono hle43
 replace hs25:=hs25.mono Zt.mono hle43
 have hr43n:=hr43.len
 refine Zp 4 kr rfl kr (Zs rfl rfl ZeO rfl (ZY _ _ x _ _ z _ hr30 hr43 (by first | assumption | omega | (simp;omega)) (by first | assumption | omega | (simp;omega))) ?_)
 rintro _ B44 _ hle44 ⟨l44,a44,c44,rfl,rfl,hd44⟩
 replace hx:=hx.mono Zb.mono hle44
 replace hz:=hz.mono Zt.mono hle44
 replace hr30:=hr30.mono Zb.mono hle44
 replace hr43:=hr43.mono Zt.mono hle44
 replace hv9:=hv9.mono Zb.mono hle44
 replace hs25:=hs25.mono Zt.mono hle44
 refine ⟨⟨((hle30.trans hle43).trans hle44),t2⟩,(aM 5 rfl (h:=aE 6 rfl (h:=aE 7 rfl (h:=Zas 9 kr rfl kr kr (ZV [_,_] 15 [_,_] rfl rfl ZaW rfl rfl rfl rfl rfl rfl rfl rfl ?_)))))⟩
 refine aA 10 rfl (h:=Zv kr kr ?_)
 refine Zd (ZF [_,_,_,_,_,_,_,_,_,_,_,_,_,_,_,_,_,_] rfl (Zi (Za (xL [_,_] ZQ 15 (h:=xL [_,_] ZQ 5 (h:=Zh (ZJ [17,4] rfl rfl rfl rfl rfl Zcy rfl (Z8.borrowL fun hm45=>Zy _ _ _ _ ((Zai x z).1) ((Zai x z).1) _ (hd44.lendK Zz.known Zb.mono 0 rfl hm45 om) (hv9.lendR Zb.mono 1 rfl hm45 om)) ?_)))))))
 refine xN (h:=xM (h:=Zq (d:=106) rfl (fun gc=>by simp at gc) (fun gc=>?_)))
 try simp only [sQ,ne_eq] at gc
 refine xM (h:=xM (h:=Zh (Zal rfl rfl rfl rfl rfl (Zav Try.underlying4) (xF (h:=Zc rfl (fun gd=>by simp at gd) (fun gd=>?_))))))
 try simp only [sQ,ne_eq] at gd
 refine Ze (Zd (Za (xA (h:=Za (xL [_,_] ZQ 11 (h:=xM (h:=Zh (ZJ [10] rfl rfl rfl rfl rfl Zes rfl (Z8.borrowL fun hm46=>ZE _ _ (Zai x z).1 1 oa _ (hs27a.lendK Zz.known Zb.mono 0 rfl hm46 (by simp only [Zw,ZD,ZC,ZB,Zab];omega))) ?_))))))))
 refine xA (h:=Zi (Za (xM (h:=ZO (h:=Zc rfl (fun ge=>by first | omega | (simp at ge;done) | (simp at ge;omega)) (fun ge=>?_))))))
 try simp only [sQ,ne_eq] at ge
 refine Ze (Zd (Zi (Za (xM (h:=xM (h:=Zaj (h:=Zc rfl (fun gf=>by simp at gf) (fun gf=>?_))))))))
 try simp only [sQ,ne_eq] at gf
 refine Ze (Zd (Za (xA (h:=Zm ?_))))
 exact Z4 .ret (.inl rfl) [_] t1 rfl
 refine (Zaq (l:=[_,_]) rfl rfl Za6 rfl (fun b47=>⟨⟨Kn.le.refl _,t2⟩,(Zp 1 kr rfl kr (Zs rfl rfl en8 rfl (ZS _ _ ⟨x.next,x.items⟩ _ hx om2) ?_))⟩))
 rintro _ B48 _ hle48 ⟨q48,c48,l48,rfl,rfl,rfl,hv48⟩
 refine ⟨⟨Kn.le.refl _,t2⟩,(Zbv 15 rfl hv48 Zz.known Zb.mono om (fun B' hle'=>⟨hle',t2⟩) (fun B49 hle49 hr49=>?_))⟩
 replace hx:=hx.mono Zb.mono hle49
 replace hz:=hz.mono Zt.mono hle49
 replace hv9:=hv9.mono Zb.mono hle49
 replace hs25:=hs25.mono Zt.mono hle49
 have hr49n:=hr49.len
 refine Zp 3 kr rfl kr (Zs rfl rfl Zen rfl (ZI _ _ z _ hz om2) ?_)
 rintro _ B50 _ hle50 ⟨q50,c50,l50,rfl,rfl,rfl,hv50⟩
 refine ⟨⟨hle49,t2⟩,(Za3 16 rfl hv50 Zt.any om (fun B' hle'=>⟨hle49.trans hle',t2⟩) (fun B51 hle51 hr51=>?_))⟩
 replace hx:=hx.mono Zb.mono hle51
 replace hz:=hz.mono Zt.mono hle51
 replace hr49:=hr49.mono Zb.mono hle51
 replace hv9:=hv9.mono Zb.mono hle51
 replace hs25:=hs25.mono Zt.mono hle51
 have hr51n:=hr51.len
 refine Zp 4 kr rfl kr (Zs rfl rfl ZeO rfl (ZY _ _ x _ _ z _ hr49 hr51 (by first | assumption | omega | (simp;omega)) (by first | assumption | omega | (simp;omega))) ?_)
 rintro _ B52 _ hle52 ⟨l52,a52,c52,rfl,rfl,hd52⟩
 replace hx:=hx.mono Zb.mono hle52
 replace hz:=hz.mono Zt.mono hle52
 replace hr49:=hr49.mono Zb.mono hle52
 replace hr51:=hr51.mono Zt.mono hle52
 replace hv9:=hv9.mono Zb.mono hle52
 replace hs25:=hs25.mono Zt.mono hle52
 refine ⟨⟨((hle49.trans hle51).trans hle52),t2⟩,(aM 5 rfl (h:=aE 6 rfl (h:=aE 7 rfl (h:=Zas 9 kr rfl kr kr (ZV [_,_] 14 [_,_] rfl rfl ZaW rfl rfl rfl rfl rfl rfl rfl rfl ?_)))))⟩
 refine aA 10 rfl (h:=Zv kr kr ?_)
 refine Zd (ZF [_,_,_,_,_,_,_,_,_,_,_,_,_,_,_,_,_,_] rfl (Zi (Za (xL [_,_] ZQ 14 (h:=xL [_,_] ZQ 5 (h:=Zh (ZJ [17,4] rfl rfl rfl rfl rfl Zcy rfl (Z8.borrowL fun hm53=>Zy _ _ _ _ ((Zai x z).1) ((Zai x z).1) _ (hd52.lendK Zz.known Zb.mono 0 rfl hm53 om) (hv9.lendR Zb.mono 1 rfl hm53 om)) ?_)))))))
 refine xN (h:=xM (h:=Zq (d:=106) rfl (fun gc=>by simp at gc) (fun gc=>?_)))
 try simp only [sQ,ne_eq] at gc
 refine xM (h:=xM (h:=Zh (Zal rfl rfl rfl rfl rfl (Zav Try.underlying4) (xF (h:=Zc rfl (fun gd=>by simp at gd) (fun gd=>?_))))))
 try simp only [sQ,ne_eq] at gd
 refine Ze (Zd (Za (xA (h:=Za (xL [_,_] ZQ 11 (h:=xM (h:=Zh (ZJ [10] rfl rfl rfl rfl rfl Zes rfl (Z8.borrowL fun hm54=>ZE _ _ (Zai x z).1 1 oa _ (hs27a.lendK Zz.known Zb.mono 0 rfl hm54 (by simp only [Zw,ZD,ZC,ZB,Zab];omega))) ?_))))))))
 refine xA (h:=Zi (Za (xM (h:=ZO (h:=Zc rfl (fun ge=>by first | omega | (simp at ge;done) | (simp at ge;omega)) (fun ge=>?_))))))
 try simp only [sQ,ne_eq] at ge
 refine Ze (Zd (Zi (Za (xM (h:=xM (h:=Zaj (h:=Zc rfl (fun gf=>by simp at gf) (fun gf=>?_))))))))
 try simp only [sQ,ne_eq] at gf
 refine Ze (Zd (Za (xA (h:=Zm ?_))))
 exact Z4 .ret (.inl rfl) [_] t1 rfl
 refine (Zaq (l:=[_,_]) rfl rfl Za6 rfl (fun b55=>⟨⟨(hle6.trans hle8),t2⟩,(Zp 4 kr rfl kr (Zs rfl rfl ZlC rfl (ZcY _ _ x _ _ z _ hr6 hr8 (by first | assumption | omega | (simp;omega)) (by first | assumption | omega | (simp;omega))) ?_))⟩))
 rintro _ B56 _ hle56 ⟨l56,a56,c56,rfl,rfl,hv56⟩
 replace hx:=hx.mono Zb.mono hle56
 replace hz:=hz.mono Zt.mono hle56
 replace hr6:=hr6.mono Zb.mono hle56
 replace hr8:=hr8.mono Zt.mono hle56
 replace hv56:=hv56.mono Zb.mono Kn.less_le
 refine ⟨⟨((hle6.trans hle8).trans hle56),t2⟩,(aM 5 rfl (h:=aE 6 rfl (h:=aE 7 rfl (h:=Zas 9 kr rfl kr kr (ZV [_,_] 4 [_,_] rfl rfl ZaW rfl rfl rfl rfl rfl rfl rfl rfl ?_)))))⟩
 refine aA 10 rfl (h:=Zv kr kr ?_)
 refine Zd (ZF [_,_,_,_,_,_] rfl (Za (xL [_,_] Ze5 0 (h:=Zh (Zs rfl rfl en8 rfl (ZS _ _ ⟨x.next,x.items⟩ _ hx om2) ?_)))))
 rintro _ B57 _ hle57 ⟨q57,c57,l57,rfl,rfl,rfl,hv57⟩
 refine xAl [_,_] Za6 (h:=fun b58=>xS [_,_] 7 [_,_] ZaW (h:=ZF [_,_,_,_,_,_,_,_] rfl (Za (xL [_,_,_] ZgG 1 (h:=Zh (Zs rfl rfl Zen rfl (ZI _ _ z _ hz om2) ?_))))))
 rintro _ B59 _ hle59 ⟨q59,c59,l59,rfl,rfl,rfl,hv59⟩
 refine xAl [_,_,_] ZjH (h:=fun b60=>xS [_,_,_] 9 [_,_,_] Zk9 (h:=ZF [_,_,_,_,_,_,_,_,_,_] rfl (Za (xL [_,_] ZQ 7 (h:=xL [_,_,_] ZfU 9 (h:=Zh (ZX [6,8] rfl rfl rfl rfl ZeO rfl (Zx.borrowK 2 fun hm61=>ZY _ _ x _ _ z _ (hv57.lendK Zz.known Zb.mono 0 rfl hm61 om) (hv59.lendK Zt.any 1 rfl hm61 om) (by first | assumption | omega | (simp;omega)) (by first | assumption | omega | (simp;omega))) ?_)))))))
 rintro _ B61 _ hle61 ⟨BB61,_,rfl,hB61,_,hm61,_,l61,a61,c61,rfl,rfl,hd61⟩
 replace hx:=hx.mono Zb.mono hle61
 replace hz:=hz.mono Zt.mono hle61
 replace hv56:=hv56.mono Zb.mono hle61
 replace hv59:=hv59.mono Zt.mono hle61
 refine xM (h:=xE (h:=xE (h:=xAl [_,_] Za6 (h:=fun b62=>xS [_,_] 11 [_,_] ZaW (h:=xA (h:=ZF [_,_,_,_,_,_,_,_,_,_,_,_] rfl (Zi (Za (xL [_,_] ZQ 11 (h:=xL [_,_] ZQ 4 (h:=Zh (ZJ [10,5] rfl rfl rfl rfl rfl Zcy rfl (Z8.borrowL fun hm63=>Zy _ _ _ _ ((Zai x z).1) ((Zai x z).1) _ (hd61.lendK Zz.known Zb.mono 0 rfl hm63 om) (hv56.lendR Zb.mono 1 rfl hm63 om)) ?_))))))))))))
 refine xN (h:=xM (h:=Zq (d:=49) rfl (fun g3=>by simp at g3) (fun g3=>?_)))
 try simp only [sQ,ne_eq] at g3
 refine xM (h:=xM (h:=Zh (Zal rfl rfl rfl rfl rfl (Zav Try.underlying4) (xF (h:=Zc rfl (fun g4=>by simp at g4) (fun g4=>?_))))))
 try simp only [sQ,ne_eq] at g4
 refine Ze (Zd (Zi (Zi (Z9 (keeps _ [0,7] _) mo kr ⟨Kn.le.refl _,Zat.refl _ _⟩ (fun _ _=>?_)))))
 refine aT 0 rfl (Z2 fun D B L hI=>ZN [_,_] rfl rfl ZQ rfl (Za4 7 (hI.2.2.1.trans rfl) rfl rfl) r4) (h:=aT 1 rfl (Z2 fun D B L hI=>ZN [_,_] rfl rfl Ze5 rfl (Za4 0 (hI.2.1.trans rfl) rfl rfl) r4) (h:=Zp 2 kr rfl kr (Zs rfl rfl en8 rfl (ZS _ _ ⟨x.next,x.items⟩ _ hx om2) ?_)))
 rintro _ B64 _ hle64 ⟨q64,c64,l64,rfl,rfl,rfl,hv64⟩
 refine ⟨⟨Kn.le.refl _,t2⟩,(Zbv 12 rfl hv64 Zz.known Zb.mono om (fun B' hle'=>⟨hle',t2⟩) (fun B65 hle65 hr65=>?_))⟩
 replace hx:=hx.mono Zb.mono hle65
 replace hz:=hz.mono Zt.mono hle65
 replace hv56:=hv56.mono Zb.mono hle65
 replace hv59:=hv59.mono Zt.mono hle65
 have hr65n:=hr65.len
 refine Zp 3 kr rfl kr (ZJ [6] rfl rfl rfl rfl rfl Zcy rfl (Z8.borrowL fun hm66=>Zy _ _ _ _ x x _ (hv57.lendK Zz.known Zb.mono 0 rfl hm66 om) (hr65.mono Zb.mono (Kn.le_add _ _))) ?_)
 refine ⟨⟨hle65,t2⟩,(aN 4 rfl (h:=Zv kr kr ?_))⟩
 refine Zd (ZF [_,_,_,_,_,_,_,_,_,_,_,_,_] rfl (Zc rfl (fun g5=>by simp at g5) (fun g5=>?_)))
 try simp only [sQ,ne_eq] at g5
 refine Ze (Zd (Zi (Zi (Z9 (keeps _ [1,9] _) mo kr ⟨Kn.le.refl _,Zat.refl _ _⟩ (fun _ _=>?_)))))
 refine aT 0 rfl (Z2 fun D B L hI=>ZN [_,_,_] rfl rfl ZfU rfl (Za4 9 (hI.2.2.1.trans rfl) rfl rfl) r4) (h:=aT 1 rfl (Z2 fun D B L hI=>ZN [_,_,_] rfl rfl ZgG rfl (Za4 1 (hI.2.1.trans rfl) rfl rfl) r4) (h:=Zp 2 kr rfl kr (Zs rfl rfl Zen rfl (ZI _ _ z _ hz om2) ?_)))
 rintro _ B67 _ hle67 ⟨q67,c67,l67,rfl,rfl,rfl,hv67⟩
 refine ⟨⟨Kn.le.refl _,t2⟩,(Za3 13 rfl hv67 Zt.any om (fun B' hle'=>⟨hle',t2⟩) (fun B68 hle68 hr68=>?_))⟩
 replace hx:=hx.mono Zb.mono hle68
 replace hz:=hz.mono Zt.mono hle68
 replace hv56:=hv56.mono Zb.mono hle68
 replace hv59:=hv59.mono Zt.mono hle68
 have hr68n:=hr68.len
 refine Zp 3 kr rfl kr (ZdQ 8 rfl rfl rfl ZlB rfl (Z8.borrow fun hm69=>Zcp _ _ _ _ z z _ (hv59.lend Zt.mono hm69 om) (hr68.mono Zt.mono (Kn.le_add _ _))) ?_)
 refine ⟨⟨hle68,t2⟩,(aN 4 rfl (h:=Zv kr kr ?_))⟩
 refine Zd (ZF [_,_,_,_,_,_,_,_,_,_,_,_,_,_] rfl (Zc rfl (fun g6=>by simp at g6) (fun g6=>?_)))
 try simp only [sQ,ne_eq] at g6
 refine Ze (Zd (Za (xA (h:=Za (xL [_,_] ZQ 7 (h:=xM (h:=Zh (ZX [6] rfl rfl rfl rfl ZiQ rfl (Zar _ _ x _ 1 oa oz _ hv57) ?_))))))))
 rintro _ B70 _ hle70 ⟨rfl,l70a,rfl,rfl,hs70a⟩
 refine xA (h:=ZF [_,_,_,_,_,_,_,_,_,_,_,_,_,_] rfl (Za (xL [_,_,_] ZfU 9 (h:=xM (h:=Zh (ZX [8] rfl rfl rfl rfl ZlA rfl (ZbB _ _ z _ (kL ZaC 1 x.items) oz oz _ (hv59.anyK Zt.any)) ?_))))))
 rintro _ B71 _ hle71 ⟨rfl,l71,rfl,rfl,hs71⟩
 refine xA (h:=ZF [_,_,_,_,_,_,_,_,_,_,_,_,_,_] rfl (Zi (Za (xM (h:=ZO (h:=xM (h:=Zq (d:=72) rfl (fun g7=>by first | omega | (simp at g7;done) | (simp at g7;omega)) (fun g7=>?_))))))))
 try simp only [sQ,ne_eq] at g7
 refine xL [_,_] ZQ 11 (h:=xL [_,_] ZQ 4 (h:=Zh (ZJ [10,5] rfl rfl rfl rfl rfl Zcy rfl (Z8.borrowL fun hm72=>Zy _ _ _ _ ((Zai x z).1) ((Zai x z).1) _ (hd61.lendK Zz.known Zb.mono 0 rfl hm72 om) (hv56.lendR Zb.mono 1 rfl hm72 om)) ?_)))
 refine xN (h:=xF (h:=xM (h:=Zq (d:=78) rfl (fun g8=>by simp at g8) (fun g8=>?_))))
 try simp only [sQ,ne_eq] at g8
 refine xM (h:=xM (h:=Zh (Zal rfl rfl rfl rfl rfl (Zav Try.underlying4) (xF (h:=Zc rfl (fun g9=>by simp at g9) (fun g9=>?_))))))
 try simp only [sQ,ne_eq] at g9
 refine Ze (Zd (Za (xA (h:=Za (xL [_,_] ZQ 11 (h:=xM (h:=Zh (ZX [10] rfl rfl rfl rfl ZiQ rfl (Zar _ _ ((Zai x z).1) _ 1 oa oz _ hd61) ?_))))))))
 rintro _ B73 _ hle73 ⟨rfl,l73a,rfl,rfl,hs73a⟩
 refine xA (h:=ZF [_,_,_,_,_,_,_,_,_,_,_,_,_,_] rfl (Za (xA (h:=Za (xL [_,_] ZQ 11 (h:=xM (h:=Zh (ZJ [10] rfl rfl rfl rfl rfl Zes rfl (Z8.borrowL fun hm74=>ZE _ _ (Zai x z).1 1 oa _ (hs73a.lendK Zz.known Zb.mono 0 rfl hm74 (by simp only [Zw,ZD,ZC,ZB,Zab];omega))) ?_))))))))
 refine xA (h:=Zi (Za (xM (h:=ZO (h:=Zc rfl (fun ga=>by first | omega | (simp at ga;done) | (simp at ga;omega)) (fun ga=>?_))))))
 try simp only [sQ,ne_eq] at ga
 refine Ze (Zd (Zi (Za (xM (h:=xM (h:=Zaj (h:=Zc rfl (fun gb=>by simp at gb) (fun gb=>?_))))))))
 try simp only [sQ,ne_eq] at gb
 refine Ze (Zd (Zi (Z9 (keeps _ [0,1] _) mo kr ⟨Kn.le.refl _,Zat.refl _ _⟩ (fun _ _=>?_))))
 refine aT 0 rfl (Z2 fun D B L hI=>ZN [_,_] rfl rfl Ze5 rfl (Za4 0 (hI.2.1.trans rfl) rfl rfl) r4) (h:=aT 2 rfl (Z2 fun D B L hI=>ZN [_,_,_] rfl rfl ZgG rfl (Za4 1 (hI.2.2.1.trans rfl) rfl rfl) r4) (h:=ZaO [1,8] kr kr kr ⟨?_,?_⟩))
 refine (Zs rfl rfl en8 rfl (ZS _ _ ⟨x.next,x.items⟩ _ hx om2) ?_)
 rintro _ B75 _ hle75 ⟨q75,c75,l75,rfl,rfl,rfl,hv75⟩
 refine ⟨⟨Kn.le.refl _,t2⟩,(Zbv 14 rfl hv75 Zz.known Zb.mono om (fun B' hle'=>⟨hle',t2⟩) (fun B76 hle76 hr76=>?_))⟩
 replace hx:=hx.mono Zb.mono hle76
 replace hz:=hz.mono Zt.mono hle76
 replace hv56:=hv56.mono Zb.mono hle76
 replace hs71:=hs71.mono Zt.mono hle76
 have hr76n:=hr76.len
 refine ZaO [3,8] kr kr kr ⟨?_,?_⟩
 refine (Zs rfl rfl Zen rfl (ZI _ _ z _ hz om2) ?_)
 rintro _ B77 _ hle77 ⟨q77,c77,l77,rfl,rfl,rfl,hv77⟩
 refine ⟨⟨hle76,t2⟩,(Za3 15 rfl hv77 Zt.any om (fun B' hle'=>⟨hle76.trans hle',t2⟩) (fun B78 hle78 hr78=>?_))⟩
 replace hx:=hx.mono Zb.mono hle78
 replace hz:=hz.mono Zt.mono hle78
 replace hr76:=hr76.mono Zb.mono hle78
 replace hv56:=hv56.mono Zb.mono hle78
 replace hs71:=hs71.mono Zt.mono hle78
 have hr78n:=hr78.len
 refine ZaO [4,8] kr kr kr ⟨?_,?_⟩
 refine (Zs rfl rfl ZeO rfl (ZY _ _ x _ _ z _ hr76 hr78 (by first | assumption | omega | (simp;omega)) (by first | assumption | omega | (simp;omega))) ?_)
 rintro _ B79 _ hle79 ⟨l79,a79,c79,rfl,rfl,hd79⟩
 replace hx:=hx.mono Zb.mono hle79
 replace hz:=hz.mono Zt.mono hle79
 replace hr76:=hr76.mono Zb.mono hle79
 replace hr78:=hr78.mono Zt.mono hle79
 replace hv56:=hv56.mono Zb.mono hle79
 replace hs71:=hs71.mono Zt.mono hle79
 refine ⟨⟨((hle76.trans hle78).trans hle79),t2⟩,(aM 5 rfl (h:=aE 6 rfl (h:=aE 7 rfl (h:=Zp 8 kr rfl kr (Zaq (l:=[_,_]) rfl rfl Za6 rfl (fun b80=>?_))))))⟩
 refine ⟨⟨((hle76.trans hle78).trans hle79),t2⟩,(Zas 9 kr rfl kr kr (ZV [_,_] 17 [_,_] rfl rfl ZaW rfl rfl rfl rfl rfl rfl rfl rfl ?_))⟩
 refine aA 10 rfl (h:=Zv kr kr ?_)
 refine Zd (ZF [_,_,_,_,_,_,_,_,_,_,_,_,_,_,_,_,_,_] rfl (Zi (Za (xL [_,_] ZQ 17 (h:=xL [_,_] ZQ 4 (h:=Zh (ZJ [16,5] rfl rfl rfl rfl rfl Zcy rfl (Z8.borrowL fun hm81=>Zy _ _ _ _ ((Zai x z).1) ((Zai x z).1) _ (hd79.lendK Zz.known Zb.mono 0 rfl hm81 om) (hv56.lendR Zb.mono 1 rfl hm81 om)) ?_)))))))
 refine xN (h:=xM (h:=Zq (d:=106) rfl (fun gc=>by simp at gc) (fun gc=>?_)))
 try simp only [sQ,ne_eq] at gc
 refine xM (h:=xM (h:=Zh (Zal rfl rfl rfl rfl rfl (Zav Try.underlying4) (xF (h:=Zc rfl (fun gd=>by simp at gd) (fun gd=>?_))))))
 try simp only [sQ,ne_eq] at gd
 refine Ze (Zd (Za (xA (h:=Za (xL [_,_] ZQ 11 (h:=xM (h:=Zh (ZJ [10] rfl rfl rfl rfl rfl Zes rfl (Z8.borrowL fun hm82=>ZE _ _ (Zai x z).1 1 oa _ (hs73a.lendK Zz.known Zb.mono 0 rfl hm82 (by simp only [Zw,ZD,ZC,ZB,Zab];omega))) ?_))))))))
 refine xA (h:=Zi (Za (xM (h:=ZO (h:=Zc rfl (fun ge=>by first | omega | (simp at ge;done) | (simp at ge;omega)) (fun ge=>?_))))))
 try simp only [sQ,ne_eq] at ge
 refine Ze (Zd (Zi (Za (xM (h:=xM (h:=Zaj (h:=Zc rfl (fun gf=>by simp at gf) (fun gf=>?_))))))))
 try simp only [sQ,ne_eq] at gf
 refine Ze (Zd (Za (xA (h:=Zm ?_))))
 exact Z4 .ret (.inl rfl) [_] t1 rfl
 refine (Zaq (l:=[_,_]) rfl rfl Za6 rfl (fun b83=>⟨⟨(hle76.trans hle78),t2⟩,(Zp 4 kr rfl kr (Zs rfl rfl ZeO rfl (ZY _ _ x _ _ z _ hr76 hr78 (by first | assumption | omega | (simp;omega)) (by first | assumption | omega | (simp;omega))) ?_))⟩))
 rintro _ B84 _ hle84 ⟨l84,a84,c84,rfl,rfl,hd84⟩
 replace hx:=hx.mono Zb.mono hle84
 replace hz:=hz.mono Zt.mono hle84
 replace hr76:=hr76.mono Zb.mono hle84
 replace hr78:=hr78.mono Zt.mono hle84
 replace hv56:=hv56.mono Zb.mono hle84
 replace hs71:=hs71.mono Zt.mono hle84
 refine ⟨⟨((hle76.trans hle78).trans hle84),t2⟩,(aM 5 rfl (h:=aE 6 rfl (h:=aE 7 rfl (h:=Zas 9 kr rfl kr kr (ZV [_,_] 16 [_,_] rfl rfl ZaW rfl rfl rfl rfl rfl rfl rfl rfl ?_)))))⟩
 refine aA 10 rfl (h:=Zv kr kr ?_)
 refine Zd (ZF [_,_,_,_,_,_,_,_,_,_,_,_,_,_,_,_,_,_] rfl (Zi (Za (xL [_,_] ZQ 16 (h:=xL [_,_] ZQ 4 (h:=Zh (ZJ [17,5] rfl rfl rfl rfl rfl Zcy rfl (Z8.borrowL fun hm85=>Zy _ _ _ _ ((Zai x z).1) ((Zai x z).1) _ (hd84.lendK Zz.known Zb.mono 0 rfl hm85 om) (hv56.lendR Zb.mono 1 rfl hm85 om)) ?_)))))))
 refine xN (h:=xM (h:=Zq (d:=106) rfl (fun gc=>by simp at gc) (fun gc=>?_)))
 try simp only [sQ,ne_eq] at gc
 refine xM (h:=xM (h:=Zh (Zal rfl rfl rfl rfl rfl (Zav Try.underlying4) (xF (h:=Zc rfl (fun gd=>by simp at gd) (fun gd=>?_))))))
 try simp only [sQ,ne_eq] at gd
 refine Ze (Zd (Za (xA (h:=Za (xL [_,_] ZQ 11 (h:=xM (h:=Zh (ZJ [10] rfl rfl rfl rfl rfl Zes rfl (Z8.borrowL fun hm86=>ZE _ _ (Zai x z).1 1 oa _ (hs73a.lendK Zz.known Zb.mono 0 rfl hm86 (by simp only [Zw,ZD,ZC,ZB,Zab];omega))) ?_))))))))
 refine xA (h:=Zi (Za (xM (h:=ZO (h:=Zc rfl (fun ge=>by first | omega | (simp at ge;done) | (simp at ge;omega)) (fun ge=>?_))))))
 try simp only [sQ,ne_eq] at ge
 refine Ze (Zd (Zi (Za (xM (h:=xM (h:=Zaj (h:=Zc rfl (fun gf=>by simp at gf) (fun gf=>?_))))))))
 try simp only [sQ,ne_eq] at gf
 refine Ze (Zd (Za (xA (h:=Zm ?_))))
 exact Z4 .ret (.inl rfl) [_] t1 rfl
 refine (Zaq (l:=[_,_]) rfl rfl Za6 rfl (fun b87=>⟨⟨hle76,t2⟩,(Zp 3 kr rfl kr (Zs rfl rfl Zen rfl (ZI _ _ z _ hz om2) ?_))⟩))
 rintro _ B88 _ hle88 ⟨q88,c88,l88,rfl,rfl,rfl,hv88⟩
 refine ⟨⟨hle76,t2⟩,(Za3 16 rfl hv88 Zt.any om (fun B' hle'=>⟨hle76.trans hle',t2⟩) (fun B89 hle89 hr89=>?_))⟩
 replace hx:=hx.mono Zb.mono hle89
 replace hz:=hz.mono Zt.mono hle89
 replace hr76:=hr76.mono Zb.mono hle89
 replace hv56:=hv56.mono Zb.mono hle89
 replace hs71:=hs71.mono Zt.mono hle89
 have hr89n:=hr89.len
 refine Zp 4 kr rfl kr (Zs rfl rfl ZeO rfl (ZY _ _ x _ _ z _ hr76 hr89 (by first | assumption | omega | (simp;omega)) (by first | assumption | omega | (simp;omega))) ?_)
 rintro _ B90 _ hle90 ⟨l90,a90,c90,rfl,rfl,hd90⟩
 replace hx:=hx.mono Zb.mono hle90
 replace hz:=hz.mono Zt.mono hle90
 replace hr76:=hr76.mono Zb.mono hle90
 replace hr89:=hr89.mono Zt.mono hle90
 replace hv56:=hv56.mono Zb.mono hle90
 replace hs71:=hs71.mono Zt.mono hle90
 refine ⟨⟨((hle76.trans hle89).trans hle90),t2⟩,(aM 5 rfl (h:=aE 6 rfl (h:=aE 7 rfl (h:=Zas 9 kr rfl kr kr (ZV [_,_] 15 [_,_] rfl rfl ZaW rfl rfl rfl rfl rfl rfl rfl rfl ?_)))))⟩
 refine aA 10 rfl (h:=Zv kr kr ?_)
 refine Zd (ZF [_,_,_,_,_,_,_,_,_,_,_,_,_,_,_,_,_,_] rfl (Zi (Za (xL [_,_] ZQ 15 (h:=xL [_,_] ZQ 4 (h:=Zh (ZJ [17,5] rfl rfl rfl rfl rfl Zcy rfl (Z8.borrowL fun hm91=>Zy _ _ _ _ ((Zai x z).1) ((Zai x z).1) _ (hd90.lendK Zz.known Zb.mono 0 rfl hm91 om) (hv56.lendR Zb.mono 1 rfl hm91 om)) ?_)))))))
 refine xN (h:=xM (h:=Zq (d:=106) rfl (fun gc=>by simp at gc) (fun gc=>?_)))
 try simp only [sQ,ne_eq] at gc
 refine xM (h:=xM (h:=Zh (Zal rfl rfl rfl rfl rfl (Zav Try.underlying4) (xF (h:=Zc rfl (fun gd=>by simp at gd) (fun gd=>?_))))))
 try simp only [sQ,ne_eq] at gd
 refine Ze (Zd (Za (xA (h:=Za (xL [_,_] ZQ 11 (h:=xM (h:=Zh (ZJ [10] rfl rfl rfl rfl rfl Zes rfl (Z8.borrowL fun hm92=>ZE _ _ (Zai x z).1 1 oa _ (hs73a.lendK Zz.known Zb.mono 0 rfl hm92 (by simp only [Zw,ZD,ZC,ZB,Zab];omega))) ?_))))))))
 refine xA (h:=Zi (Za (xM (h:=ZO (h:=Zc rfl (fun ge=>by first | omega | (simp at ge;done) | (simp at ge;omega)) (fun ge=>?_))))))
 try simp only [sQ,ne_eq] at ge
 refine Ze (Zd (Zi (Za (xM (h:=xM (h:=Zaj (h:=Zc rfl (fun gf=>by simp at gf) (fun gf=>?_))))))))
 try simp only [sQ,ne_eq] at gf
 refine Ze (Zd (Za (xA (h:=Zm ?_))))
 exact Z4 .ret (.inl rfl) [_] t1 rfl
 refine (Zaq (l:=[_,_]) rfl rfl Za6 rfl (fun b93=>⟨⟨Kn.le.refl _,t2⟩,(Zp 1 kr rfl kr (Zs rfl rfl en8 rfl (ZS _ _ ⟨x.next,x.items⟩ _ hx om2) ?_))⟩))
 rintro _ B94 _ hle94 ⟨q94,c94,l94,rfl,rfl,rfl,hv94⟩
 refine ⟨⟨Kn.le.refl _,t2⟩,(Zbv 15 rfl hv94 Zz.known Zb.mono om (fun B' hle'=>⟨hle',t2⟩) (fun B95 hle95 hr95=>?_))⟩
 replace hx:=hx.mono Zb.mono hle95
 replace hz:=hz.mono Zt.mono hle95
 replace hv56:=hv56.mono Zb.mono hle95
 replace hs71:=hs71.mono Zt.mono hle95
 have hr95n:=hr95.len
 refine Zp 3 kr rfl kr (Zs rfl rfl Zen rfl (ZI _ _ z _ hz om2) ?_)
 rintro _ B96 _ hle96 ⟨q96,c96,l96,rfl,rfl,rfl,hv96⟩
 refine ⟨⟨hle95,t2⟩,(Za3 16 rfl hv96 Zt.any om (fun B' hle'=>⟨hle95.trans hle',t2⟩) (fun B97 hle97 hr97=>?_))⟩
 replace hx:=hx.mono Zb.mono hle97
 replace hz:=hz.mono Zt.mono hle97
 replace hr95:=hr95.mono Zb.mono hle97
 replace hv56:=hv56.mono Zb.mono hle97
 replace hs71:=hs71.mono Zt.mono hle97
 have hr97n:=hr97.len
 refine Zp 4 kr rfl kr (Zs rfl rfl ZeO rfl (ZY _ _ x _ _ z _ hr95 hr97 (by first | assumption | omega | (simp;omega)) (by first | assumption | omega | (simp;omega))) ?_)
 rintro _ B98 _ hle98 ⟨l98,a98,c98,rfl,rfl,hd98⟩
 replace hx:=hx.mono Zb.mono hle98
 replace hz:=hz.mono Zt.mono hle98
 replace hr95:=hr95.mono Zb.mono hle98
 replace hr97:=hr97.mono Zt.mono hle98
 replace hv56:=hv56.mono Zb.mono hle98
 replace hs71:=hs71.mono Zt.mono hle98
 refine ⟨⟨((hle95.trans hle97).trans hle98),t2⟩,(aM 5 rfl (h:=aE 6 rfl (h:=aE 7 rfl (h:=Zas 9 kr rfl kr kr (ZV [_,_] 14 [_,_] rfl rfl ZaW rfl rfl rfl rfl rfl rfl rfl rfl ?_)))))⟩
 refine aA 10 rfl (h:=Zv kr kr ?_)
 refine Zd (ZF [_,_,_,_,_,_,_,_,_,_,_,_,_,_,_,_,_,_] rfl (Zi (Za (xL [_,_] ZQ 14 (h:=xL [_,_] ZQ 4 (h:=Zh (ZJ [17,5] rfl rfl rfl rfl rfl Zcy rfl (Z8.borrowL fun hm99=>Zy _ _ _ _ ((Zai x z).1) ((Zai x z).1) _ (hd98.lendK Zz.known Zb.mono 0 rfl hm99 om) (hv56.lendR Zb.mono 1 rfl hm99 om)) ?_)))))))
 refine xN (h:=xM (h:=Zq (d:=106) rfl (fun gc=>by simp at gc) (fun gc=>?_)))
 try simp only [sQ,ne_eq] at gc
 refine xM (h:=xM (h:=Zh (Zal rfl rfl rfl rfl rfl (Zav Try.underlying4) (xF (h:=Zc rfl (fun gd=>by simp at gd) (fun gd=>?_))))))
 try simp only [sQ,ne_eq] at gd
 refine Ze (Zd (Za (xA (h:=Za (xL [_,_] ZQ 11 (h:=xM (h:=Zh (ZJ [10] rfl rfl rfl rfl rfl Zes rfl (Z8.borrowL fun hm100=>ZE _ _ (Zai x z).1 1 oa _ (hs73a.lendK Zz.known Zb.mono 0 rfl hm100 (by simp only [Zw,ZD,ZC,ZB,Zab];omega))) ?_))))))))
 refine xA (h:=Zi (Za (xM (h:=ZO (h:=Zc rfl (fun ge=>by first | omega | (simp at ge;done) | (simp at ge;omega)) (fun ge=>?_))))))
 try simp only [sQ,ne_eq] at ge
 refine Ze (Zd (Zi (Za (xM (h:=xM (h:=Zaj (h:=Zc rfl (fun gf=>by simp at gf) (fun gf=>?_))))))))
 try simp only [sQ,ne_eq] at gf
 refine Ze (Zd (Za (xA (h:=Zm ?_))))
 exact Z4 .ret (.inl rfl) [_] t1 rfl
 refine (Zaq (l:=[_,_]) rfl rfl Za6 rfl (fun b101=>⟨⟨hle6,t2⟩,(Zp 3 kr rfl kr (Zs rfl rfl Zen rfl (ZI _ _ z _ hz om2) ?_))⟩))
 rintro _ B102 _ hle102 ⟨q102,c102,l102,rfl,rfl,rfl,hv102⟩
 refine ⟨⟨hle6,t2⟩,(Za3 4 rfl hv102 Zt.any om (fun B' hle'=>⟨hle6.trans hle',t2⟩) (fun B103 hle103 hr103=>?_))⟩
 replace hx:=hx.mono Zb.mono hle103
 replace hz:=hz.mono Zt.mono hle103
 replace hr6:=hr6.mono Zb.mono hle103
 have hr103n:=hr103.len
 refine Zp 4 kr rfl kr (Zs rfl rfl ZlC rfl (ZcY _ _ x _ _ z _ hr6 hr103 (by first | assumption | omega | (simp;omega)) (by first | assumption | omega | (simp;omega))) ?_)
 rintro _ B104 _ hle104 ⟨l104,a104,c104,rfl,rfl,hv104⟩
 replace hx:=hx.mono Zb.mono hle104
 replace hz:=hz.mono Zt.mono hle104
 replace hr6:=hr6.mono Zb.mono hle104
 replace hr103:=hr103.mono Zt.mono hle104
 replace hv104:=hv104.mono Zb.mono Kn.less_le
 refine ⟨⟨((hle6.trans hle103).trans hle104),t2⟩,(aM 5 rfl (h:=aE 6 rfl (h:=aE 7 rfl (h:=Zas 9 kr rfl kr kr (ZV [_,_] 3 [_,_] rfl rfl ZaW rfl rfl rfl rfl rfl rfl rfl rfl ?_)))))⟩
 refine aA 10 rfl (h:=Zv kr kr ?_)
 refine Zd (ZF [_,_,_,_,_,_] rfl (Za (xL [_,_] Ze5 0 (h:=Zh (Zs rfl rfl en8 rfl (ZS _ _ ⟨x.next,x.items⟩ _ hx om2) ?_)))))
 rintro _ B105 _ hle105 ⟨q105,c105,l105,rfl,rfl,rfl,hv105⟩
 refine xAl [_,_] Za6 (h:=fun b106=>xS [_,_] 7 [_,_] ZaW (h:=ZF [_,_,_,_,_,_,_,_] rfl (Za (xL [_,_,_] ZgG 1 (h:=Zh (Zs rfl rfl Zen rfl (ZI _ _ z _ hz om2) ?_))))))
 rintro _ B107 _ hle107 ⟨q107,c107,l107,rfl,rfl,rfl,hv107⟩
 refine xAl [_,_,_] ZjH (h:=fun b108=>xS [_,_,_] 9 [_,_,_] Zk9 (h:=ZF [_,_,_,_,_,_,_,_,_,_] rfl (Za (xL [_,_] ZQ 7 (h:=xL [_,_,_] ZfU 9 (h:=Zh (ZX [6,8] rfl rfl rfl rfl ZeO rfl (Zx.borrowK 2 fun hm109=>ZY _ _ x _ _ z _ (hv105.lendK Zz.known Zb.mono 0 rfl hm109 om) (hv107.lendK Zt.any 1 rfl hm109 om) (by first | assumption | omega | (simp;omega)) (by first | assumption | omega | (simp;omega))) ?_)))))))
 rintro _ B109 _ hle109 ⟨BB109,_,rfl,hB109,_,hm109,_,l109,a109,c109,rfl,rfl,hd109⟩
 replace hx:=hx.mono Zb.mono hle109
 replace hz:=hz.mono Zt.mono hle109
 replace hv104:=hv104.mono Zb.mono hle109
 replace hv107:=hv107.mono Zt.mono hle109
 refine xM (h:=xE (h:=xE (h:=xAl [_,_] Za6 (h:=fun b110=>xS [_,_] 11 [_,_] ZaW (h:=xA (h:=ZF [_,_,_,_,_,_,_,_,_,_,_,_] rfl (Zi (Za (xL [_,_] ZQ 11 (h:=xL [_,_] ZQ 3 (h:=Zh (ZJ [10,5] rfl rfl rfl rfl rfl Zcy rfl (Z8.borrowL fun hm111=>Zy _ _ _ _ ((Zai x z).1) ((Zai x z).1) _ (hd109.lendK Zz.known Zb.mono 0 rfl hm111 om) (hv104.lendR Zb.mono 1 rfl hm111 om)) ?_))))))))))))
 refine xN (h:=xM (h:=Zq (d:=49) rfl (fun g3=>by simp at g3) (fun g3=>?_)))
 try simp only [sQ,ne_eq] at g3
 refine xM (h:=xM (h:=Zh (Zal rfl rfl rfl rfl rfl (Zav Try.underlying4) (xF (h:=Zc rfl (fun g4=>by simp at g4) (fun g4=>?_))))))
 try simp only [sQ,ne_eq] at g4
 refine Ze (Zd (Zi (Zi (Z9 (keeps _ [0,7] _) mo kr ⟨Kn.le.refl _,Zat.refl _ _⟩ (fun _ _=>?_)))))
 refine aT 0 rfl (Z2 fun D B L hI=>ZN [_,_] rfl rfl ZQ rfl (Za4 7 (hI.2.2.1.trans rfl) rfl rfl) r4) (h:=aT 1 rfl (Z2 fun D B L hI=>ZN [_,_] rfl rfl Ze5 rfl (Za4 0 (hI.2.1.trans rfl) rfl rfl) r4) (h:=Zp 2 kr rfl kr (Zs rfl rfl en8 rfl (ZS _ _ ⟨x.next,x.items⟩ _ hx om2) ?_)))
 rintro _ B112 _ hle112 ⟨q112,c112,l112,rfl,rfl,rfl,hv112⟩
 refine ⟨⟨Kn.le.refl _,t2⟩,(Zbv 12 rfl hv112 Zz.known Zb.mono om (fun B' hle'=>⟨hle',t2⟩) (fun B113 hle113 hr113=>?_))⟩
 replace hx:=hx.mono Zb.mono hle113
 replace hz:=hz.mono Zt.mono hle113
 replace hv104:=hv104.mono Zb.mono hle113
 replace hv107:=hv107.mono Zt.mono hle113
 have hr113n:=hr113.len
 refine Zp 3 kr rfl kr (ZJ [6] rfl rfl rfl rfl rfl Zcy rfl (Z8.borrowL fun hm114=>Zy _ _ _ _ x x _ (hv105.lendK Zz.known Zb.mono 0 rfl hm114 om) (hr113.mono Zb.mono (Kn.le_add _ _))) ?_)
 refine ⟨⟨hle113,t2⟩,(aN 4 rfl (h:=Zv kr kr ?_))⟩
 refine Zd (ZF [_,_,_,_,_,_,_,_,_,_,_,_,_] rfl (Zc rfl (fun g5=>by simp at g5) (fun g5=>?_)))
 try simp only [sQ,ne_eq] at g5
 refine Ze (Zd (Zi (Zi (Z9 (keeps _ [1,9] _) mo kr ⟨Kn.le.refl _,Zat.refl _ _⟩ (fun _ _=>?_)))))
 refine aT 0 rfl (Z2 fun D B L hI=>ZN [_,_,_] rfl rfl ZfU rfl (Za4 9 (hI.2.2.1.trans rfl) rfl rfl) r4) (h:=aT 1 rfl (Z2 fun D B L hI=>ZN [_,_,_] rfl rfl ZgG rfl (Za4 1 (hI.2.1.trans rfl) rfl rfl) r4) (h:=Zp 2 kr rfl kr (Zs rfl rfl Zen rfl (ZI _ _ z _ hz om2) ?_)))
 rintro _ B115 _ hle115 ⟨q115,c115,l115,rfl,rfl,rfl,hv115⟩
 refine ⟨⟨Kn.le.refl _,t2⟩,(Za3 13 rfl hv115 Zt.any om (fun B' hle'=>⟨hle',t2⟩) (fun B116 hle116 hr116=>?_))⟩
 replace hx:=hx.mono Zb.mono hle116
 replace hz:=hz.mono Zt.mono hle116
 replace hv104:=hv104.mono Zb.mono hle116
 replace hv107:=hv107.mono Zt.mono hle116
 have hr116n:=hr116.len
 refine Zp 3 kr rfl kr (ZdQ 8 rfl rfl rfl ZlB rfl (Z8.borrow fun hm117=>Zcp _ _ _ _ z z _ (hv107.lend Zt.mono hm117 om) (hr116.mono Zt.mono (Kn.le_add _ _))) ?_)
 refine ⟨⟨hle116,t2⟩,(aN 4 rfl (h:=Zv kr kr ?_))⟩
 refine Zd (ZF [_,_,_,_,_,_,_,_,_,_,_,_,_,_] rfl (Zc rfl (fun g6=>by simp at g6) (fun g6=>?_)))
 try simp only [sQ,ne_eq] at g6
 refine Ze (Zd (Za (xA (h:=Za (xL [_,_] ZQ 7 (h:=xM (h:=Zh (ZX [6] rfl rfl rfl rfl ZiQ rfl (Zar _ _ x _ 1 oa oz _ hv105) ?_))))))))
 rintro _ B118 _ hle118 ⟨rfl,l118a,rfl,rfl,hs118a⟩
 refine xA (h:=ZF [_,_,_,_,_,_,_,_,_,_,_,_,_,_] rfl (Za (xL [_,_,_] ZfU 9 (h:=xM (h:=Zh (ZX [8] rfl rfl rfl rfl ZlA rfl (ZbB _ _ z _ (kL ZaC 1 x.items) oz oz _ (hv107.anyK Zt.any)) ?_))))))
 rintro _ B119 _ hle119 ⟨rfl,l119,rfl,rfl,hs119⟩
 refine xA (h:=ZF [_,_,_,_,_,_,_,_,_,_,_,_,_,_] rfl (Zi (Za (xM (h:=ZO (h:=xM (h:=Zq (d:=72) rfl (fun g7=>by first | omega | (simp at g7;done) | (simp at g7;omega)) (fun g7=>?_))))))))
 try simp only [sQ,ne_eq] at g7
 refine xL [_,_] ZQ 11 (h:=xL [_,_] ZQ 3 (h:=Zh (ZJ [10,5] rfl rfl rfl rfl rfl Zcy rfl (Z8.borrowL fun hm120=>Zy _ _ _ _ ((Zai x z).1) ((Zai x z).1) _ (hd109.lendK Zz.known Zb.mono 0 rfl hm120 om) (hv104.lendR Zb.mono 1 rfl hm120 om)) ?_)))
 refine xN (h:=xF (h:=xM (h:=Zq (d:=78) rfl (fun g8=>by simp at g8) (fun g8=>?_))))
 try simp only [sQ,ne_eq] at g8
 refine xM (h:=xM (h:=Zh (Zal rfl rfl rfl rfl rfl (Zav Try.underlying4) (xF (h:=Zc rfl (fun g9=>by simp at g9) (fun g9=>?_))))))
 try simp only [sQ,ne_eq] at g9
 refine Ze (Zd (Za (xA (h:=Za (xL [_,_] ZQ 11 (h:=xM (h:=Zh (ZX [10] rfl rfl rfl rfl ZiQ rfl (Zar _ _ ((Zai x z).1) _ 1 oa oz _ hd109) ?_))))))))
 rintro _ B121 _ hle121 ⟨rfl,l121a,rfl,rfl,hs121a⟩
 refine xA (h:=ZF [_,_,_,_,_,_,_,_,_,_,_,_,_,_] rfl (Za (xA (h:=Za (xL [_,_] ZQ 11 (h:=xM (h:=Zh (ZJ [10] rfl rfl rfl rfl rfl Zes rfl (Z8.borrowL fun hm122=>ZE _ _ (Zai x z).1 1 oa _ (hs121a.lendK Zz.known Zb.mono 0 rfl hm122 (by simp only [Zw,ZD,ZC,ZB,Zab];omega))) ?_))))))))
 refine xA (h:=Zi (Za (xM (h:=ZO (h:=Zc rfl (fun ga=>by first | omega | (simp at ga;done) | (simp at ga;omega)) (fun ga=>?_))))))
 try simp only [sQ,ne_eq] at ga
 refine Ze (Zd (Zi (Za (xM (h:=xM (h:=Zaj (h:=Zc rfl (fun gb=>by simp at gb) (fun gb=>?_))))))))
 try simp only [sQ,ne_eq] at gb
 refine Ze (Zd (Zi (Z9 (keeps _ [0,1] _) mo kr ⟨Kn.le.refl _,Zat.refl _ _⟩ (fun _ _=>?_))))
 refine aT 0 rfl (Z2 fun D B L hI=>ZN [_,_] rfl rfl Ze5 rfl (Za4 0 (hI.2.1.trans rfl) rfl rfl) r4) (h:=aT 2 rfl (Z2 fun D B L hI=>ZN [_,_,_] rfl rfl ZgG rfl (Za4 1 (hI.2.2.1.trans rfl) rfl rfl) r4) (h:=ZaO [1,8] kr kr kr ⟨?_,?_⟩))
 refine (Zs rfl rfl en8 rfl (ZS _ _ ⟨x.next,x.items⟩ _ hx om2) ?_)
 rintro _ B123 _ hle123 ⟨q123,c123,l123,rfl,rfl,rfl,hv123⟩
 refine ⟨⟨Kn.le.refl _,t2⟩,(Zbv 14 rfl hv123 Zz.known Zb.mono om (fun B' hle'=>⟨hle',t2⟩) (fun B124 hle124 hr124=>?_))⟩
 replace hx:=hx.mono Zb.mono hle124
 replace hz:=hz.mono Zt.mono hle124
 replace hv104:=hv104.mono Zb.mono hle124
 replace hs119:=hs119.mono Zt.mono hle124
 have hr124n:=hr124.len
 refine ZaO [3,8] kr kr kr ⟨?_,?_⟩
 refine (Zs rfl rfl Zen rfl (ZI _ _ z _ hz om2) ?_)
 rintro _ B125 _ hle125 ⟨q125,c125,l125,rfl,rfl,rfl,hv125⟩
 refine ⟨⟨hle124,t2⟩,(Za3 15 rfl hv125 Zt.any om (fun B' hle'=>⟨hle124.trans hle',t2⟩) (fun B126 hle126 hr126=>?_))⟩
 replace hx:=hx.mono Zb.mono hle126
 replace hz:=hz.mono Zt.mono hle126
 replace hr124:=hr124.mono Zb.mono hle126
 replace hv104:=hv104.mono Zb.mono hle126
 replace hs119:=hs119.mono Zt.mono hle126
 have hr126n:=hr126.len
 refine ZaO [4,8] kr kr kr ⟨?_,?_⟩
 refine (Zs rfl rfl ZeO rfl (ZY _ _ x _ _ z _ hr124 hr126 (by first | assumption | omega | (simp;omega)) (by first | assumption | omega | (simp;omega))) ?_)
 rintro _ B127 _ hle127 ⟨l127,a127,c127,rfl,rfl,hd127⟩
 replace hx:=hx.mono Zb.mono hle127
 replace hz:=hz.mono Zt.mono hle127
 replace hr124:=hr124.mono Zb.mono hle127
 replace hr126:=hr126.mono Zt.mono hle127
 replace hv104:=hv104.mono Zb.mono hle127
 replace hs119:=hs119.mono Zt.mono hle127
 refine ⟨⟨((hle124.trans hle126).trans hle127),t2⟩,(aM 5 rfl (h:=aE 6 rfl (h:=aE 7 rfl (h:=Zp 8 kr rfl kr (Zaq (l:=[_,_]) rfl rfl Za6 rfl (fun b128=>?_))))))⟩
 refine ⟨⟨((hle124.trans hle126).trans hle127),t2⟩,(Zas 9 kr rfl kr kr (ZV [_,_] 17 [_,_] rfl rfl ZaW rfl rfl rfl rfl rfl rfl rfl rfl ?_))⟩
 refine aA 10 rfl (h:=Zv kr kr ?_)
 refine Zd (ZF [_,_,_,_,_,_,_,_,_,_,_,_,_,_,_,_,_,_] rfl (Zi (Za (xL [_,_] ZQ 17 (h:=xL [_,_] ZQ 3 (h:=Zh (ZJ [16,5] rfl rfl rfl rfl rfl Zcy rfl (Z8.borrowL fun hm129=>Zy _ _ _ _ ((Zai x z).1) ((Zai x z).1) _ (hd127.lendK Zz.known Zb.mono 0 rfl hm129 om) (hv104.lendR Zb.mono 1 rfl hm129 om)) ?_)))))))
 refine xN (h:=xM (h:=Zq (d:=106) rfl (fun gc=>by simp at gc) (fun gc=>?_)))
 try simp only [sQ,ne_eq] at gc
 refine xM (h:=xM (h:=Zh (Zal rfl rfl rfl rfl rfl (Zav Try.underlying4) (xF (h:=Zc rfl (fun gd=>by simp at gd) (fun gd=>?_))))))
 try simp only [sQ,ne_eq] at gd
 refine Ze (Zd (Za (xA (h:=Za (xL [_,_] ZQ 11 (h:=xM (h:=Zh (ZJ [10] rfl rfl rfl rfl rfl Zes rfl (Z8.borrowL fun hm130=>ZE _ _ (Zai x z).1 1 oa _ (hs121a.lendK Zz.known Zb.mono 0 rfl hm130 (by simp only [Zw,ZD,ZC,ZB,Zab];omega))) ?_))))))))
 refine xA (h:=Zi (Za (xM (h:=ZO (h:=Zc rfl (fun ge=>by first | omega | (simp at ge;done) | (simp at ge;omega)) (fun ge=>?_))))))
 try simp only [sQ,ne_eq] at ge
 refine Ze (Zd (Zi (Za (xM (h:=xM (h:=Zaj (h:=Zc rfl (fun gf=>by simp at gf) (fun gf=>?_))))))))
 try simp only [sQ,ne_eq] at gf
 refine Ze (Zd (Za (xA (h:=Zm ?_))))
 exact Z4 .ret (.inl rfl) [_] t1 rfl
 refine (Zaq (l:=[_,_]) rfl rfl Za6 rfl (fun b131=>⟨⟨(hle124.trans hle126),t2⟩,(Zp 4 kr rfl kr (Zs rfl rfl ZeO rfl (ZY _ _ x _ _ z _ hr124 hr126 (by first | assumption | omega | (simp;omega)) (by first | assumption | omega | (simp;omega))) ?_))⟩))
 rintro _ B132 _ hle132 ⟨l132,a132,c132,rfl,rfl,hd132⟩
 replace hx:=hx.mono Zb.mono hle132
 replace hz:=hz.mono Zt.mono hle132
 replace hr124:=hr124.mono Zb.mono hle132
 replace hr126:=hr126.mono Zt.mono hle132
 replace hv104:=hv104.mono Zb.mono hle132
 replace hs119:=hs119.mono Zt.mono hle132
 refine ⟨⟨((hle124.trans hle126).trans hle132),t2⟩,(aM 5 rfl (h:=aE 6 rfl (h:=aE 7 rfl (h:=Zas 9 kr rfl kr kr (ZV [_,_] 16 [_,_] rfl rfl ZaW rfl rfl rfl rfl rfl rfl rfl rfl ?_)))))⟩
 refine aA 10 rfl (h:=Zv kr kr ?_)
 refine Zd (ZF [_,_,_,_,_,_,_,_,_,_,_,_,_,_,_,_,_,_] rfl (Zi (Za (xL [_,_] ZQ 16 (h:=xL [_,_] ZQ 3 (h:=Zh (ZJ [17,5] rfl rfl rfl rfl rfl Zcy rfl (Z8.borrowL fun hm133=>Zy _ _ _ _ ((Zai x z).1) ((Zai x z).1) _ (hd132.lendK Zz.known Zb.mono 0 rfl hm133 om) (hv104.lendR Zb.mono 1 rfl hm133 om)) ?_)))))))
 refine xN (h:=xM (h:=Zq (d:=106) rfl (fun gc=>by simp at gc) (fun gc=>?_)))
 try simp only [sQ,ne_eq] at gc
 refine xM (h:=xM (h:=Zh (Zal rfl rfl rfl rfl rfl (Zav Try.underlying4) (xF (h:=Zc rfl (fun gd=>by simp at gd) (fun gd=>?_))))))
 try simp only [sQ,ne_eq] at gd
 refine Ze (Zd (Za (xA (h:=Za (xL [_,_] ZQ 11 (h:=xM (h:=Zh (ZJ [10] rfl rfl rfl rfl rfl Zes rfl (Z8.borrowL fun hm134=>ZE _ _ (Zai x z).1 1 oa _ (hs121a.lendK Zz.known Zb.mono 0 rfl hm134 (by simp only [Zw,ZD,ZC,ZB,Zab];omega))) ?_))))))))
 refine xA (h:=Zi (Za (xM (h:=ZO (h:=Zc rfl (fun ge=>by first | omega | (simp at ge;done) | (simp at ge;omega)) (fun ge=>?_))))))
 try simp only [sQ,ne_eq] at ge
 refine Ze (Zd (Zi (Za (xM (h:=xM (h:=Zaj (h:=Zc rfl (fun gf=>by simp at gf) (fun gf=>?_))))))))
 try simp only [sQ,ne_eq] at gf
 refine Ze (Zd (Za (xA (h:=Zm ?_))))
 exact Z4 .ret (.inl rfl) [_] t1 rfl
 refine (Zaq (l:=[_,_]) rfl rfl Za6 rfl (fun b135=>⟨⟨hle124,t2⟩,(Zp 3 kr rfl kr (Zs rfl rfl Zen rfl (ZI _ _ z _ hz om2) ?_))⟩))
 rintro _ B136 _ hle136 ⟨q136,c136,l136,rfl,rfl,rfl,hv136⟩
 refine ⟨⟨hle124,t2⟩,(Za3 16 rfl hv136 Zt.any om (fun B' hle'=>⟨hle124.trans hle',t2⟩) (fun B137 hle137 hr137=>?_))⟩
 replace hx:=hx.mono Zb.mono hle137
 replace hz:=hz.mono Zt.mono hle137
 replace hr124:=hr124.mono Zb.mono hle137
 replace hv104:=hv104.mono Zb.mono hle137
 replace hs119:=hs119.mono Zt.mono hle137
 have hr137n:=hr137.len
 refine Zp 4 kr rfl kr (Zs rfl rfl ZeO rfl (ZY _ _ x _ _ z _ hr124 hr137 (by first | assumption | omega | (simp;omega)) (by first | assumption | omega | (simp;omega))) ?_)
 rintro _ B138 _ hle138 ⟨l138,a138,c138,rfl,rfl,hd138⟩
 replace hx:=hx.mono Zb.mono hle138
 replace hz:=hz.mono Zt.mono hle138
 replace hr124:=hr124.mono Zb.mono hle138
 replace hr137:=hr137.mono Zt.mono hle138
 replace hv104:=hv104.mono Zb.mono hle138
 replace hs119:=hs119.mono Zt.mono hle138
 refine ⟨⟨((hle124.trans hle137).trans hle138),t2⟩,(aM 5 rfl (h:=aE 6 rfl (h:=aE 7 rfl (h:=Zas 9 kr rfl kr kr (ZV [_,_] 15 [_,_] rfl rfl ZaW rfl rfl rfl rfl rfl rfl rfl rfl ?_)))))⟩
 refine aA 10 rfl (h:=Zv kr kr ?_)
 refine Zd (ZF [_,_,_,_,_,_,_,_,_,_,_,_,_,_,_,_,_,_] rfl (Zi (Za (xL [_,_] ZQ 15 (h:=xL [_,_] ZQ 3 (h:=Zh (ZJ [17,5] rfl rfl rfl rfl rfl Zcy rfl (Z8.borrowL fun hm139=>Zy _ _ _ _ ((Zai x z).1) ((Zai x z).1) _ (hd138.lendK Zz.known Zb.mono 0 rfl hm139 om) (hv104.lendR Zb.mono 1 rfl hm139 om)) ?_)))))))
 refine xN (h:=xM (h:=Zq (d:=106) rfl (fun gc=>by simp at gc) (fun gc=>?_)))
 try simp only [sQ,ne_eq] at gc
 refine xM (h:=xM (h:=Zh (Zal rfl rfl rfl rfl rfl (Zav Try.underlying4) (xF (h:=Zc rfl (fun gd=>by simp at gd) (fun gd=>?_))))))
 try simp only [sQ,ne_eq] at gd
 refine Ze (Zd (Za (xA (h:=Za (xL [_,_] ZQ 11 (h:=xM (h:=Zh (ZJ [10] rfl rfl rfl rfl rfl Zes rfl (Z8.borrowL fun hm140=>ZE _ _ (Zai x z).1 1 oa _ (hs121a.lendK Zz.known Zb.mono 0 rfl hm140 (by simp only [Zw,ZD,ZC,ZB,Zab];omega))) ?_))))))))
 refine xA (h:=Zi (Za (xM (h:=ZO (h:=Zc rfl (fun ge=>by first | omega | (simp at ge;done) | (simp at ge;omega)) (fun ge=>?_))))))
 try simp only [sQ,ne_eq] at ge
 refine Ze (Zd (Zi (Za (xM (h:=xM (h:=Zaj (h:=Zc rfl (fun gf=>by simp at gf) (fun gf=>?_))))))))
 try simp only [sQ,ne_eq] at gf
 refine Ze (Zd (Za (xA (h:=Zm ?_))))
 exact Z4 .ret (.inl rfl) [_] t1 rfl
 refine (Zaq (l:=[_,_]) rfl rfl Za6 rfl (fun b141=>⟨⟨Kn.le.refl _,t2⟩,(Zp 1 kr rfl kr (Zs rfl rfl en8 rfl (ZS _ _ ⟨x.next,x.items⟩ _ hx om2) ?_))⟩))
 rintro _ B142 _ hle142 ⟨q142,c142,l142,rfl,rfl,rfl,hv142⟩
 refine ⟨⟨Kn.le.refl _,t2⟩,(Zbv 15 rfl hv142 Zz.known Zb.mono om (fun B' hle'=>⟨hle',t2⟩) (fun B143 hle143 hr143=>?_))⟩
 replace hx:=hx.mono Zb.mono hle143
 replace hz:=hz.mono Zt.mono hle143
 replace hv104:=hv104.mono Zb.mono hle143
 replace hs119:=hs119.mono Zt.mono hle143
 have hr143n:=hr143.len
 refine Zp 3 kr rfl kr (Zs rfl rfl Zen rfl (ZI _ _ z _ hz om2) ?_)
 rintro _ B144 _ hle144 ⟨q144,c144,l144,rfl,rfl,rfl,hv144⟩
 refine ⟨⟨hle143,t2⟩,(Za3 16 rfl hv144 Zt.any om (fun B' hle'=>⟨hle143.trans hle',t2⟩) (fun B145 hle145 hr145=>?_))⟩
 replace hx:=hx.mono Zb.mono hle145
 replace hz:=hz.mono Zt.mono hle145
 replace hr143:=hr143.mono Zb.mono hle145
 replace hv104:=hv104.mono Zb.mono hle145
 replace hs119:=hs119.mono Zt.mono hle145
 have hr145n:=hr145.len
 refine Zp 4 kr rfl kr (Zs rfl rfl ZeO rfl (ZY _ _ x _ _ z _ hr143 hr145 (by first | assumption | omega | (simp;omega)) (by first | assumption | omega | (simp;omega))) ?_)
 rintro _ B146 _ hle146 ⟨l146,a146,c146,rfl,rfl,hd146⟩
 replace hx:=hx.mono Zb.mono hle146
 replace hz:=hz.mono Zt.mono hle146
 replace hr143:=hr143.mono Zb.mono hle146
 replace hr145:=hr145.mono Zt.mono hle146
 replace hv104:=hv104.mono Zb.mono hle146
 replace hs119:=hs119.mono Zt.mono hle146
 refine ⟨⟨((hle143.trans hle145).trans hle146),t2⟩,(aM 5 rfl (h:=aE 6 rfl (h:=aE 7 rfl (h:=Zas 9 kr rfl kr kr (ZV [_,_] 14 [_,_] rfl rfl ZaW rfl rfl rfl rfl rfl rfl rfl rfl ?_)))))⟩
 refine aA 10 rfl (h:=Zv kr kr ?_)
 refine Zd (ZF [_,_,_,_,_,_,_,_,_,_,_,_,_,_,_,_,_,_] rfl (Zi (Za (xL [_,_] ZQ 14 (h:=xL [_,_] ZQ 3 (h:=Zh (ZJ [17,5] rfl rfl rfl rfl rfl Zcy rfl (Z8.borrowL fun hm147=>Zy _ _ _ _ ((Zai x z).1) ((Zai x z).1) _ (hd146.lendK Zz.known Zb.mono 0 rfl hm147 om) (hv104.lendR Zb.mono 1 rfl hm147 om)) ?_)))))))
 refine xN (h:=xM (h:=Zq (d:=106) rfl (fun gc=>by simp at gc) (fun gc=>?_)))
 try simp only [sQ,ne_eq] at gc
 refine xM (h:=xM (h:=Zh (Zal rfl rfl rfl rfl rfl (Zav Try.underlying4) (xF (h:=Zc rfl (fun gd=>by simp at gd) (fun gd=>?_))))))
 try simp only [sQ,ne_eq] at gd
 refine Ze (Zd (Za (xA (h:=Za (xL [_,_] ZQ 11 (h:=xM (h:=Zh (ZJ [10] rfl rfl rfl rfl rfl Zes rfl (Z8.borrowL fun hm148=>ZE _ _ (Zai x z).1 1 oa _ (hs121a.lendK Zz.known Zb.mono 0 rfl hm148 (by simp only [Zw,ZD,ZC,ZB,Zab];omega))) ?_))))))))
 refine xA (h:=Zi (Za (xM (h:=ZO (h:=Zc rfl (fun ge=>by first | omega | (simp at ge;done) | (simp at ge;omega)) (fun ge=>?_))))))
 try simp only [sQ,ne_eq] at ge
 refine Ze (Zd (Zi (Za (xM (h:=xM (h:=Zaj (h:=Zc rfl (fun gf=>by simp at gf) (fun gf=>?_))))))))
 try simp only [sQ,ne_eq] at gf
 refine Ze (Zd (Za (xA (h:=Zm ?_))))
 exact Z4 .ret (.inl rfl) [_] t1 rfl
 refine (Zaq (l:=[_,_]) rfl rfl Za6 rfl (fun b149=>⟨⟨Kn.le.refl _,t2⟩,(Zp 1 kr rfl kr (Zs rfl rfl en8 rfl (ZS _ _ ⟨x.next,x.items⟩ _ hx om2) ?_))⟩))
 rintro _ B150 _ hle150 ⟨q150,c150,l150,rfl,rfl,rfl,hv150⟩
 refine ⟨⟨Kn.le.refl _,t2⟩,(Zbv 3 rfl hv150 Zz.known Zb.mono om (fun B' hle'=>⟨hle',t2⟩) (fun B151 hle151 hr151=>?_))⟩
 replace hx:=hx.mono Zb.mono hle151
 replace hz:=hz.mono Zt.mono hle151
 have hr151n:=hr151.len
 refine Zp 3 kr rfl kr (Zs rfl rfl Zen rfl (ZI _ _ z _ hz om2) ?_)
 rintro _ B152 _ hle152 ⟨q152,c152,l152,rfl,rfl,rfl,hv152⟩
 refine ⟨⟨hle151,t2⟩,(Za3 4 rfl hv152 Zt.any om (fun B' hle'=>⟨hle151.trans hle',t2⟩) (fun B153 hle153 hr153=>?_))⟩
 replace hx:=hx.mono Zb.mono hle153
 replace hz:=hz.mono Zt.mono hle153
 replace hr151:=hr151.mono Zb.mono hle153
 have hr153n:=hr153.len
 refine Zp 4 kr rfl kr (Zs rfl rfl ZlC rfl (ZcY _ _ x _ _ z _ hr151 hr153 (by first | assumption | omega | (simp;omega)) (by first | assumption | omega | (simp;omega))) ?_)
 rintro _ B154 _ hle154 ⟨l154,a154,c154,rfl,rfl,hv154⟩
 replace hx:=hx.mono Zb.mono hle154
 replace hz:=hz.mono Zt.mono hle154
 replace hr151:=hr151.mono Zb.mono hle154
 replace hr153:=hr153.mono Zt.mono hle154
 replace hv154:=hv154.mono Zb.mono Kn.less_le
 refine ⟨⟨((hle151.trans hle153).trans hle154),t2⟩,(aM 5 rfl (h:=aE 6 rfl (h:=aE 7 rfl (h:=Zas 9 kr rfl kr kr (ZV [_,_] 2 [_,_] rfl rfl ZaW rfl rfl rfl rfl rfl rfl rfl rfl ?_)))))⟩
 refine aA 10 rfl (h:=Zv kr kr ?_)
 refine Zd (ZF [_,_,_,_,_,_] rfl (Za (xL [_,_] Ze5 0 (h:=Zh (Zs rfl rfl en8 rfl (ZS _ _ ⟨x.next,x.items⟩ _ hx om2) ?_)))))
 rintro _ B155 _ hle155 ⟨q155,c155,l155,rfl,rfl,rfl,hv155⟩
 refine xAl [_,_] Za6 (h:=fun b156=>xS [_,_] 7 [_,_] ZaW (h:=ZF [_,_,_,_,_,_,_,_] rfl (Za (xL [_,_,_] ZgG 1 (h:=Zh (Zs rfl rfl Zen rfl (ZI _ _ z _ hz om2) ?_))))))
 rintro _ B157 _ hle157 ⟨q157,c157,l157,rfl,rfl,rfl,hv157⟩
 refine xAl [_,_,_] ZjH (h:=fun b158=>xS [_,_,_] 9 [_,_,_] Zk9 (h:=ZF [_,_,_,_,_,_,_,_,_,_] rfl (Za (xL [_,_] ZQ 7 (h:=xL [_,_,_] ZfU 9 (h:=Zh (ZX [6,8] rfl rfl rfl rfl ZeO rfl (Zx.borrowK 2 fun hm159=>ZY _ _ x _ _ z _ (hv155.lendK Zz.known Zb.mono 0 rfl hm159 om) (hv157.lendK Zt.any 1 rfl hm159 om) (by first | assumption | omega | (simp;omega)) (by first | assumption | omega | (simp;omega))) ?_)))))))
 rintro _ B159 _ hle159 ⟨BB159,_,rfl,hB159,_,hm159,_,l159,a159,c159,rfl,rfl,hd159⟩
 replace hx:=hx.mono Zb.mono hle159
 replace hz:=hz.mono Zt.mono hle159
 replace hv154:=hv154.mono Zb.mono hle159
 replace hv157:=hv157.mono Zt.mono hle159
 refine xM (h:=xE (h:=xE (h:=xAl [_,_] Za6 (h:=fun b160=>xS [_,_] 11 [_,_] ZaW (h:=xA (h:=ZF [_,_,_,_,_,_,_,_,_,_,_,_] rfl (Zi (Za (xL [_,_] ZQ 11 (h:=xL [_,_] ZQ 2 (h:=Zh (ZJ [10,5] rfl rfl rfl rfl rfl Zcy rfl (Z8.borrowL fun hm161=>Zy _ _ _ _ ((Zai x z).1) ((Zai x z).1) _ (hd159.lendK Zz.known Zb.mono 0 rfl hm161 om) (hv154.lendR Zb.mono 1 rfl hm161 om)) ?_))))))))))))
 refine xN (h:=xM (h:=Zq (d:=49) rfl (fun g3=>by simp at g3) (fun g3=>?_)))
 try simp only [sQ,ne_eq] at g3
 refine xM (h:=xM (h:=Zh (Zal rfl rfl rfl rfl rfl (Zav Try.underlying4) (xF (h:=Zc rfl (fun g4=>by simp at g4) (fun g4=>?_))))))
 try simp only [sQ,ne_eq] at g4
 refine Ze (Zd (Zi (Zi (Z9 (keeps _ [0,7] _) mo kr ⟨Kn.le.refl _,Zat.refl _ _⟩ (fun _ _=>?_)))))
 refine aT 0 rfl (Z2 fun D B L hI=>ZN [_,_] rfl rfl ZQ rfl (Za4 7 (hI.2.2.1.trans rfl) rfl rfl) r4) (h:=aT 1 rfl (Z2 fun D B L hI=>ZN [_,_] rfl rfl Ze5 rfl (Za4 0 (hI.2.1.trans rfl) rfl rfl) r4) (h:=Zp 2 kr rfl kr (Zs rfl rfl en8 rfl (ZS _ _ ⟨x.next,x.items⟩ _ hx om2) ?_)))
 rintro _ B162 _ hle162 ⟨q162,c162,l162,rfl,rfl,rfl,hv162⟩
 refine ⟨⟨Kn.le.refl _,t2⟩,(Zbv 12 rfl hv162 Zz.known Zb.mono om (fun B' hle'=>⟨hle',t2⟩) (fun B163 hle163 hr163=>?_))⟩
 replace hx:=hx.mono Zb.mono hle163
 replace hz:=hz.mono Zt.mono hle163
 replace hv154:=hv154.mono Zb.mono hle163
 replace hv157:=hv157.mono Zt.mono hle163
 have hr163n:=hr163.len
 refine Zp 3 kr rfl kr (ZJ [6] rfl rfl rfl rfl rfl Zcy rfl (Z8.borrowL fun hm164=>Zy _ _ _ _ x x _ (hv155.lendK Zz.known Zb.mono 0 rfl hm164 om) (hr163.mono Zb.mono (Kn.le_add _ _))) ?_)
 refine ⟨⟨hle163,t2⟩,(aN 4 rfl (h:=Zv kr kr ?_))⟩
 refine Zd (ZF [_,_,_,_,_,_,_,_,_,_,_,_,_] rfl (Zc rfl (fun g5=>by simp at g5) (fun g5=>?_)))
 try simp only [sQ,ne_eq] at g5
 refine Ze (Zd (Zi (Zi (Z9 (keeps _ [1,9] _) mo kr ⟨Kn.le.refl _,Zat.refl _ _⟩ (fun _ _=>?_)))))
 refine aT 0 rfl (Z2 fun D B L hI=>ZN [_,_,_] rfl rfl ZfU rfl (Za4 9 (hI.2.2.1.trans rfl) rfl rfl) r4) (h:=aT 1 rfl (Z2 fun D B L hI=>ZN [_,_,_] rfl rfl ZgG rfl (Za4 1 (hI.2.1.trans rfl) rfl rfl) r4) (h:=Zp 2 kr rfl kr (Zs rfl rfl Zen rfl (ZI _ _ z _ hz om2) ?_)))
 rintro _ B165 _ hle165 ⟨q165,c165,l165,rfl,rfl,rfl,hv165⟩
 refine ⟨⟨Kn.le.refl _,t2⟩,(Za3 13 rfl hv165 Zt.any om (fun B' hle'=>⟨hle',t2⟩) (fun B166 hle166 hr166=>?_))⟩
 replace hx:=hx.mono Zb.mono hle166
 replace hz:=hz.mono Zt.mono hle166
 replace hv154:=hv154.mono Zb.mono hle166
 replace hv157:=hv157.mono Zt.mono hle166
 have hr166n:=hr166.len
 refine Zp 3 kr rfl kr (ZdQ 8 rfl rfl rfl ZlB rfl (Z8.borrow fun hm167=>Zcp _ _ _ _ z z _ (hv157.lend Zt.mono hm167 om) (hr166.mono Zt.mono (Kn.le_add _ _))) ?_)
 refine ⟨⟨hle166,t2⟩,(aN 4 rfl (h:=Zv kr kr ?_))⟩
 refine Zd (ZF [_,_,_,_,_,_,_,_,_,_,_,_,_,_] rfl (Zc rfl (fun g6=>by simp at g6) (fun g6=>?_)))
 try simp only [sQ,ne_eq] at g6
 refine Ze (Zd (Za (xA (h:=Za (xL [_,_] ZQ 7 (h:=xM (h:=Zh (ZX [6] rfl rfl rfl rfl ZiQ rfl (Zar _ _ x _ 1 oa oz _ hv155) ?_))))))))
 rintro _ B168 _ hle168 ⟨rfl,l168a,rfl,rfl,hs168a⟩
 refine xA (h:=ZF [_,_,_,_,_,_,_,_,_,_,_,_,_,_] rfl (Za (xL [_,_,_] ZfU 9 (h:=xM (h:=Zh (ZX [8] rfl rfl rfl rfl ZlA rfl (ZbB _ _ z _ (kL ZaC 1 x.items) oz oz _ (hv157.anyK Zt.any)) ?_))))))
 rintro _ B169 _ hle169 ⟨rfl,l169,rfl,rfl,hs169⟩
 refine xA (h:=ZF [_,_,_,_,_,_,_,_,_,_,_,_,_,_] rfl (Zi (Za (xM (h:=ZO (h:=xM (h:=Zq (d:=72) rfl (fun g7=>by first | omega | (simp at g7;done) | (simp at g7;omega)) (fun g7=>?_))))))))
 try simp only [sQ,ne_eq] at g7
 refine xL [_,_] ZQ 11 (h:=xL [_,_] ZQ 2 (h:=Zh (ZJ [10,5] rfl rfl rfl rfl rfl Zcy rfl (Z8.borrowL fun hm170=>Zy _ _ _ _ ((Zai x z).1) ((Zai x z).1) _ (hd159.lendK Zz.known Zb.mono 0 rfl hm170 om) (hv154.lendR Zb.mono 1 rfl hm170 om)) ?_)))
 refine xN (h:=xF (h:=xM (h:=Zq (d:=78) rfl (fun g8=>by simp at g8) (fun g8=>?_))))
 try simp only [sQ,ne_eq] at g8
 refine xM (h:=xM (h:=Zh (Zal rfl rfl rfl rfl rfl (Zav Try.underlying4) (xF (h:=Zc rfl (fun g9=>by simp at g9) (fun g9=>?_))))))
 try simp only [sQ,ne_eq] at g9
 refine Ze (Zd (Za (xA (h:=Za (xL [_,_] ZQ 11 (h:=xM (h:=Zh (ZX [10] rfl rfl rfl rfl ZiQ rfl (Zar _ _ ((Zai x z).1) _ 1 oa oz _ hd159) ?_))))))))
 rintro _ B171 _ hle171 ⟨rfl,l171a,rfl,rfl,hs171a⟩
 refine xA (h:=ZF [_,_,_,_,_,_,_,_,_,_,_,_,_,_] rfl (Za (xA (h:=Za (xL [_,_] ZQ 11 (h:=xM (h:=Zh (ZJ [10] rfl rfl rfl rfl rfl Zes rfl (Z8.borrowL fun hm172=>ZE _ _ (Zai x z).1 1 oa _ (hs171a.lendK Zz.known Zb.mono 0 rfl hm172 (by simp only [Zw,ZD,ZC,ZB,Zab];omega))) ?_))))))))
 refine xA (h:=Zi (Za (xM (h:=ZO (h:=Zc rfl (fun ga=>by first | omega | (simp at ga;done) | (simp at ga;omega)) (fun ga=>?_))))))
 try simp only [sQ,ne_eq] at ga
 refine Ze (Zd (Zi (Za (xM (h:=xM (h:=Zaj (h:=Zc rfl (fun gb=>by simp at gb) (fun gb=>?_))))))))
 try simp only [sQ,ne_eq] at gb
 refine Ze (Zd (Zi (Z9 (keeps _ [0,1] _) mo kr ⟨Kn.le.refl _,Zat.refl _ _⟩ (fun _ _=>?_))))
 refine aT 0 rfl (Z2 fun D B L hI=>ZN [_,_] rfl rfl Ze5 rfl (Za4 0 (hI.2.1.trans rfl) rfl rfl) r4) (h:=aT 2 rfl (Z2 fun D B L hI=>ZN [_,_,_] rfl rfl ZgG rfl (Za4 1 (hI.2.2.1.trans rfl) rfl rfl) r4) (h:=ZaO [1,8] kr kr kr ⟨?_,?_⟩))
 refine (Zs rfl rfl en8 rfl (ZS _ _ ⟨x.next,x.items⟩ _ hx om2) ?_)
 rintro _ B173 _ hle173 ⟨q173,c173,l173,rfl,rfl,rfl,hv173⟩
 refine ⟨⟨Kn.le.refl _,t2⟩,(Zbv 14 rfl hv173 Zz.known Zb.mono om (fun B' hle'=>⟨hle',t2⟩) (fun B174 hle174 hr174=>?_))⟩
 replace hx:=hx.mono Zb.mono hle174
 replace hz:=hz.mono Zt.mono hle174
 replace hv154:=hv154.mono Zb.mono hle174
 replace hs169:=hs169.mono Zt.mono hle174
 have hr174n:=hr174.len
 refine ZaO [3,8] kr kr kr ⟨?_,?_⟩
 refine (Zs rfl rfl Zen rfl (ZI _ _ z _ hz om2) ?_)
 rintro _ B175 _ hle175 ⟨q175,c175,l175,rfl,rfl,rfl,hv175⟩
 refine ⟨⟨hle174,t2⟩,(Za3 15 rfl hv175 Zt.any om (fun B' hle'=>⟨hle174.trans hle',t2⟩) (fun B176 hle176 hr176=>?_))⟩
 replace hx:=hx.mono Zb.mono hle176
 replace hz:=hz.mono Zt.mono hle176
 replace hr174:=hr174.mono Zb.mono hle176
 replace hv154:=hv154.mono Zb.mono hle176
 replace hs169:=hs169.mono Zt.mono hle176
 have hr176n:=hr176.len
 refine ZaO [4,8] kr kr kr ⟨?_,?_⟩
 refine (Zs rfl rfl ZeO rfl (ZY _ _ x _ _ z _ hr174 hr176 (by first | assumption | omega | (simp;omega)) (by first | assumption | omega | (simp;omega))) ?_)
 rintro _ B177 _ hle177 ⟨l177,a177,c177,rfl,rfl,hd177⟩
 replace hx:=hx.mono Zb.mono hle177
 replace hz:=hz.mono Zt.mono hle177
 replace hr174:=hr174.mono Zb.mono hle177
 replace hr176:=hr176.mono Zt.mono hle177
 replace hv154:=hv154.mono Zb.mono hle177
 replace hs169:=hs169.mono Zt.mono hle177
 refine ⟨⟨((hle174.trans hle176).trans hle177),t2⟩,(aM 5 rfl (h:=aE 6 rfl (h:=aE 7 rfl (h:=Zp 8 kr rfl kr (Zaq (l:=[_,_]) rfl rfl Za6 rfl (fun b178=>?_))))))⟩
 refine ⟨⟨((hle174.trans hle176).trans hle177),t2⟩,(Zas 9 kr rfl kr kr (ZV [_,_] 17 [_,_] rfl rfl ZaW rfl rfl rfl rfl rfl rfl rfl rfl ?_))⟩
 refine aA 10 rfl (h:=Zv kr kr ?_)
 refine Zd (ZF [_,_,_,_,_,_,_,_,_,_,_,_,_,_,_,_,_,_] rfl (Zi (Za (xL [_,_] ZQ 17 (h:=xL [_,_] ZQ 2 (h:=Zh (ZJ [16,5] rfl rfl rfl rfl rfl Zcy rfl (Z8.borrowL fun hm179=>Zy _ _ _ _ ((Zai x z).1) ((Zai x z).1) _ (hd177.lendK Zz.known Zb.mono 0 rfl hm179 om) (hv154.lendR Zb.mono 1 rfl hm179 om)) ?_)))))))
 refine xN (h:=xM (h:=Zq (d:=106) rfl (fun gc=>by simp at gc) (fun gc=>?_)))
 try simp only [sQ,ne_eq] at gc
 refine xM (h:=xM (h:=Zh (Zal rfl rfl rfl rfl rfl (Zav Try.underlying4) (xF (h:=Zc rfl (fun gd=>by simp at gd) (fun gd=>?_))))))
 try simp only [sQ,ne_eq] at gd
 refine Ze (Zd (Za (xA (h:=Za (xL [_,_] ZQ 11 (h:=xM (h:=Zh (ZJ [10] rfl rfl rfl rfl rfl Zes rfl (Z8.borrowL fun hm180=>ZE _ _ (Zai x z).1 1 oa _ (hs171a.lendK Zz.known Zb.mono 0 rfl hm180 (by simp only [Zw,ZD,ZC,ZB,Zab];omega))) ?_))))))))
 refine xA (h:=Zi (Za (xM (h:=ZO (h:=Zc rfl (fun ge=>by first | omega | (simp at ge;done) | (simp at ge;omega)) (fun ge=>?_))))))
 try simp only [sQ,ne_eq] at ge
 refine Ze (Zd (Zi (Za (xM (h:=xM (h:=Zaj (h:=Zc rfl (fun gf=>by simp at gf) (fun gf=>?_))))))))
 try simp only [sQ,ne_eq] at gf
 refine Ze (Zd (Za (xA (h:=Zm ?_))))
 exact Z4 .ret (.inl rfl) [_] t1 rfl
 refine (Zaq (l:=[_,_]) rfl rfl Za6 rfl (fun b181=>⟨⟨(hle174.trans hle176),t2⟩,(Zp 4 kr rfl kr (Zs rfl rfl ZeO rfl (ZY _ _ x _ _ z _ hr174 hr176 (by first | assumption | omega | (simp;omega)) (by first | assumption | omega | (simp;omega))) ?_))⟩))
 rintro _ B182 _ hle182 ⟨l182,a182,c182,rfl,rfl,hd182⟩
 replace hx:=hx.mono Zb.mono hle182
 replace hz:=hz.mono Zt.mono hle182
 replace hr174:=hr174.mono Zb.mono hle182
 replace hr176:=hr176.mono Zt.mono hle182
 replace hv154:=hv154.mono Zb.mono hle182
 replace hs169:=hs169.mono Zt.mono hle182
 refine ⟨⟨((hle174.trans hle176).trans hle182),t2⟩,(aM 5 rfl (h:=aE 6 rfl (h:=aE 7 rfl (h:=Zas 9 kr rfl kr kr (ZV [_,_] 16 [_,_] rfl rfl ZaW rfl rfl rfl rfl rfl rfl rfl rfl ?_)))))⟩
 refine aA 10 rfl (h:=Zv kr kr ?_)
 refine Zd (ZF [_,_,_,_,_,_,_,_,_,_,_,_,_,_,_,_,_,_] rfl (Zi (Za (xL [_,_] ZQ 16 (h:=xL [_,_] ZQ 2 (h:=Zh (ZJ [17,5] rfl rfl rfl rfl rfl Zcy rfl (Z8.borrowL fun hm183=>Zy _ _ _ _ ((Zai x z).1) ((Zai x z).1) _ (hd182.lendK Zz.known Zb.mono 0 rfl hm183 om) (hv154.lendR Zb.mono 1 rfl hm183 om)) ?_)))))))
 refine xN (h:=xM (h:=Zq (d:=106) rfl (fun gc=>by simp at gc) (fun gc=>?_)))
 try simp only [sQ,ne_eq] at gc
 refine xM (h:=xM (h:=Zh (Zal rfl rfl rfl rfl rfl (Zav Try.underlying4) (xF (h:=Zc rfl (fun gd=>by simp at gd) (fun gd=>?_))))))
 try simp only [sQ,ne_eq] at gd
 refine Ze (Zd (Za (xA (h:=Za (xL [_,_] ZQ 11 (h:=xM (h:=Zh (ZJ [10] rfl rfl rfl rfl rfl Zes rfl (Z8.borrowL fun hm184=>ZE _ _ (Zai x z).1 1 oa _ (hs171a.lendK Zz.known Zb.mono 0 rfl hm184 (by simp only [Zw,ZD,ZC,ZB,Zab];omega))) ?_))))))))
 refine xA (h:=Zi (Za (xM (h:=ZO (h:=Zc rfl (fun ge=>by first | omega | (simp at ge;done) | (simp at ge;omega)) (fun ge=>?_))))))
 try simp only [sQ,ne_eq] at ge
 refine Ze (Zd (Zi (Za (xM (h:=xM (h:=Zaj (h:=Zc rfl (fun gf=>by simp at gf) (fun gf=>?_))))))))
 try simp only [sQ,ne_eq] at gf
 refine Ze (Zd (Za (xA (h:=Zm ?_))))
 exact Z4 .ret (.inl rfl) [_] t1 rfl
 refine (Zaq (l:=[_,_]) rfl rfl Za6 rfl (fun b185=>⟨⟨hle174,t2⟩,(Zp 3 kr rfl kr (Zs rfl rfl Zen rfl (ZI _ _ z _ hz om2) ?_))⟩))
 rintro _ B186 _ hle186 ⟨q186,c186,l186,rfl,rfl,rfl,hv186⟩
 refine ⟨⟨hle174,t2⟩,(Za3 16 rfl hv186 Zt.any om (fun B' hle'=>⟨hle174.trans hle',t2⟩) (fun B187 hle187 hr187=>?_))⟩
 replace hx:=hx.mono Zb.mono hle187
 replace hz:=hz.mono Zt.mono hle187
 replace hr174:=hr174.mono Zb.mono hle187
 replace hv154:=hv154.mono Zb.mono hle187
 replace hs169:=hs169.mono Zt.mono hle187
 have hr187n:=hr187.len
 refine Zp 4 kr rfl kr (Zs rfl rfl ZeO rfl (ZY _ _ x _ _ z _ hr174 hr187 (by first | assumption | omega | (simp;omega)) (by first | assumption | omega | (simp;omega))) ?_)
 rintro _ B188 _ hle188 ⟨l188,a188,c188,rfl,rfl,hd188⟩
 replace hx:=hx.mono Zb.mono hle188
 replace hz:=hz.mono Zt.mono hle188
 replace hr174:=hr174.mono Zb.mono hle188
 replace hr187:=hr187.mono Zt.mono hle188
 replace hv154:=hv154.mono Zb.mono hle188
 replace hs169:=hs169.mono Zt.mono hle188
 refine ⟨⟨((hle174.trans hle187).trans hle188),t2⟩,(aM 5 rfl (h:=aE 6 rfl (h:=aE 7 rfl (h:=Zas 9 kr rfl kr kr (ZV [_,_] 15 [_,_] rfl rfl ZaW rfl rfl rfl rfl rfl rfl rfl rfl ?_)))))⟩
 refine aA 10 rfl (h:=Zv kr kr ?_)
 refine Zd (ZF [_,_,_,_,_,_,_,_,_,_,_,_,_,_,_,_,_,_] rfl (Zi (Za (xL [_,_] ZQ 15 (h:=xL [_,_] ZQ 2 (h:=Zh (ZJ [17,5] rfl rfl rfl rfl rfl Zcy rfl (Z8.borrowL fun hm189=>Zy _ _ _ _ ((Zai x z).1) ((Zai x z).1) _ (hd188.lendK Zz.known Zb.mono 0 rfl hm189 om) (hv154.lendR Zb.mono 1 rfl hm189 om)) ?_)))))))
 refine xN (h:=xM (h:=Zq (d:=106) rfl (fun gc=>by simp at gc) (fun gc=>?_)))
 try simp only [sQ,ne_eq] at gc
 refine xM (h:=xM (h:=Zh (Zal rfl rfl rfl rfl rfl (Zav Try.underlying4) (xF (h:=Zc rfl (fun gd=>by simp at gd) (fun gd=>?_))))))
 try simp only [sQ,ne_eq] at gd
 refine Ze (Zd (Za (xA (h:=Za (xL [_,_] ZQ 11 (h:=xM (h:=Zh (ZJ [10] rfl rfl rfl rfl rfl Zes rfl (Z8.borrowL fun hm190=>ZE _ _ (Zai x z).1 1 oa _ (hs171a.lendK Zz.known Zb.mono 0 rfl hm190 (by simp only [Zw,ZD,ZC,ZB,Zab];omega))) ?_))))))))
 refine xA (h:=Zi (Za (xM (h:=ZO (h:=Zc rfl (fun ge=>by first | omega | (simp at ge;done) | (simp at ge;omega)) (fun ge=>?_))))))
 try simp only [sQ,ne_eq] at ge
 refine Ze (Zd (Zi (Za (xM (h:=xM (h:=Zaj (h:=Zc rfl (fun gf=>by simp at gf) (fun gf=>?_))))))))
 try simp only [sQ,ne_eq] at gf
 refine Ze (Zd (Za (xA (h:=Zm ?_))))
 exact Z4 .ret (.inl rfl) [_] t1 rfl
 refine (Zaq (l:=[_,_]) rfl rfl Za6 rfl (fun b191=>⟨⟨Kn.le.refl _,t2⟩,(Zp 1 kr rfl kr (Zs rfl rfl en8 rfl (ZS _ _ ⟨x.next,x.items⟩ _ hx om2) ?_))⟩))
 rintro _ B192 _ hle192 ⟨q192,c192,l192,rfl,rfl,rfl,hv192⟩
 refine ⟨⟨Kn.le.refl _,t2⟩,(Zbv 15 rfl hv192 Zz.known Zb.mono om (fun B' hle'=>⟨hle',t2⟩) (fun B193 hle193 hr193=>?_))⟩
 replace hx:=hx.mono Zb.mono hle193
 replace hz:=hz.mono Zt.mono hle193
 replace hv154:=hv154.mono Zb.mono hle193
 replace hs169:=hs169.mono Zt.mono hle193
 have hr193n:=hr193.len
 refine Zp 3 kr rfl kr (Zs rfl rfl Zen rfl (ZI _ _ z _ hz om2) ?_)
 rintro _ B194 _ hle194 ⟨q194,c194,l194,rfl,rfl,rfl,hv194⟩
 refine ⟨⟨hle193,t2⟩,(Za3 16 rfl hv194 Zt.any om (fun B' hle'=>⟨hle193.trans hle',t2⟩) (fun B195 hle195 hr195=>?_))⟩
 replace hx:=hx.mono Zb.mono hle195
 replace hz:=hz.mono Zt.mono hle195
 replace hr193:=hr193.mono Zb.mono hle195
 replace hv154:=hv154.mono Zb.mono hle195
 replace hs169:=hs169.mono Zt.mono hle195
 have hr195n:=hr195.len
 refine Zp 4 kr rfl kr (Zs rfl rfl ZeO rfl (ZY _ _ x _ _ z _ hr193 hr195 (by first | assumption | omega | (simp;omega)) (by first | assumption | omega | (simp;omega))) ?_)
 rintro _ B196 _ hle196 ⟨l196,a196,c196,rfl,rfl,hd196⟩
 replace hx:=hx.mono Zb.mono hle196
 replace hz:=hz.mono Zt.mono hle196
 replace hr193:=hr193.mono Zb.mono hle196
 replace hr195:=hr195.mono Zt.mono hle196
 replace hv154:=hv154.mono Zb.mono hle196
 replace hs169:=hs169.mono Zt.mono hle196
 refine ⟨⟨((hle193.trans hle195).trans hle196),t2⟩,(aM 5 rfl (h:=aE 6 rfl (h:=aE 7 rfl (h:=Zas 9 kr rfl kr kr (ZV [_,_] 14 [_,_] rfl rfl ZaW rfl rfl rfl rfl rfl rfl rfl rfl ?_)))))⟩
 refine aA 10 rfl (h:=Zv kr kr ?_)
 refine Zd (ZF [_,_,_,_,_,_,_,_,_,_,_,_,_,_,_,_,_,_] rfl (Zi (Za (xL [_,_] ZQ 14 (h:=xL [_,_] ZQ 2 (h:=Zh (ZJ [17,5] rfl rfl rfl rfl rfl Zcy rfl (Z8.borrowL fun hm197=>Zy _ _ _ _ ((Zai x z).1) ((Zai x z).1) _ (hd196.lendK Zz.known Zb.mono 0 rfl hm197 om) (hv154.lendR Zb.mono 1 rfl hm197 om)) ?_)))))))
 refine xN (h:=xM (h:=Zq (d:=106) rfl (fun gc=>by simp at gc) (fun gc=>?_)))
 try simp only [sQ,ne_eq] at gc
 refine xM (h:=xM (h:=Zh (Zal rfl rfl rfl rfl rfl (Zav Try.underlying4) (xF (h:=Zc rfl (fun gd=>by simp at gd) (fun gd=>?_))))))
 try simp only [sQ,ne_eq] at gd
 refine Ze (Zd (Za (xA (h:=Za (xL [_,_] ZQ 11 (h:=xM (h:=Zh (ZJ [10] rfl rfl rfl rfl rfl Zes rfl (Z8.borrowL fun hm198=>ZE _ _ (Zai x z).1 1 oa _ (hs171a.lendK Zz.known Zb.mono 0 rfl hm198 (by simp only [Zw,ZD,ZC,ZB,Zab];omega))) ?_))))))))
 refine xA (h:=Zi (Za (xM (h:=ZO (h:=Zc rfl (fun ge=>by first | omega | (simp at ge;done) | (simp at ge;omega)) (fun ge=>?_))))))
 try simp only [sQ,ne_eq] at ge
 refine Ze (Zd (Zi (Za (xM (h:=xM (h:=Zaj (h:=Zc rfl (fun gf=>by simp at gf) (fun gf=>?_))))))))
 try simp only [sQ,ne_eq] at gf
 refine Ze (Zd (Za (xA (h:=Zm ?_))))
 exact Z4 .ret (.inl rfl) [_] t1 rfl

end Go.Proofs.Ytpdpnilbhlojbaa
