/-
  WHAT THE FUNCTIONS THAT THE LAWS REACH COMPUTE: each function's contract, proved off its printed body (the text is written by program). No condition beyond those that each theorem states.
-/
import Derived.Test.YtpgdailphhongaaGreatDoorC0
namespace Go.Proofs.YtpgdailphhongaaGreatDoor
open Go Go.BL
set_option linter.unusedVariables false
set_option linter.unusedSimpArgs false
set_option maxRecDepth 4000
variable {J : JoinT}
set_option maxHeartbeats 400000 in
theorem ZoE (b:Nat) (q:Option Addr) (cp:Nat) (xs:List Int) (l:Cells) (z:Int) (hn:xs.length<2000000) (hh:ZdH xs) (B:Kn) (hv:Z2 B l q cp 3 1 Zbz xs):ZA (pj J) 126 [.iface 170 (ptr ⟨b,0,none⟩),.iface 3 (.int .i64 z)] B [ZaE b [.slice q xs.length cp] 172,l] (fun v B' Ls=>B'=B∧∃q' c' ys l',Ls=[ZaE b [.slice q' ys.length c'] 172,l']∧Z2 B l' q' c' 3 1 Zbz ys∧ys.Perm (xs ++ [z])∧ZdH ys):=by
 refine Zc 12 Tryz.func126 rfl rfl rfl (Nat.le_of_ble_eq_true rfl) ?_
 refine Za (xM (h:=xM (h:=Zo (Zg3 [0,1] rfl rfl rfl rfl ZwN rfl rfl (ZlH Zoo Tryz.underlying170) (Zr0 _ _ _ _ _ _ oz _ hv) ?_))))
 rintro _ B1 _ hle1 ⟨rfl,q1,c1,l1,rfl,hv1⟩
 refine Zv [_,_] rfl (Ze (xM (h:=xM (h:=Zo (ZfE 1 rfl rfl rfl Zvv rfl rfl (ZbC Zlk Tryz.underlying170 Zfs (atL 0 rfl rfl rfl)) (ZaL.borrow fun hm2=>Zqd _ _ _ _) (Zo (Zjc (r:=((xs.length:Nat):Int)) rfl rfl rfl rfl ((congrArg _ (show _=((xs.length:Nat):Int) from by rw [List.length_append,List.length_singleton];omega)).trans (ZaX oz oz)) ?_)))))))
 refine Zo (Z4 [0,1] rfl rfl rfl rfl Zw5 rfl (Zr3 _ _ _ _ _ _ (by simp) (by simp;omega) (Zrx hh) _ hv1) ?_)
 rintro _ Bu _ hleu ⟨rfl,ysu,lu,rfl,hvu,hpu,hhu⟩
 exact Zad .normal (.inr rfl) [] [0,1] rfl trivial ⟨rfl,_,_,_,_,rfl,hvu,hpu,hhu⟩

set_option maxHeartbeats 400000 in
theorem ZoG (b:Nat) (q:Option Addr) (cp:Nat) (xs:List Int) (l:Cells) (m:Nat) (hm:m≤xs.length) (hm0:0<xs.length) (hn:xs.length≤2000000) (hh:Zff xs m 0) (B:Kn) (hv:Z2 B l q cp 3 1 Zbz xs):ZA (pj J) 164 [.iface 170 (ptr ⟨b,0,none⟩),.int .i64 0,.int .i64 m] B [ZaE b [.slice q xs.length cp] 172,l] (fun v B' Ls=>B'=B∧∃ys l',Ls=[ZaE b [.slice q ys.length cp] 172,l']∧Z2 B l' q cp 3 1 Zbz ys∧ys.Perm xs∧ZsE ys m∧(∀k,m≤k→hat ys k=hat xs k)):=by
 refine Zc 48 Tryz.func164 rfl rfl rfl (Nat.le_of_ble_eq_true rfl) ?_
 refine Za (xA (h:=Za (xM (h:=xA (h:=Zl (Zp (ZQ (α:=Nat × List Int × Cells) [0,1,2,6] (fun g=>[(7,.int .i64 g.1)]) [0,1] (fun g=>[ZaE b [.slice q g.2.1.length cp] 172,g.2.2]) (fun g Bx=>Bx=B∧g.1<g.2.1.length∧g.2.1.Perm xs∧Zff g.2.1 m g.1∧(∀k,m≤k→hat g.2.1 k=hat xs k)∧Z2 B g.2.2 q cp 3 1 Zbz g.2.1) (fun g=>xs.length - g.1) (0,xs,l) t1 rfl (⟨rfl,hm0,.refl _,hh,fun _ _=>rfl,hv⟩) (fun g B1 hle1 hI=>?_))))))))
 obtain ⟨rfl,hk,hp,hb,hs,hv⟩:=hI
 have hpl:=hp.length_eq
 refine ZO [(0,_),(1,_),(2,_),(6,_),(7,_)] [_,_] t5 rfl (Zp (Za (xM (h:=Zo (ZkN (r:=((2*g.1:Nat):Int)) rfl rfl rfl rfl ((congrArg _ (show _=((2*g.1:Nat):Int) from by omega)).trans (ZaX oz oz)) ?_)))))
 refine Zo (ZeR (r:=((2*g.1+1:Nat):Int)) rfl rfl rfl rfl ((congrArg _ (show _=((2*g.1+1:Nat):Int) from by omega)).trans (ZaX oz oz)) ?_)
 refine xA (h:=Zl (Za (xM (h:=xM (h:=Zd8 (h:=xM (h:=Zt (d:=18) rfl (fun g1=>?_) (fun g1=>?_))))))))
 try simp only [sQ,ne_eq] at g1
 refine xP (h:=xP (h:=xT (h:=Zd (t:=true) rfl (fun _=>ZT (Zah (Zfl rfl (ZZ (ZH (Zf (Za (xM (h:=xM (h:=ZbM (h:=xA (h:=Zh ?_)))))))))))) (fun h=>Bool.noConfusion h))))
 exact Zad .ret (.inl rfl) [_] [0,1] rfl t1 ⟨rfl,_,_,rfl,hv,hp,ZqK hb oz,hs⟩
 try simp only [sQ,ne_eq] at g1
 refine xM (h:=Zag (h:=xF (h:=Zd rfl (fun g2=>by have:=of_decide_eq_true g2;omega) (fun g2=>?_))))
 try simp only [sQ,ne_eq] at g2
 refine Zj (Zf (Za (xM (h:=xA (h:=Zl (Za (xM (h:=Zo (ZeR (r:=((2*g.1+1+1:Nat):Int)) rfl rfl rfl rfl ((congrArg _ (show _=((2*g.1+1+1:Nat):Int) from by omega)).trans (ZaX oz oz)) ?_)))))))))
 refine xA (h:=Za (xM (h:=xM (h:=Zag (h:=xM (h:=Zt (d:=28) rfl (fun g3=>?_) (fun g3=>?_)))))))
 try simp only [sQ,ne_eq] at g3
 refine xM (h:=xM (h:=xM (h:=Zo (ZfE 1 rfl rfl rfl ZqE rfl rfl (ZbC Zef Tryz.underlying170 Zfs (atL 0 rfl rfl rfl)) (ZaL.borrow fun hm2=>Zgo _ _ _ _ _ _ _ (Za5 oz) (Za5 oz) _ (hv.lend Zbz.mono hm2 om)) ?_))))
 refine xT (h:=Zd rfl (fun g4=>?_) (fun g4=>?_))
 try simp only [sQ,ne_eq] at g4
 refine Ze (xM (h:=xA (h:=Zf (Zl (Za (xM (h:=xM (h:=xM (h:=Zo (ZfE 1 rfl rfl rfl ZqE rfl rfl (ZbC Zef Tryz.underlying170 Zfs (atL 0 rfl rfl rfl)) (ZaL.borrow fun hm3=>Zgo _ _ _ _ _ _ _ (Za5 oz) (Za5 oz) _ (hv.lend Zbz.mono hm3 om)) ?_))))))))))
 refine xN (h:=Zd rfl (fun g5=>?_) (fun g5=>?_))
 try simp only [sQ,ne_eq] at g5
 refine ZT (Zah (Zfl rfl (ZZ (ZH (Zf (Za (xM (h:=xM (h:=ZbM (h:=xA (h:=Zh ?_)))))))))))
 exact Zad .ret (.inl rfl) [_] [0,1] rfl t1 ⟨rfl,_,_,rfl,hv,hp,ZiV hb (by intro k h0 hk he;(try simp only [decide_eq_true_eq,decide_eq_false_iff_not,Bool.not_eq_true',Bool.not_eq_false',Int.not_lt] at *);rcases (show k=2*g.1+1∨k=2*g.1+1+1 from by omega) with rfl | rfl <;> omega),hs⟩
 try simp only [sQ,ne_eq] at g5
 refine Zj (Zf (Za (xM (h:=xM (h:=xM (h:=Zo (Zg3 [1] rfl rfl rfl rfl ZqD rfl rfl (ZbC Zee Tryz.underlying170 Zfs (atL 0 rfl rfl rfl)) (Zgn _ _ _ _ _ _ _ _ (Za5 oz) (Za5 oz) oz _ hv) ?_)))))))
 rintro _ B4 _ hle4 ⟨rfl,l4,rfl,hv4⟩
 refine Zv [_,_] rfl (Ze (xM (h:=xA (h:=Zz ?_))))
 rw [← Zdp g.2.1 g.1 (2*g.1+1+1)]
 have h5:hat g.2.1 (2*g.1+1+1)<hat g.2.1 g.1:=by simpa using g5
 exact ZB (2*g.1+1+1,(swp g.2.1 g.1 (2*g.1+1+1)),l4) [0,1] (so) ⟨rfl,by have:=Zdp g.2.1 g.1 (2*g.1+1+1);simp only [];omega,(Zgb oz oz).trans hp,ZiU oz oz oz oz hb (by intro k h0 hk he;(try simp only [decide_eq_true_eq,decide_eq_false_iff_not,Bool.not_eq_true',Bool.not_eq_false',Int.not_lt] at *);rcases (show k=2*g.1+1∨k=2*g.1+1+1 from by omega) with rfl | rfl <;> omega) h5,(fun k hk=>by rw [Ze6 oz oz,if_neg oz,if_neg oz];exact hs k hk),hv4⟩ t5 rfl
 try simp only [sQ,ne_eq] at g4
 refine Zj (Zf (Zl (Za (xM (h:=xM (h:=xM (h:=Zo (ZfE 1 rfl rfl rfl ZqE rfl rfl (ZbC Zef Tryz.underlying170 Zfs (atL 0 rfl rfl rfl)) (ZaL.borrow fun hm5=>Zgo _ _ _ _ _ _ _ (Za5 oz) (Za5 oz) _ (hv.lend Zbz.mono hm5 om)) ?_))))))))
 refine xN (h:=Zd rfl (fun g5=>?_) (fun g5=>?_))
 try simp only [sQ,ne_eq] at g5
 refine ZT (Zah (Zfl rfl (ZZ (ZH (Zf (Za (xM (h:=xM (h:=ZbM (h:=xA (h:=Zh ?_)))))))))))
 exact Zad .ret (.inl rfl) [_] [0,1] rfl t1 ⟨rfl,_,_,rfl,hv,hp,ZiV hb (by intro k h0 hk he;(try simp only [decide_eq_true_eq,decide_eq_false_iff_not,Bool.not_eq_true',Bool.not_eq_false',Int.not_lt] at *);rcases (show k=2*g.1+1∨k=2*g.1+1+1 from by omega) with rfl | rfl <;> omega),hs⟩
 try simp only [sQ,ne_eq] at g5
 refine Zj (Zf (Za (xM (h:=xM (h:=xM (h:=Zo (Zg3 [1] rfl rfl rfl rfl ZqD rfl rfl (ZbC Zee Tryz.underlying170 Zfs (atL 0 rfl rfl rfl)) (Zgn _ _ _ _ _ _ _ _ (Za5 oz) (Za5 oz) oz _ hv) ?_)))))))
 rintro _ B6 _ hle6 ⟨rfl,l6,rfl,hv6⟩
 refine Zv [_,_] rfl (Ze (xM (h:=xA (h:=Zz ?_))))
 rw [← Zdp g.2.1 g.1 (2*g.1+1)]
 have h5:hat g.2.1 (2*g.1+1)<hat g.2.1 g.1:=by simpa using g5
 exact ZB (2*g.1+1,(swp g.2.1 g.1 (2*g.1+1)),l6) [0,1] (so) ⟨rfl,by have:=Zdp g.2.1 g.1 (2*g.1+1);simp only [];omega,(Zgb oz oz).trans hp,ZiU oz oz oz oz hb (by intro k h0 hk he;(try simp only [decide_eq_true_eq,decide_eq_false_iff_not,Bool.not_eq_true',Bool.not_eq_false',Int.not_lt] at *);rcases (show k=2*g.1+1∨k=2*g.1+1+1 from by omega) with rfl | rfl <;> omega) h5,(fun k hk=>by rw [Ze6 oz oz,if_neg oz,if_neg oz];exact hs k hk),hv6⟩ t5 rfl
 try simp only [sQ,ne_eq] at g3
 refine xP (h:=xP (h:=xP (h:=xP (h:=xF (h:=Zd (t:=false) rfl (fun h=>Bool.noConfusion h) (fun _=>Zj (Zf (Zl (Za (xM (h:=xM (h:=xM (h:=?_)))))))))))))
 refine Zo (ZfE 1 rfl rfl rfl ZqE rfl rfl (ZbC Zef Tryz.underlying170 Zfs (atL 0 rfl rfl rfl)) (ZaL.borrow fun hm7=>Zgo _ _ _ _ _ _ _ (Za5 oz) (Za5 oz) _ (hv.lend Zbz.mono hm7 om)) ?_)
 refine xN (h:=Zd rfl (fun g5=>?_) (fun g5=>?_))
 try simp only [sQ,ne_eq] at g5
 refine ZT (Zah (Zfl rfl (ZZ (ZH (Zf (Za (xM (h:=xM (h:=ZbM (h:=xA (h:=Zh ?_)))))))))))
 exact Zad .ret (.inl rfl) [_] [0,1] rfl t1 ⟨rfl,_,_,rfl,hv,hp,ZiV hb (by intro k h0 hk he;(try simp only [decide_eq_true_eq,decide_eq_false_iff_not,Bool.not_eq_true',Bool.not_eq_false',Int.not_lt] at *);rcases (show k=2*g.1+1∨k=2*g.1+1+1 from by omega) with rfl | rfl <;> omega),hs⟩
 try simp only [sQ,ne_eq] at g5
 refine Zj (Zf (Za (xM (h:=xM (h:=xM (h:=Zo (Zg3 [1] rfl rfl rfl rfl ZqD rfl rfl (ZbC Zee Tryz.underlying170 Zfs (atL 0 rfl rfl rfl)) (Zgn _ _ _ _ _ _ _ _ (Za5 oz) (Za5 oz) oz _ hv) ?_)))))))
 rintro _ B8 _ hle8 ⟨rfl,l8,rfl,hv8⟩
 refine Zv [_,_] rfl (Ze (xM (h:=xA (h:=Zz ?_))))
 rw [← Zdp g.2.1 g.1 (2*g.1+1)]
 have h5:hat g.2.1 (2*g.1+1)<hat g.2.1 g.1:=by simpa using g5
 exact ZB (2*g.1+1,(swp g.2.1 g.1 (2*g.1+1)),l8) [0,1] (so) ⟨rfl,by have:=Zdp g.2.1 g.1 (2*g.1+1);simp only [];omega,(Zgb oz oz).trans hp,ZiU oz oz oz oz hb (by intro k h0 hk he;(try simp only [decide_eq_true_eq,decide_eq_false_iff_not,Bool.not_eq_true',Bool.not_eq_false',Int.not_lt] at *);rcases (show k=2*g.1+1∨k=2*g.1+1+1 from by omega) with rfl | rfl <;> omega) h5,(fun k hk=>by rw [Ze6 oz oz,if_neg oz,if_neg oz];exact hs k hk),hv8⟩ t5 rfl

set_option maxHeartbeats 400000 in
theorem Zqf (b:Nat) (q:Option Addr) (cp:Nat) (xs:List Int) (l:Cells) (hm0:0<xs.length) (hn:xs.length≤2000000) (hh:ZdH xs) (B:Kn) (hv:Z2 B l q cp 3 1 Zbz xs):ZA (pj J) 127 [.iface 170 (ptr ⟨b,0,none⟩)] B [ZaE b [.slice q xs.length cp] 172,l] (fun v B' Ls=>B'=B∧v = .iface 3 (.int .i64 (hat xs 0))∧∃ys l',Ls=[ZaE b [.slice q ys.length cp] 172,l']∧Z2 B l' q cp 3 1 Zbz ys∧(hat xs 0 :: ys).Perm xs∧ZdH ys):=by
 refine Zc 15 Tryz.func127 rfl rfl rfl (Nat.le_of_ble_eq_true rfl) ?_
 refine Za (xA (h:=Za (xM (h:=Zo (ZfE 1 rfl rfl rfl Zvv rfl rfl (ZbC Zlk Tryz.underlying170 Zfs (atL 0 rfl rfl rfl)) (ZaL.borrow fun hm1=>Zqd _ _ _ _) (Zo (Zjc (r:=((xs.length - 1:Nat):Int)) rfl rfl rfl rfl ((congrArg _ (show _=((xs.length - 1:Nat):Int) from by omega)).trans (ZaX oz oz)) ?_)))))))
 refine xA (h:=Za (xM (h:=xM (h:=Zo (Zg3 [1] rfl rfl rfl rfl ZqD rfl rfl (ZbC Zee Tryz.underlying170 Zfs (atL 0 rfl rfl rfl)) (Zgn _ _ _ _ _ _ _ _ (Za5 oz) (Za5 oz) oz _ hv) ?_)))))
 rintro _ Bs _ hles ⟨rfl,ls,rfl,hvs⟩
 refine Zv [_,_] rfl ?_
 obtain ⟨zs,hzs,hzl⟩ :∃zs,zs=swp xs 0 (xs.length - 1)∧zs.length=xs.length:=⟨_,rfl,Zdp _ _ _⟩
 have hzz:=hvs
 change Z2 _ _ _ _ _ _ _ (swp xs 0 (xs.length - 1)) at hzz
 rw [← hzs] at hzz
 have hdb:Zff zs (zs.length - 1) 0:=by rw [hzl,hzs];exact Ztr hh hm0
 have hlz:hat zs (zs.length - 1)=hat xs 0:=by rw [hzl,hzs];exact Zrp hm0
 have hpz:zs.Perm xs:=hzs ▸ Zgb hm0 oz
 rw [← hzl]
 refine Za (xM (h:=xM (h:=Zo (Z4 [0,1] rfl rfl rfl rfl Zw4 rfl (ZoG _ _ _ _ _ _ oz oz oz hdb _ hzz) ?_))))
 rintro _ Bd _ hled ⟨rfl,ysd,ld,rfl,hvd,hpd,hhd,hsd⟩
 refine Zv [_,_] rfl ?_
 have hdl:=hpd.length_eq
 refine Za (xM (h:=Zo (Zg3 [0,1] rfl rfl rfl rfl ZwO rfl rfl (ZlH ZpW Tryz.underlying170) (ZtP _ _ _ _ _ _ (Za5 oz) oz _ hvd) ?_)))
 rintro _ Bo _ hleo ⟨rfl,rfl,rfl,hvo⟩
 refine xA (h:=Zv [_,_] rfl (Zh ?_))
 have hz9:hat ysd (ysd.length - 1)=hat xs 0:=by rw [hsd _ oz,hdl];exact hlz
 exact Zad .ret (.inl rfl) [_] [0,1] rfl t1 ⟨rfl,by rw [hz9];rfl,_,_,by rw [show (ysd.take (ysd.length - 1)).length=ysd.length - 1 from by simp],hvo,ZrA oz (hpd.trans hpz) hz9,ZoF (by rw [hdl];exact hhd) oz⟩

set_option maxHeartbeats 400000 in
theorem ZmK (q:Option Addr) (cp:Nat) (xs:List DItem) (last:Int) (B:Kn) (ha:SlK B q cp 4 Zi xs):ZaL (pj J) 80 [.slice q xs.length cp,.int .i64 last] B (.bool (asc 0 last (xs.map (·.id)))):=by
 refine Zc 53 Tryz.func80 rfl rfl rfl (Nat.le_of_ble_eq_true rfl) ?_
 have hxn:=ha.len
 refine Za (xA (h:=Za (xBs [] [] Tryz.underlying171 sz3 zo3 (h:=fun b1=>xBx [_] (h:=fun b2=>xA (h:=Zv [_,_] rfl (Zl (Za (xM (h:=xV Tryz.underlying25 (h:=xM (h:=Zp ?_))))))))))))
 refine ZQ (α:=Gh Int) [0,1,4,5,14,15] (fun g=>[(16,.int .i64 g.k)]) [0,1] (fun g=>[g.l,ZaE b2 [.slice g.a g.xs.length g.c] 172]) (fun g Bx=>Bx=B∧g.k≤xs.length∧g.xs.Perm ((xs.take g.k).map (·.id))∧ZdH g.xs∧Z2 Bx g.l g.a g.c 3 1 Zbz g.xs) (fun g=>xs.length - g.k) ⟨0,0,_,_,_,[]⟩ t1 rfl (⟨rfl,Nat.zero_le _,.refl _,Zr1,.lit0⟩) (fun g B3 hle3 hI=>?_)
 obtain ⟨rfl,hk,hp,hh,hv⟩:=hI
 have hpl:=hp.length_eq
 rw [List.length_map,List.length_take] at hpl
 refine ZO [(0,_),(1,_),(4,_),(5,_),(14,_),(15,_),(16,_)] [_,_] t7 rfl (Za (Zag (h:=Zl (Zd rfl (fun g1=>?_) (fun g1=>?_)))))
 try simp only [sQ,ne_eq] at g1
 refine Zj (Zf (Zl (Zp (Za ?_))))
 obtain ⟨x,hx⟩:=Zaj (xs:=xs) (i:=g.k) om
 obtain ⟨bb5,oo5,rfl⟩:=ha.base hx
 obtain ⟨_,⟨qi6,ci6,rfl,hi6,hb6,hb6b⟩,hc6⟩:=ha.elem hx
 have hi6n:=hi6.len
 refine xIx Tryz.underlying25 Zde (h:=yL [_,_,_,_] ZhB hc6 0 (h:=xAl [_,_,_,_] ZfD (h:=fun b7=>xS [_,_,_,_] 2 [_,_,_,_] Zde (h:=Zv [_,_,_] rfl (Ze (xM (h:=Zo (Zet rfl rfl Tryz.underlying170 rfl rfl (xW Zel (h:=x1 lk3 2 (h:=Zo (Zet rfl rfl Tryz.underlying3 rfl rfl (Zo (Z4 [1,0] rfl rfl rfl rfl Zxj rfl (ZoE _ _ _ _ _ _ oz hh _ hv) ?_))))))))))))))
 rintro _ Bp _ hlep ⟨rfl,qp,cp,ysp,lp,rfl,hvp,hpp,hhp⟩
 refine Zz (Zf (Ze (xD (h:=xM (h:=?_)))))
 exact ZB ⟨g.k+1,0,lp,_,_,ysp⟩ [0,1] so2 ⟨rfl,so,by simp only [];rw [Zaw hx,List.map_append];exact hpp.trans (hp.append_right _),hhp,hvp⟩ t7 rfl
 try simp only [sQ,ne_eq] at g1
 have hxe:xs.take g.k=xs:=List.take_of_length_le oz
 rw [hxe] at hp
 refine ZT (Zah (ZZ (ZH (Zf (Za (xA (h:=Zl (Za (xM (h:=xV Tryz.underlying25 (h:=xM (h:=Zp (ZQ (α:=Gh2 Int Int) [0,1,5,14,15,16,17,27,28] (fun h=>[(8,.int .i64 h.e),(29,.int .i64 h.k)]) [0,1] (fun h=>[h.l,ZaE b2 [.slice h.a h.xs.length h.c] 172]) (fun h Bx=>Bx=B3∧h.k≤xs.length∧h.xs.Perm ((xs.drop h.k).map (·.id))∧ZdH h.xs∧asc 0 last (xs.map (·.id))=asc h.e last ((xs.drop h.k).map (·.id))∧Z2 Bx h.l h.a h.c 3 1 Zbz h.xs) (fun h=>xs.length - h.k) ⟨0,0,g.l,g.a,g.c,g.xs,0⟩ t2 rfl (⟨rfl,Nat.zero_le _,hp,hh,rfl,hv⟩) (fun h B9 hle9 hI=>?_))))))))))))))
 clear hv hp hpl hh
 obtain ⟨rfl,hk,hp,hh,hs,hv⟩:=hI
 have hpl:=hp.length_eq
 rw [List.length_map,List.length_drop] at hpl
 refine ZO [(0,_),(1,_),(5,_),(8,_),(14,_),(15,_),(16,_),(17,_),(27,_),(28,_),(29,_)] [_,_] t11 rfl (Za (Zag (h:=Zl (Zd rfl (fun g2=>?_) (fun g2=>?_)))))
 try simp only [sQ,ne_eq] at g2
 refine Zj (Zf (Zl (Zp (Za ?_))))
 obtain ⟨x,hx⟩:=Zaj (xs:=xs) (i:=h.k) om
 obtain ⟨bb11,oo11,rfl⟩:=ha.base hx
 obtain ⟨_,⟨qi12,ci12,rfl,hi12,hb12,hb12b⟩,hc12⟩:=ha.elem hx
 have hi12n:=hi12.len
 refine xIx Tryz.underlying25 Zde (h:=?_)
 rw [ZkD hx,List.map_cons] at hp hs
 refine yL [_,_,_,_] ZhB hc12 0 (h:=xAl [_,_,_,_] ZfD (h:=fun b13=>xS [_,_,_,_] 2 [_,_,_,_] Zde (h:=Zv [_,_,_] rfl (Za (xM (h:=Zo (Zet rfl rfl Tryz.underlying170 rfl rfl (Zo (Z4 [1,0] rfl rfl rfl rfl Zxi rfl (Zqf _ _ _ _ _ oz oz hh _ hv) ?_)))))))))
 rintro _ Bo _ hleo ⟨rfl,rfl,yso,lo,rfl,hvo,hpo,hho⟩
 refine Zo (ZkR rfl rfl Tryz.underlying3 rfl rfl (xA (h:=Zv [_,_,_] rfl (Zl (Za (xM (h:=xW Zel (h:=x1 lk3 2 (h:=ZbR (h:=xM (h:=Zt (d:=41) rfl (fun g3=>?_) (fun g3=>?_))))))))))))
 try simp only [sQ,ne_eq] at g3
 refine xP (h:=xP (h:=xP (h:=xT (h:=xM (h:=xP (h:=xP (h:=xP (h:=xT (h:=Zd (t:=true) rfl (fun _=>Za (xA (h:=Zh (Zs (ZE (Zs (Z0 (ZE (Zs ?_))))))))) (fun h=>Bool.noConfusion h))))))))))
 exact ZY .ret (.inl rfl) [_] t1 ⟨Zk (by rw [hs];exact Zsu hp hh (by simpa using g3)),rfl,rfl⟩
 try simp only [sQ,ne_eq] at g3
 refine xM (h:=xM (h:=ZcG (h:=xF (h:=xM (h:=Zt (d:=46) rfl (fun g4=>?_) (fun g4=>?_))))))
 try simp only [sQ,ne_eq] at g4
 refine xP (h:=xP (h:=xP (h:=xT (h:=Zd (t:=true) rfl (fun _=>Za (xA (h:=Zh (Zs (ZE (Zs (Z0 (ZE (Zs ?_))))))))) (fun h=>Bool.noConfusion h)))))
 exact ZY .ret (.inl rfl) [_] t1 ⟨Zk (by rw [hs];exact Zst (by rw [← g3];simpa using g4)),rfl,rfl⟩
 try simp only [sQ,ne_eq] at g4
 refine xM (h:=xM (h:=ZbM (h:=xF (h:=Zd rfl (fun g5=>?_) (fun g5=>?_)))))
 try simp only [sQ,ne_eq] at g5
 refine Za (xA (h:=Zh (Zs (ZE (Zs (Z0 (ZE (Zs ?_))))))))
 exact ZY .ret (.inl rfl) [_] t1 ⟨Zk (by rw [hs];exact Zss (by rw [← g3];simpa using g5)),rfl,rfl⟩
 try simp only [sQ,ne_eq] at g5
 refine Zj (Zf (Ze (xM (h:=xA (h:=Zz (Zf (Ze (xD (h:=xM (h:=?_))))))))))
 exact ZB ⟨h.k+1,0,lo,_,_,yso,hat h.xs 0⟩ [0,1] so2 ⟨rfl,so,List.Perm.cons_inv ((show (x.id :: yso).Perm (hat h.xs 0 :: yso) from by rw [g3]).trans (hpo.trans hp)),hho,by simp only [];rw [hs,g3];exact ZvJ (by rw [← g3];simpa using g4) (by rw [← g3];simpa using g5),hvo⟩ t11 rfl
 try simp only [sQ,ne_eq] at g2
 rw [ZqI oz,List.map_nil,asc] at hs
 refine ZT (Zah (ZZ (ZH (Zf (Za (xA (h:=Zh ?_)))))))
 exact ZY .ret (.inl rfl) [_] t1 ⟨Zk hs.symm,rfl,rfl⟩

set_option maxHeartbeats 400000 in
theorem Zix (aq:Option Addr) (cq:Nat) (q:DQueue) (B:Kn) (hq:SlK B aq cq 4 Zi q.items):ZaL (pj J) 42 [.agg #[.int .i64 q.next,.slice aq q.items.length cq]] B (.bool (Zai q)):=by
 refine Zc 42 Tryz.func42 rfl rfl rfl (Nat.le_of_ble_eq_true rfl) ?_
 have hqn:=hq.len
 refine Za (xBx [_,_] (h:=fun b1=>xA (h:=Zv [_] rfl (Zl (Za (xW Zap (h:=x1 Zd7 0 (h:=xV Tryz.underlying25 (h:=ZbM (h:=xM (h:=Zt (d:=9) rfl (fun g1=>?_) (fun g1=>?_))))))))))))
 try simp only [sQ,ne_eq] at g1
 refine xP (h:=xP (h:=xP (h:=xT (h:=xM (h:=xP (h:=xP (h:=xP (h:=xT (h:=Zd (t:=true) rfl (fun _=>Za (xA (h:=Zh (Zs ?_)))) (fun h=>Bool.noConfusion h))))))))))
 exact ZY .ret (.inl rfl) [_] t1 ⟨Zk (ZgH oz),rfl,rfl⟩
 try simp only [sQ,ne_eq] at g1
 refine xW ZcF (h:=x1 lk3 0 (h:=Zag (h:=xF (h:=xM (h:=Zt (d:=14) rfl (fun g2=>?_) (fun g2=>?_))))))
 try simp only [sQ,ne_eq] at g2
 refine xP (h:=xP (h:=xP (h:=xT (h:=Zd (t:=true) rfl (fun _=>Za (xA (h:=Zh (Zs ?_)))) (fun h=>Bool.noConfusion h)))))
 exact ZY .ret (.inl rfl) [_] t1 ⟨Zk (ZgH oz),rfl,rfl⟩
 try simp only [sQ,ne_eq] at g2
 refine xW ZcF (h:=x1 lk3 0 (h:=ZbM (h:=xF (h:=Zd rfl (fun g3=>?_) (fun g3=>?_)))))
 try simp only [sQ,ne_eq] at g3
 refine Za (xA (h:=Zh (Zs ?_)))
 exact ZY .ret (.inl rfl) [_] t1 ⟨Zk (ZgH oz),rfl,rfl⟩
 try simp only [sQ,ne_eq] at g3
 refine Zj (Zf (Zl (Za (xW Zap (h:=x1 Zd7 0 (h:=xV Tryz.underlying25 (h:=xM (h:=Zp (ZQ (α:=Nat) [0,1,18,20,21] (fun k=>[(22,.int .i64 k)]) [] (fun k=>[]) (fun k Bx=>Bx=B∧k≤q.items.length∧(q.items.take k).all Zcw=true) (fun k=>q.items.length - k) 0 t1 rfl (⟨rfl,Nat.zero_le _,by simp⟩) (fun k B2 hle2 hI=>?_))))))))))
 obtain ⟨rfl,hk,ha⟩:=hI
 refine ZO [(0,_),(1,_),(18,_),(20,_),(21,_),(22,_)] [_] t6 rfl (Za (Zag (h:=Zl (Zd rfl (fun g4=>?_) (fun g4=>?_)))))
 try simp only [sQ,ne_eq] at g4
 refine Zj (Zf (Zl (Zp (Za ?_))))
 obtain ⟨x,hx⟩:=Zaj (xs:=q.items) (i:=k) om
 obtain ⟨bb4,oo4,rfl⟩:=hq.base hx
 obtain ⟨_,⟨qi5,ci5,rfl,hi5,hb5,hb5b⟩,hc5⟩:=hq.elem hx
 have hi5n:=hi5.len
 refine xIx Tryz.underlying25 Zde (h:=yL [_,_,_,_] ZhB hc5 0 (h:=xAl [_,_,_,_] ZfD (h:=fun b6=>xS [_,_,_,_] 1 [_,_,_,_] Zde (h:=Zv [_,_] rfl (Za (xW ZjQ (h:=x1 lk9 1 (h:=xW Zbo (h:=x1 ZfP 1 (h:=xW ZlI (h:=x1 lk9 1 (h:=xB [(0,_),(1,_),(2,_)] [_,_,_] [_,_,_] ZvW Zrd (h:=?_)))))))))))))
 refine xR ZwL rfl (Ze4 _ _ ⟨x.fr,x.left,x.text⟩ _ hi5 oa oa) (h:=?_)
 refine xN (h:=Zd rfl (fun g5=>?_) (fun g5=>?_))
 try simp only [sQ,ne_eq] at g5
 refine Za (xA (h:=Zh (ZE (Zs (Z0 (ZE (Zs ?_)))))))
 exact ZY .ret (.inl rfl) [_] t1 ⟨Zk (Zmx hx g5),rfl,rfl⟩
 try simp only [sQ,ne_eq] at g5
 refine Zj (Zz (Zf (Ze (xD (h:=xM (h:=?_))))))
 exact ZB (k+1) [0] so2 ⟨rfl,oz,ZvK hx g5 ha⟩ t6 rfl
 try simp only [sQ,ne_eq] at g4
 refine ZT (Zah (ZZ (ZH (Zf (Za (xW Zap (h:=x1 Zd7 0 (h:=xW ZcF (h:=x1 lk3 0 (h:=xU (h:=xR Zym rfl (ZmK _ _ _ _ _ hq) (h:=xA (h:=Zh ?_)))))))))))))
 exact ZY .ret (.inl rfl) [_] t1 ⟨Zk (Zmw oz ha oz oz oz),rfl,rfl⟩

set_option maxHeartbeats 400000 in
theorem Zgm (aq:Option Addr) (cq:Nat) (q:DQueue) (qx:Option Addr) (cx:Nat) (x:DLetter) (B:Kn) (hq:SlK B aq cq 4 Zi q.items) (hx:SlK B qx cx 1 Zaz x.to_) (h1:x.fr.length≤2000000) (h2:x.text.length≤2000000):ZA (pj J) 15 [.agg #[.int .i64 q.next,.slice aq q.items.length cq],.agg #[str x.fr,.slice qx x.to_.length cx,str x.text]] B [] (fun v B' Ls=>(∃l a cp,Ls=[l]∧v = .tuple #[.agg #[.int .i64 (Zer q x).1.next,.slice a (Zer q x).1.items.length cp],.bool (Zer q x).2]∧Zc1 l a cp 88 4 (ZcC 9) (Zer q x).1.items)):=by
 refine Zc 50 Tryz.func15 rfl rfl rfl (Nat.le_of_ble_eq_true rfl) ?_
 have hqn:=hq.len
 have hxn:=hx.len
 refine Za (xBx [_,_] (h:=fun b1=>xBx [_,_,_] (h:=fun b2=>xAl [_,_] Zfr (h:=fun b3=>xA (h:=Zv [_,_,_] rfl (Zl (Za (xL [_,_] Zb9 0 (h:=xR ZxS rfl (Zix _ _ q _ hq) (h:=xN (h:=xM (h:=Zt (d:=11) rfl (fun g1=>?_) (fun g1=>?_)))))))))))))
 try simp only [sQ,ne_eq] at g1
 refine xP (h:=xP (h:=xP (h:=xT (h:=Zd (t:=true) rfl (fun _=>Za (xB [] [_,_] [_,_] Zra Zfr (h:=xS [_,_] 2 [_,_] Zdo (h:=xA (h:=Zv [_,_,_] rfl (Zh (Zs ?_))))))) (fun h=>Bool.noConfusion h)))))
 have he:=Zl4 (x:=x) g1
 exact Zsg .ret (.inl rfl) [_,_] ⟨⟨_,rfl,.inr ⟨[_,_],Zb9,Zaf 2 rfl rfl rfl,rfl⟩⟩,rfl,trivial⟩ ⟨_,none,0,rfl,by rw [he];rfl,by rw [he];exact Zc1.nil⟩
 try simp only [sQ,ne_eq] at g1
 refine xL [_,_,_] Zmb 1 (h:=xR ZwL rfl (Ze4 _ _ x _ hx oa oa) (h:=?_))
 refine xN (h:=xF (h:=Zd rfl (fun g2=>?_) (fun g2=>?_)))
 try simp only [sQ,ne_eq] at g2
 refine Za (xB [] [_,_] [_,_] Zra Zfr (h:=xS [_,_] 2 [_,_] Zdo (h:=xA (h:=Zv [_,_,_] rfl (Zh (Zs ?_))))))
 have he:=Zl3 (q:=q) g2
 exact Zsg .ret (.inl rfl) [_,_] ⟨⟨_,rfl,.inr ⟨[_,_],Zb9,Zaf 2 rfl rfl rfl,rfl⟩⟩,rfl,trivial⟩ ⟨_,none,0,rfl,by rw [he];rfl,by rw [he];exact Zc1.nil⟩
 try simp only [sQ,ne_eq] at g2
 have hqb:=ZcW g1
 refine Zj (Zf (Za (xL [_,_] Zb9 0 (h:=Zo (Zaa rfl rfl ZxR rfl (Zha _ _ q _ hq) ?_)))))
 rintro _ Bk _ hlek ⟨lk,qk,ck,rfl,rfl,hdk⟩
 replace hq:=hq.mono Zi.mono hlek
 replace hx:=hx.mono Zaz.mono hlek
 refine xAl [_,_] Zfr (h:=fun b7=>xS [_,_] 4 [_,_] Zdo (h:=Zv [_,_,_,_,_] rfl (Zl (Za (xW Zap (h:=x1 Zd7 0 (h:=xV Tryz.underlying25 (h:=ZI (h:=xM (h:=Zt (d:=23) rfl (fun g3=>?_) (fun g3=>?_)))))))))))
 try simp only [sQ,ne_eq] at g3
 refine xP (h:=xP (h:=xP (h:=xT (h:=Zd (t:=true) rfl (fun _=>Za (xL [_,_] Zb9 4 (h:=xS [_,_] 2 [_,_] Zdo (h:=xA (h:=Zv [_,_,_,_,_] rfl (Zh (Zs ?_))))))) (fun h=>Bool.noConfusion h)))))
 have he:=Zgy g1 g2 (.inl oz)
 exact Zad .ret (.inl rfl) [_,_] [3] rfl ⟨⟨_,rfl,.inr ⟨[_,_],Zb9,Zaf 2 rfl rfl rfl,rfl⟩⟩,rfl,trivial⟩ ⟨_,_,_,rfl,by rw [he];rfl,by rw [he];exact hdk⟩
 try simp only [sQ,ne_eq] at g3
 refine xW ZcF (h:=x1 lk3 0 (h:=ZbM (h:=xF (h:=Zd rfl (fun g4=>?_) (fun g4=>?_)))))
 try simp only [sQ,ne_eq] at g4
 refine Za (xL [_,_] Zb9 4 (h:=xS [_,_] 2 [_,_] Zdo (h:=xA (h:=Zv [_,_,_,_,_] rfl (Zh (Zs ?_))))))
 have he:=Zgy g1 g2 (.inr oz)
 exact Zad .ret (.inl rfl) [_,_] [3] rfl ⟨⟨_,rfl,.inr ⟨[_,_],Zb9,Zaf 2 rfl rfl rfl,rfl⟩⟩,rfl,trivial⟩ ⟨_,_,_,rfl,by rw [he];rfl,by rw [he];exact hdk⟩
 try simp only [sQ,ne_eq] at g4
 refine Zj (Zf (Za (xW ZcF (h:=x1 lk3 0 (h:=xW Zhk (h:=x1 lk9 1 (h:=xW ZnL (h:=x1 lk9 1 (h:=xW Zgs (h:=x1 ZfP 1 (h:=xB [(0,_),(1,_),(2,_),(3,_)] [_,_,_,_] [_,_,_,_] ZxI ZfD (h:=xAl [_,_,_,_] ZfD (h:=fun b8=>?_)))))))))))))
 refine xS [_,_,_,_] 5 [_,_,_,_] Zde (h:=Zv [_,_,_,_,_,_] rfl (Zl (Z8 (keeps _ [4,5] _) mo kr ⟨Kn.le.refl _,Zam.refl _ _⟩ (fun _ _=>?_))))
 refine aW 0 rfl Zap (h:=aT 1 rfl (ZG fun D B L hI=>Zn rfl rfl Zd7 rfl (atL 4 (hI.2.1.trans rfl) rfl rfl) r4) (h:=aT 2 rfl (ZG fun D B L hI=>Z6 [_,_,_,_] rfl rfl ZhB rfl (Zaf 5 (hI.2.2.1.trans rfl) rfl rfl) r4) (h:=Zu 3 kr rfl kr (Zaa rfl rfl ZxQ rfl (Ziu _ _ ⟨q.next,x.fr,x.text,x.to_⟩ _ hx) ?_))))
 rintro _ B9 _ hle9 ⟨rfl,ins9,a9,c9,rfl,rfl,hs9⟩
 refine ⟨⟨Kn.le.refl _,t2⟩,(Zu 4 kr rfl kr (Zx (parts:=[(0,_)]) [_,_,_,_] rfl rfl Tryz.underlying25 Zde ZfD rfl rfl rfl rfl rfl (fun b10=>?_)))⟩
 refine ⟨⟨Kn.le.refl _,t2⟩,(Zu 5 kr rfl kr (ZsR (R:=ZcC 9) (z:=⟨q.next,x.fr,x.text,x.to_⟩) 3 6 rfl rfl rfl hdk rfl rfl rfl Zt7 Ztm rfl rfl (ZaM.box 7 rfl) rfl rfl (⟨_,_,rfl,hs9,by first | assumption | omega | (simp;done) | (simp;omega),by first | assumption | omega | (simp;done) | (simp;omega),by first | assumption | omega | (simp;done) | (simp;omega)⟩) om (fun l11 p11 c11 hd11=>?_)))⟩
 refine ⟨⟨Kn.le.refl _,t2⟩,(aW 6 rfl Zap (h:=ZV 7 kr rfl kr kr kr (ZN [_] 4 [_,_] rfl rfl Ztk rfl rfl rfl rfl rfl rfl rfl rfl ?_)))⟩
 refine Zf (Zv [_,_,_,_,_,_,_,_] rfl (Za (xW ZcF (h:=x1 lk3 4 (h:=xD (h:=xW ZcF (h:=xS [_] 4 [_,_] sz3 (h:=Zv [_,_,_,_,_,_,_,_] rfl (Za (xL [_,_] Zb9 4 (h:=xS [_,_] 2 [_,_] Zdo (h:=xA (h:=?_)))))))))))))
 refine Zv [_,_,_,_,_,_,_,_] rfl (Zh ?_)
 have he:=ZqX g1 g2 oz oz
 exact Zad .ret (.inl rfl) [_,_] [3] rfl ⟨⟨_,rfl,.inr ⟨[_,_],Zb9,Zaf 2 rfl rfl rfl,rfl⟩⟩,rfl,trivial⟩ ⟨_,_,_,rfl,by rw [he];rfl,by rw [he];exact hd11⟩

set_option maxHeartbeats 400000 in
theorem Ze3 (n:Int) (B:Kn):ZaL (pj J) 175 [.int .i64 n] B (.bool (decide (0≤n) && decide (n≤31))):=by
 refine Zc 5 Tryz.func175 rfl rfl rfl (Nat.le_of_ble_eq_true rfl) ?_
 refine Za (xA (h:=Za (xM (h:=xR Zeo rfl (Zcl _ _ _ _) (h:=xA (h:=Zh ?_))))))
 exact ZY .ret (.inl rfl) [_] t1 ⟨rfl,rfl,rfl⟩

set_option maxHeartbeats 400000 in
theorem ZmJ (n:Int) (B:Kn):ZaL (pj J) 171 [.int .i64 n] B (.bool (decide (0≤n) && decide (n≤31))):=by
 refine Zc 9 Tryz.func171 rfl rfl rfl (Nat.le_of_ble_eq_true rfl) ?_
 refine Za (xA (h:=Za (xM (h:=Zd8 (h:=xM (h:=Zt (d:=5) rfl (fun g1=>?_) (fun g1=>?_)))))))
 try simp only [sQ,ne_eq] at g1
 refine xM (h:=ZcG (h:=xT (h:=xA (h:=Zh ?_))))
 exact ZY .ret (.inl rfl) [_] t1 ⟨Zk (by rw [Bool.eq_iff_iff];simp [g1];try omega),rfl,rfl⟩
 try simp only [sQ,ne_eq] at g1
 refine xP (h:=xP (h:=xF (h:=xA (h:=Zh ?_))))
 exact ZY .ret (.inl rfl) [_] t1 ⟨Zk (by rw [Bool.eq_iff_iff];simp [g1];try omega),rfl,rfl⟩

set_option maxHeartbeats 400000 in
theorem Zp5 (m:DMail) (hm:m.text.length≤2000000) (B:Kn):ZaL (pj J) 158 [.agg #[.int .i64 m.uid,.int .i64 m.flags,str m.text]] B (.bool (ZbB m)):=by
 refine Zc 17 Tryz.func158 rfl rfl rfl (Nat.le_of_ble_eq_true rfl) ?_
 refine Za (xBx [_,_,_] (h:=fun b1=>xA (h:=Zv [_] rfl (Za (xW Ze8 (h:=x1 lk3 0 (h:=xR Zeo rfl (Zcl _ _ _ _) (h:=xM (h:=Zt (d:=6) rfl (fun g1=>?_) (fun g1=>?_))))))))))
 try simp only [sQ,ne_eq] at g1
 refine xW ZfT (h:=x1 lk3 0 (h:=xR ZqF rfl (Ze3 _ _) (h:=xT (h:=xM (h:=Zt (d:=11) rfl (fun g2=>?_) (fun g2=>?_))))))
 try simp only [sQ,ne_eq] at g2
 refine xW ZiL (h:=x1 lk9 0 (h:=xVs Tryz.underlying9 (h:=ZcG (h:=xT (h:=xA (h:=Zh ?_))))))
 exact ZY .ret (.inl rfl) [_] t1 ⟨Zk (by rw [Bool.eq_iff_iff];simp [ZbB,g1,g2];try omega),rfl,rfl⟩
 try simp only [sQ,ne_eq] at g2
 refine xP (h:=xP (h:=xP (h:=xP (h:=xF (h:=xA (h:=Zh ?_))))))
 exact ZY .ret (.inl rfl) [_] t1 ⟨Zk (by rw [Bool.eq_iff_iff];simp [ZbB,g1,g2];try omega),rfl,rfl⟩
 try simp only [sQ,ne_eq] at g1
 refine xP (h:=xP (h:=xP (h:=xF (h:=xM (h:=xP (h:=xP (h:=xP (h:=xP (h:=xF (h:=xA (h:=Zh ?_)))))))))))
 exact ZY .ret (.inl rfl) [_] t1 ⟨Zk (by rw [Bool.eq_iff_iff];simp [ZbB,g1];try omega),rfl,rfl⟩

set_option maxHeartbeats 400000 in
theorem Zoy (m:DMail) (hm:m.text.length≤2000000) (B:Kn):ZaL (pj J) 144 [.agg #[.int .i64 m.uid,.int .i64 m.flags,str m.text]] B (.bool (ZbB m)):=by
 refine Zc 22 Tryz.func144 rfl rfl rfl (Nat.le_of_ble_eq_true rfl) ?_
 refine Za (xBx [_,_,_] (h:=fun b1=>xA (h:=Zv [_] rfl (Za (xW Ze8 (h:=x1 lk3 0 (h:=Zd8 (h:=xM (h:=Zt (d:=6) rfl (fun g1=>?_) (fun g1=>?_))))))))))
 try simp only [sQ,ne_eq] at g1
 refine xW Ze8 (h:=x1 lk3 0 (h:=ZcG (h:=xT (h:=xM (h:=Zt (d:=11) rfl (fun g2=>?_) (fun g2=>?_))))))
 try simp only [sQ,ne_eq] at g2
 refine xW ZfT (h:=x1 lk3 0 (h:=xR Zw2 rfl (ZmJ _ _) (h:=xT (h:=xM (h:=Zt (d:=16) rfl (fun g3=>?_) (fun g3=>?_))))))
 try simp only [sQ,ne_eq] at g3
 refine xW ZiL (h:=x1 lk9 0 (h:=xVs Tryz.underlying9 (h:=ZcG (h:=xT (h:=xA (h:=Zh ?_))))))
 exact ZY .ret (.inl rfl) [_] t1 ⟨Zk (by rw [Bool.eq_iff_iff];simp [ZbB,g1,g2,g3];try omega),rfl,rfl⟩
 try simp only [sQ,ne_eq] at g3
 refine xP (h:=xP (h:=xP (h:=xP (h:=xF (h:=xA (h:=Zh ?_))))))
 exact ZY .ret (.inl rfl) [_] t1 ⟨Zk (by rw [Bool.eq_iff_iff];simp [ZbB,g1,g2,g3];try omega),rfl,rfl⟩
 try simp only [sQ,ne_eq] at g2
 refine xP (h:=xP (h:=xP (h:=xF (h:=xM (h:=xP (h:=xP (h:=xP (h:=xP (h:=xF (h:=xA (h:=Zh ?_)))))))))))
 exact ZY .ret (.inl rfl) [_] t1 ⟨Zk (by rw [Bool.eq_iff_iff];simp [ZbB,g1,g2];try omega),rfl,rfl⟩
 try simp only [sQ,ne_eq] at g1
 refine xP (h:=xP (h:=xP (h:=xF (h:=xM (h:=xP (h:=xP (h:=xP (h:=xF (h:=xM (h:=xP (h:=xP (h:=xP (h:=?_)))))))))))))
 refine xP (h:=xF (h:=xA (h:=Zh ?_)))
 exact ZY .ret (.inl rfl) [_] t1 ⟨Zk (by rw [Bool.eq_iff_iff];simp [ZbB,g1];try omega),rfl,rfl⟩

set_option maxHeartbeats 400000 in
theorem Zgd (q:Option Addr) (cp:Nat) (x:DBox) (B:Kn) (hx:SlK B q cp 3 ZM x.mail):ZaL (pj J) 110 [.agg #[.int .i64 x.next,.slice q x.mail.length cp]] B (.bool (Zbm x)):=by
 refine Zc 46 Tryz.func110 rfl rfl rfl (Nat.le_of_ble_eq_true rfl) ?_
 have hxn:=hx.len
 refine Za (xBx [_,_] (h:=fun b1=>xA (h:=Zv [_] rfl (Za (xA (h:=Zl (Za (xA (h:=Zp (ZQ (α:=Nat × Int) [0,1] (fun g=>[(3,.int .i64 g.2),(4,.int .i64 g.1)]) [] (fun g=>[]) (fun g Bx=>Bx=B∧g.1≤x.mail.length∧Zcf (x.mail.take g.1)=(true,g.2)∧0≤g.2∧g.2≤99) (fun g=>x.mail.length - g.1) (0,0) t2 rfl (⟨rfl,Nat.zero_le _,ZeX,oz,oz⟩) (fun g B2 hle2 hI=>?_)))))))))))
 obtain ⟨rfl,hk,hs,hl0,hl1⟩:=hI
 refine ZO [(0,_),(1,_),(3,_),(4,_)] [_] t4 rfl (Zl (Za (xM (h:=xW ZaR (h:=x1 Zfv 0 (h:=xV Tryz.underlying66 (h:=Zag (h:=Zd rfl (fun g1=>?_) (fun g1=>?_)))))))))
 try simp only [sQ,ne_eq] at g1
 refine Zj (Zf (Zl (Zp (Zl (Za (xW ZaR (h:=x1 Zfv 0 (h:=xM (h:=?_)))))))))
 obtain ⟨m,hm⟩:=Zaj (xs:=x.mail) (i:=g.1) om
 obtain ⟨bb4,oo4,rfl⟩:=hx.base hm
 obtain ⟨_,⟨rfl,hb5⟩,hc5⟩:=hx.elem hm
 refine xIx Tryz.underlying66 ZcJ (h:=yL [_,_,_] Zln hc5 0 (h:=xR Zw9 rfl (Zp5 m om2 _) (h:=?_)))
 refine xN (h:=xM (h:=Zt (d:=19) rfl (fun g2=>?_) (fun g2=>?_)))
 try simp only [sQ,ne_eq] at g2
 refine xP (h:=xP (h:=xP (h:=xP (h:=xP (h:=xP (h:=xP (h:=xP (h:=xT (h:=Zd (t:=true) rfl (fun _=>Za (xA (h:=Zh (Zs (ZE (Zs (Z0 (ZE (Zs ?_))))))))) (fun h=>Bool.noConfusion h))))))))))
 exact ZY .ret (.inl rfl) [_] t1 ⟨Zk (Zgw (ZfN hm (by rw [show (scn ZbO (fun _ m=>m.uid) 0 (x.mail.take g.1)).2=g.2 from congrArg Prod.snd hs];simp [ZbO,g2]))).symm,rfl,rfl⟩
 try simp only [sQ,ne_eq] at g2
 refine xW ZaR (h:=x1 Zfv 0 (h:=xM (h:=xIx Tryz.underlying66 ZcJ (h:=xW Ze8 (h:=y1 lk3 hc5 0 (h:=xM (h:=ZcG (h:=xF (h:=Zd rfl (fun g3=>?_) (fun g3=>?_))))))))))
 try simp only [sQ,ne_eq] at g3
 refine Za (xA (h:=Zh (Zs (ZE (Zs (Z0 (ZE (Zs ?_))))))))
 exact ZY .ret (.inl rfl) [_] t1 ⟨Zk (Zgw (ZfN hm (by rw [show (scn ZbO (fun _ m=>m.uid) 0 (x.mail.take g.1)).2=g.2 from congrArg Prod.snd hs];simp [ZbO,g2];omega))).symm,rfl,rfl⟩
 try simp only [sQ,ne_eq] at g3
 refine Zj (Zf (Ze (xW ZaR (h:=x1 Zfv 0 (h:=xM (h:=xIx Tryz.underlying66 ZcJ (h:=xW Ze8 (h:=y1 lk3 hc5 0 (h:=xA (h:=Zz (Zf (Ze (xM (h:=?_))))))))))))))
 refine xD (h:=xA (h:=?_))
 exact ZB (g.1+1,m.uid) [0] so2 ⟨rfl,oz,Zce hm hs (by simp [ZbO,g2];omega),ZjI g2⟩ t4 rfl
 try simp only [sQ,ne_eq] at g1
 refine ZT (Zah (ZZ (ZH (Zf (Za (xW Zco (h:=x1 lk3 0 (h:=xM (h:=xD (h:=xR Zeo rfl (Zcl _ _ _ _) (h:=xM (h:=Zt (d:=40) rfl (fun g4=>?_) (fun g4=>?_)))))))))))))
 try simp only [sQ,ne_eq] at g4
 refine xW ZaR (h:=x1 Zfv 0 (h:=xV Tryz.underlying66 (h:=ZcG (h:=xT (h:=xA (h:=Zh ?_))))))
 exact ZY .ret (.inl rfl) [_] t1 ⟨Zk (by rw [ZdC (Zd0 hs oz),g4,Bool.true_and,Bool.eq_iff_iff];simp;omega),rfl,rfl⟩
 try simp only [sQ,ne_eq] at g4
 refine xP (h:=xP (h:=xP (h:=xP (h:=xF (h:=xA (h:=Zh ?_))))))
 exact ZY .ret (.inl rfl) [_] t1 ⟨Zk (by rw [ZdC (Zd0 hs oz),g4,Bool.false_and]),rfl,rfl⟩

set_option maxHeartbeats 400000 in
theorem Zlz (q:Option Addr) (cp:Nat) (x:DBox) (B:Kn) (hx:SlK B q cp 3 ZM x.mail):ZaL (pj J) 91 [.agg #[.int .i64 x.next,.slice q x.mail.length cp]] B (.bool (Zbm x)):=by
 refine Zc 38 Tryz.func91 rfl rfl rfl (Nat.le_of_ble_eq_true rfl) ?_
 have hxn:=hx.len
 refine Za (xBx [_,_] (h:=fun b1=>xA (h:=Zv [_] rfl (Zl (Za (xW ZaR (h:=x1 Zfv 0 (h:=xV Tryz.underlying66 (h:=ZbM (h:=Zd rfl (fun g0=>?_) (fun g0=>?_)))))))))))
 try simp only [sQ,ne_eq] at g0
 refine Za (xA (h:=Zh (Zs ?_)))
 exact ZY .ret (.inl rfl) [_] t1 ⟨Zk (by simp [Zbm];omega),rfl,rfl⟩
 try simp only [sQ,ne_eq] at g0
 refine Zj (Zf (Za (xA (h:=Zl (Za (xW ZaR (h:=x1 Zfv 0 (h:=xV Tryz.underlying66 (h:=xM (h:=Zp (ZQ (α:=Nat × Int) [0,1,9,11,12] (fun g=>[(3,.int .i64 g.2),(13,.int .i64 g.1)]) [] (fun g=>[]) (fun g Bx=>Bx=B∧g.1≤x.mail.length∧Zcf (x.mail.take g.1)=(true,g.2)∧0≤g.2∧g.2≤99) (fun g=>x.mail.length - g.1) (0,0) t2 rfl (⟨rfl,Nat.zero_le _,ZeX,oz,oz⟩) (fun g B2 hle2 hI=>?_))))))))))))
 obtain ⟨rfl,hk,hs,hl0,hl1⟩:=hI
 refine ZO [(0,_),(1,_),(3,_),(9,_),(11,_),(12,_),(13,_)] [_] t7 rfl (Za (Zag (h:=Zl (Zd rfl (fun g1=>?_) (fun g1=>?_)))))
 try simp only [sQ,ne_eq] at g1
 refine Zj (Zf (Zl (Zp (Za ?_))))
 obtain ⟨m,hm⟩:=Zaj (xs:=x.mail) (i:=g.1) om
 obtain ⟨bb4,oo4,rfl⟩:=hx.base hm
 obtain ⟨_,⟨rfl,hb5⟩,hc5⟩:=hx.elem hm
 refine xIx Tryz.underlying66 ZcJ (h:=yL [_,_,_] Zln hc5 0 (h:=xAl [_,_,_] ZgB (h:=fun b6=>xS [_,_,_] 1 [_,_,_] ZcJ (h:=Zv [_,_] rfl (Zl (Za (xL [_,_,_] Zln 1 (h:=xR Zxd rfl (Zoy m om2 _) (h:=?_)))))))))
 refine xN (h:=xM (h:=Zt (d:=20) rfl (fun g2=>?_) (fun g2=>?_)))
 try simp only [sQ,ne_eq] at g2
 refine xP (h:=xP (h:=xP (h:=xP (h:=xT (h:=Zd (t:=true) rfl (fun _=>Za (xA (h:=Zh (Zs (ZE (Zs (Z0 (ZE (Zs ?_))))))))) (fun h=>Bool.noConfusion h))))))
 exact ZY .ret (.inl rfl) [_] t1 ⟨Zk (Zgw (ZfN hm (by rw [show (scn ZbO (fun _ m=>m.uid) 0 (x.mail.take g.1)).2=g.2 from congrArg Prod.snd hs];simp [ZbO,g2]))).symm,rfl,rfl⟩
 try simp only [sQ,ne_eq] at g2
 refine xW Ze8 (h:=x1 lk3 1 (h:=xM (h:=ZcG (h:=xF (h:=Zd rfl (fun g3=>?_) (fun g3=>?_))))))
 try simp only [sQ,ne_eq] at g3
 refine Za (xA (h:=Zh (Zs (ZE (Zs (Z0 (ZE (Zs ?_))))))))
 exact ZY .ret (.inl rfl) [_] t1 ⟨Zk (Zgw (ZfN hm (by rw [show (scn ZbO (fun _ m=>m.uid) 0 (x.mail.take g.1)).2=g.2 from congrArg Prod.snd hs];simp [ZbO,g2];omega))).symm,rfl,rfl⟩
 try simp only [sQ,ne_eq] at g3
 refine Zj (Zf (Ze (xW Ze8 (h:=x1 lk3 1 (h:=xA (h:=Zz (Zf (Ze (xD (h:=xM (h:=?_)))))))))))
 exact ZB (g.1+1,m.uid) [0] so2 ⟨rfl,oz,Zce hm hs (by simp [ZbO,g2];omega),ZjI g2⟩ t7 rfl
 try simp only [sQ,ne_eq] at g1
 refine ZT (Zah (ZZ (ZH (Zf (Za (xW Zco (h:=x1 lk3 0 (h:=xM (h:=ZbM (h:=xM (h:=Zt (d:=33) rfl (fun g4=>?_) (fun g4=>?_))))))))))))
 try simp only [sQ,ne_eq] at g4
 refine xW Zco (h:=x1 lk3 0 (h:=ZcG (h:=xT (h:=xA (h:=Zh ?_)))))
 exact ZY .ret (.inl rfl) [_] t1 ⟨Zk (by rw [ZdC (Zd0 hs oz),Bool.eq_iff_iff];simp;omega),rfl,rfl⟩
 try simp only [sQ,ne_eq] at g4
 refine xP (h:=xP (h:=xP (h:=xF (h:=xA (h:=Zh ?_)))))
 exact ZY .ret (.inl rfl) [_] t1 ⟨Zk (by rw [ZdC (Zd0 hs oz),Bool.eq_iff_iff];simp;omega),rfl,rfl⟩

set_option maxHeartbeats 400000 in
theorem Zp4 (q:Option Addr) (cp:Nat) (x:DBox) (B:Kn) (hx:SlK B q cp 3 ZM x.mail):ZaL (pj J) 112 [.agg #[.int .i64 x.next,.slice q x.mail.length cp]] B (.int .i64 (Zak x.mail)):=by
 refine Zc 22 Tryz.func112 rfl rfl rfl (Nat.le_of_ble_eq_true rfl) ?_
 have hxn:=hx.len
 refine Za (xBx [_,_] (h:=fun b1=>xA (h:=Zv [_] rfl (Za (xA (h:=Zl (Za (xA (h:=Zp (ZQ (α:=Nat × Nat) [0,1,2] (fun g=>[(3,.int .i64 g.2),(4,.int .i64 g.1)]) [] (fun g=>[]) (fun g Bx=>Bx=B∧g.1≤x.mail.length∧g.2=Zak (x.mail.take g.1)∧g.2≤g.1*2000000) (fun g=>x.mail.length - g.1) (0,0) t2 rfl (⟨rfl,Nat.zero_le _,by simp [Zak],oz⟩) (fun g B2 hle2 hI=>?_)))))))))))
 obtain ⟨rfl,hk,hs,hl⟩:=hI
 refine ZO [(0,_),(1,_),(2,_),(3,_),(4,_)] [_] t5 rfl (Zl (Za (xM (h:=xW ZaR (h:=x1 Zfv 0 (h:=xV Tryz.underlying66 (h:=Zag (h:=Zd rfl (fun g1=>?_) (fun g1=>?_)))))))))
 try simp only [sQ,ne_eq] at g1
 refine Zj (Zf (Zl (Zp (Ze (xM (h:=xW ZaR (h:=x1 Zfv 0 (h:=xM (h:=?_)))))))))
 obtain ⟨m,hm⟩:=Zaj (xs:=x.mail) (i:=g.1) om
 obtain ⟨bb4,oo4,rfl⟩:=hx.base hm
 obtain ⟨_,⟨rfl,hb5⟩,hc5⟩:=hx.elem hm
 refine xIx Tryz.underlying66 ZcJ (h:=xW ZiL (h:=y1 lk9 hc5 2 (h:=xVs Tryz.underlying9 (h:=xD (h:=xA (h:=Zz (Zf (Ze (xM (h:=xD (h:=xA (h:=?_))))))))))))
 exact ZB (g.1+1,g.2+m.text.length) [0] so2 ⟨rfl,oz,by rw [Zh7 hm,← hs],oz⟩ t5 rfl
 try simp only [sQ,ne_eq] at g1
 refine ZT (Zah (ZZ (ZH (Zf (Za (xM (h:=xA (h:=Zh ?_))))))))
 exact ZY .ret (.inl rfl) [_] t1 ⟨Za3 (by rw [← Zju hs oz]),rfl,rfl⟩

set_option maxHeartbeats 400000 in
theorem ZqQ (q:Option Addr) (cp:Nat) (x:DBox) (B:Kn) (hx:SlK B q cp 3 ZM x.mail):ZaL (pj J) 173 [.agg #[.int .i64 x.next,.slice q x.mail.length cp]] B (.int .i64 (Zd5 x)):=by
 refine Zc 23 Tryz.func173 rfl rfl rfl (Nat.le_of_ble_eq_true rfl) ?_
 have hxn:=hx.len
 refine Za (xBx [_,_] (h:=fun b1=>xA (h:=Zv [_] rfl (Zl (Za (xL [_,_] ZbP 0 (h:=xR ZxJ rfl (Zlz _ _ (⟨x.next,x.mail⟩:DBox) _ hx) (h:=xN (h:=Zd rfl (fun g0=>?_) (fun g0=>?_))))))))))
 try simp only [sQ,ne_eq] at g0
 refine Za (xA (h:=Zh (Zs ?_)))
 exact ZY .ret (.inl rfl) [_] t1 ⟨Za3 (by simp [Zd5,g0]),rfl,rfl⟩
 try simp only [sQ,ne_eq] at g0
 refine Zj (Zf (Za (xA (h:=Zl (Za (xW ZaR (h:=x1 Zfv 0 (h:=xV Tryz.underlying66 (h:=xM (h:=Zp (ZQ (α:=Nat × Nat) [0,1,2,8,10,11] (fun g=>[(3,.int .i64 g.2),(12,.int .i64 g.1)]) [] (fun g=>[]) (fun g Bx=>Bx=B∧g.1≤x.mail.length∧g.2=Zak (x.mail.take g.1)∧g.2≤g.1*2000000) (fun g=>x.mail.length - g.1) (0,0) t2 rfl (⟨rfl,Nat.zero_le _,by simp [Zak],oz⟩) (fun g B3 hle3 hI=>?_))))))))))))
 obtain ⟨rfl,hk,hs,hl⟩:=hI
 refine ZO [(0,_),(1,_),(2,_),(3,_),(8,_),(10,_),(11,_),(12,_)] [_] t8 rfl (Za (Zag (h:=Zl (Zd rfl (fun g1=>?_) (fun g1=>?_)))))
 try simp only [sQ,ne_eq] at g1
 refine Zj (Zf (Zl (Zp (Za ?_))))
 obtain ⟨m,hm⟩:=Zaj (xs:=x.mail) (i:=g.1) om
 obtain ⟨bb5,oo5,rfl⟩:=hx.base hm
 obtain ⟨_,⟨rfl,hb6⟩,hc6⟩:=hx.elem hm
 refine xIx Tryz.underlying66 ZcJ (h:=yL [_,_,_] Zln hc6 0 (h:=xAl [_,_,_] ZgB (h:=fun b7=>xS [_,_,_] 1 [_,_,_] ZcJ (h:=Zv [_,_] rfl (Ze (xM (h:=xW ZiL (h:=x1 lk9 1 (h:=xVs Tryz.underlying9 (h:=xD (h:=xA (h:=Zz (Zf ?_)))))))))))))
 refine Ze (xD (h:=xM (h:=?_)))
 exact ZB (g.1+1,g.2+m.text.length) [0] so2 ⟨rfl,oz,by rw [Zh7 hm,← hs],oz⟩ t8 rfl
 try simp only [sQ,ne_eq] at g1
 refine ZT (Zah (ZZ (ZH (Zf (Za (xM (h:=xA (h:=Zh ?_))))))))
 exact ZY .ret (.inl rfl) [_] t1 ⟨Za3 (by rw [Zd5,if_pos g0,← Zju hs oz]),rfl,rfl⟩

set_option maxHeartbeats 400000 in
theorem Zru (n:Int) (B:Kn):ZaL (pj J) 115 [.int .i64 n] B (.bool (decide (0≤n) && decide (n≤63))):=by
 refine Zc 9 Tryz.func115 rfl rfl rfl (Nat.le_of_ble_eq_true rfl) ?_
 refine Za (xA (h:=Za (xM (h:=Zd8 (h:=xM (h:=Zt (d:=5) rfl (fun g1=>?_) (fun g1=>?_)))))))
 try simp only [sQ,ne_eq] at g1
 refine xM (h:=ZcG (h:=xT (h:=xA (h:=Zh ?_))))
 exact ZY .ret (.inl rfl) [_] t1 ⟨Zk (by rw [Bool.eq_iff_iff];simp [g1];try omega),rfl,rfl⟩
 try simp only [sQ,ne_eq] at g1
 refine xP (h:=xP (h:=xF (h:=xA (h:=Zh ?_))))
 exact ZY .ret (.inl rfl) [_] t1 ⟨Zk (by rw [Bool.eq_iff_iff];simp [g1];try omega),rfl,rfl⟩

set_option maxHeartbeats 400000 in
theorem Zmg (u:DUser) (h1:u.name.length≤2000000) (h2:u.pass.length≤2000000) (B:Kn):ZaL (pj J) 85 [.agg #[str u.name,str u.pass,.int .i64 u.quota]] B (.bool (ZcD u)):=by
 refine Zc 26 Tryz.func85 rfl rfl rfl (Nat.le_of_ble_eq_true rfl) ?_
 refine Za (xBx [_,_,_] (h:=fun b1=>xA (h:=Zv [_] rfl (Za (xW Zc0 (h:=x1 lk9 0 (h:=xR Zuy rfl (Zdh _ om2 _) (h:=?_))))))))
 refine xM (h:=Zt (d:=6) rfl (fun g1=>?_) (fun g1=>?_))
 try simp only [sQ,ne_eq] at g1
 refine xW Zc0 (h:=x1 lk9 0 (h:=Zg0 (h:=xT (h:=xM (h:=Zt (d:=11) rfl (fun g2=>?_) (fun g2=>?_))))))
 try simp only [sQ,ne_eq] at g2
 refine xW Zqq (h:=x1 lk9 0 (h:=xR Zuy rfl (Zdh _ om2 _) (h:=?_)))
 refine xT (h:=xM (h:=Zt (d:=16) rfl (fun g3=>?_) (fun g3=>?_)))
 try simp only [sQ,ne_eq] at g3
 refine xW ZiJ (h:=x1 lk3 0 (h:=Zd8 (h:=xT (h:=xM (h:=Zt (d:=21) rfl (fun g4=>?_) (fun g4=>?_))))))
 try simp only [sQ,ne_eq] at g4
 refine xW ZiJ (h:=x1 lk3 0 (h:=ZcG (h:=xT (h:=xA (h:=Zh ?_)))))
 exact ZY .ret (.inl rfl) [_] t1 ⟨Zk (by rw [Bool.eq_iff_iff];simp [ZcD,anyone,g1,g2,g3,g4];try omega),rfl,rfl⟩
 try simp only [sQ,ne_eq] at g4
 refine xP (h:=xP (h:=xP (h:=xF (h:=xA (h:=Zh ?_)))))
 exact ZY .ret (.inl rfl) [_] t1 ⟨Zk (by rw [Bool.eq_iff_iff];simp [ZcD,anyone,g1,g2,g3,g4];try omega),rfl,rfl⟩
 try simp only [sQ,ne_eq] at g3
 refine xP (h:=xP (h:=xP (h:=xF (h:=xM (h:=xP (h:=xP (h:=xP (h:=xF (h:=xA (h:=Zh ?_))))))))))
 exact ZY .ret (.inl rfl) [_] t1 ⟨Zk (by rw [Bool.eq_iff_iff];simp [ZcD,anyone,g1,g2,g3];try omega),rfl,rfl⟩
 try simp only [sQ,ne_eq] at g2
 refine xP (h:=xP (h:=xP (h:=xF (h:=xM (h:=xP (h:=xP (h:=xP (h:=xF (h:=xM (h:=xP (h:=xP (h:=xP (h:=?_)))))))))))))
 refine xF (h:=xA (h:=Zh ?_))
 exact ZY .ret (.inl rfl) [_] t1 ⟨Zk (by rw [Bool.eq_iff_iff];simp [ZcD,anyone,g1,g2];try omega),rfl,rfl⟩
 try simp only [sQ,ne_eq] at g1
 refine xP (h:=xP (h:=xP (h:=xF (h:=xM (h:=xP (h:=xP (h:=xP (h:=xF (h:=xM (h:=xP (h:=xP (h:=xP (h:=?_)))))))))))))
 refine xF (h:=xM (h:=xP (h:=xP (h:=xP (h:=xF (h:=xA (h:=Zh ?_)))))))
 exact ZY .ret (.inl rfl) [_] t1 ⟨Zk (by rw [Bool.eq_iff_iff];simp [ZcD,anyone,g1];try omega),rfl,rfl⟩

set_option maxHeartbeats 400000 in
theorem Ziw (q:Option Addr) (cp:Nat) (us:List DUser) (B:Kn) (hu:SlK B q cp 3 Zg us):ZaL (pj J) 47 [.slice q us.length cp] B (.bool (Zas us)):=by
 refine Zc 32 Tryz.func47 rfl rfl rfl (Nat.le_of_ble_eq_true rfl) ?_
 have hun:=hu.len
 refine Za (xA (h:=Zl (Za (xM (h:=xV Tryz.underlying23 (h:=Zag (h:=xM (h:=Zt (d:=9) rfl (fun g0=>?_) (fun g0=>?_)))))))))
 try simp only [sQ,ne_eq] at g0
 refine xP (h:=xP (h:=xP (h:=xT (h:=Zd (t:=true) rfl (fun _=>Za (xA (h:=Zh (Zs ?_)))) (fun h=>Bool.noConfusion h)))))
 exact ZY .ret (.inl rfl) [_] t1 ⟨Zk (by rw [Bool.eq_iff_iff];simp [Zas];omega),rfl,rfl⟩
 try simp only [sQ,ne_eq] at g0
 refine xM (h:=xV Tryz.underlying23 (h:=ZbM (h:=xF (h:=Zd rfl (fun g0b=>?_) (fun g0b=>?_)))))
 try simp only [sQ,ne_eq] at g0b
 refine Za (xA (h:=Zh (Zs ?_)))
 exact ZY .ret (.inl rfl) [_] t1 ⟨Zk (by rw [Bool.eq_iff_iff];simp [Zas];omega),rfl,rfl⟩
 try simp only [sQ,ne_eq] at g0b
 refine Zj (Zf (Za (xA (h:=Zl (Za (xM (h:=xV Tryz.underlying23 (h:=xM (h:=Zp (ZQ (α:=Nat × Str) [0,13,14,15] (fun g=>[(3,str g.2),(16,.int .i64 g.1)]) [] (fun g=>[]) (fun g Bx=>Bx=B∧g.1≤us.length∧ZdL (us.take g.1)=(true,g.2)∧g.2.length≤2000000) (fun g=>us.length - g.1) (0,[]) t2 rfl (⟨rfl,Nat.zero_le _,ZeX,by simp⟩) (fun g B1 hle1 hI=>?_)))))))))))
 obtain ⟨rfl,hk,hs,hl⟩:=hI
 refine ZO [(0,_),(3,_),(13,_),(14,_),(15,_),(16,_)] [] t6 rfl (Za (Zag (h:=Zl (Zd rfl (fun g1=>?_) (fun g1=>?_)))))
 try simp only [sQ,ne_eq] at g1
 refine Zj (Zf (Zl (Zp (Za ?_))))
 obtain ⟨m,hm⟩:=Zaj (xs:=us) (i:=g.1) om
 obtain ⟨bb3,oo3,rfl⟩:=hu.base hm
 obtain ⟨_,⟨rfl,hb4,hb4b⟩,hc4⟩:=hu.elem hm
 refine xIx Tryz.underlying23 ZeK (h:=yL [_,_,_] ZnD hc4 0 (h:=xAl [_,_,_] ZgA (h:=fun b5=>xS [_,_,_] 0 [_,_,_] ZeK (h:=Zv [_] rfl (Zl (Za (xL [_,_,_] ZnD 0 (h:=xR Zyi rfl (Zmg m om2 om2 _) (h:=?_)))))))))
 refine xN (h:=xM (h:=Zt (d:=23) rfl (fun g2=>?_) (fun g2=>?_)))
 try simp only [sQ,ne_eq] at g2
 refine xP (h:=xP (h:=xP (h:=xP (h:=xT (h:=Zd (t:=true) rfl (fun _=>Za (xA (h:=Zh (Zs (ZE (Zs (Z0 (ZE (Zs ?_))))))))) (fun h=>Bool.noConfusion h))))))
 exact ZY .ret (.inl rfl) [_] t1 ⟨Zk (ZfF (ZfN hm (by rw [show (scn Zdn (fun _ u=>u.name) [] (us.take g.1)).2=g.2 from congrArg Prod.snd hs];simp [Zdn,g2]))).symm,rfl,rfl⟩
 try simp only [sQ,ne_eq] at g2
 refine xW Zc0 (h:=x1 lk9 0 (h:=xM (h:=Zo (ZsN rfl rfl rfl rfl (xF (h:=Zd rfl (fun g3=>?_) (fun g3=>?_)))))))
 try simp only [sQ,ne_eq] at g3
 refine Za (xA (h:=Zh (Zs (ZE (Zs (Z0 (ZE (Zs ?_))))))))
 exact ZY .ret (.inl rfl) [_] t1 ⟨Zk (ZfF (ZfN hm (by rw [show (scn Zdn (fun _ u=>u.name) [] (us.take g.1)).2=g.2 from congrArg Prod.snd hs,Zdn,Zbs g.2 m.name,g3];simp))).symm,rfl,rfl⟩
 try simp only [sQ,ne_eq] at g3
 refine Zj (Zf (Ze (xW Zc0 (h:=x1 lk9 0 (h:=xA (h:=Zz (Zf (Ze (xD (h:=xM (h:=?_)))))))))))
 exact ZB (g.1+1,m.name) [] so2 ⟨rfl,oz,Zce hm hs (by rw [Zdn,Zbs g.2 m.name,g2,g3];rfl),oy⟩ t6 rfl
 try simp only [sQ,ne_eq] at g1
 refine ZT (Zah (ZZ (ZH (Zf (Za (xA (h:=Zh ?_)))))))
 exact ZY .ret (.inl rfl) [_] t1 ⟨Zk (by rw [ZhW (Zd0 hs oz),Bool.eq_iff_iff];simp;omega),rfl,rfl⟩

set_option maxHeartbeats 400000 in
theorem ZkU (x:DUser) (u:Str) (b:Nat) (h1:x.name.length≤2000000) (h2:u.length≤2000000) (B:Kn) (hb:Za7 B b 0 [str u]):ZaL (pj J) 121 [.agg #[str x.name,str x.pass,.int .i64 x.quota],ptr ⟨b,0,none⟩] B (.bool (decide (x.name=u))):=by
 refine Zc 8 Tryz.func121 rfl rfl rfl (Nat.le_of_ble_eq_true rfl) ?_
 refine Za (xBx [_,_,_] (h:=fun b1=>xA (h:=Zv [_] rfl (Za (xW Zc0 (h:=x1 lk9 0 (h:=Zo (Zn rfl rfl lk9 rfl (hb _ 0 _ rfl) (Zc4 (h:=xA (h:=Zh ?_)))))))))))
 exact ZY .ret (.inl rfl) [_] t1 ⟨rfl,rfl,rfl⟩

set_option maxHeartbeats 400000 in
theorem Zqx (q:Option Addr) (cp:Nat) (us:List DUser) (F:FuncId) (cap:Array Value) (t:DUser→Bool) (B:Kn) (hu:SlK B q cp 3 Zg us) (he:enters (pj J) F=true) (hF :∀x:DUser,x.name.length≤2000000→x.pass.length≤2000000→ZaL (pj J) F ([.agg #[str x.name,str x.pass,.int .i64 x.quota]] ++ cap.toList) B (.bool (t x))):ZaL (pj J) 120 [.slice q us.length cp,.func (.func F) #[] cap] B (.tuple #[.agg #[str (ZfX t us).1.name,str (ZfX t us).1.pass,.int .i64 (ZfX t us).1.quota],.bool (ZfX t us).2]):=by
 refine Zc 21 Tryz.func120 rfl rfl rfl (Nat.le_of_ble_eq_true rfl) ?_
 have hun:=hu.len
 refine Za (xAl [_,_,_] ZgA (h:=fun b1=>xA (h:=Zv [_] rfl (Zl (Za (xM (h:=xV Tryz.underlying23 (h:=xM (h:=Zp (ZQ (α:=Nat) [0,1,4,9,10] (fun k=>[(11,.int .i64 k)]) [] (fun k=>[]) (fun k Bx=>Bx=B∧k≤us.length∧∀y,y∈us.take k→t y=false) (fun k=>us.length - k) 0 t1 rfl (⟨rfl,Nat.zero_le _,by simp⟩) (fun k B2 hle2 hI=>?_)))))))))))
 obtain ⟨rfl,hk,ha⟩:=hI
 refine ZO [(0,_),(1,_),(4,_),(9,_),(10,_),(11,_)] [_] t6 rfl (Za (Zag (h:=Zl (Zd rfl (fun g1=>?_) (fun g1=>?_)))))
 try simp only [sQ,ne_eq] at g1
 refine Zj (Zf (Zl (Zp (Za ?_))))
 obtain ⟨m,hm⟩:=Zaj (xs:=us) (i:=k) om
 obtain ⟨bb4,oo4,rfl⟩:=hu.base hm
 obtain ⟨_,⟨rfl,hb5,hb5b⟩,hc5⟩:=hu.elem hm
 refine xIx Tryz.underlying23 ZeK (h:=yL [_,_,_] ZnD hc5 0 (h:=xAl [_,_,_] ZgA (h:=fun b6=>xS [_,_,_] 1 [_,_,_] ZeK (h:=Zv [_,_] rfl (Za (xM (h:=xL [_,_,_] ZnD 1 (h:=Zo (ZsH rfl rfl he rfl rfl (hF m om2 om2) ?_)))))))))
 refine Zd rfl (fun g2=>?_) (fun g2=>?_)
 try simp only [sQ,ne_eq] at g2
 refine Za (xL [_,_,_] ZnD 1 (h:=xS [_,_,_] 0 [_,_,_] ZeK (h:=xA (h:=Zv [_,_] rfl (Zh (ZE (Zs (Z0 (ZE (Zs ?_))))))))))
 exact ZY .ret (.inl rfl) [_,_] ⟨⟨_,rfl,.inr ⟨[_,_,_],ZnD,Zaf 0 rfl rfl rfl,rfl⟩⟩,rfl,trivial⟩ ⟨by rw [Zqw hm g2 ha];rfl,rfl,rfl⟩
 try simp only [sQ,ne_eq] at g2
 refine Zj (Zz (Zf (Ze (xD (h:=xM (h:=?_))))))
 exact ZB (k+1) [0] so2 ⟨rfl,oz,Zbi hm ha g2⟩ t6 rfl
 try simp only [sQ,ne_eq] at g1
 refine ZT (Zah (ZZ (ZH (Zf (Za (xAl [_,_,_] ZgA (h:=fun b8=>Zv [_,_] rfl (Za (xL [_,_,_] ZnD 1 (h:=xS [_,_,_] 0 [_,_,_] ZeK (h:=xA (h:=Zv [_,_] rfl (Zh ?_)))))))))))))
 exact ZY .ret (.inl rfl) [_,_] ⟨⟨_,rfl,.inr ⟨[_,_,_],ZnD,Zaf 0 rfl rfl rfl,rfl⟩⟩,rfl,trivial⟩ ⟨by rw [ZoO (Zbq oz ha)];rfl,rfl,rfl⟩

set_option maxHeartbeats 400000 in
theorem ZhY (q:Option Addr) (cp:Nat) (us:List DUser) (nm:Str) (hn:nm.length≤2000000) (B:Kn) (hu:SlK B q cp 3 Zg us):ZaL (pj J) 74 [.slice q us.length cp,str nm] B (.tuple #[.agg #[str (Zau us nm).1.name,str (Zau us nm).1.pass,.int .i64 (Zau us nm).1.quota],.bool (Zau us nm).2]):=by
 refine Zc 15 Tryz.func74 rfl rfl rfl (Nat.le_of_ble_eq_true rfl) ?_
 have hun:=hu.len
 refine Za (xBx [_] (h:=fun b1=>xAl [_,_,_] ZgA (h:=fun b2=>xA (h:=Zv [_,_] rfl (Zl (Za (xM (h:=xR ZxP rfl (Ziw _ _ _ _ hu) (h:=xN (h:=Zd rfl (fun g0=>?_) (fun g0=>?_)))))))))))
 try simp only [sQ,ne_eq] at g0
 refine Za (xB [] [_,_,_] [_,_,_] ZrB ZgA (h:=xS [_,_,_] 1 [_,_,_] ZeK (h:=xA (h:=Zv [_,_] rfl (Zh (Zs ?_))))))
 exact ZY .ret (.inl rfl) [_,_] ⟨⟨_,rfl,.inr ⟨[_,_,_],ZnD,Zaf 1 rfl rfl rfl,rfl⟩⟩,rfl,trivial⟩ ⟨by rw [Zau,g0];rfl,rfl,rfl⟩
 try simp only [sQ,ne_eq] at g0
 refine Zj (Zf (Za (xM (h:=Zo (Zd9 (xs:=[]) (ys:=[_]) rfl rfl rfl rfl (Zo (ZhQ 0 rfl rfl rfl Zxn rfl (ZaL.borrow fun hm=>Zqx _ _ us 121 _ (fun y=>decide (y.name=nm)) _ (hu.mono Zg.mono (Kn.le_add _ _)) Zxm (fun y h1 h2=>ZkU y nm _ h1 hn _ (Zkd hm))) (xE (h:=xE (h:=xS [_,_,_] 1 [_,_,_] ZeK (h:=xA (h:=Zv [_,_] rfl (Zh ?_)))))))))))))
 exact ZY .ret (.inl rfl) [_,_] ⟨⟨_,rfl,.inr ⟨[_,_,_],ZnD,Zaf 1 rfl rfl rfl,rfl⟩⟩,rfl,trivial⟩ ⟨by rw [Zau,if_pos g0];rfl,rfl,rfl⟩

set_option maxHeartbeats 400000 in
theorem ZhE (b o:Nat) (q1 q2 q3:Option Addr) (c1 c2 c3:Nat) (x:DHost) (nm:Str) (hn:nm.length≤2000000) (B:Kn) (hh:Za7 B b o [str x.domain,.slice q1 x.users.length c1,.slice q2 x.folders.length c2,.int .i64 x.queue.next,.slice q3 x.queue.items.length c3]) (hu:SlK B q1 c1 3 Zg x.users):ZaL (pj J) 34 [ptr ⟨b,o,none⟩,str nm] B (.bool (Zau x.users nm).2):=by
 refine Zc 17 Tryz.func34 rfl rfl rfl (Nat.le_of_ble_eq_true rfl) ?_
 refine Za (xA (h:=Za (xM (h:=xNc (h:=xW ZbD (h:=Zo (Zn rfl rfl ZhC rfl (hh _ 1 _ rfl) (xM (h:=xR ZxL rfl (ZhY _ _ _ nm om2 _ hu) (h:=?_))))))))))
 refine xM (h:=xE (h:=xE (h:=xAl [_,_,_] ZgA (h:=fun b2=>xS [_,_,_] 0 [_,_,_] ZeK (h:=xA (h:=Zv [_] rfl (Za (xM (h:=xA (h:=Zh ?_))))))))))
 exact ZY .ret (.inl rfl) [_] t1 ⟨rfl,rfl,rfl⟩

set_option maxHeartbeats 400000 in
theorem Zdv (q1 q2 q3:Option Addr) (c1 c2 c3:Nat) (x:DHost) (ow nm:Str) (ho:ow.length≤2000000) (hn:nm.length≤2000000) (B:Kn) (hf:SlK B q2 c2 5 Zb x.folders):ZaL (pj J) 27 [.agg #[str x.domain,.slice q1 x.users.length c1,.slice q2 x.folders.length c2,.int .i64 x.queue.next,.slice q3 x.queue.items.length c3],str ow,str nm] B (.int .i64 (Zbc (inF ow nm) x.folders)):=by
 refine Zc 34 Tryz.func27 rfl rfl rfl (Nat.le_of_ble_eq_true rfl) ?_
 have hfn:=hf.len
 refine Za (xBx [_,_,_,_,_] (h:=fun b1=>xA (h:=Zv [_] rfl (Zl (Za (xA (h:=Zp (ZQ (α:=Nat) [0,1,2,3] (fun k=>[(7,.int .i64 k)]) [] (fun k=>[]) (fun k Bx=>Bx=B∧k≤x.folders.length∧∀y,y∈x.folders.take k→inF ow nm y=false) (fun k=>x.folders.length - k) 0 t1 rfl (⟨rfl,Nat.zero_le _,by simp⟩) (fun k B2 hle2 hI=>?_)))))))))
 obtain ⟨rfl,hk,ha⟩:=hI
 refine ZO [(0,_),(1,_),(2,_),(3,_),(7,_)] [_] t5 rfl (Zl (Za (xM (h:=xW Z9 (h:=x1 ZcN 0 (h:=xV Tryz.underlying24 (h:=Zag (h:=Zd rfl (fun g1=>?_) (fun g1=>?_)))))))))
 try simp only [sQ,ne_eq] at g1
 refine Zj (Zf (Zl (Zp (Za (xW Z9 (h:=x1 ZcN 0 (h:=xM (h:=?_))))))))
 obtain ⟨y,hy⟩:=Zaj (xs:=x.folders) (i:=k) om
 obtain ⟨bb4,oo4,rfl⟩:=hf.base hy
 obtain ⟨_,⟨qg5,cg5,qm5,cm5,rfl,hg5,hm5,hb5,hb5b⟩,hc5⟩:=hf.elem hy
 have hg5n:=hg5.len
 have hm5n:=hm5.len
 have hm5s:=Zac hm5
 refine xIx Tryz.underlying24 Zbw (h:=xW Zc7 (h:=y1 lk9 hc5 0 (h:=xM (h:=Zc4 (h:=xM (h:=Zt (d:=23) rfl (fun g2=>?_) (fun g2=>?_)))))))
 try simp only [sQ,ne_eq] at g2
 refine xW Z9 (h:=x1 ZcN 0 (h:=xM (h:=xIx Tryz.underlying24 Zbw (h:=xW Zfw (h:=y1 lk9 hc5 1 (h:=xM (h:=Zc4 (h:=xT (h:=Zd rfl (fun g3=>?_) (fun g3=>?_))))))))))
 try simp only [sQ,ne_eq] at g3
 refine Za (xM (h:=xA (h:=Zh (ZE (Zs (Z0 (ZE (Zs ?_))))))))
 exact ZY .ret (.inl rfl) [_] t1 ⟨Za3 (ZhF hy (by simp [inF,g2,g3]) ha).symm,rfl,rfl⟩
 try simp only [sQ,ne_eq] at g3
 refine Zj (Zz (Zf (Ze (xM (h:=xD (h:=xA (h:=?_)))))))
 exact ZB (k+1) [0] so2 ⟨rfl,oz,Zbi hy ha (by simp [inF,g2,g3])⟩ t5 rfl
 try simp only [sQ,ne_eq] at g2
 refine xP (h:=xP (h:=xP (h:=xP (h:=xP (h:=xP (h:=xP (h:=xP (h:=xF (h:=Zd (t:=false) rfl (fun h=>Bool.noConfusion h) (fun _=>Zj (Zz (Zf (Ze ?_)))))))))))))
 refine xM (h:=xD (h:=xA (h:=?_)))
 exact ZB (k+1) [0] so2 ⟨rfl,oz,Zbi hy ha (by simp [inF,g2])⟩ t5 rfl
 try simp only [sQ,ne_eq] at g1
 refine ZT (Zah (ZZ (ZH (Zf (Za (xA (h:=Zh ?_)))))))
 exact ZY .ret (.inl rfl) [_] t1 ⟨Za3 (Ze5 (Zbq oz ha)).symm,rfl,rfl⟩

set_option maxHeartbeats 400000 in
theorem ZtZ (f:DFolder) (qa qb:Option Addr) (ca cb:Nat) (ow nm:Str) (b b':Nat) (h1:f.owner.length≤2000000) (h2:f.name.length≤2000000) (h3:ow.length≤2000000) (h4:nm.length≤2000000) (B:Kn) (hb:Za7 B b 0 [str ow]) (hb2:Za7 B b' 0 [str nm]):ZaL (pj J) 104 [.agg #[str f.owner,str f.name,.slice qa f.grants.length ca,.int .i64 f.next,.slice qb f.mail.length cb],ptr ⟨b,0,none⟩,ptr ⟨b',0,none⟩] B (.bool (inF ow nm f)):=by
 refine Zc 15 Tryz.func104 rfl rfl rfl (Nat.le_of_ble_eq_true rfl) ?_
 refine Za (xBx [_,_,_,_,_] (h:=fun b1=>xA (h:=Zv [_] rfl (Za (xW Zc7 (h:=x1 lk9 0 (h:=Zo (Zn rfl rfl lk9 rfl (hb _ 0 _ rfl) (Zc4 (h:=xM (h:=Zt (d:=9) rfl (fun g1=>?_) (fun g1=>?_))))))))))))
 try simp only [sQ,ne_eq] at g1
 refine xW Zfw (h:=x1 lk9 0 (h:=Zo (Zn rfl rfl lk9 rfl (hb2 _ 0 _ rfl) (Zc4 (h:=xT (h:=xA (h:=Zh ?_)))))))
 exact ZY .ret (.inl rfl) [_] t1 ⟨Zk (by rw [Bool.eq_iff_iff];simp [inF,g1]),rfl,rfl⟩
 try simp only [sQ,ne_eq] at g1
 refine xP (h:=xP (h:=xP (h:=xP (h:=xF (h:=xA (h:=Zh ?_))))))
 exact ZY .ret (.inl rfl) [_] t1 ⟨Zk (by rw [Bool.eq_iff_iff];simp [inF,g1]),rfl,rfl⟩

set_option maxHeartbeats 400000 in
theorem ZrW (q:Option Addr) (cp:Nat) (fs:List DFolder) (F:FuncId) (cap:Array Value) (t:DFolder→Bool) (B:Kn) (hf:SlK B q cp 5 Zb fs) (he:enters (pj J) F=true) (hF :∀(f:DFolder) (qa qb:Option Addr) (ca cb:Nat),f.owner.length≤2000000→f.name.length≤2000000→ZaL (pj J) F ([.agg #[str f.owner,str f.name,.slice qa f.grants.length ca,.int .i64 f.next,.slice qb f.mail.length cb]] ++ cap.toList) B (.bool (t f))):ZaL (pj J) 103 [.slice q fs.length cp,.func (.func F) #[] cap] B (.int .i64 (Zbc t fs)):=by
 refine Zc 19 Tryz.func103 rfl rfl rfl (Nat.le_of_ble_eq_true rfl) ?_
 have hfn:=hf.len
 refine Za (xA (h:=Zl (Za (xM (h:=xV Tryz.underlying24 (h:=xM (h:=Zp (ZQ (α:=Nat) [0,1,7] (fun k=>[(8,.int .i64 k)]) [] (fun k=>[]) (fun k Bx=>Bx=B∧k≤fs.length∧∀y,y∈fs.take k→t y=false) (fun k=>fs.length - k) 0 t1 rfl (⟨rfl,Nat.zero_le _,by simp⟩) (fun k B1 hle1 hI=>?_)))))))))
 obtain ⟨rfl,hk,ha⟩:=hI
 refine ZO [(0,_),(1,_),(7,_),(8,_)] [] t4 rfl (Za (Zag (h:=Zl (Zd rfl (fun g1=>?_) (fun g1=>?_)))))
 try simp only [sQ,ne_eq] at g1
 refine Zj (Zf (Zl (Zp (Za (xM (h:=xA (h:=Za (xM (h:=xM (h:=xM (h:=?_)))))))))))
 obtain ⟨y,hy⟩:=Zaj (xs:=fs) (i:=k) om
 obtain ⟨bb3,oo3,rfl⟩:=hf.base hy
 obtain ⟨_,⟨qg4,cg4,qm4,cm4,rfl,hg4,hm4,hb4,hb4b⟩,hc4⟩:=hf.elem hy
 have hg4n:=hg4.len
 have hm4n:=hm4.len
 have hm4s:=Zac hm4
 refine xIx Tryz.underlying24 Zbw (h:=yL [_,_,_,_,_] Zja hc4 0 (h:=Zo (ZsH rfl rfl he rfl rfl (hF y _ _ _ _ om2 om2) ?_)))
 refine Zd rfl (fun g2=>?_) (fun g2=>?_)
 try simp only [sQ,ne_eq] at g2
 refine Za (xM (h:=xA (h:=Zh (ZE (Zs (Z0 (ZE (Zs ?_))))))))
 exact ZY .ret (.inl rfl) [_] t1 ⟨Za3 (ZhF hy g2 ha).symm,rfl,rfl⟩
 try simp only [sQ,ne_eq] at g2
 refine Zj (Zz (Zf (Ze (xD (h:=xM (h:=?_))))))
 exact ZB (k+1) [] so2 ⟨rfl,oz,Zbi hy ha g2⟩ t4 rfl
 try simp only [sQ,ne_eq] at g1
 refine ZT (Zah (ZZ (ZH (Zf (Za (xA (h:=Zh ?_)))))))
 exact ZY .ret (.inl rfl) [_] t1 ⟨Za3 (Ze5 (Zbq oz ha)).symm,rfl,rfl⟩

set_option maxHeartbeats 400000 in
theorem Zvk (b o:Nat) (q1 q2 q3:Option Addr) (c1 c2 c3:Nat) (x:DHost) (ow nm:Str) (ho:ow.length≤2000000) (hn:nm.length≤2000000) (B:Kn) (hh:Za7 B b o [str x.domain,.slice q1 x.users.length c1,.slice q2 x.folders.length c2,.int .i64 x.queue.next,.slice q3 x.queue.items.length c3]) (hf:SlK B q2 c2 5 Zb x.folders):ZaL (pj J) 57 [ptr ⟨b,o,none⟩,str ow,str nm] B (.int .i64 (Zbc (inF ow nm) x.folders)):=by
 refine Zc 13 Tryz.func57 rfl rfl rfl (Nat.le_of_ble_eq_true rfl) ?_
 refine Za (xBx [_] (h:=fun b1=>xBx [_] (h:=fun b2=>xA (h:=Zv [_,_] rfl (Za (xM (h:=xNc (h:=xW Z9 (h:=Zo (Zn rfl rfl ZcN rfl (hh _ 2 _ rfl) (Zo (Zd9 (xs:=[]) (ys:=[_,_]) rfl rfl rfl rfl (Zo (ZuF 0 1 rfl rfl rfl rfl rfl Zxy rfl (ZaL.borrow2 fun hm1 hm2=>ZrW _ _ x.folders 104 _ (inF ow nm) _ ((hf.mono Zb.mono (Kn.le_add _ _)).mono Zb.mono (Kn.le_add _ _)) Zxx (fun f qa qb ca cb h1 h2=>ZtZ f qa qb ca cb ow nm _ _ h1 h2 ho hn _ (Zkd hm1) (Zkd hm2))) (xA (h:=?_))))))))))))))))
 refine Zh ?_
 exact ZY .ret (.inl rfl) [_] t1 ⟨rfl,rfl,rfl⟩

set_option maxHeartbeats 400000 in
theorem Zmz (b o:Nat) (q1 q2 q3:Option Addr) (c1 c2 c3:Nat) (x:DHost) (B:Kn) (hh:Za7 B b o [str x.domain,.slice q1 x.users.length c1,.slice q2 x.folders.length c2,.int .i64 x.queue.next,.slice q3 x.queue.items.length c3]) (hu:SlK B q1 c1 3 Zg x.users) (hi:SlK B q3 c3 4 Zi x.queue.items):ZaL (pj J) 51 [ptr ⟨b,o,none⟩] B (.bool (x.queue.items.all (Zdb x.users))):=by
 refine Zc 35 Tryz.func51 rfl rfl rfl (Nat.le_of_ble_eq_true rfl) ?_
 have hin:=hi.len
 refine Za (xA (h:=Zl (Za (xM (h:=xNc (h:=xW Zbg (h:=xW Zap (h:=Zo (Zn rfl rfl Zd7 rfl (hh _ 4 _ rfl) (xV Tryz.underlying25 (h:=xM (h:=Zp (ZQ (α:=Nat) [0,11,12] (fun k=>[(13,.int .i64 k)]) [] (fun k=>[]) (fun k Bx=>Bx=B∧k≤x.queue.items.length∧∀y,y∈x.queue.items.take k→Zdb x.users y=true) (fun k=>x.queue.items.length - k) 0 t1 rfl (⟨rfl,Nat.zero_le _,by simp⟩) (fun k B1 hle1 hI=>?_))))))))))))))
 obtain ⟨rfl,hk,ha⟩:=hI
 refine ZO [(0,_),(11,_),(12,_),(13,_)] [] t4 rfl (Za (Zag (h:=Zl (Zd rfl (fun g1=>?_) (fun g1=>?_)))))
 try simp only [sQ,ne_eq] at g1
 refine Zj (Zf (Zl (Zp (Za ?_))))
 obtain ⟨y,hy⟩:=Zaj (xs:=x.queue.items) (i:=k) om
 obtain ⟨bb3,oo3,rfl⟩:=hi.base hy
 obtain ⟨_,⟨qi4,ci4,rfl,hi4,hb4,hb4b⟩,hc4⟩:=hi.elem hy
 have hi4n:=hi4.len
 refine xIx Tryz.underlying25 Zde (h:=yL [_,_,_,_] ZhB hc4 0 (h:=xAl [_,_,_,_] ZfD (h:=fun b5=>xS [_,_,_,_] 0 [_,_,_,_] Zde (h:=Zv [_] rfl (Zl (Za (xM (h:=xW ZjQ (h:=x1 lk9 0 (h:=xR Zv3 rfl (ZhE _ _ _ _ _ _ _ _ x y.fr om2 _ hh hu) (h:=?_)))))))))))
 refine xN (h:=Zd rfl (fun g2=>?_) (fun g2=>?_))
 try simp only [sQ,ne_eq] at g2
 refine Za (xA (h:=Zh (Zs (ZE (Zs (Z0 (ZE (Zs ?_))))))))
 exact ZY .ret (.inl rfl) [_] t1 ⟨Zk (ZcT hy (by simp [Zdb,g2])).symm,rfl,rfl⟩
 try simp only [sQ,ne_eq] at g2
 refine Zj (Zf (Za (xW Zbo (h:=x1 ZfP 0 (h:=xV Tryz.underlying39 (h:=xM (h:=Zp (ZQ (α:=Nat) [0,4,11,12,13,14,21,23,24] (fun j=>[(25,.int .i64 j)]) [] (fun j=>[]) (fun j Bx=>Bx=B1∧j≤y.left.length∧∀z,z∈y.left.take j→(Zau x.users z).2=true) (fun j=>y.left.length - j) 0 t1 rfl (⟨rfl,Nat.zero_le _,by simp⟩) (fun j B7 hle7 hI=>?_)))))))))
 obtain ⟨rfl,hj,hb⟩:=hI
 refine ZO [(0,_),(4,_),(11,_),(12,_),(13,_),(14,_),(21,_),(23,_),(24,_),(25,_)] [_] t10 rfl (Za (Zag (h:=Zl (Zd rfl (fun g3=>?_) (fun g3=>?_)))))
 try simp only [sQ,ne_eq] at g3
 refine Zj (Zf (Zl (Zp (Za ?_))))
 obtain ⟨z,hz⟩:=Zaj (xs:=y.left) (i:=j) om
 obtain ⟨bb9,oo9,rfl⟩:=hi4.base hz
 obtain ⟨_,⟨rfl,hb10⟩,hc10⟩:=hi4.elem hz
 refine xIx Tryz.underlying39 sz9 (h:=y1 lk9 hc10 0 (h:=xA (h:=Za (xM (h:=xM (h:=xR Zv3 rfl (ZhE _ _ _ _ _ _ _ _ x z om2 _ hh hu) (h:=?_)))))))
 refine xN (h:=Zd rfl (fun g4=>?_) (fun g4=>?_))
 try simp only [sQ,ne_eq] at g4
 refine Za (xA (h:=Zh (ZE (Zs (Z0 (ZE (ZE (Zs (Z0 (ZE (Zs ?_)))))))))))
 exact ZY .ret (.inl rfl) [_] t1 ⟨Zk (ZcT hy (by rw [Zdb,ZcT hz g4,Bool.and_false])).symm,rfl,rfl⟩
 try simp only [sQ,ne_eq] at g4
 refine Zj (Zz (Zf (Ze (xD (h:=xM (h:=?_))))))
 exact ZB (j+1) [0] so2 ⟨rfl,oz,Zbi hz hb g4⟩ t10 rfl
 try simp only [sQ,ne_eq] at g3
 refine ZT (Zah (ZZ (ZH (Zz (Zf (Ze (xD (h:=xM (h:=?_)))))))))
 exact ZB (k+1) [] so2 ⟨rfl,oz,Zbi hy ha (by rw [Zdb,g2,ZeH (Zbq oz hb)];rfl)⟩ t4 rfl
 try simp only [sQ,ne_eq] at g1
 refine ZT (Zah (ZZ (ZH (Zf (Za (xA (h:=Zh ?_)))))))
 exact ZY .ret (.inl rfl) [_] t1 ⟨Zk (ZeH (Zbq oz ha)).symm,rfl,rfl⟩

set_option maxHeartbeats 400000 in
theorem Zlt (f g:DFolder) (qa qb qc qd:Option Addr) (ca cb cc cd:Nat) (B:Kn):ZaL (pj J) 111 [.agg #[str f.owner,str f.name,.slice qa f.grants.length ca,.int .i64 f.next,.slice qb f.mail.length cb],.agg #[str g.owner,str g.name,.slice qc g.grants.length cc,.int .i64 g.next,.slice qd g.mail.length cd]] B (.bool (ZcO f g)):=by
 refine Zc 24 Tryz.func111 rfl rfl rfl (Nat.le_of_ble_eq_true rfl) ?_
 refine Za (xBx [_,_,_,_,_] (h:=fun b1=>xBx [_,_,_,_,_] (h:=fun b2=>xA (h:=Zv [_,_] rfl (Za (xW Zc7 (h:=x1 lk9 0 (h:=xW Zc7 (h:=x1 lk9 1 (h:=ZsG (h:=xM (h:=Zt (d:=10) rfl (fun g1=>?_) (fun g1=>?_)))))))))))))
 try simp only [sQ,ne_eq] at g1
 refine xP (h:=xP (h:=xP (h:=xP (h:=xP (h:=xP (h:=xP (h:=xP (h:=xP (h:=xP (h:=xP (h:=xP (h:=xT (h:=?_)))))))))))))
 refine xA (h:=Zh ?_)
 exact ZY .ret (.inl rfl) [_] t1 ⟨Zk (by rw [Bool.eq_iff_iff];simp [ZcO,ZdU,g1]),rfl,rfl⟩
 try simp only [sQ,ne_eq] at g1
 refine xW Zc7 (h:=x1 lk9 0 (h:=xW Zc7 (h:=x1 lk9 1 (h:=Zc4 (h:=xM (h:=Zt (d:=16) rfl (fun g2=>?_) (fun g2=>?_)))))))
 try simp only [sQ,ne_eq] at g2
 refine xW Zfw (h:=x1 lk9 0 (h:=xW Zfw (h:=x1 lk9 1 (h:=ZsG (h:=xT (h:=xF (h:=xA (h:=Zh ?_))))))))
 exact ZY .ret (.inl rfl) [_] t1 ⟨Zk (by rw [Bool.eq_iff_iff];simp [ZcO,ZdU,g1,g2]),rfl,rfl⟩
 try simp only [sQ,ne_eq] at g2
 refine xP (h:=xP (h:=xP (h:=xP (h:=xP (h:=xF (h:=xF (h:=xA (h:=Zh ?_))))))))
 exact ZY .ret (.inl rfl) [_] t1 ⟨Zk (by rw [Bool.eq_iff_iff];simp [ZcO,ZdU,g1,g2]),rfl,rfl⟩

set_option maxHeartbeats 400000 in
theorem Zmn (q:Option Addr) (cp:Nat) (us:List DUser) (B:Kn) (hu:SlK B q cp 3 Zg us):ZaL (pj J) 61 [.slice q us.length cp] B (.bool (Zas us)):=by
 refine Zc 54 Tryz.func61 rfl rfl rfl (Nat.le_of_ble_eq_true rfl) ?_
 have hun:=hu.len
 refine Za (xA (h:=Zl (Za (xA (h:=Zp (ZQ (α:=Nat × Str) [0] (fun g=>[(3,.int .i64 g.1)]) [] (fun g=>[]) (fun g Bx=>Bx=B∧g.1≤us.length∧ZdL (us.take g.1)=(true,g.2)∧Prev (fun y=>y.name) ([]:Str) us g.1 g.2) (fun g=>us.length - g.1) (0,[]) t1 rfl (⟨rfl,Nat.zero_le _,ZeX,.zero⟩) (fun g B1 hle1 hI=>?_)))))))
 obtain ⟨rfl,hk,hs,hp⟩:=hI
 refine ZO [(0,_),(3,_)] [] t2 rfl (Zl (Za (xM (h:=xM (h:=xV Tryz.underlying23 (h:=Zag (h:=Zd rfl (fun g1=>?_) (fun g1=>?_))))))))
 try simp only [sQ,ne_eq] at g1
 refine Zj (Zf (Zl (Zp (Za (xM (h:=xM (h:=?_)))))))
 obtain ⟨m,hm⟩:=Zaj (xs:=us) (i:=g.1) om
 obtain ⟨bb3,oo3,rfl⟩:=hu.base hm
 obtain ⟨_,⟨rfl,hb4,hb4b⟩,hc4⟩:=hu.elem hm
 refine xIx Tryz.underlying23 ZeK (h:=yL [_,_,_] ZnD hc4 0 (h:=xAl [_,_,_] ZgA (h:=fun b5=>xS [_,_,_] 0 [_,_,_] ZeK (h:=Zv [_] rfl (Zl (Z8 (same _ _) mo kr ⟨rfl,rfl⟩ (fun _ _=>?_)))))))
 refine aW 0 rfl Zc0 (h:=aT 1 rfl (Zan fun D=>Zn rfl rfl lk9 rfl (atL 0 rfl rfl rfl) r4) (h:=aT 2 rfl (Zan fun D=>ZaS rfl rfl Zsh rfl (ZbW _ om2 _) r4) (h:=?_)))
 refine aN 3 rfl (h:=aM 4 rfl (h:=ZaI (d:=19) rfl (fun g2=>?_) (fun g2=>?_)))
 try simp only [sQ,ne_eq] at g2
 refine aZ 5 rfl (h:=aZ 6 rfl (h:=aZ 7 rfl (h:=aPT 8 rfl (h:=aM 9 rfl (h:=aZ 10 rfl (h:=aZ 11 rfl (h:=aZ 12 rfl (h:=aZ 13 rfl (h:=aPT 14 rfl (h:=aM 15 rfl (h:=aZ 16 rfl (h:=aZ 17 rfl (h:=?_)))))))))))))
 refine aZ 18 rfl (h:=aZ 19 rfl (h:=aPT 20 rfl (h:=aM 21 rfl (h:=aZ 22 rfl (h:=aZ 23 rfl (h:=aZ 24 rfl (h:=aZ 25 rfl (h:=aZ 26 rfl (h:=aZ 27 rfl (h:=aZ 28 rfl (h:=aZ 29 rfl (h:=aZ 30 rfl (h:=?_)))))))))))))
 refine aZ 31 rfl (h:=aZ 32 rfl (h:=aZ 33 rfl (h:=aZ 34 rfl (h:=aPT 35 rfl (h:=ZC kr kr ?_)))))
 refine Zf (Zd (t:=true) rfl (fun _=>Za (xA (h:=Zh (ZE (Zs (Z0 (ZE (Zs ?_)))))))) (fun h=>Bool.noConfusion h))
 exact ZY .ret (.inl rfl) [_] t1 ⟨Zk (Zdm hm hs (by simp [Zdn,ZcD,anyone,g1,g2])).symm,rfl,rfl⟩
 try simp only [sQ,ne_eq] at g2
 refine aW 5 rfl Zc0 (h:=aT 6 rfl (Zan fun D=>Zn rfl rfl lk9 rfl (atL 0 rfl rfl rfl) r4) (h:=Zq0 7 rfl (h:=aPF 8 rfl (h:=aM 9 rfl (h:=ZaI (d:=24) rfl (fun g3=>?_) (fun g3=>?_))))))
 try simp only [sQ,ne_eq] at g3
 refine aZ 10 rfl (h:=aZ 11 rfl (h:=aZ 12 rfl (h:=aZ 13 rfl (h:=aPT 14 rfl (h:=aM 15 rfl (h:=aZ 16 rfl (h:=aZ 17 rfl (h:=aZ 18 rfl (h:=aZ 19 rfl (h:=aPT 20 rfl (h:=aM 21 rfl (h:=aZ 22 rfl (h:=?_)))))))))))))
 refine aZ 23 rfl (h:=aZ 24 rfl (h:=aZ 25 rfl (h:=aZ 26 rfl (h:=aZ 27 rfl (h:=aZ 28 rfl (h:=aZ 29 rfl (h:=aZ 30 rfl (h:=aZ 31 rfl (h:=aZ 32 rfl (h:=aZ 33 rfl (h:=aZ 34 rfl (h:=aPT 35 rfl (h:=?_)))))))))))))
 refine ZC kr kr ?_
 refine Zf (Zd (t:=true) rfl (fun _=>Za (xA (h:=Zh (ZE (Zs (Z0 (ZE (Zs ?_)))))))) (fun h=>Bool.noConfusion h))
 exact ZY .ret (.inl rfl) [_] t1 ⟨Zk (Zdm hm hs (by simp [Zdn,ZcD,anyone,g1,g2,g3])).symm,rfl,rfl⟩
 try simp only [sQ,ne_eq] at g3
 refine aW 10 rfl Zqq (h:=aT 11 rfl (Zan fun D=>Zn rfl rfl lk9 rfl (atL 0 rfl rfl rfl) r4) (h:=aT 12 rfl (Zan fun D=>ZaS rfl rfl Zsh rfl (ZbW _ om2 _) r4) (h:=?_)))
 refine aN 13 rfl (h:=aPF 14 rfl (h:=aM 15 rfl (h:=ZaI (d:=30) rfl (fun g4=>?_) (fun g4=>?_))))
 try simp only [sQ,ne_eq] at g4
 refine aZ 16 rfl (h:=aZ 17 rfl (h:=aZ 18 rfl (h:=aZ 19 rfl (h:=aPT 20 rfl (h:=aM 21 rfl (h:=aZ 22 rfl (h:=aZ 23 rfl (h:=aZ 24 rfl (h:=aZ 25 rfl (h:=aZ 26 rfl (h:=aZ 27 rfl (h:=aZ 28 rfl (h:=?_)))))))))))))
 refine aZ 29 rfl (h:=aZ 30 rfl (h:=aZ 31 rfl (h:=aZ 32 rfl (h:=aZ 33 rfl (h:=aZ 34 rfl (h:=aPT 35 rfl (h:=ZC kr kr ?_)))))))
 refine Zf (Zd (t:=true) rfl (fun _=>Za (xA (h:=Zh (ZE (Zs (Z0 (ZE (Zs ?_)))))))) (fun h=>Bool.noConfusion h))
 exact ZY .ret (.inl rfl) [_] t1 ⟨Zk (Zdm hm hs (by simp [Zdn,ZcD,anyone,g1,g2,g3,g4])).symm,rfl,rfl⟩
 try simp only [sQ,ne_eq] at g4
 refine aW 16 rfl ZiJ (h:=aT 17 rfl (Zan fun D=>Zn rfl rfl lk3 rfl (atL 0 rfl rfl rfl) r4) (h:=aT 18 rfl (Zan fun D=>ZaS rfl rfl Zeo rfl (Zcl _ _ _ _) r4) (h:=aN 19 rfl (h:=aPF 20 rfl (h:=aM 21 rfl (h:=ZaI (d:=36) rfl (fun g5=>?_) (fun g5=>?_)))))))
 try simp only [sQ,ne_eq] at g5
 refine aZ 22 rfl (h:=aZ 23 rfl (h:=aZ 24 rfl (h:=aZ 25 rfl (h:=aZ 26 rfl (h:=aZ 27 rfl (h:=aZ 28 rfl (h:=aZ 29 rfl (h:=aZ 30 rfl (h:=aZ 31 rfl (h:=aZ 32 rfl (h:=aZ 33 rfl (h:=aZ 34 rfl (h:=?_)))))))))))))
 refine aPT 35 rfl (h:=ZC kr kr ?_)
 refine Zf (Zd (t:=true) rfl (fun _=>Za (xA (h:=Zh (ZE (Zs (Z0 (ZE (Zs ?_)))))))) (fun h=>Bool.noConfusion h))
 exact ZY .ret (.inl rfl) [_] t1 ⟨Zk (Zdm hm hs (by simp [Zdn,ZcD,anyone,g1,g2,g3,g4,g5])).symm,rfl,rfl⟩
 try simp only [sQ,ne_eq] at g5
 refine aM 22 rfl (h:=Zm7 23 rfl (h:=aM 24 rfl (h:=ZaI (d:=39) rfl (fun g6=>?_) (fun g6=>?_))))
 try simp only [sQ,ne_eq] at g6
 refine aM 25 rfl (h:=aM 26 rfl (h:=aU 27 rfl (h:=?_)))
 obtain ⟨y,hy⟩:=ZeP (xs:=us) (i:=(↑g.1 - 1)) om om
 obtain ⟨_,⟨rfl,hb10,hb10b⟩,hc10⟩:=hu.elem hy
 refine aIx 28 rfl Tryz.underlying23 ZeK (h:=?_)
 have hpe:=hp.at hy oz
 refine aW 29 rfl Zc0 (h:=aT 30 rfl (Zan fun D=>Zn rfl rfl lk9 rfl (hc10 _ 0 _ rfl) r4) (h:=aW 31 rfl Zc0 (h:=aT 32 rfl (Zan fun D=>Zn rfl rfl lk9 rfl (atL 0 rfl rfl rfl) r4) (h:=aT 33 rfl (Zan fun D=>Zpf rfl rfl rfl rfl r4) (h:=aPT 34 rfl (h:=aPF 35 rfl (h:=ZC kr kr ?_)))))))
 refine Zf (Zd rfl (fun g7=>?_) (fun g7=>?_))
 try simp only [sQ,ne_eq] at g7
 refine Za (xA (h:=Zh (ZE (Zs (Z0 (ZE (Zs ?_)))))))
 exact ZY .ret (.inl rfl) [_] t1 ⟨Zk (Zdm hm hs (by simp [Zdn,ZcD,anyone,g1,g2,g3,g4,g5,g6,g7,hpe])).symm,rfl,rfl⟩
 try simp only [sQ,ne_eq] at g7
 refine Zj (Zz (Zf (Ze (xM (h:=xD (h:=xA (h:=?_)))))))
 exact ZB (g.1+1,m.name) [] so2 ⟨rfl,oz,Zce hm hs (by rw [hpe];simp [Zdn,ZcD,anyone,g2,g3,g4,g7];simp at g5;omega),.succ hm⟩ t2 rfl
 try simp only [sQ,ne_eq] at g6
 refine aZ 25 rfl (h:=aZ 26 rfl (h:=aZ 27 rfl (h:=aZ 28 rfl (h:=aZ 29 rfl (h:=aZ 30 rfl (h:=aZ 31 rfl (h:=aZ 32 rfl (h:=aZ 33 rfl (h:=aPF 34 rfl (h:=aPF 35 rfl (h:=ZC kr kr ?_)))))))))))
 refine Zf (Zd (t:=false) rfl (fun h=>Bool.noConfusion h) (fun _=>Zj (Zz (Zf (Ze (xM (h:=xD (h:=xA (h:=?_)))))))))
 exact ZB (g.1+1,m.name) [] so2 ⟨rfl,oz,Zce hm hs (by rw [hp.at0 oz];simp [Zdn,ZcD,anyone,g2,g3,g4,ZnB (ZjE g2)];simp at g5;omega),.succ hm⟩ t2 rfl
 try simp only [sQ,ne_eq] at g1
 refine ZT (Zah (ZZ (ZH (Zf (Za (xM (h:=xV Tryz.underlying23 (h:=xR Zeo rfl (Zcl _ _ _ _) (h:=xA (h:=Zh ?_))))))))))
 exact ZY .ret (.inl rfl) [_] t1 ⟨Zk (by rw [ZhW (Zd0 hs oz),Bool.eq_iff_iff];simp;omega),rfl,rfl⟩

set_option maxHeartbeats 400000 in
theorem Zgf (q:Option Addr) (cp:Nat) (gs:List DGrant) (B:Kn) (hg:SlK B q cp 2 ZL gs):ZaL (pj J) 109 [.slice q gs.length cp] B (.bool (ZcB gs)):=by
 refine Zc 47 Tryz.func109 rfl rfl rfl (Nat.le_of_ble_eq_true rfl) ?_
 have hgn:=hg.len
 refine Za (xA (h:=Zl (Za (xA (h:=Zp (ZQ (α:=Nat × Str) [0] (fun g=>[(3,.int .i64 g.1)]) [] (fun g=>[]) (fun g Bx=>Bx=B∧g.1≤gs.length∧Zdy (gs.take g.1)=(true,g.2)∧Prev (fun y=>y.user) ([]:Str) gs g.1 g.2) (fun g=>gs.length - g.1) (0,[]) t1 rfl (⟨rfl,Nat.zero_le _,ZeX,.zero⟩) (fun g B1 hle1 hI=>?_)))))))
 obtain ⟨rfl,hk,hs,hp⟩:=hI
 refine ZO [(0,_),(3,_)] [] t2 rfl (Zl (Za (xM (h:=xM (h:=xV Tryz.underlying65 (h:=Zag (h:=Zd rfl (fun g1=>?_) (fun g1=>?_))))))))
 try simp only [sQ,ne_eq] at g1
 refine Zj (Zf (Zl (Zp (Zl (Z8 (same _ _) mo kr ⟨rfl,rfl⟩ (fun _ _=>?_))))))
 refine aM 0 rfl (h:=aM 1 rfl (h:=?_))
 obtain ⟨m,hm⟩:=Zaj (xs:=gs) (i:=g.1) om
 obtain ⟨bb3,oo3,rfl⟩:=hg.base hm
 obtain ⟨_,⟨rfl,hb4⟩,hc4⟩:=hg.elem hm
 refine aIx 2 rfl Tryz.underlying65 ZbH (h:=aW 3 rfl ZcP (h:=aT 4 rfl (Zan fun D=>Zn rfl rfl lk9 rfl (hc4 _ 0 _ rfl) r4) (h:=aT 5 rfl (Zan fun D=>ZaS rfl rfl Zsh rfl (ZbW _ om2 _) r4) (h:=?_))))
 refine aN 6 rfl (h:=aM 7 rfl (h:=ZaI (d:=17) rfl (fun g2=>?_) (fun g2=>?_)))
 try simp only [sQ,ne_eq] at g2
 refine aZ 8 rfl (h:=aZ 9 rfl (h:=aZ 10 rfl (h:=aZ 11 rfl (h:=aZ 12 rfl (h:=aZ 13 rfl (h:=aZ 14 rfl (h:=aPT 15 rfl (h:=aM 16 rfl (h:=aZ 17 rfl (h:=aZ 18 rfl (h:=aZ 19 rfl (h:=aZ 20 rfl (h:=?_)))))))))))))
 refine aZ 21 rfl (h:=aZ 22 rfl (h:=aZ 23 rfl (h:=aZ 24 rfl (h:=aZ 25 rfl (h:=aZ 26 rfl (h:=aZ 27 rfl (h:=aZ 28 rfl (h:=aZ 29 rfl (h:=aZ 30 rfl (h:=aZ 31 rfl (h:=aZ 32 rfl (h:=aPT 33 rfl (h:=?_)))))))))))))
 refine ZC kr kr ?_
 refine Zf (Zd (t:=true) rfl (fun _=>Za (xA (h:=Zh (ZE (Zs (Z0 (ZE (Zs ?_)))))))) (fun h=>Bool.noConfusion h))
 exact ZY .ret (.inl rfl) [_] t1 ⟨Zk (ZdF hm hs (by simp [ZcE,g1,g2])).symm,rfl,rfl⟩
 try simp only [sQ,ne_eq] at g2
 refine aM 8 rfl (h:=aM 9 rfl (h:=aIx 10 rfl Tryz.underlying65 ZbH (h:=aW 11 rfl ZgP (h:=aT 12 rfl (Zan fun D=>Zn rfl rfl lk3 rfl (hc4 _ 1 _ rfl) r4) (h:=aT 13 rfl (Zan fun D=>ZaS rfl rfl Zeo rfl (Zcl _ _ _ _) r4) (h:=aN 14 rfl (h:=aPF 15 rfl (h:=aM 16 rfl (h:=ZaI (d:=26) rfl (fun g4=>?_) (fun g4=>?_))))))))))
 try simp only [sQ,ne_eq] at g4
 refine aZ 17 rfl (h:=aZ 18 rfl (h:=aZ 19 rfl (h:=aZ 20 rfl (h:=aZ 21 rfl (h:=aZ 22 rfl (h:=aZ 23 rfl (h:=aZ 24 rfl (h:=aZ 25 rfl (h:=aZ 26 rfl (h:=aZ 27 rfl (h:=aZ 28 rfl (h:=aZ 29 rfl (h:=?_)))))))))))))
 refine aZ 30 rfl (h:=aZ 31 rfl (h:=aZ 32 rfl (h:=aPT 33 rfl (h:=ZC kr kr ?_))))
 refine Zf (Zd (t:=true) rfl (fun _=>Za (xA (h:=Zh (ZE (Zs (Z0 (ZE (Zs ?_)))))))) (fun h=>Bool.noConfusion h))
 exact ZY .ret (.inl rfl) [_] t1 ⟨Zk (ZdF hm hs (by simp [ZcE,g1,g2,g4])).symm,rfl,rfl⟩
 try simp only [sQ,ne_eq] at g4
 refine aM 17 rfl (h:=Zm7 18 rfl (h:=aM 19 rfl (h:=ZaI (d:=29) rfl (fun g6=>?_) (fun g6=>?_))))
 try simp only [sQ,ne_eq] at g6
 refine aM 20 rfl (h:=aM 21 rfl (h:=aU 22 rfl (h:=?_)))
 obtain ⟨y,hy⟩:=ZeP (xs:=gs) (i:=(↑g.1 - 1)) om om
 obtain ⟨_,⟨rfl,hb8⟩,hc8⟩:=hg.elem hy
 refine aIx 23 rfl Tryz.underlying65 ZbH (h:=?_)
 have hpe:=hp.at hy oz
 refine aW 24 rfl ZcP (h:=aT 25 rfl (Zan fun D=>Zn rfl rfl lk9 rfl (hc8 _ 0 _ rfl) r4) (h:=aM 26 rfl (h:=aM 27 rfl (h:=aIx 28 rfl Tryz.underlying65 ZbH (h:=aW 29 rfl ZcP (h:=aT 30 rfl (Zan fun D=>Zn rfl rfl lk9 rfl (hc4 _ 0 _ rfl) r4) (h:=aT 31 rfl (Zan fun D=>Zpf rfl rfl rfl rfl r4) (h:=aPT 32 rfl (h:=aPF 33 rfl (h:=ZC kr kr ?_))))))))))
 refine Zf (Zd rfl (fun g7=>?_) (fun g7=>?_))
 try simp only [sQ,ne_eq] at g7
 refine Za (xA (h:=Zh (ZE (Zs (Z0 (ZE (Zs ?_)))))))
 exact ZY .ret (.inl rfl) [_] t1 ⟨Zk (ZdF hm hs (by simp [ZcE,g1,g2,g4,g6,g7,hpe])).symm,rfl,rfl⟩
 try simp only [sQ,ne_eq] at g7
 refine Zj (Zz (Zf (Ze (xM (h:=xD (h:=xA (h:=?_)))))))
 exact ZB (g.1+1,m.user) [] so2 ⟨rfl,oz,Zce hm hs (by rw [hpe];simp [ZcE,g2,g7];simp at g4;omega),.succ hm⟩ t2 rfl
 try simp only [sQ,ne_eq] at g6
 refine aZ 20 rfl (h:=aZ 21 rfl (h:=aZ 22 rfl (h:=aZ 23 rfl (h:=aZ 24 rfl (h:=aZ 25 rfl (h:=aZ 26 rfl (h:=aZ 27 rfl (h:=aZ 28 rfl (h:=aZ 29 rfl (h:=aZ 30 rfl (h:=aZ 31 rfl (h:=aPF 32 rfl (h:=?_)))))))))))))
 refine aPF 33 rfl (h:=ZC kr kr ?_)
 refine Zf (Zd (t:=false) rfl (fun h=>Bool.noConfusion h) (fun _=>Zj (Zz (Zf (Ze (xM (h:=xD (h:=xA (h:=?_)))))))))
 exact ZB (g.1+1,m.user) [] so2 ⟨rfl,oz,Zce hm hs (by rw [hp.at0 oz];simp [ZcE,g2,ZnB (ZjE g2)];simp at g4;omega),.succ hm⟩ t2 rfl
 try simp only [sQ,ne_eq] at g1
 refine ZT (Zah (ZZ (ZH (Zf (Za (xM (h:=xV Tryz.underlying65 (h:=ZcG (h:=xA (h:=Zh ?_))))))))))
 exact ZY .ret (.inl rfl) [_] t1 ⟨Zk (by rw [Zl8 (Zd0 hs oz),Bool.eq_iff_iff];simp;try omega),rfl,rfl⟩

set_option maxHeartbeats 400000 in
theorem ZjJ (q1 q2 q3:Option Addr) (c1 c2 c3:Nat) (x:DHost) (q:Option Addr) (cp:Nat) (ns:List Str) (B:Kn) (hu:SlK B q1 c1 3 Zg x.users) (hn:SlK B q cp 1 Zaz ns):ZaL (pj J) 38 [.agg #[str x.domain,.slice q1 x.users.length c1,.slice q2 x.folders.length c2,.int .i64 x.queue.next,.slice q3 x.queue.items.length c3],.slice q ns.length cp] B (.bool (Zc6 x.users ns)):=by
 refine Zc 20 Tryz.func38 rfl rfl rfl (Nat.le_of_ble_eq_true rfl) ?_
 have hnn:=hn.len
 have hun:=hu.len
 refine Za (xBx [_,_,_,_,_] (h:=fun b1=>xA (h:=Zv [_] rfl (Zl (Za (xA (h:=Zp (ZQ (α:=Nat) [0,1,2] (fun k=>[(5,.int .i64 k)]) [] (fun k=>[]) (fun k Bx=>Bx=B∧k≤ns.length∧∀z,z∈ns.take k→decide (0≤Zdw x.users z)=true) (fun k=>ns.length - k) 0 t1 rfl (⟨rfl,Nat.zero_le _,by simp⟩) (fun k B2 hle2 hI=>?_)))))))))
 obtain ⟨rfl,hk,ha⟩:=hI
 refine ZO [(0,_),(1,_),(2,_),(5,_)] [_] t4 rfl (Zl (Za (xM (h:=xM (h:=xV Tryz.underlying39 (h:=Zag (h:=Zd rfl (fun g1=>?_) (fun g1=>?_))))))))
 try simp only [sQ,ne_eq] at g1
 refine Zj (Zf (Zl (Zp (Zl (Z8 (same _ _) mo kr ⟨rfl,rfl⟩ (fun _ _=>?_))))))
 refine aW 0 rfl ZbD (h:=aT 1 rfl (Zan fun D=>Zn rfl rfl ZhC rfl (atL 0 rfl rfl rfl) r4) (h:=aM 2 rfl (h:=aM 3 rfl (h:=?_))))
 obtain ⟨z,hz⟩:=Zaj (xs:=ns) (i:=k) om
 obtain ⟨bb4,oo4,rfl⟩:=hn.base hz
 obtain ⟨_,⟨rfl,hb5⟩,hc5⟩:=hn.elem hz
 refine aIx 4 rfl Tryz.underlying39 sz9 (h:=aT 5 rfl (Zan fun D=>Zn rfl rfl lk9 rfl (hc5 _ 0 _ rfl) r4) (h:=aT 6 rfl (Zan fun D=>ZaS rfl rfl ZsY rfl (ZcZ _ _ _ _ _ hu) r4) (h:=ZqZ 7 rfl (h:=ZC kr kr ?_))))
 refine Zf (Zd rfl (fun g2=>?_) (fun g2=>?_))
 try simp only [sQ,ne_eq] at g2
 refine Za (xA (h:=Zh (ZE (Zs (Z0 (ZE (Zs ?_)))))))
 exact ZY .ret (.inl rfl) [_] t1 ⟨Zk (ZcT hz (by simp;omega)).symm,rfl,rfl⟩
 try simp only [sQ,ne_eq] at g2
 refine Zj (Zz (Zf (Ze (xM (h:=xD (h:=xA (h:=?_)))))))
 exact ZB (k+1) [0] so2 ⟨rfl,oz,Zbi hz ha (by simp;omega)⟩ t4 rfl
 try simp only [sQ,ne_eq] at g1
 refine ZT (Zah (ZZ (ZH (Zf (Za (xA (h:=Zh ?_)))))))
 exact ZY .ret (.inl rfl) [_] t1 ⟨Zk (ZeH (Zbq oz ha)).symm,rfl,rfl⟩

set_option maxHeartbeats 400000 in
theorem Zls (q1 q2 q3:Option Addr) (c1 c2 c3:Nat) (x:DHost) (u:Str) (B:Kn) (hf:SlK B q2 c2 5 Zb x.folders):ZaL (pj J) 64 [.agg #[str x.domain,.slice q1 x.users.length c1,.slice q2 x.folders.length c2,.int .i64 x.queue.next,.slice q3 x.queue.items.length c3],str u] B (.int .i64 (Zbd x.folders u)):=by
 refine Zc 32 Tryz.func64 rfl rfl rfl (Nat.le_of_ble_eq_true rfl) ?_
 have hfn:=hf.len
 refine Za (xBx [_,_,_,_,_] (h:=fun b1=>xA (h:=Zv [_] rfl (Za (xA (h:=Zl (Za (xA (h:=Zp (ZQ (α:=Nat × Nat) [0,1,2,4] (fun g=>[(5,.int .i64 g.2),(6,.int .i64 g.1)]) [] (fun g=>[]) (fun g Bx=>Bx=B∧g.1≤x.folders.length∧g.2=Zbd (x.folders.take g.1) u∧g.2≤g.1*4000000000000) (fun g=>x.folders.length - g.1) (0,0) t2 rfl (⟨rfl,Nat.zero_le _,by simp [Zbd],oz⟩) (fun g B2 hle2 hI=>?_)))))))))))
 obtain ⟨rfl,hk,hs,hl⟩:=hI
 refine ZO [(0,_),(1,_),(2,_),(4,_),(5,_),(6,_)] [_] t6 rfl (Zl (Za (xM (h:=xW Z9 (h:=x1 ZcN 0 (h:=xV Tryz.underlying24 (h:=Zag (h:=Zd rfl (fun g1=>?_) (fun g1=>?_)))))))))
 try simp only [sQ,ne_eq] at g1
 refine Zj (Zf (Zl (Zp (Za (xW Z9 (h:=x1 ZcN 0 (h:=xM (h:=?_))))))))
 obtain ⟨m,hm⟩:=Zaj (xs:=x.folders) (i:=g.1) om
 obtain ⟨bb4,oo4,rfl⟩:=hf.base hm
 obtain ⟨_,⟨qg5,cg5,qm5,cm5,rfl,hg5,hm5,hb5,hb5b⟩,hc5⟩:=hf.elem hm
 have hg5n:=hg5.len
 have hm5n:=hm5.len
 have hm5s:=Zac hm5
 refine xIx Tryz.underlying24 Zbw (h:=xW Zc7 (h:=y1 lk9 hc5 0 (h:=xM (h:=Zc4 (h:=Zd rfl (fun g2=>?_) (fun g2=>?_))))))
 try simp only [sQ,ne_eq] at g2
 refine Ze (xM (h:=xW Z9 (h:=x1 ZcN 0 (h:=xM (h:=xIx Tryz.underlying24 Zbw (h:=xW Zb2 (h:=yL [_,_] ZbP hc5 3 (h:=xR Zxu rfl (Zp4 _ _ (⟨m.next,m.mail⟩:DBox) _ hm5) (h:=xD (h:=xA (h:=Zz (Zf (Ze ?_)))))))))))))
 refine xM (h:=xD (h:=xA (h:=?_)))
 exact ZB (g.1+1,g.2+Zak m.mail) [0] so2 ⟨rfl,so,by rw [Zjq hm,← hs,if_pos g2],so⟩ t6 rfl
 try simp only [sQ,ne_eq] at g2
 refine Zj (Zz (Zf (Ze (xM (h:=xD (h:=xA (h:=?_)))))))
 exact ZB (g.1+1,g.2) [0] so2 ⟨rfl,so,by rw [Zjq hm,← hs,if_neg g2];simp only [Nat.add_zero],Nat.le_trans hl (Nat.mul_le_mul_right _ (Nat.le_succ _))⟩ t6 rfl
 try simp only [sQ,ne_eq] at g1
 refine ZT (Zah (ZZ (ZH (Zf (Za (xM (h:=xA (h:=Zh ?_))))))))
 exact ZY .ret (.inl rfl) [_] t1 ⟨Za3 (by rw [← Zpo hs oz]),rfl,rfl⟩

set_option maxHeartbeats 400000 in
theorem Zlu (q1 q2 q3:Option Addr) (c1 c2 c3:Nat) (x:DHost) (B:Kn) (hu:SlK B q1 c1 3 Zg x.users) (hf:SlK B q2 c2 5 Zb x.folders):ZaL (pj J) 63 [.agg #[str x.domain,.slice q1 x.users.length c1,.slice q2 x.folders.length c2,.int .i64 x.queue.next,.slice q3 x.queue.items.length c3]] B (.bool (Zcc x.users x.folders)):=by
 refine Zc 60 Tryz.func63 rfl rfl rfl (Nat.le_of_ble_eq_true rfl) ?_
 have hfn:=hf.len
 have hun:=hu.len
 refine Za (xBx [_,_,_,_,_] (h:=fun b1=>xA (h:=Zv [_] rfl (Zl (Za (xA (h:=Zp (ZQ (α:=Nat × Option DFolder) [0,1] (fun g=>[(3,.int .i64 g.1)]) [] (fun g=>[]) (fun g Bx=>Bx=B∧g.1≤x.folders.length∧Zdi x.users (x.folders.take g.1)=(true,g.2)∧Prev some none x.folders g.1 g.2) (fun g=>x.folders.length - g.1) (0,none) t1 rfl (⟨rfl,Nat.zero_le _,ZeX,.zero⟩) (fun g B2 hle2 hI=>?_)))))))))
 obtain ⟨rfl,hk,hs,hp⟩:=hI
 refine ZO [(0,_),(1,_),(3,_)] [_] t3 rfl (Zl (Za (xM (h:=xW Z9 (h:=x1 ZcN 0 (h:=xV Tryz.underlying24 (h:=Zag (h:=Zd rfl (fun g1=>?_) (fun g1=>?_)))))))))
 try simp only [sQ,ne_eq] at g1
 refine Zj (Zf (Zl (Zp (Za (xW Z9 (h:=x1 ZcN 0 (h:=xM (h:=?_))))))))
 obtain ⟨m,hm⟩:=Zaj (xs:=x.folders) (i:=g.1) om
 obtain ⟨bb4,oo4,rfl⟩:=hf.base hm
 obtain ⟨_,⟨qg5,cg5,qm5,cm5,rfl,hg5,hm5,hb5,hb5b⟩,hc5⟩:=hf.elem hm
 have hg5n:=hg5.len
 have hm5n:=hm5.len
 have hm5s:=Zac hm5
 refine xIx Tryz.underlying24 Zbw (h:=yL [_,_,_,_,_] Zja hc5 0 (h:=xAl [_,_,_,_,_] Zd6 (h:=fun b6=>xS [_,_,_,_,_] 1 [_,_,_,_,_] Zbw (h:=Zv [_,_] rfl (Zl (Z8 (same _ _) mo kr ⟨rfl,rfl⟩ (fun _ _=>?_)))))))
 refine aW 0 rfl ZbD (h:=aT 1 rfl (Zan fun D=>Zn rfl rfl ZhC rfl (atL 0 rfl rfl rfl) r4) (h:=aW 2 rfl Zc7 (h:=aT 3 rfl (Zan fun D=>Zn rfl rfl lk9 rfl (atL 1 rfl rfl rfl) r4) (h:=aT 4 rfl (Zan fun D=>ZaS rfl rfl ZsY rfl (ZcZ _ _ _ _ _ hu) r4) (h:=ZqZ 5 rfl (h:=aM 6 rfl (h:=ZaI (d:=23) rfl (fun g2=>?_) (fun g2=>?_))))))))
 try simp only [sQ,ne_eq] at g2
 refine aZ 7 rfl (h:=aZ 8 rfl (h:=aZ 9 rfl (h:=aZ 10 rfl (h:=aPT 11 rfl (h:=aM 12 rfl (h:=aZ 13 rfl (h:=aZ 14 rfl (h:=aZ 15 rfl (h:=aZ 16 rfl (h:=aPT 17 rfl (h:=aM 18 rfl (h:=aZ 19 rfl (h:=?_)))))))))))))
 refine aZ 20 rfl (h:=aZ 21 rfl (h:=aZ 22 rfl (h:=aPT 23 rfl (h:=aM 24 rfl (h:=aZ 25 rfl (h:=aZ 26 rfl (h:=aZ 27 rfl (h:=aZ 28 rfl (h:=aZ 29 rfl (h:=aZ 30 rfl (h:=aZ 31 rfl (h:=aZ 32 rfl (h:=?_)))))))))))))
 refine aZ 33 rfl (h:=aZ 34 rfl (h:=aZ 35 rfl (h:=aZ 36 rfl (h:=aZ 37 rfl (h:=aPT 38 rfl (h:=ZC kr kr ?_))))))
 refine Zf (Zd (t:=true) rfl (fun _=>Za (xA (h:=Zh (ZE (Zs (Z0 (ZE (Zs ?_)))))))) (fun h=>Bool.noConfusion h))
 exact ZY .ret (.inl rfl) [_] t1 ⟨Zk (Zcz hm hs (by simp [ZbU,Zab,DFolder.box,g1,g2];try omega)).symm,rfl,rfl⟩
 try simp only [sQ,ne_eq] at g2
 refine aW 7 rfl Zfw (h:=aT 8 rfl (Zan fun D=>Zn rfl rfl lk9 rfl (atL 1 rfl rfl rfl) r4) (h:=aT 9 rfl (Zan fun D=>ZaS rfl rfl Zsh rfl (ZbW _ om2 _) r4) (h:=?_)))
 refine aN 10 rfl (h:=aPF 11 rfl (h:=aM 12 rfl (h:=ZaI (d:=29) rfl (fun g3=>?_) (fun g3=>?_))))
 try simp only [sQ,ne_eq] at g3
 refine aZ 13 rfl (h:=aZ 14 rfl (h:=aZ 15 rfl (h:=aZ 16 rfl (h:=aPT 17 rfl (h:=aM 18 rfl (h:=aZ 19 rfl (h:=aZ 20 rfl (h:=aZ 21 rfl (h:=aZ 22 rfl (h:=aPT 23 rfl (h:=aM 24 rfl (h:=aZ 25 rfl (h:=?_)))))))))))))
 refine aZ 26 rfl (h:=aZ 27 rfl (h:=aZ 28 rfl (h:=aZ 29 rfl (h:=aZ 30 rfl (h:=aZ 31 rfl (h:=aZ 32 rfl (h:=aZ 33 rfl (h:=aZ 34 rfl (h:=aZ 35 rfl (h:=aZ 36 rfl (h:=aZ 37 rfl (h:=aPT 38 rfl (h:=?_)))))))))))))
 refine ZC kr kr ?_
 refine Zf (Zd (t:=true) rfl (fun _=>Za (xA (h:=Zh (ZE (Zs (Z0 (ZE (Zs ?_)))))))) (fun h=>Bool.noConfusion h))
 exact ZY .ret (.inl rfl) [_] t1 ⟨Zk (Zcz hm hs (by simp [ZbU,Zab,DFolder.box,g1,g2,g3];try omega)).symm,rfl,rfl⟩
 try simp only [sQ,ne_eq] at g3
 refine aW 13 rfl ZdV (h:=aT 14 rfl (Zan fun D=>Zn rfl rfl ZrM rfl (atL 1 rfl rfl rfl) r4) (h:=aT 15 rfl (Zan fun D=>ZaS rfl rfl Zsl rfl (Zgf _ _ _ _ hg5) r4) (h:=aN 16 rfl (h:=aPF 17 rfl (h:=aM 18 rfl (h:=ZaI (d:=35) rfl (fun g4=>?_) (fun g4=>?_)))))))
 try simp only [sQ,ne_eq] at g4
 refine aZ 19 rfl (h:=aZ 20 rfl (h:=aZ 21 rfl (h:=aZ 22 rfl (h:=aPT 23 rfl (h:=aM 24 rfl (h:=aZ 25 rfl (h:=aZ 26 rfl (h:=aZ 27 rfl (h:=aZ 28 rfl (h:=aZ 29 rfl (h:=aZ 30 rfl (h:=aZ 31 rfl (h:=?_)))))))))))))
 refine aZ 32 rfl (h:=aZ 33 rfl (h:=aZ 34 rfl (h:=aZ 35 rfl (h:=aZ 36 rfl (h:=aZ 37 rfl (h:=aPT 38 rfl (h:=ZC kr kr ?_)))))))
 refine Zf (Zd (t:=true) rfl (fun _=>Za (xA (h:=Zh (ZE (Zs (Z0 (ZE (Zs ?_)))))))) (fun h=>Bool.noConfusion h))
 exact ZY .ret (.inl rfl) [_] t1 ⟨Zk (Zcz hm hs (by simp [ZbU,Zab,DFolder.box,g1,g2,g3,g4];try omega)).symm,rfl,rfl⟩
 try simp only [sQ,ne_eq] at g4
 refine aW 19 rfl Zb2 (h:=aT 20 rfl (Zan fun D=>Z6 [_,_] rfl rfl ZbP rfl (Zaf 1 rfl rfl rfl) r4) (h:=aT 21 rfl (Zan fun D=>ZaS rfl rfl Zsk rfl (Zgd _ _ (⟨m.next,m.mail⟩:DBox) _ hm5) r4) (h:=aN 22 rfl (h:=aPF 23 rfl (h:=aM 24 rfl (h:=ZaI (d:=41) rfl (fun g5=>?_) (fun g5=>?_)))))))
 try simp only [sQ,ne_eq] at g5
 refine aZ 25 rfl (h:=aZ 26 rfl (h:=aZ 27 rfl (h:=aZ 28 rfl (h:=aZ 29 rfl (h:=aZ 30 rfl (h:=aZ 31 rfl (h:=aZ 32 rfl (h:=aZ 33 rfl (h:=aZ 34 rfl (h:=aZ 35 rfl (h:=aZ 36 rfl (h:=aZ 37 rfl (h:=?_)))))))))))))
 refine aPT 38 rfl (h:=ZC kr kr ?_)
 refine Zf (Zd (t:=true) rfl (fun _=>Za (xA (h:=Zh (ZE (Zs (Z0 (ZE (Zs ?_)))))))) (fun h=>Bool.noConfusion h))
 exact ZY .ret (.inl rfl) [_] t1 ⟨Zk (Zcz hm hs (by simp [ZbU,Zab,DFolder.box,g1,g2,g3,g4,g5];try omega)).symm,rfl,rfl⟩
 try simp only [sQ,ne_eq] at g5
 refine aM 25 rfl (h:=Zm7 26 rfl (h:=aM 27 rfl (h:=ZaI (d:=44) rfl (fun g6=>?_) (fun g6=>?_))))
 try simp only [sQ,ne_eq] at g6
 refine aW 28 rfl Z9 (h:=aT 29 rfl (Zan fun D=>Zn rfl rfl ZcN rfl (atL 0 rfl rfl rfl) r4) (h:=aM 30 rfl (h:=aU 31 rfl (h:=?_))))
 obtain ⟨y,hy⟩:=ZeP (xs:=x.folders) (i:=(↑g.1 - 1)) om om
 obtain ⟨_,⟨qg12,cg12,qm12,cm12,rfl,hg12,hm12,hb12,hb12b⟩,hc12⟩:=hf.elem hy
 have hg12n:=hg12.len
 have hm12n:=hm12.len
 have hm12s:=Zac hm12
 refine aIx 32 rfl Tryz.underlying24 Zbw (h:=?_)
 have hpe:=hp.at hy oz
 refine aT 33 rfl (Zan fun D=>Z6 [_,_,_,_,_] rfl rfl Zja rfl (Zid hc12 0 rfl rfl) r4) (h:=aT 34 rfl (Zan fun D=>Z6 [_,_,_,_,_] rfl rfl Zja rfl (Zaf 1 rfl rfl rfl) r4) (h:=aT 35 rfl (Zan fun D=>ZaS rfl rfl ZvC rfl (Zlt y m _ _ _ _ _ _ _ _ _) r4) (h:=aN 36 rfl (h:=aPT 37 rfl (h:=aPF 38 rfl (h:=ZC kr kr ?_))))))
 refine Zf (Zd rfl (fun g7=>?_) (fun g7=>?_))
 try simp only [sQ,ne_eq] at g7
 refine Za (xA (h:=Zh (ZE (Zs (Z0 (ZE (Zs ?_)))))))
 exact ZY .ret (.inl rfl) [_] t1 ⟨Zk (Zcz hm hs (by simp [ZbU,Zab,DFolder.box,g1,g2,g3,g4,g5,g6,g7,hpe];try omega)).symm,rfl,rfl⟩
 try simp only [sQ,ne_eq] at g7
 refine Zj (Zz (Zf (Ze (xM (h:=xD (h:=xA (h:=?_)))))))
 exact ZB (g.1+1,some m) [0] so2 ⟨rfl,oz,Zce hm hs (by rw [hpe];simp [ZbU,Zab,DFolder.box,g3,g4,g5,g7];omega),.succ hm⟩ t3 rfl
 try simp only [sQ,ne_eq] at g6
 refine aZ 28 rfl (h:=aZ 29 rfl (h:=aZ 30 rfl (h:=aZ 31 rfl (h:=aZ 32 rfl (h:=aZ 33 rfl (h:=aZ 34 rfl (h:=aZ 35 rfl (h:=aZ 36 rfl (h:=aPF 37 rfl (h:=aPF 38 rfl (h:=ZC kr kr ?_)))))))))))
 refine Zf (Zd (t:=false) rfl (fun h=>Bool.noConfusion h) (fun _=>Zj (Zz (Zf (Ze (xM (h:=xD (h:=xA (h:=?_)))))))))
 exact ZB (g.1+1,some m) [0] so2 ⟨rfl,oz,Zce hm hs (by rw [hp.at0 oz];simp [ZbU,Zab,DFolder.box,g3,g4,g5];omega),.succ hm⟩ t3 rfl
 try simp only [sQ,ne_eq] at g1
 refine ZT (Zah (ZZ (ZH (Zf (Za (xW Z9 (h:=x1 ZcN 0 (h:=xV Tryz.underlying24 (h:=ZcG (h:=xA (h:=Zh ?_)))))))))))
 exact ZY .ret (.inl rfl) [_] t1 ⟨Zk (by rw [Zkx (Zd0 hs oz),Bool.eq_iff_iff];simp;try omega),rfl,rfl⟩

set_option maxHeartbeats 400000 in
theorem ZbF (q1 q2 q3:Option Addr) (c1 c2 c3:Nat) (x:DHost) (hd:x.domain.length≤2000000) (B:Kn) (hu:SlK B q1 c1 3 Zg x.users) (hf:SlK B q2 c2 5 Zb x.folders) (hi:SlK B q3 c3 4 Zi x.queue.items):ZaL (pj J) 25 [.agg #[str x.domain,.slice q1 x.users.length c1,.slice q2 x.folders.length c2,.int .i64 x.queue.next,.slice q3 x.queue.items.length c3]] B (.bool (ZJ x)):=by
 refine Zc 87 Tryz.func25 rfl rfl rfl (Nat.le_of_ble_eq_true rfl) ?_
 have hfn:=hf.len
 have hun:=hu.len
 have hin:=hi.len
 refine Za (xBx [_,_,_,_,_] (h:=fun b1=>xA (h:=Zv [_] rfl (Zl (Za (xW ZiK (h:=x1 lk9 0 (h:=xR Zyx rfl (Zk7 _ om2 _) (h:=?_)))))))))
 refine xN (h:=xM (h:=Zt (d:=10) rfl (fun g1=>?_) (fun g1=>?_)))
 try simp only [sQ,ne_eq] at g1
 refine xP (h:=xP (h:=xP (h:=xP (h:=xT (h:=xM (h:=xP (h:=xP (h:=xP (h:=xP (h:=xT (h:=xM (h:=xP (h:=?_)))))))))))))
 refine xP (h:=xP (h:=xT (h:=Zd (t:=true) rfl (fun _=>Za (xA (h:=Zh (Zs ?_)))) (fun h=>Bool.noConfusion h))))
 exact ZY .ret (.inl rfl) [_] t1 ⟨Zk (by simp [ZJ,g1]),rfl,rfl⟩
 try simp only [sQ,ne_eq] at g1
 refine xW ZbD (h:=x1 ZhC 0 (h:=xR Zyw rfl (Zmn _ _ _ _ hu) (h:=xN (h:=xF (h:=xM (h:=Zt (d:=16) rfl (fun g2=>?_) (fun g2=>?_)))))))
 try simp only [sQ,ne_eq] at g2
 refine xP (h:=xP (h:=xP (h:=xP (h:=xT (h:=xM (h:=xP (h:=xP (h:=xP (h:=xT (h:=Zd (t:=true) rfl (fun _=>Za (xA (h:=?_))) (fun h=>Bool.noConfusion h)))))))))))
 refine Zh (Zs ?_)
 exact ZY .ret (.inl rfl) [_] t1 ⟨Zk (by simp [ZJ,g1,g2]),rfl,rfl⟩
 try simp only [sQ,ne_eq] at g2
 refine xW Zbg (h:=xL [_,_] Zb9 0 (h:=xR ZwJ rfl (ZfJ _ _ x.queue _ hi) (h:=xN (h:=xF (h:=xM (h:=Zt (d:=22) rfl (fun g3=>?_) (fun g3=>?_)))))))
 try simp only [sQ,ne_eq] at g3
 refine xP (h:=xP (h:=xP (h:=xT (h:=Zd (t:=true) rfl (fun _=>Za (xA (h:=Zh (Zs ?_)))) (fun h=>Bool.noConfusion h)))))
 exact ZY .ret (.inl rfl) [_] t1 ⟨Zk (by simp [ZJ,g1,g2,g3]),rfl,rfl⟩
 try simp only [sQ,ne_eq] at g3
 refine xL [_,_,_,_,_] Z1 0 (h:=xR Zyv rfl (Zlu _ _ _ _ _ _ x _ hu hf) (h:=xN (h:=xF (h:=Zd rfl (fun g4=>?_) (fun g4=>?_)))))
 try simp only [sQ,ne_eq] at g4
 refine Za (xA (h:=Zh (Zs ?_)))
 exact ZY .ret (.inl rfl) [_] t1 ⟨Zk (by simp [ZJ,g1,g2,g3,g4]),rfl,rfl⟩
 try simp only [sQ,ne_eq] at g4
 refine Zj (Zf (Zl (Za (xA (h:=Zp (ZQ (α:=Nat) [0,1,26] (fun k=>[(3,.int .i64 k)]) [] (fun k=>[]) (fun k Bx=>Bx=B∧k≤x.users.length∧∀z,z∈x.users.take k→ZaT x.folders z=true) (fun k=>x.users.length - k) 0 t1 rfl (⟨rfl,Nat.zero_le _,by simp⟩) (fun k B6 hle6 hI=>?_)))))))
 obtain ⟨rfl,hk,ha⟩:=hI
 refine ZO [(0,_),(1,_),(3,_),(26,_)] [_] t4 rfl (Zl (Za (xM (h:=xW ZbD (h:=x1 ZhC 0 (h:=xV Tryz.underlying23 (h:=Zag (h:=Zd rfl (fun g5=>?_) (fun g5=>?_)))))))))
 try simp only [sQ,ne_eq] at g5
 refine Zj (Zf (Zl (Zp (Zl (Z8 (same _ _) mo kr ⟨rfl,rfl⟩ (fun _ _=>?_))))))
 refine aT 0 rfl (Zan fun D=>Z6 [_,_,_,_,_] rfl rfl Z1 rfl (Zaf 0 rfl rfl rfl) r4) (h:=aW 1 rfl ZbD (h:=aT 2 rfl (Zan fun D=>Zn rfl rfl ZhC rfl (atL 0 rfl rfl rfl) r4) (h:=aM 3 rfl (h:=?_))))
 obtain ⟨w,hw⟩:=Zaj (xs:=x.users) (i:=k) om
 obtain ⟨bb8,oo8,rfl⟩:=hu.base hw
 obtain ⟨_,⟨rfl,hb9,hb9b⟩,hc9⟩:=hu.elem hw
 refine aIx 4 rfl Tryz.underlying23 ZeK (h:=aW 5 rfl Zc0 (h:=aT 6 rfl (Zan fun D=>Zn rfl rfl lk9 rfl (hc9 _ 0 _ rfl) r4) (h:=aT 7 rfl (Zan fun D=>ZaS rfl rfl Zua rfl (Zdv _ _ _ _ _ _ x w.name [105,110,98,111,120] om2 om2 _ hf) r4) (h:=?_))))
 refine ZqZ 8 rfl (h:=aM 9 rfl (h:=ZaI (d:=43) rfl (fun g6=>?_) (fun g6=>?_)))
 try simp only [sQ,ne_eq] at g6
 refine aZ 10 rfl (h:=aZ 11 rfl (h:=aZ 12 rfl (h:=aZ 13 rfl (h:=aZ 14 rfl (h:=aZ 15 rfl (h:=aZ 16 rfl (h:=aZ 17 rfl (h:=aZ 18 rfl (h:=aZ 19 rfl (h:=aZ 20 rfl (h:=aZ 21 rfl (h:=aZ 22 rfl (h:=?_)))))))))))))
 refine aZ 23 rfl (h:=aZ 24 rfl (h:=aPT 25 rfl (h:=ZC kr kr ?_)))
 refine Zf (Zd (t:=true) rfl (fun _=>Za (xA (h:=Zh (ZE (Zs (Z0 (ZE (Zs ?_)))))))) (fun h=>Bool.noConfusion h))
 exact ZY .ret (.inl rfl) [_] t1 ⟨Zk (Ziz hw (ZkX g6)).symm,rfl,rfl⟩
 try simp only [sQ,ne_eq] at g6
 refine aT 10 rfl (Zan fun D=>Z6 [_,_,_,_,_] rfl rfl Z1 rfl (Zaf 0 rfl rfl rfl) r4) (h:=aW 11 rfl ZbD (h:=aT 12 rfl (Zan fun D=>Zn rfl rfl ZhC rfl (atL 0 rfl rfl rfl) r4) (h:=aM 13 rfl (h:=aIx 14 rfl Tryz.underlying23 ZeK (h:=aW 15 rfl Zc0 (h:=aT 16 rfl (Zan fun D=>Zn rfl rfl lk9 rfl (hc9 _ 0 _ rfl) r4) (h:=aT 17 rfl (Zan fun D=>ZaS rfl rfl ZxN rfl (Zls _ _ _ _ _ _ x _ _ hf) r4) (h:=aW 18 rfl ZbD (h:=aT 19 rfl (Zan fun D=>Zn rfl rfl ZhC rfl (atL 0 rfl rfl rfl) r4) (h:=aM 20 rfl (h:=aIx 21 rfl Tryz.underlying23 ZeK (h:=aW 22 rfl ZiJ (h:=?_)))))))))))))
 refine aT 23 rfl (Zan fun D=>Zn rfl rfl lk3 rfl (hc9 _ 2 _ rfl) r4) (h:=Zm7 24 rfl (h:=aPF 25 rfl (h:=ZC kr kr ?_)))
 refine Zf (Zd rfl (fun g7=>?_) (fun g7=>?_))
 try simp only [sQ,ne_eq] at g7
 refine Za (xA (h:=Zh (ZE (Zs (Z0 (ZE (Zs ?_)))))))
 exact ZY .ret (.inl rfl) [_] t1 ⟨Zk (Ziz hw (ZkW g7)).symm,rfl,rfl⟩
 try simp only [sQ,ne_eq] at g7
 refine Zj (Zz (Zf (Ze (xM (h:=xD (h:=xA (h:=?_)))))))
 exact ZB (k+1) [0] so2 ⟨rfl,oz,Zbi hw ha (ZkV g6 g7)⟩ t4 rfl
 try simp only [sQ,ne_eq] at g5
 refine ZT (Zah (ZZ (ZH (Zf (Zl (Za (xA (h:=Zp (ZQ (α:=Nat) [0,1,3,26,31] (fun j=>[(4,.int .i64 j)]) [] (fun j=>[]) (fun j Bx=>Bx=B6∧j≤x.queue.items.length∧∀z,z∈x.queue.items.take j→ZaK x.users z=true) (fun j=>x.queue.items.length - j) 0 t1 rfl (⟨rfl,Nat.zero_le _,by simp⟩) (fun j B12 hle12 hI=>?_))))))))))
 obtain ⟨rfl,hj,hb⟩:=hI
 refine ZO [(0,_),(1,_),(3,_),(4,_),(26,_),(31,_)] [_] t6 rfl (Zl (Za (xM (h:=xW Zbg (h:=xW Zap (h:=x1 Zd7 0 (h:=xV Tryz.underlying25 (h:=Zag (h:=Zd rfl (fun g8=>?_) (fun g8=>?_))))))))))
 try simp only [sQ,ne_eq] at g8
 refine Zj (Zf (Zl (Zp (Za (xW Zbg (h:=xW Zap (h:=x1 Zd7 0 (h:=xM (h:=?_)))))))))
 obtain ⟨y,hy⟩:=Zaj (xs:=x.queue.items) (i:=j) om
 obtain ⟨bb14,oo14,rfl⟩:=hi.base hy
 obtain ⟨_,⟨qi15,ci15,rfl,hi15,hb15,hb15b⟩,hc15⟩:=hi.elem hy
 have hi15n:=hi15.len
 refine xIx Tryz.underlying25 Zde (h:=yL [_,_,_,_] ZhB hc15 0 (h:=xAl [_,_,_,_] ZfD (h:=fun b16=>xS [_,_,_,_] 1 [_,_,_,_] Zde (h:=Zv [_,_] rfl (Za (xW ZbD (h:=x1 ZhC 0 (h:=xW ZjQ (h:=x1 lk9 1 (h:=xR ZsY rfl (ZcZ _ _ _ _ _ hu) (h:=Zag (h:=xM (h:=?_)))))))))))))
 refine Zt (d:=80) rfl (fun g9=>?_) (fun g9=>?_)
 try simp only [sQ,ne_eq] at g9
 refine xP (h:=xP (h:=xP (h:=xP (h:=xP (h:=xT (h:=Zd (t:=true) rfl (fun _=>Za (xA (h:=Zh (ZE (Zs (Z0 (ZE (Zs ?_)))))))) (fun h=>Bool.noConfusion h)))))))
 exact ZY .ret (.inl rfl) [_] t1 ⟨Zk (ZiB hy (Zkp g9)).symm,rfl,rfl⟩
 try simp only [sQ,ne_eq] at g9
 refine xL [_,_,_,_,_] Z1 0 (h:=xW Zbo (h:=x1 ZfP 1 (h:=xR ZxT rfl (ZjJ _ _ _ _ _ _ x _ _ y.left _ hu hi15) (h:=xN (h:=xF (h:=Zd rfl (fun ga=>?_) (fun ga=>?_)))))))
 try simp only [sQ,ne_eq] at ga
 refine Za (xA (h:=Zh (ZE (Zs (Z0 (ZE (Zs ?_)))))))
 exact ZY .ret (.inl rfl) [_] t1 ⟨Zk (ZiB hy (Zko ga)).symm,rfl,rfl⟩
 try simp only [sQ,ne_eq] at ga
 refine Zj (Zz (Zf (Ze (xM (h:=xD (h:=xA (h:=?_)))))))
 exact ZB (j+1) [0] so2 ⟨rfl,oz,Zbi hy hb (Zkn g9 ga)⟩ t6 rfl
 try simp only [sQ,ne_eq] at g8
 refine ZT (Zah (ZZ (ZH (Zf (Za (xA (h:=Zh ?_)))))))
 exact ZY .ret (.inl rfl) [_] t1 ⟨Zk (ZoA g1 g2 g3 g4 (ZeH (Zbq oz ha)) (ZeH (Zbq oz hb))).symm,rfl,rfl⟩

set_option maxHeartbeats 400000 in
theorem Zsz (q:Option Addr) (cp:Nat) (gs:List DGrant) (B:Kn) (hg:SlK B q cp 2 ZL gs):ZA (pj J) 67 [.slice q gs.length cp] B [] (Zm8 gs B):=by
 refine Zc 46 Tryz.func67 rfl rfl rfl (Nat.le_of_ble_eq_true rfl) ?_
 have hgn:=hg.len
 refine Za (xA (h:=xA (h:=Zl (Za (xM (h:=xV Tryz.underlying65 (h:=ZbM (h:=Zd rfl (fun g0=>?_) (fun g0=>?_)))))))))
 try simp only [sQ,ne_eq] at g0
 refine Za (xA (h:=xA (h:=Zh (Zs ?_))))
 exact ZiS .ret (.inl rfl) [_,_] t2 (by simp [ZcB];omega)
 try simp only [sQ,ne_eq] at g0
 refine Zj (Zf (Za (Zo (Zpd rfl rfl (fun b1 l1 hl1=>xA (h:=Zv [_] rfl (Za (xA (h:=Zl (Za (xM (h:=xV Tryz.underlying65 (h:=xM (h:=?_))))))))))))))
 refine Zp (ZQ (α:=Nat × Str × Cells) [0,4,10,12,13] (fun g=>[(5,str g.2.1),(14,.int .i64 g.1)]) [0] (fun g=>[g.2.2]) (fun g Bx=>Bx=B∧g.1≤gs.length∧Zdy (gs.take g.1)=(true,g.2.1)∧g.2.1.length≤2000000∧ZuA g.2.2 b1 (ZsW (gs.take g.1))) (fun g=>gs.length - g.1) (0,[],_) t2 rfl (⟨rfl,Nat.zero_le _,ZeX,by simp,hl1⟩) (fun g B2 hle2 hI=>?_))
 obtain ⟨rfl,hk,hs,hnm,hml⟩:=hI
 refine ZO [(0,_),(4,_),(5,_),(10,_),(12,_),(13,_),(14,_)] [_] t7 rfl (Za (Zag (h:=Zl (Zd rfl (fun g1=>?_) (fun g1=>?_)))))
 try simp only [sQ,ne_eq] at g1
 refine Zj (Zf (Zl (Zp (Za ?_))))
 obtain ⟨m,hm⟩:=Zaj (xs:=gs) (i:=g.1) om
 obtain ⟨bb4,oo4,rfl⟩:=hg.base hm
 obtain ⟨_,⟨rfl,hb5⟩,hc5⟩:=hg.elem hm
 refine xIx Tryz.underlying65 ZbH (h:=yL [_,_] Zop hc5 0 (h:=xAl [_,_] ZdI (h:=fun b6=>xS [_,_] 1 [_,_] ZbH (h:=Zv [_,_] rfl (Zl (Za (xW ZcP (h:=x1 lk9 1 (h:=xR Zuy rfl (Zdh _ om2 _) (h:=?_))))))))))
 refine xN (h:=xM (h:=Zt (d:=22) rfl (fun g2=>?_) (fun g2=>?_)))
 try simp only [sQ,ne_eq] at g2
 refine xP (h:=xP (h:=xP (h:=xP (h:=xT (h:=Zd (t:=true) rfl (fun _=>Za (xA (h:=xA (h:=Zh (Zs (ZE (Zs (Z0 (ZE (Zs ?_)))))))))) (fun h=>Bool.noConfusion h))))))
 exact ZiS .ret (.inl rfl) [_,_] t2 (ZdF hm hs (by rw [ZcE,Zbs g.2.1 m.user];simp [g2];try omega))
 try simp only [sQ,ne_eq] at g2
 refine xW ZcP (h:=x1 lk9 1 (h:=xM (h:=Zo (ZsN rfl rfl rfl rfl (xF (h:=Zd rfl (fun g3=>?_) (fun g3=>?_)))))))
 try simp only [sQ,ne_eq] at g3
 refine Za (xA (h:=xA (h:=Zh (Zs (ZE (Zs (Z0 (ZE (Zs ?_)))))))))
 exact ZiS .ret (.inl rfl) [_,_] t2 (ZdF hm hs (by rw [ZcE,Zbs g.2.1 m.user];simp [g3];try omega))
 try simp only [sQ,ne_eq] at g3
 refine Zj (Zf (Zl (Za (xW ZgP (h:=x1 lk3 1 (h:=Zag (h:=xM (h:=Zt (d:=31) rfl (fun g4=>?_) (fun g4=>?_)))))))))
 try simp only [sQ,ne_eq] at g4
 refine xP (h:=xP (h:=xP (h:=xP (h:=xT (h:=Zd (t:=true) rfl (fun _=>Za (xA (h:=xA (h:=Zh (Zs (ZE (Zs (Z0 (ZE (Zs ?_)))))))))) (fun h=>Bool.noConfusion h))))))
 exact ZiS .ret (.inl rfl) [_,_] t2 (ZdF hm hs (by rw [ZcE,Zbs g.2.1 m.user];simp [g4];try omega))
 try simp only [sQ,ne_eq] at g4
 refine xW ZgP (h:=x1 lk3 1 (h:=xR Zxr rfl (Zru _ _) (h:=xN (h:=xF (h:=Zd rfl (fun g5=>?_) (fun g5=>?_))))))
 try simp only [sQ,ne_eq] at g5
 refine Za (xA (h:=xA (h:=Zh (Zs (ZE (Zs (Z0 (ZE (Zs ?_)))))))))
 exact ZiS .ret (.inl rfl) [_,_] t2 (ZdF hm hs (Bool.eq_false_iff.2 fun hc=>by simp only [ZcE,Bool.and_eq_true,decide_eq_true_eq] at hc;simp only [Bool.and_eq_false_iff,decide_eq_false_iff_not] at g5;omega))
 try simp only [sQ,ne_eq] at g5
 refine Zj (Zf (Za (xM (h:=xW ZcP (h:=x1 lk9 1 (h:=xW ZgP (h:=x1 lk3 1 (h:=Zo (Zmd (k:=m.user) (v:=m.rights) 0 rfl hml rfl rfl Tryz.underlying106 Tryz.underlying9 rfl rfl rfl (fun l9 hl9=>Zv [_,_] rfl (Ze (xW ZcP (h:=x1 lk9 1 (h:=?_))))))))))))))
 refine xA (h:=Zz (Zf (Ze (xD (h:=xM (h:=?_))))))
 exact ZB (g.1+1,m.user,l9) [0] so2 ⟨rfl,so,Zce hm hs (by rw [ZcE,Zbs g.2.1 m.user,g2,g3];simp at g5 ⊢;omega),oy,by rw [← ZtJ hm hs (by rw [Zbs g.2.1 m.user,g3];rfl)];exact hl9⟩ t7 rfl
 try simp only [sQ,ne_eq] at g1
 refine ZT (Zah (ZZ (ZH (Zf (Za (xM (h:=xA (h:=xA (h:=Zh ?_)))))))))
 exact Zt9 .ret (.inl rfl) [_,_] rfl t2 (by rw [Zl8 (Zd0 hs oz)];simp;omega) (by have e:=hml;rw [List.take_of_length_le oz] at e;exact e)

set_option maxHeartbeats 400000 in
theorem Zp9 (q:Option Addr) (cp:Nat) (gs:List DGrant) (B:Kn) (hg:SlK B q cp 2 ZL gs):ZaL (pj J) 90 [.slice q gs.length cp] B (.bool (ZcB gs)):=by
 refine Zc 11 Tryz.func90 rfl rfl rfl (Nat.le_of_ble_eq_true rfl) ?_
 refine Za (xA (h:=Za (xM (h:=Zo (Zaa rfl rfl Zyt rfl (Zsz _ _ _ _ hg) ?_)))))
 rintro _ B1 _ hle1 ⟨m1,l1,rfl,rfl,rfl,hl1⟩
 refine xM (h:=xE (h:=xE (h:=xA (h:=xA (h:=Zv [_] rfl (Za (xM (h:=xA (h:=Zh ?_)))))))))
 exact ZY .ret (.inl rfl) [_] t1 ⟨rfl,rfl,rfl⟩

set_option maxHeartbeats 400000 in
theorem ZvF (a b:Str) (B:Kn):ZaL (pj J) 130 [str a,str b] B (.int .i64 (Lib.compareBytes a b)):=by
 refine Zc 8 Tryz.func130 rfl rfl rfl (Nat.le_of_ble_eq_true rfl) ?_
 refine Za (xA (h:=Za (xM (h:=xM (h:=Zo (Zwj (fn:=Tryz.f166) rfl rfl Tryz.func166 rfl rfl Zvl Zvm rfl rfl (xA (h:=Zh ?_))))))))
 exact ZY .ret (.inl rfl) [_] t1 ⟨rfl,rfl,rfl⟩

set_option maxHeartbeats 400000 in
theorem ZsZ (a b:Str) (B:Kn):ZaL (pj J) 86 [str a,str b] B (.int .i64 (Lib.compareBytes a b)):=by
 refine Zc 8 Tryz.func86 rfl rfl rfl (Nat.le_of_ble_eq_true rfl) ?_
 refine Za (xA (h:=Za (xM (h:=xM (h:=xR Zxe rfl (ZvF a b _) (h:=xA (h:=Zh ?_)))))))
 exact ZY .ret (.inl rfl) [_] t1 ⟨rfl,rfl,rfl⟩

set_option maxHeartbeats 400000 in
theorem ZmS (f:DFolder) (qa qb:Option Addr) (ca cb:Nat) (ow nm:Str) (B:Kn):ZaL (pj J) 48 [.agg #[str f.owner,str f.name,.slice qa f.grants.length ca,.int .i64 f.next,.slice qb f.mail.length cb],str ow,str nm] B (.int .i64 (ZvE f ow nm)):=by
 refine Zc 19 Tryz.func48 rfl rfl rfl (Nat.le_of_ble_eq_true rfl) ?_
 refine Za (xBx [_,_,_,_,_] (h:=fun b1=>xA (h:=Zv [_] rfl (Zl (Za (xW Zc7 (h:=x1 lk9 0 (h:=xM (h:=xR ZxK rfl (ZsZ f.owner ow _) (h:=xA (h:=Za (xM (h:=?_)))))))))))))
 refine ZbR (h:=Zd rfl (fun g1=>?_) (fun g1=>?_))
 try simp only [sQ,ne_eq] at g1
 refine Za (xM (h:=xA (h:=Zh (Zs ?_))))
 exact ZY .ret (.inl rfl) [_] t1 ⟨Za3 (by rw [ZvE,if_pos g1]),rfl,rfl⟩
 try simp only [sQ,ne_eq] at g1
 refine Zj (Zf (Za (xW Zfw (h:=x1 lk9 0 (h:=xM (h:=xR ZxK rfl (ZsZ f.name nm _) (h:=xA (h:=Zh ?_))))))))
 exact ZY .ret (.inl rfl) [_] t1 ⟨Za3 (by rw [ZvE,if_neg (fun h=>h g1)]),rfl,rfl⟩

set_option maxHeartbeats 400000 in
theorem ZuV (b o:Nat) (q1 q2 q3:Option Addr) (c1 c2 c3:Nat) (x:DHost) (u:Str) (B:Kn) (hh:Za7 B b o [str x.domain,.slice q1 x.users.length c1,.slice q2 x.folders.length c2,.int .i64 x.queue.next,.slice q3 x.queue.items.length c3]) (hf:SlK B q2 c2 5 Zb x.folders):ZaL (pj J) 151 [ptr ⟨b,o,none⟩,str u] B (.int .i64 (ZfG x.folders u)):=by
 refine Zc 28 Tryz.func151 rfl rfl rfl (Nat.le_of_ble_eq_true rfl) ?_
 have hfn:=hf.len
 refine Za (xA (h:=Za (xA (h:=Zl (Za (xM (h:=xNc (h:=xW Z9 (h:=Zo (Zn rfl rfl ZcN rfl (hh _ 2 _ rfl) (xV Tryz.underlying24 (h:=xM (h:=Zp ?_)))))))))))))
 refine ZQ (α:=Nat × Int) [0,1,4,11,12] (fun g=>[(5,.int .i64 g.2),(13,.int .i64 g.1)]) [] (fun g=>[]) (fun g Bx=>Bx=B∧g.1≤x.folders.length∧g.2=ZfG (x.folders.take g.1) u∧-1*g.1≤g.2∧g.2≤g.1*200) (fun g=>x.folders.length - g.1) (0,0) t2 rfl (⟨rfl,Nat.zero_le _,by simp [ZfG],by simp,by simp⟩) (fun g B1 hle1 hI=>?_)
 obtain ⟨rfl,hk,hs,hl0,hl1⟩:=hI
 refine ZO [(0,_),(1,_),(4,_),(5,_),(11,_),(12,_),(13,_)] [] t7 rfl (Za (Zag (h:=Zl (Zd rfl (fun g1=>?_) (fun g1=>?_)))))
 try simp only [sQ,ne_eq] at g1
 refine Zj (Zf (Zl (Zp (Za ?_))))
 obtain ⟨m,hm⟩:=Zaj (xs:=x.folders) (i:=g.1) om
 obtain ⟨bb3,oo3,rfl⟩:=hf.base hm
 obtain ⟨_,⟨qg4,cg4,qm4,cm4,rfl,hg4,hm4,hb4,hb4b⟩,hc4⟩:=hf.elem hm
 have hg4n:=hg4.len
 have hm4n:=hm4.len
 have hm4s:=Zac hm4
 refine xIx Tryz.underlying24 Zbw (h:=yL [_,_,_,_,_] Zja hc4 0 (h:=xAl [_,_,_,_,_] Zd6 (h:=fun b5=>xS [_,_,_,_,_] 0 [_,_,_,_,_] Zbw (h:=Zv [_] rfl (Za (xW Zc7 (h:=x1 lk9 0 (h:=xM (h:=Zc4 (h:=Zd rfl (fun g2=>?_) (fun g2=>?_)))))))))))
 try simp only [sQ,ne_eq] at g2
 have hbs:=ZjZ (⟨m.next,m.mail⟩:DBox)
 refine Ze (xM (h:=xW Zb2 (h:=xL [_,_] ZbP 0 (h:=xR Zw1 rfl (ZqQ _ _ (⟨m.next,m.mail⟩:DBox) _ hm4) (h:=xD (h:=xA (h:=Zz (Zf (Ze (xD (h:=xM (h:=?_))))))))))))
 exact ZB (g.1+1,g.2+Zd5 ⟨m.next,m.mail⟩) [] so2 ⟨rfl,so,by rw [Zjp hm,← hs,if_pos g2],so,so⟩ t7 rfl
 try simp only [sQ,ne_eq] at g2
 refine Zj (Zz (Zf (Ze (xD (h:=xM (h:=?_))))))
 exact ZB (g.1+1,g.2) [] so2 ⟨rfl,so,by rw [Zjp hm,← hs,if_neg g2,Int.add_zero],so,so⟩ t7 rfl
 try simp only [sQ,ne_eq] at g1
 refine ZT (Zah (ZZ (ZH (Zf (Za (xM (h:=xA (h:=Zh ?_))))))))
 exact ZY .ret (.inl rfl) [_] t1 ⟨Za3 (by rw [← Zpl hs oz]),rfl,rfl⟩

set_option maxHeartbeats 400000 in
theorem Zqy (b o:Nat) (q1 q2 q3:Option Addr) (c1 c2 c3:Nat) (x:DHost) (u:Str) (more:Int) (hn:u.length≤2000000) (hm0:0≤more) (hm1:more≤2000000) (B:Kn) (hh:Za7 B b o [str x.domain,.slice q1 x.users.length c1,.slice q2 x.folders.length c2,.int .i64 x.queue.next,.slice q3 x.queue.items.length c3]) (hu:SlK B q1 c1 3 Zg x.users) (hf:SlK B q2 c2 5 Zb x.folders):ZaL (pj J) 94 [ptr ⟨b,o,none⟩,str u,.int .i64 more] B (.bool (ZeE x u more)):=by
 refine Zc 30 Tryz.func94 rfl rfl rfl (Nat.le_of_ble_eq_true rfl) ?_
 have hfn:=hf.len
 have hub:=Zrm x.folders u
 refine Za (xA (h:=Za (xM (h:=xNc (h:=xW ZbD (h:=Zo (Zn rfl rfl ZhC rfl (hh _ 1 _ rfl) (xM (h:=xR ZxL rfl (ZhY _ _ _ u om2 _ hu) (h:=?_))))))))))
 refine xM (h:=xE (h:=xE (h:=xAl [_,_,_] ZgA (h:=fun b2=>xS [_,_,_] 0 [_,_,_] ZeK (h:=xA (h:=Zv [_] rfl (Zl (Z8 (same _ _) mo kr ⟨rfl,rfl⟩ (fun _ _=>?_)))))))))
 refine aM 0 rfl (h:=aN 1 rfl (h:=aM 2 rfl (h:=ZaI (d:=20) rfl (fun g1=>?_) (fun g1=>?_))))
 try simp only [sQ,ne_eq] at g1
 refine aZ 3 rfl (h:=aZ 4 rfl (h:=aZ 5 rfl (h:=aZ 6 rfl (h:=aZ 7 rfl (h:=aZ 8 rfl (h:=aZ 9 rfl (h:=aZ 10 rfl (h:=aPT 11 rfl (h:=aA 12 rfl (h:=ZC kr kr ?_))))))))))
 refine Zf (Zh ?_)
 exact ZY .ret (.inl rfl) [_] t1 ⟨Zk (by rw [ZeE,g1];rfl),rfl,rfl⟩
 try simp only [sQ,ne_eq] at g1
 refine aM 3 rfl (h:=aM 4 rfl (h:=aT 5 rfl (Zan fun D=>ZaS rfl rfl Zxb rfl (ZuV _ _ _ _ _ _ _ _ x u _ hh hf) r4) (h:=aM 6 rfl (h:=aD 7 rfl (h:=aW 8 rfl ZiJ (h:=aT 9 rfl (Zan fun D=>Zn rfl rfl lk3 rfl (atL 0 rfl rfl rfl) r4) (h:=Zm7 10 rfl (h:=aPF 11 rfl (h:=aA 12 rfl (h:=ZC kr kr ?_))))))))))
 refine Zf (Zh ?_)
 exact ZY .ret (.inl rfl) [_] t1 ⟨Zk (by rw [ZeE,g1];rfl),rfl,rfl⟩

set_option maxHeartbeats 400000 in
theorem ZnZ (b o:Nat) (q1 q2 q3:Option Addr) (c1 c2 c3:Nat) (x:DHost) (B:Kn) (hh:Za7 B b o [str x.domain,.slice q1 x.users.length c1,.slice q2 x.folders.length c2,.int .i64 x.queue.next,.slice q3 x.queue.items.length c3]) (hu:SlK B q1 c1 3 Zg x.users) (hf:SlK B q2 c2 5 Zb x.folders):ZaL (pj J) 50 [ptr ⟨b,o,none⟩] B (.bool (ZhX x)):=by
 refine Zc 26 Tryz.func50 rfl rfl rfl (Nat.le_of_ble_eq_true rfl) ?_
 have hfn:=hf.len
 have hun:=hu.len
 refine Za (xA (h:=Zl (Za (xM (h:=xNc (h:=xW ZbD (h:=Zo (Zn rfl rfl ZhC rfl (hh _ 1 _ rfl) (xV Tryz.underlying23 (h:=xM (h:=Zp (ZQ (α:=Nat) [0,8,9] (fun k=>[(10,.int .i64 k)]) [] (fun k=>[]) (fun k Bx=>Bx=B∧k≤x.users.length∧∀z,z∈x.users.take k→ZcS x z=true) (fun k=>x.users.length - k) 0 t1 rfl (⟨rfl,Nat.zero_le _,by simp⟩) (fun k B1 hle1 hI=>?_)))))))))))))
 obtain ⟨rfl,hk,ha⟩:=hI
 refine ZO [(0,_),(8,_),(9,_),(10,_)] [] t4 rfl (Za (Zag (h:=Zl (Zd rfl (fun g1=>?_) (fun g1=>?_)))))
 try simp only [sQ,ne_eq] at g1
 refine Zj (Zf (Zl (Zp (Za ?_))))
 obtain ⟨w,hw⟩:=Zaj (xs:=x.users) (i:=k) om
 obtain ⟨bb3,oo3,rfl⟩:=hu.base hw
 obtain ⟨_,⟨rfl,hb4,hb4b⟩,hc4⟩:=hu.elem hw
 refine xIx Tryz.underlying23 ZeK (h:=yL [_,_,_] ZnD hc4 0 (h:=xAl [_,_,_] ZgA (h:=fun b5=>xS [_,_,_] 0 [_,_,_] ZeK (h:=Zv [_] rfl (Za (xM (h:=xW Zc0 (h:=x1 lk9 0 (h:=xR Zyy rfl (Zvk _ _ _ _ _ _ _ _ x w.name [105,110,98,111,120] om2 om2 _ hh hf) (h:=?_))))))))))
 refine Zag (h:=xM (h:=Zt (d:=19) rfl (fun g2=>?_) (fun g2=>?_)))
 try simp only [sQ,ne_eq] at g2
 refine xP (h:=xP (h:=xP (h:=xP (h:=xT (h:=Zd (t:=true) rfl (fun _=>Za (xA (h:=Zh (ZE (Zs (Z0 (ZE (Zs ?_)))))))) (fun h=>Bool.noConfusion h))))))
 exact ZY .ret (.inl rfl) [_] t1 ⟨Zk (ZcT hw (Zk0 g2)).symm,rfl,rfl⟩
 try simp only [sQ,ne_eq] at g2
 refine xM (h:=xW Zc0 (h:=x1 lk9 0 (h:=xR Zyd rfl (Zqy _ _ _ _ _ _ _ _ x w.name 0 om2 om2 om2 _ hh hu hf) (h:=?_))))
 refine xF (h:=Zd rfl (fun g3=>?_) (fun g3=>?_))
 try simp only [sQ,ne_eq] at g3
 refine Za (xA (h:=Zh (ZE (Zs (Z0 (ZE (Zs ?_)))))))
 exact ZY .ret (.inl rfl) [_] t1 ⟨Zk (ZcT hw (ZkZ g3)).symm,rfl,rfl⟩
 try simp only [sQ,ne_eq] at g3
 refine Zj (Zz (Zf (Ze (xD (h:=xM (h:=?_))))))
 exact ZB (k+1) [] so2 ⟨rfl,oz,Zbi hw ha (ZkY g2 g3)⟩ t4 rfl
 try simp only [sQ,ne_eq] at g1
 refine ZT (Zah (ZZ (ZH (Zf (Za (xA (h:=Zh ?_)))))))
 exact ZY .ret (.inl rfl) [_] t1 ⟨Zk (ZeH (Zbq oz ha)).symm,rfl,rfl⟩

set_option maxHeartbeats 400000 in
theorem ZrX (q:Option Addr) (cp:Nat) (bs:List Bool) (v:Bool) (B:Kn) (hb:SlK B q cp 1 Zm9 bs):ZaL (pj J) 150 [.slice q bs.length cp,.bool v] B (.int .i64 (Zbc (fun y=>decide (v=y)) bs)):=by
 refine Zc 19 Tryz.func150 rfl rfl rfl (Nat.le_of_ble_eq_true rfl) ?_
 have hbn:=hb.len
 refine Za (xA (h:=Zl (Za (xM (h:=xV Tryz.underlying124 (h:=xM (h:=Zp (ZQ (α:=Nat) [0,1,7] (fun k=>[(8,.int .i64 k)]) [] (fun k=>[]) (fun k Bx=>Bx=B∧k≤bs.length∧∀y,y∈bs.take k→decide (v=y)=false) (fun k=>bs.length - k) 0 t1 rfl (⟨rfl,Nat.zero_le _,by simp⟩) (fun k B1 hle1 hI=>?_)))))))))
 obtain ⟨rfl,hk,ha⟩:=hI
 refine ZO [(0,_),(1,_),(7,_),(8,_)] [] t4 rfl (Za (Zag (h:=Zl (Zd rfl (fun g1=>?_) (fun g1=>?_)))))
 try simp only [sQ,ne_eq] at g1
 refine Zj (Zf (Zl (Zp (Za (xM (h:=xA (h:=Za (xM (h:=xM (h:=xM (h:=?_)))))))))))
 obtain ⟨y,hy⟩:=Zaj (xs:=bs) (i:=k) om
 obtain ⟨bb3,oo3,rfl⟩:=hb.base hy
 obtain ⟨_,rfl,hc4⟩:=hb.elem hy
 refine xIx Tryz.underlying124 sz4 (h:=y1 lk4 hc4 0 (h:=Zo (ZuR rfl rfl rfl rfl rfl (Zvr Tryz.underlying4) (Zd rfl (fun g2=>?_) (fun g2=>?_)))))
 try simp only [sQ,ne_eq] at g2
 refine Za (xM (h:=xA (h:=Zh (ZE (Zs (Z0 (ZE (Zs ?_))))))))
 exact ZY .ret (.inl rfl) [_] t1 ⟨Za3 (ZhF hy (decide_eq_true g2) ha).symm,rfl,rfl⟩
 try simp only [sQ,ne_eq] at g2
 refine Zj (Zz (Zf (Ze (xD (h:=xM (h:=?_))))))
 exact ZB (k+1) [] so2 ⟨rfl,oz,Zbi hy ha (decide_eq_false g2)⟩ t4 rfl
 try simp only [sQ,ne_eq] at g1
 refine ZT (Zah (ZZ (ZH (Zf (Za (xA (h:=Zh ?_)))))))
 exact ZY .ret (.inl rfl) [_] t1 ⟨Za3 (Ze5 (Zbq oz ha)).symm,rfl,rfl⟩

set_option maxHeartbeats 400000 in
theorem Zm0 (q:Option Addr) (cp:Nat) (bs:List Bool) (v:Bool) (B:Kn) (hb:SlK B q cp 1 Zm9 bs):ZaL (pj J) 93 [.slice q bs.length cp,.bool v] B (.bool (decide (0≤Zbc (fun y=>decide (v=y)) bs))):=by
 refine Zc 9 Tryz.func93 rfl rfl rfl (Nat.le_of_ble_eq_true rfl) ?_
 refine Za (xA (h:=Za (xM (h:=xM (h:=xR Zxc rfl (ZrX _ _ _ _ _ hb) (h:=Zd8 (h:=xA (h:=Zh ?_))))))))
 exact ZY .ret (.inl rfl) [_] t1 ⟨rfl,rfl,rfl⟩

set_option maxHeartbeats 400000 in
theorem Zly (l:Str) (hl:l.length≤2000000) (B:Kn):ZaL (pj J) 46 [str l] B (.bool (Zcg l)):=by
 refine Zc 16 Tryz.func46 rfl rfl rfl (Nat.le_of_ble_eq_true rfl) ?_
 refine Za (xA (h:=Za (xM (h:=xB [(0,_)] [_,_] [_,_] Zu9 Zre (h:=xAl [_,_] Zre (h:=fun b1=>xS [_,_] 0 [_,_] Zu3 (h:=Zv [_] rfl (Za (Zo (Zjl 0 rfl rfl rfl Zyj rfl (Zsm _ _ 0 oz oz _) ?_))))))))))
 refine xM (h:=xE (h:=xE (h:=xA (h:=xA (h:=Za (xM (h:=xM (h:=Zt (d:=13) rfl (fun g1=>?_) (fun g1=>?_)))))))))
 try simp only [sQ,ne_eq] at g1
 refine Zo (ZhQ 0 rfl rfl rfl Zv0 rfl (ZnR _ _ (dom l 0).2 (ZvD (Nat.zero_le _)) oz _) ?_)
 refine xT (h:=xA (h:=Zh ?_))
 exact ZY .ret (.inl rfl) [_] t1 ⟨Zk (by rw [Bool.eq_iff_iff,← ZlP];simp [ZmX] at g1;simp [g1];try omega),rfl,rfl⟩
 try simp only [sQ,ne_eq] at g1
 refine xP (h:=xF (h:=xA (h:=Zh ?_)))
 exact ZY .ret (.inl rfl) [_] t1 ⟨Zk (by symm;rw [Bool.eq_false_iff,ne_eq,← ZlP];intro hc;simp [ZmX,hc.1] at g1;omega),rfl,rfl⟩

set_option maxHeartbeats 800000 in
theorem Zkw (Wg C n i b o b1 b3 b5 b6:Nat) (q1 q2 q3:Option Addr) (c1 c2 c3:Nat) (x:DHost) (m:DFolder) (qg qm:Option Addr) (cg cm:Nat) (hin:i<n) (B:Kn) (hc900:Za7 B b o [str x.domain,.slice q1 x.users.length c1,.slice q2 x.folders.length c2,.int .i64 x.queue.next,.slice q3 x.queue.items.length c3]) (hu:SlK B q1 c1 3 Zg x.users) (hc901:Za7 B b1 0 [ptr ⟨b,o,none⟩]) (hc903:Za7 B b3 0 [.slice (some ⟨C,0,none⟩) n n]) (hc905:Za7 B b5 0 [.int .i64 i]) (hc906:Za7 B b6 0 [str m.owner,str m.name,.slice qg m.grants.length cg,.int .i64 m.next,.slice qm m.mail.length cm]) (hg:SlK B qg cg 2 ZL m.grants) (hm:SlK B qm cm 3 ZM m.mail) (ho:m.owner.length≤2000000) (hnm:m.name.length≤2000000):@ZeJ ⟨4⟩ Tryz.prog wgL.tWg Wg C n i (.bool (ZaZ x.users m)) (Go.Conc.G (Frame.enter Tryz.prog 88 #[ptr ⟨Wg,0,none⟩,ptr ⟨b1,0,none⟩,ptr ⟨b6,0,none⟩,ptr ⟨b3,0,none⟩,ptr ⟨b5,0,none⟩] .deferred) [Zf0 Tryz.prog]) B []:=by
 letI:Go.ConcR.Payload:=⟨4⟩
 refine Zs8 (Lk:=wgL) (P:=Tryz.prog) (caps:=[ptr ⟨Wg,0,none⟩,ptr ⟨b1,0,none⟩,ptr ⟨b6,0,none⟩,ptr ⟨b3,0,none⟩,ptr ⟨b5,0,none⟩]) (nt:=27) (I:=keeps B [] []) (K:=fun _ _ _ _=>False) Zmc Tryz.func88 rfl rfl (Nat.le_of_ble_eq_true rfl) rfl mo kr ⟨Kn.le.refl _,Zam.refl _ _⟩ (fun _ _ _ _ h=>h) ?_
 refine aT 0 rfl (ZG fun D B L hI=>Zn rfl rfl Zvc rfl ((hc903.mono hI.1) _ 0 _ rfl) r4) (h:=aT 1 rfl (ZG fun D B L hI=>Zn rfl rfl lk3 rfl ((hc905.mono hI.1) _ 0 _ rfl) r4) (h:=aT 2 rfl (ZG fun D B L hI=>Zn rfl rfl ZwC rfl ((hc901.mono hI.1) _ 0 _ rfl) r4) (h:=aW 3 rfl Zc7 (h:=aT 4 rfl (ZG fun D B L hI=>Zn rfl rfl lk9 rfl ((hc906.mono hI.1) _ 0 _ rfl) r4) (h:=aT 5 rfl (ZG fun D B L hI=>ZaS rfl rfl Zv3 rfl (ZhE _ _ _ _ _ _ _ _ x m.owner om2 _ (hc900.mono hI.1) (hu.mono Zg.mono hI.1)) r4) (h:=?_))))))
 refine aM 6 rfl (h:=ZaI (d:=11) rfl (fun g1=>?_) (fun g1=>?_))
 try simp only [sQ,ne_eq] at g1
 refine aW 7 rfl Zfw (h:=aT 8 rfl (ZG fun D B L hI=>Zn rfl rfl lk9 rfl ((hc906.mono hI.1) _ 1 _ rfl) r4) (h:=aT 9 rfl (ZG fun D B L hI=>ZaS rfl rfl Zuy rfl (Zdh _ om2 _) r4) (h:=?_)))
 refine aPT 10 rfl (h:=aM 11 rfl (h:=ZaI (d:=16) rfl (fun g2=>?_) (fun g2=>?_)))
 try simp only [sQ,ne_eq] at g2
 refine aW 12 rfl ZdV (h:=aT 13 rfl (ZG fun D B L hI=>Zn rfl rfl ZrM rfl ((hc906.mono hI.1) _ 2 _ rfl) r4) (h:=aT 14 rfl (ZG fun D B L hI=>ZaS rfl rfl Zyg rfl (Zp9 _ _ _ _ (hg.mono ZL.mono hI.1)) r4) (h:=aPT 15 rfl (h:=aM 16 rfl (h:=ZaI (d:=21) rfl (fun g3=>?_) (fun g3=>?_))))))
 try simp only [sQ,ne_eq] at g3
 refine aW 17 rfl Zb2 (h:=aT 18 rfl (ZG fun D B L hI=>Z6 [_,_] rfl rfl ZbP rfl (Zid (hc906.mono hI.1) 3 rfl rfl) r4) (h:=aT 19 rfl (ZG fun D B L hI=>ZaS rfl rfl ZxJ rfl (Zlz _ _ (⟨m.next,m.mail⟩:DBox) _ (hm.mono ZM.mono hI.1)) r4) (h:=aPT 20 rfl (h:=aT 21 rfl (ZG fun D B L hI=>Za4 rfl rfl Tryz.underlying124 sz4 rfl rfl oz oz r4) (h:=?_)))))
 refine ZhK 22 kr rfl kr kr kr (fun T hn hT=>?_)
 refine Zf4 (L:=[]) hT Zmc (by simp [ZaZ,DFolder.box,g1,g2,g3]) rfl hin rfl Tryz.sizeOf4 (Zc9 sz4) (by exact Zhz C i) rfl kr Tryz.func88 rfl
 try simp only [sQ,ne_eq] at g3
 refine aZ 17 rfl (h:=aZ 18 rfl (h:=aZ 19 rfl (h:=aPF 20 rfl (h:=aT 21 rfl (ZG fun D B L hI=>Za4 rfl rfl Tryz.underlying124 sz4 rfl rfl oz oz r4) (h:=?_)))))
 refine ZhK 22 kr rfl kr kr kr (fun T hn hT=>?_)
 refine Zf4 (L:=[]) hT Zmc (by simp [ZaZ,DFolder.box,g1,g2,g3]) rfl hin rfl Tryz.sizeOf4 (Zc9 sz4) (by exact Zhz C i) rfl kr Tryz.func88 rfl
 try simp only [sQ,ne_eq] at g2
 refine aZ 12 rfl (h:=aZ 13 rfl (h:=aZ 14 rfl (h:=aPF 15 rfl (h:=aM 16 rfl (h:=aZ 17 rfl (h:=aZ 18 rfl (h:=aZ 19 rfl (h:=aPF 20 rfl (h:=aT 21 rfl (ZG fun D B L hI=>Za4 rfl rfl Tryz.underlying124 sz4 rfl rfl oz oz r4) (h:=?_))))))))))
 refine ZhK 22 kr rfl kr kr kr (fun T hn hT=>?_)
 refine Zf4 (L:=[]) hT Zmc (by simp [ZaZ,DFolder.box,g1,g2]) rfl hin rfl Tryz.sizeOf4 (Zc9 sz4) (by exact Zhz C i) rfl kr Tryz.func88 rfl
 try simp only [sQ,ne_eq] at g1
 refine aZ 7 rfl (h:=aZ 8 rfl (h:=aZ 9 rfl (h:=aPF 10 rfl (h:=aM 11 rfl (h:=aZ 12 rfl (h:=aZ 13 rfl (h:=aZ 14 rfl (h:=aPF 15 rfl (h:=aM 16 rfl (h:=aZ 17 rfl (h:=aZ 18 rfl (h:=aZ 19 rfl (h:=?_)))))))))))))
 refine aPF 20 rfl (h:=aT 21 rfl (ZG fun D B L hI=>Za4 rfl rfl Tryz.underlying124 sz4 rfl rfl oz oz r4) (h:=?_))
 refine ZhK 22 kr rfl kr kr kr (fun T hn hT=>?_)
 refine Zf4 (L:=[]) hT Zmc (by simp [ZaZ,DFolder.box,g1]) rfl hin rfl Tryz.sizeOf4 (Zc9 sz4) (by exact Zhz C i) rfl kr Tryz.func88 rfl

set_option maxHeartbeats 1600000 in
theorem Zjf (hJ:Joins Tryz.prog J) (b o:Nat) (q1 q2 q3:Option Addr) (c1 c2 c3:Nat) (x:DHost) (B:Kn) (hc900:Za7 B b o [str x.domain,.slice q1 x.users.length c1,.slice q2 x.folders.length c2,.int .i64 x.queue.next,.slice q3 x.queue.items.length c3]) (hu:SlK B q1 c1 3 Zg x.users) (hf:SlK B q2 c2 5 Zb x.folders):ZA (pj J) 49 [ptr ⟨b,o,none⟩] B [] (fun v B' Ls=>Ls=[]∧v = .bool (x.folders.all (ZaZ x.users))):=by
 have hfn:=hf.len
 letI:Go.ConcR.Payload:=⟨4⟩
 refine Zsq 30 Tryz.func49 rfl rfl (Nat.le_of_ble_eq_true rfl) fun X kind c cs F T0 hk hke hA hn0 hT0=>?_
 let C0:Cx (pj J):=⟨X,fb 49 kind,c :: cs,F,hke⟩
 refine Zfa (C:=C0) (L:=[]) (ZjX (C:=C0) (L:=[]) hn0 hT0 (xBx [_] (h:=fun b1=>xA (h:=?_))))
 intro T1 hn1 hT1
 refine ZlQ (C:=C0) rfl 0 rfl fun B1 hle1 hm1=>?_
 have hc901:=ZcV hm1
 replace hc900:=hc900.mono hle1
 replace hu:=hu.mono Zg.mono hle1
 replace hf:=hf.mono Zb.mono hle1
 replace hA:=fun v B' Ls' h=>hA v B' Ls' (hle1.trans h)
 refine Zfa (C:=C0) (L:=[[]]) (ZjX (C:=C0) (L:=[[]]) hn1 hT1 (y1 ZwC hc901 0 (h:=xNc (h:=xW Z9 (h:=y1 ZcN hc900 2 (h:=xV Tryz.underlying24 (h:=Zo (ZhS (m:=x.folders.length) (c:=x.folders.length) (by_:=1) [.bool false] rfl rfl ZwI zo4 rfl rfl ⟨_,_,rfl,rfl⟩ ⟨_,_,rfl,rfl⟩ (Nat.le_refl _) oz (fun Cb=>?_)))))))))
 refine xAl [_] Zwc (h:=fun b2=>xS [_] 2 [_] Zws (h:=?_))
 intro T2 hn2 hT2
 refine ZlQ (C:=C0) rfl 2 rfl fun B2 hle2 hm2=>?_
 have hc903:=ZcV hm2
 replace hc900:=hc900.mono hle2
 replace hu:=hu.mono Zg.mono hle2
 replace hf:=hf.mono Zb.mono hle2
 replace hc901:=hc901.mono hle2
 replace hA:=fun v B' Ls' h=>hA v B' Ls' (hle2.trans h)
 refine Zfa (C:=C0) (L:=[[],ZaE Cb (zrow [.bool false] x.folders.length) 4,[]]) (Zgv (C:=C0) (L:=[[],ZaE Cb (zrow [.bool false] x.folders.length) 4,[]]) (ZrC (C:=Cb) (n:=x.folders.length) (val:=Zq8 x) (L₁:=F) (cells:=(zrow [.bool false] x.folders.length).toArray) (i:=0) (todo:=[]) hJ rfl hke Zwb rfl oz (by simp [Zcq]) (.refl _) (fun hmain Wg hW1 hW2=>?_)))
 let C1:Cx (.lone Tryz.prog):=⟨phL Tryz.prog 134 Wg Cb x.folders.length (Zq8 x) X.R .a5 (0),fb 49 kind,c :: cs,F,hke⟩
 have hT3:=hT2.putT (n:=30) (dst:=some 4) hn2 rfl (ptr ⟨Wg,0,none⟩)
 have hn3:(putT T2 (some 4) (ptr ⟨Wg,0,none⟩)).size=30:=by rw [ZbA,hn2]
 refine Zdd (C:=C1) (L:=[]) (Zfa (C:=C1) (L:=[]) (Zfa (C:=C1) (L:=[]) (ZjX (C:=C1) (L:=[]) hn3 hT3 (y1 ZwC hc901 0 (h:=xNc (h:=xW Z9 (h:=y1 ZcN hc900 2 (h:=xV Tryz.underlying24 (h:=xM (h:=?_))))))))))
 intro T4 hn4 hT4
 refine ZnS (C:=C1) (L:=[]) (Ztu (nt:=30) (fun j=>[(1,ptr ⟨b1,0,none⟩),(3,ptr ⟨b2,0,none⟩),(4,ptr ⟨Wg,0,none⟩),(16,.slice q2 x.folders.length c2),(17,.int .i64 x.folders.length),(18,.int .i64 ((j:Nat):Int))]) (fun j hj B3 T5 hle3 hn5 hT5 hnext=>?_) hn4 (hT4.sub' t6))
 replace hc900:=hc900.mono hle3
 replace hu:=hu.mono Zg.mono hle3
 replace hf:=hf.mono Zb.mono hle3
 replace hc901:=hc901.mono hle3
 replace hc903:=hc903.mono hle3
 replace hA:=fun v B' Ls' h=>hA v B' Ls' (hle3.trans h)
 let C2:Cx (.lone Tryz.prog):=⟨phL Tryz.prog 134 Wg Cb x.folders.length (Zq8 x) X.R .a5 (j),fb 49 kind,c :: cs,F,hke⟩
 refine Zfa (C:=C2) (L:=[]) (ZjX (C:=C2) (L:=[]) hn5 hT5 (Zag (h:=?_)))
 intro T6 hn6 hT6
 refine Zfa (C:=C2) (L:=[]) ?_
 rcases Nat.lt_or_ge j x.folders.length with hlt | hge
 refine ZqM (C:=C2) (L:=[]) (t:=true) (by exact congrArg (fun t=>some (Value.bool t)) (decide_eq_true oz)) hT6 ?_
 refine Zul (C:=C2) (L:=[]) (Zfa (C:=C2) (L:=[]) (ZnS (C:=C2) (L:=[]) (Zfa (C:=C2) (L:=[]) (ZjX (C:=C2) (L:=[]) hn6 hT6 (xM (h:=?_))))))
 obtain ⟨m,hm⟩:=Zaj (xs:=x.folders) (i:=j) om
 obtain ⟨bb4,oo4,rfl⟩:=hf.base hm
 obtain ⟨_,⟨qg5,cg5,qm5,cm5,rfl,hg5,hm5,hb5,hb5b⟩,hc5⟩:=hf.elem hm
 have hg5n:=hg5.len
 have hm5n:=hm5.len
 have hm5s:=Zac hm5
 refine xIx Tryz.underlying24 Zbw (h:=yL [_,_,_,_,_] Zja hc5 0 (h:=xAl [_] zo3 (h:=fun b6=>xAl [_,_,_,_,_] Zd6 (h:=fun b7=>xS [_] 0 [_] sz3 (h:=xS [_,_,_,_,_] 1 [_,_,_,_,_] Zbw (h:=?_))))))
 intro T7 hn7 hT7
 refine ZlQ (C:=C2) rfl 0 rfl fun B4 hle4 hpm4=>?_
 have hc905:=ZcV hpm4
 refine ZlQ (C:=C2) rfl 1 rfl fun B5 hle5 hpm5=>?_
 have hc906:=ZcV hpm5
 replace hc905:=hc905.mono hle5
 replace hc900:=hc900.mono (hle4.trans hle5)
 replace hu:=hu.mono Zg.mono (hle4.trans hle5)
 replace hf:=hf.mono Zb.mono (hle4.trans hle5)
 replace hc901:=hc901.mono (hle4.trans hle5)
 replace hc903:=hc903.mono (hle4.trans hle5)
 replace hg5:=hg5.mono ZL.mono (hle4.trans hle5)
 replace hm5:=hm5.mono ZM.mono (hle4.trans hle5)
 refine Zfa (C:=C2) (L:=[[],[]]) (Zgv (C:=C2) (L:=[[],[]]) (Zva (Lk:=wgL) (i:=0) (todo:=[]) Zmc hlt rfl Zyh rfl rfl hT7 hke ?_))
 let C3:Cx (.lone Tryz.prog):=⟨phL Tryz.prog 134 Wg Cb x.folders.length (Zq8 x) X.R .a2 (j),fb 49 kind,c :: cs,F,hke⟩
 have hT8:=hT7.putT (n:=30) (dst:=(some 23)) hn7 rfl (.tuple #[])
 have hn8:(putT T7 (some 23) (.tuple #[])).size=30:=by rw [ZbA,hn7]
 refine Zdd (C:=C3) (L:=[]) (Zgv (C:=C3) (L:=[]) (ZxC (C:=C3) (L:=[]) (i:=0) (todo:=[1]) rfl hn8 hT8 (Zo (Zd9 (xs:=[]) (ys:=[.tmp 4,.tmp 1,.tmp 6,.tmp 3,.tmp 5]) rfl rfl rfl rfl ?_))))
 intro T9 hn9 hT9
 refine ZwA (i:=1) (todo:=[]) rfl rfl hT9 hke Tryz.func88 rfl rfl (by rw [Zng hm];exact Zkw Wg Cb x.folders.length j b o b1 b2 b6 b7 _ _ _ _ _ _ x m _ _ _ _ hlt B5 hc900 hu hc901 hc903 hc905 hc906 hg5 hm5 hb5 hb5b) ?_
 let C4:Cx (.lone Tryz.prog):=⟨phL Tryz.prog 134 Wg Cb x.folders.length (Zq8 x) X.R .a5 (j+1),fb 49 kind,c :: cs,F,hke⟩
 refine Zdd (C:=C4) (L:=[]) (ZoR (C:=C4) (L:=[]) ?_)
 have hn10:=hn9
 have hT10:=hT9
 refine ZjX (C:=C4) (L:=[]) hn10 hT10 (xD (h:=xM (h:=?_)))
 intro T11 hn11 hT11
 exact hnext hlt _ _ (hle4.trans hle5) hn11 (hT11.sub' t6)
 obtain rfl:j=x.folders.length:=by omega
 refine ZqM (C:=C2) (L:=[]) (t:=false) (by exact congrArg (fun t=>some (Value.bool t)) (decide_eq_false oz)) hT6 ?_
 refine Zum (C:=C2) (L:=[]) (by rfl) ?_
 refine Zfa (C:=C2) (L:=[]) (Zgv (C:=C2) (L:=[]) (Ztt (Lk:=wgL) (X:=X) (i:=0) (todo:=[]) Zmc oz rfl Zyf rfl hT6 hke (fun _ _ _ h=>h) ?_))
 have hT7:=hT6.putT (n:=30) (dst:=(some 26)) hn6 rfl (.tuple #[])
 have hn7:(putT T6 (some 26) (.tuple #[])).size=30:=by rw [ZbA,hn6]
 refine Zdd (C:=C0) (L:=[[(Cb,Obj.cells ((List.range x.folders.length).map (Zq8 x)).toArray 4 (0,0))]]) (ZlQ (C:=C0) (L:=[[(Cb,Obj.cells ((List.range x.folders.length).map (Zq8 x)).toArray 4 (0,0))]]) rfl 0 rfl fun B4 hle4 hm4=>?_)
 have hvb:=Zpj hm4 hfn
 replace hc900:=hc900.mono hle4
 replace hu:=hu.mono Zg.mono hle4
 replace hf:=hf.mono Zb.mono hle4
 replace hc901:=hc901.mono hle4
 replace hc903:=hc903.mono hle4
 replace hA:=fun v B' Ls' h=>hA v B' Ls' (hle4.trans h)
 refine Zt0 Tryz.func49 rfl hk hke hn7 hT7 hA ?_
 rw [show (x.folders.length:Nat)=(x.folders.map (ZaZ x.users)).length from (List.length_map ..).symm] at hc903
 refine Za (y1 Zvc hc903 0 (h:=xR Zye rfl (Zm0 _ _ _ _ _ hvb) (h:=xN (h:=xA (h:=Zv [_] rfl (Zh ?_))))))
 exact ZY .ret (.inl rfl) [_] t1 ⟨rfl,congrArg Value.bool ZkJ⟩

set_option maxHeartbeats 400000 in
theorem Ziy (hJ:Joins Tryz.prog J) (q1 q2 q3:Option Addr) (c1 c2 c3:Nat) (x:DHost) (hd:x.domain.length≤2000000) (B:Kn) (hu:SlK B q1 c1 3 Zg x.users) (hf:SlK B q2 c2 5 Zb x.folders) (hi:SlK B q3 c3 4 Zi x.queue.items):ZA (pj J) 18 [.agg #[str x.domain,.slice q1 x.users.length c1,.slice q2 x.folders.length c2,.int .i64 x.queue.next,.slice q3 x.queue.items.length c3]] B [] (fun v B' Ls=>Ls=[]∧v = .bool (ZJ x)):=by
 refine Zc 63 Tryz.func18 rfl rfl rfl (Nat.le_of_ble_eq_true rfl) ?_
 rw [← ZoB]
 have hfn:=hf.len
 have hun:=hu.len
 have hin:=hi.len
 refine Za (xBx [_,_,_,_,_] (h:=fun b1=>xA (h:=Zv [_] rfl (Zrh 0 rfl (fun B2 hle2 hpm2=>?_)))))
 have hc2:=ZcV hpm2
 replace hu:=hu.mono Zg.mono hle2
 replace hf:=hf.mono Zb.mono hle2
 replace hi:=hi.mono Zi.mono hle2
 refine Zl (Za (xW ZiK (h:=y1 lk9 hc2 0 (h:=xR ZyE rfl (Zly _ om2 _) (h:=?_)))))
 refine xN (h:=xM (h:=Zt (d:=10) rfl (fun g1=>?_) (fun g1=>?_)))
 try simp only [sQ,ne_eq] at g1
 refine xP (h:=xP (h:=xP (h:=xP (h:=xT (h:=xM (h:=xP (h:=xP (h:=xP (h:=xP (h:=xT (h:=xM (h:=xP (h:=?_)))))))))))))
 refine xP (h:=xP (h:=xP (h:=xT (h:=Zv [_] rfl (Zd (t:=true) rfl (fun _=>Za (xA (h:=Zh (Zs ?_)))) (fun h=>Bool.noConfusion h))))))
 exact ZY .ret (.inl rfl) [_] t1 ⟨rfl,Zk (by simp [Zdx,g1])⟩
 try simp only [sQ,ne_eq] at g1
 refine xW ZbD (h:=y1 ZhC hc2 1 (h:=xR ZxP rfl (Ziw _ _ _ _ hu) (h:=xN (h:=xF (h:=xM (h:=Zt (d:=16) rfl (fun g2=>?_) (fun g2=>?_)))))))
 try simp only [sQ,ne_eq] at g2
 refine xP (h:=xP (h:=xP (h:=xP (h:=xT (h:=xM (h:=xP (h:=xP (h:=xP (h:=xP (h:=xT (h:=Zv [_] rfl (Zd (t:=true) rfl (fun _=>?_) (fun h=>Bool.noConfusion h)))))))))))))
 refine Za (xA (h:=Zh (Zs ?_)))
 exact ZY .ret (.inl rfl) [_] t1 ⟨rfl,Zk (by simp [Zdx,g1,g2])⟩
 try simp only [sQ,ne_eq] at g2
 refine xW Zbg (h:=yL [_,_] Zb9 hc2 3 (h:=xR ZxS rfl (Zix _ _ x.queue _ hi) (h:=xN (h:=xF (h:=xM (h:=Zt (d:=22) rfl (fun g3=>?_) (fun g3=>?_)))))))
 try simp only [sQ,ne_eq] at g3
 refine xP (h:=xP (h:=xP (h:=xP (h:=xT (h:=Zv [_] rfl (Zd (t:=true) rfl (fun _=>Za (xA (h:=Zh (Zs ?_)))) (fun h=>Bool.noConfusion h)))))))
 exact ZY .ret (.inl rfl) [_] t1 ⟨rfl,Zk (by simp [Zdx,g1,g2,g3])⟩
 try simp only [sQ,ne_eq] at g3
 refine xW Z9 (h:=y1 ZcN hc2 2 (h:=xV Tryz.underlying24 (h:=ZbM (h:=xF (h:=Zv [_] rfl (Zd rfl (fun g4=>?_) (fun g4=>?_)))))))
 try simp only [sQ,ne_eq] at g4
 refine Za (xA (h:=Zh (Zs ?_)))
 exact ZY .ret (.inl rfl) [_] t1 ⟨rfl,Zk (by simp [Zdx];intros;omega)⟩
 try simp only [sQ,ne_eq] at g4
 refine Zj (Zf (Zl (Za (xW Z9 (h:=y1 ZcN hc2 2 (h:=xW Z9 (h:=y1 ZcN hc2 2 (h:=xV Tryz.underlying24 (h:=xU (h:=Zo (Zwi (m:=(x.folders.length - 1)) rfl rfl rfl rfl om ?_)))))))))))
 have hsl:((x.folders.take (x.folders.length - 1)).drop 0).length=x.folders.length - 1:=by simp
 obtain ⟨hq6,q6,cp6,hv6,hr6⟩:=hf.cutE 0 (x.folders.length - 1) om om
 have hr6n:=hr6.len
 refine Zo (Zg4 (a:=0) (b:=(x.folders.length - 1)) hv6 om hq6 rfl rfl Tryz.underlying24 Zbw rfl rfl ⟨_,_,rfl,by first | omega | (simp;done) | (simp;omega)⟩ ?_)
 refine xV Tryz.underlying24 (h:=xM (h:=Zp (ZQ (α:=Nat) [0,1,27,35,36] (fun k=>[(37,.int .i64 k)]) [] (fun k=>[]) (fun k Bx=>Bx=B2∧k≤x.folders.length - 1∧ZsC x.folders k) (fun k=>x.folders.length - k) 0 t1 rfl (⟨rfl,Nat.zero_le _,Zoh⟩) (fun k B7 hle7 hI=>?_))))
 obtain ⟨rfl,hk,hord⟩:=hI
 refine ZO [(0,_),(1,_),(27,_),(35,_),(36,_),(37,_)] [_] t6 rfl (Za (Zag (h:=Zl (Zd rfl (fun g5=>?_) (fun g5=>?_)))))
 try simp only [sQ,ne_eq] at g5
 refine Zj (Zf (Zl (Zp (Za (xM (h:=?_))))))
 obtain ⟨fa,hfa⟩:=Zaj (xs:=((x.folders.take (x.folders.length - 1)).drop 0)) (i:=k) om
 obtain ⟨bb9,oo9,rfl⟩:=hr6.base hfa
 obtain ⟨_,⟨qg10,cg10,qm10,cm10,rfl,hg10,hm10,hb10,hb10b⟩,hc10⟩:=hr6.elem hfa
 have hg10n:=hg10.len
 have hm10n:=hm10.len
 have hm10s:=Zac hm10
 refine xIx Tryz.underlying24 Zbw (h:=?_)
 have hfa0:x.folders[k]? = some fa:=by rw [List.drop_zero,List.getElem?_take] at hfa;split at hfa <;> simp_all
 refine yL [_,_,_,_,_] Zja hc10 0 (h:=xAl [_,_,_,_,_] Zd6 (h:=fun b11=>xA (h:=xS [_,_,_,_,_] 1 [_,_,_,_,_] Zbw (h:=Zv [_,_] rfl (Za (xW Z9 (h:=y1 ZcN hc2 2 (h:=xM (h:=xD (h:=?_))))))))))
 obtain ⟨fb,hfb⟩:=Zaj (xs:=x.folders) (i:=(k+1)) om
 obtain ⟨bb13,oo13,rfl⟩:=hf.base hfb
 obtain ⟨_,⟨qg14,cg14,qm14,cm14,rfl,hg14,hm14,hb14,hb14b⟩,hc14⟩:=hf.elem hfb
 have hg14n:=hg14.len
 have hm14n:=hm14.len
 have hm14s:=Zac hm14
 refine xIx Tryz.underlying24 Zbw (h:=yL [_,_,_,_,_] Zja hc14 0 (h:=xAl [_,_,_,_,_] Zd6 (h:=fun b15=>xS [_,_,_,_,_] 2 [_,_,_,_,_] Zbw (h:=Zv [_,_,_] rfl (Za (xL [_,_,_,_,_] Zja 1 (h:=xW Zc7 (h:=x1 lk9 2 (h:=xW Zfw (h:=x1 lk9 2 (h:=xR ZyD rfl (ZmS fa _ _ _ _ fb.owner fb.name _) (h:=Zd8 (h:=?_)))))))))))))
 refine Zd rfl (fun g6=>?_) (fun g6=>?_)
 try simp only [sQ,ne_eq] at g6
 refine Za (xA (h:=Zh (ZE (Zs (Z0 (ZE (Zs ?_)))))))
 exact ZY .ret (.inl rfl) [_] t1 ⟨rfl,Zk (by simp [Zdx,ZrG hfa0 hfb ((ZlS fa fb).1 g6)])⟩
 try simp only [sQ,ne_eq] at g6
 refine Zj (Zz (Zf (Ze (xD (h:=xM (h:=?_))))))
 exact ZB (k+1) [0] so2 ⟨rfl,oz,Zoi hord hfa0 hfb (by rw [← Bool.not_eq_false,← ZlS];omega)⟩ t6 rfl
 try simp only [sQ,ne_eq] at g5
 have ho:=ZrF (fs:=x.folders) (fun i a b h=>hord i a b oz)
 refine ZT (Zah (ZZ (ZH (Zf (Za (Zo (ZaG rfl rfl ZyC rfl (Zjf hJ _ _ _ _ _ _ _ _ x _ hc2 hu hf) ?_)))))))
 intro v17 B17 hle17
 rintro rfl
 replace hu:=hu.mono Zg.mono hle17
 replace hf:=hf.mono Zb.mono hle17
 replace hi:=hi.mono Zi.mono hle17
 replace hc2:=hc2.mono hle17
 replace hr6:=hr6.mono Zb.mono hle17
 refine xM (h:=Zt (d:=57) rfl (fun g7=>?_) (fun g7=>?_))
 try simp only [sQ,ne_eq] at g7
 refine xR ZyB rfl (ZnZ _ _ _ _ _ _ _ _ x _ hc2 hu hf) (h:=xT (h:=xM (h:=Zt (d:=60) rfl (fun g8=>?_) (fun g8=>?_))))
 try simp only [sQ,ne_eq] at g8
 refine xR ZyA rfl (Zmz _ _ _ _ _ _ _ _ x _ hc2 hu hi) (h:=xT (h:=xA (h:=Zh ?_)))
 exact ZY .ret (.inl rfl) [_] t1 ⟨rfl,Zk (by simp [Zdx,g1,g2,g3,ho,g7,g8];try omega)⟩
 try simp only [sQ,ne_eq] at g8
 refine xP (h:=xF (h:=xA (h:=Zh ?_)))
 exact ZY .ret (.inl rfl) [_] t1 ⟨rfl,Zk (by simp [Zdx,g1,g2,g3,ho,g7,g8];try omega)⟩
 try simp only [sQ,ne_eq] at g7
 refine xP (h:=xF (h:=xM (h:=xP (h:=xF (h:=xA (h:=Zh ?_))))))
 exact ZY .ret (.inl rfl) [_] t1 ⟨rfl,Zk (by simp [Zdx,g7])⟩

set_option maxHeartbeats 400000 in
theorem Zmr (q q':Option Addr) (cp cp':Nat) (xs ys:List DUser) (B:Kn) (ha:SlK B q cp 3 Zg xs) (hb:SlK B q' cp' 3 Zg ys):ZaL (pj J) 40 [.slice q xs.length cp,.slice q' ys.length cp'] B (.bool (decide (xs=ys))):=by
 refine Zc 26 Tryz.func40 rfl rfl rfl (Nat.le_of_ble_eq_true rfl) ?_
 have han:=ha.len
 have hbn:=hb.len
 refine Za (xA (h:=Zl (Za (xM (h:=xV Tryz.underlying23 (h:=xM (h:=xV Tryz.underlying23 (h:=ZbR (h:=Zd rfl (fun g1=>?_) (fun g1=>?_))))))))))
 try simp only [sQ,ne_eq] at g1
 refine Za (xA (h:=Zh (Zs ?_)))
 exact ZY .ret (.inl rfl) [_] t1 ⟨Zk (ZiQ g1),rfl,rfl⟩
 try simp only [sQ,ne_eq] at g1
 refine Zj (Zf (Zl (Za (xA (h:=Zp (ZQ (α:=Nat) [0,1,10] (fun k=>[(5,.int .i64 k)]) [] (fun k=>[]) (fun k Bx=>Bx=B∧k≤xs.length∧xs.take k=ys.take k) (fun k=>xs.length - k) 0 t1 rfl (⟨rfl,Nat.zero_le _,by simp⟩) (fun k B1 hle1 hI=>?_)))))))
 obtain ⟨rfl,hk,he⟩:=hI
 refine ZO [(0,_),(1,_),(5,_),(10,_)] [] t4 rfl (Zl (Za (xM (h:=xM (h:=xV Tryz.underlying23 (h:=Zag (h:=Zd rfl (fun g2=>?_) (fun g2=>?_))))))))
 try simp only [sQ,ne_eq] at g2
 refine Zj (Zf (Zl (Zp (Zl (Z8 (same _ _) mo kr ⟨rfl,rfl⟩ (fun _ _=>?_))))))
 refine aM 0 rfl (h:=aM 1 rfl (h:=?_))
 obtain ⟨x,hx⟩:=Zaj (xs:=xs) (i:=k) om
 obtain ⟨bb3,oo3,rfl⟩:=ha.base hx
 obtain ⟨_,⟨rfl,hb4,hb4b⟩,hc4⟩:=ha.elem hx
 refine aIx 2 rfl Tryz.underlying23 ZeK (h:=aT 3 rfl (Zan fun D=>Z6 [_,_,_] rfl rfl ZnD rfl (Zid hc4 0 rfl rfl) r4) (h:=aM 4 rfl (h:=aM 5 rfl (h:=?_))))
 obtain ⟨y,hy⟩:=Zaj (xs:=ys) (i:=k) om
 obtain ⟨bb6,oo6,rfl⟩:=hb.base hy
 obtain ⟨_,⟨rfl,hb7,hb7b⟩,hc7⟩:=hb.elem hy
 refine aIx 6 rfl Tryz.underlying23 ZeK (h:=aT 7 rfl (Zan fun D=>Z6 [_,_,_] rfl rfl ZnD rfl (Zid hc7 0 rfl rfl) r4) (h:=aT 8 rfl (Zan fun D=>Zpb (rs:=[_,_,_]) rfl rfl rfl rfl Zvj ⟨⟨_,_,rfl,rfl,ZhH Tryz.underlying9⟩,⟨_,_,rfl,rfl,ZhH Tryz.underlying9⟩,⟨_,_,rfl,rfl,ZhI Tryz.underlying3⟩,trivial⟩ r4) (h:=ZC kr kr ?_)))
 refine Zf (Zd rfl (fun g3=>?_) (fun g3=>?_))
 try simp only [sQ,ne_eq] at g3
 refine Za (xA (h:=Zh (ZE (Zs (Z0 (ZE (Zs ?_)))))))
 exact ZY .ret (.inl rfl) [_] t1 ⟨Zk (Zgu hx hy (by rintro rfl;simp at g3)),rfl,rfl⟩
 try simp only [sQ,ne_eq] at g3
 refine Zj (Zz (Zf (Ze (xM (h:=xD (h:=xA (h:=?_)))))))
 exact ZB (k+1) [] so2 ⟨rfl,oz,Zcj hx hy (by cases x;cases y;simpa [and_assoc] using g3) he⟩ t4 rfl
 try simp only [sQ,ne_eq] at g2
 refine ZT (Zah (ZZ (ZH (Zf (Za (xA (h:=Zh ?_)))))))
 exact ZY .ret (.inl rfl) [_] t1 ⟨Zk (eqT oz oz he),rfl,rfl⟩

set_option maxHeartbeats 400000 in
theorem Zld (q q':Option Addr) (cp cp':Nat) (xs ys:List DGrant) (B:Kn) (ha:SlK B q cp 2 ZL xs) (hb:SlK B q' cp' 2 ZL ys):ZaL (pj J) 124 [.slice q xs.length cp,.slice q' ys.length cp'] B (.bool (decide (xs=ys))):=by
 refine Zc 26 Tryz.func124 rfl rfl rfl (Nat.le_of_ble_eq_true rfl) ?_
 have han:=ha.len
 have hbn:=hb.len
 refine Za (xA (h:=Zl (Za (xM (h:=xV Tryz.underlying65 (h:=xM (h:=xV Tryz.underlying65 (h:=ZbR (h:=Zd rfl (fun g1=>?_) (fun g1=>?_))))))))))
 try simp only [sQ,ne_eq] at g1
 refine Za (xA (h:=Zh (Zs ?_)))
 exact ZY .ret (.inl rfl) [_] t1 ⟨Zk (ZiQ g1),rfl,rfl⟩
 try simp only [sQ,ne_eq] at g1
 refine Zj (Zf (Zl (Za (xA (h:=Zp (ZQ (α:=Nat) [0,1,10] (fun k=>[(5,.int .i64 k)]) [] (fun k=>[]) (fun k Bx=>Bx=B∧k≤xs.length∧xs.take k=ys.take k) (fun k=>xs.length - k) 0 t1 rfl (⟨rfl,Nat.zero_le _,by simp⟩) (fun k B1 hle1 hI=>?_)))))))
 obtain ⟨rfl,hk,he⟩:=hI
 refine ZO [(0,_),(1,_),(5,_),(10,_)] [] t4 rfl (Zl (Za (xM (h:=xM (h:=xV Tryz.underlying65 (h:=Zag (h:=Zd rfl (fun g2=>?_) (fun g2=>?_))))))))
 try simp only [sQ,ne_eq] at g2
 refine Zj (Zf (Zl (Zp (Zl (Z8 (same _ _) mo kr ⟨rfl,rfl⟩ (fun _ _=>?_))))))
 refine aM 0 rfl (h:=aM 1 rfl (h:=?_))
 obtain ⟨x,hx⟩:=Zaj (xs:=xs) (i:=k) om
 obtain ⟨bb3,oo3,rfl⟩:=ha.base hx
 obtain ⟨_,⟨rfl,hb4⟩,hc4⟩:=ha.elem hx
 refine aIx 2 rfl Tryz.underlying65 ZbH (h:=aT 3 rfl (Zan fun D=>Z6 [_,_] rfl rfl Zop rfl (Zid hc4 0 rfl rfl) r4) (h:=aM 4 rfl (h:=aM 5 rfl (h:=?_))))
 obtain ⟨y,hy⟩:=Zaj (xs:=ys) (i:=k) om
 obtain ⟨bb6,oo6,rfl⟩:=hb.base hy
 obtain ⟨_,⟨rfl,hb7⟩,hc7⟩:=hb.elem hy
 refine aIx 6 rfl Tryz.underlying65 ZbH (h:=aT 7 rfl (Zan fun D=>Z6 [_,_] rfl rfl Zop rfl (Zid hc7 0 rfl rfl) r4) (h:=aT 8 rfl (Zan fun D=>Zpb (rs:=[_,_]) rfl rfl rfl rfl ZtY ⟨⟨_,_,rfl,rfl,ZhH Tryz.underlying9⟩,⟨_,_,rfl,rfl,ZhI Tryz.underlying3⟩,trivial⟩ r4) (h:=ZC kr kr ?_)))
 refine Zf (Zd rfl (fun g3=>?_) (fun g3=>?_))
 try simp only [sQ,ne_eq] at g3
 refine Za (xA (h:=Zh (ZE (Zs (Z0 (ZE (Zs ?_)))))))
 exact ZY .ret (.inl rfl) [_] t1 ⟨Zk (Zgu hx hy (by rintro rfl;simp at g3)),rfl,rfl⟩
 try simp only [sQ,ne_eq] at g3
 refine Zj (Zz (Zf (Ze (xM (h:=xD (h:=xA (h:=?_)))))))
 exact ZB (k+1) [] so2 ⟨rfl,oz,Zcj hx hy (by cases x;cases y;simpa [and_assoc] using g3) he⟩ t4 rfl
 try simp only [sQ,ne_eq] at g2
 refine ZT (Zah (ZZ (ZH (Zf (Za (xA (h:=Zh ?_)))))))
 exact ZY .ret (.inl rfl) [_] t1 ⟨Zk (eqT oz oz he),rfl,rfl⟩

set_option maxHeartbeats 400000 in
theorem Zn9 (q q':Option Addr) (cp cp':Nat) (xs ys:List DMail) (B:Kn) (ha:SlK B q cp 3 ZM xs) (hb:SlK B q' cp' 3 ZM ys):ZaL (pj J) 162 [.slice q xs.length cp,.slice q' ys.length cp'] B (.bool (decide (xs=ys))):=by
 refine Zc 26 Tryz.func162 rfl rfl rfl (Nat.le_of_ble_eq_true rfl) ?_
 have han:=ha.len
 have hbn:=hb.len
 refine Za (xA (h:=Zl (Za (xM (h:=xV Tryz.underlying66 (h:=xM (h:=xV Tryz.underlying66 (h:=ZbR (h:=Zd rfl (fun g1=>?_) (fun g1=>?_))))))))))
 try simp only [sQ,ne_eq] at g1
 refine Za (xA (h:=Zh (Zs ?_)))
 exact ZY .ret (.inl rfl) [_] t1 ⟨Zk (ZiQ g1),rfl,rfl⟩
 try simp only [sQ,ne_eq] at g1
 refine Zj (Zf (Zl (Za (xA (h:=Zp (ZQ (α:=Nat) [0,1,10] (fun k=>[(5,.int .i64 k)]) [] (fun k=>[]) (fun k Bx=>Bx=B∧k≤xs.length∧xs.take k=ys.take k) (fun k=>xs.length - k) 0 t1 rfl (⟨rfl,Nat.zero_le _,by simp⟩) (fun k B1 hle1 hI=>?_)))))))
 obtain ⟨rfl,hk,he⟩:=hI
 refine ZO [(0,_),(1,_),(5,_),(10,_)] [] t4 rfl (Zl (Za (xM (h:=xM (h:=xV Tryz.underlying66 (h:=Zag (h:=Zd rfl (fun g2=>?_) (fun g2=>?_))))))))
 try simp only [sQ,ne_eq] at g2
 refine Zj (Zf (Zl (Zp (Zl (Z8 (same _ _) mo kr ⟨rfl,rfl⟩ (fun _ _=>?_))))))
 refine aM 0 rfl (h:=aM 1 rfl (h:=?_))
 obtain ⟨x,hx⟩:=Zaj (xs:=xs) (i:=k) om
 obtain ⟨bb3,oo3,rfl⟩:=ha.base hx
 obtain ⟨_,⟨rfl,hb4⟩,hc4⟩:=ha.elem hx
 refine aIx 2 rfl Tryz.underlying66 ZcJ (h:=aT 3 rfl (Zan fun D=>Z6 [_,_,_] rfl rfl Zln rfl (Zid hc4 0 rfl rfl) r4) (h:=aM 4 rfl (h:=aM 5 rfl (h:=?_))))
 obtain ⟨y,hy⟩:=Zaj (xs:=ys) (i:=k) om
 obtain ⟨bb6,oo6,rfl⟩:=hb.base hy
 obtain ⟨_,⟨rfl,hb7⟩,hc7⟩:=hb.elem hy
 refine aIx 6 rfl Tryz.underlying66 ZcJ (h:=aT 7 rfl (Zan fun D=>Z6 [_,_,_] rfl rfl Zln rfl (Zid hc7 0 rfl rfl) r4) (h:=aT 8 rfl (Zan fun D=>Zpb (rs:=[_,_,_]) rfl rfl rfl rfl ZtX ⟨⟨_,_,rfl,rfl,ZhI Tryz.underlying3⟩,⟨_,_,rfl,rfl,ZhI Tryz.underlying3⟩,⟨_,_,rfl,rfl,ZhH Tryz.underlying9⟩,trivial⟩ r4) (h:=ZC kr kr ?_)))
 refine Zf (Zd rfl (fun g3=>?_) (fun g3=>?_))
 try simp only [sQ,ne_eq] at g3
 refine Za (xA (h:=Zh (ZE (Zs (Z0 (ZE (Zs ?_)))))))
 exact ZY .ret (.inl rfl) [_] t1 ⟨Zk (Zgu hx hy (by rintro rfl;simp at g3)),rfl,rfl⟩
 try simp only [sQ,ne_eq] at g3
 refine Zj (Zz (Zf (Ze (xM (h:=xD (h:=xA (h:=?_)))))))
 exact ZB (k+1) [] so2 ⟨rfl,oz,Zcj hx hy (by cases x;cases y;simpa [and_assoc] using g3) he⟩ t4 rfl
 try simp only [sQ,ne_eq] at g2
 refine ZT (Zah (ZZ (ZH (Zf (Za (xA (h:=Zh ?_)))))))
 exact ZY .ret (.inl rfl) [_] t1 ⟨Zk (eqT oz oz he),rfl,rfl⟩

set_option maxHeartbeats 400000 in
theorem ZpF (q1:Option Addr) (c1:Nat) (q2:Option Addr) (c2:Nat) (a b:DBox) (B:Kn) (h1:SlK B q1 c1 3 ZM a.mail) (h2:SlK B q2 c2 3 ZM b.mail):ZaL (pj J) 125 [.agg #[.int .i64 a.next,.slice q1 a.mail.length c1],.agg #[.int .i64 b.next,.slice q2 b.mail.length c2]] B (.bool (decide (a=b))):=by
 refine Zc 17 Tryz.func125 rfl rfl rfl (Nat.le_of_ble_eq_true rfl) ?_
 refine Za (xBx [_,_] (h:=fun b1=>xBx [_,_] (h:=fun b2=>xA (h:=Zv [_,_] rfl (Za (xW Zco (h:=x1 lk3 0 (h:=xW Zco (h:=x1 lk3 1 (h:=ZI (h:=xM (h:=Zt (d:=10) rfl (fun g1=>?_) (fun g1=>?_)))))))))))))
 try simp only [sQ,ne_eq] at g1
 refine xW ZaR (h:=x1 Zfv 0 (h:=xW ZaR (h:=x1 Zfv 1 (h:=xR Zw6 rfl (Zn9 _ _ _ _ _ _ _ h1 h2) (h:=xT (h:=xA (h:=Zh ?_)))))))
 exact ZY .ret (.inl rfl) [_] t1 ⟨Zk (by cases a;cases b;simp_all),rfl,rfl⟩
 try simp only [sQ,ne_eq] at g1
 refine xP (h:=xP (h:=xP (h:=xP (h:=xP (h:=xF (h:=xA (h:=Zh ?_)))))))
 exact ZY .ret (.inl rfl) [_] t1 ⟨Zk (by cases a;cases b;simp_all),rfl,rfl⟩

end Go.Proofs.YtpgdailphhongaaGreatDoor
