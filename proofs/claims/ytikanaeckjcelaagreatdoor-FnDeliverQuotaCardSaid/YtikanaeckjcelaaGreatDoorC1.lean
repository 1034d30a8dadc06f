/-
  WHAT THE FUNCTIONS THAT THE LAWS REACH COMPUTE: each function's contract, proved off its printed body (the text is written by program). No condition beyond those that each theorem states.
-/
import Derived.Test.YtikanaeckjcelaaGreatDoorC0
namespace Go.Proofs.YtikanaeckjcelaaGreatDoor
open Go Go.BL
set_option linter.unusedVariables false
set_option linter.unusedSimpArgs false
set_option maxRecDepth 4000
set_option maxHeartbeats 6400000
variable {J : JoinT}
theorem ZpI (b:Nat) (q:Option Addr) (cp:Nat) (xs:List Int) (l:Cells) (m:Nat) (hm:m≤xs.length) (hm0:0<xs.length) (hn:xs.length≤2000000) (hh:ZfC xs m 0) (B:Kn) (hv:ZY B l q cp 3 1 Zcf xs):Zv (pj J) 161 [.iface 184 (ptr ⟨b,0,none⟩),.int .i64 0,.int .i64 m] B [Zah b [.slice q xs.length cp] 186,l] (fun v B' Ls=>B'=B∧∃ys l',Ls=[Zah b [.slice q ys.length cp] 186,l']∧ZY B l' q cp 3 1 Zcf ys∧ys.Perm xs∧ZtO ys m∧(∀k,m≤k→hat ys k=hat xs k)):=by
 refine cB 48 Tryz.func161 (h:=?_)
 refine Za (xA (h:=Za (xM (h:=xA (h:=Zg (Zl (ZO (α:=Nat × List Int × Cells) [0,1,2,6] (fun g=>[(7,.int .i64 g.1)]) [0,1] (fun g=>[Zah b [.slice q g.2.1.length cp] 186,g.2.2]) (fun g Bx=>Bx=B∧g.1<g.2.1.length∧g.2.1.Perm xs∧ZfC g.2.1 m g.1∧(∀k,m≤k→hat g.2.1 k=hat xs k)∧ZY B g.2.2 q cp 3 1 Zcf g.2.1) (fun g=>xs.length - g.1) (0,xs,l) t1 rfl (⟨rfl,hm0,.refl _,hh,fun _ _=>rfl,hv⟩) (fun g B1 hle1 hI=>?_))))))))
 obtain ⟨rfl,hk,hp,hb,hs,hv⟩:=hI
 have hpl:=hp.length_eq
 refine ZM [(0,_),(1,_),(2,_),(6,_),(7,_)] [_,_] t5 rfl (Zl (Za (xM (h:=Zn (ZlF (r:=((2*g.1:Nat):Int)) rfl rfl rfl rfl ((congrArg _ (show _=((2*g.1:Nat):Int) from by omega)).trans (Za9 oz oz)) ?_)))))
 refine Zn (Zfa (r:=((2*g.1+1:Nat):Int)) rfl rfl rfl rfl ((congrArg _ (show _=((2*g.1+1:Nat):Int) from by omega)).trans (Za9 oz oz)) ?_)
 refine xA (h:=Zg (Za (xM (h:=xM (h:=Zeo (h:=xM (h:=Zo (d:=18) rfl (fun g1=>?_) (fun g1=>?_))))))))
 try simp only [sQ,ne_eq] at g1
 refine xP (h:=xP (h:=xT (h:=Zb (t:=true) rfl (fun _=>ZS (Zae (ZfF rfl (ZX (ZI (Zj (Za (xM (h:=xM (h:=Zbp (h:=xA (h:=Zd ?_)))))))))))) (fun h=>Bool.noConfusion h))))
 exact eN [0,1] rfl t1 ⟨rfl,_,_,rfl,hv,hp,ZrV hb oz,hs⟩
 try simp only [sQ,ne_eq] at g1
 refine xM (h:=Zaf (h:=xF (h:=Zb rfl (fun g2=>by have:=of_decide_eq_true g2;omega) (fun g2=>?_))))
 try simp only [sQ,ne_eq] at g2
 refine wSk (Za (xM (h:=xA (h:=Zg (Za (xM (h:=Zn (Zfa (r:=((2*g.1+1+1:Nat):Int)) rfl rfl rfl rfl ((congrArg _ (show _=((2*g.1+1+1:Nat):Int) from by omega)).trans (Za9 oz oz)) ?_))))))))
 refine xA (h:=Za (xM (h:=xM (h:=Zaf (h:=xM (h:=Zo (d:=28) rfl (fun g3=>?_) (fun g3=>?_)))))))
 try simp only [sQ,ne_eq] at g3
 refine xM (h:=xM (h:=xM (h:=Zn (Zf2 1 rfl rfl rfl ZrN rfl rfl (ZbI Zew Tryz.underlying184 ZfN (atL 0 rfl rfl rfl)) (ZaM.borrow fun hm2=>ZgX _ _ _ _ _ _ _ (Zbh oz) (Zbh oz) _ (hv.lend Zcf.mono hm2 om)) ?_))))
 refine xT (h:=Zb rfl (fun g4=>?_) (fun g4=>?_))
 try simp only [sQ,ne_eq] at g4
 refine Zc (xM (h:=xA (h:=Zj (Zg (Za (xM (h:=xM (h:=xM (h:=Zn (Zf2 1 rfl rfl rfl ZrN rfl rfl (ZbI Zew Tryz.underlying184 ZfN (atL 0 rfl rfl rfl)) (ZaM.borrow fun hm3=>ZgX _ _ _ _ _ _ _ (Zbh oz) (Zbh oz) _ (hv.lend Zcf.mono hm3 om)) ?_))))))))))
 refine xN (h:=Zb rfl (fun g5=>?_) (fun g5=>?_))
 try simp only [sQ,ne_eq] at g5
 refine ZS (Zae (ZfF rfl (ZX (ZI (Zj (Za (xM (h:=xM (h:=Zbp (h:=xA (h:=Zd ?_)))))))))))
 exact eN [0,1] rfl t1 ⟨rfl,_,_,rfl,hv,hp,ZjI hb (by intro k h0 hk he;(try simp only [decide_eq_true_eq,decide_eq_false_iff_not,Bool.not_eq_true',Bool.not_eq_false',Int.not_lt] at *);rcases (show k=2*g.1+1∨k=2*g.1+1+1 from by omega) with rfl | rfl <;> omega),hs⟩
 try simp only [sQ,ne_eq] at g5
 refine wSk (Za (xM (h:=xM (h:=xM (h:=Zn (ZhI [1] rfl rfl rfl rfl ZrM rfl rfl (ZbI Zev Tryz.underlying184 ZfN (atL 0 rfl rfl rfl)) (ZgW _ _ _ _ _ _ _ _ (Zbh oz) (Zbh oz) oz _ hv) ?_))))))
 rintro _ B4 _ hle4 ⟨rfl,l4,rfl,hv4⟩
 refine tL2 (Zc (xM (h:=xA (h:=ZA ?_))))
 rw [← ZdK g.2.1 g.1 (2*g.1+1+1)]
 have h5:hat g.2.1 (2*g.1+1+1)<hat g.2.1 g.1:=by simpa using g5
 exact ZD (2*g.1+1+1,(swp g.2.1 g.1 (2*g.1+1+1)),l4) [0,1] (so) ⟨rfl,by have:=ZdK g.2.1 g.1 (2*g.1+1+1);simp only [];omega,(ZgE oz oz).trans hp,ZjH oz oz oz oz hb (by intro k h0 hk he;(try simp only [decide_eq_true_eq,decide_eq_false_iff_not,Bool.not_eq_true',Bool.not_eq_false',Int.not_lt] at *);rcases (show k=2*g.1+1∨k=2*g.1+1+1 from by omega) with rfl | rfl <;> omega) h5,(fun k hk=>by rw [Zfq oz oz,if_neg oz,if_neg oz];exact hs k hk),hv4⟩ t5 rfl
 try simp only [sQ,ne_eq] at g4
 refine wSk (Zg (Za (xM (h:=xM (h:=xM (h:=Zn (Zf2 1 rfl rfl rfl ZrN rfl rfl (ZbI Zew Tryz.underlying184 ZfN (atL 0 rfl rfl rfl)) (ZaM.borrow fun hm5=>ZgX _ _ _ _ _ _ _ (Zbh oz) (Zbh oz) _ (hv.lend Zcf.mono hm5 om)) ?_)))))))
 refine xN (h:=Zb rfl (fun g5=>?_) (fun g5=>?_))
 try simp only [sQ,ne_eq] at g5
 refine ZS (Zae (ZfF rfl (ZX (ZI (Zj (Za (xM (h:=xM (h:=Zbp (h:=xA (h:=Zd ?_)))))))))))
 exact eN [0,1] rfl t1 ⟨rfl,_,_,rfl,hv,hp,ZjI hb (by intro k h0 hk he;(try simp only [decide_eq_true_eq,decide_eq_false_iff_not,Bool.not_eq_true',Bool.not_eq_false',Int.not_lt] at *);rcases (show k=2*g.1+1∨k=2*g.1+1+1 from by omega) with rfl | rfl <;> omega),hs⟩
 try simp only [sQ,ne_eq] at g5
 refine wSk (Za (xM (h:=xM (h:=xM (h:=Zn (ZhI [1] rfl rfl rfl rfl ZrM rfl rfl (ZbI Zev Tryz.underlying184 ZfN (atL 0 rfl rfl rfl)) (ZgW _ _ _ _ _ _ _ _ (Zbh oz) (Zbh oz) oz _ hv) ?_))))))
 rintro _ B6 _ hle6 ⟨rfl,l6,rfl,hv6⟩
 refine tL2 (Zc (xM (h:=xA (h:=ZA ?_))))
 rw [← ZdK g.2.1 g.1 (2*g.1+1)]
 have h5:hat g.2.1 (2*g.1+1)<hat g.2.1 g.1:=by simpa using g5
 exact ZD (2*g.1+1,(swp g.2.1 g.1 (2*g.1+1)),l6) [0,1] (so) ⟨rfl,by have:=ZdK g.2.1 g.1 (2*g.1+1);simp only [];omega,(ZgE oz oz).trans hp,ZjH oz oz oz oz hb (by intro k h0 hk he;(try simp only [decide_eq_true_eq,decide_eq_false_iff_not,Bool.not_eq_true',Bool.not_eq_false',Int.not_lt] at *);rcases (show k=2*g.1+1∨k=2*g.1+1+1 from by omega) with rfl | rfl <;> omega) h5,(fun k hk=>by rw [Zfq oz oz,if_neg oz,if_neg oz];exact hs k hk),hv6⟩ t5 rfl
 try simp only [sQ,ne_eq] at g3
 refine xP (h:=xP (h:=xP (h:=xP (h:=xF (h:=Zb (t:=false) rfl (fun h=>Bool.noConfusion h) (fun _=>wSk (Zg (Za (xM (h:=xM (h:=xM (h:=Zn (Zf2 1 rfl rfl rfl ZrN rfl rfl (ZbI Zew Tryz.underlying184 ZfN (atL 0 rfl rfl rfl)) (ZaM.borrow fun hm7=>ZgX _ _ _ _ _ _ _ (Zbh oz) (Zbh oz) _ (hv.lend Zcf.mono hm7 om)) ?_)))))))))))))
 refine xN (h:=Zb rfl (fun g5=>?_) (fun g5=>?_))
 try simp only [sQ,ne_eq] at g5
 refine ZS (Zae (ZfF rfl (ZX (ZI (Zj (Za (xM (h:=xM (h:=Zbp (h:=xA (h:=Zd ?_)))))))))))
 exact eN [0,1] rfl t1 ⟨rfl,_,_,rfl,hv,hp,ZjI hb (by intro k h0 hk he;(try simp only [decide_eq_true_eq,decide_eq_false_iff_not,Bool.not_eq_true',Bool.not_eq_false',Int.not_lt] at *);rcases (show k=2*g.1+1∨k=2*g.1+1+1 from by omega) with rfl | rfl <;> omega),hs⟩
 try simp only [sQ,ne_eq] at g5
 refine wSk (Za (xM (h:=xM (h:=xM (h:=Zn (ZhI [1] rfl rfl rfl rfl ZrM rfl rfl (ZbI Zev Tryz.underlying184 ZfN (atL 0 rfl rfl rfl)) (ZgW _ _ _ _ _ _ _ _ (Zbh oz) (Zbh oz) oz _ hv) ?_))))))
 rintro _ B8 _ hle8 ⟨rfl,l8,rfl,hv8⟩
 refine tL2 (Zc (xM (h:=xA (h:=ZA ?_))))
 rw [← ZdK g.2.1 g.1 (2*g.1+1)]
 have h5:hat g.2.1 (2*g.1+1)<hat g.2.1 g.1:=by simpa using g5
 exact ZD (2*g.1+1,(swp g.2.1 g.1 (2*g.1+1)),l8) [0,1] (so) ⟨rfl,by have:=ZdK g.2.1 g.1 (2*g.1+1);simp only [];omega,(ZgE oz oz).trans hp,ZjH oz oz oz oz hb (by intro k h0 hk he;(try simp only [decide_eq_true_eq,decide_eq_false_iff_not,Bool.not_eq_true',Bool.not_eq_false',Int.not_lt] at *);rcases (show k=2*g.1+1∨k=2*g.1+1+1 from by omega) with rfl | rfl <;> omega) h5,(fun k hk=>by rw [Zfq oz oz,if_neg oz,if_neg oz];exact hs k hk),hv8⟩ t5 rfl

theorem Zrm (b:Nat) (q:Option Addr) (cp:Nat) (xs:List Int) (l:Cells) (hm0:0<xs.length) (hn:xs.length≤2000000) (hh:ZdW xs) (B:Kn) (hv:ZY B l q cp 3 1 Zcf xs):Zv (pj J) 123 [.iface 184 (ptr ⟨b,0,none⟩)] B [Zah b [.slice q xs.length cp] 186,l] (fun v B' Ls=>B'=B∧v = .iface 3 (.int .i64 (hat xs 0))∧∃ys l',Ls=[Zah b [.slice q ys.length cp] 186,l']∧ZY B l' q cp 3 1 Zcf ys∧(hat xs 0 :: ys).Perm xs∧ZdW ys):=by
 refine cB 15 Tryz.func123 (h:=?_)
 refine Za (xA (h:=Za (xM (h:=Zn (Zf2 1 rfl rfl rfl ZwO rfl rfl (ZbI Zme Tryz.underlying184 ZfN (atL 0 rfl rfl rfl)) (ZaM.borrow fun hm1=>Zrk _ _ _ _) (Zn (ZjX (r:=((xs.length - 1:Nat):Int)) rfl rfl rfl rfl ((congrArg _ (show _=((xs.length - 1:Nat):Int) from by omega)).trans (Za9 oz oz)) ?_)))))))
 refine xA (h:=Za (xM (h:=xM (h:=Zn (ZhI [1] rfl rfl rfl rfl ZrM rfl rfl (ZbI Zev Tryz.underlying184 ZfN (atL 0 rfl rfl rfl)) (ZgW _ _ _ _ _ _ _ _ (Zbh oz) (Zbh oz) oz _ hv) ?_)))))
 rintro _ Bs _ hles ⟨rfl,ls,rfl,hvs⟩
 refine tL2 ?_
 obtain ⟨zs,hzs,hzl⟩ :∃zs,zs=swp xs 0 (xs.length - 1)∧zs.length=xs.length:=⟨_,rfl,ZdK _ _ _⟩
 have hzz:=hvs
 change ZY _ _ _ _ _ _ _ (swp xs 0 (xs.length - 1)) at hzz
 rw [← hzs] at hzz
 have hdb:ZfC zs (zs.length - 1) 0:=by rw [hzl,hzs];exact ZuF hh hm0
 have hlz:hat zs (zs.length - 1)=hat xs 0:=by rw [hzl,hzs];exact ZsA hm0
 have hpz:zs.Perm xs:=hzs ▸ ZgE hm0 oz
 rw [← hzl]
 refine Za (xM (h:=xM (h:=xK [0,1] rfl Zyn rfl (ZpI _ _ _ _ _ _ oz oz oz hdb _ hzz) (h:=?_))))
 rintro _ Bd _ hled ⟨rfl,ysd,ld,rfl,hvd,hpd,hhd,hsd⟩
 refine tL2 ?_
 have hdl:=hpd.length_eq
 refine Za (xM (h:=Zn (ZhI [0,1] rfl rfl rfl rfl Zx4 rfl rfl (ZmB Zq4 Tryz.underlying184) (Zu1 _ _ _ _ _ _ (Zbh oz) oz _ hvd) ?_)))
 rintro _ Bo _ hleo ⟨rfl,rfl,rfl,hvo⟩
 refine xA (h:=tL2 (Zd ?_))
 have hz9:hat ysd (ysd.length - 1)=hat xs 0:=by rw [hsd _ oz,hdl];exact hlz
 exact Zas .ret (.inl rfl) [_] [0,1] rfl ⟨rfl,trivial⟩ ⟨rfl,by rw [hz9];rfl,_,_,by rw [show (ysd.take (ysd.length - 1)).length=ysd.length - 1 from by simp],hvo,ZsN (by omega) (hpd.trans hpz) hz9,ZpH (by rw [hdl];exact hhd) (by omega)⟩

theorem ZnE (q:Option Addr) (cp:Nat) (xs:List DItem) (last:Int) (B:Kn) (ha:SlK B q cp 4 Zw xs):ZaM (pj J) 86 [.slice q xs.length cp,.int .i64 last] B (.bool (asc 0 last (xs.map (·.id)))):=by
 refine cB 53 Tryz.func86 (h:=?_)
 have hxn:=ha.len
 refine Za (xA (h:=Za (xBs [] [] Tryz.underlying185 sz3 zo3 (h:=fun b1=>xBx [_] (h:=fun b2=>xA (h:=tL2 (Zg (Za (xM (h:=xV Tryz.underlying25 (h:=xM (h:=Zl (ZO (α:=Gh Int) [0,1,4,5,14,15] (fun g=>[(16,.int .i64 g.k)]) [0,1] (fun g=>[g.l,Zah b2 [.slice g.a g.xs.length g.c] 186]) (fun g Bx=>Bx=B∧g.k≤xs.length∧g.xs.Perm ((xs.take g.k).map (·.id))∧ZdW g.xs∧ZY Bx g.l g.a g.c 3 1 Zcf g.xs) (fun g=>xs.length - g.k) ⟨0,0,_,_,_,[]⟩ t1 rfl (⟨rfl,Nat.zero_le _,.refl _,Zth,.lit0⟩) (fun g B3 hle3 hI=>?_))))))))))))))
 obtain ⟨rfl,hk,hp,hh,hv⟩:=hI
 have hpl:=hp.length_eq
 rw [List.length_map,List.length_take] at hpl
 refine ZM [(0,_),(1,_),(4,_),(5,_),(14,_),(15,_),(16,_)] [_,_] t7 rfl (Za (Zaf (h:=Zg (Zb rfl (fun g1=>?_) (fun g1=>?_)))))
 try simp only [sQ,ne_eq] at g1
 refine wSk (Zg (Zl (Za ?_)))
 obtain ⟨x,hx⟩:=Zag (xs:=xs) (i:=g.k) om
 obtain ⟨bb5,oo5,rfl⟩:=ha.base hx
 obtain ⟨_,⟨qi6,ci6,rfl,hi6,hb6,hb6b⟩,hc6⟩:=ha.elem hx
 have hi6n:=hi6.len
 refine xIx Tryz.underlying25 Zdf (h:=yL [_,_,_,_] Zh4 hc6 0 (h:=xAl [_,_,_,_] Zgw (h:=fun b7=>xS [_,_,_,_] 2 [_,_,_,_] Zdf (h:=tL3 (Zc (xM (h:=Zn (ZeL rfl rfl Tryz.underlying184 rfl rfl (xW Zdi (h:=x1 lk3 2 (h:=Zn (ZeL rfl rfl Tryz.underlying3 rfl rfl (xK [1,0] rfl ZyA rfl (ZpG _ _ _ _ _ _ oz hh _ hv) (h:=?_))))))))))))))
 rintro _ Bp _ hlep ⟨rfl,qp,cp,ysp,lp,rfl,hvp,hpp,hhp⟩
 refine ZA (Zj (Zc (xD (h:=xM (h:=?_)))))
 exact ZD ⟨g.k+1,0,lp,_,_,ysp⟩ [0,1] so2 ⟨rfl,so,by simp only [];rw [Zay hx,List.map_append];exact hpp.trans (hp.append_right _),hhp,hvp⟩ t7 rfl
 try simp only [sQ,ne_eq] at g1
 have hxe:xs.take g.k=xs:=List.take_of_length_le oz
 rw [hxe] at hp
 refine ZS (Zae (ZX (ZI (Zj (Za (xA (h:=Zg (Za (xM (h:=xV Tryz.underlying25 (h:=xM (h:=Zl (ZO (α:=Gh2 Int Int) [0,1,5,14,15,16,17,27,28] (fun h=>[(8,.int .i64 h.e),(29,.int .i64 h.k)]) [0,1] (fun h=>[h.l,Zah b2 [.slice h.a h.xs.length h.c] 186]) (fun h Bx=>Bx=B3∧h.k≤xs.length∧h.xs.Perm ((xs.drop h.k).map (·.id))∧ZdW h.xs∧asc 0 last (xs.map (·.id))=asc h.e last ((xs.drop h.k).map (·.id))∧ZY Bx h.l h.a h.c 3 1 Zcf h.xs) (fun h=>xs.length - h.k) ⟨0,0,g.l,g.a,g.c,g.xs,0⟩ t2 rfl (⟨rfl,Nat.zero_le _,hp,hh,rfl,hv⟩) (fun h B9 hle9 hI=>?_))))))))))))))
 clear hv hp hpl hh
 obtain ⟨rfl,hk,hp,hh,hs,hv⟩:=hI
 have hpl:=hp.length_eq
 rw [List.length_map,List.length_drop] at hpl
 refine ZM [(0,_),(1,_),(5,_),(8,_),(14,_),(15,_),(16,_),(17,_),(27,_),(28,_),(29,_)] [_,_] t11 rfl (Za (Zaf (h:=Zg (Zb rfl (fun g2=>?_) (fun g2=>?_)))))
 try simp only [sQ,ne_eq] at g2
 refine wSk (Zg (Zl (Za ?_)))
 obtain ⟨x,hx⟩:=Zag (xs:=xs) (i:=h.k) om
 obtain ⟨bb11,oo11,rfl⟩:=ha.base hx
 obtain ⟨_,⟨qi12,ci12,rfl,hi12,hb12,hb12b⟩,hc12⟩:=ha.elem hx
 have hi12n:=hi12.len
 refine xIx Tryz.underlying25 Zdf (h:=?_)
 rw [Zlr hx,List.map_cons] at hp hs
 refine yL [_,_,_,_] Zh4 hc12 0 (h:=xAl [_,_,_,_] Zgw (h:=fun b13=>xS [_,_,_,_] 2 [_,_,_,_] Zdf (h:=tL3 (Za (xM (h:=Zn (ZeL rfl rfl Tryz.underlying184 rfl rfl (xK [1,0] rfl Zyz rfl (Zrm _ _ _ _ _ oz oz hh _ hv) (h:=?_)))))))))
 rintro _ Bo _ hleo ⟨rfl,rfl,yso,lo,rfl,hvo,hpo,hho⟩
 refine Zn (ZlJ rfl rfl Tryz.underlying3 rfl rfl (xA (h:=tL3 (Zg (Za (xM (h:=xW Zdi (h:=x1 lk3 2 (h:=Zbm (h:=xM (h:=Zo (d:=41) rfl (fun g3=>?_) (fun g3=>?_))))))))))))
 try simp only [sQ,ne_eq] at g3
 refine xP (h:=xP (h:=xP (h:=xT (h:=xM (h:=xP (h:=xP (h:=xP (h:=xT (h:=Zb (t:=true) rfl (fun _=>Za (xA (h:=Zd (Zp (ZH (Zp (Z3 (ZH (Zp ?_))))))))) (fun h=>Bool.noConfusion h))))))))))
 exact eR t1 ⟨Zh (by rw [hs];exact ZtH hp hh (by simpa using g3)),rfl,rfl⟩
 try simp only [sQ,ne_eq] at g3
 refine xM (h:=xM (h:=ZcU (h:=xF (h:=xM (h:=Zo (d:=46) rfl (fun g4=>?_) (fun g4=>?_))))))
 try simp only [sQ,ne_eq] at g4
 refine xP (h:=xP (h:=xP (h:=xT (h:=Zb (t:=true) rfl (fun _=>Za (xA (h:=Zd (Zp (ZH (Zp (Z3 (ZH (Zp ?_))))))))) (fun h=>Bool.noConfusion h)))))
 exact eR t1 ⟨Zh (by rw [hs];exact ZtG (by rw [← g3];simpa using g4)),rfl,rfl⟩
 try simp only [sQ,ne_eq] at g4
 refine xM (h:=xM (h:=Zbp (h:=xF (h:=Zb rfl (fun g5=>?_) (fun g5=>?_)))))
 try simp only [sQ,ne_eq] at g5
 refine Za (xA (h:=Zd (Zp (ZH (Zp (Z3 (ZH (Zp ?_))))))))
 exact eR t1 ⟨Zh (by rw [hs];exact ZtF (by rw [← g3];simpa using g5)),rfl,rfl⟩
 try simp only [sQ,ne_eq] at g5
 refine wSk (Zc (xM (h:=xA (h:=ZA (Zj (Zc (xD (h:=xM (h:=?_)))))))))
 exact ZD ⟨h.k+1,0,lo,_,_,yso,hat h.xs 0⟩ [0,1] so2 ⟨rfl,so,List.Perm.cons_inv ((show (x.id :: yso).Perm (hat h.xs 0 :: yso) from by rw [g3]).trans (hpo.trans hp)),hho,by simp only [];rw [hs,g3];exact Zw3 (by rw [← g3];simpa using g4) (by rw [← g3];simpa using g5),hvo⟩ t11 rfl
 try simp only [sQ,ne_eq] at g2
 rw [ZrT oz,List.map_nil,asc] at hs
 refine ZS (Zae (ZX (ZI (Zj (Za (xA (h:=Zd ?_)))))))
 exact eR t1 ⟨Zh hs.symm,rfl,rfl⟩

theorem Zjb (aq:Option Addr) (cq:Nat) (q:DQueue) (B:Kn) (hq:SlK B aq cq 4 Zw q.items):ZaM (pj J) 36 [.agg #[.int .i64 q.next,.slice aq q.items.length cq]] B (.bool (Zab q)):=by
 refine cB 42 Tryz.func36 (h:=?_)
 have hqn:=hq.len
 refine Za (xBx [_,_] (h:=fun b1=>xA (h:=tL1 (Zg (Za (xW Zan (h:=x1 Zej 0 (h:=xV Tryz.underlying25 (h:=Zbp (h:=xM (h:=Zo (d:=9) rfl (fun g1=>?_) (fun g1=>?_))))))))))))
 try simp only [sQ,ne_eq] at g1
 refine xP (h:=xP (h:=xP (h:=xT (h:=xM (h:=xP (h:=xP (h:=xP (h:=xT (h:=Zb (t:=true) rfl (fun _=>Za (xA (h:=Zd (Zp ?_)))) (fun h=>Bool.noConfusion h))))))))))
 exact eR t1 ⟨Zh (Zhi oz),rfl,rfl⟩
 try simp only [sQ,ne_eq] at g1
 refine xW Zdk (h:=x1 lk3 0 (h:=Zaf (h:=xF (h:=xM (h:=Zo (d:=14) rfl (fun g2=>?_) (fun g2=>?_))))))
 try simp only [sQ,ne_eq] at g2
 refine xP (h:=xP (h:=xP (h:=xT (h:=Zb (t:=true) rfl (fun _=>Za (xA (h:=Zd (Zp ?_)))) (fun h=>Bool.noConfusion h)))))
 exact eR t1 ⟨Zh (Zhi oz),rfl,rfl⟩
 try simp only [sQ,ne_eq] at g2
 refine xW Zdk (h:=x1 lk3 0 (h:=Zbp (h:=xF (h:=Zb rfl (fun g3=>?_) (fun g3=>?_)))))
 try simp only [sQ,ne_eq] at g3
 refine Za (xA (h:=Zd (Zp ?_)))
 exact eR t1 ⟨Zh (Zhi oz),rfl,rfl⟩
 try simp only [sQ,ne_eq] at g3
 refine wSk (Zg (Za (xW Zan (h:=x1 Zej 0 (h:=xV Tryz.underlying25 (h:=xM (h:=Zl (ZO (α:=Nat) [0,1,18,20,21] (fun k=>[(22,.int .i64 k)]) [] (fun k=>[]) (fun k Bx=>Bx=B∧k≤q.items.length∧(q.items.take k).all ZcL=true) (fun k=>q.items.length - k) 0 t1 rfl (⟨rfl,Nat.zero_le _,by simp⟩) (fun k B2 hle2 hI=>?_)))))))))
 obtain ⟨rfl,hk,ha⟩:=hI
 refine ZM [(0,_),(1,_),(18,_),(20,_),(21,_),(22,_)] [_] t6 rfl (Za (Zaf (h:=Zg (Zb rfl (fun g4=>?_) (fun g4=>?_)))))
 try simp only [sQ,ne_eq] at g4
 refine wSk (Zg (Zl (Za ?_)))
 obtain ⟨x,hx⟩:=Zag (xs:=q.items) (i:=k) om
 obtain ⟨bb4,oo4,rfl⟩:=hq.base hx
 obtain ⟨_,⟨qi5,ci5,rfl,hi5,hb5,hb5b⟩,hc5⟩:=hq.elem hx
 have hi5n:=hi5.len
 refine xIx Tryz.underlying25 Zdf (h:=yL [_,_,_,_] Zh4 hc5 0 (h:=xAl [_,_,_,_] Zgw (h:=fun b6=>xS [_,_,_,_] 1 [_,_,_,_] Zdf (h:=tL2 (Za (xW ZkG (h:=x1 lk9 1 (h:=xW ZaO (h:=x1 Ze9 1 (h:=xW ZkF (h:=x1 lk9 1 (h:=xB [(0,_),(1,_),(2,_)] [_,_,_] [_,_,_] ZsQ ZoS (h:=xR ZzA rfl (Zmr _ _ ⟨x.fr,x.left,x.text⟩ _ hi5 oa oa) (h:=?_))))))))))))))
 refine xN (h:=Zb rfl (fun g5=>?_) (fun g5=>?_))
 try simp only [sQ,ne_eq] at g5
 refine Za (xA (h:=Zd (ZH (Zp (Z3 (ZH (Zp ?_)))))))
 exact eR t1 ⟨Zh (Znp hx g5),rfl,rfl⟩
 try simp only [sQ,ne_eq] at g5
 refine ZL (ZA (Zj (Zc (xD (h:=xM (h:=?_))))))
 exact ZD (k+1) [0] so2 ⟨rfl,oz,Zw4 hx g5 ha⟩ t6 rfl
 try simp only [sQ,ne_eq] at g4
 refine ZS (Zae (ZX (ZI (Zj (Za (xW Zan (h:=x1 Zej 0 (h:=xW Zdk (h:=x1 lk3 0 (h:=xU (h:=xR Zzz rfl (ZnE _ _ _ _ _ hq) (h:=xA (h:=Zd ?_)))))))))))))
 exact eR t1 ⟨Zh (Zno oz ha oz oz oz),rfl,rfl⟩

theorem ZrX (p:Option Addr) (c:Nat) (xs:List Str) (l:Cells) (i:Nat) (hi:i<xs.length) (hn:xs.length≤2000000) (BV B:Kn) (hv:ZY BV l p c 9 1 Zbv xs):Zv (pj J) 40 [.slice p xs.length c,.int .i64 i,.int .i64 ((i:Int)+1)] B [l] (fun v B' Ls=>B'=B∧∃l',Ls=[l']∧v = .slice p (xs.take i ++ xs.drop (i+1)).length c∧ZY BV l' p c 9 1 Zbv (xs.take i ++ xs.drop (i+1))):=by
 refine cB 33 Tryz.func40 (h:=?_)
 obtain ⟨rows,hr1,hr2,hr3,⟨rfl,hn0,_⟩ | ⟨b,arr,rfl,ha,ht,rfl,hmc⟩⟩:=hv
 omega
 have hv1:Value.slice (if c=0 then some ⟨b,0,none⟩ else (some ⟨b,0,none⟩:Option Addr).map (·.add (0*1))) (i - 0) (c - 0) = .slice (some ⟨b,0,none⟩) i c:=by split <;> simp [Addr.add_off ⟨b,0,none⟩ _ rfl]
 have hrl:=hr1.len
 have hrf:=Zc5 hr2
 have hws:((arr.take xs.length).drop (i+1)).length=(xs.length - (i+1))*1:=by rw [List.length_drop,List.length_take];omega
 have hel:(xs.take i ++ xs.drop (i+1)).length=i+(xs.length - (i+1)):=by rw [List.length_append,List.length_take,List.length_drop];omega
 refine Za (xA (h:=Za (xM (h:=xM (h:=xM (h:=xM (h:=xV Tryz.underlying62 (h:=Zn (Zss (a:=i) (b:=i+1) (m:=xs.length) rfl rfl Tryz.underlying62 sz9 rfl ⟨_,_,rfl,rfl⟩ ⟨_,_,rfl,oz⟩ ⟨_,_,rfl,rfl⟩ oz oz hmc (fun v9=>?_))))))))))
 refine Zg (Za (xM (h:=xM (h:=ZE (h:=Zb rfl (fun g1=>by have:=of_decide_eq_true g1;omega) (fun g1=>?_))))))
 try simp only [sQ,ne_eq] at g1
 refine wSk (Za (xM (h:=xV Tryz.underlying62 (h:=xA (h:=Zg (Z0 (keeps _ [] _) mo kr ⟨Kn.le.refl _,Zad.refl _ _⟩ (fun _ _=>?_)))))))
 refine aM 0 rfl (h:=aM 1 rfl (h:=aT 2 rfl (ZB fun D B L hI=>ZfQ (a:=0) (b:=i) hv1 oz oz rfl rfl Tryz.underlying62 sz9 rfl rfl ⟨_,_,rfl,rfl⟩ r4) (h:=?_)))
 refine aM 3 rfl (h:=aM 4 rfl (h:=aT 5 rfl (ZB fun D B L hI=>ZeK rfl rfl Tryz.underlying62 sz9 rfl (a:=i+1) (b:=xs.length) ⟨_,_,rfl,oz⟩ rfl oz oz r4) (h:=?_)))
 refine Zq 6 kr rfl kr (Zur (ws:=(arr.take xs.length).drop (i+1)) (d:=xs.length - (i+1)) 0 rfl ha rfl rfl ZoI Zoc rfl rfl (Zuz oz hmc oz) hws (ZuL hr1 ht) oz ?_)
 refine ⟨⟨Kn.le.refl _,trivial⟩,(aA 7 rfl (h:=Zz kr kr ?_))⟩
 refine Zj (tL1 (Za (xM (h:=xM (h:=xV Tryz.underlying62 (h:=xM (h:=Zn (ZfQ (a:=i+(xs.length - (i+1))) (b:=xs.length) (v:=.slice (some ⟨b,i+(xs.length - (i+1)),none⟩) 1 (c - (i+(xs.length - (i+1))))) (by rw [if_neg oz];simp [Addr.add_off ⟨b,0,none⟩ _ rfl];omega) oz oz rfl rfl Tryz.underlying62 sz9 rfl ⟨_,_,rfl,rfl⟩ ⟨_,_,rfl,rfl⟩ ?_))))))))
 refine Zn (Zum (d:=1) (sz:=1) 0 rfl rfl rfl Tryz.underlying62 sz9 ⟨_,zo9,rfl,rfl⟩ rfl (fun _=>rfl) (by rw [Zal,ha];omega) (fun zs hzs=>?_))
 refine tL1 (Za (xM (h:=xA (h:=Zd ?_))))
 exact Zas .ret (.inl rfl) [_] [0] rfl ⟨rfl,trivial⟩ ⟨rfl,_,rfl,by rw [hel];rfl,ZY.del hr1 hr2 ha (by rw [ht]) hi hmc rfl⟩

theorem Zdz (aq:Option Addr) (cq:Nat) (q:DQueue) (id:Int) (u:Str) (B:Kn) (hq:SlK B aq cq 4 Zw q.items):Zv (pj J) 11 [.agg #[.int .i64 q.next,.slice aq q.items.length cq],.int .i64 id,str u] B [] (fun v B' Ls=>(∃l a cp,Ls=[l]∧v = .tuple #[.agg #[.int .i64 (Zac q id u).1.next,.slice a (Zac q id u).1.items.length cp],str (Zac q id u).2.1,.bool (Zac q id u).2.2]∧ZcD l a cp 64 4 (Zb3 9) (Zac q id u).1.items∧(Zac q id u).2.1.length≤2000000)):=by
 refine cB 95 Tryz.func11 (h:=?_)
 have hqn:=hq.len
 refine Za (xBx [_,_] (h:=fun b1=>xAl [_,_] ZfL (h:=fun b2=>xA (h:=xA (h:=tL2 (Zg (Za (xL [_,_] Zb4 0 (h:=xR Zzc rfl (Zjb _ _ q _ hq) (h:=xN (h:=Zb rfl (fun g1=>?_) (fun g1=>?_))))))))))))
 try simp only [sQ,ne_eq] at g1
 refine Za (xB [] [_,_] [_,_] ZsP ZfL (h:=xS [_,_] 1 [_,_] Zdg (h:=xA (h:=xA (h:=tL2 (Zd (Zp ?_)))))))
 have he:Zac q id u=(⟨0,[]⟩,[],false):=by simp [Zac,g1]
 exact Zt8 .ret (.inl rfl) [_,_,_] ⟨⟨_,rfl,.inr ⟨[_,_],Zb4,Z9 1 rfl rfl rfl,rfl⟩⟩,rfl,rfl,trivial⟩ ⟨_,none,0,rfl,by rw [he];rfl,by rw [he];exact ZcD.nil,by rw [he];exact Nat.zero_le _⟩
 try simp only [sQ,ne_eq] at g1
 have hqb:=Zcy g1
 refine wSk (Za (xL [_,_] Zb4 0 (h:=xC Zzb rfl (ZiQ _ _ q _ hq) (h:=?_))))
 rintro _ Bz _ hlez ⟨slz,rfl,hlz⟩
 replace hq:=up1 hlez hq
 obtain ⟨p0,rfl⟩:=hlz.ptr
 refine xAl [_] ZyT (h:=fun b5=>xS [_] 3 [_] ZxF (h:=tL4 (Zxv (tL5 (Za (xA (h:=Zg (Zl (ZO (α:=QTk) [0,1,2,3,6,7,8,9,16] (fun g=>[(10,ptr ⟨g.bl,g.o,none⟩)]) [2,3,4] (fun g=>[g.cells,Zah g.bl g.cs g.Tc,g.rest]) (fun g Bx=>Bx=Bz∧g.pre ++ g.xs=q.items∧Zn3 9 83 79 b5 g.bl g.o g.cs g.Tc g.rest g.pre∧g.cs[g.o]? = some (.pointer g.p)∧ZfO 9 83 (.pointer g.p) g.xs g.cells∧(∀y,y∈g.pre→y.id≠id)) (fun g=>g.xs.length) ⟨[],q.items,p0,b5,0,[.pointer p0],79,[],_⟩ t1 rfl (⟨rfl,rfl,.init,rfl,hlz,(fun _ h=>by cases h)⟩) (fun g B6 hle6 hI=>?_))))))))))
 obtain ⟨rfl,hxs,hlk,hcs,hl,hpre⟩:=hI
 refine ZM [(0,_),(1,_),(2,_),(3,_),(6,_),(7,_),(8,_),(9,_),(10,_),(16,_)] [_,_,_,_,_] t10 rfl (Zg (Za (xM (h:=xNc (h:=Zn (Zf rfl rfl Zpo rfl (atL 3 rfl rfl hcs) (Zn (Zqg rfl rfl rfl rfl rfl (ZeW Tryz.underlying79) (xM (h:=Zo (d:=24) rfl (fun g2=>?_) (fun g2=>?_)))))))))))
 try simp only [sQ,ne_eq] at g2
 obtain ⟨y,ys,b8,q8,c8,np,ins8,rest8,hp8,hrest,hperm,hy5,hy6,hy7,hy8,hl8⟩:=hl.more (by simpa using g2)
 rw [hp8] at hcs ⊢
 have hys:g.pre ++ y :: ys=q.items:=by rw [← hrest];exact hxs
 have hlen:=congrArg List.length hys
 rw [List.length_append,List.length_cons] at hlen
 have hset:=ZsD hcs
 have hcl:=ZbH hcs
 have hy5k:=hy5.anyK (B':=B6) Zbv.any
 refine ZqS 2 rfl hperm (xM (h:=xNc (h:=Zn (Zf rfl rfl Zpo rfl (atL 3 rfl rfl hcs) (xNc (h:=xW Zrz (h:=xW Zdi (h:=x1 lk3 2 (h:=xM (h:=Zbm (h:=xT (h:=tL7 (Zb rfl (fun g3=>?_) (fun g3=>?_))))))))))))))
 try simp only [sQ,ne_eq] at g3
 refine wSk (Zl (Zc (xM (h:=xNc (h:=Zn (Zf rfl rfl Zpo rfl (atL 3 rfl rfl hcs) (xNc (h:=xW Zry (h:=xA (h:=ZA ?_))))))))))
 have hset2:g.cs.set g.o (ptr ⟨b8,0,none⟩)=g.cs:=hset
 refine ⟨⟨g.pre ++ [y],ys,np,b8,4,_,83,g.rest ++ (Zah g.bl (g.cs.set g.o (ptr ⟨b8,0,none⟩)) g.Tc ++ ins8),rest8⟩,by simp only [];rw [hrest];simp,⟨rfl,by simpa using hys,Zn3.step (row:=[.int .i64 y.id,str y.fr,str y.text,.slice q8 y.left.length c8]) (np:=.pointer np) hlk rfl ⟨_,_,rfl,hy5,hy6,hy7,hy8⟩,rfl,hl8,fun z hz=>?_⟩,t10,⟨[],?_⟩,rfl⟩
 rcases List.mem_append.1 hz with hz | hz
 · exact hpre z hz
 · rw [List.mem_singleton.1 hz];exact g3
 rw [hset2]
 exact Zma fun f g9 h0 ha hc=>by simp only [Zer,List.set_cons_succ,List.set_cons_zero,List.flatten_cons,List.flatten_nil,List.append_nil,List.cons_append,List.nil_append,Zah,Addr.add_blk,ha,hc,h0];try omega
 try simp only [sQ,ne_eq] at g3
 refine ZS (Zae (ZX (ZI (Zj (Zg (Za (xM (h:=xNc (h:=Zn (Zf rfl rfl Zpo rfl (atL 3 rfl rfl hcs) (Zn (ZlI rfl rfl rfl rfl rfl (ZeW Tryz.underlying79) (Zb rfl (fun g4=>by cases g4) (fun g4=>?_))))))))))))))
 try simp only [sQ,ne_eq] at g4
 refine wSk (Za (xM (h:=xNc (h:=Zn (Zf rfl rfl Zpo rfl (atL 3 rfl rfl hcs) (xNc (h:=xW Zrz (h:=xA (h:=Zg (Z0 (keeps _ [2] _) mo kr ⟨Kn.le.refl _,Zad.refl _ _⟩ (fun _ _=>?_)))))))))))
 refine aM 0 rfl (h:=aNc 1 rfl (h:=aW 2 rfl ZkF (h:=aT 3 rfl (ZB fun D B L hI=>Zf rfl rfl lk9 rfl (atL 2 (hI.2.1.trans rfl) rfl rfl) r4) (h:=aM 4 rfl (h:=aNc 5 rfl (h:=aW 6 rfl ZaO (h:=aT 7 rfl (ZB fun D B L hI=>Zf rfl rfl Ze9 rfl (atL 2 (hI.2.1.trans rfl) rfl rfl) r4) (h:=aM 8 rfl (h:=Zq 9 kr rfl kr (ZhH 5 rfl rfl rfl Zza rfl (ZaM.borrow fun hm7=>Zrg _ _ _ _ _ (hy5k.lend Zbv.mono hm7 om)) ?_))))))))))
 refine ⟨⟨Kn.le.refl _,t1⟩,(aA 10 rfl (h:=aA 11 rfl (h:=Zz kr kr ?_)))⟩
 refine Zj (Zg (Za (xM (h:=Zaf (h:=Zb rfl (fun g5=>?_) (fun g5=>?_))))))
 try simp only [sQ,ne_eq] at g5
 refine Za (xL [_,_] Zb4 0 (h:=xC Zx1 rfl (Zfh _ _ q _ hq) (h:=?_)))
 rintro _ Bw _ hlew ⟨lw,qw,cw,rfl,rfl,hdw⟩
 replace hq:=hq.mono Zw.mono hlew
 replace hy5k:=hy5k.mono Zbv.mono hlew
 refine xS [_,_] 1 [_,_] Zdg (h:=xA (h:=xA (h:=tL8 (Zd (Zp ?_)))))
 have hnu : ¬ u∈y.left:=fun h=>absurd (Zoz.2 h) oz
 have he:Zac q id u=(q,[],false):=by rw [← g3];exact ZoY g1 hys hnu
 exact Zas .ret (.inl rfl) [_,_,_] [7] rfl ⟨⟨_,rfl,.inr ⟨[_,_],Zb4,Z9 1 rfl rfl rfl,rfl⟩⟩,rfl,rfl,trivial⟩ ⟨_,_,_,rfl,by rw [he];rfl,by rw [he];exact hdw,by rw [he];exact Nat.zero_le _⟩
 try simp only [sQ,ne_eq] at g5
 obtain ⟨k,hke,hkg⟩:=Ztf oz
 rw [hke]
 have hkl:=ZbH hkg
 have hy9:y∈q.items:=by rw [← hys];simp
 have hw:=Ziu (Zgh (Zc8 g1 hy9)).2 hkg
 have hwn:(without y.left u).length=y.left.length - 1:=by rw [hw,List.length_append,List.length_take,List.length_drop];omega
 have hdn:(y.left.take k ++ y.left.drop (k+1)).length=y.left.length - 1:=by rw [← hw];exact hwn
 refine wSk (Za (xM (h:=xM (h:=xNc (h:=xW ZaO (h:=x1 Ze9 2 (h:=xM (h:=xM (h:=xD (h:=xK [5] rfl ZzY rfl (ZrX _ _ _ _ _ oz oz _ _ hy5k) (h:=?_)))))))))))
 rintro _ Be _ hlee ⟨rfl,le,rfl,rfl,hve⟩
 refine xNc (h:=xW ZaO (h:=xS [_] 2 [_,_,_,_,_] Zux (h:=tL7 (Zg (Za (xM (h:=xNc (h:=xW ZaO (h:=x1 Ze9 2 (h:=xV Tryz.underlying62 (h:=ZE (h:=Zb rfl (fun g6=>?_) (fun g6=>?_)))))))))))))
 try simp only [sQ,ne_eq] at g6
 refine Zc (xM (h:=xM (h:=xNc (h:=Zn (Zf rfl rfl Zpo rfl (atL 3 rfl rfl hcs) (xNc (h:=xW Zry (h:=x1 Zpo 2 (h:=xNc (h:=Zn (ZF [_] 3 (g.cs.set g.o (.pointer np)) rfl rfl ZxF rfl rfl rfl rfl rfl rfl (by rw [Nat.ble_eq];exact hcl) (ZqI hcl) ?_)))))))))))
 refine Zj ?_
 obtain ⟨v0,s0,hl0,hp0⟩:=hlk (.pointer np) ys rest8 hl8
 refine ZyU [3,4,6] (ss':=[Zah b5 [v0] 79,s0,[]]) rfl rfl ((show List.Perm _ _ from Zma fun f g9 h0 ha hc=>by simp only [Zer,List.set_cons_succ,List.set_cons_zero,List.flatten_cons,List.flatten_nil,List.append_nil,List.cons_append,List.nil_append,Zah,Addr.add_blk,ha,hc,h0];try omega).trans (hp0.trans (Zma fun f g9 h0 ha hc=>by simp only [Zer,List.set_cons_succ,List.set_cons_zero,List.flatten_cons,List.flatten_nil,List.append_nil,List.cons_append,List.nil_append,Zah,Addr.add_blk,ha,hc,h0];try omega))) ?_
 refine tL7 ?_
 have hl9:(g.pre ++ ys).length≤2000000:=by simp only [List.length_append,List.length_cons];omega
 refine Za (xW Zdk (h:=x1 lk3 0 (h:=x1 Zpo 3 (h:=xK [4] rfl Zx0 rfl (ZiP _ _ _ _ _ oa hl0) (h:=?_)))))
 rintro _ Bf _ hlef ⟨rfl,ldf,adf,cdf,rfl,rfl,hdf⟩
 refine xM (h:=xS [_,_] 1 [_,_] Zdg (h:=xA (h:=xA (h:=tL7 (Zd ?_)))))
 have he:Zac q id u=(⟨q.next,g.pre ++ ys⟩,y.text,true):=by rw [← g3,Zf6 g1 hys (List.mem_of_getElem? hkg),if_neg oz]
 exact Zas .ret (.inl rfl) [_,_,_] [4] rfl ⟨⟨_,rfl,.inr ⟨[_,_],Zb4,Z9 1 rfl rfl rfl,rfl⟩⟩,rfl,rfl,trivial⟩ ⟨_,_,_,rfl,by rw [he];rfl,by rw [he];exact hdf,by rw [he];exact hy7⟩
 try simp only [sQ,ne_eq] at g6
 obtain ⟨v0,s0,hl0,hp0⟩:=hlk (ptr ⟨b8,0,none⟩) (⟨y.id,y.fr,y.text,y.left.take k ++ y.left.drop (k+1)⟩ :: ys) _ ⟨_,_,_,_,_,rfl,.refl _,⟨_,_,rfl,hve.anyK Zbv.any,hy6,hy7,so⟩,hl8⟩
 rw [hset] at hp0
 refine ZyU [2,3,4,5,6] (ss':=[[],Zah b5 [v0] 79,s0,[],[]]) rfl rfl ((show List.Perm _ _ from Zma fun f g9 h0 ha hc=>by simp only [Zer,List.set_cons_succ,List.set_cons_zero,List.flatten_cons,List.flatten_nil,List.append_nil,List.cons_append,List.nil_append,Zah,Addr.add_blk,ha,hc,h0];try omega).trans (hp0.trans (Zma fun f g9 h0 ha hc=>by simp only [Zer,List.set_cons_succ,List.set_cons_zero,List.flatten_cons,List.flatten_nil,List.append_nil,List.cons_append,List.nil_append,Zah,Addr.add_blk,ha,hc,h0];try omega))) ?_
 refine tL7 ?_
 have hl9:(g.pre ++ (⟨y.id,y.fr,y.text,y.left.take k ++ y.left.drop (k+1)⟩ :: ys)).length≤2000000:=by simp only [List.length_append,List.length_cons];omega
 refine wSk (Za (xW Zdk (h:=x1 lk3 0 (h:=x1 Zpo 3 (h:=xK [4] rfl Zx0 rfl (ZiP _ _ _ _ _ oa hl0) (h:=?_))))))
 rintro _ Bf _ hlef ⟨rfl,ldf,adf,cdf,rfl,rfl,hdf⟩
 refine xM (h:=xS [_,_] 1 [_,_] Zdg (h:=xA (h:=xA (h:=tL7 (Zd ?_)))))
 have he:Zac q id u=(⟨q.next,g.pre ++ (⟨y.id,y.fr,y.text,y.left.take k ++ y.left.drop (k+1)⟩ :: ys)⟩,y.text,true):=by rw [← g3,Zf6 g1 hys (List.mem_of_getElem? hkg),if_pos oz,hw]
 exact Zas .ret (.inl rfl) [_,_,_] [4] rfl ⟨⟨_,rfl,.inr ⟨[_,_],Zb4,Z9 1 rfl rfl rfl,rfl⟩⟩,rfl,rfl,trivial⟩ ⟨_,_,_,rfl,by rw [he];rfl,by rw [he];exact hdf,by rw [he];exact hy7⟩
 try simp only [sQ,ne_eq] at g2
 refine xP (h:=xP (h:=xP (h:=xP (h:=xP (h:=xP (h:=xP (h:=xP (h:=xP (h:=xF (h:=Zb (t:=false) rfl (fun h=>Bool.noConfusion h) (fun _=>ZS (Zae (ZX (ZI (Zj (Zg (Za (xM (h:=xNc (h:=Zn (Zf rfl rfl Zpo rfl (atL 3 rfl rfl hcs) (Zn (ZlI rfl rfl rfl rfl rfl (ZeW Tryz.underlying79) (Zb rfl (fun g4=>?_) (fun g4=>by simp_all)))))))))))))))))))))))))
 try simp only [sQ,ne_eq] at g4
 refine Za (xL [_,_] Zb4 0 (h:=xC Zx1 rfl (Zfh _ _ q _ hq) (h:=?_)))
 rintro _ Bw _ hlew ⟨lw,qw,cw,rfl,rfl,hdw⟩
 refine xS [_,_] 1 [_,_] Zdg (h:=xA (h:=xA (h:=tL6 (Zd (Zp ?_)))))
 have hx0:=hl.done (by simpa using g2)
 rw [hx0,List.append_nil] at hxs
 have he:Zac q id u=(q,[],false):=Zh9 g1 (fun x hx e=>hpre x (hxs ▸ hx) e.1)
 exact Zas .ret (.inl rfl) [_,_,_] [5] rfl ⟨⟨_,rfl,.inr ⟨[_,_],Zb4,Z9 1 rfl rfl rfl,rfl⟩⟩,rfl,rfl,trivial⟩ ⟨_,_,_,rfl,by rw [he];rfl,by rw [he];exact hdw,by rw [he];exact Nat.zero_le _⟩

theorem Zfo (n:Int) (B:Kn):ZaM (pj J) 171 [.int .i64 n] B (.bool (decide (0≤n) && decide (n≤31))):=by
 refine cB 5 Tryz.func171 (h:=?_)
 refine Za (xA (h:=Za (xM (h:=xR ZeF rfl (ZcA _ _ _ _) (h:=xA (h:=Zd ?_))))))
 exact eR t1 ⟨rfl,rfl,rfl⟩

theorem Zjc (n:Int) (B:Kn):ZaM (pj J) 44 [.int .i64 n] B (.bool (decide (0≤n) && decide (n≤31))):=by
 refine cB 9 Tryz.func44 (h:=?_)
 refine Za (xA (h:=Za (xM (h:=Zeo (h:=xM (h:=Zo (d:=5) rfl (fun g1=>?_) (fun g1=>?_)))))))
 refine xM (h:=ZcU (h:=xT (h:=xA (h:=Zd ?_))))
 exact eR t1 ⟨Zh (by rw [Bool.eq_iff_iff];simp [g1];try omega),rfl,rfl⟩
 refine xP (h:=xP (h:=xF (h:=xA (h:=Zd ?_))))
 exact eR t1 ⟨Zh (by rw [Bool.eq_iff_iff];simp [g1];try omega),rfl,rfl⟩

theorem Zre (m:DMail) (hm:m.text.length≤2000000) (B:Kn):ZaM (pj J) 158 [.agg #[.int .i64 m.uid,.int .i64 m.flags,str m.text]] B (.bool (ZbG m)):=by
 refine cB 17 Tryz.func158 (h:=?_)
 refine Za (xBx [_,_,_] (h:=fun b1=>xA (h:=tL1 (Za (xW ZhY (h:=x1 lk3 0 (h:=xR ZeF rfl (ZcA _ _ _ _) (h:=xM (h:=Zo (d:=6) rfl (fun g1=>?_) (fun g1=>?_))))))))))
 refine xW Zjt (h:=x1 lk3 0 (h:=xR ZrP rfl (Zfo _ _) (h:=xT (h:=xM (h:=Zo (d:=11) rfl (fun g2=>?_) (fun g2=>?_))))))
 refine xW ZmC (h:=x1 lk9 0 (h:=xVs Tryz.underlying9 (h:=ZcU (h:=xT (h:=xA (h:=Zd ?_))))))
 exact eR t1 ⟨Zh (by rw [Bool.eq_iff_iff];simp [ZbG,g1,g2];try omega),rfl,rfl⟩
 refine xP (h:=xP (h:=xP (h:=xP (h:=xF (h:=xA (h:=Zd ?_))))))
 exact eR t1 ⟨Zh (by rw [Bool.eq_iff_iff];simp [ZbG,g1,g2];try omega),rfl,rfl⟩
 refine xP (h:=xP (h:=xP (h:=xF (h:=xM (h:=xP (h:=xP (h:=xP (h:=xP (h:=xF (h:=xA (h:=Zd ?_)))))))))))
 exact eR t1 ⟨Zh (by rw [Bool.eq_iff_iff];simp [ZbG,g1];try omega),rfl,rfl⟩

theorem Zpz (m:DMail) (hm:m.text.length≤2000000) (B:Kn):ZaM (pj J) 89 [.agg #[.int .i64 m.uid,.int .i64 m.flags,str m.text]] B (.bool (ZbG m)):=by
 refine cB 22 Tryz.func89 (h:=?_)
 refine Za (xBx [_,_,_] (h:=fun b1=>xA (h:=tL1 (Za (xW ZhY (h:=x1 lk3 0 (h:=Zeo (h:=xM (h:=Zo (d:=6) rfl (fun g1=>?_) (fun g1=>?_))))))))))
 refine xW ZhY (h:=x1 lk3 0 (h:=ZcU (h:=xT (h:=xM (h:=Zo (d:=11) rfl (fun g2=>?_) (fun g2=>?_))))))
 refine xW Zjt (h:=x1 lk3 0 (h:=xR Zy8 rfl (Zjc _ _) (h:=xT (h:=xM (h:=Zo (d:=16) rfl (fun g3=>?_) (fun g3=>?_))))))
 refine xW ZmC (h:=x1 lk9 0 (h:=xVs Tryz.underlying9 (h:=ZcU (h:=xT (h:=xA (h:=Zd ?_))))))
 exact eR t1 ⟨Zh (by rw [Bool.eq_iff_iff];simp [ZbG,g1,g2,g3];try omega),rfl,rfl⟩
 refine xP (h:=xP (h:=xP (h:=xP (h:=xF (h:=xA (h:=Zd ?_))))))
 exact eR t1 ⟨Zh (by rw [Bool.eq_iff_iff];simp [ZbG,g1,g2,g3];try omega),rfl,rfl⟩
 refine xP (h:=xP (h:=xP (h:=xF (h:=xM (h:=xP (h:=xP (h:=xP (h:=xP (h:=xF (h:=xA (h:=Zd ?_)))))))))))
 exact eR t1 ⟨Zh (by rw [Bool.eq_iff_iff];simp [ZbG,g1,g2];try omega),rfl,rfl⟩
 refine xP (h:=xP (h:=xP (h:=xF (h:=xM (h:=xP (h:=xP (h:=xP (h:=xF (h:=xM (h:=xP (h:=xP (h:=xP (h:=xP (h:=xF (h:=xA (h:=Zd ?_))))))))))))))))
 exact eR t1 ⟨Zh (by rw [Bool.eq_iff_iff];simp [ZbG,g1];try omega),rfl,rfl⟩

theorem ZgG (q:Option Addr) (cp:Nat) (x:DBox) (B:Kn) (hx:SlK B q cp 3 ZN x.mail):ZaM (pj J) 117 [.agg #[.int .i64 x.next,.slice q x.mail.length cp]] B (.bool (Zbk x)):=by
 refine cB 46 Tryz.func117 (h:=?_)
 have hxn:=hx.len
 refine Za (xBx [_,_] (h:=fun b1=>xA (h:=tL1 (Za (xA (h:=Zg (Za (xA (h:=Zl (ZO (α:=Nat × Int) [0,1] (fun g=>[(3,.int .i64 g.2),(4,.int .i64 g.1)]) [] (fun g=>[]) (fun g Bx=>Bx=B∧g.1≤x.mail.length∧Zcn (x.mail.take g.1)=(true,g.2)∧0≤g.2∧g.2≤99) (fun g=>x.mail.length - g.1) (0,0) t2 rfl (⟨rfl,Nat.zero_le _,Zff,oz,oz⟩) (fun g B2 hle2 hI=>?_)))))))))))
 obtain ⟨rfl,hk,hs,hl0,hl1⟩:=hI
 refine ZM [(0,_),(1,_),(3,_),(4,_)] [_] t4 rfl (Zg (Za (xM (h:=xW ZaP (h:=x1 Zfl 0 (h:=xV Tryz.underlying38 (h:=Zaf (h:=Zb rfl (fun g1=>?_) (fun g1=>?_)))))))))
 try simp only [sQ,ne_eq] at g1
 refine wSk (Zg (Zl (Zg (Za (xW ZaP (h:=x1 Zfl 0 (h:=xM (h:=?_))))))))
 obtain ⟨m,hm⟩:=Zag (xs:=x.mail) (i:=g.1) om
 obtain ⟨bb4,oo4,rfl⟩:=hx.base hm
 obtain ⟨_,⟨rfl,hb5⟩,hc5⟩:=hx.elem hm
 refine xIx Tryz.underlying38 Zgx (h:=yL [_,_,_] Zpn hc5 0 (h:=xR Zyr rfl (Zre m om2 _) (h:=?_)))
 refine xN (h:=xM (h:=Zo (d:=19) rfl (fun g2=>?_) (fun g2=>?_)))
 try simp only [sQ,ne_eq] at g2
 refine xP (h:=xP (h:=xP (h:=xP (h:=xP (h:=xP (h:=xP (h:=xP (h:=xT (h:=Zb (t:=true) rfl (fun _=>Za (xA (h:=Zd (Zp (ZH (Zp (Z3 (ZH (Zp ?_))))))))) (fun h=>Bool.noConfusion h))))))))))
 exact eR t1 ⟨Zh (Zg7 (Zgd hm (by rw [show (scn ZbU (fun _ m=>m.uid) 0 (x.mail.take g.1)).2=g.2 from congrArg Prod.snd hs];simp [ZbU,g2]))).symm,rfl,rfl⟩
 try simp only [sQ,ne_eq] at g2
 refine xW ZaP (h:=x1 Zfl 0 (h:=xM (h:=xIx Tryz.underlying38 Zgx (h:=xW ZhY (h:=y1 lk3 hc5 0 (h:=xM (h:=ZcU (h:=xF (h:=Zb rfl (fun g3=>?_) (fun g3=>?_))))))))))
 try simp only [sQ,ne_eq] at g3
 refine Za (xA (h:=Zd (Zp (ZH (Zp (Z3 (ZH (Zp ?_))))))))
 exact eR t1 ⟨Zh (Zg7 (Zgd hm (by rw [show (scn ZbU (fun _ m=>m.uid) 0 (x.mail.take g.1)).2=g.2 from congrArg Prod.snd hs];simp [ZbU,g2];omega))).symm,rfl,rfl⟩
 try simp only [sQ,ne_eq] at g3
 refine wSk (Zc (xW ZaP (h:=x1 Zfl 0 (h:=xM (h:=xIx Tryz.underlying38 Zgx (h:=xW ZhY (h:=y1 lk3 hc5 0 (h:=xA (h:=ZA (Zj (Zc (xM (h:=xD (h:=xA (h:=?_)))))))))))))))
 exact ZD (g.1+1,m.uid) [0] so2 ⟨rfl,oz,Zcm hm hs (by simp [ZbU,g2];omega),Zkw g2⟩ t4 rfl
 try simp only [sQ,ne_eq] at g1
 refine ZS (Zae (ZX (ZI (Zj (Za (xW ZbR (h:=x1 lk3 0 (h:=xM (h:=xD (h:=xR ZeF rfl (ZcA _ _ _ _) (h:=xM (h:=Zo (d:=40) rfl (fun g4=>?_) (fun g4=>?_)))))))))))))
 try simp only [sQ,ne_eq] at g4
 refine xW ZaP (h:=x1 Zfl 0 (h:=xV Tryz.underlying38 (h:=ZcU (h:=xT (h:=xA (h:=Zd ?_))))))
 exact eR t1 ⟨Zh (by rw [ZdT (Zei hs oz),g4,Bool.true_and,Bool.eq_iff_iff];simp;omega),rfl,rfl⟩
 try simp only [sQ,ne_eq] at g4
 refine xP (h:=xP (h:=xP (h:=xP (h:=xF (h:=xA (h:=Zd ?_))))))
 exact eR t1 ⟨Zh (by rw [ZdT (Zei hs oz),g4,Bool.false_and]),rfl,rfl⟩

theorem Zjd (q:Option Addr) (cp:Nat) (x:DBox) (B:Kn) (hx:SlK B q cp 3 ZN x.mail):ZaM (pj J) 43 [.agg #[.int .i64 x.next,.slice q x.mail.length cp]] B (.bool (Zbk x)):=by
 refine cB 38 Tryz.func43 (h:=?_)
 have hxn:=hx.len
 refine Za (xBx [_,_] (h:=fun b1=>xA (h:=tL1 (Zg (Za (xW ZaP (h:=x1 Zfl 0 (h:=xV Tryz.underlying38 (h:=Zbp (h:=Zb rfl (fun g0=>?_) (fun g0=>?_)))))))))))
 try simp only [sQ,ne_eq] at g0
 refine Za (xA (h:=Zd (Zp ?_)))
 exact eR t1 ⟨Zh (by simp [Zbk];omega),rfl,rfl⟩
 try simp only [sQ,ne_eq] at g0
 refine wSk (Za (xA (h:=Zg (Za (xW ZaP (h:=x1 Zfl 0 (h:=xV Tryz.underlying38 (h:=xM (h:=Zl (ZO (α:=Nat × Int) [0,1,9,11,12] (fun g=>[(3,.int .i64 g.2),(13,.int .i64 g.1)]) [] (fun g=>[]) (fun g Bx=>Bx=B∧g.1≤x.mail.length∧Zcn (x.mail.take g.1)=(true,g.2)∧0≤g.2∧g.2≤99) (fun g=>x.mail.length - g.1) (0,0) t2 rfl (⟨rfl,Nat.zero_le _,Zff,oz,oz⟩) (fun g B2 hle2 hI=>?_)))))))))))
 obtain ⟨rfl,hk,hs,hl0,hl1⟩:=hI
 refine ZM [(0,_),(1,_),(3,_),(9,_),(11,_),(12,_),(13,_)] [_] t7 rfl (Za (Zaf (h:=Zg (Zb rfl (fun g1=>?_) (fun g1=>?_)))))
 try simp only [sQ,ne_eq] at g1
 refine wSk (Zg (Zl (Za ?_)))
 obtain ⟨m,hm⟩:=Zag (xs:=x.mail) (i:=g.1) om
 obtain ⟨bb4,oo4,rfl⟩:=hx.base hm
 obtain ⟨_,⟨rfl,hb5⟩,hc5⟩:=hx.elem hm
 refine xIx Tryz.underlying38 Zgx (h:=yL [_,_,_] Zpn hc5 0 (h:=xAl [_,_,_] ZlB (h:=fun b6=>xS [_,_,_] 1 [_,_,_] Zgx (h:=tL2 (Zg (Za (xL [_,_,_] Zpn 1 (h:=xR Zzw rfl (Zpz m om2 _) (h:=?_)))))))))
 refine xN (h:=xM (h:=Zo (d:=20) rfl (fun g2=>?_) (fun g2=>?_)))
 try simp only [sQ,ne_eq] at g2
 refine xP (h:=xP (h:=xP (h:=xP (h:=xT (h:=Zb (t:=true) rfl (fun _=>Za (xA (h:=Zd (Zp (ZH (Zp (Z3 (ZH (Zp ?_))))))))) (fun h=>Bool.noConfusion h))))))
 exact eR t1 ⟨Zh (Zg7 (Zgd hm (by rw [show (scn ZbU (fun _ m=>m.uid) 0 (x.mail.take g.1)).2=g.2 from congrArg Prod.snd hs];simp [ZbU,g2]))).symm,rfl,rfl⟩
 try simp only [sQ,ne_eq] at g2
 refine xW ZhY (h:=x1 lk3 1 (h:=xM (h:=ZcU (h:=xF (h:=Zb rfl (fun g3=>?_) (fun g3=>?_))))))
 try simp only [sQ,ne_eq] at g3
 refine Za (xA (h:=Zd (Zp (ZH (Zp (Z3 (ZH (Zp ?_))))))))
 exact eR t1 ⟨Zh (Zg7 (Zgd hm (by rw [show (scn ZbU (fun _ m=>m.uid) 0 (x.mail.take g.1)).2=g.2 from congrArg Prod.snd hs];simp [ZbU,g2];omega))).symm,rfl,rfl⟩
 try simp only [sQ,ne_eq] at g3
 refine wSk (Zc (xW ZhY (h:=x1 lk3 1 (h:=xA (h:=ZA (Zj (Zc (xD (h:=xM (h:=?_))))))))))
 exact ZD (g.1+1,m.uid) [0] so2 ⟨rfl,oz,Zcm hm hs (by simp [ZbU,g2];omega),Zkw g2⟩ t7 rfl
 try simp only [sQ,ne_eq] at g1
 refine ZS (Zae (ZX (ZI (Zj (Za (xW ZbR (h:=x1 lk3 0 (h:=xM (h:=Zbp (h:=xM (h:=Zo (d:=33) rfl (fun g4=>?_) (fun g4=>?_))))))))))))
 try simp only [sQ,ne_eq] at g4
 refine xW ZbR (h:=x1 lk3 0 (h:=ZcU (h:=xT (h:=xA (h:=Zd ?_)))))
 exact eR t1 ⟨Zh (by rw [ZdT (Zei hs oz),Bool.eq_iff_iff];simp;omega),rfl,rfl⟩
 try simp only [sQ,ne_eq] at g4
 refine xP (h:=xP (h:=xP (h:=xF (h:=xA (h:=Zd ?_)))))
 exact eR t1 ⟨Zh (by rw [ZdT (Zei hs oz),Bool.eq_iff_iff];simp;omega),rfl,rfl⟩

theorem Zrd (q:Option Addr) (cp:Nat) (x:DBox) (B:Kn) (hx:SlK B q cp 3 ZN x.mail):ZaM (pj J) 119 [.agg #[.int .i64 x.next,.slice q x.mail.length cp]] B (.int .i64 (Zaj x.mail)):=by
 refine cB 22 Tryz.func119 (h:=?_)
 have hxn:=hx.len
 refine Za (xBx [_,_] (h:=fun b1=>xA (h:=tL1 (Za (xA (h:=Zg (Za (xA (h:=Zl (ZO (α:=Nat × Nat) [0,1,2] (fun g=>[(3,.int .i64 g.2),(4,.int .i64 g.1)]) [] (fun g=>[]) (fun g Bx=>Bx=B∧g.1≤x.mail.length∧g.2=Zaj (x.mail.take g.1)∧g.2≤g.1*2000000) (fun g=>x.mail.length - g.1) (0,0) t2 rfl (⟨rfl,Nat.zero_le _,by simp [Zaj],oz⟩) (fun g B2 hle2 hI=>?_)))))))))))
 obtain ⟨rfl,hk,hs,hl⟩:=hI
 refine ZM [(0,_),(1,_),(2,_),(3,_),(4,_)] [_] t5 rfl (Zg (Za (xM (h:=xW ZaP (h:=x1 Zfl 0 (h:=xV Tryz.underlying38 (h:=Zaf (h:=Zb rfl (fun g1=>?_) (fun g1=>?_)))))))))
 try simp only [sQ,ne_eq] at g1
 refine wSk (Zg (Zl (Zc (xM (h:=xW ZaP (h:=x1 Zfl 0 (h:=xM (h:=?_))))))))
 obtain ⟨m,hm⟩:=Zag (xs:=x.mail) (i:=g.1) om
 obtain ⟨bb4,oo4,rfl⟩:=hx.base hm
 obtain ⟨_,⟨rfl,hb5⟩,hc5⟩:=hx.elem hm
 refine xIx Tryz.underlying38 Zgx (h:=xW ZmC (h:=y1 lk9 hc5 2 (h:=xVs Tryz.underlying9 (h:=xD (h:=xA (h:=ZA (Zj (Zc (xM (h:=xD (h:=xA (h:=?_))))))))))))
 exact ZD (g.1+1,g.2+m.text.length) [0] so2 ⟨rfl,oz,by rw [ZiI hm,← hs],oz⟩ t5 rfl
 try simp only [sQ,ne_eq] at g1
 refine ZS (Zae (ZX (ZI (Zj (Za (xM (h:=xA (h:=Zd ?_))))))))
 exact eR t1 ⟨Za1 (by rw [← Zkj hs oz]),rfl,rfl⟩

theorem Zr2 (q:Option Addr) (cp:Nat) (x:DBox) (B:Kn) (hx:SlK B q cp 3 ZN x.mail):ZaM (pj J) 102 [.agg #[.int .i64 x.next,.slice q x.mail.length cp]] B (.int .i64 (Zen x)):=by
 refine cB 23 Tryz.func102 (h:=?_)
 have hxn:=hx.len
 refine Za (xBx [_,_] (h:=fun b1=>xA (h:=tL1 (Zg (Za (xL [_,_] ZbA 0 (h:=xR ZxZ rfl (Zjd _ _ (⟨x.next,x.mail⟩:DBox) _ hx) (h:=xN (h:=Zb rfl (fun g0=>?_) (fun g0=>?_))))))))))
 try simp only [sQ,ne_eq] at g0
 refine Za (xA (h:=Zd (Zp ?_)))
 exact eR t1 ⟨Za1 (by simp [Zen,g0]),rfl,rfl⟩
 try simp only [sQ,ne_eq] at g0
 refine wSk (Za (xA (h:=Zg (Za (xW ZaP (h:=x1 Zfl 0 (h:=xV Tryz.underlying38 (h:=xM (h:=Zl (ZO (α:=Nat × Nat) [0,1,2,8,10,11] (fun g=>[(3,.int .i64 g.2),(12,.int .i64 g.1)]) [] (fun g=>[]) (fun g Bx=>Bx=B∧g.1≤x.mail.length∧g.2=Zaj (x.mail.take g.1)∧g.2≤g.1*2000000) (fun g=>x.mail.length - g.1) (0,0) t2 rfl (⟨rfl,Nat.zero_le _,by simp [Zaj],oz⟩) (fun g B3 hle3 hI=>?_)))))))))))
 obtain ⟨rfl,hk,hs,hl⟩:=hI
 refine ZM [(0,_),(1,_),(2,_),(3,_),(8,_),(10,_),(11,_),(12,_)] [_] t8 rfl (Za (Zaf (h:=Zg (Zb rfl (fun g1=>?_) (fun g1=>?_)))))
 try simp only [sQ,ne_eq] at g1
 refine wSk (Zg (Zl (Za ?_)))
 obtain ⟨m,hm⟩:=Zag (xs:=x.mail) (i:=g.1) om
 obtain ⟨bb5,oo5,rfl⟩:=hx.base hm
 obtain ⟨_,⟨rfl,hb6⟩,hc6⟩:=hx.elem hm
 refine xIx Tryz.underlying38 Zgx (h:=yL [_,_,_] Zpn hc6 0 (h:=xAl [_,_,_] ZlB (h:=fun b7=>xS [_,_,_] 1 [_,_,_] Zgx (h:=tL2 (Zc (xM (h:=xW ZmC (h:=x1 lk9 1 (h:=xVs Tryz.underlying9 (h:=xD (h:=xA (h:=ZA (Zj (Zc (xD (h:=xM (h:=?_)))))))))))))))))
 exact ZD (g.1+1,g.2+m.text.length) [0] so2 ⟨rfl,oz,by rw [ZiI hm,← hs],oz⟩ t8 rfl
 try simp only [sQ,ne_eq] at g1
 refine ZS (Zae (ZX (ZI (Zj (Za (xM (h:=xA (h:=Zd ?_))))))))
 exact eR t1 ⟨Za1 (by rw [Zen,if_pos g0,← Zkj hs oz]),rfl,rfl⟩

theorem ZsF (n:Int) (B:Kn):ZaM (pj J) 168 [.int .i64 n] B (.bool (decide (0≤n) && decide (n≤63))):=by
 refine cB 9 Tryz.func168 (h:=?_)
 refine Za (xA (h:=Za (xM (h:=Zeo (h:=xM (h:=Zo (d:=5) rfl (fun g1=>?_) (fun g1=>?_)))))))
 refine xM (h:=ZcU (h:=xT (h:=xA (h:=Zd ?_))))
 exact eR t1 ⟨Zh (by rw [Bool.eq_iff_iff];simp [g1];try omega),rfl,rfl⟩
 refine xP (h:=xP (h:=xF (h:=xA (h:=Zd ?_))))
 exact eR t1 ⟨Zh (by rw [Bool.eq_iff_iff];simp [g1];try omega),rfl,rfl⟩

theorem Zna (u:DUser) (h1:u.name.length≤2000000) (h2:u.pass.length≤2000000) (B:Kn):ZaM (pj J) 93 [.agg #[str u.name,str u.pass,.int .i64 u.quota]] B (.bool (ZcG u)):=by
 refine cB 26 Tryz.func93 (h:=?_)
 refine Za (xBx [_,_,_] (h:=fun b1=>xA (h:=tL1 (Za (xW Zdj (h:=x1 lk9 0 (h:=xR ZvQ rfl (ZdA _ om2 _) (h:=?_))))))))
 refine xM (h:=Zo (d:=6) rfl (fun g1=>?_) (fun g1=>?_))
 try simp only [sQ,ne_eq] at g1
 refine xW Zdj (h:=x1 lk9 0 (h:=ZhE (h:=xT (h:=xM (h:=Zo (d:=11) rfl (fun g2=>?_) (fun g2=>?_))))))
 try simp only [sQ,ne_eq] at g2
 refine xW ZrA (h:=x1 lk9 0 (h:=xR ZvQ rfl (ZdA _ om2 _) (h:=?_)))
 refine xT (h:=xM (h:=Zo (d:=16) rfl (fun g3=>?_) (fun g3=>?_)))
 try simp only [sQ,ne_eq] at g3
 refine xW ZhZ (h:=x1 lk3 0 (h:=Zeo (h:=xT (h:=xM (h:=Zo (d:=21) rfl (fun g4=>?_) (fun g4=>?_))))))
 try simp only [sQ,ne_eq] at g4
 refine xW ZhZ (h:=x1 lk3 0 (h:=ZcU (h:=xT (h:=xA (h:=Zd ?_)))))
 exact eR t1 ⟨Zh (by rw [Bool.eq_iff_iff];simp [ZcG,anyone,g1,g2,g3,g4];try omega),rfl,rfl⟩
 try simp only [sQ,ne_eq] at g4
 refine xP (h:=xP (h:=xP (h:=xF (h:=xA (h:=Zd ?_)))))
 exact eR t1 ⟨Zh (by rw [Bool.eq_iff_iff];simp [ZcG,anyone,g1,g2,g3,g4];try omega),rfl,rfl⟩
 try simp only [sQ,ne_eq] at g3
 refine xP (h:=xP (h:=xP (h:=xF (h:=xM (h:=xP (h:=xP (h:=xP (h:=xF (h:=xA (h:=Zd ?_))))))))))
 exact eR t1 ⟨Zh (by rw [Bool.eq_iff_iff];simp [ZcG,anyone,g1,g2,g3];try omega),rfl,rfl⟩
 try simp only [sQ,ne_eq] at g2
 refine xP (h:=xP (h:=xP (h:=xF (h:=xM (h:=xP (h:=xP (h:=xP (h:=xF (h:=xM (h:=xP (h:=xP (h:=xP (h:=xF (h:=xA (h:=Zd ?_)))))))))))))))
 exact eR t1 ⟨Zh (by rw [Bool.eq_iff_iff];simp [ZcG,anyone,g1,g2];try omega),rfl,rfl⟩
 try simp only [sQ,ne_eq] at g1
 refine xP (h:=xP (h:=xP (h:=xF (h:=xM (h:=xP (h:=xP (h:=xP (h:=xF (h:=xM (h:=xP (h:=xP (h:=xP (h:=xF (h:=xM (h:=xP (h:=xP (h:=xP (h:=xF (h:=xA (h:=Zd ?_))))))))))))))))))))
 exact eR t1 ⟨Zh (by rw [Bool.eq_iff_iff];simp [ZcG,anyone,g1];try omega),rfl,rfl⟩

theorem Zja (q:Option Addr) (cp:Nat) (us:List DUser) (B:Kn) (hu:SlK B q cp 3 Zs us):ZaM (pj J) 52 [.slice q us.length cp] B (.bool (Zat us)):=by
 refine cB 32 Tryz.func52 (h:=?_)
 have hun:=hu.len
 refine Za (xA (h:=Zg (Za (xM (h:=xV Tryz.underlying23 (h:=Zaf (h:=xM (h:=Zo (d:=9) rfl (fun g0=>?_) (fun g0=>?_)))))))))
 try simp only [sQ,ne_eq] at g0
 refine xP (h:=xP (h:=xP (h:=xT (h:=Zb (t:=true) rfl (fun _=>Za (xA (h:=Zd (Zp ?_)))) (fun h=>Bool.noConfusion h)))))
 exact eR t1 ⟨Zh (by rw [Bool.eq_iff_iff];simp [Zat];omega),rfl,rfl⟩
 try simp only [sQ,ne_eq] at g0
 refine xM (h:=xV Tryz.underlying23 (h:=Zbp (h:=xF (h:=Zb rfl (fun g0b=>?_) (fun g0b=>?_)))))
 try simp only [sQ,ne_eq] at g0b
 refine Za (xA (h:=Zd (Zp ?_)))
 exact eR t1 ⟨Zh (by rw [Bool.eq_iff_iff];simp [Zat];omega),rfl,rfl⟩
 try simp only [sQ,ne_eq] at g0b
 refine wSk (Za (xA (h:=Zg (Za (xM (h:=xV Tryz.underlying23 (h:=xM (h:=Zl (ZO (α:=Nat × Str) [0,13,14,15] (fun g=>[(3,str g.2),(16,.int .i64 g.1)]) [] (fun g=>[]) (fun g Bx=>Bx=B∧g.1≤us.length∧Zd1 (us.take g.1)=(true,g.2)∧g.2.length≤2000000) (fun g=>us.length - g.1) (0,[]) t2 rfl (⟨rfl,Nat.zero_le _,Zff,by simp⟩) (fun g B1 hle1 hI=>?_))))))))))
 obtain ⟨rfl,hk,hs,hl⟩:=hI
 refine ZM [(0,_),(3,_),(13,_),(14,_),(15,_),(16,_)] [] t6 rfl (Za (Zaf (h:=Zg (Zb rfl (fun g1=>?_) (fun g1=>?_)))))
 try simp only [sQ,ne_eq] at g1
 refine wSk (Zg (Zl (Za ?_)))
 obtain ⟨m,hm⟩:=Zag (xs:=us) (i:=g.1) om
 obtain ⟨bb3,oo3,rfl⟩:=hu.base hm
 obtain ⟨_,⟨rfl,hb4,hb4b⟩,hc4⟩:=hu.elem hm
 refine xIx Tryz.underlying23 Ze3 (h:=yL [_,_,_] Zov hc4 0 (h:=xAl [_,_,_] Zgy (h:=fun b5=>xS [_,_,_] 0 [_,_,_] Ze3 (h:=tL1 (Zg (Za (xL [_,_,_] Zov 0 (h:=xR Zzt rfl (Zna m om2 om2 _) (h:=?_)))))))))
 refine xN (h:=xM (h:=Zo (d:=23) rfl (fun g2=>?_) (fun g2=>?_)))
 try simp only [sQ,ne_eq] at g2
 refine xP (h:=xP (h:=xP (h:=xP (h:=xT (h:=Zb (t:=true) rfl (fun _=>Za (xA (h:=Zd (Zp (ZH (Zp (Z3 (ZH (Zp ?_))))))))) (fun h=>Bool.noConfusion h))))))
 exact eR t1 ⟨Zh (Zf4 (Zgd hm (by rw [show (scn ZdJ (fun _ u=>u.name) [] (us.take g.1)).2=g.2 from congrArg Prod.snd hs];simp [ZdJ,g2]))).symm,rfl,rfl⟩
 try simp only [sQ,ne_eq] at g2
 refine xW Zdj (h:=x1 lk9 0 (h:=xM (h:=Zn (ZtY rfl rfl rfl rfl (xF (h:=Zb rfl (fun g3=>?_) (fun g3=>?_)))))))
 try simp only [sQ,ne_eq] at g3
 refine Za (xA (h:=Zd (Zp (ZH (Zp (Z3 (ZH (Zp ?_))))))))
 exact eR t1 ⟨Zh (Zf4 (Zgd hm (by rw [show (scn ZdJ (fun _ u=>u.name) [] (us.take g.1)).2=g.2 from congrArg Prod.snd hs,ZdJ,Zbw g.2 m.name,g3];simp))).symm,rfl,rfl⟩
 try simp only [sQ,ne_eq] at g3
 refine wSk (Zc (xW Zdj (h:=x1 lk9 0 (h:=xA (h:=ZA (Zj (Zc (xD (h:=xM (h:=?_))))))))))
 exact ZD (g.1+1,m.name) [] so2 ⟨rfl,oz,Zcm hm hs (by rw [ZdJ,Zbw g.2 m.name,g2,g3];rfl),oy⟩ t6 rfl
 try simp only [sQ,ne_eq] at g1
 refine ZS (Zae (ZX (ZI (Zj (Za (xA (h:=Zd ?_)))))))
 exact eR t1 ⟨Zh (by rw [ZiA (Zei hs oz),Bool.eq_iff_iff];simp;omega),rfl,rfl⟩

theorem ZlL (x:DUser) (u:Str) (b:Nat) (h1:x.name.length≤2000000) (h2:u.length≤2000000) (B:Kn) (hb:Zbi B b 0 [str u]):ZaM (pj J) 59 [.agg #[str x.name,str x.pass,.int .i64 x.quota],ptr ⟨b,0,none⟩] B (.bool (decide (x.name=u))):=by
 refine cB 8 Tryz.func59 (h:=?_)
 refine Za (xBx [_,_,_] (h:=fun b1=>xA (h:=tL1 (Za (xW Zdj (h:=x1 lk9 0 (h:=Zn (Zf rfl rfl lk9 rfl (hb _ 0 _ rfl) (ZdG (h:=xA (h:=Zd ?_)))))))))))
 exact eR t1 ⟨rfl,rfl,rfl⟩

theorem ZrI (q:Option Addr) (cp:Nat) (us:List DUser) (F:FuncId) (cap:Array Value) (t:DUser→Bool) (B:Kn) (hu:SlK B q cp 3 Zs us) (he:enters (pj J) F=true) (hF :∀x:DUser,x.name.length≤2000000→x.pass.length≤2000000→ZaM (pj J) F ([.agg #[str x.name,str x.pass,.int .i64 x.quota]] ++ cap.toList) B (.bool (t x))):ZaM (pj J) 58 [.slice q us.length cp,.func (.func F) #[] cap] B (.tuple #[.agg #[str (Zgp t us).1.name,str (Zgp t us).1.pass,.int .i64 (Zgp t us).1.quota],.bool (Zgp t us).2]):=by
 refine cB 21 Tryz.func58 (h:=?_)
 have hun:=hu.len
 refine Za (xAl [_,_,_] Zgy (h:=fun b1=>xA (h:=tL1 (Zg (Za (xM (h:=xV Tryz.underlying23 (h:=xM (h:=Zl (ZO (α:=Nat) [0,1,4,9,10] (fun k=>[(11,.int .i64 k)]) [] (fun k=>[]) (fun k Bx=>Bx=B∧k≤us.length∧∀y,y∈us.take k→t y=false) (fun k=>us.length - k) 0 t1 rfl (⟨rfl,Nat.zero_le _,by simp⟩) (fun k B2 hle2 hI=>?_)))))))))))
 obtain ⟨rfl,hk,ha⟩:=hI
 refine ZM [(0,_),(1,_),(4,_),(9,_),(10,_),(11,_)] [_] t6 rfl (Za (Zaf (h:=Zg (Zb rfl (fun g1=>?_) (fun g1=>?_)))))
 try simp only [sQ,ne_eq] at g1
 refine wSk (Zg (Zl (Za ?_)))
 obtain ⟨m,hm⟩:=Zag (xs:=us) (i:=k) om
 obtain ⟨bb4,oo4,rfl⟩:=hu.base hm
 obtain ⟨_,⟨rfl,hb5,hb5b⟩,hc5⟩:=hu.elem hm
 refine xIx Tryz.underlying23 Ze3 (h:=yL [_,_,_] Zov hc5 0 (h:=xAl [_,_,_] Zgy (h:=fun b6=>xS [_,_,_] 1 [_,_,_] Ze3 (h:=tL2 (Za (xM (h:=xL [_,_,_] Zov 1 (h:=Zn (ZtS rfl rfl he rfl rfl (hF m om2 om2) ?_)))))))))
 refine Zb rfl (fun g2=>?_) (fun g2=>?_)
 try simp only [sQ,ne_eq] at g2
 refine Za (xL [_,_,_] Zov 1 (h:=xS [_,_,_] 0 [_,_,_] Ze3 (h:=xA (h:=tL2 (Zd (ZH (Zp (Z3 (ZH (Zp ?_))))))))))
 exact Zvl .ret (.inl rfl) [_,_] ⟨⟨_,rfl,.inr ⟨[_,_,_],Zov,Z9 0 rfl rfl rfl,rfl⟩⟩,rfl,trivial⟩ ⟨by rw [ZrH hm g2 ha];rfl,rfl,rfl⟩
 try simp only [sQ,ne_eq] at g2
 refine ZL (ZA (Zj (Zc (xD (h:=xM (h:=?_))))))
 exact ZD (k+1) [0] so2 ⟨rfl,oz,Zbu hm ha g2⟩ t6 rfl
 try simp only [sQ,ne_eq] at g1
 refine ZS (Zae (ZX (ZI (Zj (Za (xAl [_,_,_] Zgy (h:=fun b8=>tL2 (Za (xL [_,_,_] Zov 1 (h:=xS [_,_,_] 0 [_,_,_] Ze3 (h:=xA (h:=tL2 (Zd ?_)))))))))))))
 exact Zvl .ret (.inl rfl) [_,_] ⟨⟨_,rfl,.inr ⟨[_,_,_],Zov,Z9 0 rfl rfl rfl,rfl⟩⟩,rfl,trivial⟩ ⟨by rw [ZpT (ZbO oz ha)];rfl,rfl,rfl⟩

theorem Zf5 (q:Option Addr) (cp:Nat) (us:List DUser) (nm:Str) (hn:nm.length≤2000000) (B:Kn) (hu:SlK B q cp 3 Zs us):ZaM (pj J) 18 [.slice q us.length cp,str nm] B (.tuple #[.agg #[str (Za4 us nm).1.name,str (Za4 us nm).1.pass,.int .i64 (Za4 us nm).1.quota],.bool (Za4 us nm).2]):=by
 refine cB 15 Tryz.func18 (h:=?_)
 have hun:=hu.len
 refine Za (xBx [_] (h:=fun b1=>xAl [_,_,_] Zgy (h:=fun b2=>xA (h:=tL2 (Zg (Za (xM (h:=xR Zy6 rfl (Zja _ _ _ _ hu) (h:=xN (h:=Zb rfl (fun g0=>?_) (fun g0=>?_)))))))))))
 try simp only [sQ,ne_eq] at g0
 refine Za (xB [] [_,_,_] [_,_,_] ZsO Zgy (h:=xS [_,_,_] 1 [_,_,_] Ze3 (h:=xA (h:=tL2 (Zd (Zp ?_))))))
 exact Zvl .ret (.inl rfl) [_,_] ⟨⟨_,rfl,.inr ⟨[_,_,_],Zov,Z9 1 rfl rfl rfl,rfl⟩⟩,rfl,trivial⟩ ⟨by rw [Za4,g0];rfl,rfl,rfl⟩
 try simp only [sQ,ne_eq] at g0
 refine wSk (Za (xM (h:=Zn (Zep (xs:=[]) (ys:=[_]) rfl rfl rfl rfl (Zn (ZhH 0 rfl rfl rfl ZzN rfl (ZaM.borrow fun hm=>ZrI _ _ us 59 _ (fun y=>decide (y.name=nm)) _ (hu.mono Zs.mono (Kn.le_add _ _)) ZzM (fun y h1 h2=>ZlL y nm _ h1 hn _ (Zk2 hm))) (xE (h:=xE (h:=xS [_,_,_] 1 [_,_,_] Ze3 (h:=xA (h:=tL2 (Zd ?_))))))))))))
 exact Zvl .ret (.inl rfl) [_,_] ⟨⟨_,rfl,.inr ⟨[_,_,_],Zov,Z9 1 rfl rfl rfl,rfl⟩⟩,rfl,trivial⟩ ⟨by rw [Za4,if_pos g0];rfl,rfl,rfl⟩

theorem Zih (b o:Nat) (q1 q2 q3:Option Addr) (c1 c2 c3:Nat) (x:DHost) (nm:Str) (hn:nm.length≤2000000) (B:Kn) (hh:Zbi B b o [str x.domain,.slice q1 x.users.length c1,.slice q2 x.folders.length c2,.int .i64 x.queue.next,.slice q3 x.queue.items.length c3]) (hu:SlK B q1 c1 3 Zs x.users):ZaM (pj J) 60 [ptr ⟨b,o,none⟩,str nm] B (.bool (Za4 x.users nm).2):=by
 refine cB 17 Tryz.func60 (h:=?_)
 refine Za (xA (h:=Za (xM (h:=xNc (h:=xW ZbS (h:=Zn (Zf rfl rfl Zi1 rfl (hh _ 1 _ rfl) (xM (h:=xR Zyb rfl (Zf5 _ _ _ nm om2 _ hu) (h:=?_))))))))))
 refine xM (h:=xE (h:=xE (h:=xAl [_,_,_] Zgy (h:=fun b2=>xS [_,_,_] 0 [_,_,_] Ze3 (h:=xA (h:=tL1 (Za (xM (h:=xA (h:=Zd ?_))))))))))
 exact eR t1 ⟨rfl,rfl,rfl⟩

theorem ZdO (q1 q2 q3:Option Addr) (c1 c2 c3:Nat) (x:DHost) (ow nm:Str) (ho:ow.length≤2000000) (hn:nm.length≤2000000) (B:Kn) (hf:SlK B q2 c2 5 Ze x.folders):ZaM (pj J) 34 [.agg #[str x.domain,.slice q1 x.users.length c1,.slice q2 x.folders.length c2,.int .i64 x.queue.next,.slice q3 x.queue.items.length c3],str ow,str nm] B (.int .i64 (ZaI (inF ow nm) x.folders)):=by
 refine cB 34 Tryz.func34 (h:=?_)
 have hfn:=hf.len
 refine Za (xBx [_,_,_,_,_] (h:=fun b1=>xA (h:=tL1 (Zg (Za (xA (h:=Zl (ZO (α:=Nat) [0,1,2,3] (fun k=>[(7,.int .i64 k)]) [] (fun k=>[]) (fun k Bx=>Bx=B∧k≤x.folders.length∧∀y,y∈x.folders.take k→inF ow nm y=false) (fun k=>x.folders.length - k) 0 t1 rfl (⟨rfl,Nat.zero_le _,by simp⟩) (fun k B2 hle2 hI=>?_)))))))))
 obtain ⟨rfl,hk,ha⟩:=hI
 refine ZM [(0,_),(1,_),(2,_),(3,_),(7,_)] [_] t5 rfl (Zg (Za (xM (h:=xW Z4 (h:=x1 ZcJ 0 (h:=xV Tryz.underlying24 (h:=Zaf (h:=Zb rfl (fun g1=>?_) (fun g1=>?_)))))))))
 try simp only [sQ,ne_eq] at g1
 refine wSk (Zg (Zl (Za (xW Z4 (h:=x1 ZcJ 0 (h:=xM (h:=?_)))))))
 obtain ⟨y,hy⟩:=Zag (xs:=x.folders) (i:=k) om
 obtain ⟨bb4,oo4,rfl⟩:=hf.base hy
 obtain ⟨_,⟨qg5,cg5,qm5,cm5,rfl,hg5,hm5,hb5,hb5b⟩,hc5⟩:=hf.elem hy
 have hg5n:=hg5.len
 have hm5n:=hm5.len
 have hm5s:=Z7 hm5
 refine xIx Tryz.underlying24 Zbq (h:=xW Zdc (h:=y1 lk9 hc5 0 (h:=xM (h:=ZdG (h:=xM (h:=Zo (d:=23) rfl (fun g2=>?_) (fun g2=>?_)))))))
 try simp only [sQ,ne_eq] at g2
 refine xW Z4 (h:=x1 ZcJ 0 (h:=xM (h:=xIx Tryz.underlying24 Zbq (h:=xW ZfT (h:=y1 lk9 hc5 1 (h:=xM (h:=ZdG (h:=xT (h:=Zb rfl (fun g3=>?_) (fun g3=>?_))))))))))
 try simp only [sQ,ne_eq] at g3
 refine Za (xM (h:=xA (h:=Zd (ZH (Zp (Z3 (ZH (Zp ?_))))))))
 exact eR t1 ⟨Za1 (Zii hy (by simp [inF,g2,g3]) ha).symm,rfl,rfl⟩
 try simp only [sQ,ne_eq] at g3
 refine ZL (ZA (Zj (Zc (xM (h:=xD (h:=xA (h:=?_)))))))
 exact ZD (k+1) [0] so2 ⟨rfl,oz,Zbu hy ha (by simp [inF,g2,g3])⟩ t5 rfl
 try simp only [sQ,ne_eq] at g2
 refine xP (h:=xP (h:=xP (h:=xP (h:=xP (h:=xP (h:=xP (h:=xP (h:=xF (h:=Zb (t:=false) rfl (fun h=>Bool.noConfusion h) (fun _=>ZL (ZA (Zj (Zc (xM (h:=xD (h:=xA (h:=?_)))))))))))))))))
 exact ZD (k+1) [0] so2 ⟨rfl,oz,Zbu hy ha (by simp [inF,g2])⟩ t5 rfl
 try simp only [sQ,ne_eq] at g1
 refine ZS (Zae (ZX (ZI (Zj (Za (xA (h:=Zd ?_)))))))
 exact eR t1 ⟨Za1 (Zfp (ZbO oz ha)).symm,rfl,rfl⟩

theorem Zvb (f:DFolder) (qa qb:Option Addr) (ca cb:Nat) (ow nm:Str) (b b':Nat) (h1:f.owner.length≤2000000) (h2:f.name.length≤2000000) (h3:ow.length≤2000000) (h4:nm.length≤2000000) (B:Kn) (hb:Zbi B b 0 [str ow]) (hb2:Zbi B b' 0 [str nm]):ZaM (pj J) 70 [.agg #[str f.owner,str f.name,.slice qa f.grants.length ca,.int .i64 f.next,.slice qb f.mail.length cb],ptr ⟨b,0,none⟩,ptr ⟨b',0,none⟩] B (.bool (inF ow nm f)):=by
 refine cB 15 Tryz.func70 (h:=?_)
 refine Za (xBx [_,_,_,_,_] (h:=fun b1=>xA (h:=tL1 (Za (xW Zdc (h:=x1 lk9 0 (h:=Zn (Zf rfl rfl lk9 rfl (hb _ 0 _ rfl) (ZdG (h:=xM (h:=Zo (d:=9) rfl (fun g1=>?_) (fun g1=>?_))))))))))))
 refine xW ZfT (h:=x1 lk9 0 (h:=Zn (Zf rfl rfl lk9 rfl (hb2 _ 0 _ rfl) (ZdG (h:=xT (h:=xA (h:=Zd ?_)))))))
 exact eR t1 ⟨Zh (by rw [Bool.eq_iff_iff];simp [inF,g1]),rfl,rfl⟩
 refine xP (h:=xP (h:=xP (h:=xP (h:=xF (h:=xA (h:=Zd ?_))))))
 exact eR t1 ⟨Zh (by rw [Bool.eq_iff_iff];simp [inF,g1]),rfl,rfl⟩

theorem Ztc (q:Option Addr) (cp:Nat) (fs:List DFolder) (F:FuncId) (cap:Array Value) (t:DFolder→Bool) (B:Kn) (hf:SlK B q cp 5 Ze fs) (he:enters (pj J) F=true) (hF :∀(f:DFolder) (qa qb:Option Addr) (ca cb:Nat),f.owner.length≤2000000→f.name.length≤2000000→ZaM (pj J) F ([.agg #[str f.owner,str f.name,.slice qa f.grants.length ca,.int .i64 f.next,.slice qb f.mail.length cb]] ++ cap.toList) B (.bool (t f))):ZaM (pj J) 69 [.slice q fs.length cp,.func (.func F) #[] cap] B (.int .i64 (ZaI t fs)):=by
 refine cB 19 Tryz.func69 (h:=?_)
 have hfn:=hf.len
 refine Za (xA (h:=Zg (Za (xM (h:=xV Tryz.underlying24 (h:=xM (h:=Zl (ZO (α:=Nat) [0,1,7] (fun k=>[(8,.int .i64 k)]) [] (fun k=>[]) (fun k Bx=>Bx=B∧k≤fs.length∧∀y,y∈fs.take k→t y=false) (fun k=>fs.length - k) 0 t1 rfl (⟨rfl,Nat.zero_le _,by simp⟩) (fun k B1 hle1 hI=>?_)))))))))
 obtain ⟨rfl,hk,ha⟩:=hI
 refine ZM [(0,_),(1,_),(7,_),(8,_)] [] t4 rfl (Za (Zaf (h:=Zg (Zb rfl (fun g1=>?_) (fun g1=>?_)))))
 try simp only [sQ,ne_eq] at g1
 refine wSk (Zg (Zl (Za (xM (h:=xA (h:=Za (xM (h:=xM (h:=xM (h:=?_))))))))))
 obtain ⟨y,hy⟩:=Zag (xs:=fs) (i:=k) om
 obtain ⟨bb3,oo3,rfl⟩:=hf.base hy
 obtain ⟨_,⟨qg4,cg4,qm4,cm4,rfl,hg4,hm4,hb4,hb4b⟩,hc4⟩:=hf.elem hy
 have hg4n:=hg4.len
 have hm4n:=hm4.len
 have hm4s:=Z7 hm4
 refine xIx Tryz.underlying24 Zbq (h:=yL [_,_,_,_,_] ZhQ hc4 0 (h:=Zn (ZtS rfl rfl he rfl rfl (hF y _ _ _ _ om2 om2) ?_)))
 refine Zb rfl (fun g2=>?_) (fun g2=>?_)
 try simp only [sQ,ne_eq] at g2
 refine Za (xM (h:=xA (h:=Zd (ZH (Zp (Z3 (ZH (Zp ?_))))))))
 exact eR t1 ⟨Za1 (Zii hy g2 ha).symm,rfl,rfl⟩
 try simp only [sQ,ne_eq] at g2
 refine ZL (ZA (Zj (Zc (xD (h:=xM (h:=?_))))))
 exact ZD (k+1) [] so2 ⟨rfl,oz,Zbu hy ha g2⟩ t4 rfl
 try simp only [sQ,ne_eq] at g1
 refine ZS (Zae (ZX (ZI (Zj (Za (xA (h:=Zd ?_)))))))
 exact eR t1 ⟨Za1 (Zfp (ZbO oz ha)).symm,rfl,rfl⟩

theorem ZmG (b o:Nat) (q1 q2 q3:Option Addr) (c1 c2 c3:Nat) (x:DHost) (ow nm:Str) (ho:ow.length≤2000000) (hn:nm.length≤2000000) (B:Kn) (hh:Zbi B b o [str x.domain,.slice q1 x.users.length c1,.slice q2 x.folders.length c2,.int .i64 x.queue.next,.slice q3 x.queue.items.length c3]) (hf:SlK B q2 c2 5 Ze x.folders):ZaM (pj J) 28 [ptr ⟨b,o,none⟩,str ow,str nm] B (.int .i64 (ZaI (inF ow nm) x.folders)):=by
 refine cB 13 Tryz.func28 (h:=?_)
 refine Za (xBx [_] (h:=fun b1=>xBx [_] (h:=fun b2=>xA (h:=tL2 (Za (xM (h:=xNc (h:=xW Z4 (h:=Zn (Zf rfl rfl ZcJ rfl (hh _ 2 _ rfl) (Zn (Zep (xs:=[]) (ys:=[_,_]) rfl rfl rfl rfl (Zn (Zv1 0 1 rfl rfl rfl rfl rfl ZzI rfl (ZaM.borrow2 fun hm1 hm2=>Ztc _ _ x.folders 70 _ (inF ow nm) _ ((hf.mono Ze.mono (Kn.le_add _ _)).mono Ze.mono (Kn.le_add _ _)) ZzH (fun f qa qb ca cb h1 h2=>Zvb f qa qb ca cb ow nm _ _ h1 h2 ho hn _ (Zk2 hm1) (Zk2 hm2))) (xA (h:=Zd ?_))))))))))))))))
 exact eR t1 ⟨rfl,rfl,rfl⟩

theorem Znq (b o:Nat) (q1 q2 q3:Option Addr) (c1 c2 c3:Nat) (x:DHost) (B:Kn) (hh:Zbi B b o [str x.domain,.slice q1 x.users.length c1,.slice q2 x.folders.length c2,.int .i64 x.queue.next,.slice q3 x.queue.items.length c3]) (hu:SlK B q1 c1 3 Zs x.users) (hi:SlK B q3 c3 4 Zw x.queue.items):ZaM (pj J) 56 [ptr ⟨b,o,none⟩] B (.bool (x.queue.items.all (Zdr x.users))):=by
 refine cB 35 Tryz.func56 (h:=?_)
 have hin:=hi.len
 refine Za (xA (h:=Zg (Za (xM (h:=xNc (h:=xW ZaU (h:=xW Zan (h:=Zn (Zf rfl rfl Zej rfl (hh _ 4 _ rfl) (xV Tryz.underlying25 (h:=xM (h:=Zl (ZO (α:=Nat) [0,11,12] (fun k=>[(13,.int .i64 k)]) [] (fun k=>[]) (fun k Bx=>Bx=B∧k≤x.queue.items.length∧∀y,y∈x.queue.items.take k→Zdr x.users y=true) (fun k=>x.queue.items.length - k) 0 t1 rfl (⟨rfl,Nat.zero_le _,by simp⟩) (fun k B1 hle1 hI=>?_))))))))))))))
 obtain ⟨rfl,hk,ha⟩:=hI
 refine ZM [(0,_),(11,_),(12,_),(13,_)] [] t4 rfl (Za (Zaf (h:=Zg (Zb rfl (fun g1=>?_) (fun g1=>?_)))))
 try simp only [sQ,ne_eq] at g1
 refine wSk (Zg (Zl (Za ?_)))
 obtain ⟨y,hy⟩:=Zag (xs:=x.queue.items) (i:=k) om
 obtain ⟨bb3,oo3,rfl⟩:=hi.base hy
 obtain ⟨_,⟨qi4,ci4,rfl,hi4,hb4,hb4b⟩,hc4⟩:=hi.elem hy
 have hi4n:=hi4.len
 refine xIx Tryz.underlying25 Zdf (h:=yL [_,_,_,_] Zh4 hc4 0 (h:=xAl [_,_,_,_] Zgw (h:=fun b5=>xS [_,_,_,_] 0 [_,_,_,_] Zdf (h:=tL1 (Zg (Za (xM (h:=xW ZkG (h:=x1 lk9 0 (h:=xR Zxg rfl (Zih _ _ _ _ _ _ _ _ x y.fr om2 _ hh hu) (h:=?_)))))))))))
 refine xN (h:=Zb rfl (fun g2=>?_) (fun g2=>?_))
 try simp only [sQ,ne_eq] at g2
 refine Za (xA (h:=Zd (Zp (ZH (Zp (Z3 (ZH (Zp ?_))))))))
 exact eR t1 ⟨Zh (Zc4 hy (by simp [Zdr,g2])).symm,rfl,rfl⟩
 try simp only [sQ,ne_eq] at g2
 refine wSk (Za (xW ZaO (h:=x1 Ze9 0 (h:=xV Tryz.underlying62 (h:=xM (h:=Zl (ZO (α:=Nat) [0,4,11,12,13,14,21,23,24] (fun j=>[(25,.int .i64 j)]) [] (fun j=>[]) (fun j Bx=>Bx=B1∧j≤y.left.length∧∀z,z∈y.left.take j→(Za4 x.users z).2=true) (fun j=>y.left.length - j) 0 t1 rfl (⟨rfl,Nat.zero_le _,by simp⟩) (fun j B7 hle7 hI=>?_))))))))
 obtain ⟨rfl,hj,hb⟩:=hI
 refine ZM [(0,_),(4,_),(11,_),(12,_),(13,_),(14,_),(21,_),(23,_),(24,_),(25,_)] [_] t10 rfl (Za (Zaf (h:=Zg (Zb rfl (fun g3=>?_) (fun g3=>?_)))))
 try simp only [sQ,ne_eq] at g3
 refine wSk (Zg (Zl (Za ?_)))
 obtain ⟨z,hz⟩:=Zag (xs:=y.left) (i:=j) om
 obtain ⟨bb9,oo9,rfl⟩:=hi4.base hz
 obtain ⟨_,⟨rfl,hb10⟩,hc10⟩:=hi4.elem hz
 refine xIx Tryz.underlying62 sz9 (h:=y1 lk9 hc10 0 (h:=xA (h:=Za (xM (h:=xM (h:=xR Zxg rfl (Zih _ _ _ _ _ _ _ _ x z om2 _ hh hu) (h:=?_)))))))
 refine xN (h:=Zb rfl (fun g4=>?_) (fun g4=>?_))
 try simp only [sQ,ne_eq] at g4
 refine Za (xA (h:=Zd (ZH (Zp (Z3 (ZH (ZH (Zp (Z3 (ZH (Zp ?_)))))))))))
 exact eR t1 ⟨Zh (Zc4 hy (by rw [Zdr,Zc4 hz g4,Bool.and_false])).symm,rfl,rfl⟩
 try simp only [sQ,ne_eq] at g4
 refine ZL (ZA (Zj (Zc (xD (h:=xM (h:=?_))))))
 exact ZD (j+1) [0] so2 ⟨rfl,oz,Zbu hz hb g4⟩ t10 rfl
 try simp only [sQ,ne_eq] at g3
 refine ZS (Zae (ZX (ZI (ZA (Zj (Zc (xD (h:=xM (h:=?_)))))))))
 exact ZD (k+1) [] so2 ⟨rfl,oz,Zbu hy ha (by rw [Zdr,g2,Ze0 (ZbO oz hb)];rfl)⟩ t4 rfl
 try simp only [sQ,ne_eq] at g1
 refine ZS (Zae (ZX (ZI (Zj (Za (xA (h:=Zd ?_)))))))
 exact eR t1 ⟨Zh (Ze0 (ZbO oz ha)).symm,rfl,rfl⟩

theorem Zmm (f g:DFolder) (qa qb qc qd:Option Addr) (ca cb cc cd:Nat) (B:Kn):ZaM (pj J) 118 [.agg #[str f.owner,str f.name,.slice qa f.grants.length ca,.int .i64 f.next,.slice qb f.mail.length cb],.agg #[str g.owner,str g.name,.slice qc g.grants.length cc,.int .i64 g.next,.slice qd g.mail.length cd]] B (.bool (Zb7 f g)):=by
 refine cB 24 Tryz.func118 (h:=?_)
 refine Za (xBx [_,_,_,_,_] (h:=fun b1=>xBx [_,_,_,_,_] (h:=fun b2=>xA (h:=tL2 (Za (xW Zdc (h:=x1 lk9 0 (h:=xW Zdc (h:=x1 lk9 1 (h:=ZtQ (h:=xM (h:=Zo (d:=10) rfl (fun g1=>?_) (fun g1=>?_)))))))))))))
 refine xP (h:=xP (h:=xP (h:=xP (h:=xP (h:=xP (h:=xP (h:=xP (h:=xP (h:=xP (h:=xP (h:=xP (h:=xT (h:=xA (h:=Zd ?_))))))))))))))
 exact eR t1 ⟨Zh (by rw [Bool.eq_iff_iff];simp [Zb7,Zdp,g1]),rfl,rfl⟩
 refine xW Zdc (h:=x1 lk9 0 (h:=xW Zdc (h:=x1 lk9 1 (h:=ZdG (h:=xM (h:=Zo (d:=16) rfl (fun g2=>?_) (fun g2=>?_)))))))
 refine xW ZfT (h:=x1 lk9 0 (h:=xW ZfT (h:=x1 lk9 1 (h:=ZtQ (h:=xT (h:=xF (h:=xA (h:=Zd ?_))))))))
 exact eR t1 ⟨Zh (by rw [Bool.eq_iff_iff];simp [Zb7,Zdp,g1,g2]),rfl,rfl⟩
 refine xP (h:=xP (h:=xP (h:=xP (h:=xP (h:=xF (h:=xF (h:=xA (h:=Zd ?_))))))))
 exact eR t1 ⟨Zh (by rw [Bool.eq_iff_iff];simp [Zb7,Zdp,g1,g2]),rfl,rfl⟩

theorem Znf (q:Option Addr) (cp:Nat) (us:List DUser) (B:Kn) (hu:SlK B q cp 3 Zs us):ZaM (pj J) 74 [.slice q us.length cp] B (.bool (Zat us)):=by
 refine cB 54 Tryz.func74 (h:=?_)
 have hun:=hu.len
 refine Za (xA (h:=Zg (Za (xA (h:=Zl (ZO (α:=Nat × Str) [0] (fun g=>[(3,.int .i64 g.1)]) [] (fun g=>[]) (fun g Bx=>Bx=B∧g.1≤us.length∧Zd1 (us.take g.1)=(true,g.2)∧Prev (fun y=>y.name) ([]:Str) us g.1 g.2) (fun g=>us.length - g.1) (0,[]) t1 rfl (⟨rfl,Nat.zero_le _,Zff,.zero⟩) (fun g B1 hle1 hI=>?_)))))))
 obtain ⟨rfl,hk,hs,hp⟩:=hI
 refine ZM [(0,_),(3,_)] [] t2 rfl (Zg (Za (xM (h:=xM (h:=xV Tryz.underlying23 (h:=Zaf (h:=Zb rfl (fun g1=>?_) (fun g1=>?_))))))))
 try simp only [sQ,ne_eq] at g1
 refine wSk (Zg (Zl (Za (xM (h:=xM (h:=?_))))))
 obtain ⟨m,hm⟩:=Zag (xs:=us) (i:=g.1) om
 obtain ⟨bb3,oo3,rfl⟩:=hu.base hm
 obtain ⟨_,⟨rfl,hb4,hb4b⟩,hc4⟩:=hu.elem hm
 refine xIx Tryz.underlying23 Ze3 (h:=yL [_,_,_] Zov hc4 0 (h:=xAl [_,_,_] Zgy (h:=fun b5=>xS [_,_,_] 0 [_,_,_] Ze3 (h:=tL1 (Zg (Z0 (same _ _) mo kr ⟨rfl,rfl⟩ (fun _ _=>?_)))))))
 refine aW 0 rfl Zdj (h:=aT 1 rfl (Zar fun D=>Zf rfl rfl lk9 rfl (atL 0 rfl rfl rfl) r4) (h:=aT 2 rfl (Zar fun D=>Zbc rfl rfl Zlq rfl (Zb6 _ om2 _) r4) (h:=?_)))
 refine aN 3 rfl (h:=aM 4 rfl (h:=ZaH (d:=19) rfl (fun g2=>?_) (fun g2=>?_)))
 try simp only [sQ,ne_eq] at g2
 refine aZ 5 rfl (h:=aZ 6 rfl (h:=aZ 7 rfl (h:=aPT 8 rfl (h:=aM 9 rfl (h:=aZ 10 rfl (h:=aZ 11 rfl (h:=aZ 12 rfl (h:=aZ 13 rfl (h:=aPT 14 rfl (h:=aM 15 rfl (h:=aZ 16 rfl (h:=aZ 17 rfl (h:=aZ 18 rfl (h:=aZ 19 rfl (h:=aPT 20 rfl (h:=aM 21 rfl (h:=aZ 22 rfl (h:=aZ 23 rfl (h:=aZ 24 rfl (h:=aZ 25 rfl (h:=aZ 26 rfl (h:=aZ 27 rfl (h:=aZ 28 rfl (h:=aZ 29 rfl (h:=aZ 30 rfl (h:=aZ 31 rfl (h:=aZ 32 rfl (h:=aZ 33 rfl (h:=aZ 34 rfl (h:=aPT 35 rfl (h:=Zz kr kr ?_)))))))))))))))))))))))))))))))
 refine Zj (Zb (t:=true) rfl (fun _=>Za (xA (h:=Zd (ZH (Zp (Z3 (ZH (Zp ?_)))))))) (fun h=>Bool.noConfusion h))
 exact eR t1 ⟨Zh (ZdI hm hs (by simp [ZdJ,ZcG,anyone,g1,g2])).symm,rfl,rfl⟩
 try simp only [sQ,ne_eq] at g2
 refine aW 5 rfl Zdj (h:=aT 6 rfl (Zar fun D=>Zf rfl rfl lk9 rfl (atL 0 rfl rfl rfl) r4) (h:=Zsf 7 rfl (h:=aPF 8 rfl (h:=aM 9 rfl (h:=ZaH (d:=24) rfl (fun g3=>?_) (fun g3=>?_))))))
 try simp only [sQ,ne_eq] at g3
 refine aZ 10 rfl (h:=aZ 11 rfl (h:=aZ 12 rfl (h:=aZ 13 rfl (h:=aPT 14 rfl (h:=aM 15 rfl (h:=aZ 16 rfl (h:=aZ 17 rfl (h:=aZ 18 rfl (h:=aZ 19 rfl (h:=aPT 20 rfl (h:=aM 21 rfl (h:=aZ 22 rfl (h:=aZ 23 rfl (h:=aZ 24 rfl (h:=aZ 25 rfl (h:=aZ 26 rfl (h:=aZ 27 rfl (h:=aZ 28 rfl (h:=aZ 29 rfl (h:=aZ 30 rfl (h:=aZ 31 rfl (h:=aZ 32 rfl (h:=aZ 33 rfl (h:=aZ 34 rfl (h:=aPT 35 rfl (h:=Zz kr kr ?_))))))))))))))))))))))))))
 refine Zj (Zb (t:=true) rfl (fun _=>Za (xA (h:=Zd (ZH (Zp (Z3 (ZH (Zp ?_)))))))) (fun h=>Bool.noConfusion h))
 exact eR t1 ⟨Zh (ZdI hm hs (by simp [ZdJ,ZcG,anyone,g1,g2,g3])).symm,rfl,rfl⟩
 try simp only [sQ,ne_eq] at g3
 refine aW 10 rfl ZrA (h:=aT 11 rfl (Zar fun D=>Zf rfl rfl lk9 rfl (atL 0 rfl rfl rfl) r4) (h:=aT 12 rfl (Zar fun D=>Zbc rfl rfl Zlq rfl (Zb6 _ om2 _) r4) (h:=?_)))
 refine aN 13 rfl (h:=aPF 14 rfl (h:=aM 15 rfl (h:=ZaH (d:=30) rfl (fun g4=>?_) (fun g4=>?_))))
 try simp only [sQ,ne_eq] at g4
 refine aZ 16 rfl (h:=aZ 17 rfl (h:=aZ 18 rfl (h:=aZ 19 rfl (h:=aPT 20 rfl (h:=aM 21 rfl (h:=aZ 22 rfl (h:=aZ 23 rfl (h:=aZ 24 rfl (h:=aZ 25 rfl (h:=aZ 26 rfl (h:=aZ 27 rfl (h:=aZ 28 rfl (h:=aZ 29 rfl (h:=aZ 30 rfl (h:=aZ 31 rfl (h:=aZ 32 rfl (h:=aZ 33 rfl (h:=aZ 34 rfl (h:=aPT 35 rfl (h:=Zz kr kr ?_))))))))))))))))))))
 refine Zj (Zb (t:=true) rfl (fun _=>Za (xA (h:=Zd (ZH (Zp (Z3 (ZH (Zp ?_)))))))) (fun h=>Bool.noConfusion h))
 exact eR t1 ⟨Zh (ZdI hm hs (by simp [ZdJ,ZcG,anyone,g1,g2,g3,g4])).symm,rfl,rfl⟩
 try simp only [sQ,ne_eq] at g4
 refine aW 16 rfl ZhZ (h:=aT 17 rfl (Zar fun D=>Zf rfl rfl lk3 rfl (atL 0 rfl rfl rfl) r4) (h:=aT 18 rfl (Zar fun D=>Zbc rfl rfl ZeF rfl (ZcA _ _ _ _) r4) (h:=aN 19 rfl (h:=aPF 20 rfl (h:=aM 21 rfl (h:=ZaH (d:=36) rfl (fun g5=>?_) (fun g5=>?_)))))))
 try simp only [sQ,ne_eq] at g5
 refine aZ 22 rfl (h:=aZ 23 rfl (h:=aZ 24 rfl (h:=aZ 25 rfl (h:=aZ 26 rfl (h:=aZ 27 rfl (h:=aZ 28 rfl (h:=aZ 29 rfl (h:=aZ 30 rfl (h:=aZ 31 rfl (h:=aZ 32 rfl (h:=aZ 33 rfl (h:=aZ 34 rfl (h:=aPT 35 rfl (h:=Zz kr kr ?_))))))))))))))
 refine Zj (Zb (t:=true) rfl (fun _=>Za (xA (h:=Zd (ZH (Zp (Z3 (ZH (Zp ?_)))))))) (fun h=>Bool.noConfusion h))
 exact eR t1 ⟨Zh (ZdI hm hs (by simp [ZdJ,ZcG,anyone,g1,g2,g3,g4,g5])).symm,rfl,rfl⟩
 try simp only [sQ,ne_eq] at g5
 refine aM 22 rfl (h:=Zm3 23 rfl (h:=aM 24 rfl (h:=ZaH (d:=39) rfl (fun g6=>?_) (fun g6=>?_))))
 try simp only [sQ,ne_eq] at g6
 refine aM 25 rfl (h:=aM 26 rfl (h:=aU 27 rfl (h:=?_)))
 obtain ⟨y,hy⟩:=ZeB (xs:=us) (i:=(↑g.1 - 1)) om om
 obtain ⟨_,⟨rfl,hb10,hb10b⟩,hc10⟩:=hu.elem hy
 refine aIx 28 rfl Tryz.underlying23 Ze3 (h:=?_)
 have hpe:=hp.at hy oz
 refine aW 29 rfl Zdj (h:=aT 30 rfl (Zar fun D=>Zf rfl rfl lk9 rfl (hc10 _ 0 _ rfl) r4) (h:=aW 31 rfl Zdj (h:=aT 32 rfl (Zar fun D=>Zf rfl rfl lk9 rfl (atL 0 rfl rfl rfl) r4) (h:=aT 33 rfl (Zar fun D=>Zqk rfl rfl rfl rfl r4) (h:=aPT 34 rfl (h:=aPF 35 rfl (h:=Zz kr kr ?_)))))))
 refine Zj (Zb rfl (fun g7=>?_) (fun g7=>?_))
 try simp only [sQ,ne_eq] at g7
 refine Za (xA (h:=Zd (ZH (Zp (Z3 (ZH (Zp ?_)))))))
 exact eR t1 ⟨Zh (ZdI hm hs (by simp [ZdJ,ZcG,anyone,g1,g2,g3,g4,g5,g6,g7,hpe])).symm,rfl,rfl⟩
 try simp only [sQ,ne_eq] at g7
 refine ZL (ZA (Zj (Zc (xM (h:=xD (h:=xA (h:=?_)))))))
 exact ZD (g.1+1,m.name) [] so2 ⟨rfl,oz,Zcm hm hs (by rw [hpe];simp [ZdJ,ZcG,anyone,g2,g3,g4,g7];simp at g5;omega),.succ hm⟩ t2 rfl
 try simp only [sQ,ne_eq] at g6
 refine aZ 25 rfl (h:=aZ 26 rfl (h:=aZ 27 rfl (h:=aZ 28 rfl (h:=aZ 29 rfl (h:=aZ 30 rfl (h:=aZ 31 rfl (h:=aZ 32 rfl (h:=aZ 33 rfl (h:=aPF 34 rfl (h:=aPF 35 rfl (h:=Zz kr kr ?_)))))))))))
 refine Zj (Zb (t:=false) rfl (fun h=>Bool.noConfusion h) (fun _=>ZL (ZA (Zj (Zc (xM (h:=xD (h:=xA (h:=?_)))))))))
 exact ZD (g.1+1,m.name) [] so2 ⟨rfl,oz,Zcm hm hs (by rw [hp.at0 oz];simp [ZdJ,ZcG,anyone,g2,g3,g4,Zot (Zks g2)];simp at g5;omega),.succ hm⟩ t2 rfl
 try simp only [sQ,ne_eq] at g1
 refine ZS (Zae (ZX (ZI (Zj (Za (xM (h:=xV Tryz.underlying23 (h:=xR ZeF rfl (ZcA _ _ _ _) (h:=xA (h:=Zd ?_))))))))))
 exact eR t1 ⟨Zh (by rw [ZiA (Zei hs oz),Bool.eq_iff_iff];simp;omega),rfl,rfl⟩

theorem ZgI (q:Option Addr) (cp:Nat) (gs:List DGrant) (B:Kn) (hg:SlK B q cp 2 ZZ gs):ZaM (pj J) 116 [.slice q gs.length cp] B (.bool (ZcR gs)):=by
 refine cB 47 Tryz.func116 (h:=?_)
 have hgn:=hg.len
 refine Za (xA (h:=Zg (Za (xA (h:=Zl (ZO (α:=Nat × Str) [0] (fun g=>[(3,.int .i64 g.1)]) [] (fun g=>[]) (fun g Bx=>Bx=B∧g.1≤gs.length∧ZdQ (gs.take g.1)=(true,g.2)∧Prev (fun y=>y.user) ([]:Str) gs g.1 g.2) (fun g=>gs.length - g.1) (0,[]) t1 rfl (⟨rfl,Nat.zero_le _,Zff,.zero⟩) (fun g B1 hle1 hI=>?_)))))))
 obtain ⟨rfl,hk,hs,hp⟩:=hI
 refine ZM [(0,_),(3,_)] [] t2 rfl (Zg (Za (xM (h:=xM (h:=xV Tryz.underlying37 (h:=Zaf (h:=Zb rfl (fun g1=>?_) (fun g1=>?_))))))))
 try simp only [sQ,ne_eq] at g1
 refine wSk (Zg (Zl (Zg (Z0 (same _ _) mo kr ⟨rfl,rfl⟩ (fun _ _=>?_)))))
 refine aM 0 rfl (h:=aM 1 rfl (h:=?_))
 obtain ⟨m,hm⟩:=Zag (xs:=gs) (i:=g.1) om
 obtain ⟨bb3,oo3,rfl⟩:=hg.base hm
 obtain ⟨_,⟨rfl,hb4⟩,hc4⟩:=hg.elem hm
 refine aIx 2 rfl Tryz.underlying37 ZbM (h:=aW 3 rfl ZcZ (h:=aT 4 rfl (Zar fun D=>Zf rfl rfl lk9 rfl (hc4 _ 0 _ rfl) r4) (h:=aT 5 rfl (Zar fun D=>Zbc rfl rfl Zlq rfl (Zb6 _ om2 _) r4) (h:=?_))))
 refine aN 6 rfl (h:=aM 7 rfl (h:=ZaH (d:=17) rfl (fun g2=>?_) (fun g2=>?_)))
 try simp only [sQ,ne_eq] at g2
 refine aZ 8 rfl (h:=aZ 9 rfl (h:=aZ 10 rfl (h:=aZ 11 rfl (h:=aZ 12 rfl (h:=aZ 13 rfl (h:=aZ 14 rfl (h:=aPT 15 rfl (h:=aM 16 rfl (h:=aZ 17 rfl (h:=aZ 18 rfl (h:=aZ 19 rfl (h:=aZ 20 rfl (h:=aZ 21 rfl (h:=aZ 22 rfl (h:=aZ 23 rfl (h:=aZ 24 rfl (h:=aZ 25 rfl (h:=aZ 26 rfl (h:=aZ 27 rfl (h:=aZ 28 rfl (h:=aZ 29 rfl (h:=aZ 30 rfl (h:=aZ 31 rfl (h:=aZ 32 rfl (h:=aPT 33 rfl (h:=Zz kr kr ?_))))))))))))))))))))))))))
 refine Zj (Zb (t:=true) rfl (fun _=>Za (xA (h:=Zd (ZH (Zp (Z3 (ZH (Zp ?_)))))))) (fun h=>Bool.noConfusion h))
 exact eR t1 ⟨Zh (ZdV hm hs (by simp [ZcT,g1,g2])).symm,rfl,rfl⟩
 try simp only [sQ,ne_eq] at g2
 refine aM 8 rfl (h:=aM 9 rfl (h:=aIx 10 rfl Tryz.underlying37 ZbM (h:=aW 11 rfl Zhr (h:=aT 12 rfl (Zar fun D=>Zf rfl rfl lk3 rfl (hc4 _ 1 _ rfl) r4) (h:=aT 13 rfl (Zar fun D=>Zbc rfl rfl ZeF rfl (ZcA _ _ _ _) r4) (h:=aN 14 rfl (h:=aPF 15 rfl (h:=aM 16 rfl (h:=ZaH (d:=26) rfl (fun g4=>?_) (fun g4=>?_))))))))))
 try simp only [sQ,ne_eq] at g4
 refine aZ 17 rfl (h:=aZ 18 rfl (h:=aZ 19 rfl (h:=aZ 20 rfl (h:=aZ 21 rfl (h:=aZ 22 rfl (h:=aZ 23 rfl (h:=aZ 24 rfl (h:=aZ 25 rfl (h:=aZ 26 rfl (h:=aZ 27 rfl (h:=aZ 28 rfl (h:=aZ 29 rfl (h:=aZ 30 rfl (h:=aZ 31 rfl (h:=aZ 32 rfl (h:=aPT 33 rfl (h:=Zz kr kr ?_)))))))))))))))))
 refine Zj (Zb (t:=true) rfl (fun _=>Za (xA (h:=Zd (ZH (Zp (Z3 (ZH (Zp ?_)))))))) (fun h=>Bool.noConfusion h))
 exact eR t1 ⟨Zh (ZdV hm hs (by simp [ZcT,g1,g2,g4])).symm,rfl,rfl⟩
 try simp only [sQ,ne_eq] at g4
 refine aM 17 rfl (h:=Zm3 18 rfl (h:=aM 19 rfl (h:=ZaH (d:=29) rfl (fun g6=>?_) (fun g6=>?_))))
 try simp only [sQ,ne_eq] at g6
 refine aM 20 rfl (h:=aM 21 rfl (h:=aU 22 rfl (h:=?_)))
 obtain ⟨y,hy⟩:=ZeB (xs:=gs) (i:=(↑g.1 - 1)) om om
 obtain ⟨_,⟨rfl,hb8⟩,hc8⟩:=hg.elem hy
 refine aIx 23 rfl Tryz.underlying37 ZbM (h:=?_)
 have hpe:=hp.at hy oz
 refine aW 24 rfl ZcZ (h:=aT 25 rfl (Zar fun D=>Zf rfl rfl lk9 rfl (hc8 _ 0 _ rfl) r4) (h:=aM 26 rfl (h:=aM 27 rfl (h:=aIx 28 rfl Tryz.underlying37 ZbM (h:=aW 29 rfl ZcZ (h:=aT 30 rfl (Zar fun D=>Zf rfl rfl lk9 rfl (hc4 _ 0 _ rfl) r4) (h:=aT 31 rfl (Zar fun D=>Zqk rfl rfl rfl rfl r4) (h:=aPT 32 rfl (h:=aPF 33 rfl (h:=Zz kr kr ?_))))))))))
 refine Zj (Zb rfl (fun g7=>?_) (fun g7=>?_))
 try simp only [sQ,ne_eq] at g7
 refine Za (xA (h:=Zd (ZH (Zp (Z3 (ZH (Zp ?_)))))))
 exact eR t1 ⟨Zh (ZdV hm hs (by simp [ZcT,g1,g2,g4,g6,g7,hpe])).symm,rfl,rfl⟩
 try simp only [sQ,ne_eq] at g7
 refine ZL (ZA (Zj (Zc (xM (h:=xD (h:=xA (h:=?_)))))))
 exact ZD (g.1+1,m.user) [] so2 ⟨rfl,oz,Zcm hm hs (by rw [hpe];simp [ZcT,g2,g7];simp at g4;omega),.succ hm⟩ t2 rfl
 try simp only [sQ,ne_eq] at g6
 refine aZ 20 rfl (h:=aZ 21 rfl (h:=aZ 22 rfl (h:=aZ 23 rfl (h:=aZ 24 rfl (h:=aZ 25 rfl (h:=aZ 26 rfl (h:=aZ 27 rfl (h:=aZ 28 rfl (h:=aZ 29 rfl (h:=aZ 30 rfl (h:=aZ 31 rfl (h:=aPF 32 rfl (h:=aPF 33 rfl (h:=Zz kr kr ?_))))))))))))))
 refine Zj (Zb (t:=false) rfl (fun h=>Bool.noConfusion h) (fun _=>ZL (ZA (Zj (Zc (xM (h:=xD (h:=xA (h:=?_)))))))))
 exact ZD (g.1+1,m.user) [] so2 ⟨rfl,oz,Zcm hm hs (by rw [hp.at0 oz];simp [ZcT,g2,Zot (Zks g2)];simp at g4;omega),.succ hm⟩ t2 rfl
 try simp only [sQ,ne_eq] at g1
 refine ZS (Zae (ZX (ZI (Zj (Za (xM (h:=xV Tryz.underlying37 (h:=ZcU (h:=xA (h:=Zd ?_))))))))))
 exact eR t1 ⟨Zh (by rw [Zm2 (Zei hs oz),Bool.eq_iff_iff];simp;try omega),rfl,rfl⟩

theorem Zkx (q1 q2 q3:Option Addr) (c1 c2 c3:Nat) (x:DHost) (q:Option Addr) (cp:Nat) (ns:List Str) (B:Kn) (hu:SlK B q1 c1 3 Zs x.users) (hn:SlK B q cp 1 Zbv ns):ZaM (pj J) 79 [.agg #[str x.domain,.slice q1 x.users.length c1,.slice q2 x.folders.length c2,.int .i64 x.queue.next,.slice q3 x.queue.items.length c3],.slice q ns.length cp] B (.bool (ZgV x.users ns)):=by
 refine cB 20 Tryz.func79 (h:=?_)
 have hnn:=hn.len
 have hun:=hu.len
 refine Za (xBx [_,_,_,_,_] (h:=fun b1=>xA (h:=tL1 (Zg (Za (xA (h:=Zl (ZO (α:=Nat) [0,1,2] (fun k=>[(5,.int .i64 k)]) [] (fun k=>[]) (fun k Bx=>Bx=B∧k≤ns.length∧∀z,z∈ns.take k→decide (0≤Zds x.users z)=true) (fun k=>ns.length - k) 0 t1 rfl (⟨rfl,Nat.zero_le _,by simp⟩) (fun k B2 hle2 hI=>?_)))))))))
 obtain ⟨rfl,hk,ha⟩:=hI
 refine ZM [(0,_),(1,_),(2,_),(5,_)] [_] t4 rfl (Zg (Za (xM (h:=xM (h:=xV Tryz.underlying62 (h:=Zaf (h:=Zb rfl (fun g1=>?_) (fun g1=>?_))))))))
 try simp only [sQ,ne_eq] at g1
 refine wSk (Zg (Zl (Zg (Z0 (same _ _) mo kr ⟨rfl,rfl⟩ (fun _ _=>?_)))))
 refine aW 0 rfl ZbS (h:=aT 1 rfl (Zar fun D=>Zf rfl rfl Zi1 rfl (atL 0 rfl rfl rfl) r4) (h:=aM 2 rfl (h:=aM 3 rfl (h:=?_))))
 obtain ⟨z,hz⟩:=Zag (xs:=ns) (i:=k) om
 obtain ⟨bb4,oo4,rfl⟩:=hn.base hz
 obtain ⟨_,⟨rfl,hb5⟩,hc5⟩:=hn.elem hz
 refine aIx 4 rfl Tryz.underlying62 sz9 (h:=aT 5 rfl (Zar fun D=>Zf rfl rfl lk9 rfl (hc5 _ 0 _ rfl) r4) (h:=aT 6 rfl (Zar fun D=>Zbc rfl rfl Zt9 rfl (Zdb _ _ _ _ _ hu) r4) (h:=Zse 7 rfl (h:=Zz kr kr ?_))))
 refine Zj (Zb rfl (fun g2=>?_) (fun g2=>?_))
 try simp only [sQ,ne_eq] at g2
 refine Za (xA (h:=Zd (ZH (Zp (Z3 (ZH (Zp ?_)))))))
 exact eR t1 ⟨Zh (Zc4 hz (by simp;omega)).symm,rfl,rfl⟩
 try simp only [sQ,ne_eq] at g2
 refine ZL (ZA (Zj (Zc (xM (h:=xD (h:=xA (h:=?_)))))))
 exact ZD (k+1) [0] so2 ⟨rfl,oz,Zbu hz ha (by simp;omega)⟩ t4 rfl
 try simp only [sQ,ne_eq] at g1
 refine ZS (Zae (ZX (ZI (Zj (Za (xA (h:=Zd ?_)))))))
 exact eR t1 ⟨Zh (Ze0 (ZbO oz ha)).symm,rfl,rfl⟩

theorem Zml (q1 q2 q3:Option Addr) (c1 c2 c3:Nat) (x:DHost) (u:Str) (B:Kn) (hf:SlK B q2 c2 5 Ze x.folders):ZaM (pj J) 77 [.agg #[str x.domain,.slice q1 x.users.length c1,.slice q2 x.folders.length c2,.int .i64 x.queue.next,.slice q3 x.queue.items.length c3],str u] B (.int .i64 (ZaZ x.folders u)):=by
 refine cB 32 Tryz.func77 (h:=?_)
 have hfn:=hf.len
 refine Za (xBx [_,_,_,_,_] (h:=fun b1=>xA (h:=tL1 (Za (xA (h:=Zg (Za (xA (h:=Zl (ZO (α:=Nat × Nat) [0,1,2,4] (fun g=>[(5,.int .i64 g.2),(6,.int .i64 g.1)]) [] (fun g=>[]) (fun g Bx=>Bx=B∧g.1≤x.folders.length∧g.2=ZaZ (x.folders.take g.1) u∧g.2≤g.1*4000000000000) (fun g=>x.folders.length - g.1) (0,0) t2 rfl (⟨rfl,Nat.zero_le _,by simp [ZaZ],oz⟩) (fun g B2 hle2 hI=>?_)))))))))))
 obtain ⟨rfl,hk,hs,hl⟩:=hI
 refine ZM [(0,_),(1,_),(2,_),(4,_),(5,_),(6,_)] [_] t6 rfl (Zg (Za (xM (h:=xW Z4 (h:=x1 ZcJ 0 (h:=xV Tryz.underlying24 (h:=Zaf (h:=Zb rfl (fun g1=>?_) (fun g1=>?_)))))))))
 try simp only [sQ,ne_eq] at g1
 refine wSk (Zg (Zl (Za (xW Z4 (h:=x1 ZcJ 0 (h:=xM (h:=?_)))))))
 obtain ⟨m,hm⟩:=Zag (xs:=x.folders) (i:=g.1) om
 obtain ⟨bb4,oo4,rfl⟩:=hf.base hm
 obtain ⟨_,⟨qg5,cg5,qm5,cm5,rfl,hg5,hm5,hb5,hb5b⟩,hc5⟩:=hf.elem hm
 have hg5n:=hg5.len
 have hm5n:=hm5.len
 have hm5s:=Z7 hm5
 refine xIx Tryz.underlying24 Zbq (h:=xW Zdc (h:=y1 lk9 hc5 0 (h:=xM (h:=ZdG (h:=Zb rfl (fun g2=>?_) (fun g2=>?_))))))
 try simp only [sQ,ne_eq] at g2
 refine Zc (xM (h:=xW Z4 (h:=x1 ZcJ 0 (h:=xM (h:=xIx Tryz.underlying24 Zbq (h:=xW ZbC (h:=yL [_,_] ZbA hc5 3 (h:=xR ZyC rfl (Zrd _ _ (⟨m.next,m.mail⟩:DBox) _ hm5) (h:=xD (h:=xA (h:=ZA (Zj (Zc (xM (h:=xD (h:=xA (h:=?_)))))))))))))))))
 exact ZD (g.1+1,g.2+Zaj m.mail) [0] so2 ⟨rfl,so,by rw [Zke hm,← hs,if_pos g2],so⟩ t6 rfl
 try simp only [sQ,ne_eq] at g2
 refine ZL (ZA (Zj (Zc (xM (h:=xD (h:=xA (h:=?_)))))))
 exact ZD (g.1+1,g.2) [0] so2 ⟨rfl,so,by rw [Zke hm,← hs,if_neg g2];simp only [Nat.add_zero],Nat.le_trans hl (Nat.mul_le_mul_right _ (Nat.le_succ _))⟩ t6 rfl
 try simp only [sQ,ne_eq] at g1
 refine ZS (Zae (ZX (ZI (Zj (Za (xM (h:=xA (h:=Zd ?_))))))))
 exact eR t1 ⟨Za1 (by rw [← Zqv hs oz]),rfl,rfl⟩

theorem Zmn (q1 q2 q3:Option Addr) (c1 c2 c3:Nat) (x:DHost) (B:Kn) (hu:SlK B q1 c1 3 Zs x.users) (hf:SlK B q2 c2 5 Ze x.folders):ZaM (pj J) 76 [.agg #[str x.domain,.slice q1 x.users.length c1,.slice q2 x.folders.length c2,.int .i64 x.queue.next,.slice q3 x.queue.items.length c3]] B (.bool (Zcj x.users x.folders)):=by
 refine cB 60 Tryz.func76 (h:=?_)
 have hfn:=hf.len
 have hun:=hu.len
 refine Za (xBx [_,_,_,_,_] (h:=fun b1=>xA (h:=tL1 (Zg (Za (xA (h:=Zl (ZO (α:=Nat × Option DFolder) [0,1] (fun g=>[(3,.int .i64 g.1)]) [] (fun g=>[]) (fun g Bx=>Bx=B∧g.1≤x.folders.length∧ZdB x.users (x.folders.take g.1)=(true,g.2)∧Prev some none x.folders g.1 g.2) (fun g=>x.folders.length - g.1) (0,none) t1 rfl (⟨rfl,Nat.zero_le _,Zff,.zero⟩) (fun g B2 hle2 hI=>?_)))))))))
 obtain ⟨rfl,hk,hs,hp⟩:=hI
 refine ZM [(0,_),(1,_),(3,_)] [_] t3 rfl (Zg (Za (xM (h:=xW Z4 (h:=x1 ZcJ 0 (h:=xV Tryz.underlying24 (h:=Zaf (h:=Zb rfl (fun g1=>?_) (fun g1=>?_)))))))))
 try simp only [sQ,ne_eq] at g1
 refine wSk (Zg (Zl (Za (xW Z4 (h:=x1 ZcJ 0 (h:=xM (h:=?_)))))))
 obtain ⟨m,hm⟩:=Zag (xs:=x.folders) (i:=g.1) om
 obtain ⟨bb4,oo4,rfl⟩:=hf.base hm
 obtain ⟨_,⟨qg5,cg5,qm5,cm5,rfl,hg5,hm5,hb5,hb5b⟩,hc5⟩:=hf.elem hm
 have hg5n:=hg5.len
 have hm5n:=hm5.len
 have hm5s:=Z7 hm5
 refine xIx Tryz.underlying24 Zbq (h:=yL [_,_,_,_,_] ZhQ hc5 0 (h:=xAl [_,_,_,_,_] ZdF (h:=fun b6=>xS [_,_,_,_,_] 1 [_,_,_,_,_] Zbq (h:=tL2 (Zg (Z0 (same _ _) mo kr ⟨rfl,rfl⟩ (fun _ _=>?_)))))))
 refine aW 0 rfl ZbS (h:=aT 1 rfl (Zar fun D=>Zf rfl rfl Zi1 rfl (atL 0 rfl rfl rfl) r4) (h:=aW 2 rfl Zdc (h:=aT 3 rfl (Zar fun D=>Zf rfl rfl lk9 rfl (atL 1 rfl rfl rfl) r4) (h:=aT 4 rfl (Zar fun D=>Zbc rfl rfl Zt9 rfl (Zdb _ _ _ _ _ hu) r4) (h:=Zse 5 rfl (h:=aM 6 rfl (h:=ZaH (d:=23) rfl (fun g2=>?_) (fun g2=>?_))))))))
 try simp only [sQ,ne_eq] at g2
 refine aZ 7 rfl (h:=aZ 8 rfl (h:=aZ 9 rfl (h:=aZ 10 rfl (h:=aPT 11 rfl (h:=aM 12 rfl (h:=aZ 13 rfl (h:=aZ 14 rfl (h:=aZ 15 rfl (h:=aZ 16 rfl (h:=aPT 17 rfl (h:=aM 18 rfl (h:=aZ 19 rfl (h:=aZ 20 rfl (h:=aZ 21 rfl (h:=aZ 22 rfl (h:=aPT 23 rfl (h:=aM 24 rfl (h:=aZ 25 rfl (h:=aZ 26 rfl (h:=aZ 27 rfl (h:=aZ 28 rfl (h:=aZ 29 rfl (h:=aZ 30 rfl (h:=aZ 31 rfl (h:=aZ 32 rfl (h:=aZ 33 rfl (h:=aZ 34 rfl (h:=aZ 35 rfl (h:=aZ 36 rfl (h:=aZ 37 rfl (h:=aPT 38 rfl (h:=Zz kr kr ?_))))))))))))))))))))))))))))))))
 refine Zj (Zb (t:=true) rfl (fun _=>Za (xA (h:=Zd (ZH (Zp (Z3 (ZH (Zp ?_)))))))) (fun h=>Bool.noConfusion h))
 exact eR t1 ⟨Zh (ZcQ hm hs (by simp [Zb2,Z5,DFolder.box,g1,g2];try omega)).symm,rfl,rfl⟩
 try simp only [sQ,ne_eq] at g2
 refine aW 7 rfl ZfT (h:=aT 8 rfl (Zar fun D=>Zf rfl rfl lk9 rfl (atL 1 rfl rfl rfl) r4) (h:=aT 9 rfl (Zar fun D=>Zbc rfl rfl Zlq rfl (Zb6 _ om2 _) r4) (h:=?_)))
 refine aN 10 rfl (h:=aPF 11 rfl (h:=aM 12 rfl (h:=ZaH (d:=29) rfl (fun g3=>?_) (fun g3=>?_))))
 try simp only [sQ,ne_eq] at g3
 refine aZ 13 rfl (h:=aZ 14 rfl (h:=aZ 15 rfl (h:=aZ 16 rfl (h:=aPT 17 rfl (h:=aM 18 rfl (h:=aZ 19 rfl (h:=aZ 20 rfl (h:=aZ 21 rfl (h:=aZ 22 rfl (h:=aPT 23 rfl (h:=aM 24 rfl (h:=aZ 25 rfl (h:=aZ 26 rfl (h:=aZ 27 rfl (h:=aZ 28 rfl (h:=aZ 29 rfl (h:=aZ 30 rfl (h:=aZ 31 rfl (h:=aZ 32 rfl (h:=aZ 33 rfl (h:=aZ 34 rfl (h:=aZ 35 rfl (h:=aZ 36 rfl (h:=aZ 37 rfl (h:=aPT 38 rfl (h:=Zz kr kr ?_))))))))))))))))))))))))))
 refine Zj (Zb (t:=true) rfl (fun _=>Za (xA (h:=Zd (ZH (Zp (Z3 (ZH (Zp ?_)))))))) (fun h=>Bool.noConfusion h))
 exact eR t1 ⟨Zh (ZcQ hm hs (by simp [Zb2,Z5,DFolder.box,g1,g2,g3];try omega)).symm,rfl,rfl⟩
 try simp only [sQ,ne_eq] at g3
 refine aW 13 rfl Zea (h:=aT 14 rfl (Zar fun D=>Zf rfl rfl Zs1 rfl (atL 1 rfl rfl rfl) r4) (h:=aT 15 rfl (Zar fun D=>Zbc rfl rfl Zty rfl (ZgI _ _ _ _ hg5) r4) (h:=aN 16 rfl (h:=aPF 17 rfl (h:=aM 18 rfl (h:=ZaH (d:=35) rfl (fun g4=>?_) (fun g4=>?_)))))))
 try simp only [sQ,ne_eq] at g4
 refine aZ 19 rfl (h:=aZ 20 rfl (h:=aZ 21 rfl (h:=aZ 22 rfl (h:=aPT 23 rfl (h:=aM 24 rfl (h:=aZ 25 rfl (h:=aZ 26 rfl (h:=aZ 27 rfl (h:=aZ 28 rfl (h:=aZ 29 rfl (h:=aZ 30 rfl (h:=aZ 31 rfl (h:=aZ 32 rfl (h:=aZ 33 rfl (h:=aZ 34 rfl (h:=aZ 35 rfl (h:=aZ 36 rfl (h:=aZ 37 rfl (h:=aPT 38 rfl (h:=Zz kr kr ?_))))))))))))))))))))
 refine Zj (Zb (t:=true) rfl (fun _=>Za (xA (h:=Zd (ZH (Zp (Z3 (ZH (Zp ?_)))))))) (fun h=>Bool.noConfusion h))
 exact eR t1 ⟨Zh (ZcQ hm hs (by simp [Zb2,Z5,DFolder.box,g1,g2,g3,g4];try omega)).symm,rfl,rfl⟩
 try simp only [sQ,ne_eq] at g4
 refine aW 19 rfl ZbC (h:=aT 20 rfl (Zar fun D=>ZT [_,_] rfl rfl ZbA rfl (Z9 1 rfl rfl rfl) r4) (h:=aT 21 rfl (Zar fun D=>Zbc rfl rfl Ztx rfl (ZgG _ _ (⟨m.next,m.mail⟩:DBox) _ hm5) r4) (h:=aN 22 rfl (h:=aPF 23 rfl (h:=aM 24 rfl (h:=ZaH (d:=41) rfl (fun g5=>?_) (fun g5=>?_)))))))
 try simp only [sQ,ne_eq] at g5
 refine aZ 25 rfl (h:=aZ 26 rfl (h:=aZ 27 rfl (h:=aZ 28 rfl (h:=aZ 29 rfl (h:=aZ 30 rfl (h:=aZ 31 rfl (h:=aZ 32 rfl (h:=aZ 33 rfl (h:=aZ 34 rfl (h:=aZ 35 rfl (h:=aZ 36 rfl (h:=aZ 37 rfl (h:=aPT 38 rfl (h:=Zz kr kr ?_))))))))))))))
 refine Zj (Zb (t:=true) rfl (fun _=>Za (xA (h:=Zd (ZH (Zp (Z3 (ZH (Zp ?_)))))))) (fun h=>Bool.noConfusion h))
 exact eR t1 ⟨Zh (ZcQ hm hs (by simp [Zb2,Z5,DFolder.box,g1,g2,g3,g4,g5];try omega)).symm,rfl,rfl⟩
 try simp only [sQ,ne_eq] at g5
 refine aM 25 rfl (h:=Zm3 26 rfl (h:=aM 27 rfl (h:=ZaH (d:=44) rfl (fun g6=>?_) (fun g6=>?_))))
 try simp only [sQ,ne_eq] at g6
 refine aW 28 rfl Z4 (h:=aT 29 rfl (Zar fun D=>Zf rfl rfl ZcJ rfl (atL 0 rfl rfl rfl) r4) (h:=aM 30 rfl (h:=aU 31 rfl (h:=?_))))
 obtain ⟨y,hy⟩:=ZeB (xs:=x.folders) (i:=(↑g.1 - 1)) om om
 obtain ⟨_,⟨qg12,cg12,qm12,cm12,rfl,hg12,hm12,hb12,hb12b⟩,hc12⟩:=hf.elem hy
 have hg12n:=hg12.len
 have hm12n:=hm12.len
 have hm12s:=Z7 hm12
 refine aIx 32 rfl Tryz.underlying24 Zbq (h:=?_)
 have hpe:=hp.at hy oz
 refine aT 33 rfl (Zar fun D=>ZT [_,_,_,_,_] rfl rfl ZhQ rfl (ZiO hc12 0 rfl rfl) r4) (h:=aT 34 rfl (Zar fun D=>ZT [_,_,_,_,_] rfl rfl ZhQ rfl (Z9 1 rfl rfl rfl) r4) (h:=aT 35 rfl (Zar fun D=>Zbc rfl rfl ZwU rfl (Zmm y m _ _ _ _ _ _ _ _ _) r4) (h:=aN 36 rfl (h:=aPT 37 rfl (h:=aPF 38 rfl (h:=Zz kr kr ?_))))))
 refine Zj (Zb rfl (fun g7=>?_) (fun g7=>?_))
 try simp only [sQ,ne_eq] at g7
 refine Za (xA (h:=Zd (ZH (Zp (Z3 (ZH (Zp ?_)))))))
 exact eR t1 ⟨Zh (ZcQ hm hs (by simp [Zb2,Z5,DFolder.box,g1,g2,g3,g4,g5,g6,g7,hpe];try omega)).symm,rfl,rfl⟩
 try simp only [sQ,ne_eq] at g7
 refine ZL (ZA (Zj (Zc (xM (h:=xD (h:=xA (h:=?_)))))))
 exact ZD (g.1+1,some m) [0] so2 ⟨rfl,oz,Zcm hm hs (by rw [hpe];simp [Zb2,Z5,DFolder.box,g3,g4,g5,g7];omega),.succ hm⟩ t3 rfl
 try simp only [sQ,ne_eq] at g6
 refine aZ 28 rfl (h:=aZ 29 rfl (h:=aZ 30 rfl (h:=aZ 31 rfl (h:=aZ 32 rfl (h:=aZ 33 rfl (h:=aZ 34 rfl (h:=aZ 35 rfl (h:=aZ 36 rfl (h:=aPF 37 rfl (h:=aPF 38 rfl (h:=Zz kr kr ?_)))))))))))
 refine Zj (Zb (t:=false) rfl (fun h=>Bool.noConfusion h) (fun _=>ZL (ZA (Zj (Zc (xM (h:=xD (h:=xA (h:=?_)))))))))
 exact ZD (g.1+1,some m) [0] so2 ⟨rfl,oz,Zcm hm hs (by rw [hp.at0 oz];simp [Zb2,Z5,DFolder.box,g3,g4,g5];omega),.succ hm⟩ t3 rfl
 try simp only [sQ,ne_eq] at g1
 refine ZS (Zae (ZX (ZI (Zj (Za (xW Z4 (h:=x1 ZcJ 0 (h:=xV Tryz.underlying24 (h:=ZcU (h:=xA (h:=Zd ?_)))))))))))
 exact eR t1 ⟨Zh (by rw [Zlm (Zei hs oz),Bool.eq_iff_iff];simp;try omega),rfl,rfl⟩

theorem ZbK (q1 q2 q3:Option Addr) (c1 c2 c3:Nat) (x:DHost) (hd:x.domain.length≤2000000) (B:Kn) (hu:SlK B q1 c1 3 Zs x.users) (hf:SlK B q2 c2 5 Ze x.folders) (hi:SlK B q3 c3 4 Zw x.queue.items):ZaM (pj J) 30 [.agg #[str x.domain,.slice q1 x.users.length c1,.slice q2 x.folders.length c2,.int .i64 x.queue.next,.slice q3 x.queue.items.length c3]] B (.bool (Zx x)):=by
 refine cB 87 Tryz.func30 (h:=?_)
 have hfn:=hf.len
 have hun:=hu.len
 have hin:=hi.len
 refine Za (xBx [_,_,_,_,_] (h:=fun b1=>xA (h:=tL1 (Zg (Za (xW Zju (h:=x1 lk9 0 (h:=xR ZzF rfl (Zl0 _ om2 _) (h:=?_)))))))))
 refine xN (h:=xM (h:=Zo (d:=10) rfl (fun g1=>?_) (fun g1=>?_)))
 try simp only [sQ,ne_eq] at g1
 refine xP (h:=xP (h:=xP (h:=xP (h:=xT (h:=xM (h:=xP (h:=xP (h:=xP (h:=xP (h:=xT (h:=xM (h:=xP (h:=xP (h:=xP (h:=xT (h:=Zb (t:=true) rfl (fun _=>Za (xA (h:=Zd (Zp ?_)))) (fun h=>Bool.noConfusion h)))))))))))))))))
 exact eR t1 ⟨Zh (by simp [Zx,g1]),rfl,rfl⟩
 try simp only [sQ,ne_eq] at g1
 refine xW ZbS (h:=x1 Zi1 0 (h:=xR ZzE rfl (Znf _ _ _ _ hu) (h:=xN (h:=xF (h:=xM (h:=Zo (d:=16) rfl (fun g2=>?_) (fun g2=>?_)))))))
 try simp only [sQ,ne_eq] at g2
 refine xP (h:=xP (h:=xP (h:=xP (h:=xT (h:=xM (h:=xP (h:=xP (h:=xP (h:=xT (h:=Zb (t:=true) rfl (fun _=>Za (xA (h:=Zd (Zp ?_)))) (fun h=>Bool.noConfusion h)))))))))))
 exact eR t1 ⟨Zh (by simp [Zx,g1,g2]),rfl,rfl⟩
 try simp only [sQ,ne_eq] at g2
 refine xW ZaU (h:=xL [_,_] Zb4 0 (h:=xR ZxX rfl (Zf9 _ _ x.queue _ hi) (h:=xN (h:=xF (h:=xM (h:=Zo (d:=22) rfl (fun g3=>?_) (fun g3=>?_)))))))
 try simp only [sQ,ne_eq] at g3
 refine xP (h:=xP (h:=xP (h:=xT (h:=Zb (t:=true) rfl (fun _=>Za (xA (h:=Zd (Zp ?_)))) (fun h=>Bool.noConfusion h)))))
 exact eR t1 ⟨Zh (by simp [Zx,g1,g2,g3]),rfl,rfl⟩
 try simp only [sQ,ne_eq] at g3
 refine xL [_,_,_,_,_] ZW 0 (h:=xR ZzD rfl (Zmn _ _ _ _ _ _ x _ hu hf) (h:=xN (h:=xF (h:=Zb rfl (fun g4=>?_) (fun g4=>?_)))))
 try simp only [sQ,ne_eq] at g4
 refine Za (xA (h:=Zd (Zp ?_)))
 exact eR t1 ⟨Zh (by simp [Zx,g1,g2,g3,g4]),rfl,rfl⟩
 try simp only [sQ,ne_eq] at g4
 refine wSk (Zg (Za (xA (h:=Zl (ZO (α:=Nat) [0,1,26] (fun k=>[(3,.int .i64 k)]) [] (fun k=>[]) (fun k Bx=>Bx=B∧k≤x.users.length∧∀z,z∈x.users.take k→Za3 x.folders z=true) (fun k=>x.users.length - k) 0 t1 rfl (⟨rfl,Nat.zero_le _,by simp⟩) (fun k B6 hle6 hI=>?_))))))
 obtain ⟨rfl,hk,ha⟩:=hI
 refine ZM [(0,_),(1,_),(3,_),(26,_)] [_] t4 rfl (Zg (Za (xM (h:=xW ZbS (h:=x1 Zi1 0 (h:=xV Tryz.underlying23 (h:=Zaf (h:=Zb rfl (fun g5=>?_) (fun g5=>?_)))))))))
 try simp only [sQ,ne_eq] at g5
 refine wSk (Zg (Zl (Zg (Z0 (same _ _) mo kr ⟨rfl,rfl⟩ (fun _ _=>?_)))))
 refine aT 0 rfl (Zar fun D=>ZT [_,_,_,_,_] rfl rfl ZW rfl (Z9 0 rfl rfl rfl) r4) (h:=aW 1 rfl ZbS (h:=aT 2 rfl (Zar fun D=>Zf rfl rfl Zi1 rfl (atL 0 rfl rfl rfl) r4) (h:=aM 3 rfl (h:=?_))))
 obtain ⟨w,hw⟩:=Zag (xs:=x.users) (i:=k) om
 obtain ⟨bb8,oo8,rfl⟩:=hu.base hw
 obtain ⟨_,⟨rfl,hb9,hb9b⟩,hc9⟩:=hu.elem hw
 refine aIx 4 rfl Tryz.underlying23 Ze3 (h:=aW 5 rfl Zdj (h:=aT 6 rfl (Zar fun D=>Zf rfl rfl lk9 rfl (hc9 _ 0 _ rfl) r4) (h:=aT 7 rfl (Zar fun D=>Zbc rfl rfl Zvn rfl (ZdO _ _ _ _ _ _ x w.name [105,110,98,111,120] om2 om2 _ hf) r4) (h:=?_))))
 refine Zse 8 rfl (h:=aM 9 rfl (h:=ZaH (d:=43) rfl (fun g6=>?_) (fun g6=>?_)))
 try simp only [sQ,ne_eq] at g6
 refine aZ 10 rfl (h:=aZ 11 rfl (h:=aZ 12 rfl (h:=aZ 13 rfl (h:=aZ 14 rfl (h:=aZ 15 rfl (h:=aZ 16 rfl (h:=aZ 17 rfl (h:=aZ 18 rfl (h:=aZ 19 rfl (h:=aZ 20 rfl (h:=aZ 21 rfl (h:=aZ 22 rfl (h:=aZ 23 rfl (h:=aZ 24 rfl (h:=aPT 25 rfl (h:=Zz kr kr ?_))))))))))))))))
 refine Zj (Zb (t:=true) rfl (fun _=>Za (xA (h:=Zd (ZH (Zp (Z3 (ZH (Zp ?_)))))))) (fun h=>Bool.noConfusion h))
 exact eR t1 ⟨Zh (Zjf hw (ZlO g6)).symm,rfl,rfl⟩
 try simp only [sQ,ne_eq] at g6
 refine aT 10 rfl (Zar fun D=>ZT [_,_,_,_,_] rfl rfl ZW rfl (Z9 0 rfl rfl rfl) r4) (h:=aW 11 rfl ZbS (h:=aT 12 rfl (Zar fun D=>Zf rfl rfl Zi1 rfl (atL 0 rfl rfl rfl) r4) (h:=aM 13 rfl (h:=aIx 14 rfl Tryz.underlying23 Ze3 (h:=aW 15 rfl Zdj (h:=aT 16 rfl (Zar fun D=>Zf rfl rfl lk9 rfl (hc9 _ 0 _ rfl) r4) (h:=aT 17 rfl (Zar fun D=>Zbc rfl rfl Zy2 rfl (Zml _ _ _ _ _ _ x _ _ hf) r4) (h:=aW 18 rfl ZbS (h:=aT 19 rfl (Zar fun D=>Zf rfl rfl Zi1 rfl (atL 0 rfl rfl rfl) r4) (h:=aM 20 rfl (h:=aIx 21 rfl Tryz.underlying23 Ze3 (h:=aW 22 rfl ZhZ (h:=aT 23 rfl (Zar fun D=>Zf rfl rfl lk3 rfl (hc9 _ 2 _ rfl) r4) (h:=Zm3 24 rfl (h:=aPF 25 rfl (h:=Zz kr kr ?_))))))))))))))))
 refine Zj (Zb rfl (fun g7=>?_) (fun g7=>?_))
 try simp only [sQ,ne_eq] at g7
 refine Za (xA (h:=Zd (ZH (Zp (Z3 (ZH (Zp ?_)))))))
 exact eR t1 ⟨Zh (Zjf hw (ZlN g7)).symm,rfl,rfl⟩
 try simp only [sQ,ne_eq] at g7
 refine ZL (ZA (Zj (Zc (xM (h:=xD (h:=xA (h:=?_)))))))
 exact ZD (k+1) [0] so2 ⟨rfl,oz,Zbu hw ha (ZlM g6 g7)⟩ t4 rfl
 try simp only [sQ,ne_eq] at g5
 refine ZS (Zae (ZX (ZI (Zj (Zg (Za (xA (h:=Zl (ZO (α:=Nat) [0,1,3,26,31] (fun j=>[(4,.int .i64 j)]) [] (fun j=>[]) (fun j Bx=>Bx=B6∧j≤x.queue.items.length∧∀z,z∈x.queue.items.take j→ZaR x.users z=true) (fun j=>x.queue.items.length - j) 0 t1 rfl (⟨rfl,Nat.zero_le _,by simp⟩) (fun j B12 hle12 hI=>?_))))))))))
 obtain ⟨rfl,hj,hb⟩:=hI
 refine ZM [(0,_),(1,_),(3,_),(4,_),(26,_),(31,_)] [_] t6 rfl (Zg (Za (xM (h:=xW ZaU (h:=xW Zan (h:=x1 Zej 0 (h:=xV Tryz.underlying25 (h:=Zaf (h:=Zb rfl (fun g8=>?_) (fun g8=>?_))))))))))
 try simp only [sQ,ne_eq] at g8
 refine wSk (Zg (Zl (Za (xW ZaU (h:=xW Zan (h:=x1 Zej 0 (h:=xM (h:=?_))))))))
 obtain ⟨y,hy⟩:=Zag (xs:=x.queue.items) (i:=j) om
 obtain ⟨bb14,oo14,rfl⟩:=hi.base hy
 obtain ⟨_,⟨qi15,ci15,rfl,hi15,hb15,hb15b⟩,hc15⟩:=hi.elem hy
 have hi15n:=hi15.len
 refine xIx Tryz.underlying25 Zdf (h:=yL [_,_,_,_] Zh4 hc15 0 (h:=xAl [_,_,_,_] Zgw (h:=fun b16=>xS [_,_,_,_] 1 [_,_,_,_] Zdf (h:=tL2 (Za (xW ZbS (h:=x1 Zi1 0 (h:=xW ZkG (h:=x1 lk9 1 (h:=xR Zt9 rfl (Zdb _ _ _ _ _ hu) (h:=Zaf (h:=xM (h:=Zo (d:=80) rfl (fun g9=>?_) (fun g9=>?_))))))))))))))
 try simp only [sQ,ne_eq] at g9
 refine xP (h:=xP (h:=xP (h:=xP (h:=xP (h:=xT (h:=Zb (t:=true) rfl (fun _=>Za (xA (h:=Zd (ZH (Zp (Z3 (ZH (Zp ?_)))))))) (fun h=>Bool.noConfusion h)))))))
 exact eR t1 ⟨Zh (Zji hy (Zle g9)).symm,rfl,rfl⟩
 try simp only [sQ,ne_eq] at g9
 refine xL [_,_,_,_,_] ZW 0 (h:=xW ZaO (h:=x1 Ze9 1 (h:=xR Zy1 rfl (Zkx _ _ _ _ _ _ x _ _ y.left _ hu hi15) (h:=xN (h:=xF (h:=Zb rfl (fun ga=>?_) (fun ga=>?_)))))))
 try simp only [sQ,ne_eq] at ga
 refine Za (xA (h:=Zd (ZH (Zp (Z3 (ZH (Zp ?_)))))))
 exact eR t1 ⟨Zh (Zji hy (Zld ga)).symm,rfl,rfl⟩
 try simp only [sQ,ne_eq] at ga
 refine ZL (ZA (Zj (Zc (xM (h:=xD (h:=xA (h:=?_)))))))
 exact ZD (j+1) [0] so2 ⟨rfl,oz,Zbu hy hb (Zlc g9 ga)⟩ t6 rfl
 try simp only [sQ,ne_eq] at g8
 refine ZS (Zae (ZX (ZI (Zj (Za (xA (h:=Zd ?_)))))))
 exact eR t1 ⟨Zh (ZpC g1 g2 g3 g4 (Ze0 (ZbO oz ha)) (Ze0 (ZbO oz hb))).symm,rfl,rfl⟩

theorem ZtL (q:Option Addr) (cp:Nat) (gs:List DGrant) (B:Kn) (hg:SlK B q cp 2 ZZ gs):Zv (pj J) 141 [.slice q gs.length cp] B [] (Zn2 gs B):=by
 refine cB 46 Tryz.func141 (h:=?_)
 have hgn:=hg.len
 refine Za (xA (h:=xA (h:=Zg (Za (xM (h:=xV Tryz.underlying37 (h:=Zbp (h:=Zb rfl (fun g0=>?_) (fun g0=>?_)))))))))
 try simp only [sQ,ne_eq] at g0
 refine Za (xA (h:=xA (h:=Zd (Zp ?_))))
 exact ZjG .ret (.inl rfl) [_,_] t2 (by simp [ZcR];omega)
 try simp only [sQ,ne_eq] at g0
 refine wSk (Za (Zn (Zqj rfl rfl (fun b1 l1 hl1=>xA (h:=tL1 (Za (xA (h:=Zg (Za (xM (h:=xV Tryz.underlying37 (h:=xM (h:=Zl (ZO (α:=Nat × Str × Cells) [0,4,10,12,13] (fun g=>[(5,str g.2.1),(14,.int .i64 g.1)]) [0] (fun g=>[g.2.2]) (fun g Bx=>Bx=B∧g.1≤gs.length∧ZdQ (gs.take g.1)=(true,g.2.1)∧g.2.1.length≤2000000∧ZvS g.2.2 b1 (Zt6 (gs.take g.1))) (fun g=>gs.length - g.1) (0,[],_) t2 rfl (⟨rfl,Nat.zero_le _,Zff,by simp,hl1⟩) (fun g B2 hle2 hI=>?_)))))))))))))))
 obtain ⟨rfl,hk,hs,hnm,hml⟩:=hI
 refine ZM [(0,_),(4,_),(5,_),(10,_),(12,_),(13,_),(14,_)] [_] t7 rfl (Za (Zaf (h:=Zg (Zb rfl (fun g1=>?_) (fun g1=>?_)))))
 try simp only [sQ,ne_eq] at g1
 refine wSk (Zg (Zl (Za ?_)))
 obtain ⟨m,hm⟩:=Zag (xs:=gs) (i:=g.1) om
 obtain ⟨bb4,oo4,rfl⟩:=hg.base hm
 obtain ⟨_,⟨rfl,hb5⟩,hc5⟩:=hg.elem hm
 refine xIx Tryz.underlying37 ZbM (h:=yL [_,_] Zpq hc5 0 (h:=xAl [_,_] ZdX (h:=fun b6=>xS [_,_] 1 [_,_] ZbM (h:=tL2 (Zg (Za (xW ZcZ (h:=x1 lk9 1 (h:=xR ZvQ rfl (ZdA _ om2 _) (h:=?_))))))))))
 refine xN (h:=xM (h:=Zo (d:=22) rfl (fun g2=>?_) (fun g2=>?_)))
 try simp only [sQ,ne_eq] at g2
 refine xP (h:=xP (h:=xP (h:=xP (h:=xT (h:=Zb (t:=true) rfl (fun _=>Za (xA (h:=xA (h:=Zd (Zp (ZH (Zp (Z3 (ZH (Zp ?_)))))))))) (fun h=>Bool.noConfusion h))))))
 exact ZjG .ret (.inl rfl) [_,_] t2 (ZdV hm hs (by rw [ZcT,Zbw g.2.1 m.user];simp [g2];try omega))
 try simp only [sQ,ne_eq] at g2
 refine xW ZcZ (h:=x1 lk9 1 (h:=xM (h:=Zn (ZtY rfl rfl rfl rfl (xF (h:=Zb rfl (fun g3=>?_) (fun g3=>?_)))))))
 try simp only [sQ,ne_eq] at g3
 refine Za (xA (h:=xA (h:=Zd (Zp (ZH (Zp (Z3 (ZH (Zp ?_)))))))))
 exact ZjG .ret (.inl rfl) [_,_] t2 (ZdV hm hs (by rw [ZcT,Zbw g.2.1 m.user];simp [g3];try omega))
 try simp only [sQ,ne_eq] at g3
 refine wSk (Zg (Za (xW Zhr (h:=x1 lk3 1 (h:=Zaf (h:=xM (h:=Zo (d:=31) rfl (fun g4=>?_) (fun g4=>?_))))))))
 try simp only [sQ,ne_eq] at g4
 refine xP (h:=xP (h:=xP (h:=xP (h:=xT (h:=Zb (t:=true) rfl (fun _=>Za (xA (h:=xA (h:=Zd (Zp (ZH (Zp (Z3 (ZH (Zp ?_)))))))))) (fun h=>Bool.noConfusion h))))))
 exact ZjG .ret (.inl rfl) [_,_] t2 (ZdV hm hs (by rw [ZcT,Zbw g.2.1 m.user];simp [g4];try omega))
 try simp only [sQ,ne_eq] at g4
 refine xW Zhr (h:=x1 lk3 1 (h:=xR Zyl rfl (ZsF _ _) (h:=xN (h:=xF (h:=Zb rfl (fun g5=>?_) (fun g5=>?_))))))
 try simp only [sQ,ne_eq] at g5
 refine Za (xA (h:=xA (h:=Zd (Zp (ZH (Zp (Z3 (ZH (Zp ?_)))))))))
 exact ZjG .ret (.inl rfl) [_,_] t2 (ZdV hm hs (Bool.eq_false_iff.2 fun hc=>by simp only [ZcT,Bool.and_eq_true,decide_eq_true_eq] at hc;simp only [Bool.and_eq_false_iff,decide_eq_false_iff_not] at g5;omega))
 try simp only [sQ,ne_eq] at g5
 refine wSk (Za (xM (h:=xW ZcZ (h:=x1 lk9 1 (h:=xW Zhr (h:=x1 lk3 1 (h:=Zn (Zm7 (k:=m.user) (v:=m.rights) 0 rfl hml rfl rfl Tryz.underlying207 Tryz.underlying9 rfl rfl rfl (fun l9 hl9=>tL2 (Zc (xW ZcZ (h:=x1 lk9 1 (h:=xA (h:=ZA (Zj (Zc (xD (h:=xM (h:=?_)))))))))))))))))))
 exact ZD (g.1+1,m.user,l9) [0] so2 ⟨rfl,so,Zcm hm hs (by rw [ZcT,Zbw g.2.1 m.user,g2,g3];simp at g5 ⊢;omega),oy,by rw [← ZuW hm hs (by rw [Zbw g.2.1 m.user,g3];rfl)];exact hl9⟩ t7 rfl
 try simp only [sQ,ne_eq] at g1
 refine ZS (Zae (ZX (ZI (Zj (Za (xM (h:=xA (h:=xA (h:=Zd ?_)))))))))
 exact Zvk .ret (.inl rfl) [_,_] rfl t2 (by rw [Zm2 (Zei hs oz)];simp;omega) (by have e:=hml;rw [List.take_of_length_le oz] at e;exact e)

theorem Zrh (q:Option Addr) (cp:Nat) (gs:List DGrant) (B:Kn) (hg:SlK B q cp 2 ZZ gs):ZaM (pj J) 99 [.slice q gs.length cp] B (.bool (ZcR gs)):=by
 refine cB 11 Tryz.func99 (h:=?_)
 refine Za (xA (h:=Za (xM (h:=xC Zyv rfl (ZtL _ _ _ _ hg) (h:=?_)))))
 rintro _ B1 _ hle1 ⟨m1,l1,rfl,rfl,rfl,hl1⟩
 refine xM (h:=xE (h:=xE (h:=xA (h:=xA (h:=tL1 (Za (xM (h:=xA (h:=Zd ?_)))))))))
 exact eR t1 ⟨rfl,rfl,rfl⟩

theorem ZwZ (a b:Str) (B:Kn):ZaM (pj J) 127 [str a,str b] B (.int .i64 (Lib.compareBytes a b)):=by
 refine cB 8 Tryz.func127 (h:=?_)
 refine Za (xA (h:=Za (xM (h:=xM (h:=Zn (Zxx (fn:=Tryz.f163) rfl rfl Tryz.func163 rfl rfl ZwF ZwG rfl rfl (xA (h:=Zd ?_))))))))
 exact eR t1 ⟨rfl,rfl,rfl⟩

theorem Zub (a b:Str) (B:Kn):ZaM (pj J) 94 [str a,str b] B (.int .i64 (Lib.compareBytes a b)):=by
 refine cB 8 Tryz.func94 (h:=?_)
 refine Za (xA (h:=Za (xM (h:=xM (h:=xR Zyw rfl (ZwZ a b _) (h:=xA (h:=Zd ?_)))))))
 exact eR t1 ⟨rfl,rfl,rfl⟩

theorem ZnK (f:DFolder) (qa qb:Option Addr) (ca cb:Nat) (ow nm:Str) (B:Kn):ZaM (pj J) 53 [.agg #[str f.owner,str f.name,.slice qa f.grants.length ca,.int .i64 f.next,.slice qb f.mail.length cb],str ow,str nm] B (.int .i64 (ZwY f ow nm)):=by
 refine cB 19 Tryz.func53 (h:=?_)
 refine Za (xBx [_,_,_,_,_] (h:=fun b1=>xA (h:=tL1 (Zg (Za (xW Zdc (h:=x1 lk9 0 (h:=xM (h:=xR ZyY rfl (Zub f.owner ow _) (h:=xA (h:=Za (xM (h:=Zbm (h:=Zb rfl (fun g1=>?_) (fun g1=>?_)))))))))))))))
 try simp only [sQ,ne_eq] at g1
 refine Za (xM (h:=xA (h:=Zd (Zp ?_))))
 exact eR t1 ⟨Za1 (by rw [ZwY,if_pos g1]),rfl,rfl⟩
 try simp only [sQ,ne_eq] at g1
 refine wSk (Za (xW ZfT (h:=x1 lk9 0 (h:=xM (h:=xR ZyY rfl (Zub f.name nm _) (h:=xA (h:=Zd ?_)))))))
 exact eR t1 ⟨Za1 (by rw [ZwY,if_neg (fun h=>h g1)]),rfl,rfl⟩

theorem Zt2 (b o:Nat) (q1 q2 q3:Option Addr) (c1 c2 c3:Nat) (x:DHost) (u:Str) (B:Kn) (hh:Zbi B b o [str x.domain,.slice q1 x.users.length c1,.slice q2 x.folders.length c2,.int .i64 x.queue.next,.slice q3 x.queue.items.length c3]) (hf:SlK B q2 c2 5 Ze x.folders):ZaM (pj J) 61 [ptr ⟨b,o,none⟩,str u] B (.int .i64 (ZfM x.folders u)):=by
 refine cB 28 Tryz.func61 (h:=?_)
 have hfn:=hf.len
 refine Za (xA (h:=Za (xA (h:=Zg (Za (xM (h:=xNc (h:=xW Z4 (h:=Zn (Zf rfl rfl ZcJ rfl (hh _ 2 _ rfl) (xV Tryz.underlying24 (h:=xM (h:=Zl (ZO (α:=Nat × Int) [0,1,4,11,12] (fun g=>[(5,.int .i64 g.2),(13,.int .i64 g.1)]) [] (fun g=>[]) (fun g Bx=>Bx=B∧g.1≤x.folders.length∧g.2=ZfM (x.folders.take g.1) u∧-1*g.1≤g.2∧g.2≤g.1*200) (fun g=>x.folders.length - g.1) (0,0) t2 rfl (⟨rfl,Nat.zero_le _,by simp [ZfM],by simp,by simp⟩) (fun g B1 hle1 hI=>?_)))))))))))))))
 obtain ⟨rfl,hk,hs,hl0,hl1⟩:=hI
 refine ZM [(0,_),(1,_),(4,_),(5,_),(11,_),(12,_),(13,_)] [] t7 rfl (Za (Zaf (h:=Zg (Zb rfl (fun g1=>?_) (fun g1=>?_)))))
 try simp only [sQ,ne_eq] at g1
 refine wSk (Zg (Zl (Za ?_)))
 obtain ⟨m,hm⟩:=Zag (xs:=x.folders) (i:=g.1) om
 obtain ⟨bb3,oo3,rfl⟩:=hf.base hm
 obtain ⟨_,⟨qg4,cg4,qm4,cm4,rfl,hg4,hm4,hb4,hb4b⟩,hc4⟩:=hf.elem hm
 have hg4n:=hg4.len
 have hm4n:=hm4.len
 have hm4s:=Z7 hm4
 refine xIx Tryz.underlying24 Zbq (h:=yL [_,_,_,_,_] ZhQ hc4 0 (h:=xAl [_,_,_,_,_] ZdF (h:=fun b5=>xS [_,_,_,_,_] 0 [_,_,_,_,_] Zbq (h:=tL1 (Za (xW Zdc (h:=x1 lk9 0 (h:=xM (h:=ZdG (h:=Zb rfl (fun g2=>?_) (fun g2=>?_)))))))))))
 try simp only [sQ,ne_eq] at g2
 have hbs:=ZkO (⟨m.next,m.mail⟩:DBox)
 refine Zc (xM (h:=xW ZbC (h:=xL [_,_] ZbA 0 (h:=xR ZyN rfl (Zr2 _ _ (⟨m.next,m.mail⟩:DBox) _ hm4) (h:=xD (h:=xA (h:=ZA (Zj (Zc (xD (h:=xM (h:=?_))))))))))))
 exact ZD (g.1+1,g.2+Zen ⟨m.next,m.mail⟩) [] so2 ⟨rfl,so,by rw [Zkd hm,← hs,if_pos g2],so,so⟩ t7 rfl
 try simp only [sQ,ne_eq] at g2
 refine ZL (ZA (Zj (Zc (xD (h:=xM (h:=?_))))))
 exact ZD (g.1+1,g.2) [] so2 ⟨rfl,so,by rw [Zkd hm,← hs,if_neg g2,Int.add_zero],so,so⟩ t7 rfl
 try simp only [sQ,ne_eq] at g1
 refine ZS (Zae (ZX (ZI (Zj (Za (xM (h:=xA (h:=Zd ?_))))))))
 exact eR t1 ⟨Za1 (by rw [← Zqs hs oz]),rfl,rfl⟩

theorem ZmI (b o:Nat) (q1 q2 q3:Option Addr) (c1 c2 c3:Nat) (x:DHost) (u:Str) (more:Int) (hn:u.length≤2000000) (hm0:0≤more) (hm1:more≤2000000) (B:Kn) (hh:Zbi B b o [str x.domain,.slice q1 x.users.length c1,.slice q2 x.folders.length c2,.int .i64 x.queue.next,.slice q3 x.queue.items.length c3]) (hu:SlK B q1 c1 3 Zs x.users) (hf:SlK B q2 c2 5 Ze x.folders):ZaM (pj J) 68 [ptr ⟨b,o,none⟩,str u,.int .i64 more] B (.bool (Zco x u more)):=by
 refine cB 30 Tryz.func68 (h:=?_)
 have hfn:=hf.len
 have hub:=Zsx x.folders u
 refine Za (xA (h:=Za (xM (h:=xNc (h:=xW ZbS (h:=Zn (Zf rfl rfl Zi1 rfl (hh _ 1 _ rfl) (xM (h:=xR Zyb rfl (Zf5 _ _ _ u om2 _ hu) (h:=?_))))))))))
 refine xM (h:=xE (h:=xE (h:=xAl [_,_,_] Zgy (h:=fun b2=>xS [_,_,_] 0 [_,_,_] Ze3 (h:=xA (h:=tL1 (Zg (Z0 (same _ _) mo kr ⟨rfl,rfl⟩ (fun _ _=>?_)))))))))
 refine aM 0 rfl (h:=aN 1 rfl (h:=aM 2 rfl (h:=ZaH (d:=20) rfl (fun g1=>?_) (fun g1=>?_))))
 refine aZ 3 rfl (h:=aZ 4 rfl (h:=aZ 5 rfl (h:=aZ 6 rfl (h:=aZ 7 rfl (h:=aZ 8 rfl (h:=aZ 9 rfl (h:=aZ 10 rfl (h:=aPT 11 rfl (h:=aA 12 rfl (h:=Zz kr kr ?_))))))))))
 refine Zj (Zd ?_)
 exact eR t1 ⟨Zh (by rw [Zco,g1];rfl),rfl,rfl⟩
 refine aM 3 rfl (h:=aM 4 rfl (h:=aT 5 rfl (Zar fun D=>Zbc rfl rfl Zy5 rfl (Zt2 _ _ _ _ _ _ _ _ x u _ hh hf) r4) (h:=aM 6 rfl (h:=aD 7 rfl (h:=aW 8 rfl ZhZ (h:=aT 9 rfl (Zar fun D=>Zf rfl rfl lk3 rfl (atL 0 rfl rfl rfl) r4) (h:=Zm3 10 rfl (h:=aPF 11 rfl (h:=aA 12 rfl (h:=Zz kr kr ?_))))))))))
 refine Zj (Zd ?_)
 exact eR t1 ⟨Zh (by rw [Zco,g1];rfl),rfl,rfl⟩

theorem ZoV (b o:Nat) (q1 q2 q3:Option Addr) (c1 c2 c3:Nat) (x:DHost) (B:Kn) (hh:Zbi B b o [str x.domain,.slice q1 x.users.length c1,.slice q2 x.folders.length c2,.int .i64 x.queue.next,.slice q3 x.queue.items.length c3]) (hu:SlK B q1 c1 3 Zs x.users) (hf:SlK B q2 c2 5 Ze x.folders):ZaM (pj J) 55 [ptr ⟨b,o,none⟩] B (.bool (ZiB x)):=by
 refine cB 26 Tryz.func55 (h:=?_)
 have hfn:=hf.len
 have hun:=hu.len
 refine Za (xA (h:=Zg (Za (xM (h:=xNc (h:=xW ZbS (h:=Zn (Zf rfl rfl Zi1 rfl (hh _ 1 _ rfl) (xV Tryz.underlying23 (h:=xM (h:=Zl (ZO (α:=Nat) [0,8,9] (fun k=>[(10,.int .i64 k)]) [] (fun k=>[]) (fun k Bx=>Bx=B∧k≤x.users.length∧∀z,z∈x.users.take k→Zc2 x z=true) (fun k=>x.users.length - k) 0 t1 rfl (⟨rfl,Nat.zero_le _,by simp⟩) (fun k B1 hle1 hI=>?_)))))))))))))
 obtain ⟨rfl,hk,ha⟩:=hI
 refine ZM [(0,_),(8,_),(9,_),(10,_)] [] t4 rfl (Za (Zaf (h:=Zg (Zb rfl (fun g1=>?_) (fun g1=>?_)))))
 try simp only [sQ,ne_eq] at g1
 refine wSk (Zg (Zl (Za ?_)))
 obtain ⟨w,hw⟩:=Zag (xs:=x.users) (i:=k) om
 obtain ⟨bb3,oo3,rfl⟩:=hu.base hw
 obtain ⟨_,⟨rfl,hb4,hb4b⟩,hc4⟩:=hu.elem hw
 refine xIx Tryz.underlying23 Ze3 (h:=yL [_,_,_] Zov hc4 0 (h:=xAl [_,_,_] Zgy (h:=fun b5=>xS [_,_,_] 0 [_,_,_] Ze3 (h:=tL1 (Za (xM (h:=xW Zdj (h:=x1 lk9 0 (h:=xR ZwN rfl (ZmG _ _ _ _ _ _ _ _ x w.name [105,110,98,111,120] om2 om2 _ hh hf) (h:=?_))))))))))
 refine Zaf (h:=xM (h:=Zo (d:=19) rfl (fun g2=>?_) (fun g2=>?_)))
 try simp only [sQ,ne_eq] at g2
 refine xP (h:=xP (h:=xP (h:=xP (h:=xT (h:=Zb (t:=true) rfl (fun _=>Za (xA (h:=Zd (ZH (Zp (Z3 (ZH (Zp ?_)))))))) (fun h=>Bool.noConfusion h))))))
 exact eR t1 ⟨Zh (Zc4 hw (ZlR g2)).symm,rfl,rfl⟩
 try simp only [sQ,ne_eq] at g2
 refine xM (h:=xW Zdj (h:=x1 lk9 0 (h:=xR Zy3 rfl (ZmI _ _ _ _ _ _ _ _ x w.name 0 om2 om2 om2 _ hh hu hf) (h:=?_))))
 refine xF (h:=Zb rfl (fun g3=>?_) (fun g3=>?_))
 try simp only [sQ,ne_eq] at g3
 refine Za (xA (h:=Zd (ZH (Zp (Z3 (ZH (Zp ?_)))))))
 exact eR t1 ⟨Zh (Zc4 hw (ZlQ g3)).symm,rfl,rfl⟩
 try simp only [sQ,ne_eq] at g3
 refine ZL (ZA (Zj (Zc (xD (h:=xM (h:=?_))))))
 exact ZD (k+1) [] so2 ⟨rfl,oz,Zbu hw ha (ZlP g2 g3)⟩ t4 rfl
 try simp only [sQ,ne_eq] at g1
 refine ZS (Zae (ZX (ZI (Zj (Za (xA (h:=Zd ?_)))))))
 exact eR t1 ⟨Zh (Ze0 (ZbO oz ha)).symm,rfl,rfl⟩

theorem Ztd (q:Option Addr) (cp:Nat) (bs:List Bool) (v:Bool) (B:Kn) (hb:SlK B q cp 1 ZvK bs):ZaM (pj J) 147 [.slice q bs.length cp,.bool v] B (.int .i64 (ZaI (fun y=>decide (v=y)) bs)):=by
 refine cB 19 Tryz.func147 (h:=?_)
 have hbn:=hb.len
 refine Za (xA (h:=Zg (Za (xM (h:=xV Tryz.underlying144 (h:=xM (h:=Zl (ZO (α:=Nat) [0,1,7] (fun k=>[(8,.int .i64 k)]) [] (fun k=>[]) (fun k Bx=>Bx=B∧k≤bs.length∧∀y,y∈bs.take k→decide (v=y)=false) (fun k=>bs.length - k) 0 t1 rfl (⟨rfl,Nat.zero_le _,by simp⟩) (fun k B1 hle1 hI=>?_)))))))))
 obtain ⟨rfl,hk,ha⟩:=hI
 refine ZM [(0,_),(1,_),(7,_),(8,_)] [] t4 rfl (Za (Zaf (h:=Zg (Zb rfl (fun g1=>?_) (fun g1=>?_)))))
 try simp only [sQ,ne_eq] at g1
 refine wSk (Zg (Zl (Za (xM (h:=xA (h:=Za (xM (h:=xM (h:=xM (h:=?_))))))))))
 obtain ⟨y,hy⟩:=Zag (xs:=bs) (i:=k) om
 obtain ⟨bb3,oo3,rfl⟩:=hb.base hy
 obtain ⟨_,rfl,hc4⟩:=hb.elem hy
 refine xIx Tryz.underlying144 sz4 (h:=y1 lk4 hc4 0 (h:=Zn (ZlI rfl rfl rfl rfl rfl (ZwL Tryz.underlying4) (Zb rfl (fun g2=>?_) (fun g2=>?_)))))
 try simp only [sQ,ne_eq] at g2
 refine Za (xM (h:=xA (h:=Zd (ZH (Zp (Z3 (ZH (Zp ?_))))))))
 exact eR t1 ⟨Za1 (Zii hy (decide_eq_true g2) ha).symm,rfl,rfl⟩
 try simp only [sQ,ne_eq] at g2
 refine ZL (ZA (Zj (Zc (xD (h:=xM (h:=?_))))))
 exact ZD (k+1) [] so2 ⟨rfl,oz,Zbu hy ha (decide_eq_false g2)⟩ t4 rfl
 try simp only [sQ,ne_eq] at g1
 refine ZS (Zae (ZX (ZI (Zj (Za (xA (h:=Zd ?_)))))))
 exact eR t1 ⟨Za1 (Zfp (ZbO oz ha)).symm,rfl,rfl⟩

theorem ZnV (q:Option Addr) (cp:Nat) (bs:List Bool) (v:Bool) (B:Kn) (hb:SlK B q cp 1 ZvK bs):ZaM (pj J) 101 [.slice q bs.length cp,.bool v] B (.bool (decide (0≤ZaI (fun y=>decide (v=y)) bs))):=by
 refine cB 9 Tryz.func101 (h:=?_)
 refine Za (xA (h:=Za (xM (h:=xM (h:=xR Zyu rfl (Ztd _ _ _ _ _ hb) (h:=Zeo (h:=xA (h:=Zd ?_))))))))
 exact eR t1 ⟨rfl,rfl,rfl⟩

theorem Zms (l:Str) (hl:l.length≤2000000) (B:Kn):ZaM (pj J) 51 [str l] B (.bool (Zcp l)):=by
 refine cB 16 Tryz.func51 (h:=?_)
 refine Za (xA (h:=Za (xM (h:=xB [(0,_)] [_,_] [_,_] Zwt Zsp (h:=xAl [_,_] Zsp (h:=fun b1=>xS [_,_] 0 [_,_] Zwm (h:=tL1 (Za (Zn (Zj9 0 rfl rfl rfl Zzu rfl (Ztz _ _ 0 oz oz _) ?_))))))))))
 refine xM (h:=xE (h:=xE (h:=xA (h:=xA (h:=Za (xM (h:=xM (h:=Zo (d:=13) rfl (fun g1=>?_) (fun g1=>?_)))))))))
 refine Zn (ZhH 0 rfl rfl rfl Zxf rfl (ZoM _ _ (dom l 0).2 (ZwV (Nat.zero_le _)) oz _) ?_)
 refine xT (h:=xA (h:=Zd ?_))
 exact eR t1 ⟨Zh (by rw [Bool.eq_iff_iff,← ZmK];simp [ZnS] at g1;simp [g1];try omega),rfl,rfl⟩
 refine xP (h:=xF (h:=xA (h:=Zd ?_)))
 exact eR t1 ⟨Zh (by symm;rw [Bool.eq_false_iff,ne_eq,← ZmK];intro hc;simp [ZnS,hc.1] at g1;omega),rfl,rfl⟩

theorem Zll (Wg C n i b o b1 b3 b5 b6:Nat) (q1 q2 q3:Option Addr) (c1 c2 c3:Nat) (x:DHost) (m:DFolder) (qg qm:Option Addr) (cg cm:Nat) (hin:i<n) (B:Kn) (hc900:Zbi B b o [str x.domain,.slice q1 x.users.length c1,.slice q2 x.folders.length c2,.int .i64 x.queue.next,.slice q3 x.queue.items.length c3]) (hu:SlK B q1 c1 3 Zs x.users) (hc901:Zbi B b1 0 [ptr ⟨b,o,none⟩]) (hc903:Zbi B b3 0 [.slice (some ⟨C,0,none⟩) n n]) (hc905:Zbi B b5 0 [.int .i64 i]) (hc906:Zbi B b6 0 [str m.owner,str m.name,.slice qg m.grants.length cg,.int .i64 m.next,.slice qm m.mail.length cm]) (hg:SlK B qg cg 2 ZZ m.grants) (hm:SlK B qm cm 3 ZN m.mail) (ho:m.owner.length≤2000000) (hnm:m.name.length≤2000000):@Ze2 ⟨4⟩ Tryz.prog wgL.tWg Wg C n i (.bool (Zbb x.users m)) (Go.Conc.G (Frame.enter Tryz.prog 96 #[ptr ⟨Wg,0,none⟩,ptr ⟨b1,0,none⟩,ptr ⟨b6,0,none⟩,ptr ⟨b3,0,none⟩,ptr ⟨b5,0,none⟩] .deferred) [Zgs Tryz.prog]) B []:=by
 letI:Go.ConcR.Payload:=⟨4⟩
 refine Zuk (Lk:=wgL) (P:=Tryz.prog) (caps:=[ptr ⟨Wg,0,none⟩,ptr ⟨b1,0,none⟩,ptr ⟨b6,0,none⟩,ptr ⟨b3,0,none⟩,ptr ⟨b5,0,none⟩]) (nt:=27) (I:=keeps B [] []) (K:=fun _ _ _ _=>False) Zm5 Tryz.func96 rfl rfl (Nat.le_of_ble_eq_true rfl) rfl mo kr ⟨Kn.le.refl _,Zad.refl _ _⟩ (fun _ _ _ _ h=>h) ?_
 refine aT 0 rfl (ZB fun D B L hI=>Zf rfl rfl Zwy rfl ((hc903.mono hI.1) _ 0 _ rfl) r4) (h:=aT 1 rfl (ZB fun D B L hI=>Zf rfl rfl lk3 rfl ((hc905.mono hI.1) _ 0 _ rfl) r4) (h:=aT 2 rfl (ZB fun D B L hI=>Zf rfl rfl ZxR rfl ((hc901.mono hI.1) _ 0 _ rfl) r4) (h:=aW 3 rfl Zdc (h:=aT 4 rfl (ZB fun D B L hI=>Zf rfl rfl lk9 rfl ((hc906.mono hI.1) _ 0 _ rfl) r4) (h:=aT 5 rfl (ZB fun D B L hI=>Zbc rfl rfl Zxg rfl (Zih _ _ _ _ _ _ _ _ x m.owner om2 _ (hc900.mono hI.1) (hu.mono Zs.mono hI.1)) r4) (h:=?_))))))
 refine aM 6 rfl (h:=ZaH (d:=11) rfl (fun g1=>?_) (fun g1=>?_))
 refine aW 7 rfl ZfT (h:=aT 8 rfl (ZB fun D B L hI=>Zf rfl rfl lk9 rfl ((hc906.mono hI.1) _ 1 _ rfl) r4) (h:=aT 9 rfl (ZB fun D B L hI=>Zbc rfl rfl ZvQ rfl (ZdA _ om2 _) r4) (h:=?_)))
 refine aPT 10 rfl (h:=aM 11 rfl (h:=ZaH (d:=16) rfl (fun g2=>?_) (fun g2=>?_)))
 refine aW 12 rfl Zea (h:=aT 13 rfl (ZB fun D B L hI=>Zf rfl rfl Zs1 rfl ((hc906.mono hI.1) _ 2 _ rfl) r4) (h:=aT 14 rfl (ZB fun D B L hI=>Zbc rfl rfl Zzr rfl (Zrh _ _ _ _ (hg.mono ZZ.mono hI.1)) r4) (h:=aPT 15 rfl (h:=aM 16 rfl (h:=ZaH (d:=21) rfl (fun g3=>?_) (fun g3=>?_))))))
 refine aW 17 rfl ZbC (h:=aT 18 rfl (ZB fun D B L hI=>ZT [_,_] rfl rfl ZbA rfl (ZiO (hc906.mono hI.1) 3 rfl rfl) r4) (h:=aT 19 rfl (ZB fun D B L hI=>Zbc rfl rfl ZxZ rfl (Zjd _ _ (⟨m.next,m.mail⟩:DBox) _ (hm.mono ZN.mono hI.1)) r4) (h:=aPT 20 rfl (h:=aT 21 rfl (ZB fun D B L hI=>Zbf rfl rfl Tryz.underlying144 sz4 rfl rfl oz oz r4) (h:=?_)))))
 refine Zin 22 kr rfl kr kr kr (fun T hn hT=>?_)
 refine Zgz (L:=[]) hT Zm5 (by simp [Zbb,DFolder.box,g1,g2,g3]) rfl hin rfl Tryz.sizeOf4 (Zdo sz4) (by exact Zid C i) rfl kr Tryz.func96 rfl
 refine aZ 17 rfl (h:=aZ 18 rfl (h:=aZ 19 rfl (h:=aPF 20 rfl (h:=aT 21 rfl (ZB fun D B L hI=>Zbf rfl rfl Tryz.underlying144 sz4 rfl rfl oz oz r4) (h:=?_)))))
 refine Zin 22 kr rfl kr kr kr (fun T hn hT=>?_)
 refine Zgz (L:=[]) hT Zm5 (by simp [Zbb,DFolder.box,g1,g2,g3]) rfl hin rfl Tryz.sizeOf4 (Zdo sz4) (by exact Zid C i) rfl kr Tryz.func96 rfl
 refine aZ 12 rfl (h:=aZ 13 rfl (h:=aZ 14 rfl (h:=aPF 15 rfl (h:=aM 16 rfl (h:=aZ 17 rfl (h:=aZ 18 rfl (h:=aZ 19 rfl (h:=aPF 20 rfl (h:=aT 21 rfl (ZB fun D B L hI=>Zbf rfl rfl Tryz.underlying144 sz4 rfl rfl oz oz r4) (h:=?_))))))))))
 refine Zin 22 kr rfl kr kr kr (fun T hn hT=>?_)
 refine Zgz (L:=[]) hT Zm5 (by simp [Zbb,DFolder.box,g1,g2]) rfl hin rfl Tryz.sizeOf4 (Zdo sz4) (by exact Zid C i) rfl kr Tryz.func96 rfl
 refine aZ 7 rfl (h:=aZ 8 rfl (h:=aZ 9 rfl (h:=aPF 10 rfl (h:=aM 11 rfl (h:=aZ 12 rfl (h:=aZ 13 rfl (h:=aZ 14 rfl (h:=aPF 15 rfl (h:=aM 16 rfl (h:=aZ 17 rfl (h:=aZ 18 rfl (h:=aZ 19 rfl (h:=aPF 20 rfl (h:=aT 21 rfl (ZB fun D B L hI=>Zbf rfl rfl Tryz.underlying144 sz4 rfl rfl oz oz r4) (h:=?_)))))))))))))))
 refine Zin 22 kr rfl kr kr kr (fun T hn hT=>?_)
 refine Zgz (L:=[]) hT Zm5 (by simp [Zbb,DFolder.box,g1]) rfl hin rfl Tryz.sizeOf4 (Zdo sz4) (by exact Zid C i) rfl kr Tryz.func96 rfl

theorem Zj3 (hJ:Joins Tryz.prog J) (b o:Nat) (q1 q2 q3:Option Addr) (c1 c2 c3:Nat) (x:DHost) (B:Kn) (hc900:Zbi B b o [str x.domain,.slice q1 x.users.length c1,.slice q2 x.folders.length c2,.int .i64 x.queue.next,.slice q3 x.queue.items.length c3]) (hu:SlK B q1 c1 3 Zs x.users) (hf:SlK B q2 c2 5 Ze x.folders):Zv (pj J) 54 [ptr ⟨b,o,none⟩] B [] (fun v B' Ls=>Ls=[]∧v = .bool (x.folders.all (Zbb x.users))):=by
 have hfn:=hf.len
 letI:Go.ConcR.Payload:=⟨4⟩
 refine ZtD 30 Tryz.func54 rfl rfl (Nat.le_of_ble_eq_true rfl) fun X kind c cs F T0 hk hke hA hn0 hT0=>?_
 let C0:Cx (pj J):=⟨X,fb 54 kind,c :: cs,F,hke⟩
 refine Zfw (C:=C0) (L:=[]) (ZkM (C:=C0) (L:=[]) hn0 hT0 (xBx [_] (h:=fun b1=>xA (h:=?_))))
 intro T1 hn1 hT1
 refine ZmM (C:=C0) rfl 0 rfl fun B1 hle1 hm1=>?_
 have hc901:=ZbY hm1
 replace hc900:=hc900.mono hle1
 obtain ⟨hu,hf⟩:=up2 hle1 hu hf
 replace hA:=fun v B' Ls' h=>hA v B' Ls' (hle1.trans h)
 refine Zfw (C:=C0) (L:=[[]]) (ZkM (C:=C0) (L:=[[]]) hn1 hT1 (y1 ZxR hc901 0 (h:=xNc (h:=xW Z4 (h:=y1 ZcJ hc900 2 (h:=xV Tryz.underlying24 (h:=Zn (Zf0 (m:=x.folders.length) (c:=x.folders.length) (by_:=1) [.bool false] rfl rfl ZxW zo4 rfl rfl ⟨_,_,rfl,rfl⟩ ⟨_,_,rfl,rfl⟩ (Nat.le_refl _) oz (fun Cb=>?_)))))))))
 refine xAl [_] Zxp (h:=fun b2=>xS [_] 2 [_] ZxI (h:=?_))
 intro T2 hn2 hT2
 refine ZmM (C:=C0) rfl 2 rfl fun B2 hle2 hm2=>?_
 have hc903:=ZbY hm2
 replace hc900:=hc900.mono hle2
 obtain ⟨hu,hf⟩:=up2 hle2 hu hf
 replace hc901:=hc901.mono hle2
 replace hA:=fun v B' Ls' h=>hA v B' Ls' (hle2.trans h)
 refine Zfw (C:=C0) (L:=[[],Zah Cb (zrow [.bool false] x.folders.length) 4,[]]) (Zg6 (C:=C0) (L:=[[],Zah Cb (zrow [.bool false] x.folders.length) 4,[]]) (ZsR (C:=Cb) (n:=x.folders.length) (val:=Zsk x) (L₁:=F) (cells:=(zrow [.bool false] x.folders.length).toArray) (i:=0) (todo:=[]) hJ rfl hke Zxo rfl oz (by simp [ZcF]) (.refl _) (fun hmain Wg hW1 hW2=>?_)))
 let C1:Cx (.lone Tryz.prog):=⟨phL Tryz.prog 154 Wg Cb x.folders.length (Zsk x) X.R .a5 (0),fb 54 kind,c :: cs,F,hke⟩
 have hT3:=hT2.putT (n:=30) (dst:=some 4) hn2 rfl (ptr ⟨Wg,0,none⟩)
 have hn3:(putT T2 (some 4) (ptr ⟨Wg,0,none⟩)).size=30:=by rw [ZbF,hn2]
 refine Zdv (C:=C1) (L:=[]) (Zfw (C:=C1) (L:=[]) (Zfw (C:=C1) (L:=[]) (ZkM (C:=C1) (L:=[]) hn3 hT3 (y1 ZxR hc901 0 (h:=xNc (h:=xW Z4 (h:=y1 ZcJ hc900 2 (h:=xV Tryz.underlying24 (h:=xM (h:=?_))))))))))
 intro T4 hn4 hT4
 refine ZoN (C:=C1) (L:=[]) (ZuI (nt:=30) (fun j=>[(1,ptr ⟨b1,0,none⟩),(3,ptr ⟨b2,0,none⟩),(4,ptr ⟨Wg,0,none⟩),(16,.slice q2 x.folders.length c2),(17,.int .i64 x.folders.length),(18,.int .i64 ((j:Nat):Int))]) (fun j hj B3 T5 hle3 hn5 hT5 hnext=>?_) hn4 (hT4.sub' t6))
 replace hc900:=hc900.mono hle3
 obtain ⟨hu,hf⟩:=up2 hle3 hu hf
 replace hc901:=hc901.mono hle3
 replace hc903:=hc903.mono hle3
 replace hA:=fun v B' Ls' h=>hA v B' Ls' (hle3.trans h)
 let C2:Cx (.lone Tryz.prog):=⟨phL Tryz.prog 154 Wg Cb x.folders.length (Zsk x) X.R .a5 (j),fb 54 kind,c :: cs,F,hke⟩
 refine Zfw (C:=C2) (L:=[]) (ZkM (C:=C2) (L:=[]) hn5 hT5 (Zaf (h:=?_)))
 intro T6 hn6 hT6
 refine Zfw (C:=C2) (L:=[]) ?_
 rcases Nat.lt_or_ge j x.folders.length with hlt | hge
 refine ZrY (C:=C2) (L:=[]) (t:=true) (by exact congrArg (fun t=>some (Value.bool t)) (decide_eq_true oz)) hT6 ?_
 refine ZvA (C:=C2) (L:=[]) (Zfw (C:=C2) (L:=[]) (ZoN (C:=C2) (L:=[]) (Zfw (C:=C2) (L:=[]) (ZkM (C:=C2) (L:=[]) hn6 hT6 (xM (h:=?_))))))
 obtain ⟨m,hm⟩:=Zag (xs:=x.folders) (i:=j) om
 obtain ⟨bb4,oo4,rfl⟩:=hf.base hm
 obtain ⟨_,⟨qg5,cg5,qm5,cm5,rfl,hg5,hm5,hb5,hb5b⟩,hc5⟩:=hf.elem hm
 have hg5n:=hg5.len
 have hm5n:=hm5.len
 have hm5s:=Z7 hm5
 refine xIx Tryz.underlying24 Zbq (h:=yL [_,_,_,_,_] ZhQ hc5 0 (h:=xAl [_] zo3 (h:=fun b6=>xAl [_,_,_,_,_] ZdF (h:=fun b7=>xS [_] 0 [_] sz3 (h:=xS [_,_,_,_,_] 1 [_,_,_,_,_] Zbq (h:=?_))))))
 intro T7 hn7 hT7
 refine ZmM (C:=C2) rfl 0 rfl fun B4 hle4 hpm4=>?_
 have hc905:=ZbY hpm4
 refine ZmM (C:=C2) rfl 1 rfl fun B5 hle5 hpm5=>?_
 have hc906:=ZbY hpm5
 replace hc905:=hc905.mono hle5
 replace hc900:=hc900.mono (hle4.trans hle5)
 replace hu:=hu.mono Zs.mono (hle4.trans hle5)
 replace hc901:=hc901.mono (hle4.trans hle5)
 replace hc903:=hc903.mono (hle4.trans hle5)
 replace hg5:=hg5.mono ZZ.mono (hle4.trans hle5)
 replace hm5:=hm5.mono ZN.mono (hle4.trans hle5)
 refine Zfw (C:=C2) (L:=[[],[]]) (Zg6 (C:=C2) (L:=[[],[]]) (Zww (Lk:=wgL) (i:=0) (todo:=[]) Zm5 hlt rfl Zzs rfl rfl hT7 hke ?_))
 let C3:Cx (.lone Tryz.prog):=⟨phL Tryz.prog 154 Wg Cb x.folders.length (Zsk x) X.R .a2 (j),fb 54 kind,c :: cs,F,hke⟩
 have hT8:=hT7.putT (n:=30) (dst:=(some 23)) hn7 rfl (.tuple #[])
 have hn8:(putT T7 (some 23) (.tuple #[])).size=30:=by rw [ZbF,hn7]
 refine Zdv (C:=C3) (L:=[]) (Zg6 (C:=C3) (L:=[]) (ZyQ (C:=C3) (L:=[]) (i:=0) (todo:=[1]) rfl hn8 hT8 (Zn (Zep (xs:=[]) (ys:=[.tmp 4,.tmp 1,.tmp 6,.tmp 3,.tmp 5]) rfl rfl rfl rfl ?_))))
 intro T9 hn9 hT9
 refine ZxO (i:=1) (todo:=[]) rfl rfl hT9 hke Tryz.func96 rfl rfl (by rw [Zoa hm];exact Zll Wg Cb x.folders.length j b o b1 b2 b6 b7 _ _ _ _ _ _ x m _ _ _ _ hlt B5 hc900 hu hc901 hc903 hc905 hc906 hg5 hm5 hb5 hb5b) ?_
 let C4:Cx (.lone Tryz.prog):=⟨phL Tryz.prog 154 Wg Cb x.folders.length (Zsk x) X.R .a5 (j+1),fb 54 kind,c :: cs,F,hke⟩
 refine Zdv (C:=C4) (L:=[]) (ZpU (C:=C4) (L:=[]) ?_)
 have hn10:=hn9
 have hT10:=hT9
 refine ZkM (C:=C4) (L:=[]) hn10 hT10 (xD (h:=xM (h:=?_)))
 intro T11 hn11 hT11
 exact hnext hlt _ _ (hle4.trans hle5) hn11 (hT11.sub' t6)
 obtain rfl:j=x.folders.length:=by omega
 refine ZrY (C:=C2) (L:=[]) (t:=false) (by exact congrArg (fun t=>some (Value.bool t)) (decide_eq_false oz)) hT6 ?_
 refine ZvB (C:=C2) (L:=[]) (by rfl) ?_
 refine Zfw (C:=C2) (L:=[]) (Zg6 (C:=C2) (L:=[]) (ZuH (Lk:=wgL) (X:=X) (i:=0) (todo:=[]) Zm5 oz rfl ZyP rfl hT6 hke (fun _ _ _ h=>h) ?_))
 have hT7:=hT6.putT (n:=30) (dst:=(some 26)) hn6 rfl (.tuple #[])
 have hn7:(putT T6 (some 26) (.tuple #[])).size=30:=by rw [ZbF,hn6]
 refine Zdv (C:=C0) (L:=[[(Cb,Obj.cells ((List.range x.folders.length).map (Zsk x)).toArray 4 (0,0))]]) (ZmM (C:=C0) (L:=[[(Cb,Obj.cells ((List.range x.folders.length).map (Zsk x)).toArray 4 (0,0))]]) rfl 0 rfl fun B4 hle4 hm4=>?_)
 have hvb:=Zqp hm4 hfn
 replace hc903:=hc903.mono hle4
 replace hA:=fun v B' Ls' h=>hA v B' Ls' (hle4.trans h)
 refine Zvc Tryz.func54 rfl hk hke hn7 hT7 hA ?_
 rw [show (x.folders.length:Nat)=(x.folders.map (Zbb x.users)).length from (List.length_map ..).symm] at hc903
 refine Za (y1 Zwy hc903 0 (h:=xR ZyO rfl (ZnV _ _ _ _ _ hvb) (h:=xN (h:=xA (h:=tL1 (Zd ?_))))))
 exact eR t1 ⟨rfl,congrArg Value.bool Zly⟩

theorem Zgi (hJ:Joins Tryz.prog J) (q1 q2 q3:Option Addr) (c1 c2 c3:Nat) (x:DHost) (hd:x.domain.length≤2000000) (B:Kn) (hu:SlK B q1 c1 3 Zs x.users) (hf:SlK B q2 c2 5 Ze x.folders) (hi:SlK B q3 c3 4 Zw x.queue.items):Zv (pj J) 16 [.agg #[str x.domain,.slice q1 x.users.length c1,.slice q2 x.folders.length c2,.int .i64 x.queue.next,.slice q3 x.queue.items.length c3]] B [] (fun v B' Ls=>Ls=[]∧v = .bool (Zx x)):=by
 refine cB 63 Tryz.func16 (h:=?_)
 rw [← ZpD]
 have hfn:=hf.len
 have hun:=hu.len
 have hin:=hi.len
 refine Za (xBx [_,_,_,_,_] (h:=fun b1=>xA (h:=tL1 (Zm6 0 rfl (fun B2 hle2 hpm2=>?_)))))
 have hc2:=ZbY hpm2
 obtain ⟨hu,hf,hi⟩:=up3 hle2 hu hf hi
 refine Zg (Za (xW Zju (h:=y1 lk9 hc2 0 (h:=xR ZzT rfl (Zms _ om2 _) (h:=?_)))))
 refine xN (h:=xM (h:=Zo (d:=10) rfl (fun g1=>?_) (fun g1=>?_)))
 try simp only [sQ,ne_eq] at g1
 refine xP (h:=xP (h:=xP (h:=xP (h:=xT (h:=xM (h:=xP (h:=xP (h:=xP (h:=xP (h:=xT (h:=xM (h:=xP (h:=xP (h:=xP (h:=xP (h:=xT (h:=tL1 (Zb (t:=true) rfl (fun _=>Za (xA (h:=Zd (Zp ?_)))) (fun h=>Bool.noConfusion h)))))))))))))))))))
 exact eR t1 ⟨rfl,Zh (by simp [ZdP,g1])⟩
 try simp only [sQ,ne_eq] at g1
 refine xW ZbS (h:=y1 Zi1 hc2 1 (h:=xR Zy6 rfl (Zja _ _ _ _ hu) (h:=xN (h:=xF (h:=xM (h:=Zo (d:=16) rfl (fun g2=>?_) (fun g2=>?_)))))))
 try simp only [sQ,ne_eq] at g2
 refine xP (h:=xP (h:=xP (h:=xP (h:=xT (h:=xM (h:=xP (h:=xP (h:=xP (h:=xP (h:=xT (h:=tL1 (Zb (t:=true) rfl (fun _=>Za (xA (h:=Zd (Zp ?_)))) (fun h=>Bool.noConfusion h)))))))))))))
 exact eR t1 ⟨rfl,Zh (by simp [ZdP,g1,g2])⟩
 try simp only [sQ,ne_eq] at g2
 refine xW ZaU (h:=yL [_,_] Zb4 hc2 3 (h:=xR Zzc rfl (Zjb _ _ x.queue _ hi) (h:=xN (h:=xF (h:=xM (h:=Zo (d:=22) rfl (fun g3=>?_) (fun g3=>?_)))))))
 try simp only [sQ,ne_eq] at g3
 refine xP (h:=xP (h:=xP (h:=xP (h:=xT (h:=tL1 (Zb (t:=true) rfl (fun _=>Za (xA (h:=Zd (Zp ?_)))) (fun h=>Bool.noConfusion h)))))))
 exact eR t1 ⟨rfl,Zh (by simp [ZdP,g1,g2,g3])⟩
 try simp only [sQ,ne_eq] at g3
 refine xW Z4 (h:=y1 ZcJ hc2 2 (h:=xV Tryz.underlying24 (h:=Zbp (h:=xF (h:=tL1 (Zb rfl (fun g4=>?_) (fun g4=>?_)))))))
 try simp only [sQ,ne_eq] at g4
 refine Za (xA (h:=Zd (Zp ?_)))
 exact eR t1 ⟨rfl,Zh (by simp [ZdP];intros;omega)⟩
 try simp only [sQ,ne_eq] at g4
 refine wSk (Zg (Za (xW Z4 (h:=y1 ZcJ hc2 2 (h:=xW Z4 (h:=y1 ZcJ hc2 2 (h:=xV Tryz.underlying24 (h:=xU (h:=Zn (Zxw (m:=(x.folders.length - 1)) rfl rfl rfl rfl om ?_))))))))))
 have hsl:((x.folders.take (x.folders.length - 1)).drop 0).length=x.folders.length - 1:=by simp
 obtain ⟨hq6,q6,cp6,hv6,hr6⟩:=hf.cutE 0 (x.folders.length - 1) om om
 have hr6n:=hr6.len
 refine Zn (ZfQ (a:=0) (b:=(x.folders.length - 1)) hv6 om hq6 rfl rfl Tryz.underlying24 Zbq rfl rfl ⟨_,_,rfl,by first | omega | (simp;done) | (simp;omega)⟩ ?_)
 refine xV Tryz.underlying24 (h:=xM (h:=Zl (ZO (α:=Nat) [0,1,27,35,36] (fun k=>[(37,.int .i64 k)]) [] (fun k=>[]) (fun k Bx=>Bx=B2∧k≤x.folders.length - 1∧ZtN x.folders k) (fun k=>x.folders.length - k) 0 t1 rfl (⟨rfl,Nat.zero_le _,Zpc⟩) (fun k B7 hle7 hI=>?_))))
 obtain ⟨rfl,hk,hord⟩:=hI
 refine ZM [(0,_),(1,_),(27,_),(35,_),(36,_),(37,_)] [_] t6 rfl (Za (Zaf (h:=Zg (Zb rfl (fun g5=>?_) (fun g5=>?_)))))
 try simp only [sQ,ne_eq] at g5
 refine wSk (Zg (Zl (Za (xM (h:=?_)))))
 obtain ⟨fa,hfa⟩:=Zag (xs:=((x.folders.take (x.folders.length - 1)).drop 0)) (i:=k) om
 obtain ⟨bb9,oo9,rfl⟩:=hr6.base hfa
 obtain ⟨_,⟨qg10,cg10,qm10,cm10,rfl,hg10,hm10,hb10,hb10b⟩,hc10⟩:=hr6.elem hfa
 have hg10n:=hg10.len
 have hm10n:=hm10.len
 have hm10s:=Z7 hm10
 refine xIx Tryz.underlying24 Zbq (h:=?_)
 have hfa0:x.folders[k]? = some fa:=by rw [List.drop_zero,List.getElem?_take] at hfa;split at hfa <;> simp_all
 refine yL [_,_,_,_,_] ZhQ hc10 0 (h:=xAl [_,_,_,_,_] ZdF (h:=fun b11=>xA (h:=xS [_,_,_,_,_] 1 [_,_,_,_,_] Zbq (h:=tL2 (Za (xW Z4 (h:=y1 ZcJ hc2 2 (h:=xM (h:=xD (h:=?_))))))))))
 obtain ⟨fb,hfb⟩:=Zag (xs:=x.folders) (i:=(k+1)) om
 obtain ⟨bb13,oo13,rfl⟩:=hf.base hfb
 obtain ⟨_,⟨qg14,cg14,qm14,cm14,rfl,hg14,hm14,hb14,hb14b⟩,hc14⟩:=hf.elem hfb
 have hg14n:=hg14.len
 have hm14n:=hm14.len
 have hm14s:=Z7 hm14
 refine xIx Tryz.underlying24 Zbq (h:=yL [_,_,_,_,_] ZhQ hc14 0 (h:=xAl [_,_,_,_,_] ZdF (h:=fun b15=>xS [_,_,_,_,_] 2 [_,_,_,_,_] Zbq (h:=tL3 (Za (xL [_,_,_,_,_] ZhQ 1 (h:=xW Zdc (h:=x1 lk9 2 (h:=xW ZfT (h:=x1 lk9 2 (h:=xR ZzS rfl (ZnK fa _ _ _ _ fb.owner fb.name _) (h:=Zeo (h:=Zb rfl (fun g6=>?_) (fun g6=>?_))))))))))))))
 try simp only [sQ,ne_eq] at g6
 refine Za (xA (h:=Zd (ZH (Zp (Z3 (ZH (Zp ?_)))))))
 exact eR t1 ⟨rfl,Zh (by simp [ZdP,ZsU hfa0 hfb ((ZmO fa fb).1 g6)])⟩
 try simp only [sQ,ne_eq] at g6
 refine ZL (ZA (Zj (Zc (xD (h:=xM (h:=?_))))))
 exact ZD (k+1) [0] so2 ⟨rfl,oz,Zpd hord hfa0 hfb (by rw [← Bool.not_eq_false,← ZmO];omega)⟩ t6 rfl
 try simp only [sQ,ne_eq] at g5
 have ho:=ZsT (fs:=x.folders) (fun i a b h=>hord i a b oz)
 refine ZS (Zae (ZX (ZI (Zj (Za (xQ ZzR rfl (Zj3 hJ _ _ _ _ _ _ _ _ x _ hc2 hu hf) (h:=?_)))))))
 intro v17 B17 hle17
 rintro rfl
 obtain ⟨hu,hf,hi⟩:=up3 hle17 hu hf hi
 replace hc2:=hc2.mono hle17
 refine xM (h:=Zo (d:=57) rfl (fun g7=>?_) (fun g7=>?_))
 try simp only [sQ,ne_eq] at g7
 refine xR ZzQ rfl (ZoV _ _ _ _ _ _ _ _ x _ hc2 hu hf) (h:=xT (h:=xM (h:=Zo (d:=60) rfl (fun g8=>?_) (fun g8=>?_))))
 try simp only [sQ,ne_eq] at g8
 refine xR ZzP rfl (Znq _ _ _ _ _ _ _ _ x _ hc2 hu hi) (h:=xT (h:=xA (h:=Zd ?_)))
 exact eR t1 ⟨rfl,Zh (by simp [ZdP,g1,g2,g3,ho,g7,g8];try omega)⟩
 try simp only [sQ,ne_eq] at g8
 refine xP (h:=xF (h:=xA (h:=Zd ?_)))
 exact eR t1 ⟨rfl,Zh (by simp [ZdP,g1,g2,g3,ho,g7,g8];try omega)⟩
 try simp only [sQ,ne_eq] at g7
 refine xP (h:=xF (h:=xM (h:=xP (h:=xF (h:=xA (h:=Zd ?_))))))
 exact eR t1 ⟨rfl,Zh (by simp [ZdP,g7])⟩

theorem ZpA (hJ:Joins Tryz.prog J) (q1 q2 q3:Option Addr) (c1 c2 c3:Nat) (x:DHost) (u:Str) (hn:u.length≤2000000) (hd:x.domain.length≤2000000) (B:Kn) (hu:SlK B q1 c1 3 Zs x.users) (hf:SlK B q2 c2 5 Ze x.folders) (hi:SlK B q3 c3 4 Zw x.queue.items):Zv (pj J) 20 [.agg #[str x.domain,.slice q1 x.users.length c1,.slice q2 x.folders.length c2,.int .i64 x.queue.next,.slice q3 x.queue.items.length c3],str u] B [] (fun v B' Ls=>Ls=[]∧v = .int .i64 (ZeT x u)):=by
 refine cB 15 Tryz.func20 (h:=?_)
 refine Za (xBx [_,_,_,_,_] (h:=fun b1=>xA (h:=tL1 (Zm6 0 rfl (fun B2 hle2 hpm2=>?_)))))
 have hc2:=ZbY hpm2
 obtain ⟨hu,hf,hi⟩:=up3 hle2 hu hf hi
 refine Zg (Za (yL [_,_,_,_,_] ZW hc2 0 (h:=xQ Zyp rfl (Zgi hJ _ _ _ _ _ _ x om2 _ hu hf hi) (h:=?_))))
 intro v3 B3 hle3
 rintro rfl
 obtain ⟨hu,hf⟩:=up2 hle3 hu hf
 replace hc2:=hc2.mono hle3
 refine xN (h:=xM (h:=Zo (d:=8) rfl (fun g1=>?_) (fun g1=>?_)))
 refine xP (h:=xP (h:=xP (h:=xT (h:=tL1 (Zb (t:=true) rfl (fun _=>Za (xA (h:=Zd (Zp ?_)))) (fun h=>Bool.noConfusion h))))))
 exact eR t1 ⟨rfl,Za1 (by rw [Zmu (by simpa using g1)])⟩
 refine xM (h:=xR Zxg rfl (Zih _ _ _ _ _ _ _ _ x u om2 _ hc2 hu) (h:=?_))
 refine xN (h:=xF (h:=tL1 (Zb rfl (fun g2=>?_) (fun g2=>?_))))
 refine Za (xA (h:=Zd (Zp ?_)))
 exact eR t1 ⟨rfl,Za1 (by rw [Zmt (by rw [Zjh (by simpa using g1)] at g2;simpa using g2)])⟩
 refine wSk (Za (xM (h:=xR Zy5 rfl (Zt2 _ _ _ _ _ _ _ _ x u _ hc2 hf) (h:=xA (h:=Zd ?_)))))
 exact eR t1 ⟨rfl,Za1 (by rw [ZhR (by simpa using g1) (by rw [Zjh (by simpa using g1)] at g2;simpa using g2),ZhS (by simpa using g1)])⟩

theorem Zni (q q':Option Addr) (cp cp':Nat) (xs ys:List DUser) (B:Kn) (ha:SlK B q cp 3 Zs xs) (hb:SlK B q' cp' 3 Zs ys):ZaM (pj J) 35 [.slice q xs.length cp,.slice q' ys.length cp'] B (.bool (decide (xs=ys))):=by
 refine cB 26 Tryz.func35 (h:=?_)
 have han:=ha.len
 have hbn:=hb.len
 refine Za (xA (h:=Zg (Za (xM (h:=xV Tryz.underlying23 (h:=xM (h:=xV Tryz.underlying23 (h:=Zbm (h:=Zb rfl (fun g1=>?_) (fun g1=>?_))))))))))
 try simp only [sQ,ne_eq] at g1
 refine Za (xA (h:=Zd (Zp ?_)))
 exact eR t1 ⟨Zh (ZjE g1),rfl,rfl⟩
 try simp only [sQ,ne_eq] at g1
 refine wSk (Zg (Za (xA (h:=Zl (ZO (α:=Nat) [0,1,10] (fun k=>[(5,.int .i64 k)]) [] (fun k=>[]) (fun k Bx=>Bx=B∧k≤xs.length∧xs.take k=ys.take k) (fun k=>xs.length - k) 0 t1 rfl (⟨rfl,Nat.zero_le _,by simp⟩) (fun k B1 hle1 hI=>?_))))))
 obtain ⟨rfl,hk,he⟩:=hI
 refine ZM [(0,_),(1,_),(5,_),(10,_)] [] t4 rfl (Zg (Za (xM (h:=xM (h:=xV Tryz.underlying23 (h:=Zaf (h:=Zb rfl (fun g2=>?_) (fun g2=>?_))))))))
 try simp only [sQ,ne_eq] at g2
 refine wSk (Zg (Zl (Zg (Z0 (same _ _) mo kr ⟨rfl,rfl⟩ (fun _ _=>?_)))))
 refine aM 0 rfl (h:=aM 1 rfl (h:=?_))
 obtain ⟨x,hx⟩:=Zag (xs:=xs) (i:=k) om
 obtain ⟨bb3,oo3,rfl⟩:=ha.base hx
 obtain ⟨_,⟨rfl,hb4,hb4b⟩,hc4⟩:=ha.elem hx
 refine aIx 2 rfl Tryz.underlying23 Ze3 (h:=aT 3 rfl (Zar fun D=>ZT [_,_,_] rfl rfl Zov rfl (ZiO hc4 0 rfl rfl) r4) (h:=aM 4 rfl (h:=aM 5 rfl (h:=?_))))
 obtain ⟨y,hy⟩:=Zag (xs:=ys) (i:=k) om
 obtain ⟨bb6,oo6,rfl⟩:=hb.base hy
 obtain ⟨_,⟨rfl,hb7,hb7b⟩,hc7⟩:=hb.elem hy
 refine aIx 6 rfl Tryz.underlying23 Ze3 (h:=aT 7 rfl (Zar fun D=>ZT [_,_,_] rfl rfl Zov rfl (ZiO hc7 0 rfl rfl) r4) (h:=aT 8 rfl (Zar fun D=>Zqf (rs:=[_,_,_]) rfl rfl rfl rfl ZwE ⟨⟨_,_,rfl,rfl,Zik Tryz.underlying9⟩,⟨_,_,rfl,rfl,Zik Tryz.underlying9⟩,⟨_,_,rfl,rfl,Zil Tryz.underlying3⟩,trivial⟩ r4) (h:=Zz kr kr ?_)))
 refine Zj (Zb rfl (fun g3=>?_) (fun g3=>?_))
 try simp only [sQ,ne_eq] at g3
 refine Za (xA (h:=Zd (ZH (Zp (Z3 (ZH (Zp ?_)))))))
 exact eR t1 ⟨Zh (Zg5 hx hy (by rintro rfl;simp at g3)),rfl,rfl⟩
 try simp only [sQ,ne_eq] at g3
 refine ZL (ZA (Zj (Zc (xM (h:=xD (h:=xA (h:=?_)))))))
 exact ZD (k+1) [] so2 ⟨rfl,oz,Zcw hx hy (by cases x;cases y;simpa [and_assoc] using g3) he⟩ t4 rfl
 try simp only [sQ,ne_eq] at g2
 refine ZS (Zae (ZX (ZI (Zj (Za (xA (h:=Zd ?_)))))))
 exact eR t1 ⟨Zh (eqT oz oz he),rfl,rfl⟩

theorem Zl6 (q q':Option Addr) (cp cp':Nat) (xs ys:List DGrant) (B:Kn) (ha:SlK B q cp 2 ZZ xs) (hb:SlK B q' cp' 2 ZZ ys):ZaM (pj J) 90 [.slice q xs.length cp,.slice q' ys.length cp'] B (.bool (decide (xs=ys))):=by
 refine cB 26 Tryz.func90 (h:=?_)
 have han:=ha.len
 have hbn:=hb.len
 refine Za (xA (h:=Zg (Za (xM (h:=xV Tryz.underlying37 (h:=xM (h:=xV Tryz.underlying37 (h:=Zbm (h:=Zb rfl (fun g1=>?_) (fun g1=>?_))))))))))
 try simp only [sQ,ne_eq] at g1
 refine Za (xA (h:=Zd (Zp ?_)))
 exact eR t1 ⟨Zh (ZjE g1),rfl,rfl⟩
 try simp only [sQ,ne_eq] at g1
 refine wSk (Zg (Za (xA (h:=Zl (ZO (α:=Nat) [0,1,10] (fun k=>[(5,.int .i64 k)]) [] (fun k=>[]) (fun k Bx=>Bx=B∧k≤xs.length∧xs.take k=ys.take k) (fun k=>xs.length - k) 0 t1 rfl (⟨rfl,Nat.zero_le _,by simp⟩) (fun k B1 hle1 hI=>?_))))))
 obtain ⟨rfl,hk,he⟩:=hI
 refine ZM [(0,_),(1,_),(5,_),(10,_)] [] t4 rfl (Zg (Za (xM (h:=xM (h:=xV Tryz.underlying37 (h:=Zaf (h:=Zb rfl (fun g2=>?_) (fun g2=>?_))))))))
 try simp only [sQ,ne_eq] at g2
 refine wSk (Zg (Zl (Zg (Z0 (same _ _) mo kr ⟨rfl,rfl⟩ (fun _ _=>?_)))))
 refine aM 0 rfl (h:=aM 1 rfl (h:=?_))
 obtain ⟨x,hx⟩:=Zag (xs:=xs) (i:=k) om
 obtain ⟨bb3,oo3,rfl⟩:=ha.base hx
 obtain ⟨_,⟨rfl,hb4⟩,hc4⟩:=ha.elem hx
 refine aIx 2 rfl Tryz.underlying37 ZbM (h:=aT 3 rfl (Zar fun D=>ZT [_,_] rfl rfl Zpq rfl (ZiO hc4 0 rfl rfl) r4) (h:=aM 4 rfl (h:=aM 5 rfl (h:=?_))))
 obtain ⟨y,hy⟩:=Zag (xs:=ys) (i:=k) om
 obtain ⟨bb6,oo6,rfl⟩:=hb.base hy
 obtain ⟨_,⟨rfl,hb7⟩,hc7⟩:=hb.elem hy
 refine aIx 6 rfl Tryz.underlying37 ZbM (h:=aT 7 rfl (Zar fun D=>ZT [_,_] rfl rfl Zpq rfl (ZiO hc7 0 rfl rfl) r4) (h:=aT 8 rfl (Zar fun D=>Zqf (rs:=[_,_]) rfl rfl rfl rfl Zva ⟨⟨_,_,rfl,rfl,Zik Tryz.underlying9⟩,⟨_,_,rfl,rfl,Zil Tryz.underlying3⟩,trivial⟩ r4) (h:=Zz kr kr ?_)))
 refine Zj (Zb rfl (fun g3=>?_) (fun g3=>?_))
 try simp only [sQ,ne_eq] at g3
 refine Za (xA (h:=Zd (ZH (Zp (Z3 (ZH (Zp ?_)))))))
 exact eR t1 ⟨Zh (Zg5 hx hy (by rintro rfl;simp at g3)),rfl,rfl⟩
 try simp only [sQ,ne_eq] at g3
 refine ZL (ZA (Zj (Zc (xM (h:=xD (h:=xA (h:=?_)))))))
 exact ZD (k+1) [] so2 ⟨rfl,oz,Zcw hx hy (by cases x;cases y;simpa [and_assoc] using g3) he⟩ t4 rfl
 try simp only [sQ,ne_eq] at g2
 refine ZS (Zae (ZX (ZI (Zj (Za (xA (h:=Zd ?_)))))))
 exact eR t1 ⟨Zh (eqT oz oz he),rfl,rfl⟩

theorem Zo7 (q q':Option Addr) (cp cp':Nat) (xs ys:List DMail) (B:Kn) (ha:SlK B q cp 3 ZN xs) (hb:SlK B q' cp' 3 ZN ys):ZaM (pj J) 49 [.slice q xs.length cp,.slice q' ys.length cp'] B (.bool (decide (xs=ys))):=by
 refine cB 26 Tryz.func49 (h:=?_)
 have han:=ha.len
 have hbn:=hb.len
 refine Za (xA (h:=Zg (Za (xM (h:=xV Tryz.underlying38 (h:=xM (h:=xV Tryz.underlying38 (h:=Zbm (h:=Zb rfl (fun g1=>?_) (fun g1=>?_))))))))))
 try simp only [sQ,ne_eq] at g1
 refine Za (xA (h:=Zd (Zp ?_)))
 exact eR t1 ⟨Zh (ZjE g1),rfl,rfl⟩
 try simp only [sQ,ne_eq] at g1
 refine wSk (Zg (Za (xA (h:=Zl (ZO (α:=Nat) [0,1,10] (fun k=>[(5,.int .i64 k)]) [] (fun k=>[]) (fun k Bx=>Bx=B∧k≤xs.length∧xs.take k=ys.take k) (fun k=>xs.length - k) 0 t1 rfl (⟨rfl,Nat.zero_le _,by simp⟩) (fun k B1 hle1 hI=>?_))))))
 obtain ⟨rfl,hk,he⟩:=hI
 refine ZM [(0,_),(1,_),(5,_),(10,_)] [] t4 rfl (Zg (Za (xM (h:=xM (h:=xV Tryz.underlying38 (h:=Zaf (h:=Zb rfl (fun g2=>?_) (fun g2=>?_))))))))
 try simp only [sQ,ne_eq] at g2
 refine wSk (Zg (Zl (Zg (Z0 (same _ _) mo kr ⟨rfl,rfl⟩ (fun _ _=>?_)))))
 refine aM 0 rfl (h:=aM 1 rfl (h:=?_))
 obtain ⟨x,hx⟩:=Zag (xs:=xs) (i:=k) om
 obtain ⟨bb3,oo3,rfl⟩:=ha.base hx
 obtain ⟨_,⟨rfl,hb4⟩,hc4⟩:=ha.elem hx
 refine aIx 2 rfl Tryz.underlying38 Zgx (h:=aT 3 rfl (Zar fun D=>ZT [_,_,_] rfl rfl Zpn rfl (ZiO hc4 0 rfl rfl) r4) (h:=aM 4 rfl (h:=aM 5 rfl (h:=?_))))
 obtain ⟨y,hy⟩:=Zag (xs:=ys) (i:=k) om
 obtain ⟨bb6,oo6,rfl⟩:=hb.base hy
 obtain ⟨_,⟨rfl,hb7⟩,hc7⟩:=hb.elem hy
 refine aIx 6 rfl Tryz.underlying38 Zgx (h:=aT 7 rfl (Zar fun D=>ZT [_,_,_] rfl rfl Zpn rfl (ZiO hc7 0 rfl rfl) r4) (h:=aT 8 rfl (Zar fun D=>Zqf (rs:=[_,_,_]) rfl rfl rfl rfl ZwD ⟨⟨_,_,rfl,rfl,Zil Tryz.underlying3⟩,⟨_,_,rfl,rfl,Zil Tryz.underlying3⟩,⟨_,_,rfl,rfl,Zik Tryz.underlying9⟩,trivial⟩ r4) (h:=Zz kr kr ?_)))
 refine Zj (Zb rfl (fun g3=>?_) (fun g3=>?_))
 try simp only [sQ,ne_eq] at g3
 refine Za (xA (h:=Zd (ZH (Zp (Z3 (ZH (Zp ?_)))))))
 exact eR t1 ⟨Zh (Zg5 hx hy (by rintro rfl;simp at g3)),rfl,rfl⟩
 try simp only [sQ,ne_eq] at g3
 refine ZL (ZA (Zj (Zc (xM (h:=xD (h:=xA (h:=?_)))))))
 exact ZD (k+1) [] so2 ⟨rfl,oz,Zcw hx hy (by cases x;cases y;simpa [and_assoc] using g3) he⟩ t4 rfl
 try simp only [sQ,ne_eq] at g2
 refine ZS (Zae (ZX (ZI (Zj (Za (xA (h:=Zd ?_)))))))
 exact eR t1 ⟨Zh (eqT oz oz he),rfl,rfl⟩

theorem ZqL (q1:Option Addr) (c1:Nat) (q2:Option Addr) (c2:Nat) (a b:DBox) (B:Kn) (h1:SlK B q1 c1 3 ZN a.mail) (h2:SlK B q2 c2 3 ZN b.mail):ZaM (pj J) 14 [.agg #[.int .i64 a.next,.slice q1 a.mail.length c1],.agg #[.int .i64 b.next,.slice q2 b.mail.length c2]] B (.bool (decide (a=b))):=by
 refine cB 17 Tryz.func14 (h:=?_)
 refine Za (xBx [_,_] (h:=fun b1=>xBx [_,_] (h:=fun b2=>xA (h:=tL2 (Za (xW ZbR (h:=x1 lk3 0 (h:=xW ZbR (h:=x1 lk3 1 (h:=ZE (h:=xM (h:=Zo (d:=10) rfl (fun g1=>?_) (fun g1=>?_)))))))))))))
 refine xW ZaP (h:=x1 Zfl 0 (h:=xW ZaP (h:=x1 Zfl 1 (h:=xR ZzV rfl (Zo7 _ _ _ _ _ _ _ h1 h2) (h:=xT (h:=xA (h:=Zd ?_)))))))
 exact eR t1 ⟨Zh (by cases a;cases b;simp_all),rfl,rfl⟩
 refine xP (h:=xP (h:=xP (h:=xP (h:=xP (h:=xF (h:=xA (h:=Zd ?_)))))))
 exact eR t1 ⟨Zh (by cases a;cases b;simp_all),rfl,rfl⟩

theorem Zl7 (qa1 qb1:Option Addr) (ca1 cb1:Nat) (qa2 qb2:Option Addr) (ca2 cb2:Nat) (a b:DFolder) (B:Kn) (hg1:SlK B qa1 ca1 2 ZZ a.grants) (hm1:SlK B qb1 cb1 3 ZN a.mail) (hg2:SlK B qa2 ca2 2 ZZ b.grants) (hm2:SlK B qb2 cb2 3 ZN b.mail):ZaM (pj J) 50 [.agg #[str a.owner,str a.name,.slice qa1 a.grants.length ca1,.int .i64 a.next,.slice qb1 a.mail.length cb1],.agg #[str b.owner,str b.name,.slice qa2 b.grants.length ca2,.int .i64 b.next,.slice qb2 b.mail.length cb2]] B (.bool (decide (a=b))):=by
 refine cB 31 Tryz.func50 (h:=?_)
 refine Za (xBx [_,_,_,_,_] (h:=fun b1=>xBx [_,_,_,_,_] (h:=fun b2=>xA (h:=tL2 (Za (xW Zdc (h:=x1 lk9 0 (h:=xW Zdc (h:=x1 lk9 1 (h:=ZdG (h:=xM (h:=Zo (d:=10) rfl (fun g1=>?_) (fun g1=>?_)))))))))))))
 refine xW ZfT (h:=x1 lk9 0 (h:=xW ZfT (h:=x1 lk9 1 (h:=ZdG (h:=xT (h:=xM (h:=Zo (d:=17) rfl (fun g2=>?_) (fun g2=>?_))))))))
 refine xW Zea (h:=x1 Zs1 0 (h:=xW Zea (h:=x1 Zs1 1 (h:=xR Zzv rfl (Zl6 _ _ _ _ _ _ _ hg1 hg2) (h:=xT (h:=xM (h:=Zo (d:=24) rfl (fun g3=>?_) (fun g3=>?_))))))))
 refine xW ZbC (h:=xL [_,_] ZbA 0 (h:=xW ZbC (h:=xL [_,_] ZbA 1 (h:=xR Zz5 rfl (ZqL _ _ _ _ (⟨a.next,a.mail⟩:DBox) (⟨b.next,b.mail⟩:DBox) _ hm1 hm2) (h:=xT (h:=xA (h:=Zd ?_)))))))
 exact eR t1 ⟨Zh (by cases a;cases b;simp_all),rfl,rfl⟩
 refine xP (h:=xP (h:=xP (h:=xP (h:=xP (h:=xF (h:=xA (h:=Zd ?_)))))))
 exact eR t1 ⟨Zh (by cases a;cases b;simp_all),rfl,rfl⟩
 refine xP (h:=xP (h:=xP (h:=xP (h:=xP (h:=xF (h:=xM (h:=xP (h:=xP (h:=xP (h:=xP (h:=xP (h:=xF (h:=xA (h:=Zd ?_))))))))))))))
 exact eR t1 ⟨Zh (by cases a;cases b;simp_all),rfl,rfl⟩
 refine xP (h:=xP (h:=xP (h:=xP (h:=xP (h:=xF (h:=xM (h:=xP (h:=xP (h:=xP (h:=xP (h:=xP (h:=xF (h:=xM (h:=xP (h:=xP (h:=xP (h:=xP (h:=xP (h:=xF (h:=xA (h:=Zd ?_)))))))))))))))))))))
 exact eR t1 ⟨Zh (by cases a;cases b;simp_all),rfl,rfl⟩

end Go.Proofs.YtikanaeckjcelaaGreatDoor
