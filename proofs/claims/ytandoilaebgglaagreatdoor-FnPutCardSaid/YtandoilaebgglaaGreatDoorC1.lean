/-
  WHAT THE FUNCTIONS THAT THE LAWS REACH COMPUTE: each function's contract, proved off its printed body (the text is written by program). No condition beyond those that each theorem states.
-/
import Derived.Test.YtandoilaebgglaaGreatDoorC0
namespace Go.Proofs.YtandoilaebgglaaGreatDoor
open Go Go.BL
set_option linter.unusedVariables false
set_option linter.unusedSimpArgs false
set_option maxRecDepth 4000
set_option maxHeartbeats 6400000
variable {J : JoinT}
theorem ZpA (b:Nat) (q:Option Addr) (cp:Nat) (xs:List Int) (l:Cells) (m:Nat) (hm:m≤xs.length) (hm0:0<xs.length) (hn:xs.length≤2000000) (hh:Zfo xs m 0) (B:Kn) (hv:ZZ B l q cp 3 1 Zb9 xs):Zu (pj J) 167 [.iface 172 (ptr ⟨b,0,none⟩),.int .i64 0,.int .i64 m] B [Zas b [.slice q xs.length cp] 173,l] (fun v B' Ls=>B'=B∧∃ys l',Ls=[Zas b [.slice q ys.length cp] 173,l']∧ZZ B l' q cp 3 1 Zb9 ys∧ys.Perm xs∧ZtQ ys m∧(∀k,m≤k→hat ys k=hat xs k)):=by
 refine cB 48 Tryz.func167 (h:=?_)
 refine Za (xA (h:=Za (xM (h:=xA (h:=Zf (Zl (ZO (α:=Nat × List Int × Cells) [0,1,2,6] (fun g=>[(7,.int .i64 g.1)]) [0,1] (fun g=>[Zas b [.slice q g.2.1.length cp] 173,g.2.2]) (fun g Bx=>Bx=B∧g.1<g.2.1.length∧g.2.1.Perm xs∧Zfo g.2.1 m g.1∧(∀k,m≤k→hat g.2.1 k=hat xs k)∧ZZ B g.2.2 q cp 3 1 Zb9 g.2.1) (fun g=>xs.length - g.1) (0,xs,l) t1 rfl (⟨rfl,hm0,.refl _,hh,fun _ _=>rfl,hv⟩) (fun g B1 hle1 hI=>?_))))))))
 obtain ⟨rfl,hk,hp,hb,hs,hv⟩:=hI
 have hpl:=hp.length_eq
 refine ZN [(0,_),(1,_),(2,_),(6,_),(7,_)] [_,_] t5 rfl (Zl (Za (xM (h:=Zp (Zlo (r:=((2*g.1:Nat):Int)) rfl rfl rfl rfl ((congrArg _ (show _=((2*g.1:Nat):Int) from by omega)).trans (ZaR oz oz)) ?_)))))
 refine Zp (ZeY (r:=((2*g.1+1:Nat):Int)) rfl rfl rfl rfl ((congrArg _ (show _=((2*g.1+1:Nat):Int) from by omega)).trans (ZaR oz oz)) ?_)
 refine xA (h:=Zf (Za (xM (h:=xM (h:=Zd9 (h:=xM (h:=Zn (d:=18) rfl (fun g1=>?_) (fun g1=>?_))))))))
 try simp only [sQ,ne_eq] at g1
 refine xP (h:=xP (h:=xT (h:=Zb (t:=true) rfl (fun _=>ZT (Zab (Zft rfl (ZW (ZG (Zj (Za (xM (h:=xM (h:=Zbw (h:=xA (h:=Zd ?_)))))))))))) (fun h=>Bool.noConfusion h))))
 exact eN [0,1] rfl t1 ⟨rfl,_,_,rfl,hv,hp,ZrO hb oz,hs⟩
 try simp only [sQ,ne_eq] at g1
 refine xM (h:=Zaa (h:=xF (h:=Zb rfl (fun g2=>by have:=of_decide_eq_true g2;omega) (fun g2=>?_))))
 try simp only [sQ,ne_eq] at g2
 refine wSk (Za (xM (h:=xA (h:=Zf (Za (xM (h:=Zp (ZeY (r:=((2*g.1+1+1:Nat):Int)) rfl rfl rfl rfl ((congrArg _ (show _=((2*g.1+1+1:Nat):Int) from by omega)).trans (ZaR oz oz)) ?_))))))))
 refine xA (h:=Za (xM (h:=xM (h:=Zaa (h:=xM (h:=Zn (d:=28) rfl (fun g3=>?_) (fun g3=>?_)))))))
 try simp only [sQ,ne_eq] at g3
 refine xM (h:=xM (h:=xM (h:=Zp (ZfO 1 rfl rfl rfl ZrI rfl rfl (ZbF Zep Tryz.underlying172 ZfB (atL 0 rfl rfl rfl)) (ZaH.borrow fun hm2=>Zgx _ _ _ _ _ _ _ (Zbe oz) (Zbe oz) _ (hv.lend Zb9.mono hm2 om)) ?_))))
 refine xT (h:=Zb rfl (fun g4=>?_) (fun g4=>?_))
 try simp only [sQ,ne_eq] at g4
 refine Zc (xM (h:=xA (h:=Zj (Zf (Za (xM (h:=xM (h:=xM (h:=Zp (ZfO 1 rfl rfl rfl ZrI rfl rfl (ZbF Zep Tryz.underlying172 ZfB (atL 0 rfl rfl rfl)) (ZaH.borrow fun hm3=>Zgx _ _ _ _ _ _ _ (Zbe oz) (Zbe oz) _ (hv.lend Zb9.mono hm3 om)) ?_))))))))))
 refine xN (h:=Zb rfl (fun g5=>?_) (fun g5=>?_))
 try simp only [sQ,ne_eq] at g5
 refine ZT (Zab (Zft rfl (ZW (ZG (Zj (Za (xM (h:=xM (h:=Zbw (h:=xA (h:=Zd ?_)))))))))))
 exact eN [0,1] rfl t1 ⟨rfl,_,_,rfl,hv,hp,Zjm hb (by intro k h0 hk he;(try simp only [decide_eq_true_eq,decide_eq_false_iff_not,Bool.not_eq_true',Bool.not_eq_false',Int.not_lt] at *);rcases (show k=2*g.1+1∨k=2*g.1+1+1 from by omega) with rfl | rfl <;> omega),hs⟩
 try simp only [sQ,ne_eq] at g5
 refine wSk (Za (xM (h:=xM (h:=xM (h:=Zp (Zhg [1] rfl rfl rfl rfl ZrH rfl rfl (ZbF Zeo Tryz.underlying172 ZfB (atL 0 rfl rfl rfl)) (Zgw _ _ _ _ _ _ _ _ (Zbe oz) (Zbe oz) oz _ hv) ?_))))))
 rintro _ B4 _ hle4 ⟨rfl,l4,rfl,hv4⟩
 refine tL2 (Zc (xM (h:=xA (h:=Zx ?_))))
 rw [← ZdC g.2.1 g.1 (2*g.1+1+1)]
 have h5:hat g.2.1 (2*g.1+1+1)<hat g.2.1 g.1:=by simpa using g5
 exact ZA (2*g.1+1+1,(swp g.2.1 g.1 (2*g.1+1+1)),l4) [0,1] (so) ⟨rfl,by have:=ZdC g.2.1 g.1 (2*g.1+1+1);simp only [];omega,(Zgl oz oz).trans hp,Zjl oz oz oz oz hb (by intro k h0 hk he;(try simp only [decide_eq_true_eq,decide_eq_false_iff_not,Bool.not_eq_true',Bool.not_eq_false',Int.not_lt] at *);rcases (show k=2*g.1+1∨k=2*g.1+1+1 from by omega) with rfl | rfl <;> omega) h5,(fun k hk=>by rw [Zfe oz oz,if_neg oz,if_neg oz];exact hs k hk),hv4⟩ t5 rfl
 try simp only [sQ,ne_eq] at g4
 refine wSk (Zf (Za (xM (h:=xM (h:=xM (h:=Zp (ZfO 1 rfl rfl rfl ZrI rfl rfl (ZbF Zep Tryz.underlying172 ZfB (atL 0 rfl rfl rfl)) (ZaH.borrow fun hm5=>Zgx _ _ _ _ _ _ _ (Zbe oz) (Zbe oz) _ (hv.lend Zb9.mono hm5 om)) ?_)))))))
 refine xN (h:=Zb rfl (fun g5=>?_) (fun g5=>?_))
 try simp only [sQ,ne_eq] at g5
 refine ZT (Zab (Zft rfl (ZW (ZG (Zj (Za (xM (h:=xM (h:=Zbw (h:=xA (h:=Zd ?_)))))))))))
 exact eN [0,1] rfl t1 ⟨rfl,_,_,rfl,hv,hp,Zjm hb (by intro k h0 hk he;(try simp only [decide_eq_true_eq,decide_eq_false_iff_not,Bool.not_eq_true',Bool.not_eq_false',Int.not_lt] at *);rcases (show k=2*g.1+1∨k=2*g.1+1+1 from by omega) with rfl | rfl <;> omega),hs⟩
 try simp only [sQ,ne_eq] at g5
 refine wSk (Za (xM (h:=xM (h:=xM (h:=Zp (Zhg [1] rfl rfl rfl rfl ZrH rfl rfl (ZbF Zeo Tryz.underlying172 ZfB (atL 0 rfl rfl rfl)) (Zgw _ _ _ _ _ _ _ _ (Zbe oz) (Zbe oz) oz _ hv) ?_))))))
 rintro _ B6 _ hle6 ⟨rfl,l6,rfl,hv6⟩
 refine tL2 (Zc (xM (h:=xA (h:=Zx ?_))))
 rw [← ZdC g.2.1 g.1 (2*g.1+1)]
 have h5:hat g.2.1 (2*g.1+1)<hat g.2.1 g.1:=by simpa using g5
 exact ZA (2*g.1+1,(swp g.2.1 g.1 (2*g.1+1)),l6) [0,1] (so) ⟨rfl,by have:=ZdC g.2.1 g.1 (2*g.1+1);simp only [];omega,(Zgl oz oz).trans hp,Zjl oz oz oz oz hb (by intro k h0 hk he;(try simp only [decide_eq_true_eq,decide_eq_false_iff_not,Bool.not_eq_true',Bool.not_eq_false',Int.not_lt] at *);rcases (show k=2*g.1+1∨k=2*g.1+1+1 from by omega) with rfl | rfl <;> omega) h5,(fun k hk=>by rw [Zfe oz oz,if_neg oz,if_neg oz];exact hs k hk),hv6⟩ t5 rfl
 try simp only [sQ,ne_eq] at g3
 refine xP (h:=xP (h:=xP (h:=xP (h:=xF (h:=Zb (t:=false) rfl (fun h=>Bool.noConfusion h) (fun _=>wSk (Zf (Za (xM (h:=xM (h:=xM (h:=Zp (ZfO 1 rfl rfl rfl ZrI rfl rfl (ZbF Zep Tryz.underlying172 ZfB (atL 0 rfl rfl rfl)) (ZaH.borrow fun hm7=>Zgx _ _ _ _ _ _ _ (Zbe oz) (Zbe oz) _ (hv.lend Zb9.mono hm7 om)) ?_)))))))))))))
 refine xN (h:=Zb rfl (fun g5=>?_) (fun g5=>?_))
 try simp only [sQ,ne_eq] at g5
 refine ZT (Zab (Zft rfl (ZW (ZG (Zj (Za (xM (h:=xM (h:=Zbw (h:=xA (h:=Zd ?_)))))))))))
 exact eN [0,1] rfl t1 ⟨rfl,_,_,rfl,hv,hp,Zjm hb (by intro k h0 hk he;(try simp only [decide_eq_true_eq,decide_eq_false_iff_not,Bool.not_eq_true',Bool.not_eq_false',Int.not_lt] at *);rcases (show k=2*g.1+1∨k=2*g.1+1+1 from by omega) with rfl | rfl <;> omega),hs⟩
 try simp only [sQ,ne_eq] at g5
 refine wSk (Za (xM (h:=xM (h:=xM (h:=Zp (Zhg [1] rfl rfl rfl rfl ZrH rfl rfl (ZbF Zeo Tryz.underlying172 ZfB (atL 0 rfl rfl rfl)) (Zgw _ _ _ _ _ _ _ _ (Zbe oz) (Zbe oz) oz _ hv) ?_))))))
 rintro _ B8 _ hle8 ⟨rfl,l8,rfl,hv8⟩
 refine tL2 (Zc (xM (h:=xA (h:=Zx ?_))))
 rw [← ZdC g.2.1 g.1 (2*g.1+1)]
 have h5:hat g.2.1 (2*g.1+1)<hat g.2.1 g.1:=by simpa using g5
 exact ZA (2*g.1+1,(swp g.2.1 g.1 (2*g.1+1)),l8) [0,1] (so) ⟨rfl,by have:=ZdC g.2.1 g.1 (2*g.1+1);simp only [];omega,(Zgl oz oz).trans hp,Zjl oz oz oz oz hb (by intro k h0 hk he;(try simp only [decide_eq_true_eq,decide_eq_false_iff_not,Bool.not_eq_true',Bool.not_eq_false',Int.not_lt] at *);rcases (show k=2*g.1+1∨k=2*g.1+1+1 from by omega) with rfl | rfl <;> omega) h5,(fun k hk=>by rw [Zfe oz oz,if_neg oz,if_neg oz];exact hs k hk),hv8⟩ t5 rfl

theorem Zre (b:Nat) (q:Option Addr) (cp:Nat) (xs:List Int) (l:Cells) (hm0:0<xs.length) (hn:xs.length≤2000000) (hh:ZdO xs) (B:Kn) (hv:ZZ B l q cp 3 1 Zb9 xs):Zu (pj J) 128 [.iface 172 (ptr ⟨b,0,none⟩)] B [Zas b [.slice q xs.length cp] 173,l] (fun v B' Ls=>B'=B∧v = .iface 3 (.int .i64 (hat xs 0))∧∃ys l',Ls=[Zas b [.slice q ys.length cp] 173,l']∧ZZ B l' q cp 3 1 Zb9 ys∧(hat xs 0 :: ys).Perm xs∧ZdO ys):=by
 refine cB 15 Tryz.func128 (h:=?_)
 refine Za (xA (h:=Za (xM (h:=Zp (ZfO 1 rfl rfl rfl ZwW rfl rfl (ZbF ZlX Tryz.underlying172 ZfB (atL 0 rfl rfl rfl)) (ZaH.borrow fun hm1=>Zrb _ _ _ _) (Zp (ZjF (r:=((xs.length - 1:Nat):Int)) rfl rfl rfl rfl ((congrArg _ (show _=((xs.length - 1:Nat):Int) from by omega)).trans (ZaR oz oz)) ?_)))))))
 refine xA (h:=Za (xM (h:=xM (h:=Zp (Zhg [1] rfl rfl rfl rfl ZrH rfl rfl (ZbF Zeo Tryz.underlying172 ZfB (atL 0 rfl rfl rfl)) (Zgw _ _ _ _ _ _ _ _ (Zbe oz) (Zbe oz) oz _ hv) ?_)))))
 rintro _ Bs _ hles ⟨rfl,ls,rfl,hvs⟩
 refine tL2 ?_
 obtain ⟨zs,hzs,hzl⟩ :∃zs,zs=swp xs 0 (xs.length - 1)∧zs.length=xs.length:=⟨_,rfl,ZdC _ _ _⟩
 have hzz:=hvs
 change ZZ _ _ _ _ _ _ _ (swp xs 0 (xs.length - 1)) at hzz
 rw [← hzs] at hzz
 have hdb:Zfo zs (zs.length - 1) 0:=by rw [hzl,hzs];exact ZuG hh hm0
 have hlz:hat zs (zs.length - 1)=hat xs 0:=by rw [hzl,hzs];exact Zsu hm0
 have hpz:zs.Perm xs:=hzs ▸ Zgl hm0 oz
 rw [← hzl]
 refine Za (xM (h:=xM (h:=xK [0,1] rfl ZyB rfl (ZpA _ _ _ _ _ _ oz oz oz hdb _ hzz) (h:=?_))))
 rintro _ Bd _ hled ⟨rfl,ysd,ld,rfl,hvd,hpd,hhd,hsd⟩
 refine tL2 ?_
 have hdl:=hpd.length_eq
 refine Za (xM (h:=Zp (Zhg [0,1] rfl rfl rfl rfl Zyj rfl rfl (Zml ZqV Tryz.underlying172) (Zu4 _ _ _ _ _ _ (Zbe oz) oz _ hvd) ?_)))
 rintro _ Bo _ hleo ⟨rfl,rfl,rfl,hvo⟩
 refine xA (h:=tL2 (Zd ?_))
 have hz9:hat ysd (ysd.length - 1)=hat xs 0:=by rw [hsd _ oz,hdl];exact hlz
 exact Zav .ret (.inl rfl) [_] [0,1] rfl ⟨rfl,trivial⟩ ⟨rfl,by rw [hz9];rfl,_,_,by rw [show (ysd.take (ysd.length - 1)).length=ysd.length - 1 from by simp],hvo,ZsG (by omega) (hpd.trans hpz) hz9,Zpz (by rw [hdl];exact hhd) (by omega)⟩

theorem Znr (q:Option Addr) (cp:Nat) (xs:List DItem) (last:Int) (B:Kn) (ha:SlK B q cp 4 Zy xs):ZaH (pj J) 95 [.slice q xs.length cp,.int .i64 last] B (.bool (asc 0 last (xs.map (·.id)))):=by
 refine cB 53 Tryz.func95 (h:=?_)
 have hxn:=ha.len
 refine Za (xA (h:=Za (xBs [] [] Tryz.underlying110 sz3 zo3 (h:=fun b1=>xBx [_] (h:=fun b2=>xA (h:=tL2 (Zf (Za (xM (h:=xV Tryz.underlying25 (h:=xM (h:=Zl (ZO (α:=Gh Int) [0,1,4,5,14,15] (fun g=>[(16,.int .i64 g.k)]) [0,1] (fun g=>[g.l,Zas b2 [.slice g.a g.xs.length g.c] 173]) (fun g Bx=>Bx=B∧g.k≤xs.length∧g.xs.Perm ((xs.take g.k).map (·.id))∧ZdO g.xs∧ZZ Bx g.l g.a g.c 3 1 Zb9 g.xs) (fun g=>xs.length - g.k) ⟨0,0,_,_,_,[]⟩ t1 rfl (⟨rfl,Nat.zero_le _,.refl _,Ztb,.lit0⟩) (fun g B3 hle3 hI=>?_))))))))))))))
 obtain ⟨rfl,hk,hp,hh,hv⟩:=hI
 have hpl:=hp.length_eq
 rw [List.length_map,List.length_take] at hpl
 refine ZN [(0,_),(1,_),(4,_),(5,_),(14,_),(15,_),(16,_)] [_,_] t7 rfl (Za (Zaa (h:=Zf (Zb rfl (fun g1=>?_) (fun g1=>?_)))))
 try simp only [sQ,ne_eq] at g1
 refine wSk (Zf (Zl (Za ?_)))
 obtain ⟨x,hx⟩:=Zaf (xs:=xs) (i:=g.k) om
 obtain ⟨bb5,oo5,rfl⟩:=ha.base hx
 obtain ⟨_,⟨qi6,ci6,rfl,hi6,hb6,hb6b⟩,hc6⟩:=ha.elem hx
 have hi6n:=hi6.len
 refine xIx Tryz.underlying25 Zbg (h:=yL [_,_,_,_] ZdF hc6 0 (h:=xAl [_,_,_,_] ZcM (h:=fun b7=>xS [_,_,_,_] 2 [_,_,_,_] Zbg (h:=tL3 (Zc (xM (h:=Zp (ZeA rfl rfl Tryz.underlying172 rfl rfl (xW ZcZ (h:=x1 lk3 2 (h:=Zp (ZeA rfl rfl Tryz.underlying3 rfl rfl (xK [1,0] rfl ZyO rfl (Zpy _ _ _ _ _ _ oz hh _ hv) (h:=?_))))))))))))))
 rintro _ Bp _ hlep ⟨rfl,qp,cp,ysp,lp,rfl,hvp,hpp,hhp⟩
 refine Zx (Zj (Zc (xD (h:=xM (h:=?_)))))
 exact ZA ⟨g.k+1,0,lp,_,_,ysp⟩ [0,1] so2 ⟨rfl,so,by simp only [];rw [Zat hx,List.map_append];exact hpp.trans (hp.append_right _),hhp,hvp⟩ t7 rfl
 try simp only [sQ,ne_eq] at g1
 have hxe:xs.take g.k=xs:=List.take_of_length_le oz
 rw [hxe] at hp
 refine ZT (Zab (ZW (ZG (Zj (Za (xA (h:=Zf (Za (xM (h:=xV Tryz.underlying25 (h:=xM (h:=Zl (ZO (α:=Gh2 Int Int) [0,1,5,14,15,16,17,27,28] (fun h=>[(8,.int .i64 h.e),(29,.int .i64 h.k)]) [0,1] (fun h=>[h.l,Zas b2 [.slice h.a h.xs.length h.c] 173]) (fun h Bx=>Bx=B3∧h.k≤xs.length∧h.xs.Perm ((xs.drop h.k).map (·.id))∧ZdO h.xs∧asc 0 last (xs.map (·.id))=asc h.e last ((xs.drop h.k).map (·.id))∧ZZ Bx h.l h.a h.c 3 1 Zb9 h.xs) (fun h=>xs.length - h.k) ⟨0,0,g.l,g.a,g.c,g.xs,0⟩ t2 rfl (⟨rfl,Nat.zero_le _,hp,hh,rfl,hv⟩) (fun h B9 hle9 hI=>?_))))))))))))))
 clear hv hp hpl hh
 obtain ⟨rfl,hk,hp,hh,hs,hv⟩:=hI
 have hpl:=hp.length_eq
 rw [List.length_map,List.length_drop] at hpl
 refine ZN [(0,_),(1,_),(5,_),(8,_),(14,_),(15,_),(16,_),(17,_),(27,_),(28,_),(29,_)] [_,_] t11 rfl (Za (Zaa (h:=Zf (Zb rfl (fun g2=>?_) (fun g2=>?_)))))
 try simp only [sQ,ne_eq] at g2
 refine wSk (Zf (Zl (Za ?_)))
 obtain ⟨x,hx⟩:=Zaf (xs:=xs) (i:=h.k) om
 obtain ⟨bb11,oo11,rfl⟩:=ha.base hx
 obtain ⟨_,⟨qi12,ci12,rfl,hi12,hb12,hb12b⟩,hc12⟩:=ha.elem hx
 have hi12n:=hi12.len
 refine xIx Tryz.underlying25 Zbg (h:=?_)
 rw [Zk8 hx,List.map_cons] at hp hs
 refine yL [_,_,_,_] ZdF hc12 0 (h:=xAl [_,_,_,_] ZcM (h:=fun b13=>xS [_,_,_,_] 2 [_,_,_,_] Zbg (h:=tL3 (Za (xM (h:=Zp (ZeA rfl rfl Tryz.underlying172 rfl rfl (xK [1,0] rfl ZyN rfl (Zre _ _ _ _ _ oz oz hh _ hv) (h:=?_)))))))))
 rintro _ Bo _ hleo ⟨rfl,rfl,yso,lo,rfl,hvo,hpo,hho⟩
 refine Zp (Zlr rfl rfl Tryz.underlying3 rfl rfl (xA (h:=tL3 (Zf (Za (xM (h:=xW ZcZ (h:=x1 lk3 2 (h:=ZbC (h:=xM (h:=Zn (d:=41) rfl (fun g3=>?_) (fun g3=>?_))))))))))))
 try simp only [sQ,ne_eq] at g3
 refine xP (h:=xP (h:=xP (h:=xT (h:=xM (h:=xP (h:=xP (h:=xP (h:=xT (h:=Zb (t:=true) rfl (fun _=>Za (xA (h:=Zd (Zo (ZD (Zo (Z3 (ZD (Zo ?_))))))))) (fun h=>Bool.noConfusion h))))))))))
 exact eR t1 ⟨Zg (by rw [hs];exact ZtG hp hh (by simpa using g3)),rfl,rfl⟩
 try simp only [sQ,ne_eq] at g3
 refine xM (h:=xM (h:=ZcP (h:=xF (h:=xM (h:=Zn (d:=46) rfl (fun g4=>?_) (fun g4=>?_))))))
 try simp only [sQ,ne_eq] at g4
 refine xP (h:=xP (h:=xP (h:=xT (h:=Zb (t:=true) rfl (fun _=>Za (xA (h:=Zd (Zo (ZD (Zo (Z3 (ZD (Zo ?_))))))))) (fun h=>Bool.noConfusion h)))))
 exact eR t1 ⟨Zg (by rw [hs];exact ZtF (by rw [← g3];simpa using g4)),rfl,rfl⟩
 try simp only [sQ,ne_eq] at g4
 refine xM (h:=xM (h:=Zbw (h:=xF (h:=Zb rfl (fun g5=>?_) (fun g5=>?_)))))
 try simp only [sQ,ne_eq] at g5
 refine Za (xA (h:=Zd (Zo (ZD (Zo (Z3 (ZD (Zo ?_))))))))
 exact eR t1 ⟨Zg (by rw [hs];exact ZtE (by rw [← g3];simpa using g5)),rfl,rfl⟩
 try simp only [sQ,ne_eq] at g5
 refine wSk (Zc (xM (h:=xA (h:=Zx (Zj (Zc (xD (h:=xM (h:=?_)))))))))
 exact ZA ⟨h.k+1,0,lo,_,_,yso,hat h.xs 0⟩ [0,1] so2 ⟨rfl,so,List.Perm.cons_inv ((show (x.id :: yso).Perm (hat h.xs 0 :: yso) from by rw [g3]).trans (hpo.trans hp)),hho,by simp only [];rw [hs,g3];exact Zxb (by rw [← g3];simpa using g4) (by rw [← g3];simpa using g5),hvo⟩ t11 rfl
 try simp only [sQ,ne_eq] at g2
 rw [ZrM oz,List.map_nil,asc] at hs
 refine ZT (Zab (ZW (ZG (Zj (Za (xA (h:=Zd ?_)))))))
 exact eR t1 ⟨Zg hs.symm,rfl,rfl⟩

theorem Znq (aq:Option Addr) (cq:Nat) (q:DQueue) (B:Kn) (hq:SlK B aq cq 4 Zy q.items):ZaH (pj J) 58 [.agg #[.int .i64 q.next,.slice aq q.items.length cq]] B (.bool (Zad q)):=by
 refine cB 42 Tryz.func58 (h:=?_)
 have hqn:=hq.len
 refine Za (xBx [_,_] (h:=fun b1=>xA (h:=tL1 (Zf (Za (xW Zar (h:=x1 Zey 0 (h:=xV Tryz.underlying25 (h:=Zbw (h:=xM (h:=Zn (d:=9) rfl (fun g1=>?_) (fun g1=>?_))))))))))))
 try simp only [sQ,ne_eq] at g1
 refine xP (h:=xP (h:=xP (h:=xT (h:=xM (h:=xP (h:=xP (h:=xP (h:=xT (h:=Zb (t:=true) rfl (fun _=>Za (xA (h:=Zd (Zo ?_)))) (fun h=>Bool.noConfusion h))))))))))
 exact eR t1 ⟨Zg (ZgP oz),rfl,rfl⟩
 try simp only [sQ,ne_eq] at g1
 refine xW Zd6 (h:=x1 lk3 0 (h:=Zaa (h:=xF (h:=xM (h:=Zn (d:=14) rfl (fun g2=>?_) (fun g2=>?_))))))
 try simp only [sQ,ne_eq] at g2
 refine xP (h:=xP (h:=xP (h:=xT (h:=Zb (t:=true) rfl (fun _=>Za (xA (h:=Zd (Zo ?_)))) (fun h=>Bool.noConfusion h)))))
 exact eR t1 ⟨Zg (ZgP oz),rfl,rfl⟩
 try simp only [sQ,ne_eq] at g2
 refine xW Zd6 (h:=x1 lk3 0 (h:=Zbw (h:=xF (h:=Zb rfl (fun g3=>?_) (fun g3=>?_)))))
 try simp only [sQ,ne_eq] at g3
 refine Za (xA (h:=Zd (Zo ?_)))
 exact eR t1 ⟨Zg (ZgP oz),rfl,rfl⟩
 try simp only [sQ,ne_eq] at g3
 refine wSk (Zf (Za (xW Zar (h:=x1 Zey 0 (h:=xV Tryz.underlying25 (h:=xM (h:=Zl (ZO (α:=Nat) [0,1,18,20,21] (fun k=>[(22,.int .i64 k)]) [] (fun k=>[]) (fun k Bx=>Bx=B∧k≤q.items.length∧(q.items.take k).all ZcF=true) (fun k=>q.items.length - k) 0 t1 rfl (⟨rfl,Nat.zero_le _,by simp⟩) (fun k B2 hle2 hI=>?_)))))))))
 obtain ⟨rfl,hk,ha⟩:=hI
 refine ZN [(0,_),(1,_),(18,_),(20,_),(21,_),(22,_)] [_] t6 rfl (Za (Zaa (h:=Zf (Zb rfl (fun g4=>?_) (fun g4=>?_)))))
 try simp only [sQ,ne_eq] at g4
 refine wSk (Zf (Zl (Za ?_)))
 obtain ⟨x,hx⟩:=Zaf (xs:=q.items) (i:=k) om
 obtain ⟨bb4,oo4,rfl⟩:=hq.base hx
 obtain ⟨_,⟨qi5,ci5,rfl,hi5,hb5,hb5b⟩,hc5⟩:=hq.elem hx
 have hi5n:=hi5.len
 refine xIx Tryz.underlying25 Zbg (h:=yL [_,_,_,_] ZdF hc5 0 (h:=xAl [_,_,_,_] ZcM (h:=fun b6=>xS [_,_,_,_] 1 [_,_,_,_] Zbg (h:=tL2 (Za (xW Zg1 (h:=x1 lk9 1 (h:=xW ZaG (h:=x1 ZcX 1 (h:=xW Zjd (h:=x1 lk9 1 (h:=xB [(0,_),(1,_),(2,_)] [_,_,_] [_,_,_] ZsI ZoL (h:=xR ZzM rfl (Zmb _ _ ⟨x.fr,x.left,x.text⟩ _ hi5 oa oa) (h:=?_))))))))))))))
 refine xN (h:=Zb rfl (fun g5=>?_) (fun g5=>?_))
 try simp only [sQ,ne_eq] at g5
 refine Za (xA (h:=Zd (ZD (Zo (Z3 (ZD (Zo ?_)))))))
 exact eR t1 ⟨Zg (Zm9 hx g5),rfl,rfl⟩
 try simp only [sQ,ne_eq] at g5
 refine ZK (Zx (Zj (Zc (xD (h:=xM (h:=?_))))))
 exact ZA (k+1) [0] so2 ⟨rfl,oz,Zxc hx g5 ha⟩ t6 rfl
 try simp only [sQ,ne_eq] at g4
 refine ZT (Zab (ZW (ZG (Zj (Za (xW Zar (h:=x1 Zey 0 (h:=xW Zd6 (h:=x1 lk3 0 (h:=xU (h:=xR ZzL rfl (Znr _ _ _ _ _ hq) (h:=xA (h:=Zd ?_)))))))))))))
 exact eR t1 ⟨Zg (Zm8 oz ha oz oz oz),rfl,rfl⟩

theorem Zfb (n:Int) (B:Kn):ZaH (pj J) 35 [.int .i64 n] B (.bool (decide (0≤n) && decide (n≤31))):=by
 refine cB 5 Tryz.func35 (h:=?_)
 refine Za (xA (h:=Za (xM (h:=xR Zko rfl (Zcs _ _ _ _) (h:=xA (h:=Zd ?_))))))
 exact eR t1 ⟨rfl,rfl,rfl⟩

theorem Zf1 (n:Int) (B:Kn):ZaH (pj J) 30 [.int .i64 n] B (.bool (decide (0≤n) && decide (n≤31))):=by
 refine cB 9 Tryz.func30 (h:=?_)
 refine Za (xA (h:=Za (xM (h:=Zd9 (h:=xM (h:=Zn (d:=5) rfl (fun g1=>?_) (fun g1=>?_)))))))
 refine xM (h:=ZcP (h:=xT (h:=xA (h:=Zd ?_))))
 exact eR t1 ⟨Zg (by rw [Bool.eq_iff_iff];simp [g1];try omega),rfl,rfl⟩
 refine xP (h:=xP (h:=xF (h:=xA (h:=Zd ?_))))
 exact eR t1 ⟨Zg (by rw [Bool.eq_iff_iff];simp [g1];try omega),rfl,rfl⟩

theorem Zq5 (m:DMail) (hm:m.text.length≤2000000) (B:Kn):ZaH (pj J) 163 [.agg #[.int .i64 m.uid,.int .i64 m.flags,str m.text]] B (.bool (ZbE m)):=by
 refine cB 17 Tryz.func163 (h:=?_)
 refine Za (xBx [_,_,_] (h:=fun b1=>xA (h:=tL1 (Za (xW Zhw (h:=x1 lk3 0 (h:=xR Zko rfl (Zcs _ _ _ _) (h:=xM (h:=Zn (d:=6) rfl (fun g1=>?_) (fun g1=>?_))))))))))
 refine xW Zi5 (h:=x1 lk3 0 (h:=xR ZwV rfl (Zfb _ _) (h:=xT (h:=xM (h:=Zn (d:=11) rfl (fun g2=>?_) (fun g2=>?_))))))
 refine xW Zmm (h:=x1 lk9 0 (h:=xVs Tryz.underlying9 (h:=ZcP (h:=xT (h:=xA (h:=Zd ?_))))))
 exact eR t1 ⟨Zg (by rw [Bool.eq_iff_iff];simp [ZbE,g1,g2];try omega),rfl,rfl⟩
 refine xP (h:=xP (h:=xP (h:=xP (h:=xF (h:=xA (h:=Zd ?_))))))
 exact eR t1 ⟨Zg (by rw [Bool.eq_iff_iff];simp [ZbE,g1,g2];try omega),rfl,rfl⟩
 refine xP (h:=xP (h:=xP (h:=xF (h:=xM (h:=xP (h:=xP (h:=xP (h:=xP (h:=xF (h:=xA (h:=Zd ?_)))))))))))
 exact eR t1 ⟨Zg (by rw [Bool.eq_iff_iff];simp [ZbE,g1];try omega),rfl,rfl⟩

theorem Zpr (m:DMail) (hm:m.text.length≤2000000) (B:Kn):ZaH (pj J) 89 [.agg #[.int .i64 m.uid,.int .i64 m.flags,str m.text]] B (.bool (ZbE m)):=by
 refine cB 22 Tryz.func89 (h:=?_)
 refine Za (xBx [_,_,_] (h:=fun b1=>xA (h:=tL1 (Za (xW Zhw (h:=x1 lk3 0 (h:=Zd9 (h:=xM (h:=Zn (d:=6) rfl (fun g1=>?_) (fun g1=>?_))))))))))
 refine xW Zhw (h:=x1 lk3 0 (h:=ZcP (h:=xT (h:=xM (h:=Zn (d:=11) rfl (fun g2=>?_) (fun g2=>?_))))))
 refine xW Zi5 (h:=x1 lk3 0 (h:=xR Zyg rfl (Zf1 _ _) (h:=xT (h:=xM (h:=Zn (d:=16) rfl (fun g3=>?_) (fun g3=>?_))))))
 refine xW Zmm (h:=x1 lk9 0 (h:=xVs Tryz.underlying9 (h:=ZcP (h:=xT (h:=xA (h:=Zd ?_))))))
 exact eR t1 ⟨Zg (by rw [Bool.eq_iff_iff];simp [ZbE,g1,g2,g3];try omega),rfl,rfl⟩
 refine xP (h:=xP (h:=xP (h:=xP (h:=xF (h:=xA (h:=Zd ?_))))))
 exact eR t1 ⟨Zg (by rw [Bool.eq_iff_iff];simp [ZbE,g1,g2,g3];try omega),rfl,rfl⟩
 refine xP (h:=xP (h:=xP (h:=xF (h:=xM (h:=xP (h:=xP (h:=xP (h:=xP (h:=xF (h:=xA (h:=Zd ?_)))))))))))
 exact eR t1 ⟨Zg (by rw [Bool.eq_iff_iff];simp [ZbE,g1,g2];try omega),rfl,rfl⟩
 refine xP (h:=xP (h:=xP (h:=xF (h:=xM (h:=xP (h:=xP (h:=xP (h:=xF (h:=xM (h:=xP (h:=xP (h:=xP (h:=xP (h:=xF (h:=xA (h:=Zd ?_))))))))))))))))
 exact eR t1 ⟨Zg (by rw [Bool.eq_iff_iff];simp [ZbE,g1];try omega),rfl,rfl⟩

theorem Zgn (q:Option Addr) (cp:Nat) (x:DBox) (B:Kn) (hx:SlK B q cp 3 ZM x.mail):ZaH (pj J) 120 [.agg #[.int .i64 x.next,.slice q x.mail.length cp]] B (.bool (Zbf x)):=by
 refine cB 46 Tryz.func120 (h:=?_)
 have hxn:=hx.len
 refine Za (xBx [_,_] (h:=fun b1=>xA (h:=tL1 (Za (xA (h:=Zf (Za (xA (h:=Zl (ZO (α:=Nat × Int) [0,1] (fun g=>[(3,.int .i64 g.2),(4,.int .i64 g.1)]) [] (fun g=>[]) (fun g Bx=>Bx=B∧g.1≤x.mail.length∧Zcj (x.mail.take g.1)=(true,g.2)∧0≤g.2∧g.2≤99) (fun g=>x.mail.length - g.1) (0,0) t2 rfl (⟨rfl,Nat.zero_le _,Ze3,oz,oz⟩) (fun g B2 hle2 hI=>?_)))))))))))
 obtain ⟨rfl,hk,hs,hl0,hl1⟩:=hI
 refine ZN [(0,_),(1,_),(3,_),(4,_)] [_] t4 rfl (Zf (Za (xM (h:=xW ZaL (h:=x1 Zfs 0 (h:=xV Tryz.underlying36 (h:=Zaa (h:=Zb rfl (fun g1=>?_) (fun g1=>?_)))))))))
 try simp only [sQ,ne_eq] at g1
 refine wSk (Zf (Zl (Zf (Za (xW ZaL (h:=x1 Zfs 0 (h:=xM (h:=?_))))))))
 obtain ⟨m,hm⟩:=Zaf (xs:=x.mail) (i:=g.1) om
 obtain ⟨bb4,oo4,rfl⟩:=hx.base hm
 obtain ⟨_,⟨rfl,hb5⟩,hc5⟩:=hx.elem hm
 refine xIx Tryz.underlying36 Zgc (h:=yL [_,_,_] Zpg hc5 0 (h:=xR ZyE rfl (Zq5 m om2 _) (h:=?_)))
 refine xN (h:=xM (h:=Zn (d:=19) rfl (fun g2=>?_) (fun g2=>?_)))
 try simp only [sQ,ne_eq] at g2
 refine xP (h:=xP (h:=xP (h:=xP (h:=xP (h:=xP (h:=xP (h:=xP (h:=xT (h:=Zb (t:=true) rfl (fun _=>Za (xA (h:=Zd (Zo (ZD (Zo (Z3 (ZD (Zo ?_))))))))) (fun h=>Bool.noConfusion h))))))))))
 exact eR t1 ⟨Zg (ZgD (ZfW hm (by rw [show (scn ZbP (fun _ m=>m.uid) 0 (x.mail.take g.1)).2=g.2 from congrArg Prod.snd hs];simp [ZbP,g2]))).symm,rfl,rfl⟩
 try simp only [sQ,ne_eq] at g2
 refine xW ZaL (h:=x1 Zfs 0 (h:=xM (h:=xIx Tryz.underlying36 Zgc (h:=xW Zhw (h:=y1 lk3 hc5 0 (h:=xM (h:=ZcP (h:=xF (h:=Zb rfl (fun g3=>?_) (fun g3=>?_))))))))))
 try simp only [sQ,ne_eq] at g3
 refine Za (xA (h:=Zd (Zo (ZD (Zo (Z3 (ZD (Zo ?_))))))))
 exact eR t1 ⟨Zg (ZgD (ZfW hm (by rw [show (scn ZbP (fun _ m=>m.uid) 0 (x.mail.take g.1)).2=g.2 from congrArg Prod.snd hs];simp [ZbP,g2];omega))).symm,rfl,rfl⟩
 try simp only [sQ,ne_eq] at g3
 refine wSk (Zc (xW ZaL (h:=x1 Zfs 0 (h:=xM (h:=xIx Tryz.underlying36 Zgc (h:=xW Zhw (h:=y1 lk3 hc5 0 (h:=xA (h:=Zx (Zj (Zc (xM (h:=xD (h:=xA (h:=?_)))))))))))))))
 exact ZA (g.1+1,m.uid) [0] so2 ⟨rfl,oz,Zci hm hs (by simp [ZbP,g2];omega),Zj9 g2⟩ t4 rfl
 try simp only [sQ,ne_eq] at g1
 refine ZT (Zab (ZW (ZG (Zj (Za (xW ZbW (h:=x1 lk3 0 (h:=xM (h:=xD (h:=xR Zko rfl (Zcs _ _ _ _) (h:=xM (h:=Zn (d:=40) rfl (fun g4=>?_) (fun g4=>?_)))))))))))))
 try simp only [sQ,ne_eq] at g4
 refine xW ZaL (h:=x1 Zfs 0 (h:=xV Tryz.underlying36 (h:=ZcP (h:=xT (h:=xA (h:=Zd ?_))))))
 exact eR t1 ⟨Zg (by rw [ZdL (Zec hs oz),g4,Bool.true_and,Bool.eq_iff_iff];simp;omega),rfl,rfl⟩
 try simp only [sQ,ne_eq] at g4
 refine xP (h:=xP (h:=xP (h:=xP (h:=xF (h:=xA (h:=Zd ?_))))))
 exact eR t1 ⟨Zg (by rw [ZdL (Zec hs oz),g4,Bool.false_and]),rfl,rfl⟩

theorem ZiQ (q:Option Addr) (cp:Nat) (x:DBox) (B:Kn) (hx:SlK B q cp 3 ZM x.mail):ZaH (pj J) 45 [.agg #[.int .i64 x.next,.slice q x.mail.length cp]] B (.bool (Zbf x)):=by
 refine cB 38 Tryz.func45 (h:=?_)
 have hxn:=hx.len
 refine Za (xBx [_,_] (h:=fun b1=>xA (h:=tL1 (Zf (Za (xW ZaL (h:=x1 Zfs 0 (h:=xV Tryz.underlying36 (h:=Zbw (h:=Zb rfl (fun g0=>?_) (fun g0=>?_)))))))))))
 try simp only [sQ,ne_eq] at g0
 refine Za (xA (h:=Zd (Zo ?_)))
 exact eR t1 ⟨Zg (by simp [Zbf];omega),rfl,rfl⟩
 try simp only [sQ,ne_eq] at g0
 refine wSk (Za (xA (h:=Zf (Za (xW ZaL (h:=x1 Zfs 0 (h:=xV Tryz.underlying36 (h:=xM (h:=Zl (ZO (α:=Nat × Int) [0,1,9,11,12] (fun g=>[(3,.int .i64 g.2),(13,.int .i64 g.1)]) [] (fun g=>[]) (fun g Bx=>Bx=B∧g.1≤x.mail.length∧Zcj (x.mail.take g.1)=(true,g.2)∧0≤g.2∧g.2≤99) (fun g=>x.mail.length - g.1) (0,0) t2 rfl (⟨rfl,Nat.zero_le _,Ze3,oz,oz⟩) (fun g B2 hle2 hI=>?_)))))))))))
 obtain ⟨rfl,hk,hs,hl0,hl1⟩:=hI
 refine ZN [(0,_),(1,_),(3,_),(9,_),(11,_),(12,_),(13,_)] [_] t7 rfl (Za (Zaa (h:=Zf (Zb rfl (fun g1=>?_) (fun g1=>?_)))))
 try simp only [sQ,ne_eq] at g1
 refine wSk (Zf (Zl (Za ?_)))
 obtain ⟨m,hm⟩:=Zaf (xs:=x.mail) (i:=g.1) om
 obtain ⟨bb4,oo4,rfl⟩:=hx.base hm
 obtain ⟨_,⟨rfl,hb5⟩,hc5⟩:=hx.elem hm
 refine xIx Tryz.underlying36 Zgc (h:=yL [_,_,_] Zpg hc5 0 (h:=xAl [_,_,_] Zlk (h:=fun b6=>xS [_,_,_] 1 [_,_,_] Zgc (h:=tL2 (Zf (Za (xL [_,_,_] Zpg 1 (h:=xR ZzQ rfl (Zpr m om2 _) (h:=?_)))))))))
 refine xN (h:=xM (h:=Zn (d:=20) rfl (fun g2=>?_) (fun g2=>?_)))
 try simp only [sQ,ne_eq] at g2
 refine xP (h:=xP (h:=xP (h:=xP (h:=xT (h:=Zb (t:=true) rfl (fun _=>Za (xA (h:=Zd (Zo (ZD (Zo (Z3 (ZD (Zo ?_))))))))) (fun h=>Bool.noConfusion h))))))
 exact eR t1 ⟨Zg (ZgD (ZfW hm (by rw [show (scn ZbP (fun _ m=>m.uid) 0 (x.mail.take g.1)).2=g.2 from congrArg Prod.snd hs];simp [ZbP,g2]))).symm,rfl,rfl⟩
 try simp only [sQ,ne_eq] at g2
 refine xW Zhw (h:=x1 lk3 1 (h:=xM (h:=ZcP (h:=xF (h:=Zb rfl (fun g3=>?_) (fun g3=>?_))))))
 try simp only [sQ,ne_eq] at g3
 refine Za (xA (h:=Zd (Zo (ZD (Zo (Z3 (ZD (Zo ?_))))))))
 exact eR t1 ⟨Zg (ZgD (ZfW hm (by rw [show (scn ZbP (fun _ m=>m.uid) 0 (x.mail.take g.1)).2=g.2 from congrArg Prod.snd hs];simp [ZbP,g2];omega))).symm,rfl,rfl⟩
 try simp only [sQ,ne_eq] at g3
 refine wSk (Zc (xW Zhw (h:=x1 lk3 1 (h:=xA (h:=Zx (Zj (Zc (xD (h:=xM (h:=?_))))))))))
 exact ZA (g.1+1,m.uid) [0] so2 ⟨rfl,oz,Zci hm hs (by simp [ZbP,g2];omega),Zj9 g2⟩ t7 rfl
 try simp only [sQ,ne_eq] at g1
 refine ZT (Zab (ZW (ZG (Zj (Za (xW ZbW (h:=x1 lk3 0 (h:=xM (h:=Zbw (h:=xM (h:=Zn (d:=33) rfl (fun g4=>?_) (fun g4=>?_))))))))))))
 try simp only [sQ,ne_eq] at g4
 refine xW ZbW (h:=x1 lk3 0 (h:=ZcP (h:=xT (h:=xA (h:=Zd ?_)))))
 exact eR t1 ⟨Zg (by rw [ZdL (Zec hs oz),Bool.eq_iff_iff];simp;omega),rfl,rfl⟩
 try simp only [sQ,ne_eq] at g4
 refine xP (h:=xP (h:=xP (h:=xF (h:=xA (h:=Zd ?_)))))
 exact eR t1 ⟨Zg (by rw [ZdL (Zec hs oz),Bool.eq_iff_iff];simp;omega),rfl,rfl⟩

theorem Zq4 (q:Option Addr) (cp:Nat) (x:DBox) (B:Kn) (hx:SlK B q cp 3 ZM x.mail):ZaH (pj J) 122 [.agg #[.int .i64 x.next,.slice q x.mail.length cp]] B (.int .i64 (Zag x.mail)):=by
 refine cB 22 Tryz.func122 (h:=?_)
 have hxn:=hx.len
 refine Za (xBx [_,_] (h:=fun b1=>xA (h:=tL1 (Za (xA (h:=Zf (Za (xA (h:=Zl (ZO (α:=Nat × Nat) [0,1,2] (fun g=>[(3,.int .i64 g.2),(4,.int .i64 g.1)]) [] (fun g=>[]) (fun g Bx=>Bx=B∧g.1≤x.mail.length∧g.2=Zag (x.mail.take g.1)∧g.2≤g.1*2000000) (fun g=>x.mail.length - g.1) (0,0) t2 rfl (⟨rfl,Nat.zero_le _,by simp [Zag],oz⟩) (fun g B2 hle2 hI=>?_)))))))))))
 obtain ⟨rfl,hk,hs,hl⟩:=hI
 refine ZN [(0,_),(1,_),(2,_),(3,_),(4,_)] [_] t5 rfl (Zf (Za (xM (h:=xW ZaL (h:=x1 Zfs 0 (h:=xV Tryz.underlying36 (h:=Zaa (h:=Zb rfl (fun g1=>?_) (fun g1=>?_)))))))))
 try simp only [sQ,ne_eq] at g1
 refine wSk (Zf (Zl (Zc (xM (h:=xW ZaL (h:=x1 Zfs 0 (h:=xM (h:=?_))))))))
 obtain ⟨m,hm⟩:=Zaf (xs:=x.mail) (i:=g.1) om
 obtain ⟨bb4,oo4,rfl⟩:=hx.base hm
 obtain ⟨_,⟨rfl,hb5⟩,hc5⟩:=hx.elem hm
 refine xIx Tryz.underlying36 Zgc (h:=xW Zmm (h:=y1 lk9 hc5 2 (h:=xVs Tryz.underlying9 (h:=xD (h:=xA (h:=Zx (Zj (Zc (xM (h:=xD (h:=xA (h:=?_))))))))))))
 exact ZA (g.1+1,g.2+m.text.length) [0] so2 ⟨rfl,oz,by rw [Ziq hm,← hs],oz⟩ t5 rfl
 try simp only [sQ,ne_eq] at g1
 refine ZT (Zab (ZW (ZG (Zj (Za (xM (h:=xA (h:=Zd ?_))))))))
 exact eR t1 ⟨ZaJ (by rw [← ZjX hs oz]),rfl,rfl⟩

theorem ZrX (q:Option Addr) (cp:Nat) (x:DBox) (B:Kn) (hx:SlK B q cp 3 ZM x.mail):ZaH (pj J) 91 [.agg #[.int .i64 x.next,.slice q x.mail.length cp]] B (.int .i64 (Zeg x)):=by
 refine cB 23 Tryz.func91 (h:=?_)
 have hxn:=hx.len
 refine Za (xBx [_,_] (h:=fun b1=>xA (h:=tL1 (Zf (Za (xL [_,_] Zbp 0 (h:=xR Zye rfl (ZiQ _ _ (⟨x.next,x.mail⟩:DBox) _ hx) (h:=xN (h:=Zb rfl (fun g0=>?_) (fun g0=>?_))))))))))
 try simp only [sQ,ne_eq] at g0
 refine Za (xA (h:=Zd (Zo ?_)))
 exact eR t1 ⟨ZaJ (by simp [Zeg,g0]),rfl,rfl⟩
 try simp only [sQ,ne_eq] at g0
 refine wSk (Za (xA (h:=Zf (Za (xW ZaL (h:=x1 Zfs 0 (h:=xV Tryz.underlying36 (h:=xM (h:=Zl (ZO (α:=Nat × Nat) [0,1,2,8,10,11] (fun g=>[(3,.int .i64 g.2),(12,.int .i64 g.1)]) [] (fun g=>[]) (fun g Bx=>Bx=B∧g.1≤x.mail.length∧g.2=Zag (x.mail.take g.1)∧g.2≤g.1*2000000) (fun g=>x.mail.length - g.1) (0,0) t2 rfl (⟨rfl,Nat.zero_le _,by simp [Zag],oz⟩) (fun g B3 hle3 hI=>?_)))))))))))
 obtain ⟨rfl,hk,hs,hl⟩:=hI
 refine ZN [(0,_),(1,_),(2,_),(3,_),(8,_),(10,_),(11,_),(12,_)] [_] t8 rfl (Za (Zaa (h:=Zf (Zb rfl (fun g1=>?_) (fun g1=>?_)))))
 try simp only [sQ,ne_eq] at g1
 refine wSk (Zf (Zl (Za ?_)))
 obtain ⟨m,hm⟩:=Zaf (xs:=x.mail) (i:=g.1) om
 obtain ⟨bb5,oo5,rfl⟩:=hx.base hm
 obtain ⟨_,⟨rfl,hb6⟩,hc6⟩:=hx.elem hm
 refine xIx Tryz.underlying36 Zgc (h:=yL [_,_,_] Zpg hc6 0 (h:=xAl [_,_,_] Zlk (h:=fun b7=>xS [_,_,_] 1 [_,_,_] Zgc (h:=tL2 (Zc (xM (h:=xW Zmm (h:=x1 lk9 1 (h:=xVs Tryz.underlying9 (h:=xD (h:=xA (h:=Zx (Zj (Zc (xD (h:=xM (h:=?_)))))))))))))))))
 exact ZA (g.1+1,g.2+m.text.length) [0] so2 ⟨rfl,oz,by rw [Ziq hm,← hs],oz⟩ t8 rfl
 try simp only [sQ,ne_eq] at g1
 refine ZT (Zab (ZW (ZG (Zj (Za (xM (h:=xA (h:=Zd ?_))))))))
 exact eR t1 ⟨ZaJ (by rw [Zeg,if_pos g0,← ZjX hs oz]),rfl,rfl⟩

theorem Zsy (n:Int) (B:Kn):ZaH (pj J) 103 [.int .i64 n] B (.bool (decide (0≤n) && decide (n≤63))):=by
 refine cB 9 Tryz.func103 (h:=?_)
 refine Za (xA (h:=Za (xM (h:=Zd9 (h:=xM (h:=Zn (d:=5) rfl (fun g1=>?_) (fun g1=>?_)))))))
 refine xM (h:=ZcP (h:=xT (h:=xA (h:=Zd ?_))))
 exact eR t1 ⟨Zg (by rw [Bool.eq_iff_iff];simp [g1];try omega),rfl,rfl⟩
 refine xP (h:=xP (h:=xF (h:=xA (h:=Zd ?_))))
 exact eR t1 ⟨Zg (by rw [Bool.eq_iff_iff];simp [g1];try omega),rfl,rfl⟩

theorem ZmT (u:DUser) (h1:u.name.length≤2000000) (h2:u.pass.length≤2000000) (B:Kn):ZaH (pj J) 90 [.agg #[str u.name,str u.pass,.int .i64 u.quota]] B (.bool (Zcz u)):=by
 refine cB 26 Tryz.func90 (h:=?_)
 refine Za (xBx [_,_,_] (h:=fun b1=>xA (h:=tL1 (Za (xW Zdm (h:=x1 lk9 0 (h:=xR Zuc rfl (Zct _ om2 _) (h:=?_))))))))
 refine xM (h:=Zn (d:=6) rfl (fun g1=>?_) (fun g1=>?_))
 try simp only [sQ,ne_eq] at g1
 refine xW Zdm (h:=x1 lk9 0 (h:=ZfD (h:=xT (h:=xM (h:=Zn (d:=11) rfl (fun g2=>?_) (fun g2=>?_))))))
 try simp only [sQ,ne_eq] at g2
 refine xW Zrr (h:=x1 lk9 0 (h:=xR Zuc rfl (Zct _ om2 _) (h:=?_)))
 refine xT (h:=xM (h:=Zn (d:=16) rfl (fun g3=>?_) (fun g3=>?_)))
 try simp only [sQ,ne_eq] at g3
 refine xW Zi6 (h:=x1 lk3 0 (h:=Zd9 (h:=xT (h:=xM (h:=Zn (d:=21) rfl (fun g4=>?_) (fun g4=>?_))))))
 try simp only [sQ,ne_eq] at g4
 refine xW Zi6 (h:=x1 lk3 0 (h:=ZcP (h:=xT (h:=xA (h:=Zd ?_)))))
 exact eR t1 ⟨Zg (by rw [Bool.eq_iff_iff];simp [Zcz,anyone,g1,g2,g3,g4];try omega),rfl,rfl⟩
 try simp only [sQ,ne_eq] at g4
 refine xP (h:=xP (h:=xP (h:=xF (h:=xA (h:=Zd ?_)))))
 exact eR t1 ⟨Zg (by rw [Bool.eq_iff_iff];simp [Zcz,anyone,g1,g2,g3,g4];try omega),rfl,rfl⟩
 try simp only [sQ,ne_eq] at g3
 refine xP (h:=xP (h:=xP (h:=xF (h:=xM (h:=xP (h:=xP (h:=xP (h:=xF (h:=xA (h:=Zd ?_))))))))))
 exact eR t1 ⟨Zg (by rw [Bool.eq_iff_iff];simp [Zcz,anyone,g1,g2,g3];try omega),rfl,rfl⟩
 try simp only [sQ,ne_eq] at g2
 refine xP (h:=xP (h:=xP (h:=xF (h:=xM (h:=xP (h:=xP (h:=xP (h:=xF (h:=xM (h:=xP (h:=xP (h:=xP (h:=xF (h:=xA (h:=Zd ?_)))))))))))))))
 exact eR t1 ⟨Zg (by rw [Bool.eq_iff_iff];simp [Zcz,anyone,g1,g2];try omega),rfl,rfl⟩
 try simp only [sQ,ne_eq] at g1
 refine xP (h:=xP (h:=xP (h:=xF (h:=xM (h:=xP (h:=xP (h:=xP (h:=xF (h:=xM (h:=xP (h:=xP (h:=xP (h:=xF (h:=xM (h:=xP (h:=xP (h:=xP (h:=xF (h:=xA (h:=Zd ?_))))))))))))))))))))
 exact eR t1 ⟨Zg (by rw [Bool.eq_iff_iff];simp [Zcz,anyone,g1];try omega),rfl,rfl⟩

theorem ZiP (q:Option Addr) (cp:Nat) (us:List DUser) (B:Kn) (hu:SlK B q cp 3 Zv us):ZaH (pj J) 52 [.slice q us.length cp] B (.bool (Zap us)):=by
 refine cB 32 Tryz.func52 (h:=?_)
 have hun:=hu.len
 refine Za (xA (h:=Zf (Za (xM (h:=xV Tryz.underlying23 (h:=Zaa (h:=xM (h:=Zn (d:=9) rfl (fun g0=>?_) (fun g0=>?_)))))))))
 try simp only [sQ,ne_eq] at g0
 refine xP (h:=xP (h:=xP (h:=xT (h:=Zb (t:=true) rfl (fun _=>Za (xA (h:=Zd (Zo ?_)))) (fun h=>Bool.noConfusion h)))))
 exact eR t1 ⟨Zg (by rw [Bool.eq_iff_iff];simp [Zap];omega),rfl,rfl⟩
 try simp only [sQ,ne_eq] at g0
 refine xM (h:=xV Tryz.underlying23 (h:=Zbw (h:=xF (h:=Zb rfl (fun g0b=>?_) (fun g0b=>?_)))))
 try simp only [sQ,ne_eq] at g0b
 refine Za (xA (h:=Zd (Zo ?_)))
 exact eR t1 ⟨Zg (by rw [Bool.eq_iff_iff];simp [Zap];omega),rfl,rfl⟩
 try simp only [sQ,ne_eq] at g0b
 refine wSk (Za (xA (h:=Zf (Za (xM (h:=xV Tryz.underlying23 (h:=xM (h:=Zl (ZO (α:=Nat × Str) [0,13,14,15] (fun g=>[(3,str g.2),(16,.int .i64 g.1)]) [] (fun g=>[]) (fun g Bx=>Bx=B∧g.1≤us.length∧ZdV (us.take g.1)=(true,g.2)∧g.2.length≤2000000) (fun g=>us.length - g.1) (0,[]) t2 rfl (⟨rfl,Nat.zero_le _,Ze3,by simp⟩) (fun g B1 hle1 hI=>?_))))))))))
 obtain ⟨rfl,hk,hs,hl⟩:=hI
 refine ZN [(0,_),(3,_),(13,_),(14,_),(15,_),(16,_)] [] t6 rfl (Za (Zaa (h:=Zf (Zb rfl (fun g1=>?_) (fun g1=>?_)))))
 try simp only [sQ,ne_eq] at g1
 refine wSk (Zf (Zl (Za ?_)))
 obtain ⟨m,hm⟩:=Zaf (xs:=us) (i:=g.1) om
 obtain ⟨bb3,oo3,rfl⟩:=hu.base hm
 obtain ⟨_,⟨rfl,hb4,hb4b⟩,hc4⟩:=hu.elem hm
 refine xIx Tryz.underlying23 ZeW (h:=yL [_,_,_] Zon hc4 0 (h:=xAl [_,_,_] ZgH (h:=fun b5=>xS [_,_,_] 0 [_,_,_] ZeW (h:=tL1 (Zf (Za (xL [_,_,_] Zon 0 (h:=xR ZzP rfl (ZmT m om2 om2 _) (h:=?_)))))))))
 refine xN (h:=xM (h:=Zn (d:=23) rfl (fun g2=>?_) (fun g2=>?_)))
 try simp only [sQ,ne_eq] at g2
 refine xP (h:=xP (h:=xP (h:=xP (h:=xT (h:=Zb (t:=true) rfl (fun _=>Za (xA (h:=Zd (Zo (ZD (Zo (Z3 (ZD (Zo ?_))))))))) (fun h=>Bool.noConfusion h))))))
 exact eR t1 ⟨Zg (ZfP (ZfW hm (by rw [show (scn ZdB (fun _ u=>u.name) [] (us.take g.1)).2=g.2 from congrArg Prod.snd hs];simp [ZdB,g2]))).symm,rfl,rfl⟩
 try simp only [sQ,ne_eq] at g2
 refine xW Zdm (h:=x1 lk9 0 (h:=xM (h:=Zp (Zt0 rfl rfl rfl rfl (xF (h:=Zb rfl (fun g3=>?_) (fun g3=>?_)))))))
 try simp only [sQ,ne_eq] at g3
 refine Za (xA (h:=Zd (Zo (ZD (Zo (Z3 (ZD (Zo ?_))))))))
 exact eR t1 ⟨Zg (ZfP (ZfW hm (by rw [show (scn ZdB (fun _ u=>u.name) [] (us.take g.1)).2=g.2 from congrArg Prod.snd hs,ZdB,Zbs g.2 m.name,g3];simp))).symm,rfl,rfl⟩
 try simp only [sQ,ne_eq] at g3
 refine wSk (Zc (xW Zdm (h:=x1 lk9 0 (h:=xA (h:=Zx (Zj (Zc (xD (h:=xM (h:=?_))))))))))
 exact ZA (g.1+1,m.name) [] so2 ⟨rfl,oz,Zci hm hs (by rw [ZdB,Zbs g.2 m.name,g2,g3];rfl),oy⟩ t6 rfl
 try simp only [sQ,ne_eq] at g1
 refine ZT (Zab (ZW (ZG (Zj (Za (xA (h:=Zd ?_)))))))
 exact eR t1 ⟨Zg (by rw [Zif (Zec hs oz),Bool.eq_iff_iff];simp;omega),rfl,rfl⟩

theorem Zlt (x:DUser) (u:Str) (b:Nat) (h1:x.name.length≤2000000) (h2:u.length≤2000000) (B:Kn) (hb:ZaQ B b 0 [str u]):ZaH (pj J) 54 [.agg #[str x.name,str x.pass,.int .i64 x.quota],ptr ⟨b,0,none⟩] B (.bool (decide (x.name=u))):=by
 refine cB 8 Tryz.func54 (h:=?_)
 refine Za (xBx [_,_,_] (h:=fun b1=>xA (h:=tL1 (Za (xW Zdm (h:=x1 lk9 0 (h:=Zp (Zh rfl rfl lk9 rfl (hb _ 0 _ rfl) (Zdk (h:=xA (h:=Zd ?_)))))))))))
 exact eR t1 ⟨rfl,rfl,rfl⟩

theorem ZrB (q:Option Addr) (cp:Nat) (us:List DUser) (F:FuncId) (cap:Array Value) (t:DUser→Bool) (B:Kn) (hu:SlK B q cp 3 Zv us) (he:enters (pj J) F=true) (hF :∀x:DUser,x.name.length≤2000000→x.pass.length≤2000000→ZaH (pj J) F ([.agg #[str x.name,str x.pass,.int .i64 x.quota]] ++ cap.toList) B (.bool (t x))):ZaH (pj J) 53 [.slice q us.length cp,.func (.func F) #[] cap] B (.tuple #[.agg #[str (Zf6 t us).1.name,str (Zf6 t us).1.pass,.int .i64 (Zf6 t us).1.quota],.bool (Zf6 t us).2]):=by
 refine cB 21 Tryz.func53 (h:=?_)
 have hun:=hu.len
 refine Za (xAl [_,_,_] ZgH (h:=fun b1=>xA (h:=tL1 (Zf (Za (xM (h:=xV Tryz.underlying23 (h:=xM (h:=Zl (ZO (α:=Nat) [0,1,4,9,10] (fun k=>[(11,.int .i64 k)]) [] (fun k=>[]) (fun k Bx=>Bx=B∧k≤us.length∧∀y,y∈us.take k→t y=false) (fun k=>us.length - k) 0 t1 rfl (⟨rfl,Nat.zero_le _,by simp⟩) (fun k B2 hle2 hI=>?_)))))))))))
 obtain ⟨rfl,hk,ha⟩:=hI
 refine ZN [(0,_),(1,_),(4,_),(9,_),(10,_),(11,_)] [_] t6 rfl (Za (Zaa (h:=Zf (Zb rfl (fun g1=>?_) (fun g1=>?_)))))
 try simp only [sQ,ne_eq] at g1
 refine wSk (Zf (Zl (Za ?_)))
 obtain ⟨m,hm⟩:=Zaf (xs:=us) (i:=k) om
 obtain ⟨bb4,oo4,rfl⟩:=hu.base hm
 obtain ⟨_,⟨rfl,hb5,hb5b⟩,hc5⟩:=hu.elem hm
 refine xIx Tryz.underlying23 ZeW (h:=yL [_,_,_] Zon hc5 0 (h:=xAl [_,_,_] ZgH (h:=fun b6=>xS [_,_,_] 1 [_,_,_] ZeW (h:=tL2 (Za (xM (h:=xL [_,_,_] Zon 1 (h:=Zp (ZtT rfl rfl he rfl rfl (hF m om2 om2) ?_)))))))))
 refine Zb rfl (fun g2=>?_) (fun g2=>?_)
 try simp only [sQ,ne_eq] at g2
 refine Za (xL [_,_,_] Zon 1 (h:=xS [_,_,_] 0 [_,_,_] ZeW (h:=xA (h:=tL2 (Zd (ZD (Zo (Z3 (ZD (Zo ?_))))))))))
 exact ZrG .ret (.inl rfl) [_,_] ⟨⟨_,rfl,.inr ⟨[_,_,_],Zon,Z9 0 rfl rfl rfl,rfl⟩⟩,rfl,trivial⟩ ⟨by rw [ZrA hm g2 ha];rfl,rfl,rfl⟩
 try simp only [sQ,ne_eq] at g2
 refine ZK (Zx (Zj (Zc (xD (h:=xM (h:=?_))))))
 exact ZA (k+1) [0] so2 ⟨rfl,oz,Zbq hm ha g2⟩ t6 rfl
 try simp only [sQ,ne_eq] at g1
 refine ZT (Zab (ZW (ZG (Zj (Za (xAl [_,_,_] ZgH (h:=fun b8=>tL2 (Za (xL [_,_,_] Zon 1 (h:=xS [_,_,_] 0 [_,_,_] ZeW (h:=xA (h:=tL2 (Zd ?_)))))))))))))
 exact ZrG .ret (.inl rfl) [_,_] ⟨⟨_,rfl,.inr ⟨[_,_,_],Zon,Z9 0 rfl rfl rfl,rfl⟩⟩,rfl,trivial⟩ ⟨by rw [ZpI (ZbL oz ha)];rfl,rfl,rfl⟩

theorem Zih (q:Option Addr) (cp:Nat) (us:List DUser) (nm:Str) (hn:nm.length≤2000000) (B:Kn) (hu:SlK B q cp 3 Zv us):ZaH (pj J) 17 [.slice q us.length cp,str nm] B (.tuple #[.agg #[str (Za5 us nm).1.name,str (Za5 us nm).1.pass,.int .i64 (Za5 us nm).1.quota],.bool (Za5 us nm).2]):=by
 refine cB 15 Tryz.func17 (h:=?_)
 have hun:=hu.len
 refine Za (xBx [_] (h:=fun b1=>xAl [_,_,_] ZgH (h:=fun b2=>xA (h:=tL2 (Zf (Za (xM (h:=xR Zzn rfl (ZiP _ _ _ _ hu) (h:=xN (h:=Zb rfl (fun g0=>?_) (fun g0=>?_)))))))))))
 try simp only [sQ,ne_eq] at g0
 refine Za (xB [] [_,_,_] [_,_,_] ZsH ZgH (h:=xS [_,_,_] 1 [_,_,_] ZeW (h:=xA (h:=tL2 (Zd (Zo ?_))))))
 exact ZrG .ret (.inl rfl) [_,_] ⟨⟨_,rfl,.inr ⟨[_,_,_],Zon,Z9 1 rfl rfl rfl,rfl⟩⟩,rfl,trivial⟩ ⟨by rw [Za5,g0];rfl,rfl,rfl⟩
 try simp only [sQ,ne_eq] at g0
 refine wSk (Za (xM (h:=Zp (Zdu (xs:=[]) (ys:=[_]) rfl rfl rfl rfl (Zp (Zhf 0 rfl rfl rfl ZAa rfl (ZaH.borrow fun hm=>ZrB _ _ us 54 _ (fun y=>decide (y.name=nm)) _ (hu.mono Zv.mono (Kn.le_add _ _)) Zz9 (fun y h1 h2=>Zlt y nm _ h1 hn _ (ZkJ hm))) (xE (h:=xE (h:=xS [_,_,_] 1 [_,_,_] ZeW (h:=xA (h:=tL2 (Zd ?_))))))))))))
 exact ZrG .ret (.inl rfl) [_,_] ⟨⟨_,rfl,.inr ⟨[_,_,_],Zon,Z9 1 rfl rfl rfl,rfl⟩⟩,rfl,trivial⟩ ⟨by rw [Za5,if_pos g0];rfl,rfl,rfl⟩

theorem ZhV (b o:Nat) (q1 q2 q3:Option Addr) (c1 c2 c3:Nat) (x:DHost) (nm:Str) (hn:nm.length≤2000000) (B:Kn) (hh:ZaQ B b o [str x.domain,.slice q1 x.users.length c1,.slice q2 x.folders.length c2,.int .i64 x.queue.next,.slice q3 x.queue.items.length c3]) (hu:SlK B q1 c1 3 Zv x.users):ZaH (pj J) 55 [ptr ⟨b,o,none⟩,str nm] B (.bool (Za5 x.users nm).2):=by
 refine cB 17 Tryz.func55 (h:=?_)
 refine Za (xA (h:=Za (xM (h:=xNc (h:=xW ZbX (h:=Zp (Zh rfl rfl ZjC rfl (hh _ 1 _ rfl) (xM (h:=xR Zzw rfl (Zih _ _ _ nm om2 _ hu) (h:=?_))))))))))
 refine xM (h:=xE (h:=xE (h:=xAl [_,_,_] ZgH (h:=fun b2=>xS [_,_,_] 0 [_,_,_] ZeW (h:=xA (h:=tL1 (Za (xM (h:=xA (h:=Zd ?_))))))))))
 exact eR t1 ⟨rfl,rfl,rfl⟩

theorem ZdH (q1 q2 q3:Option Addr) (c1 c2 c3:Nat) (x:DHost) (ow nm:Str) (ho:ow.length≤2000000) (hn:nm.length≤2000000) (B:Kn) (hf:SlK B q2 c2 5 Ze x.folders):ZaH (pj J) 36 [.agg #[str x.domain,.slice q1 x.users.length c1,.slice q2 x.folders.length c2,.int .i64 x.queue.next,.slice q3 x.queue.items.length c3],str ow,str nm] B (.int .i64 (ZaB (inF ow nm) x.folders)):=by
 refine cB 34 Tryz.func36 (h:=?_)
 have hfn:=hf.len
 refine Za (xBx [_,_,_,_,_] (h:=fun b1=>xA (h:=tL1 (Zf (Za (xA (h:=Zl (ZO (α:=Nat) [0,1,2,3] (fun k=>[(7,.int .i64 k)]) [] (fun k=>[]) (fun k Bx=>Bx=B∧k≤x.folders.length∧∀y,y∈x.folders.take k→inF ow nm y=false) (fun k=>x.folders.length - k) 0 t1 rfl (⟨rfl,Nat.zero_le _,by simp⟩) (fun k B2 hle2 hI=>?_)))))))))
 obtain ⟨rfl,hk,ha⟩:=hI
 refine ZN [(0,_),(1,_),(2,_),(3,_),(7,_)] [_] t5 rfl (Zf (Za (xM (h:=xW ZX (h:=x1 Zck 0 (h:=xV Tryz.underlying24 (h:=Zaa (h:=Zb rfl (fun g1=>?_) (fun g1=>?_)))))))))
 try simp only [sQ,ne_eq] at g1
 refine wSk (Zf (Zl (Za (xW ZX (h:=x1 Zck 0 (h:=xM (h:=?_)))))))
 obtain ⟨y,hy⟩:=Zaf (xs:=x.folders) (i:=k) om
 obtain ⟨bb4,oo4,rfl⟩:=hf.base hy
 obtain ⟨_,⟨qg5,cg5,qm5,cm5,rfl,hg5,hm5,hb5,hb5b⟩,hc5⟩:=hf.elem hy
 have hg5n:=hg5.len
 have hm5n:=hm5.len
 have hm5s:=Z0 hm5
 refine xIx Tryz.underlying24 Zba (h:=xW Zb5 (h:=y1 lk9 hc5 0 (h:=xM (h:=Zdk (h:=xM (h:=Zn (d:=23) rfl (fun g2=>?_) (fun g2=>?_)))))))
 try simp only [sQ,ne_eq] at g2
 refine xW ZX (h:=x1 Zck 0 (h:=xM (h:=xIx Tryz.underlying24 Zba (h:=xW Zd5 (h:=y1 lk9 hc5 1 (h:=xM (h:=Zdk (h:=xT (h:=Zb rfl (fun g3=>?_) (fun g3=>?_))))))))))
 try simp only [sQ,ne_eq] at g3
 refine Za (xM (h:=xA (h:=Zd (ZD (Zo (Z3 (ZD (Zo ?_))))))))
 exact eR t1 ⟨ZaJ (ZhW hy (by simp [inF,g2,g3]) ha).symm,rfl,rfl⟩
 try simp only [sQ,ne_eq] at g3
 refine ZK (Zx (Zj (Zc (xM (h:=xD (h:=xA (h:=?_)))))))
 exact ZA (k+1) [0] so2 ⟨rfl,oz,Zbq hy ha (by simp [inF,g2,g3])⟩ t5 rfl
 try simp only [sQ,ne_eq] at g2
 refine xP (h:=xP (h:=xP (h:=xP (h:=xP (h:=xP (h:=xP (h:=xP (h:=xF (h:=Zb (t:=false) rfl (fun h=>Bool.noConfusion h) (fun _=>ZK (Zx (Zj (Zc (xM (h:=xD (h:=xA (h:=?_)))))))))))))))))
 exact ZA (k+1) [0] so2 ⟨rfl,oz,Zbq hy ha (by simp [inF,g2])⟩ t5 rfl
 try simp only [sQ,ne_eq] at g1
 refine ZT (Zab (ZW (ZG (Zj (Za (xA (h:=Zd ?_)))))))
 exact eR t1 ⟨ZaJ (Zfd (ZbL oz ha)).symm,rfl,rfl⟩

theorem Zvf (f:DFolder) (qa qb:Option Addr) (ca cb:Nat) (ow nm:Str) (b b':Nat) (h1:f.owner.length≤2000000) (h2:f.name.length≤2000000) (h3:ow.length≤2000000) (h4:nm.length≤2000000) (B:Kn) (hb:ZaQ B b 0 [str ow]) (hb2:ZaQ B b' 0 [str nm]):ZaH (pj J) 88 [.agg #[str f.owner,str f.name,.slice qa f.grants.length ca,.int .i64 f.next,.slice qb f.mail.length cb],ptr ⟨b,0,none⟩,ptr ⟨b',0,none⟩] B (.bool (inF ow nm f)):=by
 refine cB 15 Tryz.func88 (h:=?_)
 refine Za (xBx [_,_,_,_,_] (h:=fun b1=>xA (h:=tL1 (Za (xW Zb5 (h:=x1 lk9 0 (h:=Zp (Zh rfl rfl lk9 rfl (hb _ 0 _ rfl) (Zdk (h:=xM (h:=Zn (d:=9) rfl (fun g1=>?_) (fun g1=>?_))))))))))))
 refine xW Zd5 (h:=x1 lk9 0 (h:=Zp (Zh rfl rfl lk9 rfl (hb2 _ 0 _ rfl) (Zdk (h:=xT (h:=xA (h:=Zd ?_)))))))
 exact eR t1 ⟨Zg (by rw [Bool.eq_iff_iff];simp [inF,g1]),rfl,rfl⟩
 refine xP (h:=xP (h:=xP (h:=xP (h:=xF (h:=xA (h:=Zd ?_))))))
 exact eR t1 ⟨Zg (by rw [Bool.eq_iff_iff];simp [inF,g1]),rfl,rfl⟩

theorem Zs5 (q:Option Addr) (cp:Nat) (fs:List DFolder) (F:FuncId) (cap:Array Value) (t:DFolder→Bool) (B:Kn) (hf:SlK B q cp 5 Ze fs) (he:enters (pj J) F=true) (hF :∀(f:DFolder) (qa qb:Option Addr) (ca cb:Nat),f.owner.length≤2000000→f.name.length≤2000000→ZaH (pj J) F ([.agg #[str f.owner,str f.name,.slice qa f.grants.length ca,.int .i64 f.next,.slice qb f.mail.length cb]] ++ cap.toList) B (.bool (t f))):ZaH (pj J) 87 [.slice q fs.length cp,.func (.func F) #[] cap] B (.int .i64 (ZaB t fs)):=by
 refine cB 19 Tryz.func87 (h:=?_)
 have hfn:=hf.len
 refine Za (xA (h:=Zf (Za (xM (h:=xV Tryz.underlying24 (h:=xM (h:=Zl (ZO (α:=Nat) [0,1,7] (fun k=>[(8,.int .i64 k)]) [] (fun k=>[]) (fun k Bx=>Bx=B∧k≤fs.length∧∀y,y∈fs.take k→t y=false) (fun k=>fs.length - k) 0 t1 rfl (⟨rfl,Nat.zero_le _,by simp⟩) (fun k B1 hle1 hI=>?_)))))))))
 obtain ⟨rfl,hk,ha⟩:=hI
 refine ZN [(0,_),(1,_),(7,_),(8,_)] [] t4 rfl (Za (Zaa (h:=Zf (Zb rfl (fun g1=>?_) (fun g1=>?_)))))
 try simp only [sQ,ne_eq] at g1
 refine wSk (Zf (Zl (Za (xM (h:=xA (h:=Za (xM (h:=xM (h:=xM (h:=?_))))))))))
 obtain ⟨y,hy⟩:=Zaf (xs:=fs) (i:=k) om
 obtain ⟨bb3,oo3,rfl⟩:=hf.base hy
 obtain ⟨_,⟨qg4,cg4,qm4,cm4,rfl,hg4,hm4,hb4,hb4b⟩,hc4⟩:=hf.elem hy
 have hg4n:=hg4.len
 have hm4n:=hm4.len
 have hm4s:=Z0 hm4
 refine xIx Tryz.underlying24 Zba (h:=yL [_,_,_,_,_] Ze9 hc4 0 (h:=Zp (ZtT rfl rfl he rfl rfl (hF y _ _ _ _ om2 om2) ?_)))
 refine Zb rfl (fun g2=>?_) (fun g2=>?_)
 try simp only [sQ,ne_eq] at g2
 refine Za (xM (h:=xA (h:=Zd (ZD (Zo (Z3 (ZD (Zo ?_))))))))
 exact eR t1 ⟨ZaJ (ZhW hy g2 ha).symm,rfl,rfl⟩
 try simp only [sQ,ne_eq] at g2
 refine ZK (Zx (Zj (Zc (xD (h:=xM (h:=?_))))))
 exact ZA (k+1) [] so2 ⟨rfl,oz,Zbq hy ha g2⟩ t4 rfl
 try simp only [sQ,ne_eq] at g1
 refine ZT (Zab (ZW (ZG (Zj (Za (xA (h:=Zd ?_)))))))
 exact eR t1 ⟨ZaJ (Zfd (ZbL oz ha)).symm,rfl,rfl⟩

theorem Zry (b o:Nat) (q1 q2 q3:Option Addr) (c1 c2 c3:Nat) (x:DHost) (ow nm:Str) (ho:ow.length≤2000000) (hn:nm.length≤2000000) (B:Kn) (hh:ZaQ B b o [str x.domain,.slice q1 x.users.length c1,.slice q2 x.folders.length c2,.int .i64 x.queue.next,.slice q3 x.queue.items.length c3]) (hf:SlK B q2 c2 5 Ze x.folders):ZaH (pj J) 43 [ptr ⟨b,o,none⟩,str ow,str nm] B (.int .i64 (ZaB (inF ow nm) x.folders)):=by
 refine cB 13 Tryz.func43 (h:=?_)
 refine Za (xBx [_] (h:=fun b1=>xBx [_] (h:=fun b2=>xA (h:=tL2 (Za (xM (h:=xNc (h:=xW ZX (h:=Zp (Zh rfl rfl Zck rfl (hh _ 2 _ rfl) (Zp (Zdu (xs:=[]) (ys:=[_,_]) rfl rfl rfl rfl (Zp (Zv2 0 1 rfl rfl rfl rfl rfl ZzS rfl (ZaH.borrow2 fun hm1 hm2=>Zs5 _ _ x.folders 88 _ (inF ow nm) _ ((hf.mono Ze.mono (Kn.le_add _ _)).mono Ze.mono (Kn.le_add _ _)) ZzR (fun f qa qb ca cb h1 h2=>Zvf f qa qb ca cb ow nm _ _ h1 h2 ho hn _ (ZkJ hm1) (ZkJ hm2))) (xA (h:=Zd ?_))))))))))))))))
 exact eR t1 ⟨rfl,rfl,rfl⟩

theorem Znb (b o:Nat) (q1 q2 q3:Option Addr) (c1 c2 c3:Nat) (x:DHost) (B:Kn) (hh:ZaQ B b o [str x.domain,.slice q1 x.users.length c1,.slice q2 x.folders.length c2,.int .i64 x.queue.next,.slice q3 x.queue.items.length c3]) (hu:SlK B q1 c1 3 Zv x.users) (hi:SlK B q3 c3 4 Zy x.queue.items):ZaH (pj J) 62 [ptr ⟨b,o,none⟩] B (.bool (x.queue.items.all (Zdr x.users))):=by
 refine cB 35 Tryz.func62 (h:=?_)
 have hin:=hi.len
 refine Za (xA (h:=Zf (Za (xM (h:=xNc (h:=xW Zcg (h:=xW Zar (h:=Zp (Zh rfl rfl Zey rfl (hh _ 4 _ rfl) (xV Tryz.underlying25 (h:=xM (h:=Zl (ZO (α:=Nat) [0,11,12] (fun k=>[(13,.int .i64 k)]) [] (fun k=>[]) (fun k Bx=>Bx=B∧k≤x.queue.items.length∧∀y,y∈x.queue.items.take k→Zdr x.users y=true) (fun k=>x.queue.items.length - k) 0 t1 rfl (⟨rfl,Nat.zero_le _,by simp⟩) (fun k B1 hle1 hI=>?_))))))))))))))
 obtain ⟨rfl,hk,ha⟩:=hI
 refine ZN [(0,_),(11,_),(12,_),(13,_)] [] t4 rfl (Za (Zaa (h:=Zf (Zb rfl (fun g1=>?_) (fun g1=>?_)))))
 try simp only [sQ,ne_eq] at g1
 refine wSk (Zf (Zl (Za ?_)))
 obtain ⟨y,hy⟩:=Zaf (xs:=x.queue.items) (i:=k) om
 obtain ⟨bb3,oo3,rfl⟩:=hi.base hy
 obtain ⟨_,⟨qi4,ci4,rfl,hi4,hb4,hb4b⟩,hc4⟩:=hi.elem hy
 have hi4n:=hi4.len
 refine xIx Tryz.underlying25 Zbg (h:=yL [_,_,_,_] ZdF hc4 0 (h:=xAl [_,_,_,_] ZcM (h:=fun b5=>xS [_,_,_,_] 0 [_,_,_,_] Zbg (h:=tL1 (Zf (Za (xM (h:=xW Zg1 (h:=x1 lk9 0 (h:=xR Zxo rfl (ZhV _ _ _ _ _ _ _ _ x y.fr om2 _ hh hu) (h:=?_)))))))))))
 refine xN (h:=Zb rfl (fun g2=>?_) (fun g2=>?_))
 try simp only [sQ,ne_eq] at g2
 refine Za (xA (h:=Zd (Zo (ZD (Zo (Z3 (ZD (Zo ?_))))))))
 exact eR t1 ⟨Zg (Zc6 hy (by simp [Zdr,g2])).symm,rfl,rfl⟩
 try simp only [sQ,ne_eq] at g2
 refine wSk (Za (xW ZaG (h:=x1 ZcX 0 (h:=xV Tryz.underlying109 (h:=xM (h:=Zl (ZO (α:=Nat) [0,4,11,12,13,14,21,23,24] (fun j=>[(25,.int .i64 j)]) [] (fun j=>[]) (fun j Bx=>Bx=B1∧j≤y.left.length∧∀z,z∈y.left.take j→(Za5 x.users z).2=true) (fun j=>y.left.length - j) 0 t1 rfl (⟨rfl,Nat.zero_le _,by simp⟩) (fun j B7 hle7 hI=>?_))))))))
 obtain ⟨rfl,hj,hb⟩:=hI
 refine ZN [(0,_),(4,_),(11,_),(12,_),(13,_),(14,_),(21,_),(23,_),(24,_),(25,_)] [_] t10 rfl (Za (Zaa (h:=Zf (Zb rfl (fun g3=>?_) (fun g3=>?_)))))
 try simp only [sQ,ne_eq] at g3
 refine wSk (Zf (Zl (Za ?_)))
 obtain ⟨z,hz⟩:=Zaf (xs:=y.left) (i:=j) om
 obtain ⟨bb9,oo9,rfl⟩:=hi4.base hz
 obtain ⟨_,⟨rfl,hb10⟩,hc10⟩:=hi4.elem hz
 refine xIx Tryz.underlying109 sz9 (h:=y1 lk9 hc10 0 (h:=xA (h:=Za (xM (h:=xM (h:=xR Zxo rfl (ZhV _ _ _ _ _ _ _ _ x z om2 _ hh hu) (h:=?_)))))))
 refine xN (h:=Zb rfl (fun g4=>?_) (fun g4=>?_))
 try simp only [sQ,ne_eq] at g4
 refine Za (xA (h:=Zd (ZD (Zo (Z3 (ZD (ZD (Zo (Z3 (ZD (Zo ?_)))))))))))
 exact eR t1 ⟨Zg (Zc6 hy (by rw [Zdr,Zc6 hz g4,Bool.and_false])).symm,rfl,rfl⟩
 try simp only [sQ,ne_eq] at g4
 refine ZK (Zx (Zj (Zc (xD (h:=xM (h:=?_))))))
 exact ZA (j+1) [0] so2 ⟨rfl,oz,Zbq hz hb g4⟩ t10 rfl
 try simp only [sQ,ne_eq] at g3
 refine ZT (Zab (ZW (ZG (Zx (Zj (Zc (xD (h:=xM (h:=?_)))))))))
 exact ZA (k+1) [] so2 ⟨rfl,oz,Zbq hy ha (by rw [Zdr,g2,ZeP (ZbL oz hb)];rfl)⟩ t4 rfl
 try simp only [sQ,ne_eq] at g1
 refine ZT (Zab (ZW (ZG (Zj (Za (xA (h:=Zd ?_)))))))
 exact eR t1 ⟨Zg (ZeP (ZbL oz ha)).symm,rfl,rfl⟩

theorem Zl6 (f g:DFolder) (qa qb qc qd:Option Addr) (ca cb cc cd:Nat) (B:Kn):ZaH (pj J) 121 [.agg #[str f.owner,str f.name,.slice qa f.grants.length ca,.int .i64 f.next,.slice qb f.mail.length cb],.agg #[str g.owner,str g.name,.slice qc g.grants.length cc,.int .i64 g.next,.slice qd g.mail.length cd]] B (.bool (Zb0 f g)):=by
 refine cB 24 Tryz.func121 (h:=?_)
 refine Za (xBx [_,_,_,_,_] (h:=fun b1=>xBx [_,_,_,_,_] (h:=fun b2=>xA (h:=tL2 (Za (xW Zb5 (h:=x1 lk9 0 (h:=xW Zb5 (h:=x1 lk9 1 (h:=ZtS (h:=xM (h:=Zn (d:=10) rfl (fun g1=>?_) (fun g1=>?_)))))))))))))
 refine xP (h:=xP (h:=xP (h:=xP (h:=xP (h:=xP (h:=xP (h:=xP (h:=xP (h:=xP (h:=xP (h:=xP (h:=xT (h:=xA (h:=Zd ?_))))))))))))))
 exact eR t1 ⟨Zg (by rw [Bool.eq_iff_iff];simp [Zb0,Zc4,g1]),rfl,rfl⟩
 refine xW Zb5 (h:=x1 lk9 0 (h:=xW Zb5 (h:=x1 lk9 1 (h:=Zdk (h:=xM (h:=Zn (d:=16) rfl (fun g2=>?_) (fun g2=>?_)))))))
 refine xW Zd5 (h:=x1 lk9 0 (h:=xW Zd5 (h:=x1 lk9 1 (h:=ZtS (h:=xT (h:=xF (h:=xA (h:=Zd ?_))))))))
 exact eR t1 ⟨Zg (by rw [Bool.eq_iff_iff];simp [Zb0,Zc4,g1,g2]),rfl,rfl⟩
 refine xP (h:=xP (h:=xP (h:=xP (h:=xP (h:=xF (h:=xF (h:=xA (h:=Zd ?_))))))))
 exact eR t1 ⟨Zg (by rw [Bool.eq_iff_iff];simp [Zb0,Zc4,g1,g2]),rfl,rfl⟩

theorem ZmZ (q:Option Addr) (cp:Nat) (us:List DUser) (B:Kn) (hu:SlK B q cp 3 Zv us):ZaH (pj J) 75 [.slice q us.length cp] B (.bool (Zap us)):=by
 refine cB 54 Tryz.func75 (h:=?_)
 have hun:=hu.len
 refine Za (xA (h:=Zf (Za (xA (h:=Zl (ZO (α:=Nat × Str) [0] (fun g=>[(3,.int .i64 g.1)]) [] (fun g=>[]) (fun g Bx=>Bx=B∧g.1≤us.length∧ZdV (us.take g.1)=(true,g.2)∧Prev (fun y=>y.name) ([]:Str) us g.1 g.2) (fun g=>us.length - g.1) (0,[]) t1 rfl (⟨rfl,Nat.zero_le _,Ze3,.zero⟩) (fun g B1 hle1 hI=>?_)))))))
 obtain ⟨rfl,hk,hs,hp⟩:=hI
 refine ZN [(0,_),(3,_)] [] t2 rfl (Zf (Za (xM (h:=xM (h:=xV Tryz.underlying23 (h:=Zaa (h:=Zb rfl (fun g1=>?_) (fun g1=>?_))))))))
 try simp only [sQ,ne_eq] at g1
 refine wSk (Zf (Zl (Za (xM (h:=xM (h:=?_))))))
 obtain ⟨m,hm⟩:=Zaf (xs:=us) (i:=g.1) om
 obtain ⟨bb3,oo3,rfl⟩:=hu.base hm
 obtain ⟨_,⟨rfl,hb4,hb4b⟩,hc4⟩:=hu.elem hm
 refine xIx Tryz.underlying23 ZeW (h:=yL [_,_,_] Zon hc4 0 (h:=xAl [_,_,_] ZgH (h:=fun b5=>xS [_,_,_] 0 [_,_,_] ZeW (h:=tL1 (Zf (Z2 (same _ _) mo kr ⟨rfl,rfl⟩ (fun _ _=>?_)))))))
 refine aW 0 rfl Zdm (h:=aT 1 rfl (Zaj fun D=>Zh rfl rfl lk9 rfl (atL 0 rfl rfl rfl) r4) (h:=aT 2 rfl (Zaj fun D=>Za2 rfl rfl Zk7 rfl (ZbZ _ om2 _) r4) (h:=?_)))
 refine aN 3 rfl (h:=aM 4 rfl (h:=ZaC (d:=19) rfl (fun g2=>?_) (fun g2=>?_)))
 try simp only [sQ,ne_eq] at g2
 refine aZ 5 rfl (h:=aZ 6 rfl (h:=aZ 7 rfl (h:=aPT 8 rfl (h:=aM 9 rfl (h:=aZ 10 rfl (h:=aZ 11 rfl (h:=aZ 12 rfl (h:=aZ 13 rfl (h:=aPT 14 rfl (h:=aM 15 rfl (h:=aZ 16 rfl (h:=aZ 17 rfl (h:=aZ 18 rfl (h:=aZ 19 rfl (h:=aPT 20 rfl (h:=aM 21 rfl (h:=aZ 22 rfl (h:=aZ 23 rfl (h:=aZ 24 rfl (h:=aZ 25 rfl (h:=aZ 26 rfl (h:=aZ 27 rfl (h:=aZ 28 rfl (h:=aZ 29 rfl (h:=aZ 30 rfl (h:=aZ 31 rfl (h:=aZ 32 rfl (h:=aZ 33 rfl (h:=aZ 34 rfl (h:=aPT 35 rfl (h:=Zz kr kr ?_)))))))))))))))))))))))))))))))
 refine Zj (Zb (t:=true) rfl (fun _=>Za (xA (h:=Zd (ZD (Zo (Z3 (ZD (Zo ?_)))))))) (fun h=>Bool.noConfusion h))
 exact eR t1 ⟨Zg (ZdA hm hs (by simp [ZdB,Zcz,anyone,g1,g2])).symm,rfl,rfl⟩
 try simp only [sQ,ne_eq] at g2
 refine aW 5 rfl Zdm (h:=aT 6 rfl (Zaj fun D=>Zh rfl rfl lk9 rfl (atL 0 rfl rfl rfl) r4) (h:=Zsa 7 rfl (h:=aPF 8 rfl (h:=aM 9 rfl (h:=ZaC (d:=24) rfl (fun g3=>?_) (fun g3=>?_))))))
 try simp only [sQ,ne_eq] at g3
 refine aZ 10 rfl (h:=aZ 11 rfl (h:=aZ 12 rfl (h:=aZ 13 rfl (h:=aPT 14 rfl (h:=aM 15 rfl (h:=aZ 16 rfl (h:=aZ 17 rfl (h:=aZ 18 rfl (h:=aZ 19 rfl (h:=aPT 20 rfl (h:=aM 21 rfl (h:=aZ 22 rfl (h:=aZ 23 rfl (h:=aZ 24 rfl (h:=aZ 25 rfl (h:=aZ 26 rfl (h:=aZ 27 rfl (h:=aZ 28 rfl (h:=aZ 29 rfl (h:=aZ 30 rfl (h:=aZ 31 rfl (h:=aZ 32 rfl (h:=aZ 33 rfl (h:=aZ 34 rfl (h:=aPT 35 rfl (h:=Zz kr kr ?_))))))))))))))))))))))))))
 refine Zj (Zb (t:=true) rfl (fun _=>Za (xA (h:=Zd (ZD (Zo (Z3 (ZD (Zo ?_)))))))) (fun h=>Bool.noConfusion h))
 exact eR t1 ⟨Zg (ZdA hm hs (by simp [ZdB,Zcz,anyone,g1,g2,g3])).symm,rfl,rfl⟩
 try simp only [sQ,ne_eq] at g3
 refine aW 10 rfl Zrr (h:=aT 11 rfl (Zaj fun D=>Zh rfl rfl lk9 rfl (atL 0 rfl rfl rfl) r4) (h:=aT 12 rfl (Zaj fun D=>Za2 rfl rfl Zk7 rfl (ZbZ _ om2 _) r4) (h:=?_)))
 refine aN 13 rfl (h:=aPF 14 rfl (h:=aM 15 rfl (h:=ZaC (d:=30) rfl (fun g4=>?_) (fun g4=>?_))))
 try simp only [sQ,ne_eq] at g4
 refine aZ 16 rfl (h:=aZ 17 rfl (h:=aZ 18 rfl (h:=aZ 19 rfl (h:=aPT 20 rfl (h:=aM 21 rfl (h:=aZ 22 rfl (h:=aZ 23 rfl (h:=aZ 24 rfl (h:=aZ 25 rfl (h:=aZ 26 rfl (h:=aZ 27 rfl (h:=aZ 28 rfl (h:=aZ 29 rfl (h:=aZ 30 rfl (h:=aZ 31 rfl (h:=aZ 32 rfl (h:=aZ 33 rfl (h:=aZ 34 rfl (h:=aPT 35 rfl (h:=Zz kr kr ?_))))))))))))))))))))
 refine Zj (Zb (t:=true) rfl (fun _=>Za (xA (h:=Zd (ZD (Zo (Z3 (ZD (Zo ?_)))))))) (fun h=>Bool.noConfusion h))
 exact eR t1 ⟨Zg (ZdA hm hs (by simp [ZdB,Zcz,anyone,g1,g2,g3,g4])).symm,rfl,rfl⟩
 try simp only [sQ,ne_eq] at g4
 refine aW 16 rfl Zi6 (h:=aT 17 rfl (Zaj fun D=>Zh rfl rfl lk3 rfl (atL 0 rfl rfl rfl) r4) (h:=aT 18 rfl (Zaj fun D=>Za2 rfl rfl Zko rfl (Zcs _ _ _ _) r4) (h:=aN 19 rfl (h:=aPF 20 rfl (h:=aM 21 rfl (h:=ZaC (d:=36) rfl (fun g5=>?_) (fun g5=>?_)))))))
 try simp only [sQ,ne_eq] at g5
 refine aZ 22 rfl (h:=aZ 23 rfl (h:=aZ 24 rfl (h:=aZ 25 rfl (h:=aZ 26 rfl (h:=aZ 27 rfl (h:=aZ 28 rfl (h:=aZ 29 rfl (h:=aZ 30 rfl (h:=aZ 31 rfl (h:=aZ 32 rfl (h:=aZ 33 rfl (h:=aZ 34 rfl (h:=aPT 35 rfl (h:=Zz kr kr ?_))))))))))))))
 refine Zj (Zb (t:=true) rfl (fun _=>Za (xA (h:=Zd (ZD (Zo (Z3 (ZD (Zo ?_)))))))) (fun h=>Bool.noConfusion h))
 exact eR t1 ⟨Zg (ZdA hm hs (by simp [ZdB,Zcz,anyone,g1,g2,g3,g4,g5])).symm,rfl,rfl⟩
 try simp only [sQ,ne_eq] at g5
 refine aM 22 rfl (h:=ZnR 23 rfl (h:=aM 24 rfl (h:=ZaC (d:=39) rfl (fun g6=>?_) (fun g6=>?_))))
 try simp only [sQ,ne_eq] at g6
 refine aM 25 rfl (h:=aM 26 rfl (h:=aU 27 rfl (h:=?_)))
 obtain ⟨y,hy⟩:=Zeh (xs:=us) (i:=(↑g.1 - 1)) om om
 obtain ⟨_,⟨rfl,hb10,hb10b⟩,hc10⟩:=hu.elem hy
 refine aIx 28 rfl Tryz.underlying23 ZeW (h:=?_)
 have hpe:=hp.at hy oz
 refine aW 29 rfl Zdm (h:=aT 30 rfl (Zaj fun D=>Zh rfl rfl lk9 rfl (hc10 _ 0 _ rfl) r4) (h:=aW 31 rfl Zdm (h:=aT 32 rfl (Zaj fun D=>Zh rfl rfl lk9 rfl (atL 0 rfl rfl rfl) r4) (h:=aT 33 rfl (Zaj fun D=>Zqa rfl rfl rfl rfl r4) (h:=aPT 34 rfl (h:=aPF 35 rfl (h:=Zz kr kr ?_)))))))
 refine Zj (Zb rfl (fun g7=>?_) (fun g7=>?_))
 try simp only [sQ,ne_eq] at g7
 refine Za (xA (h:=Zd (ZD (Zo (Z3 (ZD (Zo ?_)))))))
 exact eR t1 ⟨Zg (ZdA hm hs (by simp [ZdB,Zcz,anyone,g1,g2,g3,g4,g5,g6,g7,hpe])).symm,rfl,rfl⟩
 try simp only [sQ,ne_eq] at g7
 refine ZK (Zx (Zj (Zc (xM (h:=xD (h:=xA (h:=?_)))))))
 exact ZA (g.1+1,m.name) [] so2 ⟨rfl,oz,Zci hm hs (by rw [hpe];simp [ZdB,Zcz,anyone,g2,g3,g4,g7];simp at g5;omega),.succ hm⟩ t2 rfl
 try simp only [sQ,ne_eq] at g6
 refine aZ 25 rfl (h:=aZ 26 rfl (h:=aZ 27 rfl (h:=aZ 28 rfl (h:=aZ 29 rfl (h:=aZ 30 rfl (h:=aZ 31 rfl (h:=aZ 32 rfl (h:=aZ 33 rfl (h:=aPF 34 rfl (h:=aPF 35 rfl (h:=Zz kr kr ?_)))))))))))
 refine Zj (Zb (t:=false) rfl (fun h=>Bool.noConfusion h) (fun _=>ZK (Zx (Zj (Zc (xM (h:=xD (h:=xA (h:=?_)))))))))
 exact ZA (g.1+1,m.name) [] so2 ⟨rfl,oz,Zci hm hs (by rw [hp.at0 oz];simp [ZdB,Zcz,anyone,g2,g3,g4,Zol (Zj7 g2)];simp at g5;omega),.succ hm⟩ t2 rfl
 try simp only [sQ,ne_eq] at g1
 refine ZT (Zab (ZW (ZG (Zj (Za (xM (h:=xV Tryz.underlying23 (h:=xR Zko rfl (Zcs _ _ _ _) (h:=xA (h:=Zd ?_))))))))))
 exact eR t1 ⟨Zg (by rw [Zif (Zec hs oz),Bool.eq_iff_iff];simp;omega),rfl,rfl⟩

theorem Zgp (q:Option Addr) (cp:Nat) (gs:List DGrant) (B:Kn) (hg:SlK B q cp 2 ZU gs):ZaH (pj J) 119 [.slice q gs.length cp] B (.bool (ZbQ gs)):=by
 refine cB 47 Tryz.func119 (h:=?_)
 have hgn:=hg.len
 refine Za (xA (h:=Zf (Za (xA (h:=Zl (ZO (α:=Nat × Str) [0] (fun g=>[(3,.int .i64 g.1)]) [] (fun g=>[]) (fun g Bx=>Bx=B∧g.1≤gs.length∧Zdf (gs.take g.1)=(true,g.2)∧Prev (fun y=>y.user) ([]:Str) gs g.1 g.2) (fun g=>gs.length - g.1) (0,[]) t1 rfl (⟨rfl,Nat.zero_le _,Ze3,.zero⟩) (fun g B1 hle1 hI=>?_)))))))
 obtain ⟨rfl,hk,hs,hp⟩:=hI
 refine ZN [(0,_),(3,_)] [] t2 rfl (Zf (Za (xM (h:=xM (h:=xV Tryz.underlying35 (h:=Zaa (h:=Zb rfl (fun g1=>?_) (fun g1=>?_))))))))
 try simp only [sQ,ne_eq] at g1
 refine wSk (Zf (Zl (Zf (Z2 (same _ _) mo kr ⟨rfl,rfl⟩ (fun _ _=>?_)))))
 refine aM 0 rfl (h:=aM 1 rfl (h:=?_))
 obtain ⟨m,hm⟩:=Zaf (xs:=gs) (i:=g.1) om
 obtain ⟨bb3,oo3,rfl⟩:=hg.base hm
 obtain ⟨_,⟨rfl,hb4⟩,hc4⟩:=hg.elem hm
 refine aIx 2 rfl Tryz.underlying35 ZeV (h:=aW 3 rfl Zeu (h:=aT 4 rfl (Zaj fun D=>Zh rfl rfl lk9 rfl (hc4 _ 0 _ rfl) r4) (h:=aT 5 rfl (Zaj fun D=>Za2 rfl rfl Zk7 rfl (ZbZ _ om2 _) r4) (h:=?_))))
 refine aN 6 rfl (h:=aM 7 rfl (h:=ZaC (d:=17) rfl (fun g2=>?_) (fun g2=>?_)))
 try simp only [sQ,ne_eq] at g2
 refine aZ 8 rfl (h:=aZ 9 rfl (h:=aZ 10 rfl (h:=aZ 11 rfl (h:=aZ 12 rfl (h:=aZ 13 rfl (h:=aZ 14 rfl (h:=aPT 15 rfl (h:=aM 16 rfl (h:=aZ 17 rfl (h:=aZ 18 rfl (h:=aZ 19 rfl (h:=aZ 20 rfl (h:=aZ 21 rfl (h:=aZ 22 rfl (h:=aZ 23 rfl (h:=aZ 24 rfl (h:=aZ 25 rfl (h:=aZ 26 rfl (h:=aZ 27 rfl (h:=aZ 28 rfl (h:=aZ 29 rfl (h:=aZ 30 rfl (h:=aZ 31 rfl (h:=aZ 32 rfl (h:=aPT 33 rfl (h:=Zz kr kr ?_))))))))))))))))))))))))))
 refine Zj (Zb (t:=true) rfl (fun _=>Za (xA (h:=Zd (ZD (Zo (Z3 (ZD (Zo ?_)))))))) (fun h=>Bool.noConfusion h))
 exact eR t1 ⟨Zg (ZdN hm hs (by simp [Zcv,g1,g2])).symm,rfl,rfl⟩
 try simp only [sQ,ne_eq] at g2
 refine aM 8 rfl (h:=aM 9 rfl (h:=aIx 10 rfl Tryz.underlying35 ZeV (h:=aW 11 rfl Zkj (h:=aT 12 rfl (Zaj fun D=>Zh rfl rfl lk3 rfl (hc4 _ 1 _ rfl) r4) (h:=aT 13 rfl (Zaj fun D=>Za2 rfl rfl Zko rfl (Zcs _ _ _ _) r4) (h:=aN 14 rfl (h:=aPF 15 rfl (h:=aM 16 rfl (h:=ZaC (d:=26) rfl (fun g4=>?_) (fun g4=>?_))))))))))
 try simp only [sQ,ne_eq] at g4
 refine aZ 17 rfl (h:=aZ 18 rfl (h:=aZ 19 rfl (h:=aZ 20 rfl (h:=aZ 21 rfl (h:=aZ 22 rfl (h:=aZ 23 rfl (h:=aZ 24 rfl (h:=aZ 25 rfl (h:=aZ 26 rfl (h:=aZ 27 rfl (h:=aZ 28 rfl (h:=aZ 29 rfl (h:=aZ 30 rfl (h:=aZ 31 rfl (h:=aZ 32 rfl (h:=aPT 33 rfl (h:=Zz kr kr ?_)))))))))))))))))
 refine Zj (Zb (t:=true) rfl (fun _=>Za (xA (h:=Zd (ZD (Zo (Z3 (ZD (Zo ?_)))))))) (fun h=>Bool.noConfusion h))
 exact eR t1 ⟨Zg (ZdN hm hs (by simp [Zcv,g1,g2,g4])).symm,rfl,rfl⟩
 try simp only [sQ,ne_eq] at g4
 refine aM 17 rfl (h:=ZnR 18 rfl (h:=aM 19 rfl (h:=ZaC (d:=29) rfl (fun g6=>?_) (fun g6=>?_))))
 try simp only [sQ,ne_eq] at g6
 refine aM 20 rfl (h:=aM 21 rfl (h:=aU 22 rfl (h:=?_)))
 obtain ⟨y,hy⟩:=Zeh (xs:=gs) (i:=(↑g.1 - 1)) om om
 obtain ⟨_,⟨rfl,hb8⟩,hc8⟩:=hg.elem hy
 refine aIx 23 rfl Tryz.underlying35 ZeV (h:=?_)
 have hpe:=hp.at hy oz
 refine aW 24 rfl Zeu (h:=aT 25 rfl (Zaj fun D=>Zh rfl rfl lk9 rfl (hc8 _ 0 _ rfl) r4) (h:=aM 26 rfl (h:=aM 27 rfl (h:=aIx 28 rfl Tryz.underlying35 ZeV (h:=aW 29 rfl Zeu (h:=aT 30 rfl (Zaj fun D=>Zh rfl rfl lk9 rfl (hc4 _ 0 _ rfl) r4) (h:=aT 31 rfl (Zaj fun D=>Zqa rfl rfl rfl rfl r4) (h:=aPT 32 rfl (h:=aPF 33 rfl (h:=Zz kr kr ?_))))))))))
 refine Zj (Zb rfl (fun g7=>?_) (fun g7=>?_))
 try simp only [sQ,ne_eq] at g7
 refine Za (xA (h:=Zd (ZD (Zo (Z3 (ZD (Zo ?_)))))))
 exact eR t1 ⟨Zg (ZdN hm hs (by simp [Zcv,g1,g2,g4,g6,g7,hpe])).symm,rfl,rfl⟩
 try simp only [sQ,ne_eq] at g7
 refine ZK (Zx (Zj (Zc (xM (h:=xD (h:=xA (h:=?_)))))))
 exact ZA (g.1+1,m.user) [] so2 ⟨rfl,oz,Zci hm hs (by rw [hpe];simp [Zcv,g2,g7];simp at g4;omega),.succ hm⟩ t2 rfl
 try simp only [sQ,ne_eq] at g6
 refine aZ 20 rfl (h:=aZ 21 rfl (h:=aZ 22 rfl (h:=aZ 23 rfl (h:=aZ 24 rfl (h:=aZ 25 rfl (h:=aZ 26 rfl (h:=aZ 27 rfl (h:=aZ 28 rfl (h:=aZ 29 rfl (h:=aZ 30 rfl (h:=aZ 31 rfl (h:=aPF 32 rfl (h:=aPF 33 rfl (h:=Zz kr kr ?_))))))))))))))
 refine Zj (Zb (t:=false) rfl (fun h=>Bool.noConfusion h) (fun _=>ZK (Zx (Zj (Zc (xM (h:=xD (h:=xA (h:=?_)))))))))
 exact ZA (g.1+1,m.user) [] so2 ⟨rfl,oz,Zci hm hs (by rw [hp.at0 oz];simp [Zcv,g2,Zol (Zj7 g2)];simp at g4;omega),.succ hm⟩ t2 rfl
 try simp only [sQ,ne_eq] at g1
 refine ZT (Zab (ZW (ZG (Zj (Za (xM (h:=xV Tryz.underlying35 (h:=ZcP (h:=xA (h:=Zd ?_))))))))))
 exact eR t1 ⟨Zg (by rw [ZmM (Zec hs oz),Bool.eq_iff_iff];simp;try omega),rfl,rfl⟩

theorem Zkb (q1 q2 q3:Option Addr) (c1 c2 c3:Nat) (x:DHost) (q:Option Addr) (cp:Nat) (ns:List Str) (B:Kn) (hu:SlK B q1 c1 3 Zv x.users) (hn:SlK B q cp 1 ZbJ ns):ZaH (pj J) 80 [.agg #[str x.domain,.slice q1 x.users.length c1,.slice q2 x.folders.length c2,.int .i64 x.queue.next,.slice q3 x.queue.items.length c3],.slice q ns.length cp] B (.bool (Zgv x.users ns)):=by
 refine cB 20 Tryz.func80 (h:=?_)
 have hnn:=hn.len
 have hun:=hu.len
 refine Za (xBx [_,_,_,_,_] (h:=fun b1=>xA (h:=tL1 (Zf (Za (xA (h:=Zl (ZO (α:=Nat) [0,1,2] (fun k=>[(5,.int .i64 k)]) [] (fun k=>[]) (fun k Bx=>Bx=B∧k≤ns.length∧∀z,z∈ns.take k→decide (0≤Zde x.users z)=true) (fun k=>ns.length - k) 0 t1 rfl (⟨rfl,Nat.zero_le _,by simp⟩) (fun k B2 hle2 hI=>?_)))))))))
 obtain ⟨rfl,hk,ha⟩:=hI
 refine ZN [(0,_),(1,_),(2,_),(5,_)] [_] t4 rfl (Zf (Za (xM (h:=xM (h:=xV Tryz.underlying109 (h:=Zaa (h:=Zb rfl (fun g1=>?_) (fun g1=>?_))))))))
 try simp only [sQ,ne_eq] at g1
 refine wSk (Zf (Zl (Zf (Z2 (same _ _) mo kr ⟨rfl,rfl⟩ (fun _ _=>?_)))))
 refine aW 0 rfl ZbX (h:=aT 1 rfl (Zaj fun D=>Zh rfl rfl ZjC rfl (atL 0 rfl rfl rfl) r4) (h:=aM 2 rfl (h:=aM 3 rfl (h:=?_))))
 obtain ⟨z,hz⟩:=Zaf (xs:=ns) (i:=k) om
 obtain ⟨bb4,oo4,rfl⟩:=hn.base hz
 obtain ⟨_,⟨rfl,hb5⟩,hc5⟩:=hn.elem hz
 refine aIx 4 rfl Tryz.underlying109 sz9 (h:=aT 5 rfl (Zaj fun D=>Zh rfl rfl lk9 rfl (hc5 _ 0 _ rfl) r4) (h:=aT 6 rfl (Zaj fun D=>Za2 rfl rfl Zub rfl (Zdd _ _ _ _ _ hu) r4) (h:=Zr9 7 rfl (h:=Zz kr kr ?_))))
 refine Zj (Zb rfl (fun g2=>?_) (fun g2=>?_))
 try simp only [sQ,ne_eq] at g2
 refine Za (xA (h:=Zd (ZD (Zo (Z3 (ZD (Zo ?_)))))))
 exact eR t1 ⟨Zg (Zc6 hz (by simp;omega)).symm,rfl,rfl⟩
 try simp only [sQ,ne_eq] at g2
 refine ZK (Zx (Zj (Zc (xM (h:=xD (h:=xA (h:=?_)))))))
 exact ZA (k+1) [0] so2 ⟨rfl,oz,Zbq hz ha (by simp;omega)⟩ t4 rfl
 try simp only [sQ,ne_eq] at g1
 refine ZT (Zab (ZW (ZG (Zj (Za (xA (h:=Zd ?_)))))))
 exact eR t1 ⟨Zg (ZeP (ZbL oz ha)).symm,rfl,rfl⟩

theorem Zl5 (q1 q2 q3:Option Addr) (c1 c2 c3:Nat) (x:DHost) (u:Str) (B:Kn) (hf:SlK B q2 c2 5 Ze x.folders):ZaH (pj J) 78 [.agg #[str x.domain,.slice q1 x.users.length c1,.slice q2 x.folders.length c2,.int .i64 x.queue.next,.slice q3 x.queue.items.length c3],str u] B (.int .i64 (Za9 x.folders u)):=by
 refine cB 32 Tryz.func78 (h:=?_)
 have hfn:=hf.len
 refine Za (xBx [_,_,_,_,_] (h:=fun b1=>xA (h:=tL1 (Za (xA (h:=Zf (Za (xA (h:=Zl (ZO (α:=Nat × Nat) [0,1,2,4] (fun g=>[(5,.int .i64 g.2),(6,.int .i64 g.1)]) [] (fun g=>[]) (fun g Bx=>Bx=B∧g.1≤x.folders.length∧g.2=Za9 (x.folders.take g.1) u∧g.2≤g.1*4000000000000) (fun g=>x.folders.length - g.1) (0,0) t2 rfl (⟨rfl,Nat.zero_le _,by simp [Za9],oz⟩) (fun g B2 hle2 hI=>?_)))))))))))
 obtain ⟨rfl,hk,hs,hl⟩:=hI
 refine ZN [(0,_),(1,_),(2,_),(4,_),(5,_),(6,_)] [_] t6 rfl (Zf (Za (xM (h:=xW ZX (h:=x1 Zck 0 (h:=xV Tryz.underlying24 (h:=Zaa (h:=Zb rfl (fun g1=>?_) (fun g1=>?_)))))))))
 try simp only [sQ,ne_eq] at g1
 refine wSk (Zf (Zl (Za (xW ZX (h:=x1 Zck 0 (h:=xM (h:=?_)))))))
 obtain ⟨m,hm⟩:=Zaf (xs:=x.folders) (i:=g.1) om
 obtain ⟨bb4,oo4,rfl⟩:=hf.base hm
 obtain ⟨_,⟨qg5,cg5,qm5,cm5,rfl,hg5,hm5,hb5,hb5b⟩,hc5⟩:=hf.elem hm
 have hg5n:=hg5.len
 have hm5n:=hm5.len
 have hm5s:=Z0 hm5
 refine xIx Tryz.underlying24 Zba (h:=xW Zb5 (h:=y1 lk9 hc5 0 (h:=xM (h:=Zdk (h:=Zb rfl (fun g2=>?_) (fun g2=>?_))))))
 try simp only [sQ,ne_eq] at g2
 refine Zc (xM (h:=xW ZX (h:=x1 Zck 0 (h:=xM (h:=xIx Tryz.underlying24 Zba (h:=xW Zby (h:=yL [_,_] Zbp hc5 3 (h:=xR ZyS rfl (Zq4 _ _ (⟨m.next,m.mail⟩:DBox) _ hm5) (h:=xD (h:=xA (h:=Zx (Zj (Zc (xM (h:=xD (h:=xA (h:=?_)))))))))))))))))
 exact ZA (g.1+1,g.2+Zag m.mail) [0] so2 ⟨rfl,so,by rw [ZjT hm,← hs,if_pos g2],so⟩ t6 rfl
 try simp only [sQ,ne_eq] at g2
 refine ZK (Zx (Zj (Zc (xM (h:=xD (h:=xA (h:=?_)))))))
 exact ZA (g.1+1,g.2) [0] so2 ⟨rfl,so,by rw [ZjT hm,← hs,if_neg g2];simp only [Nat.add_zero],Nat.le_trans hl (Nat.mul_le_mul_right _ (Nat.le_succ _))⟩ t6 rfl
 try simp only [sQ,ne_eq] at g1
 refine ZT (Zab (ZW (ZG (Zj (Za (xM (h:=xA (h:=Zd ?_))))))))
 exact eR t1 ⟨ZaJ (by rw [← Zqk hs oz]),rfl,rfl⟩

theorem Zl7 (q1 q2 q3:Option Addr) (c1 c2 c3:Nat) (x:DHost) (B:Kn) (hu:SlK B q1 c1 3 Zv x.users) (hf:SlK B q2 c2 5 Ze x.folders):ZaH (pj J) 77 [.agg #[str x.domain,.slice q1 x.users.length c1,.slice q2 x.folders.length c2,.int .i64 x.queue.next,.slice q3 x.queue.items.length c3]] B (.bool (Zcf x.users x.folders)):=by
 refine cB 60 Tryz.func77 (h:=?_)
 have hfn:=hf.len
 have hun:=hu.len
 refine Za (xBx [_,_,_,_,_] (h:=fun b1=>xA (h:=tL1 (Zf (Za (xA (h:=Zl (ZO (α:=Nat × Option DFolder) [0,1] (fun g=>[(3,.int .i64 g.1)]) [] (fun g=>[]) (fun g Bx=>Bx=B∧g.1≤x.folders.length∧Zdx x.users (x.folders.take g.1)=(true,g.2)∧Prev some none x.folders g.1 g.2) (fun g=>x.folders.length - g.1) (0,none) t1 rfl (⟨rfl,Nat.zero_le _,Ze3,.zero⟩) (fun g B2 hle2 hI=>?_)))))))))
 obtain ⟨rfl,hk,hs,hp⟩:=hI
 refine ZN [(0,_),(1,_),(3,_)] [_] t3 rfl (Zf (Za (xM (h:=xW ZX (h:=x1 Zck 0 (h:=xV Tryz.underlying24 (h:=Zaa (h:=Zb rfl (fun g1=>?_) (fun g1=>?_)))))))))
 try simp only [sQ,ne_eq] at g1
 refine wSk (Zf (Zl (Za (xW ZX (h:=x1 Zck 0 (h:=xM (h:=?_)))))))
 obtain ⟨m,hm⟩:=Zaf (xs:=x.folders) (i:=g.1) om
 obtain ⟨bb4,oo4,rfl⟩:=hf.base hm
 obtain ⟨_,⟨qg5,cg5,qm5,cm5,rfl,hg5,hm5,hb5,hb5b⟩,hc5⟩:=hf.elem hm
 have hg5n:=hg5.len
 have hm5n:=hm5.len
 have hm5s:=Z0 hm5
 refine xIx Tryz.underlying24 Zba (h:=yL [_,_,_,_,_] Ze9 hc5 0 (h:=xAl [_,_,_,_,_] Zdh (h:=fun b6=>xS [_,_,_,_,_] 1 [_,_,_,_,_] Zba (h:=tL2 (Zf (Z2 (same _ _) mo kr ⟨rfl,rfl⟩ (fun _ _=>?_)))))))
 refine aW 0 rfl ZbX (h:=aT 1 rfl (Zaj fun D=>Zh rfl rfl ZjC rfl (atL 0 rfl rfl rfl) r4) (h:=aW 2 rfl Zb5 (h:=aT 3 rfl (Zaj fun D=>Zh rfl rfl lk9 rfl (atL 1 rfl rfl rfl) r4) (h:=aT 4 rfl (Zaj fun D=>Za2 rfl rfl Zub rfl (Zdd _ _ _ _ _ hu) r4) (h:=Zr9 5 rfl (h:=aM 6 rfl (h:=ZaC (d:=23) rfl (fun g2=>?_) (fun g2=>?_))))))))
 try simp only [sQ,ne_eq] at g2
 refine aZ 7 rfl (h:=aZ 8 rfl (h:=aZ 9 rfl (h:=aZ 10 rfl (h:=aPT 11 rfl (h:=aM 12 rfl (h:=aZ 13 rfl (h:=aZ 14 rfl (h:=aZ 15 rfl (h:=aZ 16 rfl (h:=aPT 17 rfl (h:=aM 18 rfl (h:=aZ 19 rfl (h:=aZ 20 rfl (h:=aZ 21 rfl (h:=aZ 22 rfl (h:=aPT 23 rfl (h:=aM 24 rfl (h:=aZ 25 rfl (h:=aZ 26 rfl (h:=aZ 27 rfl (h:=aZ 28 rfl (h:=aZ 29 rfl (h:=aZ 30 rfl (h:=aZ 31 rfl (h:=aZ 32 rfl (h:=aZ 33 rfl (h:=aZ 34 rfl (h:=aZ 35 rfl (h:=aZ 36 rfl (h:=aZ 37 rfl (h:=aPT 38 rfl (h:=Zz kr kr ?_))))))))))))))))))))))))))))))))
 refine Zj (Zb (t:=true) rfl (fun _=>Za (xA (h:=Zd (ZD (Zo (Z3 (ZD (Zo ?_)))))))) (fun h=>Bool.noConfusion h))
 exact eR t1 ⟨Zg (ZcJ hm hs (by simp [ZbV,Z5,DFolder.box,g1,g2];try omega)).symm,rfl,rfl⟩
 try simp only [sQ,ne_eq] at g2
 refine aW 7 rfl Zd5 (h:=aT 8 rfl (Zaj fun D=>Zh rfl rfl lk9 rfl (atL 1 rfl rfl rfl) r4) (h:=aT 9 rfl (Zaj fun D=>Za2 rfl rfl Zk7 rfl (ZbZ _ om2 _) r4) (h:=?_)))
 refine aN 10 rfl (h:=aPF 11 rfl (h:=aM 12 rfl (h:=ZaC (d:=29) rfl (fun g3=>?_) (fun g3=>?_))))
 try simp only [sQ,ne_eq] at g3
 refine aZ 13 rfl (h:=aZ 14 rfl (h:=aZ 15 rfl (h:=aZ 16 rfl (h:=aPT 17 rfl (h:=aM 18 rfl (h:=aZ 19 rfl (h:=aZ 20 rfl (h:=aZ 21 rfl (h:=aZ 22 rfl (h:=aPT 23 rfl (h:=aM 24 rfl (h:=aZ 25 rfl (h:=aZ 26 rfl (h:=aZ 27 rfl (h:=aZ 28 rfl (h:=aZ 29 rfl (h:=aZ 30 rfl (h:=aZ 31 rfl (h:=aZ 32 rfl (h:=aZ 33 rfl (h:=aZ 34 rfl (h:=aZ 35 rfl (h:=aZ 36 rfl (h:=aZ 37 rfl (h:=aPT 38 rfl (h:=Zz kr kr ?_))))))))))))))))))))))))))
 refine Zj (Zb (t:=true) rfl (fun _=>Za (xA (h:=Zd (ZD (Zo (Z3 (ZD (Zo ?_)))))))) (fun h=>Bool.noConfusion h))
 exact eR t1 ⟨Zg (ZcJ hm hs (by simp [ZbV,Z5,DFolder.box,g1,g2,g3];try omega)).symm,rfl,rfl⟩
 try simp only [sQ,ne_eq] at g3
 refine aW 13 rfl ZcN (h:=aT 14 rfl (Zaj fun D=>Zh rfl rfl Zph rfl (atL 1 rfl rfl rfl) r4) (h:=aT 15 rfl (Zaj fun D=>Za2 rfl rfl Ztt rfl (Zgp _ _ _ _ hg5) r4) (h:=aN 16 rfl (h:=aPF 17 rfl (h:=aM 18 rfl (h:=ZaC (d:=35) rfl (fun g4=>?_) (fun g4=>?_)))))))
 try simp only [sQ,ne_eq] at g4
 refine aZ 19 rfl (h:=aZ 20 rfl (h:=aZ 21 rfl (h:=aZ 22 rfl (h:=aPT 23 rfl (h:=aM 24 rfl (h:=aZ 25 rfl (h:=aZ 26 rfl (h:=aZ 27 rfl (h:=aZ 28 rfl (h:=aZ 29 rfl (h:=aZ 30 rfl (h:=aZ 31 rfl (h:=aZ 32 rfl (h:=aZ 33 rfl (h:=aZ 34 rfl (h:=aZ 35 rfl (h:=aZ 36 rfl (h:=aZ 37 rfl (h:=aPT 38 rfl (h:=Zz kr kr ?_))))))))))))))))))))
 refine Zj (Zb (t:=true) rfl (fun _=>Za (xA (h:=Zd (ZD (Zo (Z3 (ZD (Zo ?_)))))))) (fun h=>Bool.noConfusion h))
 exact eR t1 ⟨Zg (ZcJ hm hs (by simp [ZbV,Z5,DFolder.box,g1,g2,g3,g4];try omega)).symm,rfl,rfl⟩
 try simp only [sQ,ne_eq] at g4
 refine aW 19 rfl Zby (h:=aT 20 rfl (Zaj fun D=>Z1 [_,_] rfl rfl Zbp rfl (Z9 1 rfl rfl rfl) r4) (h:=aT 21 rfl (Zaj fun D=>Za2 rfl rfl Zts rfl (Zgn _ _ (⟨m.next,m.mail⟩:DBox) _ hm5) r4) (h:=aN 22 rfl (h:=aPF 23 rfl (h:=aM 24 rfl (h:=ZaC (d:=41) rfl (fun g5=>?_) (fun g5=>?_)))))))
 try simp only [sQ,ne_eq] at g5
 refine aZ 25 rfl (h:=aZ 26 rfl (h:=aZ 27 rfl (h:=aZ 28 rfl (h:=aZ 29 rfl (h:=aZ 30 rfl (h:=aZ 31 rfl (h:=aZ 32 rfl (h:=aZ 33 rfl (h:=aZ 34 rfl (h:=aZ 35 rfl (h:=aZ 36 rfl (h:=aZ 37 rfl (h:=aPT 38 rfl (h:=Zz kr kr ?_))))))))))))))
 refine Zj (Zb (t:=true) rfl (fun _=>Za (xA (h:=Zd (ZD (Zo (Z3 (ZD (Zo ?_)))))))) (fun h=>Bool.noConfusion h))
 exact eR t1 ⟨Zg (ZcJ hm hs (by simp [ZbV,Z5,DFolder.box,g1,g2,g3,g4,g5];try omega)).symm,rfl,rfl⟩
 try simp only [sQ,ne_eq] at g5
 refine aM 25 rfl (h:=ZnR 26 rfl (h:=aM 27 rfl (h:=ZaC (d:=44) rfl (fun g6=>?_) (fun g6=>?_))))
 try simp only [sQ,ne_eq] at g6
 refine aW 28 rfl ZX (h:=aT 29 rfl (Zaj fun D=>Zh rfl rfl Zck rfl (atL 0 rfl rfl rfl) r4) (h:=aM 30 rfl (h:=aU 31 rfl (h:=?_))))
 obtain ⟨y,hy⟩:=Zeh (xs:=x.folders) (i:=(↑g.1 - 1)) om om
 obtain ⟨_,⟨qg12,cg12,qm12,cm12,rfl,hg12,hm12,hb12,hb12b⟩,hc12⟩:=hf.elem hy
 have hg12n:=hg12.len
 have hm12n:=hm12.len
 have hm12s:=Z0 hm12
 refine aIx 32 rfl Tryz.underlying24 Zba (h:=?_)
 have hpe:=hp.at hy oz
 refine aT 33 rfl (Zaj fun D=>Z1 [_,_,_,_,_] rfl rfl Ze9 rfl (Ziv hc12 0 rfl rfl) r4) (h:=aT 34 rfl (Zaj fun D=>Z1 [_,_,_,_,_] rfl rfl Ze9 rfl (Z9 1 rfl rfl rfl) r4) (h:=aT 35 rfl (Zaj fun D=>Za2 rfl rfl Zw3 rfl (Zl6 y m _ _ _ _ _ _ _ _ _) r4) (h:=aN 36 rfl (h:=aPT 37 rfl (h:=aPF 38 rfl (h:=Zz kr kr ?_))))))
 refine Zj (Zb rfl (fun g7=>?_) (fun g7=>?_))
 try simp only [sQ,ne_eq] at g7
 refine Za (xA (h:=Zd (ZD (Zo (Z3 (ZD (Zo ?_)))))))
 exact eR t1 ⟨Zg (ZcJ hm hs (by simp [ZbV,Z5,DFolder.box,g1,g2,g3,g4,g5,g6,g7,hpe];try omega)).symm,rfl,rfl⟩
 try simp only [sQ,ne_eq] at g7
 refine ZK (Zx (Zj (Zc (xM (h:=xD (h:=xA (h:=?_)))))))
 exact ZA (g.1+1,some m) [0] so2 ⟨rfl,oz,Zci hm hs (by rw [hpe];simp [ZbV,Z5,DFolder.box,g3,g4,g5,g7];omega),.succ hm⟩ t3 rfl
 try simp only [sQ,ne_eq] at g6
 refine aZ 28 rfl (h:=aZ 29 rfl (h:=aZ 30 rfl (h:=aZ 31 rfl (h:=aZ 32 rfl (h:=aZ 33 rfl (h:=aZ 34 rfl (h:=aZ 35 rfl (h:=aZ 36 rfl (h:=aPF 37 rfl (h:=aPF 38 rfl (h:=Zz kr kr ?_)))))))))))
 refine Zj (Zb (t:=false) rfl (fun h=>Bool.noConfusion h) (fun _=>ZK (Zx (Zj (Zc (xM (h:=xD (h:=xA (h:=?_)))))))))
 exact ZA (g.1+1,some m) [0] so2 ⟨rfl,oz,Zci hm hs (by rw [hp.at0 oz];simp [ZbV,Z5,DFolder.box,g3,g4,g5];omega),.succ hm⟩ t3 rfl
 try simp only [sQ,ne_eq] at g1
 refine ZT (Zab (ZW (ZG (Zj (Za (xW ZX (h:=x1 Zck 0 (h:=xV Tryz.underlying24 (h:=ZcP (h:=xA (h:=Zd ?_)))))))))))
 exact eR t1 ⟨Zg (by rw [Zk3 (Zec hs oz),Bool.eq_iff_iff];simp;try omega),rfl,rfl⟩

theorem ZbH (q1 q2 q3:Option Addr) (c1 c2 c3:Nat) (x:DHost) (hd:x.domain.length≤2000000) (B:Kn) (hu:SlK B q1 c1 3 Zv x.users) (hf:SlK B q2 c2 5 Ze x.folders) (hi:SlK B q3 c3 4 Zy x.queue.items):ZaH (pj J) 34 [.agg #[str x.domain,.slice q1 x.users.length c1,.slice q2 x.folders.length c2,.int .i64 x.queue.next,.slice q3 x.queue.items.length c3]] B (.bool (Zw x)):=by
 refine cB 87 Tryz.func34 (h:=?_)
 have hfn:=hf.len
 have hun:=hu.len
 have hin:=hi.len
 refine Za (xBx [_,_,_,_,_] (h:=fun b1=>xA (h:=tL1 (Zf (Za (xW Zi7 (h:=x1 lk9 0 (h:=xR ZzX rfl (ZlH _ om2 _) (h:=?_)))))))))
 refine xN (h:=xM (h:=Zn (d:=10) rfl (fun g1=>?_) (fun g1=>?_)))
 try simp only [sQ,ne_eq] at g1
 refine xP (h:=xP (h:=xP (h:=xP (h:=xT (h:=xM (h:=xP (h:=xP (h:=xP (h:=xP (h:=xT (h:=xM (h:=xP (h:=xP (h:=xP (h:=xT (h:=Zb (t:=true) rfl (fun _=>Za (xA (h:=Zd (Zo ?_)))) (fun h=>Bool.noConfusion h)))))))))))))))))
 exact eR t1 ⟨Zg (by simp [Zw,g1]),rfl,rfl⟩
 try simp only [sQ,ne_eq] at g1
 refine xW ZbX (h:=x1 ZjC 0 (h:=xR ZzW rfl (ZmZ _ _ _ _ hu) (h:=xN (h:=xF (h:=xM (h:=Zn (d:=16) rfl (fun g2=>?_) (fun g2=>?_)))))))
 try simp only [sQ,ne_eq] at g2
 refine xP (h:=xP (h:=xP (h:=xP (h:=xT (h:=xM (h:=xP (h:=xP (h:=xP (h:=xT (h:=Zb (t:=true) rfl (fun _=>Za (xA (h:=Zd (Zo ?_)))) (fun h=>Bool.noConfusion h)))))))))))
 exact eR t1 ⟨Zg (by simp [Zw,g1,g2]),rfl,rfl⟩
 try simp only [sQ,ne_eq] at g2
 refine xW Zcg (h:=xL [_,_] ZdP 0 (h:=xR Zyb rfl (ZfS _ _ x.queue _ hi) (h:=xN (h:=xF (h:=xM (h:=Zn (d:=22) rfl (fun g3=>?_) (fun g3=>?_)))))))
 try simp only [sQ,ne_eq] at g3
 refine xP (h:=xP (h:=xP (h:=xT (h:=Zb (t:=true) rfl (fun _=>Za (xA (h:=Zd (Zo ?_)))) (fun h=>Bool.noConfusion h)))))
 exact eR t1 ⟨Zg (by simp [Zw,g1,g2,g3]),rfl,rfl⟩
 try simp only [sQ,ne_eq] at g3
 refine xL [_,_,_,_,_] ZY 0 (h:=xR ZzV rfl (Zl7 _ _ _ _ _ _ x _ hu hf) (h:=xN (h:=xF (h:=Zb rfl (fun g4=>?_) (fun g4=>?_)))))
 try simp only [sQ,ne_eq] at g4
 refine Za (xA (h:=Zd (Zo ?_)))
 exact eR t1 ⟨Zg (by simp [Zw,g1,g2,g3,g4]),rfl,rfl⟩
 try simp only [sQ,ne_eq] at g4
 refine wSk (Zf (Za (xA (h:=Zl (ZO (α:=Nat) [0,1,26] (fun k=>[(3,.int .i64 k)]) [] (fun k=>[]) (fun k Bx=>Bx=B∧k≤x.users.length∧∀z,z∈x.users.take k→ZaW x.folders z=true) (fun k=>x.users.length - k) 0 t1 rfl (⟨rfl,Nat.zero_le _,by simp⟩) (fun k B6 hle6 hI=>?_))))))
 obtain ⟨rfl,hk,ha⟩:=hI
 refine ZN [(0,_),(1,_),(3,_),(26,_)] [_] t4 rfl (Zf (Za (xM (h:=xW ZbX (h:=x1 ZjC 0 (h:=xV Tryz.underlying23 (h:=Zaa (h:=Zb rfl (fun g5=>?_) (fun g5=>?_)))))))))
 try simp only [sQ,ne_eq] at g5
 refine wSk (Zf (Zl (Zf (Z2 (same _ _) mo kr ⟨rfl,rfl⟩ (fun _ _=>?_)))))
 refine aT 0 rfl (Zaj fun D=>Z1 [_,_,_,_,_] rfl rfl ZY rfl (Z9 0 rfl rfl rfl) r4) (h:=aW 1 rfl ZbX (h:=aT 2 rfl (Zaj fun D=>Zh rfl rfl ZjC rfl (atL 0 rfl rfl rfl) r4) (h:=aM 3 rfl (h:=?_))))
 obtain ⟨w,hw⟩:=Zaf (xs:=x.users) (i:=k) om
 obtain ⟨bb8,oo8,rfl⟩:=hu.base hw
 obtain ⟨_,⟨rfl,hb9,hb9b⟩,hc9⟩:=hu.elem hw
 refine aIx 4 rfl Tryz.underlying23 ZeW (h:=aW 5 rfl Zdm (h:=aT 6 rfl (Zaj fun D=>Zh rfl rfl lk9 rfl (hc9 _ 0 _ rfl) r4) (h:=aT 7 rfl (Zaj fun D=>Za2 rfl rfl Zvq rfl (ZdH _ _ _ _ _ _ x w.name [105,110,98,111,120] om2 om2 _ hf) r4) (h:=?_))))
 refine Zr9 8 rfl (h:=aM 9 rfl (h:=ZaC (d:=43) rfl (fun g6=>?_) (fun g6=>?_)))
 try simp only [sQ,ne_eq] at g6
 refine aZ 10 rfl (h:=aZ 11 rfl (h:=aZ 12 rfl (h:=aZ 13 rfl (h:=aZ 14 rfl (h:=aZ 15 rfl (h:=aZ 16 rfl (h:=aZ 17 rfl (h:=aZ 18 rfl (h:=aZ 19 rfl (h:=aZ 20 rfl (h:=aZ 21 rfl (h:=aZ 22 rfl (h:=aZ 23 rfl (h:=aZ 24 rfl (h:=aPT 25 rfl (h:=Zz kr kr ?_))))))))))))))))
 refine Zj (Zb (t:=true) rfl (fun _=>Za (xA (h:=Zd (ZD (Zo (Z3 (ZD (Zo ?_)))))))) (fun h=>Bool.noConfusion h))
 exact eR t1 ⟨Zg (ZiS hw (Zlw g6)).symm,rfl,rfl⟩
 try simp only [sQ,ne_eq] at g6
 refine aT 10 rfl (Zaj fun D=>Z1 [_,_,_,_,_] rfl rfl ZY rfl (Z9 0 rfl rfl rfl) r4) (h:=aW 11 rfl ZbX (h:=aT 12 rfl (Zaj fun D=>Zh rfl rfl ZjC rfl (atL 0 rfl rfl rfl) r4) (h:=aM 13 rfl (h:=aIx 14 rfl Tryz.underlying23 ZeW (h:=aW 15 rfl Zdm (h:=aT 16 rfl (Zaj fun D=>Zh rfl rfl lk9 rfl (hc9 _ 0 _ rfl) r4) (h:=aT 17 rfl (Zaj fun D=>Za2 rfl rfl Zzi rfl (Zl5 _ _ _ _ _ _ x _ _ hf) r4) (h:=aW 18 rfl ZbX (h:=aT 19 rfl (Zaj fun D=>Zh rfl rfl ZjC rfl (atL 0 rfl rfl rfl) r4) (h:=aM 20 rfl (h:=aIx 21 rfl Tryz.underlying23 ZeW (h:=aW 22 rfl Zi6 (h:=aT 23 rfl (Zaj fun D=>Zh rfl rfl lk3 rfl (hc9 _ 2 _ rfl) r4) (h:=ZnR 24 rfl (h:=aPF 25 rfl (h:=Zz kr kr ?_))))))))))))))))
 refine Zj (Zb rfl (fun g7=>?_) (fun g7=>?_))
 try simp only [sQ,ne_eq] at g7
 refine Za (xA (h:=Zd (ZD (Zo (Z3 (ZD (Zo ?_)))))))
 exact eR t1 ⟨Zg (ZiS hw (Zlv g7)).symm,rfl,rfl⟩
 try simp only [sQ,ne_eq] at g7
 refine ZK (Zx (Zj (Zc (xM (h:=xD (h:=xA (h:=?_)))))))
 exact ZA (k+1) [0] so2 ⟨rfl,oz,Zbq hw ha (Zlu g6 g7)⟩ t4 rfl
 try simp only [sQ,ne_eq] at g5
 refine ZT (Zab (ZW (ZG (Zj (Zf (Za (xA (h:=Zl (ZO (α:=Nat) [0,1,3,26,31] (fun j=>[(4,.int .i64 j)]) [] (fun j=>[]) (fun j Bx=>Bx=B6∧j≤x.queue.items.length∧∀z,z∈x.queue.items.take j→ZaI x.users z=true) (fun j=>x.queue.items.length - j) 0 t1 rfl (⟨rfl,Nat.zero_le _,by simp⟩) (fun j B12 hle12 hI=>?_))))))))))
 obtain ⟨rfl,hj,hb⟩:=hI
 refine ZN [(0,_),(1,_),(3,_),(4,_),(26,_),(31,_)] [_] t6 rfl (Zf (Za (xM (h:=xW Zcg (h:=xW Zar (h:=x1 Zey 0 (h:=xV Tryz.underlying25 (h:=Zaa (h:=Zb rfl (fun g8=>?_) (fun g8=>?_))))))))))
 try simp only [sQ,ne_eq] at g8
 refine wSk (Zf (Zl (Za (xW Zcg (h:=xW Zar (h:=x1 Zey 0 (h:=xM (h:=?_))))))))
 obtain ⟨y,hy⟩:=Zaf (xs:=x.queue.items) (i:=j) om
 obtain ⟨bb14,oo14,rfl⟩:=hi.base hy
 obtain ⟨_,⟨qi15,ci15,rfl,hi15,hb15,hb15b⟩,hc15⟩:=hi.elem hy
 have hi15n:=hi15.len
 refine xIx Tryz.underlying25 Zbg (h:=yL [_,_,_,_] ZdF hc15 0 (h:=xAl [_,_,_,_] ZcM (h:=fun b16=>xS [_,_,_,_] 1 [_,_,_,_] Zbg (h:=tL2 (Za (xW ZbX (h:=x1 ZjC 0 (h:=xW Zg1 (h:=x1 lk9 1 (h:=xR Zub rfl (Zdd _ _ _ _ _ hu) (h:=Zaa (h:=xM (h:=Zn (d:=80) rfl (fun g9=>?_) (fun g9=>?_))))))))))))))
 try simp only [sQ,ne_eq] at g9
 refine xP (h:=xP (h:=xP (h:=xP (h:=xP (h:=xT (h:=Zb (t:=true) rfl (fun _=>Za (xA (h:=Zd (ZD (Zo (Z3 (ZD (Zo ?_)))))))) (fun h=>Bool.noConfusion h)))))))
 exact eR t1 ⟨Zg (ZiU hy (ZkW g9)).symm,rfl,rfl⟩
 try simp only [sQ,ne_eq] at g9
 refine xL [_,_,_,_,_] ZY 0 (h:=xW ZaG (h:=x1 ZcX 1 (h:=xR Zzh rfl (Zkb _ _ _ _ _ _ x _ _ y.left _ hu hi15) (h:=xN (h:=xF (h:=Zb rfl (fun ga=>?_) (fun ga=>?_)))))))
 try simp only [sQ,ne_eq] at ga
 refine Za (xA (h:=Zd (ZD (Zo (Z3 (ZD (Zo ?_)))))))
 exact eR t1 ⟨Zg (ZiU hy (ZkV ga)).symm,rfl,rfl⟩
 try simp only [sQ,ne_eq] at ga
 refine ZK (Zx (Zj (Zc (xM (h:=xD (h:=xA (h:=?_)))))))
 exact ZA (j+1) [0] so2 ⟨rfl,oz,Zbq hy hb (ZkU g9 ga)⟩ t6 rfl
 try simp only [sQ,ne_eq] at g8
 refine ZT (Zab (ZW (ZG (Zj (Za (xA (h:=Zd ?_)))))))
 exact eR t1 ⟨Zg (Zpu g1 g2 g3 g4 (ZeP (ZbL oz ha)) (ZeP (ZbL oz hb))).symm,rfl,rfl⟩

theorem ZoK (q:Option Addr) (cp:Nat) (gs:List DGrant) (B:Kn) (hg:SlK B q cp 2 ZU gs):Zu (pj J) 63 [.slice q gs.length cp] B [] (ZnS gs B):=by
 refine cB 46 Tryz.func63 (h:=?_)
 have hgn:=hg.len
 refine Za (xA (h:=xA (h:=Zf (Za (xM (h:=xV Tryz.underlying35 (h:=Zbw (h:=Zb rfl (fun g0=>?_) (fun g0=>?_)))))))))
 try simp only [sQ,ne_eq] at g0
 refine Za (xA (h:=xA (h:=Zd (Zo ?_))))
 exact Zjk .ret (.inl rfl) [_,_] t2 (by simp [ZbQ];omega)
 try simp only [sQ,ne_eq] at g0
 refine wSk (Za (Zp (Zp9 rfl rfl (fun b1 l1 hl1=>xA (h:=tL1 (Za (xA (h:=Zf (Za (xM (h:=xV Tryz.underlying35 (h:=xM (h:=Zl (ZO (α:=Nat × Str × Cells) [0,4,10,12,13] (fun g=>[(5,str g.2.1),(14,.int .i64 g.1)]) [0] (fun g=>[g.2.2]) (fun g Bx=>Bx=B∧g.1≤gs.length∧Zdf (gs.take g.1)=(true,g.2.1)∧g.2.1.length≤2000000∧ZvL g.2.2 b1 (Zfc (gs.take g.1))) (fun g=>gs.length - g.1) (0,[],_) t2 rfl (⟨rfl,Nat.zero_le _,Ze3,by simp,hl1⟩) (fun g B2 hle2 hI=>?_)))))))))))))))
 obtain ⟨rfl,hk,hs,hnm,hml⟩:=hI
 refine ZN [(0,_),(4,_),(5,_),(10,_),(12,_),(13,_),(14,_)] [_] t7 rfl (Za (Zaa (h:=Zf (Zb rfl (fun g1=>?_) (fun g1=>?_)))))
 try simp only [sQ,ne_eq] at g1
 refine wSk (Zf (Zl (Za ?_)))
 obtain ⟨m,hm⟩:=Zaf (xs:=gs) (i:=g.1) om
 obtain ⟨bb4,oo4,rfl⟩:=hg.base hm
 obtain ⟨_,⟨rfl,hb5⟩,hc5⟩:=hg.elem hm
 refine xIx Tryz.underlying35 ZeV (h:=yL [_,_] ZvQ hc5 0 (h:=xAl [_,_] ZjA (h:=fun b6=>xS [_,_] 1 [_,_] ZeV (h:=tL2 (Zf (Za (xW Zeu (h:=x1 lk9 1 (h:=xR Zuc rfl (Zct _ om2 _) (h:=?_))))))))))
 refine xN (h:=xM (h:=Zn (d:=22) rfl (fun g2=>?_) (fun g2=>?_)))
 try simp only [sQ,ne_eq] at g2
 refine xP (h:=xP (h:=xP (h:=xP (h:=xT (h:=Zb (t:=true) rfl (fun _=>Za (xA (h:=xA (h:=Zd (Zo (ZD (Zo (Z3 (ZD (Zo ?_)))))))))) (fun h=>Bool.noConfusion h))))))
 exact Zjk .ret (.inl rfl) [_,_] t2 (ZdN hm hs (by rw [Zcv,Zbs g.2.1 m.user];simp [g2];try omega))
 try simp only [sQ,ne_eq] at g2
 refine xW Zeu (h:=x1 lk9 1 (h:=xM (h:=Zp (Zt0 rfl rfl rfl rfl (xF (h:=Zb rfl (fun g3=>?_) (fun g3=>?_)))))))
 try simp only [sQ,ne_eq] at g3
 refine Za (xA (h:=xA (h:=Zd (Zo (ZD (Zo (Z3 (ZD (Zo ?_)))))))))
 exact Zjk .ret (.inl rfl) [_,_] t2 (ZdN hm hs (by rw [Zcv,Zbs g.2.1 m.user];simp [g3];try omega))
 try simp only [sQ,ne_eq] at g3
 refine wSk (Zf (Za (xW Zkj (h:=x1 lk3 1 (h:=Zaa (h:=xM (h:=Zn (d:=31) rfl (fun g4=>?_) (fun g4=>?_))))))))
 try simp only [sQ,ne_eq] at g4
 refine xP (h:=xP (h:=xP (h:=xP (h:=xT (h:=Zb (t:=true) rfl (fun _=>Za (xA (h:=xA (h:=Zd (Zo (ZD (Zo (Z3 (ZD (Zo ?_)))))))))) (fun h=>Bool.noConfusion h))))))
 exact Zjk .ret (.inl rfl) [_,_] t2 (ZdN hm hs (by rw [Zcv,Zbs g.2.1 m.user];simp [g4];try omega))
 try simp only [sQ,ne_eq] at g4
 refine xW Zkj (h:=x1 lk3 1 (h:=xR Zy4 rfl (Zsy _ _) (h:=xN (h:=xF (h:=Zb rfl (fun g5=>?_) (fun g5=>?_))))))
 try simp only [sQ,ne_eq] at g5
 refine Za (xA (h:=xA (h:=Zd (Zo (ZD (Zo (Z3 (ZD (Zo ?_)))))))))
 exact Zjk .ret (.inl rfl) [_,_] t2 (ZdN hm hs (Bool.eq_false_iff.2 fun hc=>by simp only [Zcv,Bool.and_eq_true,decide_eq_true_eq] at hc;simp only [Bool.and_eq_false_iff,decide_eq_false_iff_not] at g5;omega))
 try simp only [sQ,ne_eq] at g5
 refine wSk (Za (xM (h:=xW Zeu (h:=x1 lk9 1 (h:=xW Zkj (h:=x1 lk3 1 (h:=Zp (ZmQ (k:=m.user) (v:=m.rights) 0 rfl hml rfl rfl Tryz.underlying103 Tryz.underlying9 rfl rfl rfl (fun l9 hl9=>tL2 (Zc (xW Zeu (h:=x1 lk9 1 (h:=xA (h:=Zx (Zj (Zc (xD (h:=xM (h:=?_)))))))))))))))))))
 exact ZA (g.1+1,m.user,l9) [0] so2 ⟨rfl,so,Zci hm hs (by rw [Zcv,Zbs g.2.1 m.user,g2,g3];simp at g5 ⊢;omega),oy,by rw [← ZuY hm hs (by rw [Zbs g.2.1 m.user,g3];rfl)];exact hl9⟩ t7 rfl
 try simp only [sQ,ne_eq] at g1
 refine ZT (Zab (ZW (ZG (Zj (Za (xM (h:=xA (h:=xA (h:=Zd ?_)))))))))
 exact Zvo .ret (.inl rfl) [_,_] rfl t2 (by rw [ZmM (Zec hs oz)];simp;omega) (by have e:=hml;rw [List.take_of_length_le oz] at e;exact e)

theorem Zq7 (q:Option Addr) (cp:Nat) (gs:List DGrant) (B:Kn) (hg:SlK B q cp 2 ZU gs):ZaH (pj J) 100 [.slice q gs.length cp] B (.bool (ZbQ gs)):=by
 refine cB 11 Tryz.func100 (h:=?_)
 refine Za (xA (h:=Za (xM (h:=xC Zzm rfl (ZoK _ _ _ _ hg) (h:=?_)))))
 rintro _ B1 _ hle1 ⟨m1,l1,rfl,rfl,rfl,hl1⟩
 refine xM (h:=xE (h:=xE (h:=xA (h:=xA (h:=tL1 (Za (xM (h:=xA (h:=Zd ?_)))))))))
 exact eR t1 ⟨rfl,rfl,rfl⟩

theorem Zw7 (a b:Str) (B:Kn):ZaH (pj J) 129 [str a,str b] B (.int .i64 (Lib.compareBytes a b)):=by
 refine cB 8 Tryz.func129 (h:=?_)
 refine Za (xA (h:=Za (xM (h:=xM (h:=Zp (ZxG (fn:=Tryz.f168) rfl rfl Tryz.func168 rfl rfl ZwN ZwO rfl rfl (xA (h:=Zd ?_))))))))
 exact eR t1 ⟨rfl,rfl,rfl⟩

theorem Zud (a b:Str) (B:Kn):ZaH (pj J) 96 [str a,str b] B (.int .i64 (Lib.compareBytes a b)):=by
 refine cB 8 Tryz.func96 (h:=?_)
 refine Za (xA (h:=Za (xM (h:=xM (h:=xR ZyM rfl (Zw7 a b _) (h:=xA (h:=Zd ?_)))))))
 exact eR t1 ⟨rfl,rfl,rfl⟩

theorem Znz (f:DFolder) (qa qb:Option Addr) (ca cb:Nat) (ow nm:Str) (B:Kn):ZaH (pj J) 59 [.agg #[str f.owner,str f.name,.slice qa f.grants.length ca,.int .i64 f.next,.slice qb f.mail.length cb],str ow,str nm] B (.int .i64 (Zw6 f ow nm)):=by
 refine cB 19 Tryz.func59 (h:=?_)
 refine Za (xBx [_,_,_,_,_] (h:=fun b1=>xA (h:=tL1 (Zf (Za (xW Zb5 (h:=x1 lk9 0 (h:=xM (h:=xR Zze rfl (Zud f.owner ow _) (h:=xA (h:=Za (xM (h:=ZbC (h:=Zb rfl (fun g1=>?_) (fun g1=>?_)))))))))))))))
 try simp only [sQ,ne_eq] at g1
 refine Za (xM (h:=xA (h:=Zd (Zo ?_))))
 exact eR t1 ⟨ZaJ (by rw [Zw6,if_pos g1]),rfl,rfl⟩
 try simp only [sQ,ne_eq] at g1
 refine wSk (Za (xW Zd5 (h:=x1 lk9 0 (h:=xM (h:=xR Zze rfl (Zud f.name nm _) (h:=xA (h:=Zd ?_)))))))
 exact eR t1 ⟨ZaJ (by rw [Zw6,if_neg (fun h=>h g1)]),rfl,rfl⟩

theorem Zwi (b o:Nat) (q1 q2 q3:Option Addr) (c1 c2 c3:Nat) (x:DHost) (u:Str) (B:Kn) (hh:ZaQ B b o [str x.domain,.slice q1 x.users.length c1,.slice q2 x.folders.length c2,.int .i64 x.queue.next,.slice q3 x.queue.items.length c3]) (hf:SlK B q2 c2 5 Ze x.folders):ZaH (pj J) 56 [ptr ⟨b,o,none⟩,str u] B (.int .i64 (Zfz x.folders u)):=by
 refine cB 28 Tryz.func56 (h:=?_)
 have hfn:=hf.len
 refine Za (xA (h:=Za (xA (h:=Zf (Za (xM (h:=xNc (h:=xW ZX (h:=Zp (Zh rfl rfl Zck rfl (hh _ 2 _ rfl) (xV Tryz.underlying24 (h:=xM (h:=Zl (ZO (α:=Nat × Int) [0,1,4,11,12] (fun g=>[(5,.int .i64 g.2),(13,.int .i64 g.1)]) [] (fun g=>[]) (fun g Bx=>Bx=B∧g.1≤x.folders.length∧g.2=Zfz (x.folders.take g.1) u∧-1*g.1≤g.2∧g.2≤g.1*200) (fun g=>x.folders.length - g.1) (0,0) t2 rfl (⟨rfl,Nat.zero_le _,by simp [Zfz],by simp,by simp⟩) (fun g B1 hle1 hI=>?_)))))))))))))))
 obtain ⟨rfl,hk,hs,hl0,hl1⟩:=hI
 refine ZN [(0,_),(1,_),(4,_),(5,_),(11,_),(12,_),(13,_)] [] t7 rfl (Za (Zaa (h:=Zf (Zb rfl (fun g1=>?_) (fun g1=>?_)))))
 try simp only [sQ,ne_eq] at g1
 refine wSk (Zf (Zl (Za ?_)))
 obtain ⟨m,hm⟩:=Zaf (xs:=x.folders) (i:=g.1) om
 obtain ⟨bb3,oo3,rfl⟩:=hf.base hm
 obtain ⟨_,⟨qg4,cg4,qm4,cm4,rfl,hg4,hm4,hb4,hb4b⟩,hc4⟩:=hf.elem hm
 have hg4n:=hg4.len
 have hm4n:=hm4.len
 have hm4s:=Z0 hm4
 refine xIx Tryz.underlying24 Zba (h:=yL [_,_,_,_,_] Ze9 hc4 0 (h:=xAl [_,_,_,_,_] Zdh (h:=fun b5=>xS [_,_,_,_,_] 0 [_,_,_,_,_] Zba (h:=tL1 (Za (xW Zb5 (h:=x1 lk9 0 (h:=xM (h:=Zdk (h:=Zb rfl (fun g2=>?_) (fun g2=>?_)))))))))))
 try simp only [sQ,ne_eq] at g2
 have hbs:=Zkt (⟨m.next,m.mail⟩:DBox)
 refine Zc (xM (h:=xW Zby (h:=xL [_,_] Zbp 0 (h:=xR ZzO rfl (ZrX _ _ (⟨m.next,m.mail⟩:DBox) _ hm4) (h:=xD (h:=xA (h:=Zx (Zj (Zc (xD (h:=xM (h:=?_))))))))))))
 exact ZA (g.1+1,g.2+Zeg ⟨m.next,m.mail⟩) [] so2 ⟨rfl,so,by rw [ZjS hm,← hs,if_pos g2],so,so⟩ t7 rfl
 try simp only [sQ,ne_eq] at g2
 refine ZK (Zx (Zj (Zc (xD (h:=xM (h:=?_))))))
 exact ZA (g.1+1,g.2) [] so2 ⟨rfl,so,by rw [ZjS hm,← hs,if_neg g2,Int.add_zero],so,so⟩ t7 rfl
 try simp only [sQ,ne_eq] at g1
 refine ZT (Zab (ZW (ZG (Zj (Za (xM (h:=xA (h:=Zd ?_))))))))
 exact eR t1 ⟨ZaJ (by rw [← Zqh hs oz]),rfl,rfl⟩

theorem Zmr (b o:Nat) (q1 q2 q3:Option Addr) (c1 c2 c3:Nat) (x:DHost) (u:Str) (more:Int) (hn:u.length≤2000000) (hm0:0≤more) (hm1:more≤2000000) (B:Kn) (hh:ZaQ B b o [str x.domain,.slice q1 x.users.length c1,.slice q2 x.folders.length c2,.int .i64 x.queue.next,.slice q3 x.queue.items.length c3]) (hu:SlK B q1 c1 3 Zv x.users) (hf:SlK B q2 c2 5 Ze x.folders):ZaH (pj J) 73 [ptr ⟨b,o,none⟩,str u,.int .i64 more] B (.bool (Zcl x u more)):=by
 refine cB 30 Tryz.func73 (h:=?_)
 have hfn:=hf.len
 have hub:=Zsq x.folders u
 refine Za (xA (h:=Za (xM (h:=xNc (h:=xW ZbX (h:=Zp (Zh rfl rfl ZjC rfl (hh _ 1 _ rfl) (xM (h:=xR Zzw rfl (Zih _ _ _ u om2 _ hu) (h:=?_))))))))))
 refine xM (h:=xE (h:=xE (h:=xAl [_,_,_] ZgH (h:=fun b2=>xS [_,_,_] 0 [_,_,_] ZeW (h:=xA (h:=tL1 (Zf (Z2 (same _ _) mo kr ⟨rfl,rfl⟩ (fun _ _=>?_)))))))))
 refine aM 0 rfl (h:=aN 1 rfl (h:=aM 2 rfl (h:=ZaC (d:=20) rfl (fun g1=>?_) (fun g1=>?_))))
 refine aZ 3 rfl (h:=aZ 4 rfl (h:=aZ 5 rfl (h:=aZ 6 rfl (h:=aZ 7 rfl (h:=aZ 8 rfl (h:=aZ 9 rfl (h:=aZ 10 rfl (h:=aPT 11 rfl (h:=aA 12 rfl (h:=Zz kr kr ?_))))))))))
 refine Zj (Zd ?_)
 exact eR t1 ⟨Zg (by rw [Zcl,g1];rfl),rfl,rfl⟩
 refine aM 3 rfl (h:=aM 4 rfl (h:=aT 5 rfl (Zaj fun D=>Za2 rfl rfl Zz8 rfl (Zwi _ _ _ _ _ _ _ _ x u _ hh hf) r4) (h:=aM 6 rfl (h:=aD 7 rfl (h:=aW 8 rfl Zi6 (h:=aT 9 rfl (Zaj fun D=>Zh rfl rfl lk3 rfl (atL 0 rfl rfl rfl) r4) (h:=ZnR 10 rfl (h:=aPF 11 rfl (h:=aA 12 rfl (h:=Zz kr kr ?_))))))))))
 refine Zj (Zd ?_)
 exact eR t1 ⟨Zg (by rw [Zcl,g1];rfl),rfl,rfl⟩

theorem ZoO (b o:Nat) (q1 q2 q3:Option Addr) (c1 c2 c3:Nat) (x:DHost) (B:Kn) (hh:ZaQ B b o [str x.domain,.slice q1 x.users.length c1,.slice q2 x.folders.length c2,.int .i64 x.queue.next,.slice q3 x.queue.items.length c3]) (hu:SlK B q1 c1 3 Zv x.users) (hf:SlK B q2 c2 5 Ze x.folders):ZaH (pj J) 61 [ptr ⟨b,o,none⟩] B (.bool (Zig x)):=by
 refine cB 26 Tryz.func61 (h:=?_)
 have hfn:=hf.len
 have hun:=hu.len
 refine Za (xA (h:=Zf (Za (xM (h:=xNc (h:=xW ZbX (h:=Zp (Zh rfl rfl ZjC rfl (hh _ 1 _ rfl) (xV Tryz.underlying23 (h:=xM (h:=Zl (ZO (α:=Nat) [0,8,9] (fun k=>[(10,.int .i64 k)]) [] (fun k=>[]) (fun k Bx=>Bx=B∧k≤x.users.length∧∀z,z∈x.users.take k→Zc3 x z=true) (fun k=>x.users.length - k) 0 t1 rfl (⟨rfl,Nat.zero_le _,by simp⟩) (fun k B1 hle1 hI=>?_)))))))))))))
 obtain ⟨rfl,hk,ha⟩:=hI
 refine ZN [(0,_),(8,_),(9,_),(10,_)] [] t4 rfl (Za (Zaa (h:=Zf (Zb rfl (fun g1=>?_) (fun g1=>?_)))))
 try simp only [sQ,ne_eq] at g1
 refine wSk (Zf (Zl (Za ?_)))
 obtain ⟨w,hw⟩:=Zaf (xs:=x.users) (i:=k) om
 obtain ⟨bb3,oo3,rfl⟩:=hu.base hw
 obtain ⟨_,⟨rfl,hb4,hb4b⟩,hc4⟩:=hu.elem hw
 refine xIx Tryz.underlying23 ZeW (h:=yL [_,_,_] Zon hc4 0 (h:=xAl [_,_,_] ZgH (h:=fun b5=>xS [_,_,_] 0 [_,_,_] ZeW (h:=tL1 (Za (xM (h:=xW Zdm (h:=x1 lk9 0 (h:=xR Zyf rfl (Zry _ _ _ _ _ _ _ _ x w.name [105,110,98,111,120] om2 om2 _ hh hf) (h:=?_))))))))))
 refine Zaa (h:=xM (h:=Zn (d:=19) rfl (fun g2=>?_) (fun g2=>?_)))
 try simp only [sQ,ne_eq] at g2
 refine xP (h:=xP (h:=xP (h:=xP (h:=xT (h:=Zb (t:=true) rfl (fun _=>Za (xA (h:=Zd (ZD (Zo (Z3 (ZD (Zo ?_)))))))) (fun h=>Bool.noConfusion h))))))
 exact eR t1 ⟨Zg (Zc6 hw (Zlz g2)).symm,rfl,rfl⟩
 try simp only [sQ,ne_eq] at g2
 refine xM (h:=xW Zdm (h:=x1 lk9 0 (h:=xR Zzj rfl (Zmr _ _ _ _ _ _ _ _ x w.name 0 om2 om2 om2 _ hh hu hf) (h:=?_))))
 refine xF (h:=Zb rfl (fun g3=>?_) (fun g3=>?_))
 try simp only [sQ,ne_eq] at g3
 refine Za (xA (h:=Zd (ZD (Zo (Z3 (ZD (Zo ?_)))))))
 exact eR t1 ⟨Zg (Zc6 hw (Zly g3)).symm,rfl,rfl⟩
 try simp only [sQ,ne_eq] at g3
 refine ZK (Zx (Zj (Zc (xD (h:=xM (h:=?_))))))
 exact ZA (k+1) [] so2 ⟨rfl,oz,Zbq hw ha (Zlx g2 g3)⟩ t4 rfl
 try simp only [sQ,ne_eq] at g1
 refine ZT (Zab (ZW (ZG (Zj (Za (xA (h:=Zd ?_)))))))
 exact eR t1 ⟨Zg (ZeP (ZbL oz ha)).symm,rfl,rfl⟩

theorem Zs6 (q:Option Addr) (cp:Nat) (bs:List Bool) (v:Bool) (B:Kn) (hb:SlK B q cp 1 ZvN bs):ZaH (pj J) 148 [.slice q bs.length cp,.bool v] B (.int .i64 (ZaB (fun y=>decide (v=y)) bs)):=by
 refine cB 19 Tryz.func148 (h:=?_)
 have hbn:=hb.len
 refine Za (xA (h:=Zf (Za (xM (h:=xV Tryz.underlying141 (h:=xM (h:=Zl (ZO (α:=Nat) [0,1,7] (fun k=>[(8,.int .i64 k)]) [] (fun k=>[]) (fun k Bx=>Bx=B∧k≤bs.length∧∀y,y∈bs.take k→decide (v=y)=false) (fun k=>bs.length - k) 0 t1 rfl (⟨rfl,Nat.zero_le _,by simp⟩) (fun k B1 hle1 hI=>?_)))))))))
 obtain ⟨rfl,hk,ha⟩:=hI
 refine ZN [(0,_),(1,_),(7,_),(8,_)] [] t4 rfl (Za (Zaa (h:=Zf (Zb rfl (fun g1=>?_) (fun g1=>?_)))))
 try simp only [sQ,ne_eq] at g1
 refine wSk (Zf (Zl (Za (xM (h:=xA (h:=Za (xM (h:=xM (h:=xM (h:=?_))))))))))
 obtain ⟨y,hy⟩:=Zaf (xs:=bs) (i:=k) om
 obtain ⟨bb3,oo3,rfl⟩:=hb.base hy
 obtain ⟨_,rfl,hc4⟩:=hb.elem hy
 refine xIx Tryz.underlying141 sz4 (h:=y1 lk4 hc4 0 (h:=Zp (ZnZ rfl rfl rfl rfl rfl (Zua Tryz.underlying4) (Zb rfl (fun g2=>?_) (fun g2=>?_)))))
 try simp only [sQ,ne_eq] at g2
 refine Za (xM (h:=xA (h:=Zd (ZD (Zo (Z3 (ZD (Zo ?_))))))))
 exact eR t1 ⟨ZaJ (ZhW hy (decide_eq_true g2) ha).symm,rfl,rfl⟩
 try simp only [sQ,ne_eq] at g2
 refine ZK (Zx (Zj (Zc (xD (h:=xM (h:=?_))))))
 exact ZA (k+1) [] so2 ⟨rfl,oz,Zbq hy ha (decide_eq_false g2)⟩ t4 rfl
 try simp only [sQ,ne_eq] at g1
 refine ZT (Zab (ZW (ZG (Zj (Za (xA (h:=Zd ?_)))))))
 exact eR t1 ⟨ZaJ (Zfd (ZbL oz ha)).symm,rfl,rfl⟩

theorem ZnK (q:Option Addr) (cp:Nat) (bs:List Bool) (v:Bool) (B:Kn) (hb:SlK B q cp 1 ZvN bs):ZaH (pj J) 102 [.slice q bs.length cp,.bool v] B (.bool (decide (0≤ZaB (fun y=>decide (v=y)) bs))):=by
 refine cB 9 Tryz.func102 (h:=?_)
 refine Za (xA (h:=Za (xM (h:=xM (h:=xR ZyL rfl (Zs6 _ _ _ _ _ hb) (h:=Zd9 (h:=xA (h:=Zd ?_))))))))
 exact eR t1 ⟨rfl,rfl,rfl⟩

theorem Zmc (l:Str) (hl:l.length≤2000000) (B:Kn):ZaH (pj J) 57 [str l] B (.bool (Zcn l)):=by
 refine cB 16 Tryz.func57 (h:=?_)
 refine Za (xA (h:=Za (xM (h:=xB [(0,_)] [_,_] [_,_] Zwx Zsj (h:=xAl [_,_] Zsj (h:=fun b1=>xS [_,_] 0 [_,_] Zwq (h:=tL1 (Za (Zp (ZjO 0 rfl rfl rfl ZzN rfl (Ztv _ _ 0 oz oz _) ?_))))))))))
 refine xM (h:=xE (h:=xE (h:=xA (h:=xA (h:=Za (xM (h:=xM (h:=Zn (d:=13) rfl (fun g1=>?_) (fun g1=>?_)))))))))
 refine Zp (Zhf 0 rfl rfl rfl Zxn rfl (ZoD _ _ (dom l 0).2 (Zw5 (Nat.zero_le _)) oz _) ?_)
 refine xT (h:=xA (h:=Zd ?_))
 exact eR t1 ⟨Zg (by rw [Bool.eq_iff_iff,← Zmt];simp [ZnH] at g1;simp [g1];try omega),rfl,rfl⟩
 refine xP (h:=xF (h:=xA (h:=Zd ?_)))
 exact eR t1 ⟨Zg (by symm;rw [Bool.eq_false_iff,ne_eq,← Zmt];intro hc;simp [ZnH,hc.1] at g1;omega),rfl,rfl⟩

theorem Zk2 (Wg C n i b o b1 b3 b5 b6:Nat) (q1 q2 q3:Option Addr) (c1 c2 c3:Nat) (x:DHost) (m:DFolder) (qg qm:Option Addr) (cg cm:Nat) (hin:i<n) (B:Kn) (hc900:ZaQ B b o [str x.domain,.slice q1 x.users.length c1,.slice q2 x.folders.length c2,.int .i64 x.queue.next,.slice q3 x.queue.items.length c3]) (hu:SlK B q1 c1 3 Zv x.users) (hc901:ZaQ B b1 0 [ptr ⟨b,o,none⟩]) (hc903:ZaQ B b3 0 [.slice (some ⟨C,0,none⟩) n n]) (hc905:ZaQ B b5 0 [.int .i64 i]) (hc906:ZaQ B b6 0 [str m.owner,str m.name,.slice qg m.grants.length cg,.int .i64 m.next,.slice qm m.mail.length cm]) (hg:SlK B qg cg 2 ZU m.grants) (hm:SlK B qm cm 3 ZM m.mail) (ho:m.owner.length≤2000000) (hnm:m.name.length≤2000000):@ZeR ⟨4⟩ Tryz.prog wgL.tWg Wg C n i (.bool (Za6 x.users m)) (Go.Conc.G (Frame.enter Tryz.prog 98 #[ptr ⟨Wg,0,none⟩,ptr ⟨b1,0,none⟩,ptr ⟨b6,0,none⟩,ptr ⟨b3,0,none⟩,ptr ⟨b5,0,none⟩] .deferred) [Zf9 Tryz.prog]) B []:=by
 letI:Go.ConcR.Payload:=⟨4⟩
 refine Zun (Lk:=wgL) (P:=Tryz.prog) (caps:=[ptr ⟨Wg,0,none⟩,ptr ⟨b1,0,none⟩,ptr ⟨b6,0,none⟩,ptr ⟨b3,0,none⟩,ptr ⟨b5,0,none⟩]) (nt:=27) (I:=keeps B [] []) (K:=fun _ _ _ _=>False) ZmP Tryz.func98 rfl rfl (Nat.le_of_ble_eq_true rfl) rfl mo kr ⟨Kn.le.refl _,Zai.refl _ _⟩ (fun _ _ _ _ h=>h) ?_
 refine aT 0 rfl (ZC fun D B L hI=>Zh rfl rfl ZwF rfl ((hc903.mono hI.1) _ 0 _ rfl) r4) (h:=aT 1 rfl (ZC fun D B L hI=>Zh rfl rfl lk3 rfl ((hc905.mono hI.1) _ 0 _ rfl) r4) (h:=aT 2 rfl (ZC fun D B L hI=>Zh rfl rfl Zx4 rfl ((hc901.mono hI.1) _ 0 _ rfl) r4) (h:=aW 3 rfl Zb5 (h:=aT 4 rfl (ZC fun D B L hI=>Zh rfl rfl lk9 rfl ((hc906.mono hI.1) _ 0 _ rfl) r4) (h:=aT 5 rfl (ZC fun D B L hI=>Za2 rfl rfl Zxo rfl (ZhV _ _ _ _ _ _ _ _ x m.owner om2 _ (hc900.mono hI.1) (hu.mono Zv.mono hI.1)) r4) (h:=?_))))))
 refine aM 6 rfl (h:=ZaC (d:=11) rfl (fun g1=>?_) (fun g1=>?_))
 refine aW 7 rfl Zd5 (h:=aT 8 rfl (ZC fun D B L hI=>Zh rfl rfl lk9 rfl ((hc906.mono hI.1) _ 1 _ rfl) r4) (h:=aT 9 rfl (ZC fun D B L hI=>Za2 rfl rfl Zuc rfl (Zct _ om2 _) r4) (h:=?_)))
 refine aPT 10 rfl (h:=aM 11 rfl (h:=ZaC (d:=16) rfl (fun g2=>?_) (fun g2=>?_)))
 refine aW 12 rfl ZcN (h:=aT 13 rfl (ZC fun D B L hI=>Zh rfl rfl Zph rfl ((hc906.mono hI.1) _ 2 _ rfl) r4) (h:=aT 14 rfl (ZC fun D B L hI=>Za2 rfl rfl Zy7 rfl (Zq7 _ _ _ _ (hg.mono ZU.mono hI.1)) r4) (h:=aPT 15 rfl (h:=aM 16 rfl (h:=ZaC (d:=21) rfl (fun g3=>?_) (fun g3=>?_))))))
 refine aW 17 rfl Zby (h:=aT 18 rfl (ZC fun D B L hI=>Z1 [_,_] rfl rfl Zbp rfl (Ziv (hc906.mono hI.1) 3 rfl rfl) r4) (h:=aT 19 rfl (ZC fun D B L hI=>Za2 rfl rfl Zye rfl (ZiQ _ _ (⟨m.next,m.mail⟩:DBox) _ (hm.mono ZM.mono hI.1)) r4) (h:=aPT 20 rfl (h:=aT 21 rfl (ZC fun D B L hI=>Zbb rfl rfl Tryz.underlying141 sz4 rfl rfl oz oz r4) (h:=?_)))))
 refine Zh2 22 kr rfl kr kr kr (fun T hn hT=>?_)
 refine Zge (L:=[]) hT ZmP (by simp [Za6,DFolder.box,g1,g2,g3]) rfl hin rfl Tryz.sizeOf4 (Zdp sz4) (by exact ZhP C i) rfl kr Tryz.func98 rfl
 refine aZ 17 rfl (h:=aZ 18 rfl (h:=aZ 19 rfl (h:=aPF 20 rfl (h:=aT 21 rfl (ZC fun D B L hI=>Zbb rfl rfl Tryz.underlying141 sz4 rfl rfl oz oz r4) (h:=?_)))))
 refine Zh2 22 kr rfl kr kr kr (fun T hn hT=>?_)
 refine Zge (L:=[]) hT ZmP (by simp [Za6,DFolder.box,g1,g2,g3]) rfl hin rfl Tryz.sizeOf4 (Zdp sz4) (by exact ZhP C i) rfl kr Tryz.func98 rfl
 refine aZ 12 rfl (h:=aZ 13 rfl (h:=aZ 14 rfl (h:=aPF 15 rfl (h:=aM 16 rfl (h:=aZ 17 rfl (h:=aZ 18 rfl (h:=aZ 19 rfl (h:=aPF 20 rfl (h:=aT 21 rfl (ZC fun D B L hI=>Zbb rfl rfl Tryz.underlying141 sz4 rfl rfl oz oz r4) (h:=?_))))))))))
 refine Zh2 22 kr rfl kr kr kr (fun T hn hT=>?_)
 refine Zge (L:=[]) hT ZmP (by simp [Za6,DFolder.box,g1,g2]) rfl hin rfl Tryz.sizeOf4 (Zdp sz4) (by exact ZhP C i) rfl kr Tryz.func98 rfl
 refine aZ 7 rfl (h:=aZ 8 rfl (h:=aZ 9 rfl (h:=aPF 10 rfl (h:=aM 11 rfl (h:=aZ 12 rfl (h:=aZ 13 rfl (h:=aZ 14 rfl (h:=aPF 15 rfl (h:=aM 16 rfl (h:=aZ 17 rfl (h:=aZ 18 rfl (h:=aZ 19 rfl (h:=aPF 20 rfl (h:=aT 21 rfl (ZC fun D B L hI=>Zbb rfl rfl Tryz.underlying141 sz4 rfl rfl oz oz r4) (h:=?_)))))))))))))))
 refine Zh2 22 kr rfl kr kr kr (fun T hn hT=>?_)
 refine Zge (L:=[]) hT ZmP (by simp [Za6,DFolder.box,g1]) rfl hin rfl Tryz.sizeOf4 (Zdp sz4) (by exact ZhP C i) rfl kr Tryz.func98 rfl

theorem ZjL (hJ:Joins Tryz.prog J) (b o:Nat) (q1 q2 q3:Option Addr) (c1 c2 c3:Nat) (x:DHost) (B:Kn) (hc900:ZaQ B b o [str x.domain,.slice q1 x.users.length c1,.slice q2 x.folders.length c2,.int .i64 x.queue.next,.slice q3 x.queue.items.length c3]) (hu:SlK B q1 c1 3 Zv x.users) (hf:SlK B q2 c2 5 Ze x.folders):Zu (pj J) 60 [ptr ⟨b,o,none⟩] B [] (fun v B' Ls=>Ls=[]∧v = .bool (x.folders.all (Za6 x.users))):=by
 have hfn:=hf.len
 letI:Go.ConcR.Payload:=⟨4⟩
 refine ZtB 30 Tryz.func60 rfl rfl (Nat.le_of_ble_eq_true rfl) fun X kind c cs F T0 hk hke hA hn0 hT0=>?_
 let C0:Cx (pj J):=⟨X,fb 60 kind,c :: cs,F,hke⟩
 refine Zfi (C:=C0) (L:=[]) (Zkr (C:=C0) (L:=[]) hn0 hT0 (xBx [_] (h:=fun b1=>xA (h:=?_))))
 intro T1 hn1 hT1
 refine Zmu (C:=C0) rfl 0 rfl fun B1 hle1 hm1=>?_
 have hc901:=Zbr hm1
 replace hc900:=hc900.mono hle1
 obtain ⟨hu,hf⟩:=up2 hle1 hu hf
 replace hA:=fun v B' Ls' h=>hA v B' Ls' (hle1.trans h)
 refine Zfi (C:=C0) (L:=[[]]) (Zkr (C:=C0) (L:=[[]]) hn1 hT1 (y1 Zx4 hc901 0 (h:=xNc (h:=xW ZX (h:=y1 Zck hc900 2 (h:=xV Tryz.underlying24 (h:=Zp (ZfM (m:=x.folders.length) (c:=x.folders.length) (by_:=1) [.bool false] rfl rfl Zya zo4 rfl rfl ⟨_,_,rfl,rfl⟩ ⟨_,_,rfl,rfl⟩ (Nat.le_refl _) oz (fun Cb=>?_)))))))))
 refine xAl [_] Zxy (h:=fun b2=>xS [_] 2 [_] ZxS (h:=?_))
 intro T2 hn2 hT2
 refine Zmu (C:=C0) rfl 2 rfl fun B2 hle2 hm2=>?_
 have hc903:=Zbr hm2
 replace hc900:=hc900.mono hle2
 obtain ⟨hu,hf⟩:=up2 hle2 hu hf
 replace hc901:=hc901.mono hle2
 replace hA:=fun v B' Ls' h=>hA v B' Ls' (hle2.trans h)
 refine Zfi (C:=C0) (L:=[[],Zas Cb (zrow [.bool false] x.folders.length) 4,[]]) (ZgC (C:=C0) (L:=[[],Zas Cb (zrow [.bool false] x.folders.length) 4,[]]) (ZsJ (C:=Cb) (n:=x.folders.length) (val:=Zsf x) (L₁:=F) (cells:=(zrow [.bool false] x.folders.length).toArray) (i:=0) (todo:=[]) hJ rfl hke Zxx rfl oz (by simp [Zcy]) (.refl _) (fun hmain Wg hW1 hW2=>?_)))
 let C1:Cx (.lone Tryz.prog):=⟨phL Tryz.prog 151 Wg Cb x.folders.length (Zsf x) X.R .a5 (0),fb 60 kind,c :: cs,F,hke⟩
 have hT3:=hT2.putT (n:=30) (dst:=some 4) hn2 rfl (ptr ⟨Wg,0,none⟩)
 have hn3:(putT T2 (some 4) (ptr ⟨Wg,0,none⟩)).size=30:=by rw [ZbD,hn2]
 refine Zdt (C:=C1) (L:=[]) (Zfi (C:=C1) (L:=[]) (Zfi (C:=C1) (L:=[]) (Zkr (C:=C1) (L:=[]) hn3 hT3 (y1 Zx4 hc901 0 (h:=xNc (h:=xW ZX (h:=y1 Zck hc900 2 (h:=xV Tryz.underlying24 (h:=xM (h:=?_))))))))))
 intro T4 hn4 hT4
 refine ZoE (C:=C1) (L:=[]) (ZuI (nt:=30) (fun j=>[(1,ptr ⟨b1,0,none⟩),(3,ptr ⟨b2,0,none⟩),(4,ptr ⟨Wg,0,none⟩),(16,.slice q2 x.folders.length c2),(17,.int .i64 x.folders.length),(18,.int .i64 ((j:Nat):Int))]) (fun j hj B3 T5 hle3 hn5 hT5 hnext=>?_) hn4 (hT4.sub' t6))
 replace hc900:=hc900.mono hle3
 obtain ⟨hu,hf⟩:=up2 hle3 hu hf
 replace hc901:=hc901.mono hle3
 replace hc903:=hc903.mono hle3
 replace hA:=fun v B' Ls' h=>hA v B' Ls' (hle3.trans h)
 let C2:Cx (.lone Tryz.prog):=⟨phL Tryz.prog 151 Wg Cb x.folders.length (Zsf x) X.R .a5 (j),fb 60 kind,c :: cs,F,hke⟩
 refine Zfi (C:=C2) (L:=[]) (Zkr (C:=C2) (L:=[]) hn5 hT5 (Zaa (h:=?_)))
 intro T6 hn6 hT6
 refine Zfi (C:=C2) (L:=[]) ?_
 rcases Nat.lt_or_ge j x.folders.length with hlt | hge
 refine ZrQ (C:=C2) (L:=[]) (t:=true) (by exact congrArg (fun t=>some (Value.bool t)) (decide_eq_true oz)) hT6 ?_
 refine ZvC (C:=C2) (L:=[]) (Zfi (C:=C2) (L:=[]) (ZoE (C:=C2) (L:=[]) (Zfi (C:=C2) (L:=[]) (Zkr (C:=C2) (L:=[]) hn6 hT6 (xM (h:=?_))))))
 obtain ⟨m,hm⟩:=Zaf (xs:=x.folders) (i:=j) om
 obtain ⟨bb4,oo4,rfl⟩:=hf.base hm
 obtain ⟨_,⟨qg5,cg5,qm5,cm5,rfl,hg5,hm5,hb5,hb5b⟩,hc5⟩:=hf.elem hm
 have hg5n:=hg5.len
 have hm5n:=hm5.len
 have hm5s:=Z0 hm5
 refine xIx Tryz.underlying24 Zba (h:=yL [_,_,_,_,_] Ze9 hc5 0 (h:=xAl [_] zo3 (h:=fun b6=>xAl [_,_,_,_,_] Zdh (h:=fun b7=>xS [_] 0 [_] sz3 (h:=xS [_,_,_,_,_] 1 [_,_,_,_,_] Zba (h:=?_))))))
 intro T7 hn7 hT7
 refine Zmu (C:=C2) rfl 0 rfl fun B4 hle4 hpm4=>?_
 have hc905:=Zbr hpm4
 refine Zmu (C:=C2) rfl 1 rfl fun B5 hle5 hpm5=>?_
 have hc906:=Zbr hpm5
 replace hc905:=hc905.mono hle5
 replace hc900:=hc900.mono (hle4.trans hle5)
 replace hu:=hu.mono Zv.mono (hle4.trans hle5)
 replace hc901:=hc901.mono (hle4.trans hle5)
 replace hc903:=hc903.mono (hle4.trans hle5)
 replace hg5:=hg5.mono ZU.mono (hle4.trans hle5)
 replace hm5:=hm5.mono ZM.mono (hle4.trans hle5)
 refine Zfi (C:=C2) (L:=[[],[]]) (ZgC (C:=C2) (L:=[[],[]]) (ZwA (Lk:=wgL) (i:=0) (todo:=[]) ZmP hlt rfl ZzK rfl rfl hT7 hke ?_))
 let C3:Cx (.lone Tryz.prog):=⟨phL Tryz.prog 151 Wg Cb x.folders.length (Zsf x) X.R .a2 (j),fb 60 kind,c :: cs,F,hke⟩
 have hT8:=hT7.putT (n:=30) (dst:=(some 23)) hn7 rfl (.tuple #[])
 have hn8:(putT T7 (some 23) (.tuple #[])).size=30:=by rw [ZbD,hn7]
 refine Zdt (C:=C3) (L:=[]) (ZgC (C:=C3) (L:=[]) (Zy9 (C:=C3) (L:=[]) (i:=0) (todo:=[1]) rfl hn8 hT8 (Zp (Zdu (xs:=[]) (ys:=[.tmp 4,.tmp 1,.tmp 6,.tmp 3,.tmp 5]) rfl rfl rfl rfl ?_))))
 intro T9 hn9 hT9
 refine Zx1 (i:=1) (todo:=[]) rfl rfl hT9 hke Tryz.func98 rfl rfl (by rw [Zn3 hm];exact Zk2 Wg Cb x.folders.length j b o b1 b2 b6 b7 _ _ _ _ _ _ x m _ _ _ _ hlt B5 hc900 hu hc901 hc903 hc905 hc906 hg5 hm5 hb5 hb5b) ?_
 let C4:Cx (.lone Tryz.prog):=⟨phL Tryz.prog 151 Wg Cb x.folders.length (Zsf x) X.R .a5 (j+1),fb 60 kind,c :: cs,F,hke⟩
 refine Zdt (C:=C4) (L:=[]) (ZpK (C:=C4) (L:=[]) ?_)
 have hn10:=hn9
 have hT10:=hT9
 refine Zkr (C:=C4) (L:=[]) hn10 hT10 (xD (h:=xM (h:=?_)))
 intro T11 hn11 hT11
 exact hnext hlt _ _ (hle4.trans hle5) hn11 (hT11.sub' t6)
 obtain rfl:j=x.folders.length:=by omega
 refine ZrQ (C:=C2) (L:=[]) (t:=false) (by exact congrArg (fun t=>some (Value.bool t)) (decide_eq_false oz)) hT6 ?_
 refine ZvD (C:=C2) (L:=[]) (by rfl) ?_
 refine Zfi (C:=C2) (L:=[]) (ZgC (C:=C2) (L:=[]) (ZuH (Lk:=wgL) (X:=X) (i:=0) (todo:=[]) ZmP oz rfl Zy6 rfl hT6 hke (fun _ _ _ h=>h) ?_))
 have hT7:=hT6.putT (n:=30) (dst:=(some 26)) hn6 rfl (.tuple #[])
 have hn7:(putT T6 (some 26) (.tuple #[])).size=30:=by rw [ZbD,hn6]
 refine Zdt (C:=C0) (L:=[[(Cb,Obj.cells ((List.range x.folders.length).map (Zsf x)).toArray 4 (0,0))]]) (Zmu (C:=C0) (L:=[[(Cb,Obj.cells ((List.range x.folders.length).map (Zsf x)).toArray 4 (0,0))]]) rfl 0 rfl fun B4 hle4 hm4=>?_)
 have hvb:=Zqf hm4 hfn
 replace hc903:=hc903.mono hle4
 replace hA:=fun v B' Ls' h=>hA v B' Ls' (hle4.trans h)
 refine Zvg Tryz.func60 rfl hk hke hn7 hT7 hA ?_
 rw [show (x.folders.length:Nat)=(x.folders.map (Za6 x.users)).length from (List.length_map ..).symm] at hc903
 refine Za (y1 ZwF hc903 0 (h:=xR Zy5 rfl (ZnK _ _ _ _ _ hvb) (h:=xN (h:=xA (h:=tL1 (Zd ?_))))))
 exact eR t1 ⟨rfl,congrArg Value.bool Zlg⟩

theorem ZiR (hJ:Joins Tryz.prog J) (q1 q2 q3:Option Addr) (c1 c2 c3:Nat) (x:DHost) (hd:x.domain.length≤2000000) (B:Kn) (hu:SlK B q1 c1 3 Zv x.users) (hf:SlK B q2 c2 5 Ze x.folders) (hi:SlK B q3 c3 4 Zy x.queue.items):Zu (pj J) 19 [.agg #[str x.domain,.slice q1 x.users.length c1,.slice q2 x.folders.length c2,.int .i64 x.queue.next,.slice q3 x.queue.items.length c3]] B [] (fun v B' Ls=>Ls=[]∧v = .bool (Zw x)):=by
 refine cB 63 Tryz.func19 (h:=?_)
 rw [← Zpv]
 have hfn:=hf.len
 have hun:=hu.len
 have hin:=hi.len
 refine Za (xBx [_,_,_,_,_] (h:=fun b1=>xA (h:=tL1 (Zkz 0 rfl (fun B2 hle2 hpm2=>?_)))))
 have hc2:=Zbr hpm2
 obtain ⟨hu,hf,hi⟩:=up3 hle2 hu hf hi
 refine Zf (Za (xW Zi7 (h:=y1 lk9 hc2 0 (h:=xR Zz7 rfl (Zmc _ om2 _) (h:=?_)))))
 refine xN (h:=xM (h:=Zn (d:=10) rfl (fun g1=>?_) (fun g1=>?_)))
 try simp only [sQ,ne_eq] at g1
 refine xP (h:=xP (h:=xP (h:=xP (h:=xT (h:=xM (h:=xP (h:=xP (h:=xP (h:=xP (h:=xT (h:=xM (h:=xP (h:=xP (h:=xP (h:=xP (h:=xT (h:=tL1 (Zb (t:=true) rfl (fun _=>Za (xA (h:=Zd (Zo ?_)))) (fun h=>Bool.noConfusion h)))))))))))))))))))
 exact eR t1 ⟨rfl,Zg (by simp [ZdI,g1])⟩
 try simp only [sQ,ne_eq] at g1
 refine xW ZbX (h:=y1 ZjC hc2 1 (h:=xR Zzn rfl (ZiP _ _ _ _ hu) (h:=xN (h:=xF (h:=xM (h:=Zn (d:=16) rfl (fun g2=>?_) (fun g2=>?_)))))))
 try simp only [sQ,ne_eq] at g2
 refine xP (h:=xP (h:=xP (h:=xP (h:=xT (h:=xM (h:=xP (h:=xP (h:=xP (h:=xP (h:=xT (h:=tL1 (Zb (t:=true) rfl (fun _=>Za (xA (h:=Zd (Zo ?_)))) (fun h=>Bool.noConfusion h)))))))))))))
 exact eR t1 ⟨rfl,Zg (by simp [ZdI,g1,g2])⟩
 try simp only [sQ,ne_eq] at g2
 refine xW Zcg (h:=yL [_,_] ZdP hc2 3 (h:=xR Zz6 rfl (Znq _ _ x.queue _ hi) (h:=xN (h:=xF (h:=xM (h:=Zn (d:=22) rfl (fun g3=>?_) (fun g3=>?_)))))))
 try simp only [sQ,ne_eq] at g3
 refine xP (h:=xP (h:=xP (h:=xP (h:=xT (h:=tL1 (Zb (t:=true) rfl (fun _=>Za (xA (h:=Zd (Zo ?_)))) (fun h=>Bool.noConfusion h)))))))
 exact eR t1 ⟨rfl,Zg (by simp [ZdI,g1,g2,g3])⟩
 try simp only [sQ,ne_eq] at g3
 refine xW ZX (h:=y1 Zck hc2 2 (h:=xV Tryz.underlying24 (h:=Zbw (h:=xF (h:=tL1 (Zb rfl (fun g4=>?_) (fun g4=>?_)))))))
 try simp only [sQ,ne_eq] at g4
 refine Za (xA (h:=Zd (Zo ?_)))
 exact eR t1 ⟨rfl,Zg (by simp [ZdI];intros;omega)⟩
 try simp only [sQ,ne_eq] at g4
 refine wSk (Zf (Za (xW ZX (h:=y1 Zck hc2 2 (h:=xW ZX (h:=y1 Zck hc2 2 (h:=xV Tryz.underlying24 (h:=xU (h:=Zp (ZxF (m:=(x.folders.length - 1)) rfl rfl rfl rfl om ?_))))))))))
 have hsl:((x.folders.take (x.folders.length - 1)).drop 0).length=x.folders.length - 1:=by simp
 obtain ⟨hq6,q6,cp6,hv6,hr6⟩:=hf.cutE 0 (x.folders.length - 1) om om
 have hr6n:=hr6.len
 refine Zp (Zhh (a:=0) (b:=(x.folders.length - 1)) hv6 om hq6 rfl rfl Tryz.underlying24 Zba rfl rfl ⟨_,_,rfl,by first | omega | (simp;done) | (simp;omega)⟩ ?_)
 refine xV Tryz.underlying24 (h:=xM (h:=Zl (ZO (α:=Nat) [0,1,27,35,36] (fun k=>[(37,.int .i64 k)]) [] (fun k=>[]) (fun k Bx=>Bx=B2∧k≤x.folders.length - 1∧ZtP x.folders k) (fun k=>x.folders.length - k) 0 t1 rfl (⟨rfl,Nat.zero_le _,Zo5⟩) (fun k B7 hle7 hI=>?_))))
 obtain ⟨rfl,hk,hord⟩:=hI
 refine ZN [(0,_),(1,_),(27,_),(35,_),(36,_),(37,_)] [_] t6 rfl (Za (Zaa (h:=Zf (Zb rfl (fun g5=>?_) (fun g5=>?_)))))
 try simp only [sQ,ne_eq] at g5
 refine wSk (Zf (Zl (Za (xM (h:=?_)))))
 obtain ⟨fa,hfa⟩:=Zaf (xs:=((x.folders.take (x.folders.length - 1)).drop 0)) (i:=k) om
 obtain ⟨bb9,oo9,rfl⟩:=hr6.base hfa
 obtain ⟨_,⟨qg10,cg10,qm10,cm10,rfl,hg10,hm10,hb10,hb10b⟩,hc10⟩:=hr6.elem hfa
 have hg10n:=hg10.len
 have hm10n:=hm10.len
 have hm10s:=Z0 hm10
 refine xIx Tryz.underlying24 Zba (h:=?_)
 have hfa0:x.folders[k]? = some fa:=by rw [List.drop_zero,List.getElem?_take] at hfa;split at hfa <;> simp_all
 refine yL [_,_,_,_,_] Ze9 hc10 0 (h:=xAl [_,_,_,_,_] Zdh (h:=fun b11=>xA (h:=xS [_,_,_,_,_] 1 [_,_,_,_,_] Zba (h:=tL2 (Za (xW ZX (h:=y1 Zck hc2 2 (h:=xM (h:=xD (h:=?_))))))))))
 obtain ⟨fb,hfb⟩:=Zaf (xs:=x.folders) (i:=(k+1)) om
 obtain ⟨bb13,oo13,rfl⟩:=hf.base hfb
 obtain ⟨_,⟨qg14,cg14,qm14,cm14,rfl,hg14,hm14,hb14,hb14b⟩,hc14⟩:=hf.elem hfb
 have hg14n:=hg14.len
 have hm14n:=hm14.len
 have hm14s:=Z0 hm14
 refine xIx Tryz.underlying24 Zba (h:=yL [_,_,_,_,_] Ze9 hc14 0 (h:=xAl [_,_,_,_,_] Zdh (h:=fun b15=>xS [_,_,_,_,_] 2 [_,_,_,_,_] Zba (h:=tL3 (Za (xL [_,_,_,_,_] Ze9 1 (h:=xW Zb5 (h:=x1 lk9 2 (h:=xW Zd5 (h:=x1 lk9 2 (h:=xR Zz5 rfl (Znz fa _ _ _ _ fb.owner fb.name _) (h:=Zd9 (h:=Zb rfl (fun g6=>?_) (fun g6=>?_))))))))))))))
 try simp only [sQ,ne_eq] at g6
 refine Za (xA (h:=Zd (ZD (Zo (Z3 (ZD (Zo ?_)))))))
 exact eR t1 ⟨rfl,Zg (by simp [ZdI,ZsN hfa0 hfb ((Zmw fa fb).1 g6)])⟩
 try simp only [sQ,ne_eq] at g6
 refine ZK (Zx (Zj (Zc (xD (h:=xM (h:=?_))))))
 exact ZA (k+1) [0] so2 ⟨rfl,oz,Zo6 hord hfa0 hfb (by rw [← Bool.not_eq_false,← Zmw];omega)⟩ t6 rfl
 try simp only [sQ,ne_eq] at g5
 have ho:=ZsM (fs:=x.folders) (fun i a b h=>hord i a b oz)
 refine ZT (Zab (ZW (ZG (Zj (Za (xQ Zz4 rfl (ZjL hJ _ _ _ _ _ _ _ _ x _ hc2 hu hf) (h:=?_)))))))
 intro v17 B17 hle17
 rintro rfl
 obtain ⟨hu,hf,hi⟩:=up3 hle17 hu hf hi
 replace hc2:=hc2.mono hle17
 refine xM (h:=Zn (d:=57) rfl (fun g7=>?_) (fun g7=>?_))
 try simp only [sQ,ne_eq] at g7
 refine xR Zz3 rfl (ZoO _ _ _ _ _ _ _ _ x _ hc2 hu hf) (h:=xT (h:=xM (h:=Zn (d:=60) rfl (fun g8=>?_) (fun g8=>?_))))
 try simp only [sQ,ne_eq] at g8
 refine xR Zz2 rfl (Znb _ _ _ _ _ _ _ _ x _ hc2 hu hi) (h:=xT (h:=xA (h:=Zd ?_)))
 exact eR t1 ⟨rfl,Zg (by simp [ZdI,g1,g2,g3,ho,g7,g8];try omega)⟩
 try simp only [sQ,ne_eq] at g8
 refine xP (h:=xF (h:=xA (h:=Zd ?_)))
 exact eR t1 ⟨rfl,Zg (by simp [ZdI,g1,g2,g3,ho,g7,g8];try omega)⟩
 try simp only [sQ,ne_eq] at g7
 refine xP (h:=xF (h:=xM (h:=xP (h:=xF (h:=xA (h:=Zd ?_))))))
 exact eR t1 ⟨rfl,Zg (by simp [ZdI,g7])⟩

theorem Zm2 (q q':Option Addr) (cp cp':Nat) (xs ys:List DUser) (B:Kn) (ha:SlK B q cp 3 Zv xs) (hb:SlK B q' cp' 3 Zv ys):ZaH (pj J) 40 [.slice q xs.length cp,.slice q' ys.length cp'] B (.bool (decide (xs=ys))):=by
 refine cB 26 Tryz.func40 (h:=?_)
 have han:=ha.len
 have hbn:=hb.len
 refine Za (xA (h:=Zf (Za (xM (h:=xV Tryz.underlying23 (h:=xM (h:=xV Tryz.underlying23 (h:=ZbC (h:=Zb rfl (fun g1=>?_) (fun g1=>?_))))))))))
 try simp only [sQ,ne_eq] at g1
 refine Za (xA (h:=Zd (Zo ?_)))
 exact eR t1 ⟨Zg (Zji g1),rfl,rfl⟩
 try simp only [sQ,ne_eq] at g1
 refine wSk (Zf (Za (xA (h:=Zl (ZO (α:=Nat) [0,1,10] (fun k=>[(5,.int .i64 k)]) [] (fun k=>[]) (fun k Bx=>Bx=B∧k≤xs.length∧xs.take k=ys.take k) (fun k=>xs.length - k) 0 t1 rfl (⟨rfl,Nat.zero_le _,by simp⟩) (fun k B1 hle1 hI=>?_))))))
 obtain ⟨rfl,hk,he⟩:=hI
 refine ZN [(0,_),(1,_),(5,_),(10,_)] [] t4 rfl (Zf (Za (xM (h:=xM (h:=xV Tryz.underlying23 (h:=Zaa (h:=Zb rfl (fun g2=>?_) (fun g2=>?_))))))))
 try simp only [sQ,ne_eq] at g2
 refine wSk (Zf (Zl (Zf (Z2 (same _ _) mo kr ⟨rfl,rfl⟩ (fun _ _=>?_)))))
 refine aM 0 rfl (h:=aM 1 rfl (h:=?_))
 obtain ⟨x,hx⟩:=Zaf (xs:=xs) (i:=k) om
 obtain ⟨bb3,oo3,rfl⟩:=ha.base hx
 obtain ⟨_,⟨rfl,hb4,hb4b⟩,hc4⟩:=ha.elem hx
 refine aIx 2 rfl Tryz.underlying23 ZeW (h:=aT 3 rfl (Zaj fun D=>Z1 [_,_,_] rfl rfl Zon rfl (Ziv hc4 0 rfl rfl) r4) (h:=aM 4 rfl (h:=aM 5 rfl (h:=?_))))
 obtain ⟨y,hy⟩:=Zaf (xs:=ys) (i:=k) om
 obtain ⟨bb6,oo6,rfl⟩:=hb.base hy
 obtain ⟨_,⟨rfl,hb7,hb7b⟩,hc7⟩:=hb.elem hy
 refine aIx 6 rfl Tryz.underlying23 ZeW (h:=aT 7 rfl (Zaj fun D=>Z1 [_,_,_] rfl rfl Zon rfl (Ziv hc7 0 rfl rfl) r4) (h:=aT 8 rfl (Zaj fun D=>Zp6 (rs:=[_,_,_]) rfl rfl rfl rfl ZwM ⟨⟨_,_,rfl,rfl,ZhZ Tryz.underlying9⟩,⟨_,_,rfl,rfl,ZhZ Tryz.underlying9⟩,⟨_,_,rfl,rfl,Zh0 Tryz.underlying3⟩,trivial⟩ r4) (h:=Zz kr kr ?_)))
 refine Zj (Zb rfl (fun g3=>?_) (fun g3=>?_))
 try simp only [sQ,ne_eq] at g3
 refine Za (xA (h:=Zd (ZD (Zo (Z3 (ZD (Zo ?_)))))))
 exact eR t1 ⟨Zg (ZgB hx hy (by rintro rfl;simp at g3)),rfl,rfl⟩
 try simp only [sQ,ne_eq] at g3
 refine ZK (Zx (Zj (Zc (xM (h:=xD (h:=xA (h:=?_)))))))
 exact ZA (k+1) [] so2 ⟨rfl,oz,Zcq hx hy (by cases x;cases y;simpa [and_assoc] using g3) he⟩ t4 rfl
 try simp only [sQ,ne_eq] at g2
 refine ZT (Zab (ZW (ZG (Zj (Za (xA (h:=Zd ?_)))))))
 exact eR t1 ⟨Zg (eqT oz oz he),rfl,rfl⟩

theorem Zhn (q q':Option Addr) (cp cp':Nat) (xs ys:List DGrant) (B:Kn) (ha:SlK B q cp 2 ZU xs) (hb:SlK B q' cp' 2 ZU ys):ZaH (pj J) 15 [.slice q xs.length cp,.slice q' ys.length cp'] B (.bool (decide (xs=ys))):=by
 refine cB 26 Tryz.func15 (h:=?_)
 have han:=ha.len
 have hbn:=hb.len
 refine Za (xA (h:=Zf (Za (xM (h:=xV Tryz.underlying35 (h:=xM (h:=xV Tryz.underlying35 (h:=ZbC (h:=Zb rfl (fun g1=>?_) (fun g1=>?_))))))))))
 try simp only [sQ,ne_eq] at g1
 refine Za (xA (h:=Zd (Zo ?_)))
 exact eR t1 ⟨Zg (Zji g1),rfl,rfl⟩
 try simp only [sQ,ne_eq] at g1
 refine wSk (Zf (Za (xA (h:=Zl (ZO (α:=Nat) [0,1,10] (fun k=>[(5,.int .i64 k)]) [] (fun k=>[]) (fun k Bx=>Bx=B∧k≤xs.length∧xs.take k=ys.take k) (fun k=>xs.length - k) 0 t1 rfl (⟨rfl,Nat.zero_le _,by simp⟩) (fun k B1 hle1 hI=>?_))))))
 obtain ⟨rfl,hk,he⟩:=hI
 refine ZN [(0,_),(1,_),(5,_),(10,_)] [] t4 rfl (Zf (Za (xM (h:=xM (h:=xV Tryz.underlying35 (h:=Zaa (h:=Zb rfl (fun g2=>?_) (fun g2=>?_))))))))
 try simp only [sQ,ne_eq] at g2
 refine wSk (Zf (Zl (Zf (Z2 (same _ _) mo kr ⟨rfl,rfl⟩ (fun _ _=>?_)))))
 refine aM 0 rfl (h:=aM 1 rfl (h:=?_))
 obtain ⟨x,hx⟩:=Zaf (xs:=xs) (i:=k) om
 obtain ⟨bb3,oo3,rfl⟩:=ha.base hx
 obtain ⟨_,⟨rfl,hb4⟩,hc4⟩:=ha.elem hx
 refine aIx 2 rfl Tryz.underlying35 ZeV (h:=aT 3 rfl (Zaj fun D=>Z1 [_,_] rfl rfl ZvQ rfl (Ziv hc4 0 rfl rfl) r4) (h:=aM 4 rfl (h:=aM 5 rfl (h:=?_))))
 obtain ⟨y,hy⟩:=Zaf (xs:=ys) (i:=k) om
 obtain ⟨bb6,oo6,rfl⟩:=hb.base hy
 obtain ⟨_,⟨rfl,hb7⟩,hc7⟩:=hb.elem hy
 refine aIx 6 rfl Tryz.underlying35 ZeV (h:=aT 7 rfl (Zaj fun D=>Z1 [_,_] rfl rfl ZvQ rfl (Ziv hc7 0 rfl rfl) r4) (h:=aT 8 rfl (Zaj fun D=>Zp6 (rs:=[_,_]) rfl rfl rfl rfl ZwK ⟨⟨_,_,rfl,rfl,ZhZ Tryz.underlying9⟩,⟨_,_,rfl,rfl,Zh0 Tryz.underlying3⟩,trivial⟩ r4) (h:=Zz kr kr ?_)))
 refine Zj (Zb rfl (fun g3=>?_) (fun g3=>?_))
 try simp only [sQ,ne_eq] at g3
 refine Za (xA (h:=Zd (ZD (Zo (Z3 (ZD (Zo ?_)))))))
 exact eR t1 ⟨Zg (ZgB hx hy (by rintro rfl;simp at g3)),rfl,rfl⟩
 try simp only [sQ,ne_eq] at g3
 refine ZK (Zx (Zj (Zc (xM (h:=xD (h:=xA (h:=?_)))))))
 exact ZA (k+1) [] so2 ⟨rfl,oz,Zcq hx hy (by cases x;cases y;simpa [and_assoc] using g3) he⟩ t4 rfl
 try simp only [sQ,ne_eq] at g2
 refine ZT (Zab (ZW (ZG (Zj (Za (xA (h:=Zd ?_)))))))
 exact eR t1 ⟨Zg (eqT oz oz he),rfl,rfl⟩

theorem ZoZ (q q':Option Addr) (cp cp':Nat) (xs ys:List DMail) (B:Kn) (ha:SlK B q cp 3 ZM xs) (hb:SlK B q' cp' 3 ZM ys):ZaH (pj J) 50 [.slice q xs.length cp,.slice q' ys.length cp'] B (.bool (decide (xs=ys))):=by
 refine cB 26 Tryz.func50 (h:=?_)
 have han:=ha.len
 have hbn:=hb.len
 refine Za (xA (h:=Zf (Za (xM (h:=xV Tryz.underlying36 (h:=xM (h:=xV Tryz.underlying36 (h:=ZbC (h:=Zb rfl (fun g1=>?_) (fun g1=>?_))))))))))
 try simp only [sQ,ne_eq] at g1
 refine Za (xA (h:=Zd (Zo ?_)))
 exact eR t1 ⟨Zg (Zji g1),rfl,rfl⟩
 try simp only [sQ,ne_eq] at g1
 refine wSk (Zf (Za (xA (h:=Zl (ZO (α:=Nat) [0,1,10] (fun k=>[(5,.int .i64 k)]) [] (fun k=>[]) (fun k Bx=>Bx=B∧k≤xs.length∧xs.take k=ys.take k) (fun k=>xs.length - k) 0 t1 rfl (⟨rfl,Nat.zero_le _,by simp⟩) (fun k B1 hle1 hI=>?_))))))
 obtain ⟨rfl,hk,he⟩:=hI
 refine ZN [(0,_),(1,_),(5,_),(10,_)] [] t4 rfl (Zf (Za (xM (h:=xM (h:=xV Tryz.underlying36 (h:=Zaa (h:=Zb rfl (fun g2=>?_) (fun g2=>?_))))))))
 try simp only [sQ,ne_eq] at g2
 refine wSk (Zf (Zl (Zf (Z2 (same _ _) mo kr ⟨rfl,rfl⟩ (fun _ _=>?_)))))
 refine aM 0 rfl (h:=aM 1 rfl (h:=?_))
 obtain ⟨x,hx⟩:=Zaf (xs:=xs) (i:=k) om
 obtain ⟨bb3,oo3,rfl⟩:=ha.base hx
 obtain ⟨_,⟨rfl,hb4⟩,hc4⟩:=ha.elem hx
 refine aIx 2 rfl Tryz.underlying36 Zgc (h:=aT 3 rfl (Zaj fun D=>Z1 [_,_,_] rfl rfl Zpg rfl (Ziv hc4 0 rfl rfl) r4) (h:=aM 4 rfl (h:=aM 5 rfl (h:=?_))))
 obtain ⟨y,hy⟩:=Zaf (xs:=ys) (i:=k) om
 obtain ⟨bb6,oo6,rfl⟩:=hb.base hy
 obtain ⟨_,⟨rfl,hb7⟩,hc7⟩:=hb.elem hy
 refine aIx 6 rfl Tryz.underlying36 Zgc (h:=aT 7 rfl (Zaj fun D=>Z1 [_,_,_] rfl rfl Zpg rfl (Ziv hc7 0 rfl rfl) r4) (h:=aT 8 rfl (Zaj fun D=>Zp6 (rs:=[_,_,_]) rfl rfl rfl rfl ZwL ⟨⟨_,_,rfl,rfl,Zh0 Tryz.underlying3⟩,⟨_,_,rfl,rfl,Zh0 Tryz.underlying3⟩,⟨_,_,rfl,rfl,ZhZ Tryz.underlying9⟩,trivial⟩ r4) (h:=Zz kr kr ?_)))
 refine Zj (Zb rfl (fun g3=>?_) (fun g3=>?_))
 try simp only [sQ,ne_eq] at g3
 refine Za (xA (h:=Zd (ZD (Zo (Z3 (ZD (Zo ?_)))))))
 exact eR t1 ⟨Zg (ZgB hx hy (by rintro rfl;simp at g3)),rfl,rfl⟩
 try simp only [sQ,ne_eq] at g3
 refine ZK (Zx (Zj (Zc (xM (h:=xD (h:=xA (h:=?_)))))))
 exact ZA (k+1) [] so2 ⟨rfl,oz,Zcq hx hy (by cases x;cases y;simpa [and_assoc] using g3) he⟩ t4 rfl
 try simp only [sQ,ne_eq] at g2
 refine ZT (Zab (ZW (ZG (Zj (Za (xA (h:=Zd ?_)))))))
 exact eR t1 ⟨Zg (eqT oz oz he),rfl,rfl⟩

theorem ZlN (q1:Option Addr) (c1:Nat) (q2:Option Addr) (c2:Nat) (a b:DBox) (B:Kn) (h1:SlK B q1 c1 3 ZM a.mail) (h2:SlK B q2 c2 3 ZM b.mail):ZaH (pj J) 14 [.agg #[.int .i64 a.next,.slice q1 a.mail.length c1],.agg #[.int .i64 b.next,.slice q2 b.mail.length c2]] B (.bool (decide (a=b))):=by
 refine cB 17 Tryz.func14 (h:=?_)
 refine Za (xBx [_,_] (h:=fun b1=>xBx [_,_] (h:=fun b2=>xA (h:=tL2 (Za (xW ZbW (h:=x1 lk3 0 (h:=xW ZbW (h:=x1 lk3 1 (h:=ZF (h:=xM (h:=Zn (d:=10) rfl (fun g1=>?_) (fun g1=>?_)))))))))))))
 refine xW ZaL (h:=x1 Zfs 0 (h:=xW ZaL (h:=x1 Zfs 1 (h:=xR ZAb rfl (ZoZ _ _ _ _ _ _ _ h1 h2) (h:=xT (h:=xA (h:=Zd ?_)))))))
 exact eR t1 ⟨Zg (by cases a;cases b;simp_all),rfl,rfl⟩
 refine xP (h:=xP (h:=xP (h:=xP (h:=xP (h:=xF (h:=xA (h:=Zd ?_)))))))
 exact eR t1 ⟨Zg (by cases a;cases b;simp_all),rfl,rfl⟩

theorem Ze4 (qa1 qb1:Option Addr) (ca1 cb1:Nat) (qa2 qb2:Option Addr) (ca2 cb2:Nat) (a b:DFolder) (B:Kn) (hg1:SlK B qa1 ca1 2 ZU a.grants) (hm1:SlK B qb1 cb1 3 ZM a.mail) (hg2:SlK B qa2 ca2 2 ZU b.grants) (hm2:SlK B qb2 cb2 3 ZM b.mail):ZaH (pj J) 51 [.agg #[str a.owner,str a.name,.slice qa1 a.grants.length ca1,.int .i64 a.next,.slice qb1 a.mail.length cb1],.agg #[str b.owner,str b.name,.slice qa2 b.grants.length ca2,.int .i64 b.next,.slice qb2 b.mail.length cb2]] B (.bool (decide (a=b))):=by
 refine cB 31 Tryz.func51 (h:=?_)
 refine Za (xBx [_,_,_,_,_] (h:=fun b1=>xBx [_,_,_,_,_] (h:=fun b2=>xA (h:=tL2 (Za (xW Zb5 (h:=x1 lk9 0 (h:=xW Zb5 (h:=x1 lk9 1 (h:=Zdk (h:=xM (h:=Zn (d:=10) rfl (fun g1=>?_) (fun g1=>?_)))))))))))))
 refine xW Zd5 (h:=x1 lk9 0 (h:=xW Zd5 (h:=x1 lk9 1 (h:=Zdk (h:=xT (h:=xM (h:=Zn (d:=17) rfl (fun g2=>?_) (fun g2=>?_))))))))
 refine xW ZcN (h:=x1 Zph 0 (h:=xW ZcN (h:=x1 Zph 1 (h:=xR Zzx rfl (Zhn _ _ _ _ _ _ _ hg1 hg2) (h:=xT (h:=xM (h:=Zn (d:=24) rfl (fun g3=>?_) (fun g3=>?_))))))))
 refine xW Zby (h:=xL [_,_] Zbp 0 (h:=xW Zby (h:=xL [_,_] Zbp 1 (h:=xR Zzy rfl (ZlN _ _ _ _ (⟨a.next,a.mail⟩:DBox) (⟨b.next,b.mail⟩:DBox) _ hm1 hm2) (h:=xT (h:=xA (h:=Zd ?_)))))))
 exact eR t1 ⟨Zg (by cases a;cases b;simp_all),rfl,rfl⟩
 refine xP (h:=xP (h:=xP (h:=xP (h:=xP (h:=xF (h:=xA (h:=Zd ?_)))))))
 exact eR t1 ⟨Zg (by cases a;cases b;simp_all),rfl,rfl⟩
 refine xP (h:=xP (h:=xP (h:=xP (h:=xP (h:=xF (h:=xM (h:=xP (h:=xP (h:=xP (h:=xP (h:=xP (h:=xF (h:=xA (h:=Zd ?_))))))))))))))
 exact eR t1 ⟨Zg (by cases a;cases b;simp_all),rfl,rfl⟩
 refine xP (h:=xP (h:=xP (h:=xP (h:=xP (h:=xF (h:=xM (h:=xP (h:=xP (h:=xP (h:=xP (h:=xP (h:=xF (h:=xM (h:=xP (h:=xP (h:=xP (h:=xP (h:=xP (h:=xF (h:=xA (h:=Zd ?_)))))))))))))))))))))
 exact eR t1 ⟨Zg (by cases a;cases b;simp_all),rfl,rfl⟩

theorem ZkI (q q':Option Addr) (cp cp':Nat) (xs ys:List DFolder) (B:Kn) (ha:SlK B q cp 5 Ze xs) (hb:SlK B q' cp' 5 Ze ys):ZaH (pj J) 41 [.slice q xs.length cp,.slice q' ys.length cp'] B (.bool (decide (xs=ys))):=by
 refine cB 27 Tryz.func41 (h:=?_)
 have han:=ha.len
 have hbn:=hb.len
 refine Za (xA (h:=Zf (Za (xM (h:=xV Tryz.underlying24 (h:=xM (h:=xV Tryz.underlying24 (h:=ZbC (h:=Zb rfl (fun g1=>?_) (fun g1=>?_))))))))))
 try simp only [sQ,ne_eq] at g1
 refine Za (xA (h:=Zd (Zo ?_)))
 exact eR t1 ⟨Zg (Zji g1),rfl,rfl⟩
 try simp only [sQ,ne_eq] at g1
 refine wSk (Zf (Za (xA (h:=Zl (ZO (α:=Nat) [0,1,10] (fun k=>[(5,.int .i64 k)]) [] (fun k=>[]) (fun k Bx=>Bx=B∧k≤xs.length∧xs.take k=ys.take k) (fun k=>xs.length - k) 0 t1 rfl (⟨rfl,Nat.zero_le _,by simp⟩) (fun k B1 hle1 hI=>?_))))))
 obtain ⟨rfl,hk,he⟩:=hI
 refine ZN [(0,_),(1,_),(5,_),(10,_)] [] t4 rfl (Zf (Za (xM (h:=xM (h:=xV Tryz.underlying24 (h:=Zaa (h:=Zb rfl (fun g2=>?_) (fun g2=>?_))))))))
 try simp only [sQ,ne_eq] at g2
 refine wSk (Zf (Zl (Zf (Z2 (same _ _) mo kr ⟨rfl,rfl⟩ (fun _ _=>?_)))))
 refine aM 0 rfl (h:=aM 1 rfl (h:=?_))
 obtain ⟨x,hx⟩:=Zaf (xs:=xs) (i:=k) om
 obtain ⟨bb3,oo3,rfl⟩:=ha.base hx
 obtain ⟨_,⟨qg4,cg4,qm4,cm4,rfl,hg4,hm4,hb4,hb4b⟩,hc4⟩:=ha.elem hx
 have hg4n:=hg4.len
 have hm4n:=hm4.len
 have hm4s:=Z0 hm4
 refine aIx 2 rfl Tryz.underlying24 Zba (h:=aT 3 rfl (Zaj fun D=>Z1 [_,_,_,_,_] rfl rfl Ze9 rfl (Ziv hc4 0 rfl rfl) r4) (h:=aM 4 rfl (h:=aM 5 rfl (h:=?_))))
 obtain ⟨y,hy⟩:=Zaf (xs:=ys) (i:=k) om
 obtain ⟨bb6,oo6,rfl⟩:=hb.base hy
 obtain ⟨_,⟨qg7,cg7,qm7,cm7,rfl,hg7,hm7,hb7,hb7b⟩,hc7⟩:=hb.elem hy
 have hg7n:=hg7.len
 have hm7n:=hm7.len
 have hm7s:=Z0 hm7
 refine aIx 6 rfl Tryz.underlying24 Zba (h:=aT 7 rfl (Zaj fun D=>Z1 [_,_,_,_,_] rfl rfl Ze9 rfl (Ziv hc7 0 rfl rfl) r4) (h:=aT 8 rfl (Zaj fun D=>Za2 rfl rfl Zyc rfl (Ze4 _ _ _ _ _ _ _ _ x y _ hg4 hm4 hg7 hm7) r4) (h:=aN 9 rfl (h:=Zz kr kr ?_))))
 refine Zj (Zb rfl (fun g3=>?_) (fun g3=>?_))
 try simp only [sQ,ne_eq] at g3
 refine Za (xA (h:=Zd (ZD (Zo (Z3 (ZD (Zo ?_)))))))
 exact eR t1 ⟨Zg (ZgB hx hy g3),rfl,rfl⟩
 try simp only [sQ,ne_eq] at g3
 refine ZK (Zx (Zj (Zc (xM (h:=xD (h:=xA (h:=?_)))))))
 exact ZA (k+1) [] so2 ⟨rfl,oz,Zcq hx hy g3 he⟩ t4 rfl
 try simp only [sQ,ne_eq] at g2
 refine ZT (Zab (ZW (ZG (Zj (Za (xA (h:=Zd ?_)))))))
 exact eR t1 ⟨Zg (eqT oz oz he),rfl,rfl⟩

theorem Zej (qa1 qb1 qc1:Option Addr) (ca1 cb1 cc1:Nat) (qa2 qb2 qc2:Option Addr) (ca2 cb2 cc2:Nat) (a b:DHost) (B:Kn) (hu1:SlK B qa1 ca1 3 Zv a.users) (hf1:SlK B qb1 cb1 5 Ze a.folders) (hi1:SlK B qc1 cc1 4 Zy a.queue.items) (hu2:SlK B qa2 ca2 3 Zv b.users) (hf2:SlK B qb2 cb2 5 Ze b.folders) (hi2:SlK B qc2 cc2 4 Zy b.queue.items):ZaH (pj J) 11 [.agg #[str a.domain,.slice qa1 a.users.length ca1,.slice qb1 a.folders.length cb1,.int .i64 a.queue.next,.slice qc1 a.queue.items.length cc1],.agg #[str b.domain,.slice qa2 b.users.length ca2,.slice qb2 b.folders.length cb2,.int .i64 b.queue.next,.slice qc2 b.queue.items.length cc2]] B (.bool (decide (a=b))):=by
 refine cB 31 Tryz.func11 (h:=?_)
 refine Za (xBx [_,_,_,_,_] (h:=fun b1=>xBx [_,_,_,_,_] (h:=fun b2=>xA (h:=tL2 (Za (xW Zi7 (h:=x1 lk9 0 (h:=xW Zi7 (h:=x1 lk9 1 (h:=Zdk (h:=xM (h:=Zn (d:=10) rfl (fun g1=>?_) (fun g1=>?_)))))))))))))
 refine xW ZbX (h:=x1 ZjC 0 (h:=xW ZbX (h:=x1 ZjC 1 (h:=xR ZAg rfl (Zm2 _ _ _ _ _ _ _ hu1 hu2) (h:=xT (h:=xM (h:=Zn (d:=17) rfl (fun g2=>?_) (fun g2=>?_))))))))
 refine xW ZX (h:=x1 Zck 0 (h:=xW ZX (h:=x1 Zck 1 (h:=xR ZAf rfl (ZkI _ _ _ _ _ _ _ hf1 hf2) (h:=xT (h:=xM (h:=Zn (d:=24) rfl (fun g3=>?_) (fun g3=>?_))))))))
 refine xW Zcg (h:=xL [_,_] ZdP 0 (h:=xW Zcg (h:=xL [_,_] ZdP 1 (h:=xR ZAe rfl (Zm3 _ _ a.queue _ _ b.queue _ hi1 hi2) (h:=xT (h:=xA (h:=Zd ?_)))))))
 exact eR t1 ⟨Zg (by cases a;cases b;simp_all),rfl,rfl⟩
 refine xP (h:=xP (h:=xP (h:=xP (h:=xP (h:=xF (h:=xA (h:=Zd ?_)))))))
 exact eR t1 ⟨Zg (by cases a;cases b;simp_all),rfl,rfl⟩
 refine xP (h:=xP (h:=xP (h:=xP (h:=xP (h:=xF (h:=xM (h:=xP (h:=xP (h:=xP (h:=xP (h:=xP (h:=xF (h:=xA (h:=Zd ?_))))))))))))))
 exact eR t1 ⟨Zg (by cases a;cases b;simp_all),rfl,rfl⟩
 refine xP (h:=xP (h:=xP (h:=xP (h:=xP (h:=xF (h:=xM (h:=xP (h:=xP (h:=xP (h:=xP (h:=xP (h:=xF (h:=xM (h:=xP (h:=xP (h:=xP (h:=xP (h:=xP (h:=xF (h:=xA (h:=Zd ?_)))))))))))))))))))))
 exact eR t1 ⟨Zg (by cases a;cases b;simp_all),rfl,rfl⟩

theorem Zpl (b:Nat) (q:Option Addr) (m cp p:Nat) (hp:p≤850000000000) (hm:m≤2000) (B:Kn) (hbm:Zak B q m):Zu (pj J) 106 [ptr ⟨b,0,none⟩] B [rd b q m cp p] (fun v B' Ls=>∃q' cp' us p',v = .slice q' us.length cp'∧SlK B' q' cp' 3 Zv us∧us.length≤5∧p'≤p+10∧Ls=[rd b q m cp p']):=by
 refine cB 61 Tryz.func106 (h:=?_)
 refine Za (xA (h:=Za (xB [(0,_),(1,_),(2,_)] [_,_,_] [_,_,_] ZsH ZgH (h:=xM (h:=xX 0 rfl Za4 rfl (ZL _ _ _ _ _ _ oz oz oz hm _ hbm) (h:=?_))))))
 rintro _ _ ⟨ru,rfl,rua,rub,rfl⟩
 refine xD (h:=xB [(0,_),(1,_),(2,_)] [_,_,_] [_,_,_] ZsH ZgH (h:=xM (h:=xX 0 rfl Za4 rfl (ZL _ _ _ _ _ _ oz oz oz hm _ hbm) (h:=?_))))
 rintro _ _ ⟨ro,rfl,roa,rob,rfl⟩
 refine xD (h:=xB [(0,_),(1,_),(2,_)] [_,_,_] [_,_,_] ZsH ZgH (h:=xBs [(0,_),(1,_),(2,_)] [_,_,_,_,_,_,_,_,_] Tryz.underlying23 ZeW ZgH (h:=fun b3=>xA (h:=tL2 ?_))))
 obtain ⟨us0,hn0,hv0⟩ :∃us0:List DUser,us0.length=3∧ZZ B (Zas b3 [str [97,109,121],str [97,49],int 60,str [98,111,98],str [98,50],int (20+ru),str [99,121,100],str [99,51],int (100+ro)] 50) (some ⟨b3,0,none⟩) 3 50 3 Zv us0:=⟨[⟨[97,109,121],[97,49],60⟩,⟨[98,111,98],[98,50],20+ru⟩,⟨[99,121,100],[99,51],100+ro⟩],rfl,ZZ.lit (rows:=[[str [97,109,121],str [97,49],int 60],[str [98,111,98],str [98,50],int (20+ru)],[str [99,121,100],str [99,51],int (100+ro)]]) (.cons ⟨rfl,by simp,by simp⟩ (.cons ⟨rfl,by simp,by simp⟩ (.cons ⟨rfl,by simp,by simp⟩ .nil))) (by intro row hr;simp only [List.mem_cons,List.not_mem_nil,or_false] at hr;rcases hr with rfl | rfl | rfl <;> rfl)⟩
 refine Za (xM (h:=xM (h:=xX 0 rfl Za4 rfl (ZL _ _ _ _ _ _ oz oz oz hm _ hbm) (h:=?_))))
 rintro _ _ ⟨ry,rfl,rya,ryb,rfl⟩
 refine xD (h:=Zp (Zfp rfl rfl Tryz.underlying23 ZeW rfl (a:=0) (b:=(1+ry).toNat) rfl ⟨_,_,rfl,oz⟩ oz oz ?_))
 refine xA (h:=tL2 ?_)
 obtain ⟨us1,hn1,hv1⟩ :∃us1:List DUser,us1.length=(1+ry).toNat∧ZZ B _ _ 3 50 3 Zv us1:=⟨us0.take (1+ry).toNat,by rw [List.length_take];omega,hv0.take oz⟩
 rw [hv0.slice0 (sz:=3),show (1+ry).toNat - 0=us1.length from by omega]
 refine Za (xM (h:=xM (h:=xV Tryz.underlying23 (h:=xX 0 rfl Za4 rfl (ZL _ _ _ _ _ _ oz oz oz hm _ hbm) (h:=?_)))))
 rintro _ _ ⟨rk,rfl,rka,rkb,rfl⟩
 refine xA (h:=tL2 (Zp8 (α:=Gh DUser) [0,2,4] (fun g=>[(3,.slice g.a g.xs.length g.c)]) (fun g=>[rd b q m cp g.p,g.l]) (fun g Bx=>g.p≤p+10∧g.xs.length≤5∧ZZ Bx g.l g.a g.c 50 3 Zv g.xs) ?_ (fun g B6 hle6 hF=>?_)))
 refine Za (xM (h:=xX 0 rfl Za4 rfl (ZL _ _ _ _ _ _ oz oz oz hm _ hbm) (h:=?_)))
 rintro _ _ ⟨rj,rfl,rja,rjb,rfl⟩
 refine tL2 (Zl (Za (ZF (h:=xA (h:=Zb rfl (fun g1=>?_) (fun g1=>?_))))))
 try simp only [sQ,ne_eq] at g1
 refine Zc (xM (h:=xM (h:=xM (h:=xX 0 rfl Ztp rfl (ZcD _ _ _ _ _ oz hm _ hbm) (h:=?_)))))
 rintro _ _ ⟨xs,rfl,hxs,rfl⟩
 obtain ⟨z,hz⟩:=Zeh (xs:=us1) (i:=rk) om om
 obtain ⟨bb10,_,hp10,⟨rfl,hb10,hb10b⟩,hw10,hc10⟩:=hv1.row hz
 refine xIp hp10 Tryz.underlying23 ZeW (h:=xW Zdm (h:=Zp (Zez (k:=(rk).toNat) (off:=0) (⟨xs,z.pass,z.quota⟩) [_] 1 hv1 hp10 hz rfl rfl sz9 rfl rfl rfl rfl rfl rfl (by rintro _ ⟨rfl,e1,e2⟩;exact ⟨rfl,show xs.length≤2000000 by omega,e2⟩) (fun l11 hv11=>?_))))
 refine Zx ?_
 obtain ⟨us12,hn12,hv12⟩ :∃us12:List DUser,us12.length=us1.length∧ZZ B l11 _ _ 50 3 Zv us12:=⟨_,by rw [List.length_set],hv11⟩
 rw [← hn12]
 exact ZJ ⟨0,((((((p+1)+1)+1)+1)+1)+2),l11,(some ⟨b3,0,none⟩),3,us12⟩ [0,1] ⟨so,by first | (simp only [];omega) | (simp;omega),hv12⟩ t4 rfl
 try simp only [sQ,ne_eq] at g1
 refine Za (ZF (h:=xA (h:=Zb rfl (fun g2=>?_) (fun g2=>?_))))
 try simp only [sQ,ne_eq] at g2
 refine Zc (xM (h:=xM (h:=xM (h:=xX 0 rfl Ztp rfl (ZcD _ _ _ _ _ oz hm _ hbm) (h:=?_)))))
 rintro _ _ ⟨xs,rfl,hxs,rfl⟩
 obtain ⟨z,hz⟩:=Zeh (xs:=us1) (i:=rk) om om
 obtain ⟨bb15,_,hp15,⟨rfl,hb15,hb15b⟩,hw15,hc15⟩:=hv1.row hz
 refine xIp hp15 Tryz.underlying23 ZeW (h:=xW Zrr (h:=Zp (Zez (k:=(rk).toNat) (off:=1) (⟨z.name,xs,z.quota⟩) [_] 1 hv1 hp15 hz rfl rfl sz9 rfl rfl rfl rfl rfl rfl (by rintro _ ⟨rfl,e1,e2⟩;exact ⟨rfl,e1,show xs.length≤2000000 by omega⟩) (fun l16 hv16=>?_))))
 refine Zx ?_
 obtain ⟨us17,hn17,hv17⟩ :∃us17:List DUser,us17.length=us1.length∧ZZ B l16 _ _ 50 3 Zv us17:=⟨_,by rw [List.length_set],hv16⟩
 rw [← hn17]
 exact ZJ ⟨0,((((((p+1)+1)+1)+1)+1)+2),l16,(some ⟨b3,0,none⟩),3,us17⟩ [0,1] ⟨so,by first | (simp only [];omega) | (simp;omega),hv17⟩ t4 rfl
 try simp only [sQ,ne_eq] at g2
 refine Za (ZF (h:=xA (h:=Zb rfl (fun g3=>?_) (fun g3=>?_))))
 try simp only [sQ,ne_eq] at g3
 refine Zc (xM (h:=xM (h:=xBs [(0,_),(1,_),(2,_),(3,_)] [_,_,_,_] Tryz.underlying110 sz3 zo3 (h:=fun b18=>Z4 2 rfl (ZZ.ints (ls:=([(-1),0,200,201]:List Int))) Zb9.mono om3 (fun B19 hle19 hr19=>?_)))))
 replace hv1:=hv1.mono Zv.mono hle19
 replace hbm:=hbm.mono hle19
 have hr19n:=hr19.len
 refine xM (h:=xX 0 rfl Za4 rfl (ZL _ _ _ _ _ _ oz oz oz hm _ hbm) (h:=?_))
 rintro _ _ ⟨rs,rfl,rsa,rsb,rfl⟩
 obtain ⟨e,he⟩:=Zeh (xs:=([(-1),0,200,201]:List Int)) (i:=rs) om om
 obtain ⟨_,rfl,hc22⟩:=hr19.elem he
 refine xIx Tryz.underlying110 sz3 (h:=y1 lk3 hc22 0 (h:=?_))
 obtain ⟨z,hz⟩:=Zeh (xs:=us1) (i:=rk) om om
 obtain ⟨bb24,_,hp24,⟨rfl,hb24,hb24b⟩,hw24,hc24⟩:=hv1.row hz
 refine xIp hp24 Tryz.underlying23 ZeW (h:=xW Zi6 (h:=Zp (Zez (k:=(rk).toNat) (off:=2) (⟨z.name,z.pass,e⟩) [_] 1 hv1 hp24 hz rfl rfl sz3 rfl rfl rfl rfl rfl rfl (by rintro _ ⟨rfl,e1,e2⟩;exact ⟨rfl,e1,e2⟩) (fun l25 hv25=>?_))))
 refine Zx ?_
 obtain ⟨us26,hn26,hv26⟩ :∃us26:List DUser,us26.length=us1.length∧ZZ B19 l25 _ _ 50 3 Zv us26:=⟨_,by rw [List.length_set],hv25⟩
 rw [← hn26]
 exact ZJ ⟨0,((((((p+1)+1)+1)+1)+1)+1),l25,(some ⟨b3,0,none⟩),3,us26⟩ [0,1] ⟨so,by first | (simp only [];omega) | (simp;omega),hv26⟩ t4 rfl
 try simp only [sQ,ne_eq] at g3
 refine Za (ZF (h:=xA (h:=Zb rfl (fun g4=>?_) (fun g4=>?_))))
 try simp only [sQ,ne_eq] at g4
 refine Zc (xM (h:=xB [(0,_),(1,_),(2,_)] [_,_,_] [_,_,_] ZsH ZgH (h:=xB [(0,_),(1,_),(2,_)] [_,_,_] [_,_,_] ZsH ZgH (h:=xBs [(0,_),(1,_)] [_,_,_,_,_,_] Tryz.underlying23 ZeW ZgH (h:=fun b27=>Zp (Zn1 (rows:=[[str [100,97,110],str [100,52],.int .i64 9],[str [101,118,101],str [101,53],.int .i64 9]]) (ys:=[⟨[100,97,110],[100,52],9⟩,⟨[101,118,101],[101,53],9⟩]) (R:=Zv) 1 rfl hv1 rfl rfl rfl Zoz Zn5 rfl rfl rfl (ZaN.box 2 rfl) rfl (by intro row hr;simp only [List.mem_cons,List.not_mem_nil,or_false] at hr;rcases hr with rfl | rfl <;> rfl) (.cons (⟨rfl,by first | assumption | omega | (simp;done) | (simp;done) | (simp;omega),by first | assumption | omega | (simp;done) | (simp;done) | (simp;omega)⟩) (.cons (⟨rfl,by first | assumption | omega | (simp;done) | (simp;done) | (simp;done) | (simp;omega),by first | assumption | omega | (simp;done) | (simp;done) | (simp;done) | (simp;omega)⟩) .nil)) om (fun l28 p28 c28 hv28=>?_)))))))
 refine xA (h:=Zx ?_)
 exact ZJ ⟨0,(((((p+1)+1)+1)+1)+1),l28,p28,c28,(us1 ++ [⟨[100,97,110],[100,52],9⟩,⟨[101,118,101],[101,53],9⟩])⟩ [0,1] ⟨by simp only [];omega,by first | (simp only [];omega) | (simp;omega),hv28⟩ ⟨rfl,rfl,rfl,rfl,trivial⟩ rfl
 try simp only [sQ,ne_eq] at g4
 refine ZK (Zx ?_)
 exact ZJ ⟨0,(((((p+1)+1)+1)+1)+1),_,(some ⟨b3,0,none⟩),3,us1⟩ [0,1] ⟨so,by first | (simp only [];omega) | (simp;omega),hv1⟩ t4 rfl
 obtain ⟨hgp,hgn,hw⟩:=hF
 refine ZN [(0,_),(2,_),(3,_),(4,_)] [_,_] t4 rfl (ZdU 1 rfl hw Zv.mono om3 (fun B29 hle29 hr29=>?_))
 have hr29n:=hr29.len
 refine Za (xM (h:=xA (h:=tL2 (Zd ?_))))
 exact eN [0] rfl t1 ⟨_,_,_,_,rfl,hr29,oz,oz,rfl⟩

theorem Zg6 (q:Option Addr) (cp:Nat) (x:DBox) (B:Kn) (hm:SlK B q cp 3 ZM x.mail):Zu (pj J) 46 [.agg #[.int .i64 x.next,.slice q x.mail.length cp]] B [] (fun v B' Ls=>B'=B∧∃l a c,Ls=[l]∧v = .agg #[.int .i64 x.next,.slice a x.mail.length c]∧ZZ B l a c 89 3 ZM x.mail):=by
 refine cB 10 Tryz.func46 (h:=?_)
 have hxn:=hm.len
 refine Za (xBx [_,_] (h:=fun b1=>xAl [_,_] ZeS (h:=fun b2=>tL2 (Zf (Z2 (keeps _ [0] _) mo kr ⟨Kn.le.refl _,Zai.refl _ _⟩ (fun _ _=>?_))))))
 refine aW 0 rfl ZbW (h:=aT 1 rfl (ZC fun D B L hI=>Zh rfl rfl lk3 rfl (atL 0 (hI.2.1.trans rfl) rfl rfl) r4) (h:=aW 3 rfl ZaL (h:=aT 4 rfl (ZC fun D B L hI=>Zh rfl rfl Zfs rfl (atL 0 (hI.2.1.trans rfl) rfl rfl) r4) (h:=Zq 2 kr rfl kr (Zt (parts:=[]) [] rfl rfl Tryz.underlying36 Zgc Zlk rfl rfl rfl rfl rfl (fun b3=>?_))))))
 refine ⟨⟨Kn.le.refl _,t1⟩,(Zq 5 kr rfl kr (ZaU (R:=ZM) 2 rfl (ZZ.lit0 (R:=ZM)) rfl rfl rfl ZvR Zwr rfl rfl rfl hm.rows ZM.one rfl om (fun l4 p4 c4 hv4=>?_)))⟩
 refine ⟨⟨Kn.le.refl _,t1⟩,(aT 6 rfl (ZC fun D B L hI=>Zaz (parts:=[(0,_),(1,_)]) [_,_] [_,_] rfl rfl Znc ZeS rfl rfl rfl r4) (h:=ZV 7 kr rfl kr kr kr (ZI [_,_] 1 [_,_] rfl rfl Zcx rfl rfl rfl rfl rfl rfl rfl rfl ?_)))⟩
 refine Zj (tL3 (Zd ?_))
 exact eN [2] rfl ⟨⟨_,rfl,.inr ⟨[_,_],Zbp,Z9 1 rfl rfl rfl,rfl⟩⟩,trivial⟩ ⟨rfl,_,_,_,rfl,rfl,hv4⟩

theorem Zgz (qa qb:Option Addr) (ca cb:Nat) (x:DFolder) (B:Kn) (hg:SlK B qa ca 2 ZU x.grants) (hm:SlK B qb cb 3 ZM x.mail):Zu (pj J) 44 [.agg #[str x.owner,str x.name,.slice qa x.grants.length ca,.int .i64 x.next,.slice qb x.mail.length cb]] B [] (fun v B' Ls=>B'=B∧∃l a c l' a' c',Ls=[l,l']∧v = .agg #[str x.owner,str x.name,.slice a x.grants.length c,.int .i64 x.next,.slice a' x.mail.length c']∧ZZ B l a c 93 2 ZU x.grants∧ZZ B l' a' c' 89 3 ZM x.mail):=by
 refine cB 13 Tryz.func44 (h:=?_)
 have hgn:=hg.len
 have hmn:=hm.len
 refine Za (xBx [_,_,_,_,_] (h:=fun b1=>xAl [_,_,_,_,_] Zdh (h:=fun b2=>tL2 (Za (xBs [] [] Tryz.underlying35 ZeV ZjA (h:=fun b3=>xW ZcN (h:=x1 Zph 0 (h:=Zp (ZaU (R:=ZU) 2 rfl (ZZ.lit0 (R:=ZU)) rfl rfl rfl ZrF Zqr rfl rfl rfl hg.rows ZU.one rfl om (fun l4 p4 c4 hv4=>?_))))))))))
 refine xW ZcN (h:=xS [_] 0 [_,_,_,_,_] Zwm (h:=tL3 (Za (xW Zby (h:=xL [_,_] Zbp 0 (h:=xC Zyd rfl (Zg6 _ _ (⟨x.next,x.mail⟩:DBox) _ hm) (h:=?_)))))))
 rintro _ B5 _ hle5 ⟨rfl,l5,a5,c5,rfl,rfl,hs5⟩
 refine xW Zby (h:=xS [_,_] 0 [_,_,_,_,_] Zcx (h:=tL4 (Za (xL [_,_,_,_,_] Ze9 0 (h:=xS [_,_,_,_,_] 1 [_,_,_,_,_] Zba (h:=tL4 (Zd ?_)))))))
 exact eN [2,3] rfl ⟨⟨_,rfl,.inr ⟨[_,_,_,_,_],Ze9,Z9 1 rfl rfl rfl,rfl⟩⟩,trivial⟩ ⟨rfl,_,_,_,_,_,_,rfl,rfl,hv4,hs5⟩

end Go.Proofs.YtandoilaebgglaaGreatDoor
