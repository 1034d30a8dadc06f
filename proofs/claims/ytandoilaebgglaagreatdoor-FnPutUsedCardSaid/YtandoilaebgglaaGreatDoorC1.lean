/-
  WHAT THE FUNCTIONS THAT THE LAWS REACH COMPUTE: each function's contract, proved off its printed body (the text is written by program). No condition beyond those that each theorem states.
-/
import Derived.Test.YtandoilaebgglaaGreatDoorC0
namespace Go.Proofs.YtandoilaebgglaaGreatDoor
open Go Go.BL
set_option linter.unusedVariables false
set_option linter.unusedSimpArgs false
set_option maxRecDepth 4000
set_option maxHeartbeats 6400000
variable {J : JoinT}
theorem Zpu (b:Nat) (q:Option Addr) (cp:Nat) (xs:List Int) (l:Cells) (m:Nat) (hm:m≤xs.length) (hm0:0<xs.length) (hn:xs.length≤2000000) (hh:Zfq xs m 0) (B:Kn) (hv:ZY B l q cp 3 1 Zb7 xs):Zv (pj J) 167 [.iface 172 (ptr ⟨b,0,none⟩),.int .i64 0,.int .i64 m] B [Zar b [.slice q xs.length cp] 173,l] (fun v B' Ls=>B'=B∧∃ys l',Ls=[Zar b [.slice q ys.length cp] 173,l']∧ZY B l' q cp 3 1 Zb7 ys∧ys.Perm xs∧ZtE ys m∧(∀k,m≤k→hat ys k=hat xs k)):=by
 refine cB 48 Tryz.func167 (h:=?_)
 refine Za (xA (h:=Za (xM (h:=xA (h:=Zf (Zl (ZM (α:=Nat × List Int × Cells) [0,1,2,6] (fun g=>[(7,.int .i64 g.1)]) [0,1] (fun g=>[Zar b [.slice q g.2.1.length cp] 173,g.2.2]) (fun g Bx=>Bx=B∧g.1<g.2.1.length∧g.2.1.Perm xs∧Zfq g.2.1 m g.1∧(∀k,m≤k→hat g.2.1 k=hat xs k)∧ZY B g.2.2 q cp 3 1 Zb7 g.2.1) (fun g=>xs.length - g.1) (0,xs,l) t1 rfl (⟨rfl,hm0,.refl _,hh,fun _ _=>rfl,hv⟩) (fun g B1 hle1 hI=>?_))))))))
 obtain ⟨rfl,hk,hp,hb,hs,hv⟩:=hI
 have hpl:=hp.length_eq
 refine ZL [(0,_),(1,_),(2,_),(6,_),(7,_)] [_,_] t5 rfl (Zl (Za (xM (h:=Zo (Zlr (r:=((2*g.1:Nat):Int)) rfl rfl rfl rfl ((congrArg _ (show _=((2*g.1:Nat):Int) from by omega)).trans (Za4 oz oz)) ?_)))))
 refine Zo (ZeZ (r:=((2*g.1+1:Nat):Int)) rfl rfl rfl rfl ((congrArg _ (show _=((2*g.1+1:Nat):Int) from by omega)).trans (Za4 oz oz)) ?_)
 refine xA (h:=Zf (Za (xM (h:=xM (h:=Zd6 (h:=xM (h:=Zp (d:=18) rfl (fun g1=>?_) (fun g1=>?_))))))))
 try simp only [sQ,ne_eq] at g1
 refine xP (h:=xP (h:=xT (h:=Zb (t:=true) rfl (fun _=>ZT (Zaa (Zfy rfl (ZW (ZG (Zj (Za (xM (h:=xM (h:=Zbv (h:=xA (h:=Zd ?_)))))))))))) (fun h=>Bool.noConfusion h))))
 exact eN [0,1] rfl t1 ⟨rfl,_,_,rfl,hv,hp,ZrD hb oz,hs⟩
 try simp only [sQ,ne_eq] at g1
 refine xM (h:=Z9 (h:=xF (h:=Zb rfl (fun g2=>by have:=of_decide_eq_true g2;omega) (fun g2=>?_))))
 try simp only [sQ,ne_eq] at g2
 refine wSk (Za (xM (h:=xA (h:=Zf (Za (xM (h:=Zo (ZeZ (r:=((2*g.1+1+1:Nat):Int)) rfl rfl rfl rfl ((congrArg _ (show _=((2*g.1+1+1:Nat):Int) from by omega)).trans (Za4 oz oz)) ?_))))))))
 refine xA (h:=Za (xM (h:=xM (h:=Z9 (h:=xM (h:=Zp (d:=28) rfl (fun g3=>?_) (fun g3=>?_)))))))
 try simp only [sQ,ne_eq] at g3
 refine xM (h:=xM (h:=xM (h:=Zo (ZfR 1 rfl rfl rfl Zry rfl rfl (ZbE Zel Tryz.underlying172 ZfH (atL 0 rfl rfl rfl)) (ZaE.borrow fun hm2=>ZgG _ _ _ _ _ _ _ (Zbc oz) (Zbc oz) _ (hv.lend Zb7.mono hm2 om)) ?_))))
 refine xT (h:=Zb rfl (fun g4=>?_) (fun g4=>?_))
 try simp only [sQ,ne_eq] at g4
 refine Zc (xM (h:=xA (h:=Zj (Zf (Za (xM (h:=xM (h:=xM (h:=Zo (ZfR 1 rfl rfl rfl Zry rfl rfl (ZbE Zel Tryz.underlying172 ZfH (atL 0 rfl rfl rfl)) (ZaE.borrow fun hm3=>ZgG _ _ _ _ _ _ _ (Zbc oz) (Zbc oz) _ (hv.lend Zb7.mono hm3 om)) ?_))))))))))
 refine xN (h:=Zb rfl (fun g5=>?_) (fun g5=>?_))
 try simp only [sQ,ne_eq] at g5
 refine ZT (Zaa (Zfy rfl (ZW (ZG (Zj (Za (xM (h:=xM (h:=Zbv (h:=xA (h:=Zd ?_)))))))))))
 exact eN [0,1] rfl t1 ⟨rfl,_,_,rfl,hv,hp,Zjm hb (by intro k h0 hk he;(try simp only [decide_eq_true_eq,decide_eq_false_iff_not,Bool.not_eq_true',Bool.not_eq_false',Int.not_lt] at *);rcases (show k=2*g.1+1∨k=2*g.1+1+1 from by omega) with rfl | rfl <;> omega),hs⟩
 try simp only [sQ,ne_eq] at g5
 refine wSk (Za (xM (h:=xM (h:=xM (h:=Zo (Zhp [1] rfl rfl rfl rfl Zrx rfl rfl (ZbE Zek Tryz.underlying172 ZfH (atL 0 rfl rfl rfl)) (ZgF _ _ _ _ _ _ _ _ (Zbc oz) (Zbc oz) oz _ hv) ?_))))))
 rintro _ B4 _ hle4 ⟨rfl,l4,rfl,hv4⟩
 refine tL2 (Zc (xM (h:=xA (h:=Zx ?_))))
 rw [← ZdC g.2.1 g.1 (2*g.1+1+1)]
 have h5:hat g.2.1 (2*g.1+1+1)<hat g.2.1 g.1:=by simpa using g5
 exact ZB (2*g.1+1+1,(swp g.2.1 g.1 (2*g.1+1+1)),l4) [0,1] (so) ⟨rfl,by have:=ZdC g.2.1 g.1 (2*g.1+1+1);simp only [];omega,(Zgr oz oz).trans hp,Zjl oz oz oz oz hb (by intro k h0 hk he;(try simp only [decide_eq_true_eq,decide_eq_false_iff_not,Bool.not_eq_true',Bool.not_eq_false',Int.not_lt] at *);rcases (show k=2*g.1+1∨k=2*g.1+1+1 from by omega) with rfl | rfl <;> omega) h5,(fun k hk=>by rw [Zfe oz oz,if_neg oz,if_neg oz];exact hs k hk),hv4⟩ t5 rfl
 try simp only [sQ,ne_eq] at g4
 refine wSk (Zf (Za (xM (h:=xM (h:=xM (h:=Zo (ZfR 1 rfl rfl rfl Zry rfl rfl (ZbE Zel Tryz.underlying172 ZfH (atL 0 rfl rfl rfl)) (ZaE.borrow fun hm5=>ZgG _ _ _ _ _ _ _ (Zbc oz) (Zbc oz) _ (hv.lend Zb7.mono hm5 om)) ?_)))))))
 refine xN (h:=Zb rfl (fun g5=>?_) (fun g5=>?_))
 try simp only [sQ,ne_eq] at g5
 refine ZT (Zaa (Zfy rfl (ZW (ZG (Zj (Za (xM (h:=xM (h:=Zbv (h:=xA (h:=Zd ?_)))))))))))
 exact eN [0,1] rfl t1 ⟨rfl,_,_,rfl,hv,hp,Zjm hb (by intro k h0 hk he;(try simp only [decide_eq_true_eq,decide_eq_false_iff_not,Bool.not_eq_true',Bool.not_eq_false',Int.not_lt] at *);rcases (show k=2*g.1+1∨k=2*g.1+1+1 from by omega) with rfl | rfl <;> omega),hs⟩
 try simp only [sQ,ne_eq] at g5
 refine wSk (Za (xM (h:=xM (h:=xM (h:=Zo (Zhp [1] rfl rfl rfl rfl Zrx rfl rfl (ZbE Zek Tryz.underlying172 ZfH (atL 0 rfl rfl rfl)) (ZgF _ _ _ _ _ _ _ _ (Zbc oz) (Zbc oz) oz _ hv) ?_))))))
 rintro _ B6 _ hle6 ⟨rfl,l6,rfl,hv6⟩
 refine tL2 (Zc (xM (h:=xA (h:=Zx ?_))))
 rw [← ZdC g.2.1 g.1 (2*g.1+1)]
 have h5:hat g.2.1 (2*g.1+1)<hat g.2.1 g.1:=by simpa using g5
 exact ZB (2*g.1+1,(swp g.2.1 g.1 (2*g.1+1)),l6) [0,1] (so) ⟨rfl,by have:=ZdC g.2.1 g.1 (2*g.1+1);simp only [];omega,(Zgr oz oz).trans hp,Zjl oz oz oz oz hb (by intro k h0 hk he;(try simp only [decide_eq_true_eq,decide_eq_false_iff_not,Bool.not_eq_true',Bool.not_eq_false',Int.not_lt] at *);rcases (show k=2*g.1+1∨k=2*g.1+1+1 from by omega) with rfl | rfl <;> omega) h5,(fun k hk=>by rw [Zfe oz oz,if_neg oz,if_neg oz];exact hs k hk),hv6⟩ t5 rfl
 try simp only [sQ,ne_eq] at g3
 refine xP (h:=xP (h:=xP (h:=xP (h:=xF (h:=Zb (t:=false) rfl (fun h=>Bool.noConfusion h) (fun _=>wSk (Zf (Za (xM (h:=xM (h:=xM (h:=Zo (ZfR 1 rfl rfl rfl Zry rfl rfl (ZbE Zel Tryz.underlying172 ZfH (atL 0 rfl rfl rfl)) (ZaE.borrow fun hm7=>ZgG _ _ _ _ _ _ _ (Zbc oz) (Zbc oz) _ (hv.lend Zb7.mono hm7 om)) ?_)))))))))))))
 refine xN (h:=Zb rfl (fun g5=>?_) (fun g5=>?_))
 try simp only [sQ,ne_eq] at g5
 refine ZT (Zaa (Zfy rfl (ZW (ZG (Zj (Za (xM (h:=xM (h:=Zbv (h:=xA (h:=Zd ?_)))))))))))
 exact eN [0,1] rfl t1 ⟨rfl,_,_,rfl,hv,hp,Zjm hb (by intro k h0 hk he;(try simp only [decide_eq_true_eq,decide_eq_false_iff_not,Bool.not_eq_true',Bool.not_eq_false',Int.not_lt] at *);rcases (show k=2*g.1+1∨k=2*g.1+1+1 from by omega) with rfl | rfl <;> omega),hs⟩
 try simp only [sQ,ne_eq] at g5
 refine wSk (Za (xM (h:=xM (h:=xM (h:=Zo (Zhp [1] rfl rfl rfl rfl Zrx rfl rfl (ZbE Zek Tryz.underlying172 ZfH (atL 0 rfl rfl rfl)) (ZgF _ _ _ _ _ _ _ _ (Zbc oz) (Zbc oz) oz _ hv) ?_))))))
 rintro _ B8 _ hle8 ⟨rfl,l8,rfl,hv8⟩
 refine tL2 (Zc (xM (h:=xA (h:=Zx ?_))))
 rw [← ZdC g.2.1 g.1 (2*g.1+1)]
 have h5:hat g.2.1 (2*g.1+1)<hat g.2.1 g.1:=by simpa using g5
 exact ZB (2*g.1+1,(swp g.2.1 g.1 (2*g.1+1)),l8) [0,1] (so) ⟨rfl,by have:=ZdC g.2.1 g.1 (2*g.1+1);simp only [];omega,(Zgr oz oz).trans hp,Zjl oz oz oz oz hb (by intro k h0 hk he;(try simp only [decide_eq_true_eq,decide_eq_false_iff_not,Bool.not_eq_true',Bool.not_eq_false',Int.not_lt] at *);rcases (show k=2*g.1+1∨k=2*g.1+1+1 from by omega) with rfl | rfl <;> omega) h5,(fun k hk=>by rw [Zfe oz oz,if_neg oz,if_neg oz];exact hs k hk),hv8⟩ t5 rfl

theorem Zq8 (b:Nat) (q:Option Addr) (cp:Nat) (xs:List Int) (l:Cells) (hm0:0<xs.length) (hn:xs.length≤2000000) (hh:ZdQ xs) (B:Kn) (hv:ZY B l q cp 3 1 Zb7 xs):Zv (pj J) 128 [.iface 172 (ptr ⟨b,0,none⟩)] B [Zar b [.slice q xs.length cp] 173,l] (fun v B' Ls=>B'=B∧v = .iface 3 (.int .i64 (hat xs 0))∧∃ys l',Ls=[Zar b [.slice q ys.length cp] 173,l']∧ZY B l' q cp 3 1 Zb7 ys∧(hat xs 0 :: ys).Perm xs∧ZdQ ys):=by
 refine cB 15 Tryz.func128 (h:=?_)
 refine Za (xA (h:=Za (xM (h:=Zo (ZfR 1 rfl rfl rfl ZwG rfl rfl (ZbE ZlY Tryz.underlying172 ZfH (atL 0 rfl rfl rfl)) (ZaE.borrow fun hm1=>Zq4 _ _ _ _) (Zo (ZjF (r:=((xs.length - 1:Nat):Int)) rfl rfl rfl rfl ((congrArg _ (show _=((xs.length - 1:Nat):Int) from by omega)).trans (Za4 oz oz)) ?_)))))))
 refine xA (h:=Za (xM (h:=xM (h:=Zo (Zhp [1] rfl rfl rfl rfl Zrx rfl rfl (ZbE Zek Tryz.underlying172 ZfH (atL 0 rfl rfl rfl)) (ZgF _ _ _ _ _ _ _ _ (Zbc oz) (Zbc oz) oz _ hv) ?_)))))
 rintro _ Bs _ hles ⟨rfl,ls,rfl,hvs⟩
 refine tL2 ?_
 obtain ⟨zs,hzs,hzl⟩ :∃zs,zs=swp xs 0 (xs.length - 1)∧zs.length=xs.length:=⟨_,rfl,ZdC _ _ _⟩
 have hzz:=hvs
 change ZY _ _ _ _ _ _ _ (swp xs 0 (xs.length - 1)) at hzz
 rw [← hzs] at hzz
 have hdb:Zfq zs (zs.length - 1) 0:=by rw [hzl,hzs];exact Zus hh hm0
 have hlz:hat zs (zs.length - 1)=hat xs 0:=by rw [hzl,hzs];exact Zsk hm0
 have hpz:zs.Perm xs:=hzs ▸ Zgr hm0 oz
 rw [← hzl]
 refine Za (xM (h:=xM (h:=xK [0,1] rfl Zym rfl (Zpu _ _ _ _ _ _ oz oz oz hdb _ hzz) (h:=?_))))
 rintro _ Bd _ hled ⟨rfl,ysd,ld,rfl,hvd,hpd,hhd,hsd⟩
 refine tL2 ?_
 have hdl:=hpd.length_eq
 refine Za (xM (h:=Zo (Zhp [0,1] rfl rfl rfl rfl Zx2 rfl rfl (Zmn ZqM Tryz.underlying172) (ZuQ _ _ _ _ _ _ (Zbc oz) oz _ hvd) ?_)))
 rintro _ Bo _ hleo ⟨rfl,rfl,rfl,hvo⟩
 refine xA (h:=tL2 (Zd ?_))
 have hz9:hat ysd (ysd.length - 1)=hat xs 0:=by rw [hsd _ oz,hdl];exact hlz
 exact Zav .ret (.inl rfl) [_] [0,1] rfl ⟨rfl,trivial⟩ ⟨rfl,by rw [hz9];rfl,_,_,by rw [show (ysd.take (ysd.length - 1)).length=ysd.length - 1 from by simp],hvo,Zsx (by omega) (hpd.trans hpz) hz9,Zpt (by rw [hdl];exact hhd) (by omega)⟩

theorem Zns (q:Option Addr) (cp:Nat) (xs:List DItem) (last:Int) (B:Kn) (ha:SlK B q cp 4 Zy xs):ZaE (pj J) 95 [.slice q xs.length cp,.int .i64 last] B (.bool (asc 0 last (xs.map (·.id)))):=by
 refine cB 53 Tryz.func95 (h:=?_)
 have hxn:=ha.len
 refine Za (xA (h:=Za (xBs [] [] Tryz.underlying110 sz3 zo3 (h:=fun b1=>xBx [_] (h:=fun b2=>xA (h:=tL2 (Zf (Za (xM (h:=xV Tryz.underlying25 (h:=xM (h:=Zl (ZM (α:=Gh Int) [0,1,4,5,14,15] (fun g=>[(16,.int .i64 g.k)]) [0,1] (fun g=>[g.l,Zar b2 [.slice g.a g.xs.length g.c] 173]) (fun g Bx=>Bx=B∧g.k≤xs.length∧g.xs.Perm ((xs.take g.k).map (·.id))∧ZdQ g.xs∧ZY Bx g.l g.a g.c 3 1 Zb7 g.xs) (fun g=>xs.length - g.k) ⟨0,0,_,_,_,[]⟩ t1 rfl (⟨rfl,Nat.zero_le _,.refl _,Zs0,.lit0⟩) (fun g B3 hle3 hI=>?_))))))))))))))
 obtain ⟨rfl,hk,hp,hh,hv⟩:=hI
 have hpl:=hp.length_eq
 rw [List.length_map,List.length_take] at hpl
 refine ZL [(0,_),(1,_),(4,_),(5,_),(14,_),(15,_),(16,_)] [_,_] t7 rfl (Za (Z9 (h:=Zf (Zb rfl (fun g1=>?_) (fun g1=>?_)))))
 try simp only [sQ,ne_eq] at g1
 refine wSk (Zf (Zl (Za ?_)))
 obtain ⟨x,hx⟩:=Zaf (xs:=xs) (i:=g.k) om
 obtain ⟨bb5,oo5,rfl⟩:=ha.base hx
 obtain ⟨_,⟨qi6,ci6,rfl,hi6,hb6,hb6b⟩,hc6⟩:=ha.elem hx
 have hi6n:=hi6.len
 refine xIx Tryz.underlying25 Zbd (h:=yL [_,_,_,_] ZdF hc6 0 (h:=xAl [_,_,_,_] ZcN (h:=fun b7=>xS [_,_,_,_] 2 [_,_,_,_] Zbd (h:=tL3 (Zc (xM (h:=Zo (Zex rfl rfl Tryz.underlying172 rfl rfl (xW ZcY (h:=x1 lk3 2 (h:=Zo (Zex rfl rfl Tryz.underlying3 rfl rfl (xK [1,0] rfl Zyz rfl (Zps _ _ _ _ _ _ oz hh _ hv) (h:=?_))))))))))))))
 rintro _ Bp _ hlep ⟨rfl,qp,cp,ysp,lp,rfl,hvp,hpp,hhp⟩
 refine Zx (Zj (Zc (xD (h:=xM (h:=?_)))))
 exact ZB ⟨g.k+1,0,lp,_,_,ysp⟩ [0,1] so2 ⟨rfl,so,by simp only [];rw [Zas hx,List.map_append];exact hpp.trans (hp.append_right _),hhp,hvp⟩ t7 rfl
 try simp only [sQ,ne_eq] at g1
 have hxe:xs.take g.k=xs:=List.take_of_length_le oz
 rw [hxe] at hp
 refine ZT (Zaa (ZW (ZG (Zj (Za (xA (h:=Zf (Za (xM (h:=xV Tryz.underlying25 (h:=xM (h:=Zl (ZM (α:=Gh2 Int Int) [0,1,5,14,15,16,17,27,28] (fun h=>[(8,.int .i64 h.e),(29,.int .i64 h.k)]) [0,1] (fun h=>[h.l,Zar b2 [.slice h.a h.xs.length h.c] 173]) (fun h Bx=>Bx=B3∧h.k≤xs.length∧h.xs.Perm ((xs.drop h.k).map (·.id))∧ZdQ h.xs∧asc 0 last (xs.map (·.id))=asc h.e last ((xs.drop h.k).map (·.id))∧ZY Bx h.l h.a h.c 3 1 Zb7 h.xs) (fun h=>xs.length - h.k) ⟨0,0,g.l,g.a,g.c,g.xs,0⟩ t2 rfl (⟨rfl,Nat.zero_le _,hp,hh,rfl,hv⟩) (fun h B9 hle9 hI=>?_))))))))))))))
 clear hv hp hpl hh
 obtain ⟨rfl,hk,hp,hh,hs,hv⟩:=hI
 have hpl:=hp.length_eq
 rw [List.length_map,List.length_drop] at hpl
 refine ZL [(0,_),(1,_),(5,_),(8,_),(14,_),(15,_),(16,_),(17,_),(27,_),(28,_),(29,_)] [_,_] t11 rfl (Za (Z9 (h:=Zf (Zb rfl (fun g2=>?_) (fun g2=>?_)))))
 try simp only [sQ,ne_eq] at g2
 refine wSk (Zf (Zl (Za ?_)))
 obtain ⟨x,hx⟩:=Zaf (xs:=xs) (i:=h.k) om
 obtain ⟨bb11,oo11,rfl⟩:=ha.base hx
 obtain ⟨_,⟨qi12,ci12,rfl,hi12,hb12,hb12b⟩,hc12⟩:=ha.elem hx
 have hi12n:=hi12.len
 refine xIx Tryz.underlying25 Zbd (h:=?_)
 rw [Zlc hx,List.map_cons] at hp hs
 refine yL [_,_,_,_] ZdF hc12 0 (h:=xAl [_,_,_,_] ZcN (h:=fun b13=>xS [_,_,_,_] 2 [_,_,_,_] Zbd (h:=tL3 (Za (xM (h:=Zo (Zex rfl rfl Tryz.underlying172 rfl rfl (xK [1,0] rfl Zyy rfl (Zq8 _ _ _ _ _ oz oz hh _ hv) (h:=?_)))))))))
 rintro _ Bo _ hleo ⟨rfl,rfl,yso,lo,rfl,hvo,hpo,hho⟩
 refine Zo (Zlv rfl rfl Tryz.underlying3 rfl rfl (xA (h:=tL3 (Zf (Za (xM (h:=xW ZcY (h:=x1 lk3 2 (h:=Zbo (h:=xM (h:=Zp (d:=41) rfl (fun g3=>?_) (fun g3=>?_))))))))))))
 try simp only [sQ,ne_eq] at g3
 refine xP (h:=xP (h:=xP (h:=xT (h:=xM (h:=xP (h:=xP (h:=xP (h:=xT (h:=Zb (t:=true) rfl (fun _=>Za (xA (h:=Zd (Zn (ZE (Zn (Z3 (ZE (Zn ?_))))))))) (fun h=>Bool.noConfusion h))))))))))
 exact eR t1 ⟨Zg (by rw [hs];exact Ztv hp hh (by simpa using g3)),rfl,rfl⟩
 try simp only [sQ,ne_eq] at g3
 refine xM (h:=xM (h:=ZcP (h:=xF (h:=xM (h:=Zp (d:=46) rfl (fun g4=>?_) (fun g4=>?_))))))
 try simp only [sQ,ne_eq] at g4
 refine xP (h:=xP (h:=xP (h:=xT (h:=Zb (t:=true) rfl (fun _=>Za (xA (h:=Zd (Zn (ZE (Zn (Z3 (ZE (Zn ?_))))))))) (fun h=>Bool.noConfusion h)))))
 exact eR t1 ⟨Zg (by rw [hs];exact Ztu (by rw [← g3];simpa using g4)),rfl,rfl⟩
 try simp only [sQ,ne_eq] at g4
 refine xM (h:=xM (h:=Zbv (h:=xF (h:=Zb rfl (fun g5=>?_) (fun g5=>?_)))))
 try simp only [sQ,ne_eq] at g5
 refine Za (xA (h:=Zd (Zn (ZE (Zn (Z3 (ZE (Zn ?_))))))))
 exact eR t1 ⟨Zg (by rw [hs];exact Ztt (by rw [← g3];simpa using g5)),rfl,rfl⟩
 try simp only [sQ,ne_eq] at g5
 refine wSk (Zc (xM (h:=xA (h:=Zx (Zj (Zc (xD (h:=xM (h:=?_)))))))))
 exact ZB ⟨h.k+1,0,lo,_,_,yso,hat h.xs 0⟩ [0,1] so2 ⟨rfl,so,List.Perm.cons_inv ((show (x.id :: yso).Perm (hat h.xs 0 :: yso) from by rw [g3]).trans (hpo.trans hp)),hho,by simp only [];rw [hs,g3];exact ZwU (by rw [← g3];simpa using g4) (by rw [← g3];simpa using g5),hvo⟩ t11 rfl
 try simp only [sQ,ne_eq] at g2
 rw [ZrB oz,List.map_nil,asc] at hs
 refine ZT (Zaa (ZW (ZG (Zj (Za (xA (h:=Zd ?_)))))))
 exact eR t1 ⟨Zg hs.symm,rfl,rfl⟩

theorem Znr (aq:Option Addr) (cq:Nat) (q:DQueue) (B:Kn) (hq:SlK B aq cq 4 Zy q.items):ZaE (pj J) 58 [.agg #[.int .i64 q.next,.slice aq q.items.length cq]] B (.bool (Zab q)):=by
 refine cB 42 Tryz.func58 (h:=?_)
 have hqn:=hq.len
 refine Za (xBx [_,_] (h:=fun b1=>xA (h:=tL1 (Zf (Za (xW Zaq (h:=x1 Zev 0 (h:=xV Tryz.underlying25 (h:=Zbv (h:=xM (h:=Zp (d:=9) rfl (fun g1=>?_) (fun g1=>?_))))))))))))
 try simp only [sQ,ne_eq] at g1
 refine xP (h:=xP (h:=xP (h:=xT (h:=xM (h:=xP (h:=xP (h:=xP (h:=xT (h:=Zb (t:=true) rfl (fun _=>Za (xA (h:=Zd (Zn ?_)))) (fun h=>Bool.noConfusion h))))))))))
 exact eR t1 ⟨Zg (ZgW oz),rfl,rfl⟩
 try simp only [sQ,ne_eq] at g1
 refine xW Zd3 (h:=x1 lk3 0 (h:=Z9 (h:=xF (h:=xM (h:=Zp (d:=14) rfl (fun g2=>?_) (fun g2=>?_))))))
 try simp only [sQ,ne_eq] at g2
 refine xP (h:=xP (h:=xP (h:=xT (h:=Zb (t:=true) rfl (fun _=>Za (xA (h:=Zd (Zn ?_)))) (fun h=>Bool.noConfusion h)))))
 exact eR t1 ⟨Zg (ZgW oz),rfl,rfl⟩
 try simp only [sQ,ne_eq] at g2
 refine xW Zd3 (h:=x1 lk3 0 (h:=Zbv (h:=xF (h:=Zb rfl (fun g3=>?_) (fun g3=>?_)))))
 try simp only [sQ,ne_eq] at g3
 refine Za (xA (h:=Zd (Zn ?_)))
 exact eR t1 ⟨Zg (ZgW oz),rfl,rfl⟩
 try simp only [sQ,ne_eq] at g3
 refine wSk (Zf (Za (xW Zaq (h:=x1 Zev 0 (h:=xV Tryz.underlying25 (h:=xM (h:=Zl (ZM (α:=Nat) [0,1,18,20,21] (fun k=>[(22,.int .i64 k)]) [] (fun k=>[]) (fun k Bx=>Bx=B∧k≤q.items.length∧(q.items.take k).all ZcH=true) (fun k=>q.items.length - k) 0 t1 rfl (⟨rfl,Nat.zero_le _,by simp⟩) (fun k B2 hle2 hI=>?_)))))))))
 obtain ⟨rfl,hk,ha⟩:=hI
 refine ZL [(0,_),(1,_),(18,_),(20,_),(21,_),(22,_)] [_] t6 rfl (Za (Z9 (h:=Zf (Zb rfl (fun g4=>?_) (fun g4=>?_)))))
 try simp only [sQ,ne_eq] at g4
 refine wSk (Zf (Zl (Za ?_)))
 obtain ⟨x,hx⟩:=Zaf (xs:=q.items) (i:=k) om
 obtain ⟨bb4,oo4,rfl⟩:=hq.base hx
 obtain ⟨_,⟨qi5,ci5,rfl,hi5,hb5,hb5b⟩,hc5⟩:=hq.elem hx
 have hi5n:=hi5.len
 refine xIx Tryz.underlying25 Zbd (h:=yL [_,_,_,_] ZdF hc5 0 (h:=xAl [_,_,_,_] ZcN (h:=fun b6=>xS [_,_,_,_] 1 [_,_,_,_] Zbd (h:=tL2 (Za (xW Zg8 (h:=x1 lk9 1 (h:=xW ZaI (h:=x1 ZcW 1 (h:=xW Zjd (h:=x1 lk9 1 (h:=xB [(0,_),(1,_),(2,_)] [_,_,_] [_,_,_] Zsz ZoF (h:=xR Zzr rfl (Zmb _ _ ⟨x.fr,x.left,x.text⟩ _ hi5 oa oa) (h:=?_))))))))))))))
 refine xN (h:=Zb rfl (fun g5=>?_) (fun g5=>?_))
 try simp only [sQ,ne_eq] at g5
 refine Za (xA (h:=Zd (ZE (Zn (Z3 (ZE (Zn ?_)))))))
 exact eR t1 ⟨Zg (Zna hx g5),rfl,rfl⟩
 try simp only [sQ,ne_eq] at g5
 refine ZJ (Zx (Zj (Zc (xD (h:=xM (h:=?_))))))
 exact ZB (k+1) [0] so2 ⟨rfl,oz,ZwW hx g5 ha⟩ t6 rfl
 try simp only [sQ,ne_eq] at g4
 refine ZT (Zaa (ZW (ZG (Zj (Za (xW Zaq (h:=x1 Zev 0 (h:=xW Zd3 (h:=x1 lk3 0 (h:=xU (h:=xR Zzq rfl (Zns _ _ _ _ _ hq) (h:=xA (h:=Zd ?_)))))))))))))
 exact eR t1 ⟨Zg (Zm9 oz ha oz oz oz),rfl,rfl⟩

theorem Zfb (n:Int) (B:Kn):ZaE (pj J) 35 [.int .i64 n] B (.bool (decide (0≤n) && decide (n≤31))):=by
 refine cB 5 Tryz.func35 (h:=?_)
 refine Za (xA (h:=Za (xM (h:=xR Zkp rfl (Zcr _ _ _ _) (h:=xA (h:=Zd ?_))))))
 exact eR t1 ⟨rfl,rfl,rfl⟩

theorem Zf6 (n:Int) (B:Kn):ZaE (pj J) 30 [.int .i64 n] B (.bool (decide (0≤n) && decide (n≤31))):=by
 refine cB 9 Tryz.func30 (h:=?_)
 refine Za (xA (h:=Za (xM (h:=Zd6 (h:=xM (h:=Zp (d:=5) rfl (fun g1=>?_) (fun g1=>?_)))))))
 refine xM (h:=ZcP (h:=xT (h:=xA (h:=Zd ?_))))
 exact eR t1 ⟨Zg (by rw [Bool.eq_iff_iff];simp [g1];try omega),rfl,rfl⟩
 refine xP (h:=xP (h:=xF (h:=xA (h:=Zd ?_))))
 exact eR t1 ⟨Zg (by rw [Bool.eq_iff_iff];simp [g1];try omega),rfl,rfl⟩

theorem ZqY (m:DMail) (hm:m.text.length≤2000000) (B:Kn):ZaE (pj J) 163 [.agg #[.int .i64 m.uid,.int .i64 m.flags,str m.text]] B (.bool (ZbD m)):=by
 refine cB 17 Tryz.func163 (h:=?_)
 refine Za (xBx [_,_,_] (h:=fun b1=>xA (h:=tL1 (Za (xW ZhG (h:=x1 lk3 0 (h:=xR Zkp rfl (Zcr _ _ _ _) (h:=xM (h:=Zp (d:=6) rfl (fun g1=>?_) (fun g1=>?_))))))))))
 refine xW Zi6 (h:=x1 lk3 0 (h:=xR ZwF rfl (Zfb _ _) (h:=xT (h:=xM (h:=Zp (d:=11) rfl (fun g2=>?_) (fun g2=>?_))))))
 refine xW Zmo (h:=x1 lk9 0 (h:=xVs Tryz.underlying9 (h:=ZcP (h:=xT (h:=xA (h:=Zd ?_))))))
 exact eR t1 ⟨Zg (by rw [Bool.eq_iff_iff];simp [ZbD,g1,g2];try omega),rfl,rfl⟩
 refine xP (h:=xP (h:=xP (h:=xP (h:=xF (h:=xA (h:=Zd ?_))))))
 exact eR t1 ⟨Zg (by rw [Bool.eq_iff_iff];simp [ZbD,g1,g2];try omega),rfl,rfl⟩
 refine xP (h:=xP (h:=xP (h:=xF (h:=xM (h:=xP (h:=xP (h:=xP (h:=xP (h:=xF (h:=xA (h:=Zd ?_)))))))))))
 exact eR t1 ⟨Zg (by rw [Bool.eq_iff_iff];simp [ZbD,g1];try omega),rfl,rfl⟩

theorem Zpl (m:DMail) (hm:m.text.length≤2000000) (B:Kn):ZaE (pj J) 89 [.agg #[.int .i64 m.uid,.int .i64 m.flags,str m.text]] B (.bool (ZbD m)):=by
 refine cB 22 Tryz.func89 (h:=?_)
 refine Za (xBx [_,_,_] (h:=fun b1=>xA (h:=tL1 (Za (xW ZhG (h:=x1 lk3 0 (h:=Zd6 (h:=xM (h:=Zp (d:=6) rfl (fun g1=>?_) (fun g1=>?_))))))))))
 refine xW ZhG (h:=x1 lk3 0 (h:=ZcP (h:=xT (h:=xM (h:=Zp (d:=11) rfl (fun g2=>?_) (fun g2=>?_))))))
 refine xW Zi6 (h:=x1 lk3 0 (h:=xR ZxZ rfl (Zf6 _ _) (h:=xT (h:=xM (h:=Zp (d:=16) rfl (fun g3=>?_) (fun g3=>?_))))))
 refine xW Zmo (h:=x1 lk9 0 (h:=xVs Tryz.underlying9 (h:=ZcP (h:=xT (h:=xA (h:=Zd ?_))))))
 exact eR t1 ⟨Zg (by rw [Bool.eq_iff_iff];simp [ZbD,g1,g2,g3];try omega),rfl,rfl⟩
 refine xP (h:=xP (h:=xP (h:=xP (h:=xF (h:=xA (h:=Zd ?_))))))
 exact eR t1 ⟨Zg (by rw [Bool.eq_iff_iff];simp [ZbD,g1,g2,g3];try omega),rfl,rfl⟩
 refine xP (h:=xP (h:=xP (h:=xF (h:=xM (h:=xP (h:=xP (h:=xP (h:=xP (h:=xF (h:=xA (h:=Zd ?_)))))))))))
 exact eR t1 ⟨Zg (by rw [Bool.eq_iff_iff];simp [ZbD,g1,g2];try omega),rfl,rfl⟩
 refine xP (h:=xP (h:=xP (h:=xF (h:=xM (h:=xP (h:=xP (h:=xP (h:=xF (h:=xM (h:=xP (h:=xP (h:=xP (h:=xP (h:=xF (h:=xA (h:=Zd ?_))))))))))))))))
 exact eR t1 ⟨Zg (by rw [Bool.eq_iff_iff];simp [ZbD,g1];try omega),rfl,rfl⟩

theorem Zgu (q:Option Addr) (cp:Nat) (x:DBox) (B:Kn) (hx:SlK B q cp 3 ZO x.mail):ZaE (pj J) 120 [.agg #[.int .i64 x.next,.slice q x.mail.length cp]] B (.bool (Zbg x)):=by
 refine cB 46 Tryz.func120 (h:=?_)
 have hxn:=hx.len
 refine Za (xBx [_,_] (h:=fun b1=>xA (h:=tL1 (Za (xA (h:=Zf (Za (xA (h:=Zl (ZM (α:=Nat × Int) [0,1] (fun g=>[(3,.int .i64 g.2),(4,.int .i64 g.1)]) [] (fun g=>[]) (fun g Bx=>Bx=B∧g.1≤x.mail.length∧Zci (x.mail.take g.1)=(true,g.2)∧0≤g.2∧g.2≤99) (fun g=>x.mail.length - g.1) (0,0) t2 rfl (⟨rfl,Nat.zero_le _,Ze4,oz,oz⟩) (fun g B2 hle2 hI=>?_)))))))))))
 obtain ⟨rfl,hk,hs,hl0,hl1⟩:=hI
 refine ZL [(0,_),(1,_),(3,_),(4,_)] [_] t4 rfl (Zf (Za (xM (h:=xW ZaL (h:=x1 Zfw 0 (h:=xV Tryz.underlying36 (h:=Z9 (h:=Zb rfl (fun g1=>?_) (fun g1=>?_)))))))))
 try simp only [sQ,ne_eq] at g1
 refine wSk (Zf (Zl (Zf (Za (xW ZaL (h:=x1 Zfw 0 (h:=xM (h:=?_))))))))
 obtain ⟨m,hm⟩:=Zaf (xs:=x.mail) (i:=g.1) om
 obtain ⟨bb4,oo4,rfl⟩:=hx.base hm
 obtain ⟨_,⟨rfl,hb5⟩,hc5⟩:=hx.elem hm
 refine xIx Tryz.underlying36 Zgj (h:=yL [_,_,_] Zpb hc5 0 (h:=xR Zyp rfl (ZqY m om2 _) (h:=?_)))
 refine xN (h:=xM (h:=Zp (d:=19) rfl (fun g2=>?_) (fun g2=>?_)))
 try simp only [sQ,ne_eq] at g2
 refine xP (h:=xP (h:=xP (h:=xP (h:=xP (h:=xP (h:=xP (h:=xP (h:=xT (h:=Zb (t:=true) rfl (fun _=>Za (xA (h:=Zd (Zn (ZE (Zn (Z3 (ZE (Zn ?_))))))))) (fun h=>Bool.noConfusion h))))))))))
 exact eR t1 ⟨Zg (ZgL (Zf1 hm (by rw [show (scn ZbP (fun _ m=>m.uid) 0 (x.mail.take g.1)).2=g.2 from congrArg Prod.snd hs];simp [ZbP,g2]))).symm,rfl,rfl⟩
 try simp only [sQ,ne_eq] at g2
 refine xW ZaL (h:=x1 Zfw 0 (h:=xM (h:=xIx Tryz.underlying36 Zgj (h:=xW ZhG (h:=y1 lk3 hc5 0 (h:=xM (h:=ZcP (h:=xF (h:=Zb rfl (fun g3=>?_) (fun g3=>?_))))))))))
 try simp only [sQ,ne_eq] at g3
 refine Za (xA (h:=Zd (Zn (ZE (Zn (Z3 (ZE (Zn ?_))))))))
 exact eR t1 ⟨Zg (ZgL (Zf1 hm (by rw [show (scn ZbP (fun _ m=>m.uid) 0 (x.mail.take g.1)).2=g.2 from congrArg Prod.snd hs];simp [ZbP,g2];omega))).symm,rfl,rfl⟩
 try simp only [sQ,ne_eq] at g3
 refine wSk (Zc (xW ZaL (h:=x1 Zfw 0 (h:=xM (h:=xIx Tryz.underlying36 Zgj (h:=xW ZhG (h:=y1 lk3 hc5 0 (h:=xA (h:=Zx (Zj (Zc (xM (h:=xD (h:=xA (h:=?_)))))))))))))))
 exact ZB (g.1+1,m.uid) [0] so2 ⟨rfl,oz,Zch hm hs (by simp [ZbP,g2];omega),Zkb g2⟩ t4 rfl
 try simp only [sQ,ne_eq] at g1
 refine ZT (Zaa (ZW (ZG (Zj (Za (xW ZbX (h:=x1 lk3 0 (h:=xM (h:=xD (h:=xR Zkp rfl (Zcr _ _ _ _) (h:=xM (h:=Zp (d:=40) rfl (fun g4=>?_) (fun g4=>?_)))))))))))))
 try simp only [sQ,ne_eq] at g4
 refine xW ZaL (h:=x1 Zfw 0 (h:=xV Tryz.underlying36 (h:=ZcP (h:=xT (h:=xA (h:=Zd ?_))))))
 exact eR t1 ⟨Zg (by rw [ZdM (Zea hs oz),g4,Bool.true_and,Bool.eq_iff_iff];simp;omega),rfl,rfl⟩
 try simp only [sQ,ne_eq] at g4
 refine xP (h:=xP (h:=xP (h:=xP (h:=xF (h:=xA (h:=Zd ?_))))))
 exact eR t1 ⟨Zg (by rw [ZdM (Zea hs oz),g4,Bool.false_and]),rfl,rfl⟩

theorem ZiV (q:Option Addr) (cp:Nat) (x:DBox) (B:Kn) (hx:SlK B q cp 3 ZO x.mail):ZaE (pj J) 45 [.agg #[.int .i64 x.next,.slice q x.mail.length cp]] B (.bool (Zbg x)):=by
 refine cB 38 Tryz.func45 (h:=?_)
 have hxn:=hx.len
 refine Za (xBx [_,_] (h:=fun b1=>xA (h:=tL1 (Zf (Za (xW ZaL (h:=x1 Zfw 0 (h:=xV Tryz.underlying36 (h:=Zbv (h:=Zb rfl (fun g0=>?_) (fun g0=>?_)))))))))))
 try simp only [sQ,ne_eq] at g0
 refine Za (xA (h:=Zd (Zn ?_)))
 exact eR t1 ⟨Zg (by simp [Zbg];omega),rfl,rfl⟩
 try simp only [sQ,ne_eq] at g0
 refine wSk (Za (xA (h:=Zf (Za (xW ZaL (h:=x1 Zfw 0 (h:=xV Tryz.underlying36 (h:=xM (h:=Zl (ZM (α:=Nat × Int) [0,1,9,11,12] (fun g=>[(3,.int .i64 g.2),(13,.int .i64 g.1)]) [] (fun g=>[]) (fun g Bx=>Bx=B∧g.1≤x.mail.length∧Zci (x.mail.take g.1)=(true,g.2)∧0≤g.2∧g.2≤99) (fun g=>x.mail.length - g.1) (0,0) t2 rfl (⟨rfl,Nat.zero_le _,Ze4,oz,oz⟩) (fun g B2 hle2 hI=>?_)))))))))))
 obtain ⟨rfl,hk,hs,hl0,hl1⟩:=hI
 refine ZL [(0,_),(1,_),(3,_),(9,_),(11,_),(12,_),(13,_)] [_] t7 rfl (Za (Z9 (h:=Zf (Zb rfl (fun g1=>?_) (fun g1=>?_)))))
 try simp only [sQ,ne_eq] at g1
 refine wSk (Zf (Zl (Za ?_)))
 obtain ⟨m,hm⟩:=Zaf (xs:=x.mail) (i:=g.1) om
 obtain ⟨bb4,oo4,rfl⟩:=hx.base hm
 obtain ⟨_,⟨rfl,hb5⟩,hc5⟩:=hx.elem hm
 refine xIx Tryz.underlying36 Zgj (h:=yL [_,_,_] Zpb hc5 0 (h:=xAl [_,_,_] Zln (h:=fun b6=>xS [_,_,_] 1 [_,_,_] Zgj (h:=tL2 (Zf (Za (xL [_,_,_] Zpb 1 (h:=xR Zzv rfl (Zpl m om2 _) (h:=?_)))))))))
 refine xN (h:=xM (h:=Zp (d:=20) rfl (fun g2=>?_) (fun g2=>?_)))
 try simp only [sQ,ne_eq] at g2
 refine xP (h:=xP (h:=xP (h:=xP (h:=xT (h:=Zb (t:=true) rfl (fun _=>Za (xA (h:=Zd (Zn (ZE (Zn (Z3 (ZE (Zn ?_))))))))) (fun h=>Bool.noConfusion h))))))
 exact eR t1 ⟨Zg (ZgL (Zf1 hm (by rw [show (scn ZbP (fun _ m=>m.uid) 0 (x.mail.take g.1)).2=g.2 from congrArg Prod.snd hs];simp [ZbP,g2]))).symm,rfl,rfl⟩
 try simp only [sQ,ne_eq] at g2
 refine xW ZhG (h:=x1 lk3 1 (h:=xM (h:=ZcP (h:=xF (h:=Zb rfl (fun g3=>?_) (fun g3=>?_))))))
 try simp only [sQ,ne_eq] at g3
 refine Za (xA (h:=Zd (Zn (ZE (Zn (Z3 (ZE (Zn ?_))))))))
 exact eR t1 ⟨Zg (ZgL (Zf1 hm (by rw [show (scn ZbP (fun _ m=>m.uid) 0 (x.mail.take g.1)).2=g.2 from congrArg Prod.snd hs];simp [ZbP,g2];omega))).symm,rfl,rfl⟩
 try simp only [sQ,ne_eq] at g3
 refine wSk (Zc (xW ZhG (h:=x1 lk3 1 (h:=xA (h:=Zx (Zj (Zc (xD (h:=xM (h:=?_))))))))))
 exact ZB (g.1+1,m.uid) [0] so2 ⟨rfl,oz,Zch hm hs (by simp [ZbP,g2];omega),Zkb g2⟩ t7 rfl
 try simp only [sQ,ne_eq] at g1
 refine ZT (Zaa (ZW (ZG (Zj (Za (xW ZbX (h:=x1 lk3 0 (h:=xM (h:=Zbv (h:=xM (h:=Zp (d:=33) rfl (fun g4=>?_) (fun g4=>?_))))))))))))
 try simp only [sQ,ne_eq] at g4
 refine xW ZbX (h:=x1 lk3 0 (h:=ZcP (h:=xT (h:=xA (h:=Zd ?_)))))
 exact eR t1 ⟨Zg (by rw [ZdM (Zea hs oz),Bool.eq_iff_iff];simp;omega),rfl,rfl⟩
 try simp only [sQ,ne_eq] at g4
 refine xP (h:=xP (h:=xP (h:=xF (h:=xA (h:=Zd ?_)))))
 exact eR t1 ⟨Zg (by rw [ZdM (Zea hs oz),Bool.eq_iff_iff];simp;omega),rfl,rfl⟩

theorem ZqX (q:Option Addr) (cp:Nat) (x:DBox) (B:Kn) (hx:SlK B q cp 3 ZO x.mail):ZaE (pj J) 122 [.agg #[.int .i64 x.next,.slice q x.mail.length cp]] B (.int .i64 (Zad x.mail)):=by
 refine cB 22 Tryz.func122 (h:=?_)
 have hxn:=hx.len
 refine Za (xBx [_,_] (h:=fun b1=>xA (h:=tL1 (Za (xA (h:=Zf (Za (xA (h:=Zl (ZM (α:=Nat × Nat) [0,1,2] (fun g=>[(3,.int .i64 g.2),(4,.int .i64 g.1)]) [] (fun g=>[]) (fun g Bx=>Bx=B∧g.1≤x.mail.length∧g.2=Zad (x.mail.take g.1)∧g.2≤g.1*2000000) (fun g=>x.mail.length - g.1) (0,0) t2 rfl (⟨rfl,Nat.zero_le _,by simp [Zad],oz⟩) (fun g B2 hle2 hI=>?_)))))))))))
 obtain ⟨rfl,hk,hs,hl⟩:=hI
 refine ZL [(0,_),(1,_),(2,_),(3,_),(4,_)] [_] t5 rfl (Zf (Za (xM (h:=xW ZaL (h:=x1 Zfw 0 (h:=xV Tryz.underlying36 (h:=Z9 (h:=Zb rfl (fun g1=>?_) (fun g1=>?_)))))))))
 try simp only [sQ,ne_eq] at g1
 refine wSk (Zf (Zl (Zc (xM (h:=xW ZaL (h:=x1 Zfw 0 (h:=xM (h:=?_))))))))
 obtain ⟨m,hm⟩:=Zaf (xs:=x.mail) (i:=g.1) om
 obtain ⟨bb4,oo4,rfl⟩:=hx.base hm
 obtain ⟨_,⟨rfl,hb5⟩,hc5⟩:=hx.elem hm
 refine xIx Tryz.underlying36 Zgj (h:=xW Zmo (h:=y1 lk9 hc5 2 (h:=xVs Tryz.underlying9 (h:=xD (h:=xA (h:=Zx (Zj (Zc (xM (h:=xD (h:=xA (h:=?_))))))))))))
 exact ZB (g.1+1,g.2+m.text.length) [0] so2 ⟨rfl,oz,by rw [Ziw hm,← hs],oz⟩ t5 rfl
 try simp only [sQ,ne_eq] at g1
 refine ZT (Zaa (ZW (ZG (Zj (Za (xM (h:=xA (h:=Zd ?_))))))))
 exact eR t1 ⟨ZaA (by rw [← Zj1 hs oz]),rfl,rfl⟩

theorem ZrM (q:Option Addr) (cp:Nat) (x:DBox) (B:Kn) (hx:SlK B q cp 3 ZO x.mail):ZaE (pj J) 91 [.agg #[.int .i64 x.next,.slice q x.mail.length cp]] B (.int .i64 (Zee x)):=by
 refine cB 23 Tryz.func91 (h:=?_)
 have hxn:=hx.len
 refine Za (xBx [_,_] (h:=fun b1=>xA (h:=tL1 (Zf (Za (xL [_,_] Zbw 0 (h:=xR ZxY rfl (ZiV _ _ (⟨x.next,x.mail⟩:DBox) _ hx) (h:=xN (h:=Zb rfl (fun g0=>?_) (fun g0=>?_))))))))))
 try simp only [sQ,ne_eq] at g0
 refine Za (xA (h:=Zd (Zn ?_)))
 exact eR t1 ⟨ZaA (by simp [Zee,g0]),rfl,rfl⟩
 try simp only [sQ,ne_eq] at g0
 refine wSk (Za (xA (h:=Zf (Za (xW ZaL (h:=x1 Zfw 0 (h:=xV Tryz.underlying36 (h:=xM (h:=Zl (ZM (α:=Nat × Nat) [0,1,2,8,10,11] (fun g=>[(3,.int .i64 g.2),(12,.int .i64 g.1)]) [] (fun g=>[]) (fun g Bx=>Bx=B∧g.1≤x.mail.length∧g.2=Zad (x.mail.take g.1)∧g.2≤g.1*2000000) (fun g=>x.mail.length - g.1) (0,0) t2 rfl (⟨rfl,Nat.zero_le _,by simp [Zad],oz⟩) (fun g B3 hle3 hI=>?_)))))))))))
 obtain ⟨rfl,hk,hs,hl⟩:=hI
 refine ZL [(0,_),(1,_),(2,_),(3,_),(8,_),(10,_),(11,_),(12,_)] [_] t8 rfl (Za (Z9 (h:=Zf (Zb rfl (fun g1=>?_) (fun g1=>?_)))))
 try simp only [sQ,ne_eq] at g1
 refine wSk (Zf (Zl (Za ?_)))
 obtain ⟨m,hm⟩:=Zaf (xs:=x.mail) (i:=g.1) om
 obtain ⟨bb5,oo5,rfl⟩:=hx.base hm
 obtain ⟨_,⟨rfl,hb6⟩,hc6⟩:=hx.elem hm
 refine xIx Tryz.underlying36 Zgj (h:=yL [_,_,_] Zpb hc6 0 (h:=xAl [_,_,_] Zln (h:=fun b7=>xS [_,_,_] 1 [_,_,_] Zgj (h:=tL2 (Zc (xM (h:=xW Zmo (h:=x1 lk9 1 (h:=xVs Tryz.underlying9 (h:=xD (h:=xA (h:=Zx (Zj (Zc (xD (h:=xM (h:=?_)))))))))))))))))
 exact ZB (g.1+1,g.2+m.text.length) [0] so2 ⟨rfl,oz,by rw [Ziw hm,← hs],oz⟩ t8 rfl
 try simp only [sQ,ne_eq] at g1
 refine ZT (Zaa (ZW (ZG (Zj (Za (xM (h:=xA (h:=Zd ?_))))))))
 exact eR t1 ⟨ZaA (by rw [Zee,if_pos g0,← Zj1 hs oz]),rfl,rfl⟩

theorem Zsp (n:Int) (B:Kn):ZaE (pj J) 103 [.int .i64 n] B (.bool (decide (0≤n) && decide (n≤63))):=by
 refine cB 9 Tryz.func103 (h:=?_)
 refine Za (xA (h:=Za (xM (h:=Zd6 (h:=xM (h:=Zp (d:=5) rfl (fun g1=>?_) (fun g1=>?_)))))))
 refine xM (h:=ZcP (h:=xT (h:=xA (h:=Zd ?_))))
 exact eR t1 ⟨Zg (by rw [Bool.eq_iff_iff];simp [g1];try omega),rfl,rfl⟩
 refine xP (h:=xP (h:=xF (h:=xA (h:=Zd ?_))))
 exact eR t1 ⟨Zg (by rw [Bool.eq_iff_iff];simp [g1];try omega),rfl,rfl⟩

theorem ZmT (u:DUser) (h1:u.name.length≤2000000) (h2:u.pass.length≤2000000) (B:Kn):ZaE (pj J) 90 [.agg #[str u.name,str u.pass,.int .i64 u.quota]] B (.bool (ZcB u)):=by
 refine cB 26 Tryz.func90 (h:=?_)
 refine Za (xBx [_,_,_] (h:=fun b1=>xA (h:=tL1 (Za (xW Zdc (h:=x1 lk9 0 (h:=xR Zt1 rfl (Zcs _ om2 _) (h:=?_))))))))
 refine xM (h:=Zp (d:=6) rfl (fun g1=>?_) (fun g1=>?_))
 try simp only [sQ,ne_eq] at g1
 refine xW Zdc (h:=x1 lk9 0 (h:=Zhm (h:=xT (h:=xM (h:=Zp (d:=11) rfl (fun g2=>?_) (fun g2=>?_))))))
 try simp only [sQ,ne_eq] at g2
 refine xW Zrk (h:=x1 lk9 0 (h:=xR Zt1 rfl (Zcs _ om2 _) (h:=?_)))
 refine xT (h:=xM (h:=Zp (d:=16) rfl (fun g3=>?_) (fun g3=>?_)))
 try simp only [sQ,ne_eq] at g3
 refine xW ZhH (h:=x1 lk3 0 (h:=Zd6 (h:=xT (h:=xM (h:=Zp (d:=21) rfl (fun g4=>?_) (fun g4=>?_))))))
 try simp only [sQ,ne_eq] at g4
 refine xW ZhH (h:=x1 lk3 0 (h:=ZcP (h:=xT (h:=xA (h:=Zd ?_)))))
 exact eR t1 ⟨Zg (by rw [Bool.eq_iff_iff];simp [ZcB,anyone,g1,g2,g3,g4];try omega),rfl,rfl⟩
 try simp only [sQ,ne_eq] at g4
 refine xP (h:=xP (h:=xP (h:=xF (h:=xA (h:=Zd ?_)))))
 exact eR t1 ⟨Zg (by rw [Bool.eq_iff_iff];simp [ZcB,anyone,g1,g2,g3,g4];try omega),rfl,rfl⟩
 try simp only [sQ,ne_eq] at g3
 refine xP (h:=xP (h:=xP (h:=xF (h:=xM (h:=xP (h:=xP (h:=xP (h:=xF (h:=xA (h:=Zd ?_))))))))))
 exact eR t1 ⟨Zg (by rw [Bool.eq_iff_iff];simp [ZcB,anyone,g1,g2,g3];try omega),rfl,rfl⟩
 try simp only [sQ,ne_eq] at g2
 refine xP (h:=xP (h:=xP (h:=xF (h:=xM (h:=xP (h:=xP (h:=xP (h:=xF (h:=xM (h:=xP (h:=xP (h:=xP (h:=xF (h:=xA (h:=Zd ?_)))))))))))))))
 exact eR t1 ⟨Zg (by rw [Bool.eq_iff_iff];simp [ZcB,anyone,g1,g2];try omega),rfl,rfl⟩
 try simp only [sQ,ne_eq] at g1
 refine xP (h:=xP (h:=xP (h:=xF (h:=xM (h:=xP (h:=xP (h:=xP (h:=xF (h:=xM (h:=xP (h:=xP (h:=xP (h:=xF (h:=xM (h:=xP (h:=xP (h:=xP (h:=xF (h:=xA (h:=Zd ?_))))))))))))))))))))
 exact eR t1 ⟨Zg (by rw [Bool.eq_iff_iff];simp [ZcB,anyone,g1];try omega),rfl,rfl⟩

theorem ZiU (q:Option Addr) (cp:Nat) (us:List DUser) (B:Kn) (hu:SlK B q cp 3 Zu us):ZaE (pj J) 52 [.slice q us.length cp] B (.bool (Zap us)):=by
 refine cB 32 Tryz.func52 (h:=?_)
 have hun:=hu.len
 refine Za (xA (h:=Zf (Za (xM (h:=xV Tryz.underlying23 (h:=Z9 (h:=xM (h:=Zp (d:=9) rfl (fun g0=>?_) (fun g0=>?_)))))))))
 try simp only [sQ,ne_eq] at g0
 refine xP (h:=xP (h:=xP (h:=xT (h:=Zb (t:=true) rfl (fun _=>Za (xA (h:=Zd (Zn ?_)))) (fun h=>Bool.noConfusion h)))))
 exact eR t1 ⟨Zg (by rw [Bool.eq_iff_iff];simp [Zap];omega),rfl,rfl⟩
 try simp only [sQ,ne_eq] at g0
 refine xM (h:=xV Tryz.underlying23 (h:=Zbv (h:=xF (h:=Zb rfl (fun g0b=>?_) (fun g0b=>?_)))))
 try simp only [sQ,ne_eq] at g0b
 refine Za (xA (h:=Zd (Zn ?_)))
 exact eR t1 ⟨Zg (by rw [Bool.eq_iff_iff];simp [Zap];omega),rfl,rfl⟩
 try simp only [sQ,ne_eq] at g0b
 refine wSk (Za (xA (h:=Zf (Za (xM (h:=xV Tryz.underlying23 (h:=xM (h:=Zl (ZM (α:=Nat × Str) [0,13,14,15] (fun g=>[(3,str g.2),(16,.int .i64 g.1)]) [] (fun g=>[]) (fun g Bx=>Bx=B∧g.1≤us.length∧ZdV (us.take g.1)=(true,g.2)∧g.2.length≤2000000) (fun g=>us.length - g.1) (0,[]) t2 rfl (⟨rfl,Nat.zero_le _,Ze4,by simp⟩) (fun g B1 hle1 hI=>?_))))))))))
 obtain ⟨rfl,hk,hs,hl⟩:=hI
 refine ZL [(0,_),(3,_),(13,_),(14,_),(15,_),(16,_)] [] t6 rfl (Za (Z9 (h:=Zf (Zb rfl (fun g1=>?_) (fun g1=>?_)))))
 try simp only [sQ,ne_eq] at g1
 refine wSk (Zf (Zl (Za ?_)))
 obtain ⟨m,hm⟩:=Zaf (xs:=us) (i:=g.1) om
 obtain ⟨bb3,oo3,rfl⟩:=hu.base hm
 obtain ⟨_,⟨rfl,hb4,hb4b⟩,hc4⟩:=hu.elem hm
 refine xIx Tryz.underlying23 ZeC (h:=yL [_,_,_] Zoj hc4 0 (h:=xAl [_,_,_] Zgl (h:=fun b5=>xS [_,_,_] 0 [_,_,_] ZeC (h:=tL1 (Zf (Za (xL [_,_,_] Zoj 0 (h:=xR Zzu rfl (ZmT m om2 om2 _) (h:=?_)))))))))
 refine xN (h:=xM (h:=Zp (d:=23) rfl (fun g2=>?_) (fun g2=>?_)))
 try simp only [sQ,ne_eq] at g2
 refine xP (h:=xP (h:=xP (h:=xP (h:=xT (h:=Zb (t:=true) rfl (fun _=>Za (xA (h:=Zd (Zn (ZE (Zn (Z3 (ZE (Zn ?_))))))))) (fun h=>Bool.noConfusion h))))))
 exact eR t1 ⟨Zg (ZfT (Zf1 hm (by rw [show (scn ZdB (fun _ u=>u.name) [] (us.take g.1)).2=g.2 from congrArg Prod.snd hs];simp [ZdB,g2]))).symm,rfl,rfl⟩
 try simp only [sQ,ne_eq] at g2
 refine xW Zdc (h:=x1 lk9 0 (h:=xM (h:=Zo (ZtP rfl rfl rfl rfl (xF (h:=Zb rfl (fun g3=>?_) (fun g3=>?_)))))))
 try simp only [sQ,ne_eq] at g3
 refine Za (xA (h:=Zd (Zn (ZE (Zn (Z3 (ZE (Zn ?_))))))))
 exact eR t1 ⟨Zg (ZfT (Zf1 hm (by rw [show (scn ZdB (fun _ u=>u.name) [] (us.take g.1)).2=g.2 from congrArg Prod.snd hs,ZdB,Zbr g.2 m.name,g3];simp))).symm,rfl,rfl⟩
 try simp only [sQ,ne_eq] at g3
 refine wSk (Zc (xW Zdc (h:=x1 lk9 0 (h:=xA (h:=Zx (Zj (Zc (xD (h:=xM (h:=?_))))))))))
 exact ZB (g.1+1,m.name) [] so2 ⟨rfl,oz,Zch hm hs (by rw [ZdB,Zbr g.2 m.name,g2,g3];rfl),oy⟩ t6 rfl
 try simp only [sQ,ne_eq] at g1
 refine ZT (Zaa (ZW (ZG (Zj (Za (xA (h:=Zd ?_)))))))
 exact eR t1 ⟨Zg (by rw [Zim (Zea hs oz),Bool.eq_iff_iff];simp;omega),rfl,rfl⟩

theorem Zlx (x:DUser) (u:Str) (b:Nat) (h1:x.name.length≤2000000) (h2:u.length≤2000000) (B:Kn) (hb:ZaS B b 0 [str u]):ZaE (pj J) 54 [.agg #[str x.name,str x.pass,.int .i64 x.quota],ptr ⟨b,0,none⟩] B (.bool (decide (x.name=u))):=by
 refine cB 8 Tryz.func54 (h:=?_)
 refine Za (xBx [_,_,_] (h:=fun b1=>xA (h:=tL1 (Za (xW Zdc (h:=x1 lk9 0 (h:=Zo (Zh rfl rfl lk9 rfl (hb _ 0 _ rfl) (Zc3 (h:=xA (h:=Zd ?_)))))))))))
 exact eR t1 ⟨rfl,rfl,rfl⟩

theorem Zrs (q:Option Addr) (cp:Nat) (us:List DUser) (F:FuncId) (cap:Array Value) (t:DUser→Bool) (B:Kn) (hu:SlK B q cp 3 Zu us) (he:enters (pj J) F=true) (hF :∀x:DUser,x.name.length≤2000000→x.pass.length≤2000000→ZaE (pj J) F ([.agg #[str x.name,str x.pass,.int .i64 x.quota]] ++ cap.toList) B (.bool (t x))):ZaE (pj J) 53 [.slice q us.length cp,.func (.func F) #[] cap] B (.tuple #[.agg #[str (Zgd t us).1.name,str (Zgd t us).1.pass,.int .i64 (Zgd t us).1.quota],.bool (Zgd t us).2]):=by
 refine cB 21 Tryz.func53 (h:=?_)
 have hun:=hu.len
 refine Za (xAl [_,_,_] Zgl (h:=fun b1=>xA (h:=tL1 (Zf (Za (xM (h:=xV Tryz.underlying23 (h:=xM (h:=Zl (ZM (α:=Nat) [0,1,4,9,10] (fun k=>[(11,.int .i64 k)]) [] (fun k=>[]) (fun k Bx=>Bx=B∧k≤us.length∧∀y,y∈us.take k→t y=false) (fun k=>us.length - k) 0 t1 rfl (⟨rfl,Nat.zero_le _,by simp⟩) (fun k B2 hle2 hI=>?_)))))))))))
 obtain ⟨rfl,hk,ha⟩:=hI
 refine ZL [(0,_),(1,_),(4,_),(9,_),(10,_),(11,_)] [_] t6 rfl (Za (Z9 (h:=Zf (Zb rfl (fun g1=>?_) (fun g1=>?_)))))
 try simp only [sQ,ne_eq] at g1
 refine wSk (Zf (Zl (Za ?_)))
 obtain ⟨m,hm⟩:=Zaf (xs:=us) (i:=k) om
 obtain ⟨bb4,oo4,rfl⟩:=hu.base hm
 obtain ⟨_,⟨rfl,hb5,hb5b⟩,hc5⟩:=hu.elem hm
 refine xIx Tryz.underlying23 ZeC (h:=yL [_,_,_] Zoj hc5 0 (h:=xAl [_,_,_] Zgl (h:=fun b6=>xS [_,_,_] 1 [_,_,_] ZeC (h:=tL2 (Za (xM (h:=xL [_,_,_] Zoj 1 (h:=Zo (ZtH rfl rfl he rfl rfl (hF m om2 om2) ?_)))))))))
 refine Zb rfl (fun g2=>?_) (fun g2=>?_)
 try simp only [sQ,ne_eq] at g2
 refine Za (xL [_,_,_] Zoj 1 (h:=xS [_,_,_] 0 [_,_,_] ZeC (h:=xA (h:=tL2 (Zd (ZE (Zn (Z3 (ZE (Zn ?_))))))))))
 exact Zrw .ret (.inl rfl) [_,_] ⟨⟨_,rfl,.inr ⟨[_,_,_],Zoj,Z8 0 rfl rfl rfl,rfl⟩⟩,rfl,trivial⟩ ⟨by rw [Zrr hm g2 ha];rfl,rfl,rfl⟩
 try simp only [sQ,ne_eq] at g2
 refine ZJ (Zx (Zj (Zc (xD (h:=xM (h:=?_))))))
 exact ZB (k+1) [0] so2 ⟨rfl,oz,Zbp hm ha g2⟩ t6 rfl
 try simp only [sQ,ne_eq] at g1
 refine ZT (Zaa (ZW (ZG (Zj (Za (xAl [_,_,_] Zgl (h:=fun b8=>tL2 (Za (xL [_,_,_] Zoj 1 (h:=xS [_,_,_] 0 [_,_,_] ZeC (h:=xA (h:=tL2 (Zd ?_)))))))))))))
 exact Zrw .ret (.inl rfl) [_,_] ⟨⟨_,rfl,.inr ⟨[_,_,_],Zoj,Z8 0 rfl rfl rfl,rfl⟩⟩,rfl,trivial⟩ ⟨by rw [ZpD (ZbK oz ha)];rfl,rfl,rfl⟩

theorem ZfU (q:Option Addr) (cp:Nat) (us:List DUser) (nm:Str) (hn:nm.length≤2000000) (B:Kn) (hu:SlK B q cp 3 Zu us):ZaE (pj J) 17 [.slice q us.length cp,str nm] B (.tuple #[.agg #[str (ZaT us nm).1.name,str (ZaT us nm).1.pass,.int .i64 (ZaT us nm).1.quota],.bool (ZaT us nm).2]):=by
 refine cB 15 Tryz.func17 (h:=?_)
 have hun:=hu.len
 refine Za (xBx [_] (h:=fun b1=>xAl [_,_,_] Zgl (h:=fun b2=>xA (h:=tL2 (Zf (Za (xM (h:=xR Zy9 rfl (ZiU _ _ _ _ hu) (h:=xN (h:=Zb rfl (fun g0=>?_) (fun g0=>?_)))))))))))
 try simp only [sQ,ne_eq] at g0
 refine Za (xB [] [_,_,_] [_,_,_] Zsy Zgl (h:=xS [_,_,_] 1 [_,_,_] ZeC (h:=xA (h:=tL2 (Zd (Zn ?_))))))
 exact Zrw .ret (.inl rfl) [_,_] ⟨⟨_,rfl,.inr ⟨[_,_,_],Zoj,Z8 1 rfl rfl rfl,rfl⟩⟩,rfl,trivial⟩ ⟨by rw [ZaT,g0];rfl,rfl,rfl⟩
 try simp only [sQ,ne_eq] at g0
 refine wSk (Za (xM (h:=Zo (Zdu (xs:=[]) (ys:=[_]) rfl rfl rfl rfl (Zo (Zii 0 rfl rfl rfl ZzO rfl (ZaE.borrow fun hm=>Zrs _ _ us 54 _ (fun y=>decide (y.name=nm)) _ (hu.mono Zu.mono (Kn.le_add _ _)) ZzN (fun y h1 h2=>Zlx y nm _ h1 hn _ (ZkK hm))) (xE (h:=xE (h:=xS [_,_,_] 1 [_,_,_] ZeC (h:=xA (h:=tL2 (Zd ?_))))))))))))
 exact Zrw .ret (.inl rfl) [_,_] ⟨⟨_,rfl,.inr ⟨[_,_,_],Zoj,Z8 1 rfl rfl rfl,rfl⟩⟩,rfl,trivial⟩ ⟨by rw [ZaT,if_pos g0];rfl,rfl,rfl⟩

theorem ZgE (b o:Nat) (q1 q2 q3:Option Addr) (c1 c2 c3:Nat) (x:DHost) (nm:Str) (hn:nm.length≤2000000) (B:Kn) (hh:ZaS B b o [str x.domain,.slice q1 x.users.length c1,.slice q2 x.folders.length c2,.int .i64 x.queue.next,.slice q3 x.queue.items.length c3]) (hu:SlK B q1 c1 3 Zu x.users):ZaE (pj J) 55 [ptr ⟨b,o,none⟩,str nm] B (.bool (ZaT x.users nm).2):=by
 refine cB 17 Tryz.func55 (h:=?_)
 refine Za (xA (h:=Za (xM (h:=xNc (h:=xW Zby (h:=Zo (Zh rfl rfl ZhP rfl (hh _ 1 _ rfl) (xM (h:=xR Zyl rfl (ZfU _ _ _ nm om2 _ hu) (h:=?_))))))))))
 refine xM (h:=xE (h:=xE (h:=xAl [_,_,_] Zgl (h:=fun b2=>xS [_,_,_] 0 [_,_,_] ZeC (h:=xA (h:=tL1 (Za (xM (h:=xA (h:=Zd ?_))))))))))
 exact eR t1 ⟨rfl,rfl,rfl⟩

theorem ZdH (q1 q2 q3:Option Addr) (c1 c2 c3:Nat) (x:DHost) (ow nm:Str) (ho:ow.length≤2000000) (hn:nm.length≤2000000) (B:Kn) (hf:SlK B q2 c2 5 Ze x.folders):ZaE (pj J) 36 [.agg #[str x.domain,.slice q1 x.users.length c1,.slice q2 x.folders.length c2,.int .i64 x.queue.next,.slice q3 x.queue.items.length c3],str ow,str nm] B (.int .i64 (ZaM (inF ow nm) x.folders)):=by
 refine cB 34 Tryz.func36 (h:=?_)
 have hfn:=hf.len
 refine Za (xBx [_,_,_,_,_] (h:=fun b1=>xA (h:=tL1 (Zf (Za (xA (h:=Zl (ZM (α:=Nat) [0,1,2,3] (fun k=>[(7,.int .i64 k)]) [] (fun k=>[]) (fun k Bx=>Bx=B∧k≤x.folders.length∧∀y,y∈x.folders.take k→inF ow nm y=false) (fun k=>x.folders.length - k) 0 t1 rfl (⟨rfl,Nat.zero_le _,by simp⟩) (fun k B2 hle2 hI=>?_)))))))))
 obtain ⟨rfl,hk,ha⟩:=hI
 refine ZL [(0,_),(1,_),(2,_),(3,_),(7,_)] [_] t5 rfl (Zf (Za (xM (h:=xW Z0 (h:=x1 Zcy 0 (h:=xV Tryz.underlying24 (h:=Z9 (h:=Zb rfl (fun g1=>?_) (fun g1=>?_)))))))))
 try simp only [sQ,ne_eq] at g1
 refine wSk (Zf (Zl (Za (xW Z0 (h:=x1 Zcy 0 (h:=xM (h:=?_)))))))
 obtain ⟨y,hy⟩:=Zaf (xs:=x.folders) (i:=k) om
 obtain ⟨bb4,oo4,rfl⟩:=hf.base hy
 obtain ⟨_,⟨qg5,cg5,qm5,cm5,rfl,hg5,hm5,hb5,hb5b⟩,hc5⟩:=hf.elem hy
 have hg5n:=hg5.len
 have hm5n:=hm5.len
 have hm5s:=Z4 hm5
 refine xIx Tryz.underlying24 Zbm (h:=xW Zcv (h:=y1 lk9 hc5 0 (h:=xM (h:=Zc3 (h:=xM (h:=Zp (d:=23) rfl (fun g2=>?_) (fun g2=>?_)))))))
 try simp only [sQ,ne_eq] at g2
 refine xW Z0 (h:=x1 Zcy 0 (h:=xM (h:=xIx Tryz.underlying24 Zbm (h:=xW ZeT (h:=y1 lk9 hc5 1 (h:=xM (h:=Zc3 (h:=xT (h:=Zb rfl (fun g3=>?_) (fun g3=>?_))))))))))
 try simp only [sQ,ne_eq] at g3
 refine Za (xM (h:=xA (h:=Zd (ZE (Zn (Z3 (ZE (Zn ?_))))))))
 exact eR t1 ⟨ZaA (Zh4 hy (by simp [inF,g2,g3]) ha).symm,rfl,rfl⟩
 try simp only [sQ,ne_eq] at g3
 refine ZJ (Zx (Zj (Zc (xM (h:=xD (h:=xA (h:=?_)))))))
 exact ZB (k+1) [0] so2 ⟨rfl,oz,Zbp hy ha (by simp [inF,g2,g3])⟩ t5 rfl
 try simp only [sQ,ne_eq] at g2
 refine xP (h:=xP (h:=xP (h:=xP (h:=xP (h:=xP (h:=xP (h:=xP (h:=xF (h:=Zb (t:=false) rfl (fun h=>Bool.noConfusion h) (fun _=>ZJ (Zx (Zj (Zc (xM (h:=xD (h:=xA (h:=?_)))))))))))))))))
 exact ZB (k+1) [0] so2 ⟨rfl,oz,Zbp hy ha (by simp [inF,g2])⟩ t5 rfl
 try simp only [sQ,ne_eq] at g1
 refine ZT (Zaa (ZW (ZG (Zj (Za (xA (h:=Zd ?_)))))))
 exact eR t1 ⟨ZaA (Zfd (ZbK oz ha)).symm,rfl,rfl⟩

theorem Zu0 (f:DFolder) (qa qb:Option Addr) (ca cb:Nat) (ow nm:Str) (b b':Nat) (h1:f.owner.length≤2000000) (h2:f.name.length≤2000000) (h3:ow.length≤2000000) (h4:nm.length≤2000000) (B:Kn) (hb:ZaS B b 0 [str ow]) (hb2:ZaS B b' 0 [str nm]):ZaE (pj J) 88 [.agg #[str f.owner,str f.name,.slice qa f.grants.length ca,.int .i64 f.next,.slice qb f.mail.length cb],ptr ⟨b,0,none⟩,ptr ⟨b',0,none⟩] B (.bool (inF ow nm f)):=by
 refine cB 15 Tryz.func88 (h:=?_)
 refine Za (xBx [_,_,_,_,_] (h:=fun b1=>xA (h:=tL1 (Za (xW Zcv (h:=x1 lk9 0 (h:=Zo (Zh rfl rfl lk9 rfl (hb _ 0 _ rfl) (Zc3 (h:=xM (h:=Zp (d:=9) rfl (fun g1=>?_) (fun g1=>?_))))))))))))
 refine xW ZeT (h:=x1 lk9 0 (h:=Zo (Zh rfl rfl lk9 rfl (hb2 _ 0 _ rfl) (Zc3 (h:=xT (h:=xA (h:=Zd ?_)))))))
 exact eR t1 ⟨Zg (by rw [Bool.eq_iff_iff];simp [inF,g1]),rfl,rfl⟩
 refine xP (h:=xP (h:=xP (h:=xP (h:=xF (h:=xA (h:=Zd ?_))))))
 exact eR t1 ⟨Zg (by rw [Bool.eq_iff_iff];simp [inF,g1]),rfl,rfl⟩

theorem ZsU (q:Option Addr) (cp:Nat) (fs:List DFolder) (F:FuncId) (cap:Array Value) (t:DFolder→Bool) (B:Kn) (hf:SlK B q cp 5 Ze fs) (he:enters (pj J) F=true) (hF :∀(f:DFolder) (qa qb:Option Addr) (ca cb:Nat),f.owner.length≤2000000→f.name.length≤2000000→ZaE (pj J) F ([.agg #[str f.owner,str f.name,.slice qa f.grants.length ca,.int .i64 f.next,.slice qb f.mail.length cb]] ++ cap.toList) B (.bool (t f))):ZaE (pj J) 87 [.slice q fs.length cp,.func (.func F) #[] cap] B (.int .i64 (ZaM t fs)):=by
 refine cB 19 Tryz.func87 (h:=?_)
 have hfn:=hf.len
 refine Za (xA (h:=Zf (Za (xM (h:=xV Tryz.underlying24 (h:=xM (h:=Zl (ZM (α:=Nat) [0,1,7] (fun k=>[(8,.int .i64 k)]) [] (fun k=>[]) (fun k Bx=>Bx=B∧k≤fs.length∧∀y,y∈fs.take k→t y=false) (fun k=>fs.length - k) 0 t1 rfl (⟨rfl,Nat.zero_le _,by simp⟩) (fun k B1 hle1 hI=>?_)))))))))
 obtain ⟨rfl,hk,ha⟩:=hI
 refine ZL [(0,_),(1,_),(7,_),(8,_)] [] t4 rfl (Za (Z9 (h:=Zf (Zb rfl (fun g1=>?_) (fun g1=>?_)))))
 try simp only [sQ,ne_eq] at g1
 refine wSk (Zf (Zl (Za (xM (h:=xA (h:=Za (xM (h:=xM (h:=xM (h:=?_))))))))))
 obtain ⟨y,hy⟩:=Zaf (xs:=fs) (i:=k) om
 obtain ⟨bb3,oo3,rfl⟩:=hf.base hy
 obtain ⟨_,⟨qg4,cg4,qm4,cm4,rfl,hg4,hm4,hb4,hb4b⟩,hc4⟩:=hf.elem hy
 have hg4n:=hg4.len
 have hm4n:=hm4.len
 have hm4s:=Z4 hm4
 refine xIx Tryz.underlying24 Zbm (h:=yL [_,_,_,_,_] ZhA hc4 0 (h:=Zo (ZtH rfl rfl he rfl rfl (hF y _ _ _ _ om2 om2) ?_)))
 refine Zb rfl (fun g2=>?_) (fun g2=>?_)
 try simp only [sQ,ne_eq] at g2
 refine Za (xM (h:=xA (h:=Zd (ZE (Zn (Z3 (ZE (Zn ?_))))))))
 exact eR t1 ⟨ZaA (Zh4 hy g2 ha).symm,rfl,rfl⟩
 try simp only [sQ,ne_eq] at g2
 refine ZJ (Zx (Zj (Zc (xD (h:=xM (h:=?_))))))
 exact ZB (k+1) [] so2 ⟨rfl,oz,Zbp hy ha g2⟩ t4 rfl
 try simp only [sQ,ne_eq] at g1
 refine ZT (Zaa (ZW (ZG (Zj (Za (xA (h:=Zd ?_)))))))
 exact eR t1 ⟨ZaA (Zfd (ZbK oz ha)).symm,rfl,rfl⟩

theorem ZtZ (b o:Nat) (q1 q2 q3:Option Addr) (c1 c2 c3:Nat) (x:DHost) (ow nm:Str) (ho:ow.length≤2000000) (hn:nm.length≤2000000) (B:Kn) (hh:ZaS B b o [str x.domain,.slice q1 x.users.length c1,.slice q2 x.folders.length c2,.int .i64 x.queue.next,.slice q3 x.queue.items.length c3]) (hf:SlK B q2 c2 5 Ze x.folders):ZaE (pj J) 43 [ptr ⟨b,o,none⟩,str ow,str nm] B (.int .i64 (ZaM (inF ow nm) x.folders)):=by
 refine cB 13 Tryz.func43 (h:=?_)
 refine Za (xBx [_] (h:=fun b1=>xBx [_] (h:=fun b2=>xA (h:=tL2 (Za (xM (h:=xNc (h:=xW Z0 (h:=Zo (Zh rfl rfl Zcy rfl (hh _ 2 _ rfl) (Zo (Zdu (xs:=[]) (ys:=[_,_]) rfl rfl rfl rfl (Zo (ZvM 0 1 rfl rfl rfl rfl rfl Zzx rfl (ZaE.borrow2 fun hm1 hm2=>ZsU _ _ x.folders 88 _ (inF ow nm) _ ((hf.mono Ze.mono (Kn.le_add _ _)).mono Ze.mono (Kn.le_add _ _)) Zzw (fun f qa qb ca cb h1 h2=>Zu0 f qa qb ca cb ow nm _ _ h1 h2 ho hn _ (ZkK hm1) (ZkK hm2))) (xA (h:=Zd ?_))))))))))))))))
 exact eR t1 ⟨rfl,rfl,rfl⟩

theorem Znc (b o:Nat) (q1 q2 q3:Option Addr) (c1 c2 c3:Nat) (x:DHost) (B:Kn) (hh:ZaS B b o [str x.domain,.slice q1 x.users.length c1,.slice q2 x.folders.length c2,.int .i64 x.queue.next,.slice q3 x.queue.items.length c3]) (hu:SlK B q1 c1 3 Zu x.users) (hi:SlK B q3 c3 4 Zy x.queue.items):ZaE (pj J) 62 [ptr ⟨b,o,none⟩] B (.bool (x.queue.items.all (Zdq x.users))):=by
 refine cB 35 Tryz.func62 (h:=?_)
 have hin:=hi.len
 refine Za (xA (h:=Zf (Za (xM (h:=xNc (h:=xW Zcf (h:=xW Zaq (h:=Zo (Zh rfl rfl Zev rfl (hh _ 4 _ rfl) (xV Tryz.underlying25 (h:=xM (h:=Zl (ZM (α:=Nat) [0,11,12] (fun k=>[(13,.int .i64 k)]) [] (fun k=>[]) (fun k Bx=>Bx=B∧k≤x.queue.items.length∧∀y,y∈x.queue.items.take k→Zdq x.users y=true) (fun k=>x.queue.items.length - k) 0 t1 rfl (⟨rfl,Nat.zero_le _,by simp⟩) (fun k B1 hle1 hI=>?_))))))))))))))
 obtain ⟨rfl,hk,ha⟩:=hI
 refine ZL [(0,_),(11,_),(12,_),(13,_)] [] t4 rfl (Za (Z9 (h:=Zf (Zb rfl (fun g1=>?_) (fun g1=>?_)))))
 try simp only [sQ,ne_eq] at g1
 refine wSk (Zf (Zl (Za ?_)))
 obtain ⟨y,hy⟩:=Zaf (xs:=x.queue.items) (i:=k) om
 obtain ⟨bb3,oo3,rfl⟩:=hi.base hy
 obtain ⟨_,⟨qi4,ci4,rfl,hi4,hb4,hb4b⟩,hc4⟩:=hi.elem hy
 have hi4n:=hi4.len
 refine xIx Tryz.underlying25 Zbd (h:=yL [_,_,_,_] ZdF hc4 0 (h:=xAl [_,_,_,_] ZcN (h:=fun b5=>xS [_,_,_,_] 0 [_,_,_,_] Zbd (h:=tL1 (Zf (Za (xM (h:=xW Zg8 (h:=x1 lk9 0 (h:=xR ZwD rfl (ZgE _ _ _ _ _ _ _ _ x y.fr om2 _ hh hu) (h:=?_)))))))))))
 refine xN (h:=Zb rfl (fun g2=>?_) (fun g2=>?_))
 try simp only [sQ,ne_eq] at g2
 refine Za (xA (h:=Zd (Zn (ZE (Zn (Z3 (ZE (Zn ?_))))))))
 exact eR t1 ⟨Zg (Zc2 hy (by simp [Zdq,g2])).symm,rfl,rfl⟩
 try simp only [sQ,ne_eq] at g2
 refine wSk (Za (xW ZaI (h:=x1 ZcW 0 (h:=xV Tryz.underlying109 (h:=xM (h:=Zl (ZM (α:=Nat) [0,4,11,12,13,14,21,23,24] (fun j=>[(25,.int .i64 j)]) [] (fun j=>[]) (fun j Bx=>Bx=B1∧j≤y.left.length∧∀z,z∈y.left.take j→(ZaT x.users z).2=true) (fun j=>y.left.length - j) 0 t1 rfl (⟨rfl,Nat.zero_le _,by simp⟩) (fun j B7 hle7 hI=>?_))))))))
 obtain ⟨rfl,hj,hb⟩:=hI
 refine ZL [(0,_),(4,_),(11,_),(12,_),(13,_),(14,_),(21,_),(23,_),(24,_),(25,_)] [_] t10 rfl (Za (Z9 (h:=Zf (Zb rfl (fun g3=>?_) (fun g3=>?_)))))
 try simp only [sQ,ne_eq] at g3
 refine wSk (Zf (Zl (Za ?_)))
 obtain ⟨z,hz⟩:=Zaf (xs:=y.left) (i:=j) om
 obtain ⟨bb9,oo9,rfl⟩:=hi4.base hz
 obtain ⟨_,⟨rfl,hb10⟩,hc10⟩:=hi4.elem hz
 refine xIx Tryz.underlying109 sz9 (h:=y1 lk9 hc10 0 (h:=xA (h:=Za (xM (h:=xM (h:=xR ZwD rfl (ZgE _ _ _ _ _ _ _ _ x z om2 _ hh hu) (h:=?_)))))))
 refine xN (h:=Zb rfl (fun g4=>?_) (fun g4=>?_))
 try simp only [sQ,ne_eq] at g4
 refine Za (xA (h:=Zd (ZE (Zn (Z3 (ZE (ZE (Zn (Z3 (ZE (Zn ?_)))))))))))
 exact eR t1 ⟨Zg (Zc2 hy (by rw [Zdq,Zc2 hz g4,Bool.and_false])).symm,rfl,rfl⟩
 try simp only [sQ,ne_eq] at g4
 refine ZJ (Zx (Zj (Zc (xD (h:=xM (h:=?_))))))
 exact ZB (j+1) [0] so2 ⟨rfl,oz,Zbp hz hb g4⟩ t10 rfl
 try simp only [sQ,ne_eq] at g3
 refine ZT (Zaa (ZW (ZG (Zx (Zj (Zc (xD (h:=xM (h:=?_)))))))))
 exact ZB (k+1) [] so2 ⟨rfl,oz,Zbp hy ha (by rw [Zdq,g2,ZeP (ZbK oz hb)];rfl)⟩ t4 rfl
 try simp only [sQ,ne_eq] at g1
 refine ZT (Zaa (ZW (ZG (Zj (Za (xA (h:=Zd ?_)))))))
 exact eR t1 ⟨Zg (ZeP (ZbK oz ha)).symm,rfl,rfl⟩

theorem Zl6 (f g:DFolder) (qa qb qc qd:Option Addr) (ca cb cc cd:Nat) (B:Kn):ZaE (pj J) 121 [.agg #[str f.owner,str f.name,.slice qa f.grants.length ca,.int .i64 f.next,.slice qb f.mail.length cb],.agg #[str g.owner,str g.name,.slice qc g.grants.length cc,.int .i64 g.next,.slice qd g.mail.length cd]] B (.bool (ZcX f g)):=by
 refine cB 24 Tryz.func121 (h:=?_)
 refine Za (xBx [_,_,_,_,_] (h:=fun b1=>xBx [_,_,_,_,_] (h:=fun b2=>xA (h:=tL2 (Za (xW Zcv (h:=x1 lk9 0 (h:=xW Zcv (h:=x1 lk9 1 (h:=ZtG (h:=xM (h:=Zp (d:=10) rfl (fun g1=>?_) (fun g1=>?_)))))))))))))
 refine xP (h:=xP (h:=xP (h:=xP (h:=xP (h:=xP (h:=xP (h:=xP (h:=xP (h:=xP (h:=xP (h:=xP (h:=xT (h:=xA (h:=Zd ?_))))))))))))))
 exact eR t1 ⟨Zg (by rw [Bool.eq_iff_iff];simp [ZcX,Zdo,g1]),rfl,rfl⟩
 refine xW Zcv (h:=x1 lk9 0 (h:=xW Zcv (h:=x1 lk9 1 (h:=Zc3 (h:=xM (h:=Zp (d:=16) rfl (fun g2=>?_) (fun g2=>?_)))))))
 refine xW ZeT (h:=x1 lk9 0 (h:=xW ZeT (h:=x1 lk9 1 (h:=ZtG (h:=xT (h:=xF (h:=xA (h:=Zd ?_))))))))
 exact eR t1 ⟨Zg (by rw [Bool.eq_iff_iff];simp [ZcX,Zdo,g1,g2]),rfl,rfl⟩
 refine xP (h:=xP (h:=xP (h:=xP (h:=xP (h:=xF (h:=xF (h:=xA (h:=Zd ?_))))))))
 exact eR t1 ⟨Zg (by rw [Bool.eq_iff_iff];simp [ZcX,Zdo,g1,g2]),rfl,rfl⟩

theorem ZmZ (q:Option Addr) (cp:Nat) (us:List DUser) (B:Kn) (hu:SlK B q cp 3 Zu us):ZaE (pj J) 75 [.slice q us.length cp] B (.bool (Zap us)):=by
 refine cB 54 Tryz.func75 (h:=?_)
 have hun:=hu.len
 refine Za (xA (h:=Zf (Za (xA (h:=Zl (ZM (α:=Nat × Str) [0] (fun g=>[(3,.int .i64 g.1)]) [] (fun g=>[]) (fun g Bx=>Bx=B∧g.1≤us.length∧ZdV (us.take g.1)=(true,g.2)∧Prev (fun y=>y.name) ([]:Str) us g.1 g.2) (fun g=>us.length - g.1) (0,[]) t1 rfl (⟨rfl,Nat.zero_le _,Ze4,.zero⟩) (fun g B1 hle1 hI=>?_)))))))
 obtain ⟨rfl,hk,hs,hp⟩:=hI
 refine ZL [(0,_),(3,_)] [] t2 rfl (Zf (Za (xM (h:=xM (h:=xV Tryz.underlying23 (h:=Z9 (h:=Zb rfl (fun g1=>?_) (fun g1=>?_))))))))
 try simp only [sQ,ne_eq] at g1
 refine wSk (Zf (Zl (Za (xM (h:=xM (h:=?_))))))
 obtain ⟨m,hm⟩:=Zaf (xs:=us) (i:=g.1) om
 obtain ⟨bb3,oo3,rfl⟩:=hu.base hm
 obtain ⟨_,⟨rfl,hb4,hb4b⟩,hc4⟩:=hu.elem hm
 refine xIx Tryz.underlying23 ZeC (h:=yL [_,_,_] Zoj hc4 0 (h:=xAl [_,_,_] Zgl (h:=fun b5=>xS [_,_,_] 0 [_,_,_] ZeC (h:=tL1 (Zf (ZZ (same _ _) mo kr ⟨rfl,rfl⟩ (fun _ _=>?_)))))))
 refine aW 0 rfl Zdc (h:=aT 1 rfl (Zaj fun D=>Zh rfl rfl lk9 rfl (atL 0 rfl rfl rfl) r4) (h:=aT 2 rfl (Zaj fun D=>Za5 rfl rfl Zlb rfl (ZbZ _ om2 _) r4) (h:=?_)))
 refine aN 3 rfl (h:=aM 4 rfl (h:=Zaw (d:=19) rfl (fun g2=>?_) (fun g2=>?_)))
 try simp only [sQ,ne_eq] at g2
 refine aZ 5 rfl (h:=aZ 6 rfl (h:=aZ 7 rfl (h:=aPT 8 rfl (h:=aM 9 rfl (h:=aZ 10 rfl (h:=aZ 11 rfl (h:=aZ 12 rfl (h:=aZ 13 rfl (h:=aPT 14 rfl (h:=aM 15 rfl (h:=aZ 16 rfl (h:=aZ 17 rfl (h:=aZ 18 rfl (h:=aZ 19 rfl (h:=aPT 20 rfl (h:=aM 21 rfl (h:=aZ 22 rfl (h:=aZ 23 rfl (h:=aZ 24 rfl (h:=aZ 25 rfl (h:=aZ 26 rfl (h:=aZ 27 rfl (h:=aZ 28 rfl (h:=aZ 29 rfl (h:=aZ 30 rfl (h:=aZ 31 rfl (h:=aZ 32 rfl (h:=aZ 33 rfl (h:=aZ 34 rfl (h:=aPT 35 rfl (h:=Zz kr kr ?_)))))))))))))))))))))))))))))))
 refine Zj (Zb (t:=true) rfl (fun _=>Za (xA (h:=Zd (ZE (Zn (Z3 (ZE (Zn ?_)))))))) (fun h=>Bool.noConfusion h))
 exact eR t1 ⟨Zg (ZdA hm hs (by simp [ZdB,ZcB,anyone,g1,g2])).symm,rfl,rfl⟩
 try simp only [sQ,ne_eq] at g2
 refine aW 5 rfl Zdc (h:=aT 6 rfl (Zaj fun D=>Zh rfl rfl lk9 rfl (atL 0 rfl rfl rfl) r4) (h:=ZrZ 7 rfl (h:=aPF 8 rfl (h:=aM 9 rfl (h:=Zaw (d:=24) rfl (fun g3=>?_) (fun g3=>?_))))))
 try simp only [sQ,ne_eq] at g3
 refine aZ 10 rfl (h:=aZ 11 rfl (h:=aZ 12 rfl (h:=aZ 13 rfl (h:=aPT 14 rfl (h:=aM 15 rfl (h:=aZ 16 rfl (h:=aZ 17 rfl (h:=aZ 18 rfl (h:=aZ 19 rfl (h:=aPT 20 rfl (h:=aM 21 rfl (h:=aZ 22 rfl (h:=aZ 23 rfl (h:=aZ 24 rfl (h:=aZ 25 rfl (h:=aZ 26 rfl (h:=aZ 27 rfl (h:=aZ 28 rfl (h:=aZ 29 rfl (h:=aZ 30 rfl (h:=aZ 31 rfl (h:=aZ 32 rfl (h:=aZ 33 rfl (h:=aZ 34 rfl (h:=aPT 35 rfl (h:=Zz kr kr ?_))))))))))))))))))))))))))
 refine Zj (Zb (t:=true) rfl (fun _=>Za (xA (h:=Zd (ZE (Zn (Z3 (ZE (Zn ?_)))))))) (fun h=>Bool.noConfusion h))
 exact eR t1 ⟨Zg (ZdA hm hs (by simp [ZdB,ZcB,anyone,g1,g2,g3])).symm,rfl,rfl⟩
 try simp only [sQ,ne_eq] at g3
 refine aW 10 rfl Zrk (h:=aT 11 rfl (Zaj fun D=>Zh rfl rfl lk9 rfl (atL 0 rfl rfl rfl) r4) (h:=aT 12 rfl (Zaj fun D=>Za5 rfl rfl Zlb rfl (ZbZ _ om2 _) r4) (h:=?_)))
 refine aN 13 rfl (h:=aPF 14 rfl (h:=aM 15 rfl (h:=Zaw (d:=30) rfl (fun g4=>?_) (fun g4=>?_))))
 try simp only [sQ,ne_eq] at g4
 refine aZ 16 rfl (h:=aZ 17 rfl (h:=aZ 18 rfl (h:=aZ 19 rfl (h:=aPT 20 rfl (h:=aM 21 rfl (h:=aZ 22 rfl (h:=aZ 23 rfl (h:=aZ 24 rfl (h:=aZ 25 rfl (h:=aZ 26 rfl (h:=aZ 27 rfl (h:=aZ 28 rfl (h:=aZ 29 rfl (h:=aZ 30 rfl (h:=aZ 31 rfl (h:=aZ 32 rfl (h:=aZ 33 rfl (h:=aZ 34 rfl (h:=aPT 35 rfl (h:=Zz kr kr ?_))))))))))))))))))))
 refine Zj (Zb (t:=true) rfl (fun _=>Za (xA (h:=Zd (ZE (Zn (Z3 (ZE (Zn ?_)))))))) (fun h=>Bool.noConfusion h))
 exact eR t1 ⟨Zg (ZdA hm hs (by simp [ZdB,ZcB,anyone,g1,g2,g3,g4])).symm,rfl,rfl⟩
 try simp only [sQ,ne_eq] at g4
 refine aW 16 rfl ZhH (h:=aT 17 rfl (Zaj fun D=>Zh rfl rfl lk3 rfl (atL 0 rfl rfl rfl) r4) (h:=aT 18 rfl (Zaj fun D=>Za5 rfl rfl Zkp rfl (Zcr _ _ _ _) r4) (h:=aN 19 rfl (h:=aPF 20 rfl (h:=aM 21 rfl (h:=Zaw (d:=36) rfl (fun g5=>?_) (fun g5=>?_)))))))
 try simp only [sQ,ne_eq] at g5
 refine aZ 22 rfl (h:=aZ 23 rfl (h:=aZ 24 rfl (h:=aZ 25 rfl (h:=aZ 26 rfl (h:=aZ 27 rfl (h:=aZ 28 rfl (h:=aZ 29 rfl (h:=aZ 30 rfl (h:=aZ 31 rfl (h:=aZ 32 rfl (h:=aZ 33 rfl (h:=aZ 34 rfl (h:=aPT 35 rfl (h:=Zz kr kr ?_))))))))))))))
 refine Zj (Zb (t:=true) rfl (fun _=>Za (xA (h:=Zd (ZE (Zn (Z3 (ZE (Zn ?_)))))))) (fun h=>Bool.noConfusion h))
 exact eR t1 ⟨Zg (ZdA hm hs (by simp [ZdB,ZcB,anyone,g1,g2,g3,g4,g5])).symm,rfl,rfl⟩
 try simp only [sQ,ne_eq] at g5
 refine aM 22 rfl (h:=ZmN 23 rfl (h:=aM 24 rfl (h:=Zaw (d:=39) rfl (fun g6=>?_) (fun g6=>?_))))
 try simp only [sQ,ne_eq] at g6
 refine aM 25 rfl (h:=aM 26 rfl (h:=aU 27 rfl (h:=?_)))
 obtain ⟨y,hy⟩:=Zep (xs:=us) (i:=(↑g.1 - 1)) om om
 obtain ⟨_,⟨rfl,hb10,hb10b⟩,hc10⟩:=hu.elem hy
 refine aIx 28 rfl Tryz.underlying23 ZeC (h:=?_)
 have hpe:=hp.at hy oz
 refine aW 29 rfl Zdc (h:=aT 30 rfl (Zaj fun D=>Zh rfl rfl lk9 rfl (hc10 _ 0 _ rfl) r4) (h:=aW 31 rfl Zdc (h:=aT 32 rfl (Zaj fun D=>Zh rfl rfl lk9 rfl (atL 0 rfl rfl rfl) r4) (h:=aT 33 rfl (Zaj fun D=>Zp2 rfl rfl rfl rfl r4) (h:=aPT 34 rfl (h:=aPF 35 rfl (h:=Zz kr kr ?_)))))))
 refine Zj (Zb rfl (fun g7=>?_) (fun g7=>?_))
 try simp only [sQ,ne_eq] at g7
 refine Za (xA (h:=Zd (ZE (Zn (Z3 (ZE (Zn ?_)))))))
 exact eR t1 ⟨Zg (ZdA hm hs (by simp [ZdB,ZcB,anyone,g1,g2,g3,g4,g5,g6,g7,hpe])).symm,rfl,rfl⟩
 try simp only [sQ,ne_eq] at g7
 refine ZJ (Zx (Zj (Zc (xM (h:=xD (h:=xA (h:=?_)))))))
 exact ZB (g.1+1,m.name) [] so2 ⟨rfl,oz,Zch hm hs (by rw [hpe];simp [ZdB,ZcB,anyone,g2,g3,g4,g7];simp at g5;omega),.succ hm⟩ t2 rfl
 try simp only [sQ,ne_eq] at g6
 refine aZ 25 rfl (h:=aZ 26 rfl (h:=aZ 27 rfl (h:=aZ 28 rfl (h:=aZ 29 rfl (h:=aZ 30 rfl (h:=aZ 31 rfl (h:=aZ 32 rfl (h:=aZ 33 rfl (h:=aPF 34 rfl (h:=aPF 35 rfl (h:=Zz kr kr ?_)))))))))))
 refine Zj (Zb (t:=false) rfl (fun h=>Bool.noConfusion h) (fun _=>ZJ (Zx (Zj (Zc (xM (h:=xD (h:=xA (h:=?_)))))))))
 exact ZB (g.1+1,m.name) [] so2 ⟨rfl,oz,Zch hm hs (by rw [hp.at0 oz];simp [ZdB,ZcB,anyone,g2,g3,g4,Zoh (Zj9 g2)];simp at g5;omega),.succ hm⟩ t2 rfl
 try simp only [sQ,ne_eq] at g1
 refine ZT (Zaa (ZW (ZG (Zj (Za (xM (h:=xV Tryz.underlying23 (h:=xR Zkp rfl (Zcr _ _ _ _) (h:=xA (h:=Zd ?_))))))))))
 exact eR t1 ⟨Zg (by rw [Zim (Zea hs oz),Bool.eq_iff_iff];simp;omega),rfl,rfl⟩

theorem Zgw (q:Option Addr) (cp:Nat) (gs:List DGrant) (B:Kn) (hg:SlK B q cp 2 ZX gs):ZaE (pj J) 119 [.slice q gs.length cp] B (.bool (ZbQ gs)):=by
 refine cB 47 Tryz.func119 (h:=?_)
 have hgn:=hg.len
 refine Za (xA (h:=Zf (Za (xA (h:=Zl (ZM (α:=Nat × Str) [0] (fun g=>[(3,.int .i64 g.1)]) [] (fun g=>[]) (fun g Bx=>Bx=B∧g.1≤gs.length∧Zdb (gs.take g.1)=(true,g.2)∧Prev (fun y=>y.user) ([]:Str) gs g.1 g.2) (fun g=>gs.length - g.1) (0,[]) t1 rfl (⟨rfl,Nat.zero_le _,Ze4,.zero⟩) (fun g B1 hle1 hI=>?_)))))))
 obtain ⟨rfl,hk,hs,hp⟩:=hI
 refine ZL [(0,_),(3,_)] [] t2 rfl (Zf (Za (xM (h:=xM (h:=xV Tryz.underlying35 (h:=Z9 (h:=Zb rfl (fun g1=>?_) (fun g1=>?_))))))))
 try simp only [sQ,ne_eq] at g1
 refine wSk (Zf (Zl (Zf (ZZ (same _ _) mo kr ⟨rfl,rfl⟩ (fun _ _=>?_)))))
 refine aM 0 rfl (h:=aM 1 rfl (h:=?_))
 obtain ⟨m,hm⟩:=Zaf (xs:=gs) (i:=g.1) om
 obtain ⟨bb3,oo3,rfl⟩:=hg.base hm
 obtain ⟨_,⟨rfl,hb4⟩,hc4⟩:=hg.elem hm
 refine aIx 2 rfl Tryz.underlying35 ZeW (h:=aW 3 rfl Zer (h:=aT 4 rfl (Zaj fun D=>Zh rfl rfl lk9 rfl (hc4 _ 0 _ rfl) r4) (h:=aT 5 rfl (Zaj fun D=>Za5 rfl rfl Zlb rfl (ZbZ _ om2 _) r4) (h:=?_))))
 refine aN 6 rfl (h:=aM 7 rfl (h:=Zaw (d:=17) rfl (fun g2=>?_) (fun g2=>?_)))
 try simp only [sQ,ne_eq] at g2
 refine aZ 8 rfl (h:=aZ 9 rfl (h:=aZ 10 rfl (h:=aZ 11 rfl (h:=aZ 12 rfl (h:=aZ 13 rfl (h:=aZ 14 rfl (h:=aPT 15 rfl (h:=aM 16 rfl (h:=aZ 17 rfl (h:=aZ 18 rfl (h:=aZ 19 rfl (h:=aZ 20 rfl (h:=aZ 21 rfl (h:=aZ 22 rfl (h:=aZ 23 rfl (h:=aZ 24 rfl (h:=aZ 25 rfl (h:=aZ 26 rfl (h:=aZ 27 rfl (h:=aZ 28 rfl (h:=aZ 29 rfl (h:=aZ 30 rfl (h:=aZ 31 rfl (h:=aZ 32 rfl (h:=aPT 33 rfl (h:=Zz kr kr ?_))))))))))))))))))))))))))
 refine Zj (Zb (t:=true) rfl (fun _=>Za (xA (h:=Zd (ZE (Zn (Z3 (ZE (Zn ?_)))))))) (fun h=>Bool.noConfusion h))
 exact eR t1 ⟨Zg (ZdP hm hs (by simp [Zcu,g1,g2])).symm,rfl,rfl⟩
 try simp only [sQ,ne_eq] at g2
 refine aM 8 rfl (h:=aM 9 rfl (h:=aIx 10 rfl Tryz.underlying35 ZeW (h:=aW 11 rfl Zkk (h:=aT 12 rfl (Zaj fun D=>Zh rfl rfl lk3 rfl (hc4 _ 1 _ rfl) r4) (h:=aT 13 rfl (Zaj fun D=>Za5 rfl rfl Zkp rfl (Zcr _ _ _ _) r4) (h:=aN 14 rfl (h:=aPF 15 rfl (h:=aM 16 rfl (h:=Zaw (d:=26) rfl (fun g4=>?_) (fun g4=>?_))))))))))
 try simp only [sQ,ne_eq] at g4
 refine aZ 17 rfl (h:=aZ 18 rfl (h:=aZ 19 rfl (h:=aZ 20 rfl (h:=aZ 21 rfl (h:=aZ 22 rfl (h:=aZ 23 rfl (h:=aZ 24 rfl (h:=aZ 25 rfl (h:=aZ 26 rfl (h:=aZ 27 rfl (h:=aZ 28 rfl (h:=aZ 29 rfl (h:=aZ 30 rfl (h:=aZ 31 rfl (h:=aZ 32 rfl (h:=aPT 33 rfl (h:=Zz kr kr ?_)))))))))))))))))
 refine Zj (Zb (t:=true) rfl (fun _=>Za (xA (h:=Zd (ZE (Zn (Z3 (ZE (Zn ?_)))))))) (fun h=>Bool.noConfusion h))
 exact eR t1 ⟨Zg (ZdP hm hs (by simp [Zcu,g1,g2,g4])).symm,rfl,rfl⟩
 try simp only [sQ,ne_eq] at g4
 refine aM 17 rfl (h:=ZmN 18 rfl (h:=aM 19 rfl (h:=Zaw (d:=29) rfl (fun g6=>?_) (fun g6=>?_))))
 try simp only [sQ,ne_eq] at g6
 refine aM 20 rfl (h:=aM 21 rfl (h:=aU 22 rfl (h:=?_)))
 obtain ⟨y,hy⟩:=Zep (xs:=gs) (i:=(↑g.1 - 1)) om om
 obtain ⟨_,⟨rfl,hb8⟩,hc8⟩:=hg.elem hy
 refine aIx 23 rfl Tryz.underlying35 ZeW (h:=?_)
 have hpe:=hp.at hy oz
 refine aW 24 rfl Zer (h:=aT 25 rfl (Zaj fun D=>Zh rfl rfl lk9 rfl (hc8 _ 0 _ rfl) r4) (h:=aM 26 rfl (h:=aM 27 rfl (h:=aIx 28 rfl Tryz.underlying35 ZeW (h:=aW 29 rfl Zer (h:=aT 30 rfl (Zaj fun D=>Zh rfl rfl lk9 rfl (hc4 _ 0 _ rfl) r4) (h:=aT 31 rfl (Zaj fun D=>Zp2 rfl rfl rfl rfl r4) (h:=aPT 32 rfl (h:=aPF 33 rfl (h:=Zz kr kr ?_))))))))))
 refine Zj (Zb rfl (fun g7=>?_) (fun g7=>?_))
 try simp only [sQ,ne_eq] at g7
 refine Za (xA (h:=Zd (ZE (Zn (Z3 (ZE (Zn ?_)))))))
 exact eR t1 ⟨Zg (ZdP hm hs (by simp [Zcu,g1,g2,g4,g6,g7,hpe])).symm,rfl,rfl⟩
 try simp only [sQ,ne_eq] at g7
 refine ZJ (Zx (Zj (Zc (xM (h:=xD (h:=xA (h:=?_)))))))
 exact ZB (g.1+1,m.user) [] so2 ⟨rfl,oz,Zch hm hs (by rw [hpe];simp [Zcu,g2,g7];simp at g4;omega),.succ hm⟩ t2 rfl
 try simp only [sQ,ne_eq] at g6
 refine aZ 20 rfl (h:=aZ 21 rfl (h:=aZ 22 rfl (h:=aZ 23 rfl (h:=aZ 24 rfl (h:=aZ 25 rfl (h:=aZ 26 rfl (h:=aZ 27 rfl (h:=aZ 28 rfl (h:=aZ 29 rfl (h:=aZ 30 rfl (h:=aZ 31 rfl (h:=aPF 32 rfl (h:=aPF 33 rfl (h:=Zz kr kr ?_))))))))))))))
 refine Zj (Zb (t:=false) rfl (fun h=>Bool.noConfusion h) (fun _=>ZJ (Zx (Zj (Zc (xM (h:=xD (h:=xA (h:=?_)))))))))
 exact ZB (g.1+1,m.user) [] so2 ⟨rfl,oz,Zch hm hs (by rw [hp.at0 oz];simp [Zcu,g2,Zoh (Zj9 g2)];simp at g4;omega),.succ hm⟩ t2 rfl
 try simp only [sQ,ne_eq] at g1
 refine ZT (Zaa (ZW (ZG (Zj (Za (xM (h:=xV Tryz.underlying35 (h:=ZcP (h:=xA (h:=Zd ?_))))))))))
 exact eR t1 ⟨Zg (by rw [ZmM (Zea hs oz),Bool.eq_iff_iff];simp;try omega),rfl,rfl⟩

theorem Zkd (q1 q2 q3:Option Addr) (c1 c2 c3:Nat) (x:DHost) (q:Option Addr) (cp:Nat) (ns:List Str) (B:Kn) (hu:SlK B q1 c1 3 Zu x.users) (hn:SlK B q cp 1 ZbI ns):ZaE (pj J) 80 [.agg #[str x.domain,.slice q1 x.users.length c1,.slice q2 x.folders.length c2,.int .i64 x.queue.next,.slice q3 x.queue.items.length c3],.slice q ns.length cp] B (.bool (ZgD x.users ns)):=by
 refine cB 20 Tryz.func80 (h:=?_)
 have hnn:=hn.len
 have hun:=hu.len
 refine Za (xBx [_,_,_,_,_] (h:=fun b1=>xA (h:=tL1 (Zf (Za (xA (h:=Zl (ZM (α:=Nat) [0,1,2] (fun k=>[(5,.int .i64 k)]) [] (fun k=>[]) (fun k Bx=>Bx=B∧k≤ns.length∧∀z,z∈ns.take k→decide (0≤Zdg x.users z)=true) (fun k=>ns.length - k) 0 t1 rfl (⟨rfl,Nat.zero_le _,by simp⟩) (fun k B2 hle2 hI=>?_)))))))))
 obtain ⟨rfl,hk,ha⟩:=hI
 refine ZL [(0,_),(1,_),(2,_),(5,_)] [_] t4 rfl (Zf (Za (xM (h:=xM (h:=xV Tryz.underlying109 (h:=Z9 (h:=Zb rfl (fun g1=>?_) (fun g1=>?_))))))))
 try simp only [sQ,ne_eq] at g1
 refine wSk (Zf (Zl (Zf (ZZ (same _ _) mo kr ⟨rfl,rfl⟩ (fun _ _=>?_)))))
 refine aW 0 rfl Zby (h:=aT 1 rfl (Zaj fun D=>Zh rfl rfl ZhP rfl (atL 0 rfl rfl rfl) r4) (h:=aM 2 rfl (h:=aM 3 rfl (h:=?_))))
 obtain ⟨z,hz⟩:=Zaf (xs:=ns) (i:=k) om
 obtain ⟨bb4,oo4,rfl⟩:=hn.base hz
 obtain ⟨_,⟨rfl,hb5⟩,hc5⟩:=hn.elem hz
 refine aIx 4 rfl Tryz.underlying109 sz9 (h:=aT 5 rfl (Zaj fun D=>Zh rfl rfl lk9 rfl (hc5 _ 0 _ rfl) r4) (h:=aT 6 rfl (Zaj fun D=>Za5 rfl rfl Zt0 rfl (Zda _ _ _ _ _ hu) r4) (h:=ZrY 7 rfl (h:=Zz kr kr ?_))))
 refine Zj (Zb rfl (fun g2=>?_) (fun g2=>?_))
 try simp only [sQ,ne_eq] at g2
 refine Za (xA (h:=Zd (ZE (Zn (Z3 (ZE (Zn ?_)))))))
 exact eR t1 ⟨Zg (Zc2 hz (by simp;omega)).symm,rfl,rfl⟩
 try simp only [sQ,ne_eq] at g2
 refine ZJ (Zx (Zj (Zc (xM (h:=xD (h:=xA (h:=?_)))))))
 exact ZB (k+1) [0] so2 ⟨rfl,oz,Zbp hz ha (by simp;omega)⟩ t4 rfl
 try simp only [sQ,ne_eq] at g1
 refine ZT (Zaa (ZW (ZG (Zj (Za (xA (h:=Zd ?_)))))))
 exact eR t1 ⟨Zg (ZeP (ZbK oz ha)).symm,rfl,rfl⟩

theorem Zl5 (q1 q2 q3:Option Addr) (c1 c2 c3:Nat) (x:DHost) (u:Str) (B:Kn) (hf:SlK B q2 c2 5 Ze x.folders):ZaE (pj J) 78 [.agg #[str x.domain,.slice q1 x.users.length c1,.slice q2 x.folders.length c2,.int .i64 x.queue.next,.slice q3 x.queue.items.length c3],str u] B (.int .i64 (ZaD x.folders u)):=by
 refine cB 32 Tryz.func78 (h:=?_)
 have hfn:=hf.len
 refine Za (xBx [_,_,_,_,_] (h:=fun b1=>xA (h:=tL1 (Za (xA (h:=Zf (Za (xA (h:=Zl (ZM (α:=Nat × Nat) [0,1,2,4] (fun g=>[(5,.int .i64 g.2),(6,.int .i64 g.1)]) [] (fun g=>[]) (fun g Bx=>Bx=B∧g.1≤x.folders.length∧g.2=ZaD (x.folders.take g.1) u∧g.2≤g.1*4000000000000) (fun g=>x.folders.length - g.1) (0,0) t2 rfl (⟨rfl,Nat.zero_le _,by simp [ZaD],oz⟩) (fun g B2 hle2 hI=>?_)))))))))))
 obtain ⟨rfl,hk,hs,hl⟩:=hI
 refine ZL [(0,_),(1,_),(2,_),(4,_),(5,_),(6,_)] [_] t6 rfl (Zf (Za (xM (h:=xW Z0 (h:=x1 Zcy 0 (h:=xV Tryz.underlying24 (h:=Z9 (h:=Zb rfl (fun g1=>?_) (fun g1=>?_)))))))))
 try simp only [sQ,ne_eq] at g1
 refine wSk (Zf (Zl (Za (xW Z0 (h:=x1 Zcy 0 (h:=xM (h:=?_)))))))
 obtain ⟨m,hm⟩:=Zaf (xs:=x.folders) (i:=g.1) om
 obtain ⟨bb4,oo4,rfl⟩:=hf.base hm
 obtain ⟨_,⟨qg5,cg5,qm5,cm5,rfl,hg5,hm5,hb5,hb5b⟩,hc5⟩:=hf.elem hm
 have hg5n:=hg5.len
 have hm5n:=hm5.len
 have hm5s:=Z4 hm5
 refine xIx Tryz.underlying24 Zbm (h:=xW Zcv (h:=y1 lk9 hc5 0 (h:=xM (h:=Zc3 (h:=Zb rfl (fun g2=>?_) (fun g2=>?_))))))
 try simp only [sQ,ne_eq] at g2
 refine Zc (xM (h:=xW Z0 (h:=x1 Zcy 0 (h:=xM (h:=xIx Tryz.underlying24 Zbm (h:=xW ZbN (h:=yL [_,_] Zbw hc5 3 (h:=xR ZyD rfl (ZqX _ _ (⟨m.next,m.mail⟩:DBox) _ hm5) (h:=xD (h:=xA (h:=Zx (Zj (Zc (xM (h:=xD (h:=xA (h:=?_)))))))))))))))))
 exact ZB (g.1+1,g.2+Zad m.mail) [0] so2 ⟨rfl,so,by rw [ZjX hm,← hs,if_pos g2],so⟩ t6 rfl
 try simp only [sQ,ne_eq] at g2
 refine ZJ (Zx (Zj (Zc (xM (h:=xD (h:=xA (h:=?_)))))))
 exact ZB (g.1+1,g.2) [0] so2 ⟨rfl,so,by rw [ZjX hm,← hs,if_neg g2];simp only [Nat.add_zero],Nat.le_trans hl (Nat.mul_le_mul_right _ (Nat.le_succ _))⟩ t6 rfl
 try simp only [sQ,ne_eq] at g1
 refine ZT (Zaa (ZW (ZG (Zj (Za (xM (h:=xA (h:=Zd ?_))))))))
 exact eR t1 ⟨ZaA (by rw [← Zqd hs oz]),rfl,rfl⟩

theorem Zl7 (q1 q2 q3:Option Addr) (c1 c2 c3:Nat) (x:DHost) (B:Kn) (hu:SlK B q1 c1 3 Zu x.users) (hf:SlK B q2 c2 5 Ze x.folders):ZaE (pj J) 77 [.agg #[str x.domain,.slice q1 x.users.length c1,.slice q2 x.folders.length c2,.int .i64 x.queue.next,.slice q3 x.queue.items.length c3]] B (.bool (Zce x.users x.folders)):=by
 refine cB 60 Tryz.func77 (h:=?_)
 have hfn:=hf.len
 have hun:=hu.len
 refine Za (xBx [_,_,_,_,_] (h:=fun b1=>xA (h:=tL1 (Zf (Za (xA (h:=Zl (ZM (α:=Nat × Option DFolder) [0,1] (fun g=>[(3,.int .i64 g.1)]) [] (fun g=>[]) (fun g Bx=>Bx=B∧g.1≤x.folders.length∧Zdw x.users (x.folders.take g.1)=(true,g.2)∧Prev some none x.folders g.1 g.2) (fun g=>x.folders.length - g.1) (0,none) t1 rfl (⟨rfl,Nat.zero_le _,Ze4,.zero⟩) (fun g B2 hle2 hI=>?_)))))))))
 obtain ⟨rfl,hk,hs,hp⟩:=hI
 refine ZL [(0,_),(1,_),(3,_)] [_] t3 rfl (Zf (Za (xM (h:=xW Z0 (h:=x1 Zcy 0 (h:=xV Tryz.underlying24 (h:=Z9 (h:=Zb rfl (fun g1=>?_) (fun g1=>?_)))))))))
 try simp only [sQ,ne_eq] at g1
 refine wSk (Zf (Zl (Za (xW Z0 (h:=x1 Zcy 0 (h:=xM (h:=?_)))))))
 obtain ⟨m,hm⟩:=Zaf (xs:=x.folders) (i:=g.1) om
 obtain ⟨bb4,oo4,rfl⟩:=hf.base hm
 obtain ⟨_,⟨qg5,cg5,qm5,cm5,rfl,hg5,hm5,hb5,hb5b⟩,hc5⟩:=hf.elem hm
 have hg5n:=hg5.len
 have hm5n:=hm5.len
 have hm5s:=Z4 hm5
 refine xIx Tryz.underlying24 Zbm (h:=yL [_,_,_,_,_] ZhA hc5 0 (h:=xAl [_,_,_,_,_] ZdT (h:=fun b6=>xS [_,_,_,_,_] 1 [_,_,_,_,_] Zbm (h:=tL2 (Zf (ZZ (same _ _) mo kr ⟨rfl,rfl⟩ (fun _ _=>?_)))))))
 refine aW 0 rfl Zby (h:=aT 1 rfl (Zaj fun D=>Zh rfl rfl ZhP rfl (atL 0 rfl rfl rfl) r4) (h:=aW 2 rfl Zcv (h:=aT 3 rfl (Zaj fun D=>Zh rfl rfl lk9 rfl (atL 1 rfl rfl rfl) r4) (h:=aT 4 rfl (Zaj fun D=>Za5 rfl rfl Zt0 rfl (Zda _ _ _ _ _ hu) r4) (h:=ZrY 5 rfl (h:=aM 6 rfl (h:=Zaw (d:=23) rfl (fun g2=>?_) (fun g2=>?_))))))))
 try simp only [sQ,ne_eq] at g2
 refine aZ 7 rfl (h:=aZ 8 rfl (h:=aZ 9 rfl (h:=aZ 10 rfl (h:=aPT 11 rfl (h:=aM 12 rfl (h:=aZ 13 rfl (h:=aZ 14 rfl (h:=aZ 15 rfl (h:=aZ 16 rfl (h:=aPT 17 rfl (h:=aM 18 rfl (h:=aZ 19 rfl (h:=aZ 20 rfl (h:=aZ 21 rfl (h:=aZ 22 rfl (h:=aPT 23 rfl (h:=aM 24 rfl (h:=aZ 25 rfl (h:=aZ 26 rfl (h:=aZ 27 rfl (h:=aZ 28 rfl (h:=aZ 29 rfl (h:=aZ 30 rfl (h:=aZ 31 rfl (h:=aZ 32 rfl (h:=aZ 33 rfl (h:=aZ 34 rfl (h:=aZ 35 rfl (h:=aZ 36 rfl (h:=aZ 37 rfl (h:=aPT 38 rfl (h:=Zz kr kr ?_))))))))))))))))))))))))))))))))
 refine Zj (Zb (t:=true) rfl (fun _=>Za (xA (h:=Zd (ZE (Zn (Z3 (ZE (Zn ?_)))))))) (fun h=>Bool.noConfusion h))
 exact eR t1 ⟨Zg (ZcL hm hs (by simp [ZbW,Z1,DFolder.box,g1,g2];try omega)).symm,rfl,rfl⟩
 try simp only [sQ,ne_eq] at g2
 refine aW 7 rfl ZeT (h:=aT 8 rfl (Zaj fun D=>Zh rfl rfl lk9 rfl (atL 1 rfl rfl rfl) r4) (h:=aT 9 rfl (Zaj fun D=>Za5 rfl rfl Zlb rfl (ZbZ _ om2 _) r4) (h:=?_)))
 refine aN 10 rfl (h:=aPF 11 rfl (h:=aM 12 rfl (h:=Zaw (d:=29) rfl (fun g3=>?_) (fun g3=>?_))))
 try simp only [sQ,ne_eq] at g3
 refine aZ 13 rfl (h:=aZ 14 rfl (h:=aZ 15 rfl (h:=aZ 16 rfl (h:=aPT 17 rfl (h:=aM 18 rfl (h:=aZ 19 rfl (h:=aZ 20 rfl (h:=aZ 21 rfl (h:=aZ 22 rfl (h:=aPT 23 rfl (h:=aM 24 rfl (h:=aZ 25 rfl (h:=aZ 26 rfl (h:=aZ 27 rfl (h:=aZ 28 rfl (h:=aZ 29 rfl (h:=aZ 30 rfl (h:=aZ 31 rfl (h:=aZ 32 rfl (h:=aZ 33 rfl (h:=aZ 34 rfl (h:=aZ 35 rfl (h:=aZ 36 rfl (h:=aZ 37 rfl (h:=aPT 38 rfl (h:=Zz kr kr ?_))))))))))))))))))))))))))
 refine Zj (Zb (t:=true) rfl (fun _=>Za (xA (h:=Zd (ZE (Zn (Z3 (ZE (Zn ?_)))))))) (fun h=>Bool.noConfusion h))
 exact eR t1 ⟨Zg (ZcL hm hs (by simp [ZbW,Z1,DFolder.box,g1,g2,g3];try omega)).symm,rfl,rfl⟩
 try simp only [sQ,ne_eq] at g3
 refine aW 13 rfl ZdJ (h:=aT 14 rfl (Zaj fun D=>Zh rfl rfl Zr6 rfl (atL 1 rfl rfl rfl) r4) (h:=aT 15 rfl (Zaj fun D=>Za5 rfl rfl Zti rfl (Zgw _ _ _ _ hg5) r4) (h:=aN 16 rfl (h:=aPF 17 rfl (h:=aM 18 rfl (h:=Zaw (d:=35) rfl (fun g4=>?_) (fun g4=>?_)))))))
 try simp only [sQ,ne_eq] at g4
 refine aZ 19 rfl (h:=aZ 20 rfl (h:=aZ 21 rfl (h:=aZ 22 rfl (h:=aPT 23 rfl (h:=aM 24 rfl (h:=aZ 25 rfl (h:=aZ 26 rfl (h:=aZ 27 rfl (h:=aZ 28 rfl (h:=aZ 29 rfl (h:=aZ 30 rfl (h:=aZ 31 rfl (h:=aZ 32 rfl (h:=aZ 33 rfl (h:=aZ 34 rfl (h:=aZ 35 rfl (h:=aZ 36 rfl (h:=aZ 37 rfl (h:=aPT 38 rfl (h:=Zz kr kr ?_))))))))))))))))))))
 refine Zj (Zb (t:=true) rfl (fun _=>Za (xA (h:=Zd (ZE (Zn (Z3 (ZE (Zn ?_)))))))) (fun h=>Bool.noConfusion h))
 exact eR t1 ⟨Zg (ZcL hm hs (by simp [ZbW,Z1,DFolder.box,g1,g2,g3,g4];try omega)).symm,rfl,rfl⟩
 try simp only [sQ,ne_eq] at g4
 refine aW 19 rfl ZbN (h:=aT 20 rfl (Zaj fun D=>ZS [_,_] rfl rfl Zbw rfl (Z8 1 rfl rfl rfl) r4) (h:=aT 21 rfl (Zaj fun D=>Za5 rfl rfl Zth rfl (Zgu _ _ (⟨m.next,m.mail⟩:DBox) _ hm5) r4) (h:=aN 22 rfl (h:=aPF 23 rfl (h:=aM 24 rfl (h:=Zaw (d:=41) rfl (fun g5=>?_) (fun g5=>?_)))))))
 try simp only [sQ,ne_eq] at g5
 refine aZ 25 rfl (h:=aZ 26 rfl (h:=aZ 27 rfl (h:=aZ 28 rfl (h:=aZ 29 rfl (h:=aZ 30 rfl (h:=aZ 31 rfl (h:=aZ 32 rfl (h:=aZ 33 rfl (h:=aZ 34 rfl (h:=aZ 35 rfl (h:=aZ 36 rfl (h:=aZ 37 rfl (h:=aPT 38 rfl (h:=Zz kr kr ?_))))))))))))))
 refine Zj (Zb (t:=true) rfl (fun _=>Za (xA (h:=Zd (ZE (Zn (Z3 (ZE (Zn ?_)))))))) (fun h=>Bool.noConfusion h))
 exact eR t1 ⟨Zg (ZcL hm hs (by simp [ZbW,Z1,DFolder.box,g1,g2,g3,g4,g5];try omega)).symm,rfl,rfl⟩
 try simp only [sQ,ne_eq] at g5
 refine aM 25 rfl (h:=ZmN 26 rfl (h:=aM 27 rfl (h:=Zaw (d:=44) rfl (fun g6=>?_) (fun g6=>?_))))
 try simp only [sQ,ne_eq] at g6
 refine aW 28 rfl Z0 (h:=aT 29 rfl (Zaj fun D=>Zh rfl rfl Zcy rfl (atL 0 rfl rfl rfl) r4) (h:=aM 30 rfl (h:=aU 31 rfl (h:=?_))))
 obtain ⟨y,hy⟩:=Zep (xs:=x.folders) (i:=(↑g.1 - 1)) om om
 obtain ⟨_,⟨qg12,cg12,qm12,cm12,rfl,hg12,hm12,hb12,hb12b⟩,hc12⟩:=hf.elem hy
 have hg12n:=hg12.len
 have hm12n:=hm12.len
 have hm12s:=Z4 hm12
 refine aIx 32 rfl Tryz.underlying24 Zbm (h:=?_)
 have hpe:=hp.at hy oz
 refine aT 33 rfl (Zaj fun D=>ZS [_,_,_,_,_] rfl rfl ZhA rfl (ZiB hc12 0 rfl rfl) r4) (h:=aT 34 rfl (Zaj fun D=>ZS [_,_,_,_,_] rfl rfl ZhA rfl (Z8 1 rfl rfl rfl) r4) (h:=aT 35 rfl (Zaj fun D=>Za5 rfl rfl ZwN rfl (Zl6 y m _ _ _ _ _ _ _ _ _) r4) (h:=aN 36 rfl (h:=aPT 37 rfl (h:=aPF 38 rfl (h:=Zz kr kr ?_))))))
 refine Zj (Zb rfl (fun g7=>?_) (fun g7=>?_))
 try simp only [sQ,ne_eq] at g7
 refine Za (xA (h:=Zd (ZE (Zn (Z3 (ZE (Zn ?_)))))))
 exact eR t1 ⟨Zg (ZcL hm hs (by simp [ZbW,Z1,DFolder.box,g1,g2,g3,g4,g5,g6,g7,hpe];try omega)).symm,rfl,rfl⟩
 try simp only [sQ,ne_eq] at g7
 refine ZJ (Zx (Zj (Zc (xM (h:=xD (h:=xA (h:=?_)))))))
 exact ZB (g.1+1,some m) [0] so2 ⟨rfl,oz,Zch hm hs (by rw [hpe];simp [ZbW,Z1,DFolder.box,g3,g4,g5,g7];omega),.succ hm⟩ t3 rfl
 try simp only [sQ,ne_eq] at g6
 refine aZ 28 rfl (h:=aZ 29 rfl (h:=aZ 30 rfl (h:=aZ 31 rfl (h:=aZ 32 rfl (h:=aZ 33 rfl (h:=aZ 34 rfl (h:=aZ 35 rfl (h:=aZ 36 rfl (h:=aPF 37 rfl (h:=aPF 38 rfl (h:=Zz kr kr ?_)))))))))))
 refine Zj (Zb (t:=false) rfl (fun h=>Bool.noConfusion h) (fun _=>ZJ (Zx (Zj (Zc (xM (h:=xD (h:=xA (h:=?_)))))))))
 exact ZB (g.1+1,some m) [0] so2 ⟨rfl,oz,Zch hm hs (by rw [hp.at0 oz];simp [ZbW,Z1,DFolder.box,g3,g4,g5];omega),.succ hm⟩ t3 rfl
 try simp only [sQ,ne_eq] at g1
 refine ZT (Zaa (ZW (ZG (Zj (Za (xW Z0 (h:=x1 Zcy 0 (h:=xV Tryz.underlying24 (h:=ZcP (h:=xA (h:=Zd ?_)))))))))))
 exact eR t1 ⟨Zg (by rw [Zk5 (Zea hs oz),Bool.eq_iff_iff];simp;try omega),rfl,rfl⟩

theorem ZbG (q1 q2 q3:Option Addr) (c1 c2 c3:Nat) (x:DHost) (hd:x.domain.length≤2000000) (B:Kn) (hu:SlK B q1 c1 3 Zu x.users) (hf:SlK B q2 c2 5 Ze x.folders) (hi:SlK B q3 c3 4 Zy x.queue.items):ZaE (pj J) 34 [.agg #[str x.domain,.slice q1 x.users.length c1,.slice q2 x.folders.length c2,.int .i64 x.queue.next,.slice q3 x.queue.items.length c3]] B (.bool (Zw x)):=by
 refine cB 87 Tryz.func34 (h:=?_)
 have hfn:=hf.len
 have hun:=hu.len
 have hin:=hi.len
 refine Za (xBx [_,_,_,_,_] (h:=fun b1=>xA (h:=tL1 (Zf (Za (xW Zi7 (h:=x1 lk9 0 (h:=xR ZzC rfl (ZlK _ om2 _) (h:=?_)))))))))
 refine xN (h:=xM (h:=Zp (d:=10) rfl (fun g1=>?_) (fun g1=>?_)))
 try simp only [sQ,ne_eq] at g1
 refine xP (h:=xP (h:=xP (h:=xP (h:=xT (h:=xM (h:=xP (h:=xP (h:=xP (h:=xP (h:=xT (h:=xM (h:=xP (h:=xP (h:=xP (h:=xT (h:=Zb (t:=true) rfl (fun _=>Za (xA (h:=Zd (Zn ?_)))) (fun h=>Bool.noConfusion h)))))))))))))))))
 exact eR t1 ⟨Zg (by simp [Zw,g1]),rfl,rfl⟩
 try simp only [sQ,ne_eq] at g1
 refine xW Zby (h:=x1 ZhP 0 (h:=xR ZzB rfl (ZmZ _ _ _ _ hu) (h:=xN (h:=xF (h:=xM (h:=Zp (d:=16) rfl (fun g2=>?_) (fun g2=>?_)))))))
 try simp only [sQ,ne_eq] at g2
 refine xP (h:=xP (h:=xP (h:=xP (h:=xT (h:=xM (h:=xP (h:=xP (h:=xP (h:=xT (h:=Zb (t:=true) rfl (fun _=>Za (xA (h:=Zd (Zn ?_)))) (fun h=>Bool.noConfusion h)))))))))))
 exact eR t1 ⟨Zg (by simp [Zw,g1,g2]),rfl,rfl⟩
 try simp only [sQ,ne_eq] at g2
 refine xW Zcf (h:=xL [_,_] ZdR 0 (h:=xR ZxW rfl (ZfX _ _ x.queue _ hi) (h:=xN (h:=xF (h:=xM (h:=Zp (d:=22) rfl (fun g3=>?_) (fun g3=>?_)))))))
 try simp only [sQ,ne_eq] at g3
 refine xP (h:=xP (h:=xP (h:=xT (h:=Zb (t:=true) rfl (fun _=>Za (xA (h:=Zd (Zn ?_)))) (fun h=>Bool.noConfusion h)))))
 exact eR t1 ⟨Zg (by simp [Zw,g1,g2,g3]),rfl,rfl⟩
 try simp only [sQ,ne_eq] at g3
 refine xL [_,_,_,_,_] ZV 0 (h:=xR ZzA rfl (Zl7 _ _ _ _ _ _ x _ hu hf) (h:=xN (h:=xF (h:=Zb rfl (fun g4=>?_) (fun g4=>?_)))))
 try simp only [sQ,ne_eq] at g4
 refine Za (xA (h:=Zd (Zn ?_)))
 exact eR t1 ⟨Zg (by simp [Zw,g1,g2,g3,g4]),rfl,rfl⟩
 try simp only [sQ,ne_eq] at g4
 refine wSk (Zf (Za (xA (h:=Zl (ZM (α:=Nat) [0,1,26] (fun k=>[(3,.int .i64 k)]) [] (fun k=>[]) (fun k Bx=>Bx=B∧k≤x.users.length∧∀z,z∈x.users.take k→ZaZ x.folders z=true) (fun k=>x.users.length - k) 0 t1 rfl (⟨rfl,Nat.zero_le _,by simp⟩) (fun k B6 hle6 hI=>?_))))))
 obtain ⟨rfl,hk,ha⟩:=hI
 refine ZL [(0,_),(1,_),(3,_),(26,_)] [_] t4 rfl (Zf (Za (xM (h:=xW Zby (h:=x1 ZhP 0 (h:=xV Tryz.underlying23 (h:=Z9 (h:=Zb rfl (fun g5=>?_) (fun g5=>?_)))))))))
 try simp only [sQ,ne_eq] at g5
 refine wSk (Zf (Zl (Zf (ZZ (same _ _) mo kr ⟨rfl,rfl⟩ (fun _ _=>?_)))))
 refine aT 0 rfl (Zaj fun D=>ZS [_,_,_,_,_] rfl rfl ZV rfl (Z8 0 rfl rfl rfl) r4) (h:=aW 1 rfl Zby (h:=aT 2 rfl (Zaj fun D=>Zh rfl rfl ZhP rfl (atL 0 rfl rfl rfl) r4) (h:=aM 3 rfl (h:=?_))))
 obtain ⟨w,hw⟩:=Zaf (xs:=x.users) (i:=k) om
 obtain ⟨bb8,oo8,rfl⟩:=hu.base hw
 obtain ⟨_,⟨rfl,hb9,hb9b⟩,hc9⟩:=hu.elem hw
 refine aIx 4 rfl Tryz.underlying23 ZeC (h:=aW 5 rfl Zdc (h:=aT 6 rfl (Zaj fun D=>Zh rfl rfl lk9 rfl (hc9 _ 0 _ rfl) r4) (h:=aT 7 rfl (Zaj fun D=>Za5 rfl rfl Zvb rfl (ZdH _ _ _ _ _ _ x w.name [105,110,98,111,120] om2 om2 _ hf) r4) (h:=?_))))
 refine ZrY 8 rfl (h:=aM 9 rfl (h:=Zaw (d:=43) rfl (fun g6=>?_) (fun g6=>?_)))
 try simp only [sQ,ne_eq] at g6
 refine aZ 10 rfl (h:=aZ 11 rfl (h:=aZ 12 rfl (h:=aZ 13 rfl (h:=aZ 14 rfl (h:=aZ 15 rfl (h:=aZ 16 rfl (h:=aZ 17 rfl (h:=aZ 18 rfl (h:=aZ 19 rfl (h:=aZ 20 rfl (h:=aZ 21 rfl (h:=aZ 22 rfl (h:=aZ 23 rfl (h:=aZ 24 rfl (h:=aPT 25 rfl (h:=Zz kr kr ?_))))))))))))))))
 refine Zj (Zb (t:=true) rfl (fun _=>Za (xA (h:=Zd (ZE (Zn (Z3 (ZE (Zn ?_)))))))) (fun h=>Bool.noConfusion h))
 exact eR t1 ⟨Zg (ZiW hw (ZlA g6)).symm,rfl,rfl⟩
 try simp only [sQ,ne_eq] at g6
 refine aT 10 rfl (Zaj fun D=>ZS [_,_,_,_,_] rfl rfl ZV rfl (Z8 0 rfl rfl rfl) r4) (h:=aW 11 rfl Zby (h:=aT 12 rfl (Zaj fun D=>Zh rfl rfl ZhP rfl (atL 0 rfl rfl rfl) r4) (h:=aM 13 rfl (h:=aIx 14 rfl Tryz.underlying23 ZeC (h:=aW 15 rfl Zdc (h:=aT 16 rfl (Zaj fun D=>Zh rfl rfl lk9 rfl (hc9 _ 0 _ rfl) r4) (h:=aT 17 rfl (Zaj fun D=>Za5 rfl rfl Zy3 rfl (Zl5 _ _ _ _ _ _ x _ _ hf) r4) (h:=aW 18 rfl Zby (h:=aT 19 rfl (Zaj fun D=>Zh rfl rfl ZhP rfl (atL 0 rfl rfl rfl) r4) (h:=aM 20 rfl (h:=aIx 21 rfl Tryz.underlying23 ZeC (h:=aW 22 rfl ZhH (h:=aT 23 rfl (Zaj fun D=>Zh rfl rfl lk3 rfl (hc9 _ 2 _ rfl) r4) (h:=ZmN 24 rfl (h:=aPF 25 rfl (h:=Zz kr kr ?_))))))))))))))))
 refine Zj (Zb rfl (fun g7=>?_) (fun g7=>?_))
 try simp only [sQ,ne_eq] at g7
 refine Za (xA (h:=Zd (ZE (Zn (Z3 (ZE (Zn ?_)))))))
 exact eR t1 ⟨Zg (ZiW hw (Zlz g7)).symm,rfl,rfl⟩
 try simp only [sQ,ne_eq] at g7
 refine ZJ (Zx (Zj (Zc (xM (h:=xD (h:=xA (h:=?_)))))))
 exact ZB (k+1) [0] so2 ⟨rfl,oz,Zbp hw ha (Zly g6 g7)⟩ t4 rfl
 try simp only [sQ,ne_eq] at g5
 refine ZT (Zaa (ZW (ZG (Zj (Zf (Za (xA (h:=Zl (ZM (α:=Nat) [0,1,3,26,31] (fun j=>[(4,.int .i64 j)]) [] (fun j=>[]) (fun j Bx=>Bx=B6∧j≤x.queue.items.length∧∀z,z∈x.queue.items.take j→ZaK x.users z=true) (fun j=>x.queue.items.length - j) 0 t1 rfl (⟨rfl,Nat.zero_le _,by simp⟩) (fun j B12 hle12 hI=>?_))))))))))
 obtain ⟨rfl,hj,hb⟩:=hI
 refine ZL [(0,_),(1,_),(3,_),(4,_),(26,_),(31,_)] [_] t6 rfl (Zf (Za (xM (h:=xW Zcf (h:=xW Zaq (h:=x1 Zev 0 (h:=xV Tryz.underlying25 (h:=Z9 (h:=Zb rfl (fun g8=>?_) (fun g8=>?_))))))))))
 try simp only [sQ,ne_eq] at g8
 refine wSk (Zf (Zl (Za (xW Zcf (h:=xW Zaq (h:=x1 Zev 0 (h:=xM (h:=?_))))))))
 obtain ⟨y,hy⟩:=Zaf (xs:=x.queue.items) (i:=j) om
 obtain ⟨bb14,oo14,rfl⟩:=hi.base hy
 obtain ⟨_,⟨qi15,ci15,rfl,hi15,hb15,hb15b⟩,hc15⟩:=hi.elem hy
 have hi15n:=hi15.len
 refine xIx Tryz.underlying25 Zbd (h:=yL [_,_,_,_] ZdF hc15 0 (h:=xAl [_,_,_,_] ZcN (h:=fun b16=>xS [_,_,_,_] 1 [_,_,_,_] Zbd (h:=tL2 (Za (xW Zby (h:=x1 ZhP 0 (h:=xW Zg8 (h:=x1 lk9 1 (h:=xR Zt0 rfl (Zda _ _ _ _ _ hu) (h:=Z9 (h:=xM (h:=Zp (d:=80) rfl (fun g9=>?_) (fun g9=>?_))))))))))))))
 try simp only [sQ,ne_eq] at g9
 refine xP (h:=xP (h:=xP (h:=xP (h:=xP (h:=xT (h:=Zb (t:=true) rfl (fun _=>Za (xA (h:=Zd (ZE (Zn (Z3 (ZE (Zn ?_)))))))) (fun h=>Bool.noConfusion h)))))))
 exact eR t1 ⟨Zg (ZiX hy (ZkY g9)).symm,rfl,rfl⟩
 try simp only [sQ,ne_eq] at g9
 refine xL [_,_,_,_,_] ZV 0 (h:=xW ZaI (h:=x1 ZcW 1 (h:=xR Zy2 rfl (Zkd _ _ _ _ _ _ x _ _ y.left _ hu hi15) (h:=xN (h:=xF (h:=Zb rfl (fun ga=>?_) (fun ga=>?_)))))))
 try simp only [sQ,ne_eq] at ga
 refine Za (xA (h:=Zd (ZE (Zn (Z3 (ZE (Zn ?_)))))))
 exact eR t1 ⟨Zg (ZiX hy (ZkX ga)).symm,rfl,rfl⟩
 try simp only [sQ,ne_eq] at ga
 refine ZJ (Zx (Zj (Zc (xM (h:=xD (h:=xA (h:=?_)))))))
 exact ZB (j+1) [0] so2 ⟨rfl,oz,Zbp hy hb (ZkW g9 ga)⟩ t6 rfl
 try simp only [sQ,ne_eq] at g8
 refine ZT (Zaa (ZW (ZG (Zj (Za (xA (h:=Zd ?_)))))))
 exact eR t1 ⟨Zg (Zpo g1 g2 g3 g4 (ZeP (ZbK oz ha)) (ZeP (ZbK oz hb))).symm,rfl,rfl⟩

theorem ZoE (q:Option Addr) (cp:Nat) (gs:List DGrant) (B:Kn) (hg:SlK B q cp 2 ZX gs):Zv (pj J) 63 [.slice q gs.length cp] B [] (ZnR gs B):=by
 refine cB 46 Tryz.func63 (h:=?_)
 have hgn:=hg.len
 refine Za (xA (h:=xA (h:=Zf (Za (xM (h:=xV Tryz.underlying35 (h:=Zbv (h:=Zb rfl (fun g0=>?_) (fun g0=>?_)))))))))
 try simp only [sQ,ne_eq] at g0
 refine Za (xA (h:=xA (h:=Zd (Zn ?_))))
 exact Zjk .ret (.inl rfl) [_,_] t2 (by simp [ZbQ];omega)
 try simp only [sQ,ne_eq] at g0
 refine wSk (Za (Zo (Zp1 rfl rfl (fun b1 l1 hl1=>xA (h:=tL1 (Za (xA (h:=Zf (Za (xM (h:=xV Tryz.underlying35 (h:=xM (h:=Zl (ZM (α:=Nat × Str × Cells) [0,4,10,12,13] (fun g=>[(5,str g.2.1),(14,.int .i64 g.1)]) [0] (fun g=>[g.2.2]) (fun g Bx=>Bx=B∧g.1≤gs.length∧Zdb (gs.take g.1)=(true,g.2.1)∧g.2.1.length≤2000000∧Zvw g.2.2 b1 (Zfc (gs.take g.1))) (fun g=>gs.length - g.1) (0,[],_) t2 rfl (⟨rfl,Nat.zero_le _,Ze4,by simp,hl1⟩) (fun g B2 hle2 hI=>?_)))))))))))))))
 obtain ⟨rfl,hk,hs,hnm,hml⟩:=hI
 refine ZL [(0,_),(4,_),(5,_),(10,_),(12,_),(13,_),(14,_)] [_] t7 rfl (Za (Z9 (h:=Zf (Zb rfl (fun g1=>?_) (fun g1=>?_)))))
 try simp only [sQ,ne_eq] at g1
 refine wSk (Zf (Zl (Za ?_)))
 obtain ⟨m,hm⟩:=Zaf (xs:=gs) (i:=g.1) om
 obtain ⟨bb4,oo4,rfl⟩:=hg.base hm
 obtain ⟨_,⟨rfl,hb5⟩,hc5⟩:=hg.elem hm
 refine xIx Tryz.underlying35 ZeW (h:=yL [_,_] ZvB hc5 0 (h:=xAl [_,_] ZjB (h:=fun b6=>xS [_,_] 1 [_,_] ZeW (h:=tL2 (Zf (Za (xW Zer (h:=x1 lk9 1 (h:=xR Zt1 rfl (Zcs _ om2 _) (h:=?_))))))))))
 refine xN (h:=xM (h:=Zp (d:=22) rfl (fun g2=>?_) (fun g2=>?_)))
 try simp only [sQ,ne_eq] at g2
 refine xP (h:=xP (h:=xP (h:=xP (h:=xT (h:=Zb (t:=true) rfl (fun _=>Za (xA (h:=xA (h:=Zd (Zn (ZE (Zn (Z3 (ZE (Zn ?_)))))))))) (fun h=>Bool.noConfusion h))))))
 exact Zjk .ret (.inl rfl) [_,_] t2 (ZdP hm hs (by rw [Zcu,Zbr g.2.1 m.user];simp [g2];try omega))
 try simp only [sQ,ne_eq] at g2
 refine xW Zer (h:=x1 lk9 1 (h:=xM (h:=Zo (ZtP rfl rfl rfl rfl (xF (h:=Zb rfl (fun g3=>?_) (fun g3=>?_)))))))
 try simp only [sQ,ne_eq] at g3
 refine Za (xA (h:=xA (h:=Zd (Zn (ZE (Zn (Z3 (ZE (Zn ?_)))))))))
 exact Zjk .ret (.inl rfl) [_,_] t2 (ZdP hm hs (by rw [Zcu,Zbr g.2.1 m.user];simp [g3];try omega))
 try simp only [sQ,ne_eq] at g3
 refine wSk (Zf (Za (xW Zkk (h:=x1 lk3 1 (h:=Z9 (h:=xM (h:=Zp (d:=31) rfl (fun g4=>?_) (fun g4=>?_))))))))
 try simp only [sQ,ne_eq] at g4
 refine xP (h:=xP (h:=xP (h:=xP (h:=xT (h:=Zb (t:=true) rfl (fun _=>Za (xA (h:=xA (h:=Zd (Zn (ZE (Zn (Z3 (ZE (Zn ?_)))))))))) (fun h=>Bool.noConfusion h))))))
 exact Zjk .ret (.inl rfl) [_,_] t2 (ZdP hm hs (by rw [Zcu,Zbr g.2.1 m.user];simp [g4];try omega))
 try simp only [sQ,ne_eq] at g4
 refine xW Zkk (h:=x1 lk3 1 (h:=xR ZyP rfl (Zsp _ _) (h:=xN (h:=xF (h:=Zb rfl (fun g5=>?_) (fun g5=>?_))))))
 try simp only [sQ,ne_eq] at g5
 refine Za (xA (h:=xA (h:=Zd (Zn (ZE (Zn (Z3 (ZE (Zn ?_)))))))))
 exact Zjk .ret (.inl rfl) [_,_] t2 (ZdP hm hs (Bool.eq_false_iff.2 fun hc=>by simp only [Zcu,Bool.and_eq_true,decide_eq_true_eq] at hc;simp only [Bool.and_eq_false_iff,decide_eq_false_iff_not] at g5;omega))
 try simp only [sQ,ne_eq] at g5
 refine wSk (Za (xM (h:=xW Zer (h:=x1 lk9 1 (h:=xW Zkk (h:=x1 lk3 1 (h:=Zo (ZmQ (k:=m.user) (v:=m.rights) 0 rfl hml rfl rfl Tryz.underlying103 Tryz.underlying9 rfl rfl rfl (fun l9 hl9=>tL2 (Zc (xW Zer (h:=x1 lk9 1 (h:=xA (h:=Zx (Zj (Zc (xD (h:=xM (h:=?_)))))))))))))))))))
 exact ZB (g.1+1,m.user,l9) [0] so2 ⟨rfl,so,Zch hm hs (by rw [Zcu,Zbr g.2.1 m.user,g2,g3];simp at g5 ⊢;omega),oy,by rw [← ZuK hm hs (by rw [Zbr g.2.1 m.user,g3];rfl)];exact hl9⟩ t7 rfl
 try simp only [sQ,ne_eq] at g1
 refine ZT (Zaa (ZW (ZG (Zj (Za (xM (h:=xA (h:=xA (h:=Zd ?_)))))))))
 exact Zu9 .ret (.inl rfl) [_,_] rfl t2 (by rw [ZmM (Zea hs oz)];simp;omega) (by have e:=hml;rw [List.take_of_length_le oz] at e;exact e)

theorem Zq0 (q:Option Addr) (cp:Nat) (gs:List DGrant) (B:Kn) (hg:SlK B q cp 2 ZX gs):ZaE (pj J) 100 [.slice q gs.length cp] B (.bool (ZbQ gs)):=by
 refine cB 11 Tryz.func100 (h:=?_)
 refine Za (xA (h:=Za (xM (h:=xC Zy7 rfl (ZoE _ _ _ _ hg) (h:=?_)))))
 rintro _ B1 _ hle1 ⟨m1,l1,rfl,rfl,rfl,hl1⟩
 refine xM (h:=xE (h:=xE (h:=xA (h:=xA (h:=tL1 (Za (xM (h:=xA (h:=Zd ?_)))))))))
 exact eR t1 ⟨rfl,rfl,rfl⟩

theorem ZwQ (a b:Str) (B:Kn):ZaE (pj J) 129 [str a,str b] B (.int .i64 (Lib.compareBytes a b)):=by
 refine cB 8 Tryz.func129 (h:=?_)
 refine Za (xA (h:=Za (xM (h:=xM (h:=Zo (Zxr (fn:=Tryz.f168) rfl rfl Tryz.func168 rfl rfl Zwv Zww rfl rfl (xA (h:=Zd ?_))))))))
 exact eR t1 ⟨rfl,rfl,rfl⟩

theorem Zt2 (a b:Str) (B:Kn):ZaE (pj J) 96 [str a,str b] B (.int .i64 (Lib.compareBytes a b)):=by
 refine cB 8 Tryz.func96 (h:=?_)
 refine Za (xA (h:=Za (xM (h:=xM (h:=xR Zyx rfl (ZwQ a b _) (h:=xA (h:=Zd ?_)))))))
 exact eR t1 ⟨rfl,rfl,rfl⟩

theorem Zny (f:DFolder) (qa qb:Option Addr) (ca cb:Nat) (ow nm:Str) (B:Kn):ZaE (pj J) 59 [.agg #[str f.owner,str f.name,.slice qa f.grants.length ca,.int .i64 f.next,.slice qb f.mail.length cb],str ow,str nm] B (.int .i64 (ZwP f ow nm)):=by
 refine cB 19 Tryz.func59 (h:=?_)
 refine Za (xBx [_,_,_,_,_] (h:=fun b1=>xA (h:=tL1 (Zf (Za (xW Zcv (h:=x1 lk9 0 (h:=xM (h:=xR ZyZ rfl (Zt2 f.owner ow _) (h:=xA (h:=Za (xM (h:=Zbo (h:=Zb rfl (fun g1=>?_) (fun g1=>?_)))))))))))))))
 try simp only [sQ,ne_eq] at g1
 refine Za (xM (h:=xA (h:=Zd (Zn ?_))))
 exact eR t1 ⟨ZaA (by rw [ZwP,if_pos g1]),rfl,rfl⟩
 try simp only [sQ,ne_eq] at g1
 refine wSk (Za (xW ZeT (h:=x1 lk9 0 (h:=xM (h:=xR ZyZ rfl (Zt2 f.name nm _) (h:=xA (h:=Zd ?_)))))))
 exact eR t1 ⟨ZaA (by rw [ZwP,if_neg (fun h=>h g1)]),rfl,rfl⟩

theorem ZtT (b o:Nat) (q1 q2 q3:Option Addr) (c1 c2 c3:Nat) (x:DHost) (u:Str) (B:Kn) (hh:ZaS B b o [str x.domain,.slice q1 x.users.length c1,.slice q2 x.folders.length c2,.int .i64 x.queue.next,.slice q3 x.queue.items.length c3]) (hf:SlK B q2 c2 5 Ze x.folders):ZaE (pj J) 56 [ptr ⟨b,o,none⟩,str u] B (.int .i64 (ZfF x.folders u)):=by
 refine cB 28 Tryz.func56 (h:=?_)
 have hfn:=hf.len
 refine Za (xA (h:=Za (xA (h:=Zf (Za (xM (h:=xNc (h:=xW Z0 (h:=Zo (Zh rfl rfl Zcy rfl (hh _ 2 _ rfl) (xV Tryz.underlying24 (h:=xM (h:=Zl (ZM (α:=Nat × Int) [0,1,4,11,12] (fun g=>[(5,.int .i64 g.2),(13,.int .i64 g.1)]) [] (fun g=>[]) (fun g Bx=>Bx=B∧g.1≤x.folders.length∧g.2=ZfF (x.folders.take g.1) u∧-1*g.1≤g.2∧g.2≤g.1*200) (fun g=>x.folders.length - g.1) (0,0) t2 rfl (⟨rfl,Nat.zero_le _,by simp [ZfF],by simp,by simp⟩) (fun g B1 hle1 hI=>?_)))))))))))))))
 obtain ⟨rfl,hk,hs,hl0,hl1⟩:=hI
 refine ZL [(0,_),(1,_),(4,_),(5,_),(11,_),(12,_),(13,_)] [] t7 rfl (Za (Z9 (h:=Zf (Zb rfl (fun g1=>?_) (fun g1=>?_)))))
 try simp only [sQ,ne_eq] at g1
 refine wSk (Zf (Zl (Za ?_)))
 obtain ⟨m,hm⟩:=Zaf (xs:=x.folders) (i:=g.1) om
 obtain ⟨bb3,oo3,rfl⟩:=hf.base hm
 obtain ⟨_,⟨qg4,cg4,qm4,cm4,rfl,hg4,hm4,hb4,hb4b⟩,hc4⟩:=hf.elem hm
 have hg4n:=hg4.len
 have hm4n:=hm4.len
 have hm4s:=Z4 hm4
 refine xIx Tryz.underlying24 Zbm (h:=yL [_,_,_,_,_] ZhA hc4 0 (h:=xAl [_,_,_,_,_] ZdT (h:=fun b5=>xS [_,_,_,_,_] 0 [_,_,_,_,_] Zbm (h:=tL1 (Za (xW Zcv (h:=x1 lk9 0 (h:=xM (h:=Zc3 (h:=Zb rfl (fun g2=>?_) (fun g2=>?_)))))))))))
 try simp only [sQ,ne_eq] at g2
 have hbs:=Zkt (⟨m.next,m.mail⟩:DBox)
 refine Zc (xM (h:=xW ZbN (h:=xL [_,_] Zbw 0 (h:=xR Zzt rfl (ZrM _ _ (⟨m.next,m.mail⟩:DBox) _ hm4) (h:=xD (h:=xA (h:=Zx (Zj (Zc (xD (h:=xM (h:=?_))))))))))))
 exact ZB (g.1+1,g.2+Zee ⟨m.next,m.mail⟩) [] so2 ⟨rfl,so,by rw [ZjW hm,← hs,if_pos g2],so,so⟩ t7 rfl
 try simp only [sQ,ne_eq] at g2
 refine ZJ (Zx (Zj (Zc (xD (h:=xM (h:=?_))))))
 exact ZB (g.1+1,g.2) [] so2 ⟨rfl,so,by rw [ZjW hm,← hs,if_neg g2,Int.add_zero],so,so⟩ t7 rfl
 try simp only [sQ,ne_eq] at g1
 refine ZT (Zaa (ZW (ZG (Zj (Za (xM (h:=xA (h:=Zd ?_))))))))
 exact eR t1 ⟨ZaA (by rw [← Zqa hs oz]),rfl,rfl⟩

theorem Zmt (b o:Nat) (q1 q2 q3:Option Addr) (c1 c2 c3:Nat) (x:DHost) (u:Str) (more:Int) (hn:u.length≤2000000) (hm0:0≤more) (hm1:more≤2000000) (B:Kn) (hh:ZaS B b o [str x.domain,.slice q1 x.users.length c1,.slice q2 x.folders.length c2,.int .i64 x.queue.next,.slice q3 x.queue.items.length c3]) (hu:SlK B q1 c1 3 Zu x.users) (hf:SlK B q2 c2 5 Ze x.folders):ZaE (pj J) 73 [ptr ⟨b,o,none⟩,str u,.int .i64 more] B (.bool (Zcj x u more)):=by
 refine cB 30 Tryz.func73 (h:=?_)
 have hfn:=hf.len
 have hub:=Zsg x.folders u
 refine Za (xA (h:=Za (xM (h:=xNc (h:=xW Zby (h:=Zo (Zh rfl rfl ZhP rfl (hh _ 1 _ rfl) (xM (h:=xR Zyl rfl (ZfU _ _ _ u om2 _ hu) (h:=?_))))))))))
 refine xM (h:=xE (h:=xE (h:=xAl [_,_,_] Zgl (h:=fun b2=>xS [_,_,_] 0 [_,_,_] ZeC (h:=xA (h:=tL1 (Zf (ZZ (same _ _) mo kr ⟨rfl,rfl⟩ (fun _ _=>?_)))))))))
 refine aM 0 rfl (h:=aN 1 rfl (h:=aM 2 rfl (h:=Zaw (d:=20) rfl (fun g1=>?_) (fun g1=>?_))))
 refine aZ 3 rfl (h:=aZ 4 rfl (h:=aZ 5 rfl (h:=aZ 6 rfl (h:=aZ 7 rfl (h:=aZ 8 rfl (h:=aZ 9 rfl (h:=aZ 10 rfl (h:=aPT 11 rfl (h:=aA 12 rfl (h:=Zz kr kr ?_))))))))))
 refine Zj (Zd ?_)
 exact eR t1 ⟨Zg (by rw [Zcj,g1];rfl),rfl,rfl⟩
 refine aM 3 rfl (h:=aM 4 rfl (h:=aT 5 rfl (Zaj fun D=>Za5 rfl rfl Zy8 rfl (ZtT _ _ _ _ _ _ _ _ x u _ hh hf) r4) (h:=aM 6 rfl (h:=aD 7 rfl (h:=aW 8 rfl ZhH (h:=aT 9 rfl (Zaj fun D=>Zh rfl rfl lk3 rfl (atL 0 rfl rfl rfl) r4) (h:=ZmN 10 rfl (h:=aPF 11 rfl (h:=aA 12 rfl (h:=Zz kr kr ?_))))))))))
 refine Zj (Zd ?_)
 exact eR t1 ⟨Zg (by rw [Zcj,g1];rfl),rfl,rfl⟩

theorem ZoI (b o:Nat) (q1 q2 q3:Option Addr) (c1 c2 c3:Nat) (x:DHost) (B:Kn) (hh:ZaS B b o [str x.domain,.slice q1 x.users.length c1,.slice q2 x.folders.length c2,.int .i64 x.queue.next,.slice q3 x.queue.items.length c3]) (hu:SlK B q1 c1 3 Zu x.users) (hf:SlK B q2 c2 5 Ze x.folders):ZaE (pj J) 61 [ptr ⟨b,o,none⟩] B (.bool (Zin x)):=by
 refine cB 26 Tryz.func61 (h:=?_)
 have hfn:=hf.len
 have hun:=hu.len
 refine Za (xA (h:=Zf (Za (xM (h:=xNc (h:=xW Zby (h:=Zo (Zh rfl rfl ZhP rfl (hh _ 1 _ rfl) (xV Tryz.underlying23 (h:=xM (h:=Zl (ZM (α:=Nat) [0,8,9] (fun k=>[(10,.int .i64 k)]) [] (fun k=>[]) (fun k Bx=>Bx=B∧k≤x.users.length∧∀z,z∈x.users.take k→Zc1 x z=true) (fun k=>x.users.length - k) 0 t1 rfl (⟨rfl,Nat.zero_le _,by simp⟩) (fun k B1 hle1 hI=>?_)))))))))))))
 obtain ⟨rfl,hk,ha⟩:=hI
 refine ZL [(0,_),(8,_),(9,_),(10,_)] [] t4 rfl (Za (Z9 (h:=Zf (Zb rfl (fun g1=>?_) (fun g1=>?_)))))
 try simp only [sQ,ne_eq] at g1
 refine wSk (Zf (Zl (Za ?_)))
 obtain ⟨w,hw⟩:=Zaf (xs:=x.users) (i:=k) om
 obtain ⟨bb3,oo3,rfl⟩:=hu.base hw
 obtain ⟨_,⟨rfl,hb4,hb4b⟩,hc4⟩:=hu.elem hw
 refine xIx Tryz.underlying23 ZeC (h:=yL [_,_,_] Zoj hc4 0 (h:=xAl [_,_,_] Zgl (h:=fun b5=>xS [_,_,_] 0 [_,_,_] ZeC (h:=tL1 (Za (xM (h:=xW Zdc (h:=x1 lk9 0 (h:=xR Zzb rfl (ZtZ _ _ _ _ _ _ _ _ x w.name [105,110,98,111,120] om2 om2 _ hh hf) (h:=?_))))))))))
 refine Z9 (h:=xM (h:=Zp (d:=19) rfl (fun g2=>?_) (fun g2=>?_)))
 try simp only [sQ,ne_eq] at g2
 refine xP (h:=xP (h:=xP (h:=xP (h:=xT (h:=Zb (t:=true) rfl (fun _=>Za (xA (h:=Zd (ZE (Zn (Z3 (ZE (Zn ?_)))))))) (fun h=>Bool.noConfusion h))))))
 exact eR t1 ⟨Zg (Zc2 hw (ZlD g2)).symm,rfl,rfl⟩
 try simp only [sQ,ne_eq] at g2
 refine xM (h:=xW Zdc (h:=x1 lk9 0 (h:=xR Zy4 rfl (Zmt _ _ _ _ _ _ _ _ x w.name 0 om2 om2 om2 _ hh hu hf) (h:=?_))))
 refine xF (h:=Zb rfl (fun g3=>?_) (fun g3=>?_))
 try simp only [sQ,ne_eq] at g3
 refine Za (xA (h:=Zd (ZE (Zn (Z3 (ZE (Zn ?_)))))))
 exact eR t1 ⟨Zg (Zc2 hw (ZlC g3)).symm,rfl,rfl⟩
 try simp only [sQ,ne_eq] at g3
 refine ZJ (Zx (Zj (Zc (xD (h:=xM (h:=?_))))))
 exact ZB (k+1) [] so2 ⟨rfl,oz,Zbp hw ha (ZlB g2 g3)⟩ t4 rfl
 try simp only [sQ,ne_eq] at g1
 refine ZT (Zaa (ZW (ZG (Zj (Za (xA (h:=Zd ?_)))))))
 exact eR t1 ⟨Zg (ZeP (ZbK oz ha)).symm,rfl,rfl⟩

theorem ZsV (q:Option Addr) (cp:Nat) (bs:List Bool) (v:Bool) (B:Kn) (hb:SlK B q cp 1 Zvy bs):ZaE (pj J) 148 [.slice q bs.length cp,.bool v] B (.int .i64 (ZaM (fun y=>decide (v=y)) bs)):=by
 refine cB 19 Tryz.func148 (h:=?_)
 have hbn:=hb.len
 refine Za (xA (h:=Zf (Za (xM (h:=xV Tryz.underlying141 (h:=xM (h:=Zl (ZM (α:=Nat) [0,1,7] (fun k=>[(8,.int .i64 k)]) [] (fun k=>[]) (fun k Bx=>Bx=B∧k≤bs.length∧∀y,y∈bs.take k→decide (v=y)=false) (fun k=>bs.length - k) 0 t1 rfl (⟨rfl,Nat.zero_le _,by simp⟩) (fun k B1 hle1 hI=>?_)))))))))
 obtain ⟨rfl,hk,ha⟩:=hI
 refine ZL [(0,_),(1,_),(7,_),(8,_)] [] t4 rfl (Za (Z9 (h:=Zf (Zb rfl (fun g1=>?_) (fun g1=>?_)))))
 try simp only [sQ,ne_eq] at g1
 refine wSk (Zf (Zl (Za (xM (h:=xA (h:=Za (xM (h:=xM (h:=xM (h:=?_))))))))))
 obtain ⟨y,hy⟩:=Zaf (xs:=bs) (i:=k) om
 obtain ⟨bb3,oo3,rfl⟩:=hb.base hy
 obtain ⟨_,rfl,hc4⟩:=hb.elem hy
 refine xIx Tryz.underlying141 sz4 (h:=y1 lk4 hc4 0 (h:=Zo (Zp4 rfl rfl rfl rfl rfl (ZwB Tryz.underlying4) (Zb rfl (fun g2=>?_) (fun g2=>?_)))))
 try simp only [sQ,ne_eq] at g2
 refine Za (xM (h:=xA (h:=Zd (ZE (Zn (Z3 (ZE (Zn ?_))))))))
 exact eR t1 ⟨ZaA (Zh4 hy (decide_eq_true g2) ha).symm,rfl,rfl⟩
 try simp only [sQ,ne_eq] at g2
 refine ZJ (Zx (Zj (Zc (xD (h:=xM (h:=?_))))))
 exact ZB (k+1) [] so2 ⟨rfl,oz,Zbp hy ha (decide_eq_false g2)⟩ t4 rfl
 try simp only [sQ,ne_eq] at g1
 refine ZT (Zaa (ZW (ZG (Zj (Za (xA (h:=Zd ?_)))))))
 exact eR t1 ⟨ZaA (Zfd (ZbK oz ha)).symm,rfl,rfl⟩

theorem ZnJ (q:Option Addr) (cp:Nat) (bs:List Bool) (v:Bool) (B:Kn) (hb:SlK B q cp 1 Zvy bs):ZaE (pj J) 102 [.slice q bs.length cp,.bool v] B (.bool (decide (0≤ZaM (fun y=>decide (v=y)) bs))):=by
 refine cB 9 Tryz.func102 (h:=?_)
 refine Za (xA (h:=Za (xM (h:=xM (h:=xR Zyw rfl (ZsV _ _ _ _ _ hb) (h:=Zd6 (h:=xA (h:=Zd ?_))))))))
 exact eR t1 ⟨rfl,rfl,rfl⟩

theorem Zmc (l:Str) (hl:l.length≤2000000) (B:Kn):ZaE (pj J) 57 [str l] B (.bool (Zcl l)):=by
 refine cB 16 Tryz.func57 (h:=?_)
 refine Za (xA (h:=Za (xM (h:=xB [(0,_)] [_,_] [_,_] Zwf Zr9 (h:=xAl [_,_] Zr9 (h:=fun b1=>xS [_,_] 0 [_,_] Zv9 (h:=tL1 (Za (Zo (ZjS 0 rfl rfl rfl Zzs rfl (Ztl _ _ 0 oz oz _) ?_))))))))))
 refine xM (h:=xE (h:=xE (h:=xA (h:=xA (h:=Za (xM (h:=xM (h:=Zp (d:=13) rfl (fun g1=>?_) (fun g1=>?_)))))))))
 refine Zo (Zii 0 rfl rfl rfl Zw8 rfl (Zoy _ _ (dom l 0).2 (ZwO (Nat.zero_le _)) oz _) ?_)
 refine xT (h:=xA (h:=Zd ?_))
 exact eR t1 ⟨Zg (by rw [Bool.eq_iff_iff,← Zmv];simp [ZnG] at g1;simp [g1];try omega),rfl,rfl⟩
 refine xP (h:=xF (h:=xA (h:=Zd ?_)))
 exact eR t1 ⟨Zg (by symm;rw [Bool.eq_false_iff,ne_eq,← Zmv];intro hc;simp [ZnG,hc.1] at g1;omega),rfl,rfl⟩

theorem Zk4 (Wg C n i b o b1 b3 b5 b6:Nat) (q1 q2 q3:Option Addr) (c1 c2 c3:Nat) (x:DHost) (m:DFolder) (qg qm:Option Addr) (cg cm:Nat) (hin:i<n) (B:Kn) (hc900:ZaS B b o [str x.domain,.slice q1 x.users.length c1,.slice q2 x.folders.length c2,.int .i64 x.queue.next,.slice q3 x.queue.items.length c3]) (hu:SlK B q1 c1 3 Zu x.users) (hc901:ZaS B b1 0 [ptr ⟨b,o,none⟩]) (hc903:ZaS B b3 0 [.slice (some ⟨C,0,none⟩) n n]) (hc905:ZaS B b5 0 [.int .i64 i]) (hc906:ZaS B b6 0 [str m.owner,str m.name,.slice qg m.grants.length cg,.int .i64 m.next,.slice qm m.mail.length cm]) (hg:SlK B qg cg 2 ZX m.grants) (hm:SlK B qm cm 3 ZO m.mail) (ho:m.owner.length≤2000000) (hnm:m.name.length≤2000000):@ZeR ⟨4⟩ Tryz.prog wgL.tWg Wg C n i (.bool (Za8 x.users m)) (Go.Conc.G (Frame.enter Tryz.prog 98 #[ptr ⟨Wg,0,none⟩,ptr ⟨b1,0,none⟩,ptr ⟨b6,0,none⟩,ptr ⟨b3,0,none⟩,ptr ⟨b5,0,none⟩] .deferred) [Zgg Tryz.prog]) B []:=by
 letI:Go.ConcR.Payload:=⟨4⟩
 refine Zub (Lk:=wgL) (P:=Tryz.prog) (caps:=[ptr ⟨Wg,0,none⟩,ptr ⟨b1,0,none⟩,ptr ⟨b6,0,none⟩,ptr ⟨b3,0,none⟩,ptr ⟨b5,0,none⟩]) (nt:=27) (I:=keeps B [] []) (K:=fun _ _ _ _=>False) ZmP Tryz.func98 rfl rfl (Nat.le_of_ble_eq_true rfl) rfl mo kr ⟨Kn.le.refl _,Zag.refl _ _⟩ (fun _ _ _ _ h=>h) ?_
 refine aT 0 rfl (ZC fun D B L hI=>Zh rfl rfl Zwn rfl ((hc903.mono hI.1) _ 0 _ rfl) r4) (h:=aT 1 rfl (ZC fun D B L hI=>Zh rfl rfl lk3 rfl ((hc905.mono hI.1) _ 0 _ rfl) r4) (h:=aT 2 rfl (ZC fun D B L hI=>Zh rfl rfl ZxP rfl ((hc901.mono hI.1) _ 0 _ rfl) r4) (h:=aW 3 rfl Zcv (h:=aT 4 rfl (ZC fun D B L hI=>Zh rfl rfl lk9 rfl ((hc906.mono hI.1) _ 0 _ rfl) r4) (h:=aT 5 rfl (ZC fun D B L hI=>Za5 rfl rfl ZwD rfl (ZgE _ _ _ _ _ _ _ _ x m.owner om2 _ (hc900.mono hI.1) (hu.mono Zu.mono hI.1)) r4) (h:=?_))))))
 refine aM 6 rfl (h:=Zaw (d:=11) rfl (fun g1=>?_) (fun g1=>?_))
 refine aW 7 rfl ZeT (h:=aT 8 rfl (ZC fun D B L hI=>Zh rfl rfl lk9 rfl ((hc906.mono hI.1) _ 1 _ rfl) r4) (h:=aT 9 rfl (ZC fun D B L hI=>Za5 rfl rfl Zt1 rfl (Zcs _ om2 _) r4) (h:=?_)))
 refine aPT 10 rfl (h:=aM 11 rfl (h:=Zaw (d:=16) rfl (fun g2=>?_) (fun g2=>?_)))
 refine aW 12 rfl ZdJ (h:=aT 13 rfl (ZC fun D B L hI=>Zh rfl rfl Zr6 rfl ((hc906.mono hI.1) _ 2 _ rfl) r4) (h:=aT 14 rfl (ZC fun D B L hI=>Za5 rfl rfl ZyS rfl (Zq0 _ _ _ _ (hg.mono ZX.mono hI.1)) r4) (h:=aPT 15 rfl (h:=aM 16 rfl (h:=Zaw (d:=21) rfl (fun g3=>?_) (fun g3=>?_))))))
 refine aW 17 rfl ZbN (h:=aT 18 rfl (ZC fun D B L hI=>ZS [_,_] rfl rfl Zbw rfl (ZiB (hc906.mono hI.1) 3 rfl rfl) r4) (h:=aT 19 rfl (ZC fun D B L hI=>Za5 rfl rfl ZxY rfl (ZiV _ _ (⟨m.next,m.mail⟩:DBox) _ (hm.mono ZO.mono hI.1)) r4) (h:=aPT 20 rfl (h:=aT 21 rfl (ZC fun D B L hI=>Zba rfl rfl Tryz.underlying141 sz4 rfl rfl oz oz r4) (h:=?_)))))
 refine Zia 22 kr rfl kr kr kr (fun T hn hT=>?_)
 refine Zgm (L:=[]) hT ZmP (by simp [Za8,DFolder.box,g1,g2,g3]) rfl hin rfl Tryz.sizeOf4 (Zdn sz4) (by exact Zh0 C i) rfl kr Tryz.func98 rfl
 refine aZ 17 rfl (h:=aZ 18 rfl (h:=aZ 19 rfl (h:=aPF 20 rfl (h:=aT 21 rfl (ZC fun D B L hI=>Zba rfl rfl Tryz.underlying141 sz4 rfl rfl oz oz r4) (h:=?_)))))
 refine Zia 22 kr rfl kr kr kr (fun T hn hT=>?_)
 refine Zgm (L:=[]) hT ZmP (by simp [Za8,DFolder.box,g1,g2,g3]) rfl hin rfl Tryz.sizeOf4 (Zdn sz4) (by exact Zh0 C i) rfl kr Tryz.func98 rfl
 refine aZ 12 rfl (h:=aZ 13 rfl (h:=aZ 14 rfl (h:=aPF 15 rfl (h:=aM 16 rfl (h:=aZ 17 rfl (h:=aZ 18 rfl (h:=aZ 19 rfl (h:=aPF 20 rfl (h:=aT 21 rfl (ZC fun D B L hI=>Zba rfl rfl Tryz.underlying141 sz4 rfl rfl oz oz r4) (h:=?_))))))))))
 refine Zia 22 kr rfl kr kr kr (fun T hn hT=>?_)
 refine Zgm (L:=[]) hT ZmP (by simp [Za8,DFolder.box,g1,g2]) rfl hin rfl Tryz.sizeOf4 (Zdn sz4) (by exact Zh0 C i) rfl kr Tryz.func98 rfl
 refine aZ 7 rfl (h:=aZ 8 rfl (h:=aZ 9 rfl (h:=aPF 10 rfl (h:=aM 11 rfl (h:=aZ 12 rfl (h:=aZ 13 rfl (h:=aZ 14 rfl (h:=aPF 15 rfl (h:=aM 16 rfl (h:=aZ 17 rfl (h:=aZ 18 rfl (h:=aZ 19 rfl (h:=aPF 20 rfl (h:=aT 21 rfl (ZC fun D B L hI=>Zba rfl rfl Tryz.underlying141 sz4 rfl rfl oz oz r4) (h:=?_)))))))))))))))
 refine Zia 22 kr rfl kr kr kr (fun T hn hT=>?_)
 refine Zgm (L:=[]) hT ZmP (by simp [Za8,DFolder.box,g1]) rfl hin rfl Tryz.sizeOf4 (Zdn sz4) (by exact Zh0 C i) rfl kr Tryz.func98 rfl

theorem ZjL (hJ:Joins Tryz.prog J) (b o:Nat) (q1 q2 q3:Option Addr) (c1 c2 c3:Nat) (x:DHost) (B:Kn) (hc900:ZaS B b o [str x.domain,.slice q1 x.users.length c1,.slice q2 x.folders.length c2,.int .i64 x.queue.next,.slice q3 x.queue.items.length c3]) (hu:SlK B q1 c1 3 Zu x.users) (hf:SlK B q2 c2 5 Ze x.folders):Zv (pj J) 60 [ptr ⟨b,o,none⟩] B [] (fun v B' Ls=>Ls=[]∧v = .bool (x.folders.all (Za8 x.users))):=by
 have hfn:=hf.len
 letI:Go.ConcR.Payload:=⟨4⟩
 refine Ztq 30 Tryz.func60 rfl rfl (Nat.le_of_ble_eq_true rfl) fun X kind c cs F T0 hk hke hA hn0 hT0=>?_
 let C0:Cx (pj J):=⟨X,fb 60 kind,c :: cs,F,hke⟩
 refine Zfj (C:=C0) (L:=[]) (Zkr (C:=C0) (L:=[]) hn0 hT0 (xBx [_] (h:=fun b1=>xA (h:=?_))))
 intro T1 hn1 hT1
 refine Zmw (C:=C0) rfl 0 rfl fun B1 hle1 hm1=>?_
 have hc901:=Zbq hm1
 replace hc900:=hc900.mono hle1
 obtain ⟨hu,hf⟩:=up2 hle1 hu hf
 replace hA:=fun v B' Ls' h=>hA v B' Ls' (hle1.trans h)
 refine Zfj (C:=C0) (L:=[[]]) (Zkr (C:=C0) (L:=[[]]) hn1 hT1 (y1 ZxP hc901 0 (h:=xNc (h:=xW Z0 (h:=y1 Zcy hc900 2 (h:=xV Tryz.underlying24 (h:=Zo (ZfP (m:=x.folders.length) (c:=x.folders.length) (by_:=1) [.bool false] rfl rfl ZxV zo4 rfl rfl ⟨_,_,rfl,rfl⟩ ⟨_,_,rfl,rfl⟩ (Nat.le_refl _) oz (fun Cb=>?_)))))))))
 refine xAl [_] Zxj (h:=fun b2=>xS [_] 2 [_] ZxC (h:=?_))
 intro T2 hn2 hT2
 refine Zmw (C:=C0) rfl 2 rfl fun B2 hle2 hm2=>?_
 have hc903:=Zbq hm2
 replace hc900:=hc900.mono hle2
 obtain ⟨hu,hf⟩:=up2 hle2 hu hf
 replace hc901:=hc901.mono hle2
 replace hA:=fun v B' Ls' h=>hA v B' Ls' (hle2.trans h)
 refine Zfj (C:=C0) (L:=[[],Zar Cb (zrow [.bool false] x.folders.length) 4,[]]) (ZgK (C:=C0) (L:=[[],Zar Cb (zrow [.bool false] x.folders.length) 4,[]]) (ZsA (C:=Cb) (n:=x.folders.length) (val:=Zr4 x) (L₁:=F) (cells:=(zrow [.bool false] x.folders.length).toArray) (i:=0) (todo:=[]) hJ rfl hke Zxi rfl oz (by simp [ZcA]) (.refl _) (fun hmain Wg hW1 hW2=>?_)))
 let C1:Cx (.lone Tryz.prog):=⟨phL Tryz.prog 151 Wg Cb x.folders.length (Zr4 x) X.R .a5 (0),fb 60 kind,c :: cs,F,hke⟩
 have hT3:=hT2.putT (n:=30) (dst:=some 4) hn2 rfl (ptr ⟨Wg,0,none⟩)
 have hn3:(putT T2 (some 4) (ptr ⟨Wg,0,none⟩)).size=30:=by rw [ZbC,hn2]
 refine Zdt (C:=C1) (L:=[]) (Zfj (C:=C1) (L:=[]) (Zfj (C:=C1) (L:=[]) (Zkr (C:=C1) (L:=[]) hn3 hT3 (y1 ZxP hc901 0 (h:=xNc (h:=xW Z0 (h:=y1 Zcy hc900 2 (h:=xV Tryz.underlying24 (h:=xM (h:=?_))))))))))
 intro T4 hn4 hT4
 refine Zoz (C:=C1) (L:=[]) (Zuu (nt:=30) (fun j=>[(1,ptr ⟨b1,0,none⟩),(3,ptr ⟨b2,0,none⟩),(4,ptr ⟨Wg,0,none⟩),(16,.slice q2 x.folders.length c2),(17,.int .i64 x.folders.length),(18,.int .i64 ((j:Nat):Int))]) (fun j hj B3 T5 hle3 hn5 hT5 hnext=>?_) hn4 (hT4.sub' t6))
 replace hc900:=hc900.mono hle3
 obtain ⟨hu,hf⟩:=up2 hle3 hu hf
 replace hc901:=hc901.mono hle3
 replace hc903:=hc903.mono hle3
 replace hA:=fun v B' Ls' h=>hA v B' Ls' (hle3.trans h)
 let C2:Cx (.lone Tryz.prog):=⟨phL Tryz.prog 151 Wg Cb x.folders.length (Zr4 x) X.R .a5 (j),fb 60 kind,c :: cs,F,hke⟩
 refine Zfj (C:=C2) (L:=[]) (Zkr (C:=C2) (L:=[]) hn5 hT5 (Z9 (h:=?_)))
 intro T6 hn6 hT6
 refine Zfj (C:=C2) (L:=[]) ?_
 rcases Nat.lt_or_ge j x.folders.length with hlt | hge
 refine ZrF (C:=C2) (L:=[]) (t:=true) (by exact congrArg (fun t=>some (Value.bool t)) (decide_eq_true oz)) hT6 ?_
 refine Zvn (C:=C2) (L:=[]) (Zfj (C:=C2) (L:=[]) (Zoz (C:=C2) (L:=[]) (Zfj (C:=C2) (L:=[]) (Zkr (C:=C2) (L:=[]) hn6 hT6 (xM (h:=?_))))))
 obtain ⟨m,hm⟩:=Zaf (xs:=x.folders) (i:=j) om
 obtain ⟨bb4,oo4,rfl⟩:=hf.base hm
 obtain ⟨_,⟨qg5,cg5,qm5,cm5,rfl,hg5,hm5,hb5,hb5b⟩,hc5⟩:=hf.elem hm
 have hg5n:=hg5.len
 have hm5n:=hm5.len
 have hm5s:=Z4 hm5
 refine xIx Tryz.underlying24 Zbm (h:=yL [_,_,_,_,_] ZhA hc5 0 (h:=xAl [_] zo3 (h:=fun b6=>xAl [_,_,_,_,_] ZdT (h:=fun b7=>xS [_] 0 [_] sz3 (h:=xS [_,_,_,_,_] 1 [_,_,_,_,_] Zbm (h:=?_))))))
 intro T7 hn7 hT7
 refine Zmw (C:=C2) rfl 0 rfl fun B4 hle4 hpm4=>?_
 have hc905:=Zbq hpm4
 refine Zmw (C:=C2) rfl 1 rfl fun B5 hle5 hpm5=>?_
 have hc906:=Zbq hpm5
 replace hc905:=hc905.mono hle5
 replace hc900:=hc900.mono (hle4.trans hle5)
 replace hu:=hu.mono Zu.mono (hle4.trans hle5)
 replace hc901:=hc901.mono (hle4.trans hle5)
 replace hc903:=hc903.mono (hle4.trans hle5)
 replace hg5:=hg5.mono ZX.mono (hle4.trans hle5)
 replace hm5:=hm5.mono ZO.mono (hle4.trans hle5)
 refine Zfj (C:=C2) (L:=[[],[]]) (ZgK (C:=C2) (L:=[[],[]]) (Zwi (Lk:=wgL) (i:=0) (todo:=[]) ZmP hlt rfl Zzp rfl rfl hT7 hke ?_))
 let C3:Cx (.lone Tryz.prog):=⟨phL Tryz.prog 151 Wg Cb x.folders.length (Zr4 x) X.R .a2 (j),fb 60 kind,c :: cs,F,hke⟩
 have hT8:=hT7.putT (n:=30) (dst:=(some 23)) hn7 rfl (.tuple #[])
 have hn8:(putT T7 (some 23) (.tuple #[])).size=30:=by rw [ZbC,hn7]
 refine Zdt (C:=C3) (L:=[]) (ZgK (C:=C3) (L:=[]) (ZyT (C:=C3) (L:=[]) (i:=0) (todo:=[1]) rfl hn8 hT8 (Zo (Zdu (xs:=[]) (ys:=[.tmp 4,.tmp 1,.tmp 6,.tmp 3,.tmp 5]) rfl rfl rfl rfl ?_))))
 intro T9 hn9 hT9
 refine ZxM (i:=1) (todo:=[]) rfl rfl hT9 hke Tryz.func98 rfl rfl (by rw [Zn0 hm];exact Zk4 Wg Cb x.folders.length j b o b1 b2 b6 b7 _ _ _ _ _ _ x m _ _ _ _ hlt B5 hc900 hu hc901 hc903 hc905 hc906 hg5 hm5 hb5 hb5b) ?_
 let C4:Cx (.lone Tryz.prog):=⟨phL Tryz.prog 151 Wg Cb x.folders.length (Zr4 x) X.R .a5 (j+1),fb 60 kind,c :: cs,F,hke⟩
 refine Zdt (C:=C4) (L:=[]) (ZpF (C:=C4) (L:=[]) ?_)
 have hn10:=hn9
 have hT10:=hT9
 refine Zkr (C:=C4) (L:=[]) hn10 hT10 (xD (h:=xM (h:=?_)))
 intro T11 hn11 hT11
 exact hnext hlt _ _ (hle4.trans hle5) hn11 (hT11.sub' t6)
 obtain rfl:j=x.folders.length:=by omega
 refine ZrF (C:=C2) (L:=[]) (t:=false) (by exact congrArg (fun t=>some (Value.bool t)) (decide_eq_false oz)) hT6 ?_
 refine Zvo (C:=C2) (L:=[]) (by rfl) ?_
 refine Zfj (C:=C2) (L:=[]) (ZgK (C:=C2) (L:=[]) (Zut (Lk:=wgL) (X:=X) (i:=0) (todo:=[]) ZmP oz rfl ZyR rfl hT6 hke (fun _ _ _ h=>h) ?_))
 have hT7:=hT6.putT (n:=30) (dst:=(some 26)) hn6 rfl (.tuple #[])
 have hn7:(putT T6 (some 26) (.tuple #[])).size=30:=by rw [ZbC,hn6]
 refine Zdt (C:=C0) (L:=[[(Cb,Obj.cells ((List.range x.folders.length).map (Zr4 x)).toArray 4 (0,0))]]) (Zmw (C:=C0) (L:=[[(Cb,Obj.cells ((List.range x.folders.length).map (Zr4 x)).toArray 4 (0,0))]]) rfl 0 rfl fun B4 hle4 hm4=>?_)
 have hvb:=Zp8 hm4 hfn
 replace hc903:=hc903.mono hle4
 replace hA:=fun v B' Ls' h=>hA v B' Ls' (hle4.trans h)
 refine Zu1 Tryz.func60 rfl hk hke hn7 hT7 hA ?_
 rw [show (x.folders.length:Nat)=(x.folders.map (Za8 x.users)).length from (List.length_map ..).symm] at hc903
 refine Za (y1 Zwn hc903 0 (h:=xR ZyQ rfl (ZnJ _ _ _ _ _ hvb) (h:=xN (h:=xA (h:=tL1 (Zd ?_))))))
 exact eR t1 ⟨rfl,congrArg Value.bool Zlj⟩

theorem Zf7 (hJ:Joins Tryz.prog J) (q1 q2 q3:Option Addr) (c1 c2 c3:Nat) (x:DHost) (hd:x.domain.length≤2000000) (B:Kn) (hu:SlK B q1 c1 3 Zu x.users) (hf:SlK B q2 c2 5 Ze x.folders) (hi:SlK B q3 c3 4 Zy x.queue.items):Zv (pj J) 19 [.agg #[str x.domain,.slice q1 x.users.length c1,.slice q2 x.folders.length c2,.int .i64 x.queue.next,.slice q3 x.queue.items.length c3]] B [] (fun v B' Ls=>Ls=[]∧v = .bool (Zw x)):=by
 refine cB 63 Tryz.func19 (h:=?_)
 rw [← Zpp]
 have hfn:=hf.len
 have hun:=hu.len
 have hin:=hi.len
 refine Za (xBx [_,_,_,_,_] (h:=fun b1=>xA (h:=tL1 (ZjG 0 rfl (fun B2 hle2 hpm2=>?_)))))
 have hc2:=Zbq hpm2
 obtain ⟨hu,hf,hi⟩:=up3 hle2 hu hf hi
 refine Zf (Za (xW Zi7 (h:=y1 lk9 hc2 0 (h:=xR ZzM rfl (Zmc _ om2 _) (h:=?_)))))
 refine xN (h:=xM (h:=Zp (d:=10) rfl (fun g1=>?_) (fun g1=>?_)))
 try simp only [sQ,ne_eq] at g1
 refine xP (h:=xP (h:=xP (h:=xP (h:=xT (h:=xM (h:=xP (h:=xP (h:=xP (h:=xP (h:=xT (h:=xM (h:=xP (h:=xP (h:=xP (h:=xP (h:=xT (h:=tL1 (Zb (t:=true) rfl (fun _=>Za (xA (h:=Zd (Zn ?_)))) (fun h=>Bool.noConfusion h)))))))))))))))))))
 exact eR t1 ⟨rfl,Zg (by simp [ZdI,g1])⟩
 try simp only [sQ,ne_eq] at g1
 refine xW Zby (h:=y1 ZhP hc2 1 (h:=xR Zy9 rfl (ZiU _ _ _ _ hu) (h:=xN (h:=xF (h:=xM (h:=Zp (d:=16) rfl (fun g2=>?_) (fun g2=>?_)))))))
 try simp only [sQ,ne_eq] at g2
 refine xP (h:=xP (h:=xP (h:=xP (h:=xT (h:=xM (h:=xP (h:=xP (h:=xP (h:=xP (h:=xT (h:=tL1 (Zb (t:=true) rfl (fun _=>Za (xA (h:=Zd (Zn ?_)))) (fun h=>Bool.noConfusion h)))))))))))))
 exact eR t1 ⟨rfl,Zg (by simp [ZdI,g1,g2])⟩
 try simp only [sQ,ne_eq] at g2
 refine xW Zcf (h:=yL [_,_] ZdR hc2 3 (h:=xR ZzL rfl (Znr _ _ x.queue _ hi) (h:=xN (h:=xF (h:=xM (h:=Zp (d:=22) rfl (fun g3=>?_) (fun g3=>?_)))))))
 try simp only [sQ,ne_eq] at g3
 refine xP (h:=xP (h:=xP (h:=xP (h:=xT (h:=tL1 (Zb (t:=true) rfl (fun _=>Za (xA (h:=Zd (Zn ?_)))) (fun h=>Bool.noConfusion h)))))))
 exact eR t1 ⟨rfl,Zg (by simp [ZdI,g1,g2,g3])⟩
 try simp only [sQ,ne_eq] at g3
 refine xW Z0 (h:=y1 Zcy hc2 2 (h:=xV Tryz.underlying24 (h:=Zbv (h:=xF (h:=tL1 (Zb rfl (fun g4=>?_) (fun g4=>?_)))))))
 try simp only [sQ,ne_eq] at g4
 refine Za (xA (h:=Zd (Zn ?_)))
 exact eR t1 ⟨rfl,Zg (by simp [ZdI];intros;omega)⟩
 try simp only [sQ,ne_eq] at g4
 refine wSk (Zf (Za (xW Z0 (h:=y1 Zcy hc2 2 (h:=xW Z0 (h:=y1 Zcy hc2 2 (h:=xV Tryz.underlying24 (h:=xU (h:=Zo (Zxq (m:=(x.folders.length - 1)) rfl rfl rfl rfl om ?_))))))))))
 have hsl:((x.folders.take (x.folders.length - 1)).drop 0).length=x.folders.length - 1:=by simp
 obtain ⟨hq6,q6,cp6,hv6,hr6⟩:=hf.cutE 0 (x.folders.length - 1) om om
 have hr6n:=hr6.len
 refine Zo (Zhq (a:=0) (b:=(x.folders.length - 1)) hv6 om hq6 rfl rfl Tryz.underlying24 Zbm rfl rfl ⟨_,_,rfl,by first | omega | (simp;done) | (simp;omega)⟩ ?_)
 refine xV Tryz.underlying24 (h:=xM (h:=Zl (ZM (α:=Nat) [0,1,27,35,36] (fun k=>[(37,.int .i64 k)]) [] (fun k=>[]) (fun k Bx=>Bx=B2∧k≤x.folders.length - 1∧ZtD x.folders k) (fun k=>x.folders.length - k) 0 t1 rfl (⟨rfl,Nat.zero_le _,Zo0⟩) (fun k B7 hle7 hI=>?_))))
 obtain ⟨rfl,hk,hord⟩:=hI
 refine ZL [(0,_),(1,_),(27,_),(35,_),(36,_),(37,_)] [_] t6 rfl (Za (Z9 (h:=Zf (Zb rfl (fun g5=>?_) (fun g5=>?_)))))
 try simp only [sQ,ne_eq] at g5
 refine wSk (Zf (Zl (Za (xM (h:=?_)))))
 obtain ⟨fa,hfa⟩:=Zaf (xs:=((x.folders.take (x.folders.length - 1)).drop 0)) (i:=k) om
 obtain ⟨bb9,oo9,rfl⟩:=hr6.base hfa
 obtain ⟨_,⟨qg10,cg10,qm10,cm10,rfl,hg10,hm10,hb10,hb10b⟩,hc10⟩:=hr6.elem hfa
 have hg10n:=hg10.len
 have hm10n:=hm10.len
 have hm10s:=Z4 hm10
 refine xIx Tryz.underlying24 Zbm (h:=?_)
 have hfa0:x.folders[k]? = some fa:=by rw [List.drop_zero,List.getElem?_take] at hfa;split at hfa <;> simp_all
 refine yL [_,_,_,_,_] ZhA hc10 0 (h:=xAl [_,_,_,_,_] ZdT (h:=fun b11=>xA (h:=xS [_,_,_,_,_] 1 [_,_,_,_,_] Zbm (h:=tL2 (Za (xW Z0 (h:=y1 Zcy hc2 2 (h:=xM (h:=xD (h:=?_))))))))))
 obtain ⟨fb,hfb⟩:=Zaf (xs:=x.folders) (i:=(k+1)) om
 obtain ⟨bb13,oo13,rfl⟩:=hf.base hfb
 obtain ⟨_,⟨qg14,cg14,qm14,cm14,rfl,hg14,hm14,hb14,hb14b⟩,hc14⟩:=hf.elem hfb
 have hg14n:=hg14.len
 have hm14n:=hm14.len
 have hm14s:=Z4 hm14
 refine xIx Tryz.underlying24 Zbm (h:=yL [_,_,_,_,_] ZhA hc14 0 (h:=xAl [_,_,_,_,_] ZdT (h:=fun b15=>xS [_,_,_,_,_] 2 [_,_,_,_,_] Zbm (h:=tL3 (Za (xL [_,_,_,_,_] ZhA 1 (h:=xW Zcv (h:=x1 lk9 2 (h:=xW ZeT (h:=x1 lk9 2 (h:=xR ZzK rfl (Zny fa _ _ _ _ fb.owner fb.name _) (h:=Zd6 (h:=Zb rfl (fun g6=>?_) (fun g6=>?_))))))))))))))
 try simp only [sQ,ne_eq] at g6
 refine Za (xA (h:=Zd (ZE (Zn (Z3 (ZE (Zn ?_)))))))
 exact eR t1 ⟨rfl,Zg (by simp [ZdI,ZsD hfa0 hfb ((Zmy fa fb).1 g6)])⟩
 try simp only [sQ,ne_eq] at g6
 refine ZJ (Zx (Zj (Zc (xD (h:=xM (h:=?_))))))
 exact ZB (k+1) [0] so2 ⟨rfl,oz,Zo1 hord hfa0 hfb (by rw [← Bool.not_eq_false,← Zmy];omega)⟩ t6 rfl
 try simp only [sQ,ne_eq] at g5
 have ho:=ZsC (fs:=x.folders) (fun i a b h=>hord i a b oz)
 refine ZT (Zaa (ZW (ZG (Zj (Za (xQ ZzJ rfl (ZjL hJ _ _ _ _ _ _ _ _ x _ hc2 hu hf) (h:=?_)))))))
 intro v17 B17 hle17
 rintro rfl
 obtain ⟨hu,hf,hi⟩:=up3 hle17 hu hf hi
 replace hc2:=hc2.mono hle17
 refine xM (h:=Zp (d:=57) rfl (fun g7=>?_) (fun g7=>?_))
 try simp only [sQ,ne_eq] at g7
 refine xR ZzI rfl (ZoI _ _ _ _ _ _ _ _ x _ hc2 hu hf) (h:=xT (h:=xM (h:=Zp (d:=60) rfl (fun g8=>?_) (fun g8=>?_))))
 try simp only [sQ,ne_eq] at g8
 refine xR ZzH rfl (Znc _ _ _ _ _ _ _ _ x _ hc2 hu hi) (h:=xT (h:=xA (h:=Zd ?_)))
 exact eR t1 ⟨rfl,Zg (by simp [ZdI,g1,g2,g3,ho,g7,g8];try omega)⟩
 try simp only [sQ,ne_eq] at g8
 refine xP (h:=xF (h:=xA (h:=Zd ?_)))
 exact eR t1 ⟨rfl,Zg (by simp [ZdI,g1,g2,g3,ho,g7,g8];try omega)⟩
 try simp only [sQ,ne_eq] at g7
 refine xP (h:=xF (h:=xM (h:=xP (h:=xF (h:=xA (h:=Zd ?_))))))
 exact eR t1 ⟨rfl,Zg (by simp [ZdI,g7])⟩

theorem Zfz (hJ:Joins Tryz.prog J) (q1 q2 q3:Option Addr) (c1 c2 c3:Nat) (x:DHost) (u:Str) (hn:u.length≤2000000) (hd:x.domain.length≤2000000) (B:Kn) (hu:SlK B q1 c1 3 Zu x.users) (hf:SlK B q2 c2 5 Ze x.folders) (hi:SlK B q3 c3 4 Zy x.queue.items):Zv (pj J) 18 [.agg #[str x.domain,.slice q1 x.users.length c1,.slice q2 x.folders.length c2,.int .i64 x.queue.next,.slice q3 x.queue.items.length c3],str u] B [] (fun v B' Ls=>Ls=[]∧v = .int .i64 (Zdr x u)):=by
 refine cB 15 Tryz.func18 (h:=?_)
 refine Za (xBx [_,_,_,_,_] (h:=fun b1=>xA (h:=tL1 (ZjG 0 rfl (fun B2 hle2 hpm2=>?_)))))
 have hc2:=Zbq hpm2
 obtain ⟨hu,hf,hi⟩:=up3 hle2 hu hf hi
 refine Zf (Za (yL [_,_,_,_,_] ZV hc2 0 (h:=xQ Zx8 rfl (Zf7 hJ _ _ _ _ _ _ x om2 _ hu hf hi) (h:=?_))))
 intro v3 B3 hle3
 rintro rfl
 obtain ⟨hu,hf⟩:=up2 hle3 hu hf
 replace hc2:=hc2.mono hle3
 refine xN (h:=xM (h:=Zp (d:=8) rfl (fun g1=>?_) (fun g1=>?_)))
 refine xP (h:=xP (h:=xP (h:=xT (h:=tL1 (Zb (t:=true) rfl (fun _=>Za (xA (h:=Zd (Zn ?_)))) (fun h=>Bool.noConfusion h))))))
 exact eR t1 ⟨rfl,ZaA (by rw [Zmf (by simpa using g1)])⟩
 refine xM (h:=xR ZwD rfl (ZgE _ _ _ _ _ _ _ _ x u om2 _ hc2 hu) (h:=?_))
 refine xN (h:=xF (h:=tL1 (Zb rfl (fun g2=>?_) (fun g2=>?_))))
 refine Za (xA (h:=Zd (Zn ?_)))
 exact eR t1 ⟨rfl,ZaA (by rw [Zme (by rw [ZeH (by simpa using g1)] at g2;simpa using g2)])⟩
 refine wSk (Za (xM (h:=xR Zy8 rfl (ZtT _ _ _ _ _ _ _ _ x u _ hc2 hf) (h:=xA (h:=Zd ?_)))))
 exact eR t1 ⟨rfl,ZaA (by rw [Zd2 (by simpa using g1) (by rw [ZeH (by simpa using g1)] at g2;simpa using g2),ZhB (by simpa using g1)])⟩

theorem Zm2 (q q':Option Addr) (cp cp':Nat) (xs ys:List DUser) (B:Kn) (ha:SlK B q cp 3 Zu xs) (hb:SlK B q' cp' 3 Zu ys):ZaE (pj J) 40 [.slice q xs.length cp,.slice q' ys.length cp'] B (.bool (decide (xs=ys))):=by
 refine cB 26 Tryz.func40 (h:=?_)
 have han:=ha.len
 have hbn:=hb.len
 refine Za (xA (h:=Zf (Za (xM (h:=xV Tryz.underlying23 (h:=xM (h:=xV Tryz.underlying23 (h:=Zbo (h:=Zb rfl (fun g1=>?_) (fun g1=>?_))))))))))
 try simp only [sQ,ne_eq] at g1
 refine Za (xA (h:=Zd (Zn ?_)))
 exact eR t1 ⟨Zg (Zji g1),rfl,rfl⟩
 try simp only [sQ,ne_eq] at g1
 refine wSk (Zf (Za (xA (h:=Zl (ZM (α:=Nat) [0,1,10] (fun k=>[(5,.int .i64 k)]) [] (fun k=>[]) (fun k Bx=>Bx=B∧k≤xs.length∧xs.take k=ys.take k) (fun k=>xs.length - k) 0 t1 rfl (⟨rfl,Nat.zero_le _,by simp⟩) (fun k B1 hle1 hI=>?_))))))
 obtain ⟨rfl,hk,he⟩:=hI
 refine ZL [(0,_),(1,_),(5,_),(10,_)] [] t4 rfl (Zf (Za (xM (h:=xM (h:=xV Tryz.underlying23 (h:=Z9 (h:=Zb rfl (fun g2=>?_) (fun g2=>?_))))))))
 try simp only [sQ,ne_eq] at g2
 refine wSk (Zf (Zl (Zf (ZZ (same _ _) mo kr ⟨rfl,rfl⟩ (fun _ _=>?_)))))
 refine aM 0 rfl (h:=aM 1 rfl (h:=?_))
 obtain ⟨x,hx⟩:=Zaf (xs:=xs) (i:=k) om
 obtain ⟨bb3,oo3,rfl⟩:=ha.base hx
 obtain ⟨_,⟨rfl,hb4,hb4b⟩,hc4⟩:=ha.elem hx
 refine aIx 2 rfl Tryz.underlying23 ZeC (h:=aT 3 rfl (Zaj fun D=>ZS [_,_,_] rfl rfl Zoj rfl (ZiB hc4 0 rfl rfl) r4) (h:=aM 4 rfl (h:=aM 5 rfl (h:=?_))))
 obtain ⟨y,hy⟩:=Zaf (xs:=ys) (i:=k) om
 obtain ⟨bb6,oo6,rfl⟩:=hb.base hy
 obtain ⟨_,⟨rfl,hb7,hb7b⟩,hc7⟩:=hb.elem hy
 refine aIx 6 rfl Tryz.underlying23 ZeC (h:=aT 7 rfl (Zaj fun D=>ZS [_,_,_] rfl rfl Zoj rfl (ZiB hc7 0 rfl rfl) r4) (h:=aT 8 rfl (Zaj fun D=>ZpY (rs:=[_,_,_]) rfl rfl rfl rfl Zwu ⟨⟨_,_,rfl,rfl,Zh7 Tryz.underlying9⟩,⟨_,_,rfl,rfl,Zh7 Tryz.underlying9⟩,⟨_,_,rfl,rfl,Zh8 Tryz.underlying3⟩,trivial⟩ r4) (h:=Zz kr kr ?_)))
 refine Zj (Zb rfl (fun g3=>?_) (fun g3=>?_))
 try simp only [sQ,ne_eq] at g3
 refine Za (xA (h:=Zd (ZE (Zn (Z3 (ZE (Zn ?_)))))))
 exact eR t1 ⟨Zg (ZgJ hx hy (by rintro rfl;simp at g3)),rfl,rfl⟩
 try simp only [sQ,ne_eq] at g3
 refine ZJ (Zx (Zj (Zc (xM (h:=xD (h:=xA (h:=?_)))))))
 exact ZB (k+1) [] so2 ⟨rfl,oz,Zcp hx hy (by cases x;cases y;simpa [and_assoc] using g3) he⟩ t4 rfl
 try simp only [sQ,ne_eq] at g2
 refine ZT (Zaa (ZW (ZG (Zj (Za (xA (h:=Zd ?_)))))))
 exact eR t1 ⟨Zg (eqT oz oz he),rfl,rfl⟩

theorem ZlQ (q q':Option Addr) (cp cp':Nat) (xs ys:List DGrant) (B:Kn) (ha:SlK B q cp 2 ZX xs) (hb:SlK B q' cp' 2 ZX ys):ZaE (pj J) 15 [.slice q xs.length cp,.slice q' ys.length cp'] B (.bool (decide (xs=ys))):=by
 refine cB 26 Tryz.func15 (h:=?_)
 have han:=ha.len
 have hbn:=hb.len
 refine Za (xA (h:=Zf (Za (xM (h:=xV Tryz.underlying35 (h:=xM (h:=xV Tryz.underlying35 (h:=Zbo (h:=Zb rfl (fun g1=>?_) (fun g1=>?_))))))))))
 try simp only [sQ,ne_eq] at g1
 refine Za (xA (h:=Zd (Zn ?_)))
 exact eR t1 ⟨Zg (Zji g1),rfl,rfl⟩
 try simp only [sQ,ne_eq] at g1
 refine wSk (Zf (Za (xA (h:=Zl (ZM (α:=Nat) [0,1,10] (fun k=>[(5,.int .i64 k)]) [] (fun k=>[]) (fun k Bx=>Bx=B∧k≤xs.length∧xs.take k=ys.take k) (fun k=>xs.length - k) 0 t1 rfl (⟨rfl,Nat.zero_le _,by simp⟩) (fun k B1 hle1 hI=>?_))))))
 obtain ⟨rfl,hk,he⟩:=hI
 refine ZL [(0,_),(1,_),(5,_),(10,_)] [] t4 rfl (Zf (Za (xM (h:=xM (h:=xV Tryz.underlying35 (h:=Z9 (h:=Zb rfl (fun g2=>?_) (fun g2=>?_))))))))
 try simp only [sQ,ne_eq] at g2
 refine wSk (Zf (Zl (Zf (ZZ (same _ _) mo kr ⟨rfl,rfl⟩ (fun _ _=>?_)))))
 refine aM 0 rfl (h:=aM 1 rfl (h:=?_))
 obtain ⟨x,hx⟩:=Zaf (xs:=xs) (i:=k) om
 obtain ⟨bb3,oo3,rfl⟩:=ha.base hx
 obtain ⟨_,⟨rfl,hb4⟩,hc4⟩:=ha.elem hx
 refine aIx 2 rfl Tryz.underlying35 ZeW (h:=aT 3 rfl (Zaj fun D=>ZS [_,_] rfl rfl ZvB rfl (ZiB hc4 0 rfl rfl) r4) (h:=aM 4 rfl (h:=aM 5 rfl (h:=?_))))
 obtain ⟨y,hy⟩:=Zaf (xs:=ys) (i:=k) om
 obtain ⟨bb6,oo6,rfl⟩:=hb.base hy
 obtain ⟨_,⟨rfl,hb7⟩,hc7⟩:=hb.elem hy
 refine aIx 6 rfl Tryz.underlying35 ZeW (h:=aT 7 rfl (Zaj fun D=>ZS [_,_] rfl rfl ZvB rfl (ZiB hc7 0 rfl rfl) r4) (h:=aT 8 rfl (Zaj fun D=>ZpY (rs:=[_,_]) rfl rfl rfl rfl Zws ⟨⟨_,_,rfl,rfl,Zh7 Tryz.underlying9⟩,⟨_,_,rfl,rfl,Zh8 Tryz.underlying3⟩,trivial⟩ r4) (h:=Zz kr kr ?_)))
 refine Zj (Zb rfl (fun g3=>?_) (fun g3=>?_))
 try simp only [sQ,ne_eq] at g3
 refine Za (xA (h:=Zd (ZE (Zn (Z3 (ZE (Zn ?_)))))))
 exact eR t1 ⟨Zg (ZgJ hx hy (by rintro rfl;simp at g3)),rfl,rfl⟩
 try simp only [sQ,ne_eq] at g3
 refine ZJ (Zx (Zj (Zc (xM (h:=xD (h:=xA (h:=?_)))))))
 exact ZB (k+1) [] so2 ⟨rfl,oz,Zcp hx hy (by cases x;cases y;simpa [and_assoc] using g3) he⟩ t4 rfl
 try simp only [sQ,ne_eq] at g2
 refine ZT (Zaa (ZW (ZG (Zj (Za (xA (h:=Zd ?_)))))))
 exact eR t1 ⟨Zg (eqT oz oz he),rfl,rfl⟩

theorem ZoT (q q':Option Addr) (cp cp':Nat) (xs ys:List DMail) (B:Kn) (ha:SlK B q cp 3 ZO xs) (hb:SlK B q' cp' 3 ZO ys):ZaE (pj J) 50 [.slice q xs.length cp,.slice q' ys.length cp'] B (.bool (decide (xs=ys))):=by
 refine cB 26 Tryz.func50 (h:=?_)
 have han:=ha.len
 have hbn:=hb.len
 refine Za (xA (h:=Zf (Za (xM (h:=xV Tryz.underlying36 (h:=xM (h:=xV Tryz.underlying36 (h:=Zbo (h:=Zb rfl (fun g1=>?_) (fun g1=>?_))))))))))
 try simp only [sQ,ne_eq] at g1
 refine Za (xA (h:=Zd (Zn ?_)))
 exact eR t1 ⟨Zg (Zji g1),rfl,rfl⟩
 try simp only [sQ,ne_eq] at g1
 refine wSk (Zf (Za (xA (h:=Zl (ZM (α:=Nat) [0,1,10] (fun k=>[(5,.int .i64 k)]) [] (fun k=>[]) (fun k Bx=>Bx=B∧k≤xs.length∧xs.take k=ys.take k) (fun k=>xs.length - k) 0 t1 rfl (⟨rfl,Nat.zero_le _,by simp⟩) (fun k B1 hle1 hI=>?_))))))
 obtain ⟨rfl,hk,he⟩:=hI
 refine ZL [(0,_),(1,_),(5,_),(10,_)] [] t4 rfl (Zf (Za (xM (h:=xM (h:=xV Tryz.underlying36 (h:=Z9 (h:=Zb rfl (fun g2=>?_) (fun g2=>?_))))))))
 try simp only [sQ,ne_eq] at g2
 refine wSk (Zf (Zl (Zf (ZZ (same _ _) mo kr ⟨rfl,rfl⟩ (fun _ _=>?_)))))
 refine aM 0 rfl (h:=aM 1 rfl (h:=?_))
 obtain ⟨x,hx⟩:=Zaf (xs:=xs) (i:=k) om
 obtain ⟨bb3,oo3,rfl⟩:=ha.base hx
 obtain ⟨_,⟨rfl,hb4⟩,hc4⟩:=ha.elem hx
 refine aIx 2 rfl Tryz.underlying36 Zgj (h:=aT 3 rfl (Zaj fun D=>ZS [_,_,_] rfl rfl Zpb rfl (ZiB hc4 0 rfl rfl) r4) (h:=aM 4 rfl (h:=aM 5 rfl (h:=?_))))
 obtain ⟨y,hy⟩:=Zaf (xs:=ys) (i:=k) om
 obtain ⟨bb6,oo6,rfl⟩:=hb.base hy
 obtain ⟨_,⟨rfl,hb7⟩,hc7⟩:=hb.elem hy
 refine aIx 6 rfl Tryz.underlying36 Zgj (h:=aT 7 rfl (Zaj fun D=>ZS [_,_,_] rfl rfl Zpb rfl (ZiB hc7 0 rfl rfl) r4) (h:=aT 8 rfl (Zaj fun D=>ZpY (rs:=[_,_,_]) rfl rfl rfl rfl Zwt ⟨⟨_,_,rfl,rfl,Zh8 Tryz.underlying3⟩,⟨_,_,rfl,rfl,Zh8 Tryz.underlying3⟩,⟨_,_,rfl,rfl,Zh7 Tryz.underlying9⟩,trivial⟩ r4) (h:=Zz kr kr ?_)))
 refine Zj (Zb rfl (fun g3=>?_) (fun g3=>?_))
 try simp only [sQ,ne_eq] at g3
 refine Za (xA (h:=Zd (ZE (Zn (Z3 (ZE (Zn ?_)))))))
 exact eR t1 ⟨Zg (ZgJ hx hy (by rintro rfl;simp at g3)),rfl,rfl⟩
 try simp only [sQ,ne_eq] at g3
 refine ZJ (Zx (Zj (Zc (xM (h:=xD (h:=xA (h:=?_)))))))
 exact ZB (k+1) [] so2 ⟨rfl,oz,Zcp hx hy (by cases x;cases y;simpa [and_assoc] using g3) he⟩ t4 rfl
 try simp only [sQ,ne_eq] at g2
 refine ZT (Zaa (ZW (ZG (Zj (Za (xA (h:=Zd ?_)))))))
 exact eR t1 ⟨Zg (eqT oz oz he),rfl,rfl⟩

theorem Zqs (q1:Option Addr) (c1:Nat) (q2:Option Addr) (c2:Nat) (a b:DBox) (B:Kn) (h1:SlK B q1 c1 3 ZO a.mail) (h2:SlK B q2 c2 3 ZO b.mail):ZaE (pj J) 14 [.agg #[.int .i64 a.next,.slice q1 a.mail.length c1],.agg #[.int .i64 b.next,.slice q2 b.mail.length c2]] B (.bool (decide (a=b))):=by
 refine cB 17 Tryz.func14 (h:=?_)
 refine Za (xBx [_,_] (h:=fun b1=>xBx [_,_] (h:=fun b2=>xA (h:=tL2 (Za (xW ZbX (h:=x1 lk3 0 (h:=xW ZbX (h:=x1 lk3 1 (h:=ZF (h:=xM (h:=Zp (d:=10) rfl (fun g1=>?_) (fun g1=>?_)))))))))))))
 refine xW ZaL (h:=x1 Zfw 0 (h:=xW ZaL (h:=x1 Zfw 1 (h:=xR ZzQ rfl (ZoT _ _ _ _ _ _ _ h1 h2) (h:=xT (h:=xA (h:=Zd ?_)))))))
 exact eR t1 ⟨Zg (by cases a;cases b;simp_all),rfl,rfl⟩
 refine xP (h:=xP (h:=xP (h:=xP (h:=xP (h:=xF (h:=xA (h:=Zd ?_)))))))
 exact eR t1 ⟨Zg (by cases a;cases b;simp_all),rfl,rfl⟩

theorem ZlR (qa1 qb1:Option Addr) (ca1 cb1:Nat) (qa2 qb2:Option Addr) (ca2 cb2:Nat) (a b:DFolder) (B:Kn) (hg1:SlK B qa1 ca1 2 ZX a.grants) (hm1:SlK B qb1 cb1 3 ZO a.mail) (hg2:SlK B qa2 ca2 2 ZX b.grants) (hm2:SlK B qb2 cb2 3 ZO b.mail):ZaE (pj J) 51 [.agg #[str a.owner,str a.name,.slice qa1 a.grants.length ca1,.int .i64 a.next,.slice qb1 a.mail.length cb1],.agg #[str b.owner,str b.name,.slice qa2 b.grants.length ca2,.int .i64 b.next,.slice qb2 b.mail.length cb2]] B (.bool (decide (a=b))):=by
 refine cB 31 Tryz.func51 (h:=?_)
 refine Za (xBx [_,_,_,_,_] (h:=fun b1=>xBx [_,_,_,_,_] (h:=fun b2=>xA (h:=tL2 (Za (xW Zcv (h:=x1 lk9 0 (h:=xW Zcv (h:=x1 lk9 1 (h:=Zc3 (h:=xM (h:=Zp (d:=10) rfl (fun g1=>?_) (fun g1=>?_)))))))))))))
 refine xW ZeT (h:=x1 lk9 0 (h:=xW ZeT (h:=x1 lk9 1 (h:=Zc3 (h:=xT (h:=xM (h:=Zp (d:=17) rfl (fun g2=>?_) (fun g2=>?_))))))))
 refine xW ZdJ (h:=x1 Zr6 0 (h:=xW ZdJ (h:=x1 Zr6 1 (h:=xR Zz3 rfl (ZlQ _ _ _ _ _ _ _ hg1 hg2) (h:=xT (h:=xM (h:=Zp (d:=24) rfl (fun g3=>?_) (fun g3=>?_))))))))
 refine xW ZbN (h:=xL [_,_] Zbw 0 (h:=xW ZbN (h:=xL [_,_] Zbw 1 (h:=xR Zz4 rfl (Zqs _ _ _ _ (⟨a.next,a.mail⟩:DBox) (⟨b.next,b.mail⟩:DBox) _ hm1 hm2) (h:=xT (h:=xA (h:=Zd ?_)))))))
 exact eR t1 ⟨Zg (by cases a;cases b;simp_all),rfl,rfl⟩
 refine xP (h:=xP (h:=xP (h:=xP (h:=xP (h:=xF (h:=xA (h:=Zd ?_)))))))
 exact eR t1 ⟨Zg (by cases a;cases b;simp_all),rfl,rfl⟩
 refine xP (h:=xP (h:=xP (h:=xP (h:=xP (h:=xF (h:=xM (h:=xP (h:=xP (h:=xP (h:=xP (h:=xP (h:=xF (h:=xA (h:=Zd ?_))))))))))))))
 exact eR t1 ⟨Zg (by cases a;cases b;simp_all),rfl,rfl⟩
 refine xP (h:=xP (h:=xP (h:=xP (h:=xP (h:=xF (h:=xM (h:=xP (h:=xP (h:=xP (h:=xP (h:=xP (h:=xF (h:=xM (h:=xP (h:=xP (h:=xP (h:=xP (h:=xP (h:=xF (h:=xA (h:=Zd ?_)))))))))))))))))))))
 exact eR t1 ⟨Zg (by cases a;cases b;simp_all),rfl,rfl⟩

theorem ZkJ (q q':Option Addr) (cp cp':Nat) (xs ys:List DFolder) (B:Kn) (ha:SlK B q cp 5 Ze xs) (hb:SlK B q' cp' 5 Ze ys):ZaE (pj J) 41 [.slice q xs.length cp,.slice q' ys.length cp'] B (.bool (decide (xs=ys))):=by
 refine cB 27 Tryz.func41 (h:=?_)
 have han:=ha.len
 have hbn:=hb.len
 refine Za (xA (h:=Zf (Za (xM (h:=xV Tryz.underlying24 (h:=xM (h:=xV Tryz.underlying24 (h:=Zbo (h:=Zb rfl (fun g1=>?_) (fun g1=>?_))))))))))
 try simp only [sQ,ne_eq] at g1
 refine Za (xA (h:=Zd (Zn ?_)))
 exact eR t1 ⟨Zg (Zji g1),rfl,rfl⟩
 try simp only [sQ,ne_eq] at g1
 refine wSk (Zf (Za (xA (h:=Zl (ZM (α:=Nat) [0,1,10] (fun k=>[(5,.int .i64 k)]) [] (fun k=>[]) (fun k Bx=>Bx=B∧k≤xs.length∧xs.take k=ys.take k) (fun k=>xs.length - k) 0 t1 rfl (⟨rfl,Nat.zero_le _,by simp⟩) (fun k B1 hle1 hI=>?_))))))
 obtain ⟨rfl,hk,he⟩:=hI
 refine ZL [(0,_),(1,_),(5,_),(10,_)] [] t4 rfl (Zf (Za (xM (h:=xM (h:=xV Tryz.underlying24 (h:=Z9 (h:=Zb rfl (fun g2=>?_) (fun g2=>?_))))))))
 try simp only [sQ,ne_eq] at g2
 refine wSk (Zf (Zl (Zf (ZZ (same _ _) mo kr ⟨rfl,rfl⟩ (fun _ _=>?_)))))
 refine aM 0 rfl (h:=aM 1 rfl (h:=?_))
 obtain ⟨x,hx⟩:=Zaf (xs:=xs) (i:=k) om
 obtain ⟨bb3,oo3,rfl⟩:=ha.base hx
 obtain ⟨_,⟨qg4,cg4,qm4,cm4,rfl,hg4,hm4,hb4,hb4b⟩,hc4⟩:=ha.elem hx
 have hg4n:=hg4.len
 have hm4n:=hm4.len
 have hm4s:=Z4 hm4
 refine aIx 2 rfl Tryz.underlying24 Zbm (h:=aT 3 rfl (Zaj fun D=>ZS [_,_,_,_,_] rfl rfl ZhA rfl (ZiB hc4 0 rfl rfl) r4) (h:=aM 4 rfl (h:=aM 5 rfl (h:=?_))))
 obtain ⟨y,hy⟩:=Zaf (xs:=ys) (i:=k) om
 obtain ⟨bb6,oo6,rfl⟩:=hb.base hy
 obtain ⟨_,⟨qg7,cg7,qm7,cm7,rfl,hg7,hm7,hb7,hb7b⟩,hc7⟩:=hb.elem hy
 have hg7n:=hg7.len
 have hm7n:=hm7.len
 have hm7s:=Z4 hm7
 refine aIx 6 rfl Tryz.underlying24 Zbm (h:=aT 7 rfl (Zaj fun D=>ZS [_,_,_,_,_] rfl rfl ZhA rfl (ZiB hc7 0 rfl rfl) r4) (h:=aT 8 rfl (Zaj fun D=>Za5 rfl rfl ZzP rfl (ZlR _ _ _ _ _ _ _ _ x y _ hg4 hm4 hg7 hm7) r4) (h:=aN 9 rfl (h:=Zz kr kr ?_))))
 refine Zj (Zb rfl (fun g3=>?_) (fun g3=>?_))
 try simp only [sQ,ne_eq] at g3
 refine Za (xA (h:=Zd (ZE (Zn (Z3 (ZE (Zn ?_)))))))
 exact eR t1 ⟨Zg (ZgJ hx hy g3),rfl,rfl⟩
 try simp only [sQ,ne_eq] at g3
 refine ZJ (Zx (Zj (Zc (xM (h:=xD (h:=xA (h:=?_)))))))
 exact ZB (k+1) [] so2 ⟨rfl,oz,Zcp hx hy g3 he⟩ t4 rfl
 try simp only [sQ,ne_eq] at g2
 refine ZT (Zaa (ZW (ZG (Zj (Za (xA (h:=Zd ?_)))))))
 exact eR t1 ⟨Zg (eqT oz oz he),rfl,rfl⟩

theorem Zb0 (qa1 qb1 qc1:Option Addr) (ca1 cb1 cc1:Nat) (qa2 qb2 qc2:Option Addr) (ca2 cb2 cc2:Nat) (a b:DHost) (B:Kn) (hu1:SlK B qa1 ca1 3 Zu a.users) (hf1:SlK B qb1 cb1 5 Ze a.folders) (hi1:SlK B qc1 cc1 4 Zy a.queue.items) (hu2:SlK B qa2 ca2 3 Zu b.users) (hf2:SlK B qb2 cb2 5 Ze b.folders) (hi2:SlK B qc2 cc2 4 Zy b.queue.items):ZaE (pj J) 11 [.agg #[str a.domain,.slice qa1 a.users.length ca1,.slice qb1 a.folders.length cb1,.int .i64 a.queue.next,.slice qc1 a.queue.items.length cc1],.agg #[str b.domain,.slice qa2 b.users.length ca2,.slice qb2 b.folders.length cb2,.int .i64 b.queue.next,.slice qc2 b.queue.items.length cc2]] B (.bool (decide (a=b))):=by
 refine cB 31 Tryz.func11 (h:=?_)
 refine Za (xBx [_,_,_,_,_] (h:=fun b1=>xBx [_,_,_,_,_] (h:=fun b2=>xA (h:=tL2 (Za (xW Zi7 (h:=x1 lk9 0 (h:=xW Zi7 (h:=x1 lk9 1 (h:=Zc3 (h:=xM (h:=Zp (d:=10) rfl (fun g1=>?_) (fun g1=>?_)))))))))))))
 refine xW Zby (h:=x1 ZhP 0 (h:=xW Zby (h:=x1 ZhP 1 (h:=xR ZzW rfl (Zm2 _ _ _ _ _ _ _ hu1 hu2) (h:=xT (h:=xM (h:=Zp (d:=17) rfl (fun g2=>?_) (fun g2=>?_))))))))
 refine xW Z0 (h:=x1 Zcy 0 (h:=xW Z0 (h:=x1 Zcy 1 (h:=xR ZzV rfl (ZkJ _ _ _ _ _ _ _ hf1 hf2) (h:=xT (h:=xM (h:=Zp (d:=24) rfl (fun g3=>?_) (fun g3=>?_))))))))
 refine xW Zcf (h:=xL [_,_] ZdR 0 (h:=xW Zcf (h:=xL [_,_] ZdR 1 (h:=xR ZzU rfl (Zm3 _ _ a.queue _ _ b.queue _ hi1 hi2) (h:=xT (h:=xA (h:=Zd ?_)))))))
 exact eR t1 ⟨Zg (by cases a;cases b;simp_all),rfl,rfl⟩
 refine xP (h:=xP (h:=xP (h:=xP (h:=xP (h:=xF (h:=xA (h:=Zd ?_)))))))
 exact eR t1 ⟨Zg (by cases a;cases b;simp_all),rfl,rfl⟩
 refine xP (h:=xP (h:=xP (h:=xP (h:=xP (h:=xF (h:=xM (h:=xP (h:=xP (h:=xP (h:=xP (h:=xP (h:=xF (h:=xA (h:=Zd ?_))))))))))))))
 exact eR t1 ⟨Zg (by cases a;cases b;simp_all),rfl,rfl⟩
 refine xP (h:=xP (h:=xP (h:=xP (h:=xP (h:=xF (h:=xM (h:=xP (h:=xP (h:=xP (h:=xP (h:=xP (h:=xF (h:=xM (h:=xP (h:=xP (h:=xP (h:=xP (h:=xP (h:=xF (h:=xA (h:=Zd ?_)))))))))))))))))))))
 exact eR t1 ⟨Zg (by cases a;cases b;simp_all),rfl,rfl⟩

theorem Zpf (b:Nat) (q:Option Addr) (m cp p:Nat) (hp:p≤850000000000) (hm:m≤2000) (B:Kn) (hbm:Zah B q m):Zv (pj J) 106 [ptr ⟨b,0,none⟩] B [rd b q m cp p] (fun v B' Ls=>∃q' cp' us p',v = .slice q' us.length cp'∧SlK B' q' cp' 3 Zu us∧us.length≤5∧p'≤p+10∧Ls=[rd b q m cp p']):=by
 refine cB 61 Tryz.func106 (h:=?_)
 refine Za (xA (h:=Za (xB [(0,_),(1,_),(2,_)] [_,_,_] [_,_,_] Zsy Zgl (h:=xM (h:=xX 0 rfl Za7 rfl (ZK _ _ _ _ _ _ oz oz oz hm _ hbm) (h:=?_))))))
 rintro _ _ ⟨ru,rfl,rua,rub,rfl⟩
 refine xD (h:=xB [(0,_),(1,_),(2,_)] [_,_,_] [_,_,_] Zsy Zgl (h:=xM (h:=xX 0 rfl Za7 rfl (ZK _ _ _ _ _ _ oz oz oz hm _ hbm) (h:=?_))))
 rintro _ _ ⟨ro,rfl,roa,rob,rfl⟩
 refine xD (h:=xB [(0,_),(1,_),(2,_)] [_,_,_] [_,_,_] Zsy Zgl (h:=xBs [(0,_),(1,_),(2,_)] [_,_,_,_,_,_,_,_,_] Tryz.underlying23 ZeC Zgl (h:=fun b3=>xA (h:=tL2 ?_))))
 obtain ⟨us0,hn0,hv0⟩ :∃us0:List DUser,us0.length=3∧ZY B (Zar b3 [str [97,109,121],str [97,49],int 60,str [98,111,98],str [98,50],int (20+ru),str [99,121,100],str [99,51],int (100+ro)] 50) (some ⟨b3,0,none⟩) 3 50 3 Zu us0:=⟨[⟨[97,109,121],[97,49],60⟩,⟨[98,111,98],[98,50],20+ru⟩,⟨[99,121,100],[99,51],100+ro⟩],rfl,ZY.lit (rows:=[[str [97,109,121],str [97,49],int 60],[str [98,111,98],str [98,50],int (20+ru)],[str [99,121,100],str [99,51],int (100+ro)]]) (.cons ⟨rfl,by simp,by simp⟩ (.cons ⟨rfl,by simp,by simp⟩ (.cons ⟨rfl,by simp,by simp⟩ .nil))) (by intro row hr;simp only [List.mem_cons,List.not_mem_nil,or_false] at hr;rcases hr with rfl | rfl | rfl <;> rfl)⟩
 refine Za (xM (h:=xM (h:=xX 0 rfl Za7 rfl (ZK _ _ _ _ _ _ oz oz oz hm _ hbm) (h:=?_))))
 rintro _ _ ⟨ry,rfl,rya,ryb,rfl⟩
 refine xD (h:=Zo (Zfr rfl rfl Tryz.underlying23 ZeC rfl (a:=0) (b:=(1+ry).toNat) rfl ⟨_,_,rfl,oz⟩ oz oz ?_))
 refine xA (h:=tL2 ?_)
 obtain ⟨us1,hn1,hv1⟩ :∃us1:List DUser,us1.length=(1+ry).toNat∧ZY B _ _ 3 50 3 Zu us1:=⟨us0.take (1+ry).toNat,by rw [List.length_take];omega,hv0.take oz⟩
 rw [hv0.slice0 (sz:=3),show (1+ry).toNat - 0=us1.length from by omega]
 refine Za (xM (h:=xM (h:=xV Tryz.underlying23 (h:=xX 0 rfl Za7 rfl (ZK _ _ _ _ _ _ oz oz oz hm _ hbm) (h:=?_)))))
 rintro _ _ ⟨rk,rfl,rka,rkb,rfl⟩
 refine xA (h:=tL2 (Zp0 (α:=Gh DUser) [0,2,4] (fun g=>[(3,.slice g.a g.xs.length g.c)]) (fun g=>[rd b q m cp g.p,g.l]) (fun g Bx=>g.p≤p+10∧g.xs.length≤5∧ZY Bx g.l g.a g.c 50 3 Zu g.xs) ?_ (fun g B6 hle6 hF=>?_)))
 refine Za (xM (h:=xX 0 rfl Za7 rfl (ZK _ _ _ _ _ _ oz oz oz hm _ hbm) (h:=?_)))
 rintro _ _ ⟨rj,rfl,rja,rjb,rfl⟩
 refine tL2 (Zl (Za (ZF (h:=xA (h:=Zb rfl (fun g1=>?_) (fun g1=>?_))))))
 try simp only [sQ,ne_eq] at g1
 refine Zc (xM (h:=xM (h:=xM (h:=xX 0 rfl Zte rfl (ZcF _ _ _ _ _ oz hm _ hbm) (h:=?_)))))
 rintro _ _ ⟨xs,rfl,hxs,rfl⟩
 obtain ⟨z,hz⟩:=Zep (xs:=us1) (i:=rk) om om
 obtain ⟨bb10,_,hp10,⟨rfl,hb10,hb10b⟩,hw10,hc10⟩:=hv1.row hz
 refine xIp hp10 Tryz.underlying23 ZeC (h:=xW Zdc (h:=Zo (Zew (k:=(rk).toNat) (off:=0) (⟨xs,z.pass,z.quota⟩) [_] 1 hv1 hp10 hz rfl rfl sz9 rfl rfl rfl rfl rfl rfl (by rintro _ ⟨rfl,e1,e2⟩;exact ⟨rfl,show xs.length≤2000000 by omega,e2⟩) (fun l11 hv11=>?_))))
 refine Zx ?_
 obtain ⟨us12,hn12,hv12⟩ :∃us12:List DUser,us12.length=us1.length∧ZY B l11 _ _ 50 3 Zu us12:=⟨_,by rw [List.length_set],hv11⟩
 rw [← hn12]
 exact ZI ⟨0,((((((p+1)+1)+1)+1)+1)+2),l11,(some ⟨b3,0,none⟩),3,us12⟩ [0,1] ⟨so,by first | (simp only [];omega) | (simp;omega),hv12⟩ t4 rfl
 try simp only [sQ,ne_eq] at g1
 refine Za (ZF (h:=xA (h:=Zb rfl (fun g2=>?_) (fun g2=>?_))))
 try simp only [sQ,ne_eq] at g2
 refine Zc (xM (h:=xM (h:=xM (h:=xX 0 rfl Zte rfl (ZcF _ _ _ _ _ oz hm _ hbm) (h:=?_)))))
 rintro _ _ ⟨xs,rfl,hxs,rfl⟩
 obtain ⟨z,hz⟩:=Zep (xs:=us1) (i:=rk) om om
 obtain ⟨bb15,_,hp15,⟨rfl,hb15,hb15b⟩,hw15,hc15⟩:=hv1.row hz
 refine xIp hp15 Tryz.underlying23 ZeC (h:=xW Zrk (h:=Zo (Zew (k:=(rk).toNat) (off:=1) (⟨z.name,xs,z.quota⟩) [_] 1 hv1 hp15 hz rfl rfl sz9 rfl rfl rfl rfl rfl rfl (by rintro _ ⟨rfl,e1,e2⟩;exact ⟨rfl,e1,show xs.length≤2000000 by omega⟩) (fun l16 hv16=>?_))))
 refine Zx ?_
 obtain ⟨us17,hn17,hv17⟩ :∃us17:List DUser,us17.length=us1.length∧ZY B l16 _ _ 50 3 Zu us17:=⟨_,by rw [List.length_set],hv16⟩
 rw [← hn17]
 exact ZI ⟨0,((((((p+1)+1)+1)+1)+1)+2),l16,(some ⟨b3,0,none⟩),3,us17⟩ [0,1] ⟨so,by first | (simp only [];omega) | (simp;omega),hv17⟩ t4 rfl
 try simp only [sQ,ne_eq] at g2
 refine Za (ZF (h:=xA (h:=Zb rfl (fun g3=>?_) (fun g3=>?_))))
 try simp only [sQ,ne_eq] at g3
 refine Zc (xM (h:=xM (h:=xBs [(0,_),(1,_),(2,_),(3,_)] [_,_,_,_] Tryz.underlying110 sz3 zo3 (h:=fun b18=>Z5 2 rfl (ZY.ints (ls:=([(-1),0,200,201]:List Int))) Zb7.mono om3 (fun B19 hle19 hr19=>?_)))))
 replace hv1:=hv1.mono Zu.mono hle19
 replace hbm:=hbm.mono hle19
 have hr19n:=hr19.len
 refine xM (h:=xX 0 rfl Za7 rfl (ZK _ _ _ _ _ _ oz oz oz hm _ hbm) (h:=?_))
 rintro _ _ ⟨rs,rfl,rsa,rsb,rfl⟩
 obtain ⟨e,he⟩:=Zep (xs:=([(-1),0,200,201]:List Int)) (i:=rs) om om
 obtain ⟨_,rfl,hc22⟩:=hr19.elem he
 refine xIx Tryz.underlying110 sz3 (h:=y1 lk3 hc22 0 (h:=?_))
 obtain ⟨z,hz⟩:=Zep (xs:=us1) (i:=rk) om om
 obtain ⟨bb24,_,hp24,⟨rfl,hb24,hb24b⟩,hw24,hc24⟩:=hv1.row hz
 refine xIp hp24 Tryz.underlying23 ZeC (h:=xW ZhH (h:=Zo (Zew (k:=(rk).toNat) (off:=2) (⟨z.name,z.pass,e⟩) [_] 1 hv1 hp24 hz rfl rfl sz3 rfl rfl rfl rfl rfl rfl (by rintro _ ⟨rfl,e1,e2⟩;exact ⟨rfl,e1,e2⟩) (fun l25 hv25=>?_))))
 refine Zx ?_
 obtain ⟨us26,hn26,hv26⟩ :∃us26:List DUser,us26.length=us1.length∧ZY B19 l25 _ _ 50 3 Zu us26:=⟨_,by rw [List.length_set],hv25⟩
 rw [← hn26]
 exact ZI ⟨0,((((((p+1)+1)+1)+1)+1)+1),l25,(some ⟨b3,0,none⟩),3,us26⟩ [0,1] ⟨so,by first | (simp only [];omega) | (simp;omega),hv26⟩ t4 rfl
 try simp only [sQ,ne_eq] at g3
 refine Za (ZF (h:=xA (h:=Zb rfl (fun g4=>?_) (fun g4=>?_))))
 try simp only [sQ,ne_eq] at g4
 refine Zc (xM (h:=xB [(0,_),(1,_),(2,_)] [_,_,_] [_,_,_] Zsy Zgl (h:=xB [(0,_),(1,_),(2,_)] [_,_,_] [_,_,_] Zsy Zgl (h:=xBs [(0,_),(1,_)] [_,_,_,_,_,_] Tryz.underlying23 ZeC Zgl (h:=fun b27=>Zo (ZnY (rows:=[[str [100,97,110],str [100,52],.int .i64 9],[str [101,118,101],str [101,53],.int .i64 9]]) (ys:=[⟨[100,97,110],[100,52],9⟩,⟨[101,118,101],[101,53],9⟩]) (R:=Zu) 1 rfl hv1 rfl rfl rfl Zou Zn2 rfl rfl rfl (ZaP.box 2 rfl) rfl (by intro row hr;simp only [List.mem_cons,List.not_mem_nil,or_false] at hr;rcases hr with rfl | rfl <;> rfl) (.cons (⟨rfl,by first | assumption | omega | (simp;done) | (simp;done) | (simp;omega),by first | assumption | omega | (simp;done) | (simp;done) | (simp;omega)⟩) (.cons (⟨rfl,by first | assumption | omega | (simp;done) | (simp;done) | (simp;done) | (simp;omega),by first | assumption | omega | (simp;done) | (simp;done) | (simp;done) | (simp;omega)⟩) .nil)) om (fun l28 p28 c28 hv28=>?_)))))))
 refine xA (h:=Zx ?_)
 exact ZI ⟨0,(((((p+1)+1)+1)+1)+1),l28,p28,c28,(us1 ++ [⟨[100,97,110],[100,52],9⟩,⟨[101,118,101],[101,53],9⟩])⟩ [0,1] ⟨by simp only [];omega,by first | (simp only [];omega) | (simp;omega),hv28⟩ ⟨rfl,rfl,rfl,rfl,trivial⟩ rfl
 try simp only [sQ,ne_eq] at g4
 refine ZJ (Zx ?_)
 exact ZI ⟨0,(((((p+1)+1)+1)+1)+1),_,(some ⟨b3,0,none⟩),3,us1⟩ [0,1] ⟨so,by first | (simp only [];omega) | (simp;omega),hv1⟩ t4 rfl
 obtain ⟨hgp,hgn,hw⟩:=hF
 refine ZL [(0,_),(2,_),(3,_),(4,_)] [_,_] t4 rfl (Zdz 1 rfl hw Zu.mono om3 (fun B29 hle29 hr29=>?_))
 have hr29n:=hr29.len
 refine Za (xM (h:=xA (h:=tL2 (Zd ?_))))
 exact eN [0] rfl t1 ⟨_,_,_,_,rfl,hr29,oz,oz,rfl⟩

theorem Zhf (q:Option Addr) (cp:Nat) (x:DBox) (B:Kn) (hm:SlK B q cp 3 ZO x.mail):Zv (pj J) 46 [.agg #[.int .i64 x.next,.slice q x.mail.length cp]] B [] (fun v B' Ls=>B'=B∧∃l a c,Ls=[l]∧v = .agg #[.int .i64 x.next,.slice a x.mail.length c]∧ZY B l a c 89 3 ZO x.mail):=by
 refine cB 10 Tryz.func46 (h:=?_)
 have hxn:=hm.len
 refine Za (xBx [_,_] (h:=fun b1=>xAl [_,_] ZeU (h:=fun b2=>tL2 (Zf (ZZ (keeps _ [0] _) mo kr ⟨Kn.le.refl _,Zag.refl _ _⟩ (fun _ _=>?_))))))
 refine aW 0 rfl ZbX (h:=aT 1 rfl (ZC fun D B L hI=>Zh rfl rfl lk3 rfl (atL 0 (hI.2.1.trans rfl) rfl rfl) r4) (h:=aW 3 rfl ZaL (h:=aT 4 rfl (ZC fun D B L hI=>Zh rfl rfl Zfw rfl (atL 0 (hI.2.1.trans rfl) rfl rfl) r4) (h:=Zq 2 kr rfl kr (Zt (parts:=[]) [] rfl rfl Tryz.underlying36 Zgj Zln rfl rfl rfl rfl rfl (fun b3=>?_))))))
 refine ⟨⟨Kn.le.refl _,t1⟩,(Zq 5 kr rfl kr (ZaW (R:=ZO) 2 rfl (ZY.lit0 (R:=ZO)) rfl rfl rfl ZvC Zwa rfl rfl rfl hm.rows ZO.one rfl om (fun l4 p4 c4 hv4=>?_)))⟩
 refine ⟨⟨Kn.le.refl _,t1⟩,(aT 6 rfl (ZC fun D B L hI=>Zaz (parts:=[(0,_),(1,_)]) [_,_] [_,_] rfl rfl Zne ZeU rfl rfl rfl r4) (h:=ZU 7 kr rfl kr kr kr (ZH [_,_] 1 [_,_] rfl rfl Zcz rfl rfl rfl rfl rfl rfl rfl rfl ?_)))⟩
 refine Zj (tL3 (Zd ?_))
 exact eN [2] rfl ⟨⟨_,rfl,.inr ⟨[_,_],Zbw,Z8 1 rfl rfl rfl,rfl⟩⟩,trivial⟩ ⟨rfl,_,_,_,rfl,rfl,hv4⟩

end Go.Proofs.YtandoilaebgglaaGreatDoor
