/-
  WHAT THE FUNCTIONS THAT THE LAWS REACH COMPUTE: each function's contract, proved off its printed body (the text is written by program). No condition beyond those that each theorem states.
-/
import Derived.Test.YtandoilaebgglaaGreatDoorC2
namespace Go.Proofs.YtandoilaebgglaaGreatDoor
open Go Go.BL
set_option linter.unusedVariables false
set_option linter.unusedSimpArgs false
set_option maxRecDepth 4000
set_option maxHeartbeats 6400000
variable {J : JoinT}
theorem ZfT (q:Option Addr) (cp:Nat) (x:DBox) (q2:Option Addr) (cp2:Nat) (xs:List Int) (how fl:Int) (B:Kn) (hx:SlK B q cp 3 ZM x.mail) (hn:SlK B q2 cp2 1 Zb9 xs):Zu (pj J) 191 [.agg #[.int .i64 x.next,.slice q x.mail.length cp],.slice q2 xs.length cp2,.int .i64 how,.int .i64 fl] B [] (fun v B' Ls=>Ls=[]∧∃a c,v = .tuple #[.agg #[.int .i64 (Zbn x xs how fl).1.next,.slice a (Zbn x xs how fl).1.mail.length c],.bool (Zbn x xs how fl).2]∧SlK B' a c 3 ZM (Zbn x xs how fl).1.mail):=by
 refine cB 61 Tryz.func191 (h:=?_)
 have hxn:=hx.len
 have hnn:=hn.len
 refine Za (xBx [_,_] (h:=fun b1=>xAl [_,_] ZeS (h:=fun b2=>xA (h:=tL2 (Zf (Za (xL [_,_] Zbp 0 (h:=xR Zts rfl (Zgn _ _ (⟨x.next,x.mail⟩:DBox) _ hx) (h:=xN (h:=xM (h:=Zn (d:=16) rfl (fun g1=>?_) (fun g1=>?_))))))))))))
 try simp only [sQ,ne_eq] at g1
 rw [ZeO (by simp [g1])]
 refine xP (h:=xP (h:=xP (h:=xP (h:=xT (h:=xM (h:=xP (h:=xP (h:=xP (h:=xT (h:=xM (h:=xP (h:=xP (h:=xP (h:=xT (h:=Zb (t:=true) rfl (fun _=>Za (xB [] [_,_] [_,_] Znc ZeS (h:=xS [_,_] 1 [_,_] Zcx (h:=xA (h:=tL2 (Zd (Zo ?_))))))) (fun h=>Bool.noConfusion h))))))))))))))))
 exact Zav .ret (.inl rfl) [_,_] [] rfl ⟨⟨_,rfl,.inr ⟨[_,_],Zbp,Z9 1 rfl rfl rfl,rfl⟩⟩,rfl,trivial⟩ ⟨rfl,none,0,rfl,SlK.nil⟩
 try simp only [sQ,ne_eq] at g1
 refine xL [_,_] Zbp 0 (h:=xM (h:=xR Zyn rfl (Zma _ _ (⟨x.next,x.mail⟩:DBox) _ _ xs _ hx hn) (h:=xN (h:=xF (h:=xM (h:=Zn (d:=22) rfl (fun g2=>?_) (fun g2=>?_)))))))
 try simp only [sQ,ne_eq] at g2
 rw [ZeO (by simp [g2])]
 refine xP (h:=xP (h:=xP (h:=xT (h:=xM (h:=xP (h:=xP (h:=xP (h:=xT (h:=Zb (t:=true) rfl (fun _=>Za (xB [] [_,_] [_,_] Znc ZeS (h:=xS [_,_] 1 [_,_] Zcx (h:=xA (h:=tL2 (Zd (Zo ?_))))))) (fun h=>Bool.noConfusion h))))))))))
 exact Zav .ret (.inl rfl) [_,_] [] rfl ⟨⟨_,rfl,.inr ⟨[_,_],Zbp,Z9 1 rfl rfl rfl,rfl⟩⟩,rfl,trivial⟩ ⟨rfl,none,0,rfl,SlK.nil⟩
 try simp only [sQ,ne_eq] at g2
 refine xM (h:=xR Zko rfl (Zcs _ _ _ _) (h:=xN (h:=xF (h:=xM (h:=Zn (d:=27) rfl (fun g3=>?_) (fun g3=>?_))))))
 try simp only [sQ,ne_eq] at g3
 rw [ZeO (by simp only [ZkY,g3];simp)]
 refine xP (h:=xP (h:=xP (h:=xT (h:=Zb (t:=true) rfl (fun _=>Za (xB [] [_,_] [_,_] Znc ZeS (h:=xS [_,_] 1 [_,_] Zcx (h:=xA (h:=tL2 (Zd (Zo ?_))))))) (fun h=>Bool.noConfusion h)))))
 exact Zav .ret (.inl rfl) [_,_] [] rfl ⟨⟨_,rfl,.inr ⟨[_,_],Zbp,Z9 1 rfl rfl rfl,rfl⟩⟩,rfl,trivial⟩ ⟨rfl,none,0,rfl,SlK.nil⟩
 try simp only [sQ,ne_eq] at g3
 refine xM (h:=xR ZwV rfl (Zfb _ _) (h:=xN (h:=xF (h:=Zb rfl (fun g4=>?_) (fun g4=>?_)))))
 try simp only [sQ,ne_eq] at g4
 rw [ZeO (by simp only [Zae,g4];simp)]
 refine Za (xB [] [_,_] [_,_] Znc ZeS (h:=xS [_,_] 1 [_,_] Zcx (h:=xA (h:=tL2 (Zd (Zo ?_))))))
 exact Zav .ret (.inl rfl) [_,_] [] rfl ⟨⟨_,rfl,.inr ⟨[_,_],Zbp,Z9 1 rfl rfl rfl,rfl⟩⟩,rfl,trivial⟩ ⟨rfl,none,0,rfl,SlK.nil⟩
 try simp only [sQ,ne_eq] at g4
 have hok:Zbf x=true:=by simpa using g1
 have hno:Zen x.mail.length xs=true:=by simpa using g2
 have hfo:Zae fl=true:=by simpa only [Zae,Bool.not_eq_false] using g4
 have hall:=ZmA (how:=how) (fl:=fl) ⟨hok,hno,by simpa only [ZkY,Bool.not_eq_false] using g3,hfo⟩
 have hfl:0≤fl∧fl≤31:=by simpa [Zae] using hfo
 refine wSk (Za (xL [_,_] Zbp 0 (h:=xC Zvz rfl (ZiJ _ _ (⟨x.next,x.mail⟩:DBox) _ hx) (h:=?_))))
 rintro _ B7 _ hle7 ⟨hB7,l7,a7,c7,rfl,rfl,hs7⟩
 have hB7:=hB7.symm
 subst hB7
 refine xAl [_,_] ZeS (h:=fun b8=>xS [_,_] 3 [_,_] Zcx (h:=tL4 (Zf (Za (xA (h:=Zl (ZO (α:=Nat × Cells × List DMail) [0,1,2,3,4,8,9,10,31] (fun g=>[(11,.int .i64 g.1)]) [2,3] (fun g=>[g.2.1,Zas b8 [.int .i64 x.next,.slice a7 x.mail.length c7] 38]) (fun g Bx=>Bx=B∧g.1≤xs.length∧g.2.2=Zef x.mail how fl (xs.take g.1)∧Like x.mail g.2.2∧ZZ Bx g.2.1 a7 c7 89 3 ZM g.2.2) (fun g=>xs.length - g.1) (0,_,x.mail) t1 rfl (⟨rfl,Nat.zero_le _,rfl,Like.refl _,hs7⟩) (fun g B9 hle9 hI=>?_))))))))
 obtain ⟨rfl,hk,hs,hlk,hv⟩:=hI
 have hll:=hlk.1
 refine ZN [(0,_),(1,_),(2,_),(3,_),(4,_),(8,_),(9,_),(10,_),(11,_),(31,_)] [_,_,_,_] t10 rfl (Zf (Za (xM (h:=xM (h:=xV Tryz.underlying110 (h:=Zaa (h:=Zb rfl (fun g5=>?_) (fun g5=>?_))))))))
 try simp only [sQ,ne_eq] at g5
 refine wSk (Zf (Zl (Za (xM (h:=xM (h:=?_))))))
 obtain ⟨y,hy⟩:=Zaf (xs:=xs) (i:=g.1) om
 obtain ⟨bb11,oo11,rfl⟩:=hn.base hy
 obtain ⟨_,rfl,hc12⟩:=hn.elem hy
 refine xIx Tryz.underlying110 sz3 (h:=?_)
 have hyb:=Zo8 hno y (List.mem_of_getElem? hy)
 have hyl:(y - 1).toNat<x.mail.length:=by omega
 refine y1 lk3 hc12 0 (h:=xU (h:=xA (h:=Z2 (keeps _ [0,2,3] _) mo kr ⟨Kn.le.refl _,Zai.refl _ _⟩ (fun _ _=>?_))))
 refine aW 0 rfl ZaL (h:=aT 1 rfl (ZC fun D B L hI=>Zh rfl rfl Zfs rfl (atL 3 (hI.2.2.2.1.trans rfl) rfl rfl) r4) (h:=aM 2 rfl (h:=aW 3 rfl ZaL (h:=aT 4 rfl (ZC fun D B L hI=>Zh rfl rfl Zfs rfl (atL 0 (hI.2.1.trans rfl) rfl rfl) r4) (h:=aM 5 rfl (h:=?_))))))
 obtain ⟨m,hm⟩:=Zeh (xs:=x.mail) (i:=(y - 1)) om om
 obtain ⟨bb14,oo14,rfl⟩:=hx.base hm
 obtain ⟨_,⟨rfl,hb15⟩,hc15⟩:=hx.elem hm
 refine aIx 6 rfl Tryz.underlying36 Zgc (h:=?_)
 have hmf:=Zf8 hok (List.mem_of_getElem? hm)
 refine aW 7 rfl Zi5 (h:=aT 8 rfl (ZC fun D B L hI=>Zh rfl rfl lk3 rfl ((hc15.mono hI.1) _ 1 _ rfl) r4) (h:=aM 9 rfl (h:=aM 10 rfl (h:=aT 11 rfl (ZC fun D B L hI=>Za2 rfl rfl Zym rfl (Zpo m.flags how fl (oy) (oy) _) r4) (h:=?_)))))
 obtain ⟨z,hz⟩:=Zeh (xs:=g.2.2) (i:=(y - 1)) om om
 obtain ⟨bb18,_,hp18,⟨rfl,hb18⟩,hw18,hc18⟩:=hv.row hz
 refine aT 12 rfl (ZC fun D B L hI=>ZfN hp18 rfl rfl Tryz.underlying36 Zgc rfl rfl om om r4) (h:=?_)
 refine aW 13 rfl Zi5 (h:=ZV 14 kr rfl kr kr kr (Zez (k:=((y - 1)).toNat) (off:=1) (⟨z.uid,chg m.flags how fl,z.text⟩) [_] 2 hv hp18 hz rfl rfl sz3 rfl rfl rfl rfl rfl rfl (by rintro _ ⟨rfl,e1⟩;exact ⟨rfl,e1⟩) (fun l19 hv19=>?_)))
 refine Zx (Zj (Zc (xM (h:=xD (h:=xA (h:=?_))))))
 exact ZA (g.1+1,l19,(g.2.2.set (((y - 1)).toNat) (⟨z.uid,chg m.flags how fl,z.text⟩))) [0,1,2,3] so2 ⟨rfl,so,by simp only [];rw [Zmn hy (by rw [← hs];exact hz) hm,← hs],hlk.set hz (Zue _ _ _),hv19⟩ t10 rfl
 try simp only [sQ,ne_eq] at g5
 have hfe:g.2.2=Zef x.mail how fl xs:=by rw [hs,List.take_of_length_le oz]
 rw [hfe] at hv hll
 refine ZT (Zab (ZW (ZG (Zj (Za (xL [_,_] Zbp 3 (h:=Z4 2 rfl hv ZM.mono om3 (fun B20 hle20 hr20=>?_))))))))
 have hr20n:=hr20.len
 refine xS [_,_] 1 [_,_] Zcx (h:=?_)
 rw [hall]
 refine xA (h:=tL4 (Zd ?_))
 exact Zav .ret (.inl rfl) [_,_] [] rfl ⟨⟨_,rfl,.inr ⟨[_,_],Zbp,Z9 1 rfl rfl rfl,rfl⟩⟩,rfl,trivial⟩ ⟨rfl,_,_,by rw [← hll];rfl,hr20⟩

theorem ZcB (q:Option Addr) (cp:Nat) (x:DBox) (B:Kn) (hx:SlK B q cp 3 ZM x.mail):Zu (pj J) 152 [.agg #[.int .i64 x.next,.slice q x.mail.length cp]] B [] (fun v B' Ls=>∃l a c l' a' c',Ls=[l,l']∧v = .tuple #[.agg #[.int .i64 (expunge x).1.next,.slice a (expunge x).1.mail.length c],.slice a' (expunge x).2.length c']∧ZZ B' l a c 89 3 ZM (expunge x).1.mail∧ZZ B' l' a' c' 3 1 Zb9 (expunge x).2):=by
 refine cB 52 Tryz.func152 (h:=?_)
 have hxn:=hx.len
 refine Za (xBx [_,_] (h:=fun b1=>xAl [_,_] ZeS (h:=fun b2=>xA (h:=tL2 (Zf (Za (xL [_,_] Zbp 0 (h:=xR Zts rfl (Zgn _ _ (⟨x.next,x.mail⟩:DBox) _ hx) (h:=xN (h:=Zb rfl (fun g1=>?_) (fun g1=>?_)))))))))))
 try simp only [sQ,ne_eq] at g1
 refine Za (xB [] [_,_] [_,_] Znc ZeS (h:=ZuL (xBs [] [] Tryz.underlying110 sz3 zo3 (h:=fun b4=>?_))))
 rw [expunge,if_neg (by simp [g1])]
 refine xS [_,_] 1 [_,_] Zcx (h:=xA (h:=tL4 (Zd (Zo ?_))))
 exact Zav .ret (.inl rfl) [_,_] [2,3] rfl ⟨⟨_,rfl,.inr ⟨[_,_],Zbp,Z9 1 rfl rfl rfl,rfl⟩⟩,rfl,trivial⟩ ⟨_,none,0,_,_,_,rfl,rfl,ZZ.nil,ZZ.lit0⟩
 try simp only [sQ,ne_eq] at g1
 have hok:Zbf x=true:=by simpa using g1
 refine wSk (Za (xW ZbW (h:=x1 lk3 0 (h:=xBs [] [] Tryz.underlying36 Zgc Zlk (h:=fun b5=>xB [(0,_),(1,_)] [_,_] [_,_] Znc ZeS (h:=xAl [_,_] ZeS (h:=fun b6=>xS [_,_] 3 [_,_] Zcx (h:=tL4 (Za (xBs [] [] Tryz.underlying110 sz3 zo3 (h:=fun b7=>xA (h:=tL5 (Zf (Za (xA (h:=Zl (ZO (α:=GEx) [0,1,2,3,4,9] (fun g=>[(5,.slice g.n.a g.n.xs.length g.n.c),(6,.int .i64 g.k)]) [2,3,4] (fun g=>[g.m.l,Zas b6 [.int .i64 x.next,.slice g.m.a g.m.xs.length g.m.c] 38,g.n.l]) (fun g Bx=>Bx=B∧g.k≤x.mail.length∧g.m.xs=ZcE (x.mail.take g.k)∧g.n.xs=(Zk1 (x.mail.take g.k)).2∧g.n.xs.length≤g.k∧ZZ Bx g.m.l g.m.a g.m.c 89 3 ZM g.m.xs∧ZZ Bx g.n.l g.n.a g.n.c 3 1 Zb9 g.n.xs) (fun g=>x.mail.length - g.k) ⟨0,⟨0,0,_,_,_,[]⟩,⟨0,0,_,_,_,[]⟩⟩ t2 rfl (⟨rfl,Nat.zero_le _,rfl,rfl,Nat.le_refl _,.lit0,.lit0⟩) (fun g B8 hle8 hI=>?_))))))))))))))))))
 obtain ⟨rfl,hk,hm1,hn1,hnl,hv,hw⟩:=hI
 have hml:g.m.xs.length≤g.k:=by rw [hm1];exact Zs3 _ _
 refine ZN [(0,_),(1,_),(2,_),(3,_),(4,_),(5,_),(6,_),(9,_)] [_,_,_,_,_] t8 rfl (Zf (Za (xM (h:=xW ZaL (h:=x1 Zfs 0 (h:=xV Tryz.underlying36 (h:=Zaa (h:=Zb rfl (fun g2=>?_) (fun g2=>?_)))))))))
 try simp only [sQ,ne_eq] at g2
 refine wSk (Zf (Zl (Za (xW ZaL (h:=x1 Zfs 0 (h:=xM (h:=?_)))))))
 obtain ⟨m,hm⟩:=Zaf (xs:=x.mail) (i:=g.k) om
 obtain ⟨bb10,oo10,rfl⟩:=hx.base hm
 obtain ⟨_,⟨rfl,hb11⟩,hc11⟩:=hx.elem hm
 refine xIx Tryz.underlying36 Zgc (h:=xW Zi5 (h:=y1 lk3 hc11 1 (h:=Zp (ZfL (a:=m.flags) (b:=8) (r:=Int.tdiv m.flags 8) rfl rfl rfl rfl oz (Zj2 (Zf8 hok (List.mem_of_getElem? hm)).1 (Int.le_trans (Zf8 hok (List.mem_of_getElem? hm)).2 (by decide)) (by decide)) ?_))))
 refine Zp (Zgh (a:=(Int.tdiv m.flags 8)) (b:=2) (r:=Int.tmod (Int.tdiv m.flags 8) 2) rfl rfl rfl rfl (by decide) rfl ?_)
 refine ZF (h:=Zb rfl (fun g3=>?_) (fun g3=>?_))
 try simp only [sQ,ne_eq] at g3
 refine Zc (xM (h:=xW ZaL (h:=x1 Zfs 3 (h:=xV Tryz.underlying36 (h:=xD (h:=xBs [(0,_)] [_] Tryz.underlying110 sz3 zo3 (h:=fun b12=>Zp (Zbc (z:=((g.m.xs.length:Int)+1)) (R:=Zb9) 4 rfl hw rfl rfl rfl ZwT Zws rfl rfl (ZaN.box 5 rfl) rfl rfl (rfl) om (fun l13 p13 c13 hv13=>?_)))))))))
 refine xA (h:=Zx (Zj (Zc (xM (h:=xD (h:=xA (h:=?_)))))))
 exact ZA ⟨g.k+1,⟨0,0,g.m.l,g.m.a,g.m.c,g.m.xs⟩,⟨0,0,l13,p13,c13,(g.n.xs ++ [((g.m.xs.length:Int)+1)])⟩⟩ [0,1,2,3,4] so2 ⟨rfl,so,by simp only [];rw [ZuZ hm (by simpa [ZpY] using g3),hm1],by simp only [];rw [Zkh hm,Zds,if_pos (by simpa [ZpY] using g3),← hn1,Zro,← hm1];rfl,by simp;omega,hv,hv13⟩ t8 rfl
 try simp only [sQ,ne_eq] at g3
 refine Z2 (keeps _ [0,3] _) mo kr ⟨Kn.le.refl _,Zai.refl _ _⟩ (fun _ _=>?_)
 refine aW 0 rfl ZaL (h:=aT 1 rfl (ZC fun D B L hI=>Zh rfl rfl Zfs rfl (atL 3 (hI.2.2.1.trans rfl) rfl rfl) r4) (h:=aW 2 rfl ZaL (h:=aT 3 rfl (ZC fun D B L hI=>Zh rfl rfl Zfs rfl (atL 0 (hI.2.1.trans rfl) rfl rfl) r4) (h:=aM 4 rfl (h:=aIx 5 rfl Tryz.underlying36 Zgc (h:=aT 6 rfl (ZC fun D B L hI=>Z1 [_,_,_] rfl rfl Zpg rfl (Ziv (hc11.mono hI.1) 0 rfl rfl) r4) (h:=Zq 7 kr rfl kr (Zt (parts:=[(0,_)]) [_,_,_] rfl rfl Tryz.underlying36 Zgc Zlk rfl rfl rfl rfl rfl (fun b14=>?_)))))))))
 refine ⟨⟨Kn.le.refl _,t2⟩,(Zq 8 kr rfl kr (Zbc (z:=⟨m.uid,m.flags,m.text⟩) (R:=ZM) 2 rfl hv rfl rfl rfl ZvR Zwr rfl rfl (ZaN.box 5 rfl) rfl rfl (⟨rfl,by first | assumption | omega | (simp;done) | (simp;omega)⟩) om (fun l15 p15 c15 hv15=>?_)))⟩
 refine ⟨⟨Kn.le.refl _,t2⟩,(aW 9 rfl ZaL (h:=ZV 10 kr rfl kr kr kr (ZI [_] 3 [_,_] rfl rfl ZxP rfl rfl rfl rfl rfl rfl rfl rfl ?_)))⟩
 refine Zx (Zj (Zc (xM (h:=xD (h:=xA (h:=?_))))))
 exact ZA ⟨g.k+1,⟨0,0,l15,p15,c15,(g.m.xs ++ [⟨m.uid,m.flags,m.text⟩])⟩,⟨0,0,g.n.l,g.n.a,g.n.c,g.n.xs⟩⟩ [0,1,2,3,4] so2 ⟨rfl,so,by simp only [];rw [Zs2 hm (by simpa [ZpY] using g3),hm1],by simp only [];rw [Zkh hm,Zds,if_neg (by simpa [ZpY] using g3),hn1],so,hv15,hw⟩ t8 rfl
 try simp only [sQ,ne_eq] at g2
 have hmf0:g.m.xs=ZcE x.mail:=by rw [hm1,List.take_of_length_le oz]
 have hnf0:g.n.xs=(Zk1 x.mail).2:=by rw [hn1,List.take_of_length_le oz]
 rw [expunge,if_pos (by simpa using g1),← hmf0,← hnf0]
 refine ZT (Zab (ZW (ZG (Zj (Za (xL [_,_] Zbp 3 (h:=xM (h:=xS [_,_] 1 [_,_] Zcx (h:=xA (h:=tL5 (Zd ?_)))))))))))
 exact Zav .ret (.inl rfl) [_,_] [2,4] rfl ⟨⟨_,rfl,.inr ⟨[_,_],Zbp,Z9 1 rfl rfl rfl,rfl⟩⟩,rfl,trivial⟩ ⟨_,_,_,_,_,_,rfl,rfl,hv,hw⟩

theorem Zio (q:Option Addr) (cp:Nat) (xs:List DSpan) (B:Kn) (hs:SlK B q cp 2 Zjz xs):ZaH (pj J) 189 [.slice q xs.length cp] B (.bool (Zir xs)):=by
 refine cB 29 Tryz.func189 (h:=?_)
 have hsn:=hs.len
 refine Za (xA (h:=Zf (Za (xA (h:=Zl (ZO (α:=Nat) [0] (fun k=>[(3,.int .i64 k)]) [] (fun k=>[]) (fun k Bx=>Bx=B∧k≤xs.length∧∀y,y∈xs.take k→ZlJ y=true) (fun k=>xs.length - k) 0 t1 rfl (⟨rfl,Nat.zero_le _,by simp⟩) (fun k B1 hle1 hI=>?_)))))))
 obtain ⟨rfl,hk,hall⟩:=hI
 refine ZN [(0,_),(3,_)] [] t2 rfl (Zf (Za (xM (h:=xM (h:=xV Tryz.underlying229 (h:=Zaa (h:=Zb rfl (fun g1=>?_) (fun g1=>?_))))))))
 try simp only [sQ,ne_eq] at g1
 refine wSk (Zf (Zl (Za (xM (h:=xM (h:=?_))))))
 obtain ⟨m,hm⟩:=Zaf (xs:=xs) (i:=k) om
 obtain ⟨bb3,oo3,rfl⟩:=hs.base hm
 obtain ⟨_,rfl,hc4⟩:=hs.elem hm
 refine xIx Tryz.underlying229 Zqp (h:=xW Zrt (h:=y1 lk3 hc4 0 (h:=xR Zko rfl (Zcs _ _ _ _) (h:=xN (h:=xM (h:=Zn (d:=17) rfl (fun g2=>?_) (fun g2=>?_)))))))
 try simp only [sQ,ne_eq] at g2
 refine xP (h:=xP (h:=xP (h:=xP (h:=xP (h:=xP (h:=xP (h:=xT (h:=Zb (t:=true) rfl (fun _=>Za (xA (h:=Zd (ZD (Zo (Z3 (ZD (Zo ?_)))))))) (fun h=>Bool.noConfusion h)))))))))
 exact eR t1 ⟨Zg (by rw [Zir,Zc6 hm (by simp only [ZlJ,g2,Bool.false_and]),Bool.false_and]),rfl,rfl⟩
 try simp only [sQ,ne_eq] at g2
 refine xM (h:=xM (h:=xIx Tryz.underlying229 Zqp (h:=xW Zrs (h:=y1 lk3 hc4 1 (h:=xR Zko rfl (Zcs _ _ _ _) (h:=xN (h:=xF (h:=Zb rfl (fun g3=>?_) (fun g3=>?_)))))))))
 try simp only [sQ,ne_eq] at g3
 refine Za (xA (h:=Zd (ZD (Zo (Z3 (ZD (Zo ?_)))))))
 exact eR t1 ⟨Zg (by rw [Zir,Zc6 hm (by simp only [ZlJ,g3,Bool.and_false]),Bool.false_and]),rfl,rfl⟩
 try simp only [sQ,ne_eq] at g3
 refine ZK (Zx (Zj (Zc (xM (h:=xD (h:=xA (h:=?_)))))))
 exact ZA (k+1) [] so2 ⟨rfl,oz,Zbq hm hall (by simp only [ZlJ];rw [show (decide (0≤m.low) && decide (m.low≤99))=true by simpa only [Bool.not_eq_false] using g2,show (decide (0≤m.high) && decide (m.high≤99))=true by simpa only [Bool.not_eq_false] using g3];rfl)⟩ t2 rfl
 try simp only [sQ,ne_eq] at g1
 refine ZT (Zab (ZW (ZG (Zj (Za (xM (h:=xV Tryz.underlying229 (h:=xR Zko rfl (Zcs _ _ _ _) (h:=xA (h:=Zd ?_))))))))))
 exact eR t1 ⟨Zg (by rw [Zir,ZeP (ZbL oz hall),Bool.true_and,Bool.eq_iff_iff];simp;try omega),rfl,rfl⟩

theorem ZuV (q:Option Addr) (cp:Nat) (xs:List DSpan) (last n:Int) (B:Kn) (hs:SlK B q cp 2 Zjz xs):ZaH (pj J) 198 [.slice q xs.length cp,.int .i64 last,.int .i64 n] B (.bool (Zgq xs last n)):=by
 refine cB 40 Tryz.func198 (h:=?_)
 have hsn:=hs.len
 refine Za (xA (h:=Zf (Za (xA (h:=Zl (ZO (α:=Nat) [0,1,2] (fun k=>[(7,.int .i64 k)]) [] (fun k=>[]) (fun k Bx=>Bx=B∧k≤xs.length∧(xs.take k).any (Zeb last n)=false) (fun k=>xs.length - k) 0 t1 rfl (⟨rfl,Nat.zero_le _,rfl⟩) (fun k B1 hle1 hI=>?_)))))))
 obtain ⟨rfl,hk,hna⟩:=hI
 refine ZN [(0,_),(1,_),(2,_),(7,_)] [] t4 rfl (Zf (Za (xM (h:=xM (h:=xV Tryz.underlying229 (h:=Zaa (h:=Zb rfl (fun g1=>?_) (fun g1=>?_))))))))
 try simp only [sQ,ne_eq] at g1
 refine wSk (Zf (Zl (Za (xM (h:=xM (h:=?_))))))
 obtain ⟨m,hm⟩:=Zaf (xs:=xs) (i:=k) om
 obtain ⟨bb3,oo3,rfl⟩:=hs.base hm
 obtain ⟨_,rfl,hc4⟩:=hs.elem hm
 refine xIx Tryz.underlying229 Zqp (h:=xW Zrt (h:=y1 lk3 hc4 0 (h:=xA (h:=Za (xM (h:=xM (h:=xIx Tryz.underlying229 Zqp (h:=xW Zrs (h:=y1 lk3 hc4 1 (h:=xA (h:=Zf (Za (xM (h:=ZF (h:=Zb rfl (fun g2=>?_) (fun g2=>?_))))))))))))))))
 try simp only [sQ,ne_eq] at g2
 refine Zc (xM (h:=xA (h:=Zj (Zf (Za (xM (h:=ZF (h:=Zb rfl (fun g3=>?_) (fun g3=>?_)))))))))
 try simp only [sQ,ne_eq] at g3
 refine Zc (xM (h:=xA (h:=Zj (Za (xM (h:=xM (h:=xM (h:=Zp (ZjR rfl rfl rfl rfl (xM (h:=xM (h:=Zp (ZnV rfl rfl rfl rfl (xR Zko rfl (Zcs _ _ _ _) (h:=Zb rfl (fun g4=>?_) (fun g4=>?_))))))))))))))))
 try simp only [sQ,ne_eq] at g4
 refine Za (xA (h:=Zd (ZD (Zo (Z3 (ZD (Zo ?_)))))))
 exact eR t1 ⟨Zg (by symm;rw [Zgq,List.any_eq_true];exact ⟨m,List.mem_of_getElem? hm,by simp only [Zeb,g2,g3,if_true,if_false];simpa using g4⟩),rfl,rfl⟩
 try simp only [sQ,ne_eq] at g4
 refine ZK (Zx (Zj (Zc (xM (h:=xD (h:=xA (h:=?_)))))))
 exact ZA (k+1) [] so2 ⟨rfl,oz,by rw [Zd8 hm,hna];simp only [Zeb,g2,g3,if_true,if_false];simpa using g4⟩ t4 rfl
 try simp only [sQ,ne_eq] at g3
 refine wSk (Za (xM (h:=xM (h:=xM (h:=Zp (ZjR rfl rfl rfl rfl (xM (h:=xM (h:=Zp (ZnV rfl rfl rfl rfl (xR Zko rfl (Zcs _ _ _ _) (h:=Zb rfl (fun g4=>?_) (fun g4=>?_)))))))))))))
 try simp only [sQ,ne_eq] at g4
 refine Za (xA (h:=Zd (ZD (Zo (Z3 (ZD (Zo ?_)))))))
 exact eR t1 ⟨Zg (by symm;rw [Zgq,List.any_eq_true];exact ⟨m,List.mem_of_getElem? hm,by simp only [Zeb,g2,g3,if_true,if_false];simpa using g4⟩),rfl,rfl⟩
 try simp only [sQ,ne_eq] at g4
 refine ZK (Zx (Zj (Zc (xM (h:=xD (h:=xA (h:=?_)))))))
 exact ZA (k+1) [] so2 ⟨rfl,oz,by rw [Zd8 hm,hna];simp only [Zeb,g2,g3,if_true,if_false];simpa using g4⟩ t4 rfl
 try simp only [sQ,ne_eq] at g2
 refine wSk (Zf (Za (xM (h:=ZF (h:=Zb rfl (fun g3=>?_) (fun g3=>?_))))))
 try simp only [sQ,ne_eq] at g3
 refine Zc (xM (h:=xA (h:=Zj (Za (xM (h:=xM (h:=xM (h:=Zp (ZjR rfl rfl rfl rfl (xM (h:=xM (h:=Zp (ZnV rfl rfl rfl rfl (xR Zko rfl (Zcs _ _ _ _) (h:=Zb rfl (fun g4=>?_) (fun g4=>?_))))))))))))))))
 try simp only [sQ,ne_eq] at g4
 refine Za (xA (h:=Zd (ZD (Zo (Z3 (ZD (Zo ?_)))))))
 exact eR t1 ⟨Zg (by symm;rw [Zgq,List.any_eq_true];exact ⟨m,List.mem_of_getElem? hm,by simp only [Zeb,g2,g3,if_true,if_false];simpa using g4⟩),rfl,rfl⟩
 try simp only [sQ,ne_eq] at g4
 refine ZK (Zx (Zj (Zc (xM (h:=xD (h:=xA (h:=?_)))))))
 exact ZA (k+1) [] so2 ⟨rfl,oz,by rw [Zd8 hm,hna];simp only [Zeb,g2,g3,if_true,if_false];simpa using g4⟩ t4 rfl
 try simp only [sQ,ne_eq] at g3
 refine wSk (Za (xM (h:=xM (h:=xM (h:=Zp (ZjR rfl rfl rfl rfl (xM (h:=xM (h:=Zp (ZnV rfl rfl rfl rfl (xR Zko rfl (Zcs _ _ _ _) (h:=Zb rfl (fun g4=>?_) (fun g4=>?_)))))))))))))
 try simp only [sQ,ne_eq] at g4
 refine Za (xA (h:=Zd (ZD (Zo (Z3 (ZD (Zo ?_)))))))
 exact eR t1 ⟨Zg (by symm;rw [Zgq,List.any_eq_true];exact ⟨m,List.mem_of_getElem? hm,by simp only [Zeb,g2,g3,if_true,if_false];simpa using g4⟩),rfl,rfl⟩
 try simp only [sQ,ne_eq] at g4
 refine ZK (Zx (Zj (Zc (xM (h:=xD (h:=xA (h:=?_)))))))
 exact ZA (k+1) [] so2 ⟨rfl,oz,by rw [Zd8 hm,hna];simp only [Zeb,g2,g3,if_true,if_false];simpa using g4⟩ t4 rfl
 try simp only [sQ,ne_eq] at g1
 refine ZT (Zab (ZW (ZG (Zj (Za (xA (h:=Zd ?_)))))))
 exact eR t1 ⟨Zg (by rw [Zgq,← Zr2 (b:=false) hna.symm oz]),rfl,rfl⟩

theorem ZoX (q:Option Addr) (cp:Nat) (xs:List DSpan) (last:Int) (hl0:0≤last) (B:Kn) (hs:SlK B q cp 2 Zjz xs):Zu (pj J) 196 [.slice q xs.length cp,.int .i64 last] B [] (fun v B' Ls=>Ls=[]∧∃a c,v = .slice a (ZaF xs last).length c∧SlK B' a c 1 Zb9 (ZaF xs last)):=by
 refine cB 28 Tryz.func196 (h:=?_)
 have hsn:=hs.len
 refine Za (xA (h:=Za (xBs [] [] Tryz.underlying110 sz3 zo3 (h:=fun b1=>xA (h:=tL1 (Zf (Za (xA (h:=Zl (ZO (α:=Gh Int) [0,1,4] (fun g=>[(5,.slice g.a g.xs.length g.c),(6,.int .i64 ((g.k+1:Nat):Int))]) [0] (fun g=>[g.l]) (fun g Bx=>Bx=B∧g.k≤(min last 99).toNat∧g.xs.length≤g.k∧(0<g.k→Zir xs=true)∧g.xs=Zdc xs (min last 99) g.k∧ZZ Bx g.l g.a g.c 3 1 Zb9 g.xs) (fun g=>(min last 99).toNat - g.k) ⟨0,0,_,_,_,[]⟩ t2 rfl (⟨rfl,Nat.zero_le _,Nat.le_refl _,by simp,rfl,.lit0⟩) (fun g B2 hle2 hI=>?_)))))))))))
 obtain ⟨rfl,hk,hgl,hok,hnt,hv⟩:=hI
 refine ZN [(0,_),(1,_),(4,_),(5,_),(6,_)] [_] t5 rfl (Zf (Za (xM (h:=xM (h:=Zp (ZjR rfl rfl rfl rfl (ZcP (h:=xM (h:=Zn (d:=12) rfl (fun g1=>?_) (fun g1=>?_))))))))))
 try simp only [sQ,ne_eq] at g1
 refine xM (h:=xR Zvw rfl (Zio _ _ xs _ hs) (h:=xT (h:=Zb rfl (fun g2=>?_) (fun g2=>?_))))
 try simp only [sQ,ne_eq] at g2
 refine wSk (Zf (Zl (Za (xM (h:=xM (h:=Zp (ZjR rfl rfl rfl rfl (xM (h:=xR Zyk rfl (ZuV _ _ xs (min last 99) (↑(g.k+1)) _ hs) (h:=Zb rfl (fun g3=>?_) (fun g3=>?_)))))))))))
 try simp only [sQ,ne_eq] at g3
 refine Zc (xM (h:=xM (h:=xBs [(0,_)] [_] Tryz.underlying110 sz3 zo3 (h:=fun b5=>Zp (Zbc (z:=(↑(g.k+1):Int)) (R:=Zb9) 0 rfl hv rfl rfl rfl ZwT Zws rfl rfl (ZaN.box 1 rfl) rfl rfl (rfl) om (fun l6 p6 c6 hv6=>?_))))))
 refine xA (h:=Zx (Zj (Zc (xM (h:=xD (h:=xA (h:=?_)))))))
 exact ZA ⟨g.k+1,0,l6,p6,c6,(g.xs ++ [(↑(g.k+1):Int)])⟩ [0] so2 ⟨rfl,so,by simp;omega,fun _=>g2,by simp only [];rw [Zo7 (by exact_mod_cast g3),hnt],hv6⟩ t5 rfl
 try simp only [sQ,ne_eq] at g3
 refine ZK (Zx (Zj (Zc (xM (h:=xD (h:=xA (h:=?_)))))))
 exact ZA ⟨g.k+1,0,g.l,g.a,g.c,g.xs⟩ [0] so2 ⟨rfl,so,so,fun _=>g2,by simp only [];rw [ZqL (by exact_mod_cast g3),hnt],hv⟩ t5 rfl
 try simp only [sQ,ne_eq] at g2
 refine ZT (Zab (ZW (ZG (Zj (Za (xM (h:=Z4 0 rfl hv Zb9.mono om3 (fun B7 hle7 hr7=>?_))))))))
 have hr7n:=hr7.len
 refine xA (h:=tL1 ?_)
 have hne:ZaF xs last=g.xs:=by
    rw [ZaF,if_neg (by simp [g2]),hnt]
    have:g.k=0:=by
      rcases Nat.eq_zero_or_pos g.k with h | h
      · exact h
      · rw [hok h] at g2;cases g2
    rw [this];rfl
 rw [hne]
 refine Zd ?_
 exact eN [] rfl t1 ⟨rfl,_,_,rfl,hr7⟩
 try simp only [sQ,ne_eq] at g1
 refine xP (h:=xP (h:=xF (h:=Zb (t:=false) rfl (fun h=>Bool.noConfusion h) (fun _=>ZT (Zab (ZW (ZG (Zj (Za (xM (h:=Z4 0 rfl hv Zb9.mono om3 (fun B8 hle8 hr8=>?_))))))))))))
 have hr8n:=hr8.len
 refine xA (h:=tL1 ?_)
 have hne:ZaF xs last=g.xs:=by
    have hk2:g.k=(min last 99).toNat:=by omega
    rw [ZaF]
    rcases Nat.eq_zero_or_pos g.k with h | h
    · rw [← hk2,hnt,h];split <;> rfl
    · rw [if_pos (hok h),hnt,hk2]
 rw [hne]
 refine Zd ?_
 exact eN [] rfl t1 ⟨rfl,_,_,rfl,hr8⟩

theorem Znm (q1 q2 q3:Option Addr) (c1 c2 c3:Nat) (x:DHost) (s:DSess) (hs1:s.user.length≤2000000) (hs2:s.owner.length≤2000000) (hs3:s.name.length≤2000000) (r:Int) (hrr:Zh7 x.folders) (h1:0<r) (B:Kn) (hu:SlK B q1 c1 3 Zv x.users) (hf:SlK B q2 c2 5 Ze x.folders):ZaH (pj J) 190 [.agg #[str x.domain,.slice q1 x.users.length c1,.slice q2 x.folders.length c2,.int .i64 x.queue.next,.slice q3 x.queue.items.length c3],.agg #[str s.user,str s.owner,str s.name],.int .i64 r] B (.tuple #[.int .i64 (atF x s r).1,.int .i64 (atF x s r).2]):=by
 refine cB 32 Tryz.func190 (h:=?_)
 have hun:=hu.len
 have hfn:=hf.len
 have hix:=ZcY (inF s.owner s.name) x.folders
 refine Za (xBx [_,_,_,_,_] (h:=fun b1=>xBx [_,_,_] (h:=fun b2=>xA (h:=xA (h:=tL2 (Za (xL [_,_,_,_,_] ZY 0 (h:=xW Zvc (h:=x1 lk9 1 (h:=xW Zvb (h:=x1 lk9 1 (h:=xR Zvq rfl (ZdH _ _ _ _ _ _ x s.owner s.name om2 om2 _ hf) (h:=?_)))))))))))))
 refine xA (h:=Za (xL [_,_,_,_,_] ZY 0 (h:=xW ZnA (h:=x1 lk9 1 (h:=xM (h:=xR ZwU rfl (Zer _ _ _ _ _ _ x s.user (ZaB (inF s.owner s.name) x.folders) 2 oz hrr oz _ hu hf) (h:=?_)))))))
 refine xA (h:=Zf (Za (xM (h:=ZbC (h:=Zb rfl (fun g1=>?_) (fun g1=>?_))))))
 try simp only [sQ,ne_eq] at g1
 refine Za (xM (h:=xM (h:=xA (h:=xA (h:=Zd (Zo ?_))))))
 exact ZrG .ret (.inl rfl) [_,_] t2 ⟨by rw [atF,if_pos g1];rfl,rfl,rfl⟩
 try simp only [sQ,ne_eq] at g1
 refine wSk (Za (xM (h:=xL [_,_,_,_,_] ZY 0 (h:=xW ZnA (h:=x1 lk9 1 (h:=xM (h:=xM (h:=xR ZwU rfl (Zer _ _ _ _ _ _ x s.user (ZaB (inF s.owner s.name) x.folders) r oz hrr oz _ hu hf) (h:=?_)))))))))
 refine xA (h:=xA (h:=Zd ?_))
 exact ZrG .ret (.inl rfl) [_,_] t2 ⟨by rw [atF,if_neg (fun h=>h g1)];rfl,rfl,rfl⟩

theorem ZkS (q:Option Addr) (cp:Nat) (x:DBox) (q2:Option Addr) (cp2:Nat) (xs:List DSpan) (B:Kn) (hx:SlK B q cp 3 ZM x.mail) (hs:SlK B q2 cp2 2 Zjz xs):Zu (pj J) 192 [.agg #[.int .i64 x.next,.slice q x.mail.length cp],.slice q2 xs.length cp2] B [] (fun v B' Ls=>Ls=[]∧∃a c,v = .slice a (ZaF xs x.mail.length).length c∧SlK B' a c 1 Zb9 (ZaF xs x.mail.length)):=by
 refine cB 10 Tryz.func192 (h:=?_)
 have hxn:=hx.len
 refine Za (xBx [_,_] (h:=fun b1=>xA (h:=tL1 (Za (xM (h:=xW ZaL (h:=x1 Zfs 0 (h:=xV Tryz.underlying36 (h:=xQ Zyl rfl (ZoX _ _ xs ↑x.mail.length om2 _ hs) (h:=?_))))))))))
 intro v2 B2 hle2
 rintro ⟨a2,c2,rfl,hs2⟩
 have hs2n:=hs2.len
 refine xA (h:=Zd ?_)
 exact eN [] rfl t1 ⟨rfl,_,_,rfl,hs2⟩

theorem Zm0 (q1 q2 q3:Option Addr) (c1 c2 c3:Nat) (x:DHost) (s:DSess) (hs1:s.user.length≤2000000) (hs2:s.owner.length≤2000000) (hs3:s.name.length≤2000000) (q4:Option Addr) (c4:Nat) (set:List DSpan) (how fl:Int) (hd:x.domain.length≤2000000) (B:Kn) (hu:SlK B q1 c1 3 Zv x.users) (hf:SlK B q2 c2 5 Ze x.folders) (hi:SlK B q3 c3 4 Zy x.queue.items) (hs:SlK B q4 c4 2 Zjz set):Zu (pj J) 181 [.agg #[str x.domain,.slice q1 x.users.length c1,.slice q2 x.folders.length c2,.int .i64 x.queue.next,.slice q3 x.queue.items.length c3],.agg #[str s.user,str s.owner,str s.name],.slice q4 set.length c4,.int .i64 how,.int .i64 fl] B [] (fun v B' Ls=>Ls=[]∧∃p1 d1 p2 d2 p3 d3,v = .tuple #[.agg #[str (Zcd x s set how fl).1.domain,.slice p1 (Zcd x s set how fl).1.users.length d1,.slice p2 (Zcd x s set how fl).1.folders.length d2,.int .i64 (Zcd x s set how fl).1.queue.next,.slice p3 (Zcd x s set how fl).1.queue.items.length d3],.int .i64 (Zcd x s set how fl).2]∧SlK B' p1 d1 3 Zv (Zcd x s set how fl).1.users∧SlK B' p2 d2 5 Ze (Zcd x s set how fl).1.folders∧SlK B' p3 d3 4 Zy (Zcd x s set how fl).1.queue.items∧(Zcd x s set how fl).1.domain.length≤2000000):=by
 refine cB 75 Tryz.func181 (h:=?_)
 have hun:=hu.len
 have hfn:=hf.len
 have hin:=hi.len
 have hsn:=hs.len
 have hix:=ZcY (inF s.owner s.name) x.folders
 refine Za (xBx [_,_,_,_,_] (h:=fun b1=>xBx [_,_,_] (h:=fun b2=>xAl [_,_,_,_,_] Za1 (h:=fun b3=>xA (h:=tL3 (Zf (Za (xL [_,_,_,_,_] ZY 0 (h:=xR Zsh rfl (ZbH _ _ _ _ _ _ x om2 _ hu hf hi) (h:=?_))))))))))
 refine xN (h:=xM (h:=Zn (d:=20) rfl (fun g1=>?_) (fun g1=>?_)))
 try simp only [sQ,ne_eq] at g1
 rw [Zcd,if_pos (by simp [g1])]
 refine xP (h:=xP (h:=xP (h:=xT (h:=xM (h:=xP (h:=xP (h:=xP (h:=xT (h:=xM (h:=xP (h:=xP (h:=xP (h:=xT (h:=Zb (t:=true) rfl (fun _=>Za (xB [] [_,_,_,_,_] [_,_,_,_,_] Zd0 Za1 (h:=xS [_,_,_,_,_] 2 [_,_,_,_,_] Zaq (h:=xA (h:=tL3 (Zd (Zo ?_))))))) (fun h=>Bool.noConfusion h)))))))))))))))
 exact Zav .ret (.inl rfl) [_,_] [] rfl ⟨⟨_,rfl,.inr ⟨[_,_,_,_,_],ZY,Z9 2 rfl rfl rfl,rfl⟩⟩,rfl,trivial⟩ ⟨rfl,none,0,none,0,none,0,rfl,SlK.nil,SlK.nil,SlK.nil,by simp [ZaO]⟩
 try simp only [sQ,ne_eq] at g1
 refine xM (h:=xR Zvw rfl (Zio _ _ set _ hs) (h:=xN (h:=xF (h:=xM (h:=Zn (d:=25) rfl (fun g2=>?_) (fun g2=>?_))))))
 try simp only [sQ,ne_eq] at g2
 rw [Zcd,if_pos (by simp [g2])]
 refine xP (h:=xP (h:=xP (h:=xT (h:=xM (h:=xP (h:=xP (h:=xP (h:=xT (h:=Zb (t:=true) rfl (fun _=>Za (xB [] [_,_,_,_,_] [_,_,_,_,_] Zd0 Za1 (h:=xS [_,_,_,_,_] 2 [_,_,_,_,_] Zaq (h:=xA (h:=tL3 (Zd (Zo ?_))))))) (fun h=>Bool.noConfusion h))))))))))
 exact Zav .ret (.inl rfl) [_,_] [] rfl ⟨⟨_,rfl,.inr ⟨[_,_,_,_,_],ZY,Z9 2 rfl rfl rfl,rfl⟩⟩,rfl,trivial⟩ ⟨rfl,none,0,none,0,none,0,rfl,SlK.nil,SlK.nil,SlK.nil,by simp [ZaO]⟩
 try simp only [sQ,ne_eq] at g2
 refine xM (h:=xR ZwV rfl (Zfb _ _) (h:=xN (h:=xF (h:=xM (h:=Zn (d:=30) rfl (fun g3=>?_) (fun g3=>?_))))))
 try simp only [sQ,ne_eq] at g3
 rw [Zcd,if_pos (fun h=>by have:=h.2.2.1;simp only [Zae,g3] at this;cases this)]
 refine xP (h:=xP (h:=xP (h:=xT (h:=Zb (t:=true) rfl (fun _=>Za (xB [] [_,_,_,_,_] [_,_,_,_,_] Zd0 Za1 (h:=xS [_,_,_,_,_] 2 [_,_,_,_,_] Zaq (h:=xA (h:=tL3 (Zd (Zo ?_))))))) (fun h=>Bool.noConfusion h)))))
 exact Zav .ret (.inl rfl) [_,_] [] rfl ⟨⟨_,rfl,.inr ⟨[_,_,_,_,_],ZY,Z9 2 rfl rfl rfl,rfl⟩⟩,rfl,trivial⟩ ⟨rfl,none,0,none,0,none,0,rfl,SlK.nil,SlK.nil,SlK.nil,by simp [ZaO]⟩
 try simp only [sQ,ne_eq] at g3
 refine xM (h:=xR Zko rfl (Zcs _ _ _ _) (h:=xN (h:=xF (h:=Zb rfl (fun g4=>?_) (fun g4=>?_)))))
 try simp only [sQ,ne_eq] at g4
 rw [Zcd,if_pos (fun h=>by have:=h.2.2.2;simp only [ZkY,g4] at this;cases this)]
 refine Za (xB [] [_,_,_,_,_] [_,_,_,_,_] Zd0 Za1 (h:=xS [_,_,_,_,_] 2 [_,_,_,_,_] Zaq (h:=xA (h:=tL3 (Zd (Zo ?_))))))
 exact Zav .ret (.inl rfl) [_,_] [] rfl ⟨⟨_,rfl,.inr ⟨[_,_,_,_,_],ZY,Z9 2 rfl rfl rfl,rfl⟩⟩,rfl,trivial⟩ ⟨rfl,none,0,none,0,none,0,rfl,SlK.nil,SlK.nil,SlK.nil,by simp [ZaO]⟩
 try simp only [sQ,ne_eq] at g4
 have hok:Zw x=true:=by simpa using g1
 have hrr:=ZcG hok
 have hnn : ¬ ¬ (Zw x=true∧Zir set=true∧Zae fl=true∧ZkY how=true):=fun h=>h ⟨hok,by simpa using g2,by simpa only [Zae,Bool.not_eq_false] using g3,by simpa only [ZkY,Bool.not_eq_false] using g4⟩
 refine wSk (Za (xL [_,_,_,_,_] ZY 0 (h:=xL [_,_,_] Zpi 1 (h:=xR Zvv rfl (Znm _ _ _ _ _ _ x s om2 om2 om2 4 hrr oz _ hu hf) (h:=?_)))))
 refine xM (h:=xE (h:=xE (h:=xA (h:=xA (h:=Za (xL [_,_,_,_,_] ZY 0 (h:=xC ZoC rfl (Zbl _ _ _ _ _ _ x _ hu hf hi) (h:=?_))))))))
 rintro _ B9 _ hle9 ⟨l9,a9,c9,q19,c19,q39,c39,rfl,rfl,hu9,hs9,hi9⟩
 obtain ⟨hf,hs⟩:=up2 hle9 hf hs
 have hu9n:=hu9.len
 have hi9n:=hi9.len
 refine xAl [_,_,_,_,_] Za1 (h:=fun b10=>xS [_,_,_,_,_] 4 [_,_,_,_,_] Zaq (h:=tL5 (Zf (Za (xM (h:=ZbC (h:=Zb rfl (fun g5=>?_) (fun g5=>?_))))))))
 try simp only [sQ,ne_eq] at g5
 refine Za (xL [_,_,_,_,_] ZY 4 (h:=Z4 3 rfl hs9 Ze.mono om3 (fun B11 hle11 hr11=>?_)))
 obtain ⟨hf,hs,hu9,hi9⟩:=up4 hle11 hf hs hu9 hi9
 have hr11n:=hr11.len
 refine xM (h:=?_)
 rw [Zcd,if_neg hnn,if_pos g5]
 refine xS [_,_,_,_,_] 2 [_,_,_,_,_] Zaq (h:=xA (h:=tL5 (Zd (Zo ?_))))
 exact Zav .ret (.inl rfl) [_,_] [] rfl ⟨⟨_,rfl,.inr ⟨[_,_,_,_,_],ZY,Z9 2 rfl rfl rfl,rfl⟩⟩,rfl,trivial⟩ ⟨rfl,_,_,_,_,_,_,(by first | rfl | (simp only [DHost.withFolders,List.length_set];rfl)),hu9,hr11,hi9,by first | assumption | (rw [ZR.2.2.1];assumption)⟩
 try simp only [sQ,ne_eq] at g5
 obtain ⟨hat,hk0,_,_,_⟩:=Zh1 g5
 obtain ⟨f,hf0⟩ :∃f,x.folders[(atF x s 4).1.toNat]? = some f:=⟨_,List.getElem?_eq_getElem oz⟩
 have hfb:Zbf (⟨f.next,f.mail⟩:DBox)=true:=Zbu (ZaK hok hf0)
 have hse:Zcd x s set how fl=(x.withFolders (x.folders.set (atF x s 4).1.toNat (f.withBox (Zbn ⟨f.next,f.mail⟩ (ZaF set f.mail.length) how fl).1)),0):=by rw [Zcd,if_neg hnn,if_neg (fun h=>h g5),Zdy hf0,Zis hf0];rfl
 refine wSk (Zf (Z2 (keeps _ [0,3] _) mo kr ⟨Kn.le.refl _,Zai.refl _ _⟩ (fun _ _=>?_)))
 refine aW 0 rfl ZX (h:=aT 1 rfl (ZC fun D B L hI=>Zh rfl rfl Zck rfl (atL 0 (hI.2.1.trans rfl) rfl rfl) r4) (h:=aM 2 rfl (h:=?_)))
 obtain ⟨bb12,oo12,rfl⟩:=hf.base hf0
 obtain ⟨_,⟨qg13,cg13,qm13,cm13,rfl,hg13,hm13,hb13,hb13b⟩,hc13⟩:=hf.elem hf0
 have hg13n:=hg13.len
 have hm13n:=hm13.len
 have hm13s:=Z0 hm13
 refine aIx 3 rfl Tryz.underlying24 Zba (h:=aW 4 rfl Zby (h:=aT 5 rfl (ZC fun D B L hI=>Z1 [_,_] rfl rfl Zbp rfl (Ziv (hc13.mono hI.1) 3 rfl rfl) r4) (h:=aW 6 rfl ZX (h:=aT 7 rfl (ZC fun D B L hI=>Zh rfl rfl Zck rfl (atL 0 (hI.2.1.trans rfl) rfl rfl) r4) (h:=aM 8 rfl (h:=aIx 9 rfl Tryz.underlying24 Zba (h:=aW 10 rfl Zby (h:=aT 11 rfl (ZC fun D B L hI=>Z1 [_,_] rfl rfl Zbp rfl (Ziv (hc13.mono hI.1) 3 rfl rfl) r4) (h:=aM 12 rfl (h:=aM 14 rfl (h:=aM 15 rfl (h:=Zan [13,20] kr kr kr ⟨?_,?_⟩))))))))))))
 refine (ZeD rfl rfl Zvt rfl (ZkS _ _ (⟨f.next,f.mail⟩:DBox) _ _ set _ hm13 hs) ?_)
 intro v14 B14 hle14
 rintro ⟨a14,c14,rfl,hs14⟩
 replace hs:=up1 hle14 hs
 replace hm13:=hm13.mono ZM.mono hle14
 replace hs9:=hs9.mono Ze.mono hle14
 replace hu9:=hu9.mono Zv.mono hle14
 replace hi9:=hi9.mono Zy.mono hle14
 have hs14n:=hs14.len
 refine ⟨⟨hle14,t2⟩,(Zan [16,20] kr kr kr ⟨?_,?_⟩)⟩
 refine (ZeD rfl rfl Zvu rfl (ZfT _ _ (⟨f.next,f.mail⟩:DBox) _ _ (ZaF set f.mail.length) how fl _ hm13 hs14) ?_)
 intro v15 B15 hle15
 rintro ⟨a15,c15,rfl,hs15⟩
 replace hs:=up1 hle15 hs
 replace hm13:=hm13.mono ZM.mono hle15
 replace hs14:=hs14.mono Zb9.mono hle15
 replace hs9:=hs9.mono Ze.mono hle15
 replace hu9:=hu9.mono Zv.mono hle15
 replace hi9:=hi9.mono Zy.mono hle15
 have hs15n:=hs15.len
 refine ⟨⟨(hle14.trans hle15),t2⟩,(aM 17 rfl (h:=aE 18 rfl (h:=aE 19 rfl (h:=Zq 20 kr rfl kr (Zal (l:=[_,_]) rfl rfl ZeS rfl (fun b16=>?_))))))⟩
 refine ⟨⟨(hle14.trans hle15),t2⟩,(Zbj 21 kr rfl kr kr (ZI [_,_] 5 [_,_] rfl rfl Zcx rfl rfl rfl rfl rfl rfl rfl rfl ?_))⟩
 refine aA 22 rfl (h:=Zz kr kr ?_)
 refine Zj (tL6 (Za (xW ZX (h:=x1 Zck 4 (h:=xM (h:=xL [_,_] Zbp 5 (h:=?_)))))))
 obtain ⟨bb17,_,hp17,⟨qg17,cg17,qm17,cm17,rfl,hg17,hm17,hb17,hb17b⟩,hw17,hc17⟩:=hs9.row hf0
 have hg17n:=hg17.len
 have hm17n:=hm17.len
 have hm17s:=Z0 hm17
 refine xIp hp17 Tryz.underlying24 Zba (h:=xW Zby (h:=Zp (Zez (k:=((atF x s 4).1).toNat) (off:=3) (⟨f.owner,f.name,f.grants,(Zbn ⟨f.next,f.mail⟩ (ZaF set f.mail.length) how fl).1.next,(Zbn ⟨f.next,f.mail⟩ (ZaF set f.mail.length) how fl).1.mail⟩) [_,_] 3 hs9 hp17 hf0 rfl rfl Zcx rfl rfl rfl rfl rfl rfl (by rintro _ ⟨_,_,_,_,rfl,e1,_,e3,e4⟩;exact ⟨_,_,_,_,rfl,e1,hs15,e3,e4⟩) (fun l18 hv18=>?_))))
 refine tL6 (Za (xL [_,_,_,_,_] ZY 4 (h:=Z4 3 rfl hv18 Ze.mono om3 (fun B19 hle19 hr19=>?_))))
 obtain ⟨hs,hu9,hi9⟩:=up3 hle19 hs hu9 hi9
 have hr19n:=hr19.len
 refine xS [_,_,_,_,_] 2 [_,_,_,_,_] Zaq (h:=?_)
 rw [hse]
 refine xA (h:=tL6 (Zd ?_))
 exact Zav .ret (.inl rfl) [_,_] [] rfl ⟨⟨_,rfl,.inr ⟨[_,_,_,_,_],ZY,Z9 2 rfl rfl rfl,rfl⟩⟩,rfl,trivial⟩ ⟨rfl,_,_,_,_,_,_,(by first | rfl | (simp only [DHost.withFolders,List.length_set];rfl)),hu9,hr19,hi9,by first | assumption | (rw [ZR.2.2.1];assumption)⟩
 refine (Zal (l:=[_,_]) rfl rfl ZeS rfl (fun b20=>⟨⟨hle14,t2⟩,(Zq 16 kr rfl kr (ZeD rfl rfl Zvu rfl (ZfT _ _ (⟨f.next,f.mail⟩:DBox) _ _ (ZaF set f.mail.length) how fl _ hm13 hs14) ?_))⟩))
 intro v21 B21 hle21
 rintro ⟨a21,c21,rfl,hs21⟩
 replace hs:=up1 hle21 hs
 replace hm13:=hm13.mono ZM.mono hle21
 replace hs9:=hs9.mono Ze.mono hle21
 replace hu9:=hu9.mono Zv.mono hle21
 replace hi9:=hi9.mono Zy.mono hle21
 have hs21n:=hs21.len
 refine ⟨⟨(hle14.trans hle21),t2⟩,(aM 17 rfl (h:=aE 18 rfl (h:=aE 19 rfl (h:=Zbj 21 kr rfl kr kr (ZI [_,_] 5 [_,_] rfl rfl Zcx rfl rfl rfl rfl rfl rfl rfl rfl ?_)))))⟩
 refine aA 22 rfl (h:=Zz kr kr ?_)
 refine Zj (tL6 (Za (xW ZX (h:=x1 Zck 4 (h:=xM (h:=xL [_,_] Zbp 5 (h:=?_)))))))
 obtain ⟨bb22,_,hp22,⟨qg22,cg22,qm22,cm22,rfl,hg22,hm22,hb22,hb22b⟩,hw22,hc22⟩:=hs9.row hf0
 have hg22n:=hg22.len
 have hm22n:=hm22.len
 have hm22s:=Z0 hm22
 refine xIp hp22 Tryz.underlying24 Zba (h:=xW Zby (h:=Zp (Zez (k:=((atF x s 4).1).toNat) (off:=3) (⟨f.owner,f.name,f.grants,(Zbn ⟨f.next,f.mail⟩ (ZaF set f.mail.length) how fl).1.next,(Zbn ⟨f.next,f.mail⟩ (ZaF set f.mail.length) how fl).1.mail⟩) [_,_] 3 hs9 hp22 hf0 rfl rfl Zcx rfl rfl rfl rfl rfl rfl (by rintro _ ⟨_,_,_,_,rfl,e1,_,e3,e4⟩;exact ⟨_,_,_,_,rfl,e1,hs21,e3,e4⟩) (fun l23 hv23=>?_))))
 refine tL6 (Za (xL [_,_,_,_,_] ZY 4 (h:=Z4 3 rfl hv23 Ze.mono om3 (fun B24 hle24 hr24=>?_))))
 obtain ⟨hs,hu9,hi9⟩:=up3 hle24 hs hu9 hi9
 have hr24n:=hr24.len
 refine xS [_,_,_,_,_] 2 [_,_,_,_,_] Zaq (h:=?_)
 rw [hse]
 refine xA (h:=tL6 (Zd ?_))
 exact Zav .ret (.inl rfl) [_,_] [] rfl ⟨⟨_,rfl,.inr ⟨[_,_,_,_,_],ZY,Z9 2 rfl rfl rfl,rfl⟩⟩,rfl,trivial⟩ ⟨rfl,_,_,_,_,_,_,(by first | rfl | (simp only [DHost.withFolders,List.length_set];rfl)),hu9,hr24,hi9,by first | assumption | (rw [ZR.2.2.1];assumption)⟩
 refine (Zal (l:=[_,_]) rfl rfl ZeS rfl (fun b25=>⟨⟨Kn.le.refl _,t2⟩,(Zq 13 kr rfl kr (ZeD rfl rfl Zvt rfl (ZkS _ _ (⟨f.next,f.mail⟩:DBox) _ _ set _ hm13 hs) ?_))⟩))
 intro v26 B26 hle26
 rintro ⟨a26,c26,rfl,hs26⟩
 replace hm13:=hm13.mono ZM.mono hle26
 replace hs9:=hs9.mono Ze.mono hle26
 replace hu9:=hu9.mono Zv.mono hle26
 replace hi9:=hi9.mono Zy.mono hle26
 have hs26n:=hs26.len
 refine ⟨⟨hle26,t2⟩,(Zq 16 kr rfl kr (ZeD rfl rfl Zvu rfl (ZfT _ _ (⟨f.next,f.mail⟩:DBox) _ _ (ZaF set f.mail.length) how fl _ hm13 hs26) ?_))⟩
 intro v27 B27 hle27
 rintro ⟨a27,c27,rfl,hs27⟩
 replace hs9:=hs9.mono Ze.mono hle27
 replace hu9:=hu9.mono Zv.mono hle27
 replace hi9:=hi9.mono Zy.mono hle27
 have hs27n:=hs27.len
 refine ⟨⟨(hle26.trans hle27),t2⟩,(aM 17 rfl (h:=aE 18 rfl (h:=aE 19 rfl (h:=Zbj 21 kr rfl kr kr (ZI [_,_] 5 [_,_] rfl rfl Zcx rfl rfl rfl rfl rfl rfl rfl rfl ?_)))))⟩
 refine aA 22 rfl (h:=Zz kr kr ?_)
 refine Zj (tL6 (Za (xW ZX (h:=x1 Zck 4 (h:=xM (h:=xL [_,_] Zbp 5 (h:=?_)))))))
 obtain ⟨bb28,_,hp28,⟨qg28,cg28,qm28,cm28,rfl,hg28,hm28,hb28,hb28b⟩,hw28,hc28⟩:=hs9.row hf0
 have hg28n:=hg28.len
 have hm28n:=hm28.len
 have hm28s:=Z0 hm28
 refine xIp hp28 Tryz.underlying24 Zba (h:=xW Zby (h:=Zp (Zez (k:=((atF x s 4).1).toNat) (off:=3) (⟨f.owner,f.name,f.grants,(Zbn ⟨f.next,f.mail⟩ (ZaF set f.mail.length) how fl).1.next,(Zbn ⟨f.next,f.mail⟩ (ZaF set f.mail.length) how fl).1.mail⟩) [_,_] 3 hs9 hp28 hf0 rfl rfl Zcx rfl rfl rfl rfl rfl rfl (by rintro _ ⟨_,_,_,_,rfl,e1,_,e3,e4⟩;exact ⟨_,_,_,_,rfl,e1,hs27,e3,e4⟩) (fun l29 hv29=>?_))))
 refine tL6 (Za (xL [_,_,_,_,_] ZY 4 (h:=Z4 3 rfl hv29 Ze.mono om3 (fun B30 hle30 hr30=>?_))))
 obtain ⟨hu9,hi9⟩:=up2 hle30 hu9 hi9
 have hr30n:=hr30.len
 refine xS [_,_,_,_,_] 2 [_,_,_,_,_] Zaq (h:=?_)
 rw [hse]
 refine xA (h:=tL6 (Zd ?_))
 exact Zav .ret (.inl rfl) [_,_] [] rfl ⟨⟨_,rfl,.inr ⟨[_,_,_,_,_],ZY,Z9 2 rfl rfl rfl,rfl⟩⟩,rfl,trivial⟩ ⟨rfl,_,_,_,_,_,_,(by first | rfl | (simp only [DHost.withFolders,List.length_set];rfl)),hu9,hr30,hi9,by first | assumption | (rw [ZR.2.2.1];assumption)⟩

theorem ZoW (q1 q2 q3:Option Addr) (c1 c2 c3:Nat) (x:DHost) (s:DSess) (hs1:s.user.length≤2000000) (hs2:s.owner.length≤2000000) (hs3:s.name.length≤2000000) (hd:x.domain.length≤2000000) (B:Kn) (hu:SlK B q1 c1 3 Zv x.users) (hf:SlK B q2 c2 5 Ze x.folders) (hi:SlK B q3 c3 4 Zy x.queue.items):Zu (pj J) 182 [.agg #[str x.domain,.slice q1 x.users.length c1,.slice q2 x.folders.length c2,.int .i64 x.queue.next,.slice q3 x.queue.items.length c3],.agg #[str s.user,str s.owner,str s.name]] B [] (fun v B' Ls=>Ls=[]∧∃p1 d1 p2 d2 p3 d3 p4 d4,v = .tuple #[.agg #[str (ZaT x s).1.domain,.slice p1 (ZaT x s).1.users.length d1,.slice p2 (ZaT x s).1.folders.length d2,.int .i64 (ZaT x s).1.queue.next,.slice p3 (ZaT x s).1.queue.items.length d3],.slice p4 (ZaT x s).2.1.length d4,.int .i64 (ZaT x s).2.2]∧SlK B' p1 d1 3 Zv (ZaT x s).1.users∧SlK B' p2 d2 5 Ze (ZaT x s).1.folders∧SlK B' p3 d3 4 Zy (ZaT x s).1.queue.items∧SlK B' p4 d4 1 Zb9 (ZaT x s).2.1∧(ZaT x s).1.domain.length≤2000000):=by
 refine cB 48 Tryz.func182 (h:=?_)
 have hun:=hu.len
 have hfn:=hf.len
 have hin:=hi.len
 have hix:=ZcY (inF s.owner s.name) x.folders
 refine Za (xBx [_,_,_,_,_] (h:=fun b1=>xBx [_,_,_] (h:=fun b2=>xAl [_,_,_,_,_] Za1 (h:=fun b3=>xA (h:=xA (h:=tL3 (Zf (Za (xL [_,_,_,_,_] ZY 0 (h:=xR Zsh rfl (ZbH _ _ _ _ _ _ x om2 _ hu hf hi) (h:=?_)))))))))))
 refine xN (h:=Zb rfl (fun g1=>?_) (fun g1=>?_))
 try simp only [sQ,ne_eq] at g1
 refine Za (xB [] [_,_,_,_,_] [_,_,_,_,_] Zd0 Za1 (h:=xBs [] [] Tryz.underlying110 sz3 zo3 (h:=fun b5=>Z4 3 rfl (ZZ.lit0 (R:=Zb9) (w:=1)) Zb9.mono om3 (fun B6 hle6 hr6=>?_))))
 obtain ⟨hu,hf,hi⟩:=up3 hle6 hu hf hi
 have hr6n:=hr6.len
 refine xS [_,_,_,_,_] 2 [_,_,_,_,_] Zaq (h:=?_)
 rw [ZaT,if_pos g1]
 refine xA (h:=xA (h:=tL4 (Zd (Zo ?_))))
 exact Zav .ret (.inl rfl) [_,_,_] [] rfl ⟨⟨_,rfl,.inr ⟨[_,_,_,_,_],ZY,Z9 2 rfl rfl rfl,rfl⟩⟩,rfl,rfl,trivial⟩ ⟨rfl,none,0,none,0,none,0,_,_,rfl,SlK.nil,SlK.nil,SlK.nil,hr6,by simp [ZaO]⟩
 try simp only [sQ,ne_eq] at g1
 have hok:Zw x=true:=by simpa using g1
 have hrr:=ZcG hok
 have hnn : ¬ Zw x=false:=by simp [hok]
 refine wSk (Za (xL [_,_,_,_,_] ZY 0 (h:=xL [_,_,_] Zpi 1 (h:=xR Zvv rfl (Znm _ _ _ _ _ _ x s om2 om2 om2 16 hrr oz _ hu hf) (h:=?_)))))
 refine xM (h:=xE (h:=xE (h:=xA (h:=xA (h:=Za (xL [_,_,_,_,_] ZY 0 (h:=xC ZoC rfl (Zbl _ _ _ _ _ _ x _ hu hf hi) (h:=?_))))))))
 rintro _ B8 _ hle8 ⟨l8,a8,c8,q18,c18,q38,c38,rfl,rfl,hu8,hs8,hi8⟩
 replace hf:=up1 hle8 hf
 have hu8n:=hu8.len
 have hi8n:=hi8.len
 refine xAl [_,_,_,_,_] Za1 (h:=fun b9=>xS [_,_,_,_,_] 4 [_,_,_,_,_] Zaq (h:=tL5 (Zf (Za (xM (h:=ZbC (h:=Zb rfl (fun g5=>?_) (fun g5=>?_))))))))
 try simp only [sQ,ne_eq] at g5
 refine Za (xL [_,_,_,_,_] ZY 4 (h:=Z4 3 rfl hs8 Ze.mono om3 (fun B10 hle10 hr10=>?_)))
 obtain ⟨hf,hu8,hi8⟩:=up3 hle10 hf hu8 hi8
 have hr10n:=hr10.len
 refine xBs [] [] Tryz.underlying110 sz3 zo3 (h:=fun b11=>Z4 5 rfl (ZZ.lit0 (R:=Zb9) (w:=1)) Zb9.mono om3 (fun B12 hle12 hr12=>?_))
 obtain ⟨hf,hu8,hr10,hi8⟩:=up4 hle12 hf hu8 hr10 hi8
 have hr12n:=hr12.len
 refine xM (h:=?_)
 rw [ZaT,if_neg hnn,if_pos g5]
 refine xS [_,_,_,_,_] 2 [_,_,_,_,_] Zaq (h:=xA (h:=xA (h:=tL6 (Zd (Zo ?_)))))
 exact Zav .ret (.inl rfl) [_,_,_] [] rfl ⟨⟨_,rfl,.inr ⟨[_,_,_,_,_],ZY,Z9 2 rfl rfl rfl,rfl⟩⟩,rfl,rfl,trivial⟩ ⟨rfl,_,_,_,_,_,_,_,_,rfl,hu8,hr10,hi8,hr12,oy⟩
 try simp only [sQ,ne_eq] at g5
 obtain ⟨hat,hk0,_,_,_⟩:=Zh1 g5
 obtain ⟨f,hf0⟩ :∃f,x.folders[(atF x s 16).1.toNat]? = some f:=⟨_,List.getElem?_eq_getElem oz⟩
 have hse:ZaT x s=(x.withFolders (x.folders.set (atF x s 16).1.toNat (f.withBox (expunge ⟨f.next,f.mail⟩).1)),(expunge ⟨f.next,f.mail⟩).2,0):=by rw [ZaT,if_neg hnn,if_neg (fun h=>h g5),Zdy hf0,Zis hf0];rfl
 have hxl:(expunge (⟨f.next,f.mail⟩:DBox)).1.mail.length≤f.mail.length∧(expunge (⟨f.next,f.mail⟩:DBox)).2.length≤f.mail.length:=ZnE (⟨f.next,f.mail⟩:DBox)
 have hfb:Zbf (⟨f.next,f.mail⟩:DBox)=true:=Zbu (ZaK hok hf0)
 have hfm:f.mail.length≤10:=(Zb3 hfb).2.2
 refine wSk (Za (xW ZX (h:=x1 Zck 0 (h:=xM (h:=?_)))))
 obtain ⟨bb13,oo13,rfl⟩:=hf.base hf0
 obtain ⟨_,⟨qg14,cg14,qm14,cm14,rfl,hg14,hm14,hb14,hb14b⟩,hc14⟩:=hf.elem hf0
 have hg14n:=hg14.len
 have hm14n:=hm14.len
 have hm14s:=Z0 hm14
 refine xIx Tryz.underlying24 Zba (h:=xW Zby (h:=yL [_,_] Zbp hc14 3 (h:=xC Zk6 rfl (ZcB _ _ (⟨f.next,f.mail⟩:DBox) _ hm14) (h:=?_))))
 rintro _ B15 _ hle15 ⟨l15,a15,c15,l15b,a15b,c15b,rfl,rfl,hs15,hs15b⟩
 replace hs8:=hs8.mono Ze.mono hle15
 replace hu8:=hu8.mono Zv.mono hle15
 replace hi8:=hi8.mono Zy.mono hle15
 replace hs15:=hs15.anyK (B':=B15) ZM.any
 replace hs15b:=hs15b.anyK (B':=B15) Zb9.any
 refine xM (h:=xE (h:=Z4 5 rfl hs15 ZM.mono om3 (fun B16 hle16 hr16=>?_)))
 replace hs8:=hs8.mono Ze.mono hle16
 replace hu8:=hu8.mono Zv.mono hle16
 replace hi8:=hi8.mono Zy.mono hle16
 replace hs15b:=hs15b.mono Zb9.mono hle16
 have hr16n:=hr16.len
 refine Zp (Zic rfl rfl rfl rfl ?_)
 refine Z4 6 rfl hs15b Zb9.mono (by first | omega | decide | (simp;done) | (simp;omega)) (fun B17 hle17 hr17=>?_)
 replace hr16:=hr16.mono ZM.mono hle17
 replace hs8:=hs8.mono Ze.mono hle17
 replace hu8:=hu8.mono Zv.mono hle17
 replace hi8:=hi8.mono Zy.mono hle17
 have hr17n:=hr17.len
 refine xAl [_,_] ZeS (h:=fun b18=>xS [_,_] 7 [_,_] Zcx (h:=xA (h:=tL8 (Za (xW ZX (h:=x1 Zck 4 (h:=xM (h:=xL [_,_] Zbp 7 (h:=?_)))))))))
 obtain ⟨bb19,_,hp19,⟨qg19,cg19,qm19,cm19,rfl,hg19,hm19,hb19,hb19b⟩,hw19,hc19⟩:=hs8.row hf0
 have hg19n:=hg19.len
 have hm19n:=hm19.len
 have hm19s:=Z0 hm19
 refine xIp hp19 Tryz.underlying24 Zba (h:=xW Zby (h:=Zp (Zez (k:=((atF x s 16).1).toNat) (off:=3) (⟨f.owner,f.name,f.grants,(expunge ⟨f.next,f.mail⟩).1.next,(expunge ⟨f.next,f.mail⟩).1.mail⟩) [_,_] 3 hs8 hp19 hf0 rfl rfl Zcx rfl rfl rfl rfl rfl rfl (by rintro _ ⟨_,_,_,_,rfl,e1,_,e3,e4⟩;exact ⟨_,_,_,_,rfl,e1,hr16,e3,e4⟩) (fun l20 hv20=>?_))))
 refine tL8 (Za (xL [_,_,_,_,_] ZY 4 (h:=Z4 3 rfl hv20 Ze.mono om3 (fun B21 hle21 hr21=>?_))))
 obtain ⟨hr17,hu8,hi8⟩:=up3 hle21 hr17 hu8 hi8
 have hr21n:=hr21.len
 refine xM (h:=?_)
 rw [hse]
 refine xS [_,_,_,_,_] 2 [_,_,_,_,_] Zaq (h:=xA (h:=xA (h:=tL8 (Zd ?_))))
 exact Zav .ret (.inl rfl) [_,_,_] [] rfl ⟨⟨_,rfl,.inr ⟨[_,_,_,_,_],ZY,Z9 2 rfl rfl rfl,rfl⟩⟩,rfl,rfl,trivial⟩ ⟨rfl,_,_,_,_,_,_,_,_,(by first | rfl | (simp only [DHost.withFolders,List.length_set];rfl)),hu8,hr21,hi8,hr17,oy⟩

theorem ZoY (q1 q2 q3:Option Addr) (c1 c2 c3:Nat) (x:DHost) (s:DSess) (hs1:s.user.length≤2000000) (hs2:s.owner.length≤2000000) (hs3:s.name.length≤2000000) (q4:Option Addr) (c4:Nat) (set:List DSpan) (o n:Str) (hol:o.length≤2000000) (hnl:n.length≤2000000) (hd:x.domain.length≤2000000) (B:Kn) (hu:SlK B q1 c1 3 Zv x.users) (hf:SlK B q2 c2 5 Ze x.folders) (hi:SlK B q3 c3 4 Zy x.queue.items) (hs:SlK B q4 c4 2 Zjz set):Zu (pj J) 183 [.agg #[str x.domain,.slice q1 x.users.length c1,.slice q2 x.folders.length c2,.int .i64 x.queue.next,.slice q3 x.queue.items.length c3],.agg #[str s.user,str s.owner,str s.name],.slice q4 set.length c4,str o,str n] B [] (fun v B' Ls=>Ls=[]∧∃p1 d1 p2 d2 p3 d3,v = .tuple #[.agg #[str (ZeK x s set o n).1.domain,.slice p1 (ZeK x s set o n).1.users.length d1,.slice p2 (ZeK x s set o n).1.folders.length d2,.int .i64 (ZeK x s set o n).1.queue.next,.slice p3 (ZeK x s set o n).1.queue.items.length d3],.int .i64 (ZeK x s set o n).2]∧SlK B' p1 d1 3 Zv (ZeK x s set o n).1.users∧SlK B' p2 d2 5 Ze (ZeK x s set o n).1.folders∧SlK B' p3 d3 4 Zy (ZeK x s set o n).1.queue.items∧(ZeK x s set o n).1.domain.length≤2000000):=by
 refine cB 102 Tryz.func183 (h:=?_)
 have hun:=hu.len
 have hfn:=hf.len
 have hin:=hi.len
 have hsn:=hs.len
 have hix:=ZcY (inF s.owner s.name) x.folders
 have hix2:=ZcY (inF o n) x.folders
 refine Za (xBx [_,_,_,_,_] (h:=fun b1=>xBx [_,_,_] (h:=fun b2=>xAl [_,_,_,_,_] Za1 (h:=fun b3=>xA (h:=tL3 (Zf (Za (xL [_,_,_,_,_] ZY 0 (h:=xR Zsh rfl (ZbH _ _ _ _ _ _ x om2 _ hu hf hi) (h:=?_))))))))))
 refine xN (h:=xM (h:=Zn (d:=24) rfl (fun g1=>?_) (fun g1=>?_)))
 try simp only [sQ,ne_eq] at g1
 rw [ZeK,if_pos (by simp [g1])]
 refine xP (h:=xP (h:=xP (h:=xT (h:=Zb (t:=true) rfl (fun _=>Za (xB [] [_,_,_,_,_] [_,_,_,_,_] Zd0 Za1 (h:=xS [_,_,_,_,_] 2 [_,_,_,_,_] Zaq (h:=xA (h:=tL3 (Zd (Zo ?_))))))) (fun h=>Bool.noConfusion h)))))
 exact Zav .ret (.inl rfl) [_,_] [] rfl ⟨⟨_,rfl,.inr ⟨[_,_,_,_,_],ZY,Z9 2 rfl rfl rfl,rfl⟩⟩,rfl,trivial⟩ ⟨rfl,none,0,none,0,none,0,rfl,SlK.nil,SlK.nil,SlK.nil,by simp [ZaO]⟩
 try simp only [sQ,ne_eq] at g1
 refine xM (h:=xR Zvw rfl (Zio _ _ set _ hs) (h:=xN (h:=xF (h:=Zb rfl (fun g2=>?_) (fun g2=>?_)))))
 try simp only [sQ,ne_eq] at g2
 rw [ZeK,if_pos (by simp [g2])]
 refine Za (xB [] [_,_,_,_,_] [_,_,_,_,_] Zd0 Za1 (h:=xS [_,_,_,_,_] 2 [_,_,_,_,_] Zaq (h:=xA (h:=tL3 (Zd (Zo ?_))))))
 exact Zav .ret (.inl rfl) [_,_] [] rfl ⟨⟨_,rfl,.inr ⟨[_,_,_,_,_],ZY,Z9 2 rfl rfl rfl,rfl⟩⟩,rfl,trivial⟩ ⟨rfl,none,0,none,0,none,0,rfl,SlK.nil,SlK.nil,SlK.nil,by simp [ZaO]⟩
 try simp only [sQ,ne_eq] at g2
 have hok:Zw x=true:=by simpa using g1
 have hrr:=ZcG hok
 have hnn : ¬ ¬ (Zw x=true∧Zir set=true):=fun h=>h ⟨hok,by simpa using g2⟩
 refine wSk (Za (xL [_,_,_,_,_] ZY 0 (h:=xL [_,_,_] Zpi 1 (h:=xR Zvv rfl (Znm _ _ _ _ _ _ x s om2 om2 om2 2 hrr oz _ hu hf) (h:=?_)))))
 refine xM (h:=xE (h:=xE (h:=xA (h:=xA (h:=Zf (Za (xM (h:=ZbC (h:=Zb rfl (fun g5=>?_) (fun g5=>?_))))))))))
 try simp only [sQ,ne_eq] at g5
 refine Za (xL [_,_,_,_,_] ZY 0 (h:=xC ZoC rfl (Zbl _ _ _ _ _ _ x _ hu hf hi) (h:=?_)))
 rintro _ B7 _ hle7 ⟨l7,a7,c7,q17,c17,q37,c37,rfl,rfl,hu7,hs7,hi7⟩
 obtain ⟨hu,hf,hi,hs⟩:=up4 hle7 hu hf hi hs
 have hu7n:=hu7.len
 have hi7n:=hi7.len
 refine Z4 3 rfl hs7 Ze.mono om3 (fun B8 hle8 hr8=>?_)
 obtain ⟨hu,hf,hi,hs,hu7,hi7⟩:=up6 hle8 hu hf hi hs hu7 hi7
 have hr8n:=hr8.len
 refine xM (h:=?_)
 rw [ZeK,if_neg hnn,if_pos g5]
 refine xS [_,_,_,_,_] 2 [_,_,_,_,_] Zaq (h:=xA (h:=tL4 (Zd (Zo ?_))))
 exact Zav .ret (.inl rfl) [_,_] [] rfl ⟨⟨_,rfl,.inr ⟨[_,_,_,_,_],ZY,Z9 2 rfl rfl rfl,rfl⟩⟩,rfl,trivial⟩ ⟨rfl,_,_,_,_,_,_,(by first | rfl | (simp only [DHost.withFolders,List.length_set];rfl)),hu7,hr8,hi7,by first | assumption | (rw [ZR.2.2.1];assumption)⟩
 try simp only [sQ,ne_eq] at g5
 obtain ⟨hat,hk0,_,_,_⟩:=Zh1 g5
 obtain ⟨f,hf0⟩ :∃f,x.folders[(atF x s 2).1.toNat]? = some f:=⟨_,List.getElem?_eq_getElem oz⟩
 have hfb:Zbf (⟨f.next,f.mail⟩:DBox)=true:=Zbu (ZaK hok hf0)
 have hnl3:=Zpa set f.mail.length
 have hnl4:f.mail.length≤10:=(Zb3 hfb).2.2
 refine wSk (Za (xL [_,_,_,_,_] ZY 0 (h:=xM (h:=xM (h:=xR Zvq rfl (ZdH _ _ _ _ _ _ x o n om2 om2 _ hf) (h:=?_))))))
 refine xA (h:=Za (xL [_,_,_,_,_] ZY 0 (h:=xW ZnA (h:=x1 lk9 1 (h:=xM (h:=xR ZwU rfl (Zer _ _ _ _ _ _ x s.user (ZaB (inF o n) x.folders) 8 oz hrr oz _ hu hf) (h:=?_)))))))
 refine xA (h:=Za (xL [_,_,_,_,_] ZY 0 (h:=xC ZoC rfl (Zbl _ _ _ _ _ _ x _ hu hf hi) (h:=?_))))
 rintro _ B11 _ hle11 ⟨l11,a11,c11,q111,c111,q311,c311,rfl,rfl,hu11,hs11,hi11⟩
 obtain ⟨hu,hf,hi,hs⟩:=up4 hle11 hu hf hi hs
 have hu11n:=hu11.len
 have hi11n:=hi11.len
 refine Z4 3 rfl hs11 Ze.mono om3 (fun B12 hle12 hr12=>?_)
 obtain ⟨hu,hf,hi,hs,hu11,hi11⟩:=up6 hle12 hu hf hi hs hu11 hi11
 have hr12n:=hr12.len
 refine xAl [_,_,_,_,_] Za1 (h:=fun b13=>xS [_,_,_,_,_] 4 [_,_,_,_,_] Zaq (h:=tL5 (Za (xW ZX (h:=x1 Zck 0 (h:=xM (h:=?_)))))))
 obtain ⟨bb14,oo14,rfl⟩:=hf.base hf0
 obtain ⟨_,⟨qg15,cg15,qm15,cm15,rfl,hg15,hm15,hb15,hb15b⟩,hc15⟩:=hf.elem hf0
 have hg15n:=hg15.len
 have hm15n:=hm15.len
 have hm15s:=Z0 hm15
 refine xIx Tryz.underlying24 Zba (h:=xW Zby (h:=yL [_,_] Zbp hc15 3 (h:=xM (h:=xQ Zvt rfl (ZkS _ _ (⟨f.next,f.mail⟩:DBox) _ _ set _ hm15 hs) (h:=?_)))))
 intro v16 B16 hle16
 rintro ⟨a16,c16,rfl,hs16⟩
 obtain ⟨hu,hf,hi,hu11,hr12,hi11⟩:=up6 hle16 hu hf hi hu11 hr12 hi11
 have hs16n:=hs16.len
 refine xA (h:=Zf (Za (xA (h:=Zl (ZO (α:=GCp) [0,1,2,3,4,5,6,10,11,12,14,15,16,28,37] (fun g=>[(13,.int .i64 g.c),(17,.int .i64 g.k)]) [4] (fun g=>[Zas b13 [str g.x.domain,.slice g.q1 g.x.users.length g.c1,.slice g.q2 g.x.folders.length g.c2,.int .i64 g.x.queue.next,.slice g.q3 g.x.queue.items.length g.c3] 29]) (fun g Bx=>g.k≤(ZaF set f.mail.length).length∧(g.x,g.c)=(((ZaF set f.mail.length).take g.k).map (Zdl f.mail)).foldl (ZbO (ZaB (inF o n) x.folders).toNat) (x,(Zgd x.users x.folders s.user (ZaB (inF o n) x.folders) 8))∧(g.c=0→(Zgd x.users x.folders s.user (ZaB (inF o n) x.folders) 8)=0)∧Zw g.x=true∧g.x.domain.length≤2000000∧g.x.folders.length=x.folders.length∧SlK Bx g.q1 g.c1 3 Zv g.x.users∧SlK Bx g.q2 g.c2 5 Ze g.x.folders∧SlK Bx g.q3 g.c3 4 Zy g.x.queue.items) (fun g=>(ZaF set f.mail.length).length - g.k) ⟨0,x,(Zgd x.users x.folders s.user (ZaB (inF o n) x.folders) 8),_,_,_,_,_,_⟩ t2 rfl (⟨Nat.zero_le _,rfl,id,hok,hd,rfl,hu11,hr12,hi11⟩) (fun g B17 hle17 hI=>?_))))))
 obtain ⟨hgk,hgs,hgc,hgo,hgd,hgl,hgu,hgf,hgi⟩:=hI
 have hgun:=hgu.len
 have hgin:=hgi.len
 obtain ⟨hu,hf,hi,hs16⟩:=up4 hle17 hu hf hi hs16
 refine ZN [(0,_),(1,_),(2,_),(3,_),(4,_),(5,_),(6,_),(10,_),(11,_),(12,_),(13,_),(14,_),(15,_),(16,_),(17,_),(28,_),(37,_)] [_,_,_,_,_] t17 rfl (Zf (Za (xM (h:=xM (h:=xV Tryz.underlying110 (h:=Zaa (h:=xM (h:=Zn (d:=64) rfl (fun g6=>?_) (fun g6=>?_)))))))))
 try simp only [sQ,ne_eq] at g6
 refine xM (h:=ZF (h:=xT (h:=Zb rfl (fun g7=>?_) (fun g7=>?_))))
 try simp only [sQ,ne_eq] at g7
 obtain ⟨_,hk8,_⟩:=Zdg (hgc g7)
 obtain ⟨y,hy⟩:=Zaf (xs:=ZaF set f.mail.length) (i:=g.k) oz
 have hyb:=Zj6 (List.mem_of_getElem? hy)
 refine wSk (Zf (Zl (Zf (Z2 (keeps _ [0] _) mo kr ⟨Kn.le.refl _,Zai.refl _ _⟩ (fun _ _=>?_)))))
 refine aW 0 rfl ZX (h:=aT 1 rfl (ZC fun D B L hI=>Zh rfl rfl Zck rfl (atL 0 (hI.2.1.trans rfl) rfl rfl) r4) (h:=aM 2 rfl (h:=?_)))
 obtain ⟨_,⟨qg18,cg18,qm18,cm18,rfl,hg18,hm18,hb18,hb18b⟩,hc18⟩:=hf.elem hf0
 have hg18n:=hg18.len
 have hm18n:=hm18.len
 have hm18s:=Z0 hm18
 refine aIx 3 rfl Tryz.underlying24 Zba (h:=aW 4 rfl Zby (h:=aW 5 rfl ZaL (h:=aT 6 rfl (ZC fun D B L hI=>Zh rfl rfl Zfs rfl ((hc18.mono hI.1) _ 4 _ rfl) r4) (h:=aM 7 rfl (h:=aM 8 rfl (h:=?_))))))
 obtain ⟨bb19,oo19,rfl⟩:=hs16.base hy
 obtain ⟨_,rfl,hc20⟩:=hs16.elem hy
 refine aIx 9 rfl Tryz.underlying110 sz3 (h:=aT 10 rfl (ZC fun D B L hI=>Zh rfl rfl lk3 rfl ((hc20.mono hI.1) _ 0 _ rfl) r4) (h:=aU 11 rfl (h:=?_)))
 obtain ⟨m,hm⟩:=Zeh (xs:=f.mail) (i:=(y - 1)) om om
 obtain ⟨bb22,oo22,rfl⟩:=hm18.base hm
 obtain ⟨_,⟨rfl,hb23⟩,hc23⟩:=hm18.elem hm
 refine aIx 12 rfl Tryz.underlying36 Zgc (h:=?_)
 have hmo:=(ZdK hfb).1 m (List.mem_of_getElem? hm)
 have hmt:m.text.length≤20:=by simp only [ZbE,Bool.and_eq_true,decide_eq_true_eq] at hmo;exact hmo.2
 have hme:Zdl f.mail y=m:=by simp only [Zdl,hm]
 refine aT 13 rfl (ZC fun D B L hI=>Z1 [_,_,_] rfl rfl Zpg rfl (Ziv (hc23.mono hI.1) 0 rfl rfl) r4) (h:=Zq 14 kr rfl kr (Zal (l:=[_,_,_]) rfl rfl Zlk rfl (fun b24=>?_)))
 refine ⟨⟨Kn.le.refl _,t1⟩,(ZV 15 kr rfl kr kr kr (ZI [_,_,_] 5 [_,_,_] rfl rfl Zgc rfl rfl rfl rfl rfl rfl rfl rfl ?_))⟩
 refine Zj (tL6 (Za (xL [_,_,_,_,_] ZY 4 (h:=xM (h:=xW Zi5 (h:=x1 lk3 5 (h:=xW Zmm (h:=x1 lk9 5 (h:=xQ Zxp rfl (ZhU _ _ _ _ _ _ g.x (ZaB (inF o n) x.folders) m.flags m.text om2 (oy) oz oz om2 _ hgu hgf hgi) (h:=?_))))))))))
 intro va Ba hlea
 rintro ⟨p1a,d1a,p2a,d2a,p3a,d3a,rfl,hua,hfa,hia,hda⟩
 obtain ⟨hu,hf,hi,hgu,hgf,hgi⟩:=up6 hlea hu hf hi hgu hgf hgi
 have huan:=hua.len
 have hfan:=hfa.len
 have hian:=hia.len
 refine xM (h:=xE (h:=xE (h:=xAl [_,_,_,_,_] Za1 (h:=fun b26=>xS [_,_,_,_,_] 6 [_,_,_,_,_] Zaq (h:=xA (h:=tL7 (Za (xL [_,_,_,_,_] ZY 6 (h:=xS [_,_,_,_,_] 4 [_,_,_,_,_] Zaq (h:=tL7 (Zc (xM (h:=xA (h:=Zx (Zj (Zc (xM (h:=xD (h:=xA (h:=?_))))))))))))))))))))
 exact ZA ⟨g.k+1,(ZaZ g.x (ZaB (inF o n) x.folders).toNat m.flags m.text).1,(ZaZ g.x (ZaB (inF o n) x.folders).toNat m.flags m.text).2,_,_,_,_,_,_⟩ [0,1,2,3,4] so2 ⟨so,by simp only [];rw [ZrS hy,← hgs,hme,ZbO,if_pos g7],fun _=>hgc g7,ZhO hgo (by simp only [ZbE,Bool.and_eq_true,decide_eq_true_eq] at hmo;simp only [Zae,Bool.and_eq_true,decide_eq_true_eq];exact hmo.1.2) hmt,hda,by simp only [];rw [ZR.2.2.2];exact hgl,hua,hfa,hia⟩ t17 rfl
 try simp only [sQ,ne_eq] at g7
 have hfin:=Zmj (n:=n) hnn g5 hf0 (ZrR hgs g7)
 refine ZT (Zab (ZW (ZG (Zj (Zf (Za (xM (h:=ZbC (h:=Zb rfl (fun g8=>?_) (fun g8=>by simp at g8;exact absurd g8 g7))))))))))
 try simp only [sQ,ne_eq] at g8
 refine Za (xL [_,_,_,_,_] ZY 0 (h:=xC ZoC rfl (Zbl _ _ _ _ _ _ x _ hu hf hi) (h:=?_)))
 rintro _ B27 _ hle27 ⟨l27,a27,c27,q127,c127,q327,c327,rfl,rfl,hu27,hs27,hi27⟩
 obtain ⟨hu,hf,hi,hgu,hgf,hgi⟩:=up6 hle27 hu hf hi hgu hgf hgi
 have hu27n:=hu27.len
 have hi27n:=hi27.len
 refine Z4 5 rfl hs27 Ze.mono om3 (fun B28 hle28 hr28=>?_)
 obtain ⟨hu,hf,hi,hu27,hi27,hgu⟩:=up6 hle28 hu hf hi hu27 hi27 hgu
 obtain ⟨hgf,hgi⟩:=up2 hle28 hgf hgi
 have hr28n:=hr28.len
 refine xM (h:=?_)
 rw [hfin,if_neg g7]
 refine xS [_,_,_,_,_] 2 [_,_,_,_,_] Zaq (h:=xA (h:=tL6 (Zd (Zo ?_))))
 exact Zav .ret (.inl rfl) [_,_] [] rfl ⟨⟨_,rfl,.inr ⟨[_,_,_,_,_],ZY,Z9 2 rfl rfl rfl,rfl⟩⟩,rfl,trivial⟩ ⟨rfl,_,_,_,_,_,_,(by first | rfl | (simp only [DHost.withFolders,List.length_set];rfl)),hu27,hr28,hi27,by first | assumption | (rw [ZR.2.2.1];assumption)⟩
 try simp only [sQ,ne_eq] at g6
 rw [List.take_of_length_le oz] at hgs
 have hfin:=Zmj (n:=n) hnn g5 hf0 hgs
 refine xP (h:=xP (h:=xF (h:=Zb (t:=false) rfl (fun h=>Bool.noConfusion h) (fun _=>ZT (Zab (ZW (ZG (Zj (Zf (Za (xM (h:=ZbC (h:=Zb rfl (fun g8=>?_) (fun g8=>?_))))))))))))))
 try simp only [sQ,ne_eq] at g8
 refine Za (xL [_,_,_,_,_] ZY 0 (h:=xC ZoC rfl (Zbl _ _ _ _ _ _ x _ hu hf hi) (h:=?_)))
 rintro _ B29 _ hle29 ⟨l29,a29,c29,q129,c129,q329,c329,rfl,rfl,hu29,hs29,hi29⟩
 obtain ⟨hgu,hgf,hgi⟩:=up3 hle29 hgu hgf hgi
 have hu29n:=hu29.len
 have hi29n:=hi29.len
 refine Z4 5 rfl hs29 Ze.mono om3 (fun B30 hle30 hr30=>?_)
 obtain ⟨hu29,hi29,hgu,hgf,hgi⟩:=up5 hle30 hu29 hi29 hgu hgf hgi
 have hr30n:=hr30.len
 refine xM (h:=?_)
 rw [hfin,if_neg g8]
 refine xS [_,_,_,_,_] 2 [_,_,_,_,_] Zaq (h:=xA (h:=tL6 (Zd (Zo ?_))))
 exact Zav .ret (.inl rfl) [_,_] [] rfl ⟨⟨_,rfl,.inr ⟨[_,_,_,_,_],ZY,Z9 2 rfl rfl rfl,rfl⟩⟩,rfl,trivial⟩ ⟨rfl,_,_,_,_,_,_,(by first | rfl | (simp only [DHost.withFolders,List.length_set];rfl)),hu29,hr30,hi29,by first | assumption | (rw [ZR.2.2.1];assumption)⟩
 try simp only [sQ,ne_eq] at g8
 rw [hfin,if_pos g8]
 refine wSk (Za (xL [_,_,_,_,_] ZY 4 (h:=xS [_,_,_,_,_] 2 [_,_,_,_,_] Zaq (h:=xA (h:=tL5 (Zd ?_))))))
 exact Zav .ret (.inl rfl) [_,_] [] rfl ⟨⟨_,rfl,.inr ⟨[_,_,_,_,_],ZY,Z9 2 rfl rfl rfl,rfl⟩⟩,rfl,trivial⟩ ⟨rfl,_,_,_,_,_,_,(by first | rfl | (simp only [DHost.withFolders,List.length_set];rfl)),hgu,hgf,hgi,by first | assumption | (rw [ZR.2.2.1];assumption)⟩

theorem ZwP (q1 q2 q3:Option Addr) (c1 c2 c3:Nat) (x:DHost) (e:DEvent) (he1:e.by_.length≤2000000) (he2:e.owner.length≤2000000) (he3:e.name.length≤2000000) (he4:e.to_.length≤2000000) (he5:e.text.length≤2000000) (hd:x.domain.length≤2000000) (B:Kn) (hu:SlK B q1 c1 3 Zv x.users) (hf:SlK B q2 c2 5 Ze x.folders) (hi:SlK B q3 c3 4 Zy x.queue.items):Zu (pj J) 156 [.agg #[str x.domain,.slice q1 x.users.length c1,.slice q2 x.folders.length c2,.int .i64 x.queue.next,.slice q3 x.queue.items.length c3],.agg #[.int .i64 e.kind,str e.by_,str e.owner,str e.name,str e.to_,str e.text,.int .i64 e.a,.int .i64 e.b]] B [] (fun v B' Ls=>Ls=[]∧∃p1 d1 p2 d2 p3 d3,v = .tuple #[.agg #[str (ZhX x e).1.domain,.slice p1 (ZhX x e).1.users.length d1,.slice p2 (ZhX x e).1.folders.length d2,.int .i64 (ZhX x e).1.queue.next,.slice p3 (ZhX x e).1.queue.items.length d3],.int .i64 (ZhX x e).2]∧SlK B' p1 d1 3 Zv (ZhX x e).1.users∧SlK B' p2 d2 5 Ze (ZhX x e).1.folders∧SlK B' p3 d3 4 Zy (ZhX x e).1.queue.items∧(ZhX x e).1.domain.length≤2000000):=by
 refine cB 124 Tryz.func156 (h:=?_)
 have hun:=hu.len
 have hfn:=hf.len
 have hin:=hi.len
 refine Za (xBx [_,_,_,_,_] (h:=fun b1=>xBx [_,_,_,_,_,_,_,_] (h:=fun b2=>xAl [_,_,_,_,_] Za1 (h:=fun b3=>xA (h:=tL3 (Za (xW Zf4 (h:=x1 lk9 1 (h:=xW Zk4 (h:=x1 lk9 1 (h:=xW Zi8 (h:=x1 lk9 1 (h:=xB [(0,_),(1,_),(2,_)] [_,_,_] [_,_,_] ZxX ZvV (h:=xAl [_,_,_] ZvV (h:=fun b4=>xS [_,_,_] 3 [_,_,_] ZxQ (h:=tL4 (Za (xW Zbv (h:=x1 lk3 1 (h:=xW Zbv (h:=x1 lk3 1 (h:=xB [(0,_),(1,_)] [_,_] [_,_] ZxW ZvU (h:=xBs [(0,_)] [_,_] Tryz.underlying229 Zqp ZvU (h:=fun b5=>xA (h:=tL5 ?_)))))))))))))))))))))))))
 have hvq:ZZ B (Zas b5 [.int .i64 e.a,.int .i64 e.a] 228) (some ⟨b5,0,none⟩) 1 228 2 Zjz [⟨e.a,e.a⟩]:=ZZ.lit (rows:=[[.int .i64 e.a,.int .i64 e.a]]) (.cons rfl .nil) (by intro row hr;simp only [List.mem_cons,List.not_mem_nil,or_false] at hr;rcases hr with rfl;rfl)
 refine ZdU 4 rfl hvq Zjz.mono om3 (fun B6 hle6 hr6=>?_)
 obtain ⟨hu,hf,hi⟩:=up3 hle6 hu hf hi
 have hr6n:=hr6.len
 refine Zf (Za (xW Zb8 (h:=x1 lk3 1 (h:=tL5 (Zl (Za (ZF (h:=xA (h:=Zb rfl (fun k1=>?_) (fun k1=>?_))))))))))
 try simp only [sQ,ne_eq] at k1
 rw [ZhX,if_pos k1]
 refine Za (xL [_,_,_,_,_] ZY 0 (h:=xW Zf4 (h:=x1 lk9 1 (h:=xW Zi8 (h:=x1 lk9 1 (h:=xQ Zyz rfl (ZlI _ _ _ _ _ _ x e.by_ e.name om2 om2 om2 _ hu hf hi) (h:=?_)))))))
 intro v7 B7 hle7
 rintro ⟨p17,d17,p27,d27,p37,d37,rfl,hu7,hf7,hi7,hd7⟩
 obtain ⟨hu,hf,hi,hr6⟩:=up4 hle7 hu hf hi hr6
 have hu7n:=hu7.len
 have hf7n:=hf7.len
 have hi7n:=hi7.len
 refine xE (h:=xE (h:=xS [_,_,_,_,_] 2 [_,_,_,_,_] Zaq (h:=xA (h:=tL5 (Zd (ZD (Zo ?_)))))))
 exact Zav .ret (.inl rfl) [_,_] [] rfl ⟨⟨_,rfl,.inr ⟨[_,_,_,_,_],ZY,Z9 2 rfl rfl rfl,rfl⟩⟩,rfl,trivial⟩ ⟨rfl,_,_,_,_,_,_,rfl,hu7,hf7,hi7,oy⟩
 try simp only [sQ,ne_eq] at k1
 refine Za (ZF (h:=xA (h:=Zb rfl (fun k2=>?_) (fun k2=>?_))))
 try simp only [sQ,ne_eq] at k2
 rw [ZhX,if_neg k1,if_pos k2]
 refine Za (xL [_,_,_,_,_] ZY 0 (h:=xW Zf4 (h:=x1 lk9 1 (h:=xW Zk4 (h:=x1 lk9 1 (h:=xW Zi8 (h:=x1 lk9 1 (h:=xW Zee (h:=x1 lk9 1 (h:=xW Zbv (h:=x1 lk3 1 (h:=xQ Zyy rfl (Zm1 _ _ _ _ _ _ x e.by_ e.owner e.name e.to_ e.a om2 om2 om2 om2 om2 _ hu hf hi) (h:=?_)))))))))))))
 intro v8 B8 hle8
 rintro ⟨p18,d18,p28,d28,p38,d38,rfl,hu8,hf8,hi8,hd8⟩
 obtain ⟨hu,hf,hi,hr6⟩:=up4 hle8 hu hf hi hr6
 have hu8n:=hu8.len
 have hf8n:=hf8.len
 have hi8n:=hi8.len
 refine xE (h:=xE (h:=xS [_,_,_,_,_] 2 [_,_,_,_,_] Zaq (h:=xA (h:=tL5 (Zd (ZD (Zo ?_)))))))
 exact Zav .ret (.inl rfl) [_,_] [] rfl ⟨⟨_,rfl,.inr ⟨[_,_,_,_,_],ZY,Z9 2 rfl rfl rfl,rfl⟩⟩,rfl,trivial⟩ ⟨rfl,_,_,_,_,_,_,rfl,hu8,hf8,hi8,oy⟩
 try simp only [sQ,ne_eq] at k2
 refine Za (ZF (h:=xA (h:=Zb rfl (fun k3=>?_) (fun k3=>?_))))
 try simp only [sQ,ne_eq] at k3
 rw [ZhX,if_neg k1,if_neg k2,if_pos k3]
 refine Za (xL [_,_,_,_,_] ZY 0 (h:=xW Zf4 (h:=x1 lk9 1 (h:=xW Zk4 (h:=x1 lk9 1 (h:=xW Zi8 (h:=x1 lk9 1 (h:=xW Zbv (h:=x1 lk3 1 (h:=xW Zru (h:=x1 lk9 1 (h:=xQ Zy8 rfl (Zip _ _ _ _ _ _ x e.by_ e.owner e.name e.a e.text om2 om2 om2 om2 om2 _ hu hf hi) (h:=?_)))))))))))))
 intro v9 B9 hle9
 rintro ⟨p19,d19,p29,d29,p39,d39,rfl,hu9,hf9,hi9,hd9⟩
 obtain ⟨hu,hf,hi,hr6⟩:=up4 hle9 hu hf hi hr6
 have hu9n:=hu9.len
 have hf9n:=hf9.len
 have hi9n:=hi9.len
 refine xE (h:=xE (h:=xS [_,_,_,_,_] 2 [_,_,_,_,_] Zaq (h:=xA (h:=tL5 (Zd (ZD (Zo ?_)))))))
 exact Zav .ret (.inl rfl) [_,_] [] rfl ⟨⟨_,rfl,.inr ⟨[_,_,_,_,_],ZY,Z9 2 rfl rfl rfl,rfl⟩⟩,rfl,trivial⟩ ⟨rfl,_,_,_,_,_,_,rfl,hu9,hf9,hi9,oy⟩
 try simp only [sQ,ne_eq] at k3
 refine Za (ZF (h:=xA (h:=Zb rfl (fun k4=>?_) (fun k4=>?_))))
 try simp only [sQ,ne_eq] at k4
 refine Za (xL [_,_,_,_,_] ZY 0 (h:=xW Zf4 (h:=x1 lk9 1 (h:=xW Zee (h:=x1 lk9 1 (h:=xBs [(0,_)] [_] Tryz.underlying109 sz9 zo9 (h:=fun b10=>Z4 5 rfl (ZZ.strs (ls:=([e.to_]:List Str)) (by first | decide | (simp;done) | (simp;omega))) ZbJ.mono om3 (fun B11 hle11 hr11=>?_))))))))
 obtain ⟨hu,hf,hi,hr6⟩:=up4 hle11 hu hf hi hr6
 have hr11n:=hr11.len
 refine xW Zru (h:=?_)
 rw [ZhX,if_neg k1,if_neg k2,if_neg k3,if_pos k4]
 refine x1 lk9 1 (h:=xB [(0,_),(1,_),(2,_)] [_,_,_] [_,_,_] ZsI ZoL (h:=xQ Zyx rfl (ZlG _ _ _ _ _ _ x _ _ (⟨e.by_,([e.to_]:List Str),e.text⟩) om2 _ hu hf hi hr11 om2 om2) (h:=?_)))
 intro v12 B12 hle12
 rintro ⟨p112,d112,p212,d212,p312,d312,rfl,hu12,hf12,hi12,hd12⟩
 obtain ⟨hu,hf,hi,hr6⟩:=up4 hle12 hu hf hi hr6
 have hu12n:=hu12.len
 have hf12n:=hf12.len
 have hi12n:=hi12.len
 refine xE (h:=xE (h:=xS [_,_,_,_,_] 2 [_,_,_,_,_] Zaq (h:=xA (h:=tL6 (Zd (ZD (Zo ?_)))))))
 exact Zav .ret (.inl rfl) [_,_] [] rfl ⟨⟨_,rfl,.inr ⟨[_,_,_,_,_],ZY,Z9 2 rfl rfl rfl,rfl⟩⟩,rfl,trivial⟩ ⟨rfl,_,_,_,_,_,_,rfl,hu12,hf12,hi12,oy⟩
 try simp only [sQ,ne_eq] at k4
 refine Za (ZF (h:=xA (h:=Zb rfl (fun k5=>?_) (fun k5=>?_))))
 try simp only [sQ,ne_eq] at k5
 rw [ZhX,if_neg k1,if_neg k2,if_neg k3,if_neg k4,if_pos k5]
 refine Za (xL [_,_,_,_,_] ZY 0 (h:=xW Zbv (h:=x1 lk3 1 (h:=xW Zee (h:=x1 lk9 1 (h:=xQ Zyw rfl (ZkD _ _ _ _ _ _ x e.a e.to_ om2 om2 _ hu hf hi) (h:=?_)))))))
 intro v13 B13 hle13
 rintro ⟨p113,d113,p213,d213,p313,d313,rfl,hu13,hf13,hi13,hd13⟩
 obtain ⟨hu,hf,hi,hr6⟩:=up4 hle13 hu hf hi hr6
 have hu13n:=hu13.len
 have hf13n:=hf13.len
 have hi13n:=hi13.len
 refine xE (h:=xE (h:=xS [_,_,_,_,_] 2 [_,_,_,_,_] Zaq (h:=xA (h:=tL5 (Zd (ZD (Zo ?_)))))))
 exact Zav .ret (.inl rfl) [_,_] [] rfl ⟨⟨_,rfl,.inr ⟨[_,_,_,_,_],ZY,Z9 2 rfl rfl rfl,rfl⟩⟩,rfl,trivial⟩ ⟨rfl,_,_,_,_,_,_,rfl,hu13,hf13,hi13,oy⟩
 try simp only [sQ,ne_eq] at k5
 refine Za (ZF (h:=xA (h:=Zb rfl (fun k6=>?_) (fun k6=>?_))))
 try simp only [sQ,ne_eq] at k6
 rw [ZhX,if_neg k1,if_neg k2,if_neg k3,if_neg k4,if_neg k5,if_pos k6]
 refine Za (xL [_,_,_,_,_] ZY 0 (h:=xL [_,_,_] Zpi 3 (h:=xM (h:=xW ZnB (h:=x1 lk3 1 (h:=xQ Zyv rfl (Zm0 _ _ _ _ _ _ x (⟨e.by_,e.owner,e.name⟩) om2 om2 om2 _ _ ([⟨e.a,e.a⟩]:List DSpan) 1 e.b om2 _ hu hf hi hr6) (h:=?_)))))))
 intro v14 B14 hle14
 rintro ⟨p114,d114,p214,d214,p314,d314,rfl,hu14,hf14,hi14,hd14⟩
 obtain ⟨hu,hf,hi,hr6⟩:=up4 hle14 hu hf hi hr6
 have hu14n:=hu14.len
 have hf14n:=hf14.len
 have hi14n:=hi14.len
 refine xE (h:=xE (h:=xS [_,_,_,_,_] 2 [_,_,_,_,_] Zaq (h:=xA (h:=tL5 (Zd (ZD (Zo ?_)))))))
 exact Zav .ret (.inl rfl) [_,_] [] rfl ⟨⟨_,rfl,.inr ⟨[_,_,_,_,_],ZY,Z9 2 rfl rfl rfl,rfl⟩⟩,rfl,trivial⟩ ⟨rfl,_,_,_,_,_,_,rfl,hu14,hf14,hi14,oy⟩
 try simp only [sQ,ne_eq] at k6
 refine Za (ZF (h:=xA (h:=Zb rfl (fun k7=>?_) (fun k7=>?_))))
 try simp only [sQ,ne_eq] at k7
 rw [ZhX,if_neg k1,if_neg k2,if_neg k3,if_neg k4,if_neg k5,if_neg k6,if_pos k7]
 refine Za (xL [_,_,_,_,_] ZY 0 (h:=xL [_,_,_] Zpi 3 (h:=xQ Zyu rfl (ZoW _ _ _ _ _ _ x (⟨e.by_,e.owner,e.name⟩) om2 om2 om2 om2 _ hu hf hi) (h:=?_))))
 intro v15 B15 hle15
 rintro ⟨p115,d115,p215,d215,p315,d315,p415,d415,rfl,hu15,hf15,hi15,hg15,hd15⟩
 obtain ⟨hu,hf,hi,hr6⟩:=up4 hle15 hu hf hi hr6
 have hu15n:=hu15.len
 have hf15n:=hf15.len
 have hi15n:=hi15.len
 have hg15n:=hg15.len
 refine xM (h:=xE (h:=xE (h:=xE (h:=xAl [_,_,_,_,_] Za1 (h:=fun b16=>xS [_,_,_,_,_] 5 [_,_,_,_,_] Zaq (h:=xA (h:=xA (h:=tL6 (Za (xL [_,_,_,_,_] ZY 5 (h:=xM (h:=xS [_,_,_,_,_] 2 [_,_,_,_,_] Zaq (h:=xA (h:=tL6 (Zd (ZD (Zo ?_)))))))))))))))))
 exact Zav .ret (.inl rfl) [_,_] [] rfl ⟨⟨_,rfl,.inr ⟨[_,_,_,_,_],ZY,Z9 2 rfl rfl rfl,rfl⟩⟩,rfl,trivial⟩ ⟨rfl,_,_,_,_,_,_,rfl,hu15,hf15,hi15,oy⟩
 try simp only [sQ,ne_eq] at k7
 refine Za (ZF (h:=xA (h:=Zb rfl (fun k8=>?_) (fun k8=>?_))))
 try simp only [sQ,ne_eq] at k8
 rw [ZhX,if_neg k1,if_neg k2,if_neg k3,if_neg k4,if_neg k5,if_neg k6,if_neg k7,if_pos k8]
 refine Za (xL [_,_,_,_,_] ZY 0 (h:=xL [_,_,_] Zpi 3 (h:=xM (h:=xW Zee (h:=x1 lk9 1 (h:=xQ Zyt rfl (ZoY _ _ _ _ _ _ x (⟨e.by_,e.owner,e.name⟩) om2 om2 om2 _ _ ([⟨e.a,e.a⟩]:List DSpan) e.to_ [105,110,98,111,120] om2 om2 om2 _ hu hf hi hr6) (h:=?_)))))))
 intro v17 B17 hle17
 rintro ⟨p117,d117,p217,d217,p317,d317,rfl,hu17,hf17,hi17,hd17⟩
 have hu17n:=hu17.len
 have hf17n:=hf17.len
 have hi17n:=hi17.len
 refine xE (h:=xE (h:=xS [_,_,_,_,_] 2 [_,_,_,_,_] Zaq (h:=xA (h:=tL5 (Zd (ZD (Zo ?_)))))))
 exact Zav .ret (.inl rfl) [_,_] [] rfl ⟨⟨_,rfl,.inr ⟨[_,_,_,_,_],ZY,Z9 2 rfl rfl rfl,rfl⟩⟩,rfl,trivial⟩ ⟨rfl,_,_,_,_,_,_,rfl,hu17,hf17,hi17,oy⟩
 try simp only [sQ,ne_eq] at k8
 rw [ZhX,if_neg k1,if_neg k2,if_neg k3,if_neg k4,if_neg k5,if_neg k6,if_neg k7,if_neg k8]
 refine ZK (Zx (Zj (Za (xB [] [_,_,_,_,_] [_,_,_,_,_] Zd0 Za1 (h:=xS [_,_,_,_,_] 2 [_,_,_,_,_] Zaq (h:=xA (h:=tL5 (Zd ?_))))))))
 exact Zav .ret (.inl rfl) [_,_] [] rfl ⟨⟨_,rfl,.inr ⟨[_,_,_,_,_],ZY,Z9 2 rfl rfl rfl,rfl⟩⟩,rfl,trivial⟩ ⟨rfl,none,0,none,0,none,0,rfl,SlK.nil,SlK.nil,SlK.nil,by simp [ZaO]⟩

theorem Zsv (q1 q2 q3:Option Addr) (c1 c2 c3:Nat) (x:DHost) (e:DEvent) (he1:e.by_.length≤2000000) (he2:e.owner.length≤2000000) (he3:e.name.length≤2000000) (he4:e.to_.length≤2000000) (he5:e.text.length≤2000000) (hd:x.domain.length≤2000000) (B:Kn) (hu:SlK B q1 c1 3 Zv x.users) (hf:SlK B q2 c2 5 Ze x.folders) (hi:SlK B q3 c3 4 Zy x.queue.items):Zu (pj J) 111 [.agg #[str x.domain,.slice q1 x.users.length c1,.slice q2 x.folders.length c2,.int .i64 x.queue.next,.slice q3 x.queue.items.length c3],.agg #[.int .i64 e.kind,str e.by_,str e.owner,str e.name,str e.to_,str e.text,.int .i64 e.a,.int .i64 e.b]] B [] (fun v B' Ls=>Ls=[]∧∃p1 d1 p2 d2 p3 d3,v = .tuple #[.agg #[str (hDo x e).1.domain,.slice p1 (hDo x e).1.users.length d1,.slice p2 (hDo x e).1.folders.length d2,.int .i64 (hDo x e).1.queue.next,.slice p3 (hDo x e).1.queue.items.length d3],.int .i64 (hDo x e).2]∧SlK B' p1 d1 3 Zv (hDo x e).1.users∧SlK B' p2 d2 5 Ze (hDo x e).1.folders∧SlK B' p3 d3 4 Zy (hDo x e).1.queue.items∧(hDo x e).1.domain.length≤2000000):=by
 refine cB 25 Tryz.func111 (h:=?_)
 have hun:=hu.len
 have hfn:=hf.len
 have hin:=hi.len
 refine Za (xBx [_,_,_,_,_] (h:=fun b1=>xBx [_,_,_,_,_,_,_,_] (h:=fun b2=>xAl [_,_,_,_,_] Za1 (h:=fun b3=>xA (h:=tL3 (Zf (Za (xL [_,_,_,_,_] ZY 0 (h:=xR Zsh rfl (ZbH _ _ _ _ _ _ x om2 _ hu hf hi) (h:=?_))))))))))
 refine xN (h:=Zb rfl (fun g1=>?_) (fun g1=>?_))
 try simp only [sQ,ne_eq] at g1
 rw [hDo,if_pos g1]
 refine Za (xB [] [_,_,_,_,_] [_,_,_,_,_] Zd0 Za1 (h:=xS [_,_,_,_,_] 2 [_,_,_,_,_] Zaq (h:=xA (h:=tL3 (Zd (Zo ?_))))))
 exact Zav .ret (.inl rfl) [_,_] [] rfl ⟨⟨_,rfl,.inr ⟨[_,_,_,_,_],ZY,Z9 2 rfl rfl rfl,rfl⟩⟩,rfl,trivial⟩ ⟨rfl,none,0,none,0,none,0,rfl,SlK.nil,SlK.nil,SlK.nil,by simp [ZaO]⟩
 try simp only [sQ,ne_eq] at g1
 have hnn : ¬ Zw x=false:=by simpa using g1
 refine wSk (Za (xL [_,_,_,_,_] ZY 0 (h:=xL [_,_,_,_,_,_,_,_] ZuT 1 (h:=xQ ZyJ rfl (ZwP _ _ _ _ _ _ x e om2 om2 om2 om2 om2 om2 _ hu hf hi) (h:=?_)))))
 intro v5 B5 hle5
 rintro ⟨p15,d15,p25,d25,p35,d35,rfl,hu5,hf5,hi5,hd5⟩
 obtain ⟨hu,hf,hi⟩:=up3 hle5 hu hf hi
 have hu5n:=hu5.len
 have hf5n:=hf5.len
 have hi5n:=hi5.len
 refine xM (h:=xE (h:=xE (h:=xAl [_,_,_,_,_] Za1 (h:=fun b6=>xS [_,_,_,_,_] 3 [_,_,_,_,_] Zaq (h:=xA (h:=tL4 (Zf (Za (xM (h:=ZF (h:=Zb rfl (fun g2=>?_) (fun g2=>?_))))))))))))
 try simp only [sQ,ne_eq] at g2
 refine Za (xL [_,_,_,_,_] ZY 0 (h:=xC ZoC rfl (Zbl _ _ _ _ _ _ x _ hu hf hi) (h:=?_)))
 rintro _ B7 _ hle7 ⟨l7,a7,c7,q17,c17,q37,c37,rfl,rfl,hu7,hs7,hi7⟩
 obtain ⟨hu5,hf5,hi5⟩:=up3 hle7 hu5 hf5 hi5
 have hu7n:=hu7.len
 have hi7n:=hi7.len
 refine Z4 4 rfl hs7 Ze.mono om3 (fun B8 hle8 hr8=>?_)
 obtain ⟨hu7,hi7,hu5,hf5,hi5⟩:=up5 hle8 hu7 hi7 hu5 hf5 hi5
 have hr8n:=hr8.len
 refine xM (h:=?_)
 rw [hDo,if_neg hnn,if_pos g2]
 refine xS [_,_,_,_,_] 2 [_,_,_,_,_] Zaq (h:=xA (h:=tL5 (Zd (Zo ?_))))
 exact Zav .ret (.inl rfl) [_,_] [] rfl ⟨⟨_,rfl,.inr ⟨[_,_,_,_,_],ZY,Z9 2 rfl rfl rfl,rfl⟩⟩,rfl,trivial⟩ ⟨rfl,_,_,_,_,_,_,(by rw [g2];rfl),hu7,hr8,hi7,by first | assumption | (rw [ZR.2.2.1];assumption)⟩
 try simp only [sQ,ne_eq] at g2
 rw [hDo,if_neg hnn,if_neg g2]
 refine wSk (Za (xL [_,_,_,_,_] ZY 3 (h:=xM (h:=xS [_,_,_,_,_] 2 [_,_,_,_,_] Zaq (h:=xA (h:=tL4 (Zd ?_)))))))
 exact Zav .ret (.inl rfl) [_,_] [] rfl ⟨⟨_,rfl,.inr ⟨[_,_,_,_,_],ZY,Z9 2 rfl rfl rfl,rfl⟩⟩,rfl,trivial⟩ ⟨rfl,_,_,_,_,_,_,(by first | rfl | (simp only [DHost.withFolders,List.length_set];rfl)),hu5,hf5,hi5,by first | assumption | (rw [ZR.2.2.1];assumption)⟩

theorem ZuN (b:Nat) (q:Option Addr) (m cp p:Nat) (q1:Option Addr) (c1:Nat) (ls:List Str) (hp:p≤900000000000) (hn:1≤ls.length) (hn2:ls.length≤1000000000000) (hm:m≤2000) (B:Kn) (hbm:Zak B q m) (hl:SlK B q1 c1 1 ZbJ ls):Ex1 (pj J) 68 [ptr ⟨b,0,none⟩,.slice q1 ls.length c1] B (rd b q m cp p) (fun v s=>∃x,x∈ls∧v=str x∧s=rd b q m cp (p+1)):=by
 refine cB 12 Tryz.func68 (h:=?_)
 refine Za (xA (h:=Za (xM (h:=xM (h:=xM (h:=xV Tryz.underlying109 (h:=xX 0 rfl Za4 rfl (ZL _ _ _ _ _ _ oz oz oz hm _ hbm) (h:=?_))))))))
 rintro _ _ ⟨rk,rfl,rka,rkb,rfl⟩
 obtain ⟨z,hz⟩:=Zeh (xs:=ls) (i:=rk) om om
 obtain ⟨bb3,oo3,rfl⟩:=hl.base hz
 obtain ⟨_,⟨rfl,hb4⟩,hc4⟩:=hl.elem hz
 refine xIx Tryz.underlying109 sz9 (h:=y1 lk9 hc4 0 (h:=xA (h:=tL1 (Zd ?_))))
 exact e1 0 rfl t1 ⟨rfl,_,rfl,z,List.mem_of_getElem? hz,rfl,rfl⟩

theorem ZiG (b:Nat) (q:Option Addr) (m cp p:Nat) (hp:p≤850000000000) (hm:m≤2000) (B:Kn) (hbm:Zak B q m):Ex1 (pj J) 157 [ptr ⟨b,0,none⟩] B (rd b q m cp p) (fun v s=>∃(z:Int) (k:Nat),v = .int .i64 z∧-1≤z∧z≤80∧k≤p+3∧s=rd b q m cp k):=by
 refine cB 17 Tryz.func157 (h:=?_)
 refine Za (xA (h:=Zf (Za (xM (h:=xX 0 rfl Za4 rfl (ZL _ _ _ _ _ _ oz oz oz hm _ hbm) (h:=?_))))))
 rintro _ _ ⟨r1,rfl,r1a,r1b,rfl⟩
 refine ZF (h:=tL1 (Zb rfl (fun g1=>?_) (fun g1=>?_)))
 refine Za (xBs [(0,_),(1,_),(2,_),(3,_)] [_,_,_,_] Tryz.underlying110 sz3 zo3 (h:=fun b2=>?_))
 have hvq3:ZZ B (Zas b2 (([(-1),0,63,64]:List Int).map fun x=>.int .i64 x) 3) (some ⟨b2,0,none⟩) 4 3 1 Zb9 ([(-1),0,63,64]:List Int):=ZZ.ints
 refine xM (h:=xX 0 rfl Za4 rfl (ZL _ _ _ _ _ _ oz oz oz hm _ hbm) (h:=?_))
 rintro _ _ ⟨r4,rfl,r4a,r4b,rfl⟩
 obtain ⟨e,he⟩:=Zeh (xs:=([(-1),0,63,64]:List Int)) (i:=r4) om om
 obtain ⟨bb6,_,hp6,rfl,hw6,hc6⟩:=hvq3.row he
 refine xIp hp6 Tryz.underlying110 sz3 (h:=?_)
 have hme:=List.mem_of_getElem? he
 refine Zp (Zh rfl rfl lk3 rfl (hc6 _ 1 rfl 0 _ rfl) (xA (h:=tL2 (Zd (Zo ?_)))))
 exact e1 0 rfl t1 ⟨rfl,_,rfl,e,_,rfl,by simp only [List.mem_cons,List.not_mem_nil,or_false] at hme;omega,by simp only [List.mem_cons,List.not_mem_nil,or_false] at hme;omega,oz,rfl⟩
 refine wSk (Za (xM (h:=xX 0 rfl Za4 rfl (ZL _ _ _ _ _ _ oz oz oz hm _ hbm) (h:=?_))))
 rintro _ _ ⟨r7,rfl,r7a,r7b,rfl⟩
 refine xY (h:=xM (h:=xX 0 rfl Za4 rfl (ZL _ _ _ _ _ _ oz oz oz hm _ hbm) (h:=?_)))
 rintro _ _ ⟨r8,rfl,r8a,r8b,rfl⟩
 refine xD (h:=xA (h:=tL1 (Zd ?_)))
 exact e1 0 rfl t1 ⟨rfl,_,rfl,_,_,rfl,oz,oz,oz,rfl⟩

theorem ZiF (b:Nat) (q:Option Addr) (m cp p:Nat) (hp:p≤850000000000) (hm:m≤2000) (B:Kn) (hbm:Zak B q m):Ex1 (pj J) 26 [ptr ⟨b,0,none⟩] B (rd b q m cp p) (fun v s=>∃(x:Str) (k:Nat),v=str x∧x.length≤40∧k≤p+3∧s=rd b q m cp k):=by
 refine cB 11 Tryz.func26 (h:=?_)
 refine Za (xA (h:=Zf (Za (xM (h:=xX 0 rfl Za4 rfl (ZL _ _ _ _ _ _ oz oz oz hm _ hbm) (h:=?_))))))
 rintro _ _ ⟨r1,rfl,r1a,r1b,rfl⟩
 refine ZF (h:=tL1 (Zb rfl (fun g1=>?_) (fun g1=>?_)))
 refine Za (xM (h:=xX 0 rfl Ztp rfl (ZcD _ _ _ _ _ oz hm _ hbm) (h:=?_)))
 rintro _ _ ⟨x2,rfl,hx2,rfl⟩
 refine xA (h:=tL1 (Zd (Zo ?_)))
 exact e1 0 rfl t1 ⟨rfl,_,rfl,_,_,rfl,oa,oz,rfl⟩
 refine wSk (Za (xM (h:=xBs [(0,_),(1,_),(2,_)] [_,_,_] Tryz.underlying109 sz9 zo9 (h:=fun b3=>xK [0,1] rfl ZoB rfl (ZqK _ _ _ _ _ _ ([[97,109,121],[98,111,98],[99,121,100]]:List Str) oz (by decide) (by decide) hm _ hbm) (h:=?_)))))
 rintro _ B4 _ hle4 ⟨rfl,x4,hx4,rfl,rfl⟩
 replace hx4:=(show∀y∈( ([[97,109,121],[98,111,98],[99,121,100]]:List Str):List Str),y.length≤40 from by decide) _ hx4
 refine xA (h:=tL2 (Zd ?_))
 exact e1 0 rfl t1 ⟨rfl,_,rfl,_,_,rfl,oa,oz,rfl⟩

theorem ZsW (b:Nat) (q:Option Addr) (m cp p:Nat) (hp:p≤800000000000) (hm:m≤2000) (q1 q2 q3:Option Addr) (d1 d2 d3:Nat) (x:DHost) (B:Kn) (hbm:Zak B q m) (hf:SlK B q2 d2 5 Ze x.folders):Ex1 (pj J) 24 [ptr ⟨b,0,none⟩,.agg #[str x.domain,.slice q1 x.users.length d1,.slice q2 x.folders.length d2,.int .i64 x.queue.next,.slice q3 x.queue.items.length d3]] B (rd b q m cp p) (fun v s=>∃(y z:Str) (k:Nat),v = .tuple #[str y,str z]∧y.length≤2000000∧z.length≤2000000∧k≤p+6∧s=rd b q m cp k):=by
 refine cB 35 Tryz.func24 (h:=?_)
 have hfn:=hf.len
 refine Za (xBx [_,_,_,_,_] (h:=fun b1=>xA (h:=xA (h:=tL2 (Zf (Za (xW ZX (h:=x1 Zck 1 (h:=xV Tryz.underlying24 (h:=Zbw (h:=xM (h:=Zn (d:=12) rfl (fun g1=>?_) (fun g1=>?_)))))))))))))
 try simp only [sQ,ne_eq] at g1
 refine xM (h:=xX 0 rfl Za4 rfl (ZL _ _ _ _ _ _ oz oz oz hm _ hbm) (h:=?_))
 rintro _ _ ⟨r2,rfl,r2a,r2b,rfl⟩
 refine Zbw (h:=xT (h:=tL2 (Zb rfl (fun g2=>?_) (fun g2=>?_))))
 try simp only [sQ,ne_eq] at g2
 refine Zf (Z2 (keeps _ [1] _) mo kr ⟨Kn.le.refl _,Zai.refl _ _⟩ (fun _ _=>?_))
 refine aW 0 rfl ZX (h:=aT 1 rfl (ZC fun D B L hI=>Zh rfl rfl Zck rfl (atL 1 (hI.2.1.trans rfl) rfl rfl) r4) (h:=aM 2 rfl (h:=aW 3 rfl ZX (h:=aT 4 rfl (ZC fun D B L hI=>Zh rfl rfl Zck rfl (atL 1 (hI.2.1.trans rfl) rfl rfl) r4) (h:=aV 5 rfl Tryz.underlying24 (h:=Zan [6,9] kr kr kr ⟨?_,?_⟩))))))
 refine (Zcm 0 rfl rfl rfl Za4 rfl (ZL _ _ _ _ _ _ oz oz oz hm _ hbm) ?_)
 rintro _ _ ⟨rk,rfl,rka,rkb,rfl⟩
 refine ⟨⟨Kn.le.refl _,t1⟩,?_⟩
 obtain ⟨w,hw⟩:=Zeh (xs:=x.folders) (i:=rk) om om
 obtain ⟨bb5,oo5,rfl⟩:=hf.base hw
 obtain ⟨_,⟨qg6,cg6,qm6,cm6,rfl,hg6,hm6,hb6,hb6b⟩,hc6⟩:=hf.elem hw
 have hg6n:=hg6.len
 have hm6n:=hm6.len
 have hm6s:=Z0 hm6
 refine aIx 7 rfl Tryz.underlying24 Zba (h:=aT 8 rfl (ZC fun D B L hI=>Z1 [_,_,_,_,_] rfl rfl Ze9 rfl (Ziv (hc6.mono hI.1) 0 rfl rfl) r4) (h:=Zq 9 kr rfl kr (Zal (l:=[_,_,_,_,_]) rfl rfl Zdh rfl (fun b7=>?_))))
 refine ⟨⟨Kn.le.refl _,t1⟩,(ZV 10 kr rfl kr kr kr (ZI [_,_,_,_,_] 2 [_,_,_,_,_] rfl rfl Zba rfl rfl rfl rfl rfl rfl rfl rfl ?_))⟩
 refine Zj (tL3 (Zf (Z2 (same _ _) mo kr ⟨rfl,rfl⟩ (fun _ _=>?_))))
 refine aW 0 rfl Zb5 (h:=aT 1 rfl (Zaj fun D=>Zh rfl rfl lk9 rfl (atL 2 rfl rfl rfl) r4) (h:=aW 2 rfl Zd5 (h:=aT 3 rfl (Zaj fun D=>Zh rfl rfl lk9 rfl (atL 2 rfl rfl rfl) r4) (h:=aA 4 rfl (h:=aA 5 rfl (h:=Zz kr kr ?_))))))
 refine Zj (Zd (Zo ?_))
 exact ZoA .ret (.inl rfl) [_,_] 0 rfl t2 ⟨rfl,_,rfl,_,_,_,rfl,oa,oa,oz,rfl⟩
 refine (Zal (l:=[_,_,_,_,_]) rfl rfl Zdh rfl (fun b8=>⟨⟨Kn.le.refl _,t1⟩,(Zq 6 kr rfl kr (Zcm 0 rfl rfl rfl Za4 rfl (ZL _ _ _ _ _ _ oz oz oz hm _ hbm) ?_))⟩))
 rintro _ _ ⟨rk,rfl,rka,rkb,rfl⟩
 refine ⟨⟨Kn.le.refl _,t1⟩,?_⟩
 obtain ⟨w,hw⟩:=Zeh (xs:=x.folders) (i:=rk) om om
 obtain ⟨bb11,oo11,rfl⟩:=hf.base hw
 obtain ⟨_,⟨qg12,cg12,qm12,cm12,rfl,hg12,hm12,hb12,hb12b⟩,hc12⟩:=hf.elem hw
 have hg12n:=hg12.len
 have hm12n:=hm12.len
 have hm12s:=Z0 hm12
 refine aIx 7 rfl Tryz.underlying24 Zba (h:=aT 8 rfl (ZC fun D B L hI=>Z1 [_,_,_,_,_] rfl rfl Ze9 rfl (Ziv (hc12.mono hI.1) 0 rfl rfl) r4) (h:=ZV 10 kr rfl kr kr kr (ZI [_,_,_,_,_] 2 [_,_,_,_,_] rfl rfl Zba rfl rfl rfl rfl rfl rfl rfl rfl ?_)))
 refine Zj (tL3 (Zf (Z2 (same _ _) mo kr ⟨rfl,rfl⟩ (fun _ _=>?_))))
 refine aW 0 rfl Zb5 (h:=aT 1 rfl (Zaj fun D=>Zh rfl rfl lk9 rfl (atL 2 rfl rfl rfl) r4) (h:=aW 2 rfl Zd5 (h:=aT 3 rfl (Zaj fun D=>Zh rfl rfl lk9 rfl (atL 2 rfl rfl rfl) r4) (h:=aA 4 rfl (h:=aA 5 rfl (h:=Zz kr kr ?_))))))
 refine Zj (Zd (Zo ?_))
 exact ZoA .ret (.inl rfl) [_,_] 0 rfl t2 ⟨rfl,_,rfl,_,_,_,rfl,oa,oa,oz,rfl⟩
 try simp only [sQ,ne_eq] at g2
 refine wSk (Za (xM (h:=xX 0 rfl Zyh rfl (ZiF _ _ _ _ _ oz hm _ hbm) (h:=?_))))
 rintro _ _ ⟨x13,k13,rfl,hx13,hk13,rfl⟩
 refine xA (h:=tL2 (Za (xM (h:=xM (h:=xX 0 rfl Ztp rfl (ZcD _ _ _ _ _ oz hm _ hbm) (h:=?_))))))
 rintro _ _ ⟨x14,rfl,hx14,rfl⟩
 refine xA (h:=xA (h:=tL2 (Zd ?_)))
 exact ZoA .ret (.inl rfl) [_,_] 0 rfl t2 ⟨rfl,_,rfl,_,_,_,rfl,oa,oa,oz,rfl⟩
 try simp only [sQ,ne_eq] at g1
 refine xP (h:=xP (h:=xP (h:=xF (h:=Zb (t:=false) rfl (fun h=>Bool.noConfusion h) (fun _=>wSk (Za (xM (h:=xX 0 rfl Zyh rfl (ZiF _ _ _ _ _ oz hm _ hbm) (h:=?_)))))))))
 rintro _ _ ⟨x15,k15,rfl,hx15,hk15,rfl⟩
 refine xA (h:=tL2 (Za (xM (h:=xM (h:=xX 0 rfl Ztp rfl (ZcD _ _ _ _ _ oz hm _ hbm) (h:=?_))))))
 rintro _ _ ⟨x16,rfl,hx16,rfl⟩
 refine xA (h:=xA (h:=tL2 (Zd ?_)))
 exact ZoA .ret (.inl rfl) [_,_] 0 rfl t2 ⟨rfl,_,rfl,_,_,_,rfl,oa,oa,oz,rfl⟩

theorem Zpn (b:Nat) (q:Option Addr) (m cp p:Nat) (hp:p≤750000000000) (hm:m≤2000) (q1 q2 q3:Option Addr) (d1 d2 d3:Nat) (x:DHost) (hleft :∀y,y∈x.queue.items→0<y.left.length) (B:Kn) (hbm:Zak B q m) (hi:SlK B q3 d3 4 Zy x.queue.items):Zu (pj J) 112 [ptr ⟨b,0,none⟩,.agg #[str x.domain,.slice q1 x.users.length d1,.slice q2 x.folders.length d2,.int .i64 x.queue.next,.slice q3 x.queue.items.length d3]] B [rd b q m cp p] (fun v B' Ls=>∃(e:DEvent) (k:Nat),v = .agg #[.int .i64 e.kind,str e.by_,str e.owner,str e.name,str e.to_,str e.text,.int .i64 e.a,.int .i64 e.b]∧e.by_.length≤40∧e.owner.length≤40∧e.name.length≤40∧e.to_.length≤2000000∧e.text.length≤40∧k≤p+60∧Ls=[rd b q m cp k]):=by
 refine cB 148 Tryz.func112 (h:=?_)
 have hin:=hi.len
 refine Za (xBx [_,_,_,_,_] (h:=fun b1=>xAl [_,_,_,_,_,_,_,_] Zuk (h:=fun b2=>tL3 (Za (xBs [(0,_),(1,_),(2,_)] [_,_,_] Tryz.underlying109 sz9 zo9 (h:=fun b3=>xA (h:=tL4 (Za (Z4 3 rfl (ZZ.strs (ls:=([[97,109,121],[98,111,98],[99,121,100]]:List Str)) (by first | decide | (simp;done) | (simp;omega))) ZbJ.mono om3 (fun B4 hle4 hr4=>?_))))))))))
 replace hi:=up1 hle4 hi
 replace hbm:=hbm.mono hle4
 have hr4n:=hr4.len
 refine xM (h:=xM (h:=xX 0 rfl ZoB rfl (ZuN _ _ _ _ _ _ _ ([[97,109,121],[98,111,98],[99,121,100]]:List Str) oz (by decide) (by decide) hm _ hbm hr4) (h:=?_)))
 rintro _ _ ⟨x5,hx5,rfl,rfl⟩
 replace hx5:=(show∀y∈(([[97,109,121],[98,111,98],[99,121,100]]:List Str):List Str),y.length≤40 from by decide) _ hx5
 refine xM (h:=xM (h:=xX 0 rfl ZoB rfl (ZuN _ _ _ _ _ _ _ ([[97,109,121],[98,111,98],[99,121,100]]:List Str) oz (by decide) (by decide) hm _ hbm hr4) (h:=?_)))
 rintro _ _ ⟨x6,hx6,rfl,rfl⟩
 replace hx6:=(show∀y∈(([[97,109,121],[98,111,98],[99,121,100]]:List Str):List Str),y.length≤40 from by decide) _ hx6
 refine xM (h:=xBs [(0,_),(1,_),(2,_),(3,_)] [_,_,_,_] Tryz.underlying109 sz9 zo9 (h:=fun b7=>xK [0,4] rfl ZoB rfl (ZqK _ _ _ _ _ _ ([[105,110,98,111,120],[105,110,98,111,120],[98,111,120,49],[120]]:List Str) oz (by decide) (by decide) hm _ hbm) (h:=?_)))
 rintro _ B8 _ hle8 ⟨rfl,x8,hx8,rfl,rfl⟩
 replace hx8:=(show∀y∈( ([[105,110,98,111,120],[105,110,98,111,120],[98,111,120,49],[120]]:List Str):List Str),y.length≤40 from by decide) _ hx8
 refine xM (h:=xM (h:=xX 0 rfl ZoB rfl (ZuN _ _ _ _ _ _ _ ([[97,109,121],[98,111,98],[99,121,100]]:List Str) oz (by decide) (by decide) hm _ hbm hr4) (h:=?_)))
 rintro _ _ ⟨x9,hx9,rfl,rfl⟩
 replace hx9:=(show∀y∈(([[97,109,121],[98,111,98],[99,121,100]]:List Str):List Str),y.length≤40 from by decide) _ hx9
 refine xM (h:=xX 0 rfl Zvr rfl (ZdG _ _ _ _ _ oz hm _ hbm) (h:=?_))
 rintro _ _ ⟨x10,rfl,hx10,rfl⟩
 refine xB [(1,_),(2,_),(3,_),(4,_),(5,_)] [_,_,_,_,_,_,_,_] [_,_,_,_,_,_,_,_] ZxY Zuk (h:=xAl [_,_,_,_,_,_,_,_] Zuk (h:=fun b11=>xS [_,_,_,_,_,_,_,_] 5 [_,_,_,_,_,_,_,_] Zwp (h:=tL6 (Zlp (α:=DEvent × Nat) [0,1,3,4,5,6] (fun g=>[]) [0,5] (fun g=>[rd b q m cp g.2,Zas b11 [.int .i64 g.1.kind,str g.1.by_,str g.1.owner,str g.1.name,str g.1.to_,str g.1.text,.int .i64 g.1.a,.int .i64 g.1.b] 163]) (fun g=>[]) (fun g Bx=>g.1.by_.length≤40∧g.1.owner.length≤40∧g.1.name.length≤40∧g.1.to_.length≤2000000∧g.1.text.length≤40∧g.2≤p+7) ?_ (fun g B12 hle12 hF=>?_)))))
 refine Za (xM (h:=xX 0 rfl Za4 rfl (ZL _ _ _ _ _ _ oz oz oz hm _ hbm) (h:=?_)))
 rintro _ _ ⟨r13,rfl,r13a,r13b,rfl⟩
 refine Zbw (h:=tL6 (Zb rfl (fun e1=>?_) (fun e1=>?_)))
 try simp only [sQ,ne_eq] at e1
 refine Zc (xW Zf4 (h:=x1 lk9 5 (h:=xW Zk4 (h:=xS [_] 5 [_,_,_,_,_,_,_,_] sz9 (h:=?_)))))
 exact ZJ ⟨⟨0,x5,x5,x8,x9,x10,0,0⟩,((((((p+1)+1)+1)+1)+2)+1)⟩ [0,1,2,3,4,5] ⟨ob,ob,ob,ob,ob,ob⟩ t6 rfl
 try simp only [sQ,ne_eq] at e1
 refine ZK ?_
 exact ZJ ⟨⟨0,x5,x6,x8,x9,x10,0,0⟩,((((((p+1)+1)+1)+1)+2)+1)⟩ [0,1,2,3,4,5] ⟨ob,ob,ob,ob,ob,ob⟩ t6 rfl
 obtain ⟨hg1,hg2,hg3,hg4,hg5,hgp⟩:=hF
 replace hi:=up1 hle12 hi
 replace hbm:=hbm.mono hle12
 refine ZN [(0,_),(1,_),(3,_),(4,_),(5,_),(6,_)] [_,_,_,_,_,_] t6 rfl (Zlp (α:=DEvent × Nat) [0,1,3,4,5,6] (fun j=>[]) [0,5] (fun j=>[rd b q m cp j.2,Zas b11 [.int .i64 j.1.kind,str j.1.by_,str j.1.owner,str j.1.name,str j.1.to_,str j.1.text,.int .i64 j.1.a,.int .i64 j.1.b] 163]) (fun j=>[]) (fun j Bx=>j.1.by_.length≤40∧j.1.owner.length≤40∧j.1.name.length≤40∧j.1.to_.length≤2000000∧j.1.text.length≤40∧j.2≤p+20) ?_ (fun j B14 hle14 hF=>?_))
 refine Za (xM (h:=xX 0 rfl Za4 rfl (ZL _ _ _ _ _ _ oz oz oz hm _ hbm) (h:=?_)))
 rintro _ _ ⟨rk,rfl,rka,rkb,rfl⟩
 refine tL6 (Zl (Za (ZF (h:=xA (h:=Zb rfl (fun a0=>?_) (fun a0=>?_))))))
 try simp only [sQ,ne_eq] at a0
 refine Zc (xW Zb8 (h:=xS [_] 5 [_,_,_,_,_,_,_,_] sz3 (h:=Zx ?_)))
 exact ZJ ⟨⟨1,g.1.by_,g.1.owner,g.1.name,g.1.to_,g.1.text,g.1.a,g.1.b⟩,(g.2+1)⟩ [0,1,2,3,4,5] ⟨ob,ob,ob,ob,ob,ob⟩ t6 rfl
 try simp only [sQ,ne_eq] at a0
 refine Zf (Za (ZF (h:=xA (h:=Zb rfl (fun a1=>?_) (fun a1=>?_)))))
 try simp only [sQ,ne_eq] at a1
 refine wSk (Zb rfl (fun a1t=>?_) (fun a1t=>by simp [a1] at a1t))
 try simp only [sQ,ne_eq] at a1t
 refine Za (xW Zb8 (h:=xS [_] 5 [_,_,_,_,_,_,_,_] sz3 (h:=tL6 (Za (xM (h:=xX 0 rfl Zw0 rfl (ZiG _ _ _ _ _ oz hm _ hbm) (h:=?_)))))))
 rintro _ _ ⟨z16,k16,rfl,hz16,hz16b,hk16,rfl⟩
 refine xW Zbv (h:=xS [_] 5 [_,_,_,_,_,_,_,_] sz3 (h:=tL6 (Za (xM (h:=xX 0 rfl Za4 rfl (ZL _ _ _ _ _ _ oz oz oz hm _ hbm) (h:=?_))))))
 rintro _ _ ⟨r17,rfl,r17a,r17b,rfl⟩
 refine ZF (h:=tL6 (Zb rfl (fun b1=>?_) (fun b1=>?_)))
 try simp only [sQ,ne_eq] at b1
 refine Zc (xW Zee (h:=xS [_] 5 [_,_,_,_,_,_,_,_] sz9 (h:=Zx ?_)))
 exact ZJ ⟨⟨2,g.1.by_,g.1.owner,g.1.name,[97,110,121,111,110,101],g.1.text,z16,g.1.b⟩,(k16+1)⟩ [0,1,2,3,4,5] ⟨ob,ob,ob,ob,ob,ob⟩ t6 rfl
 try simp only [sQ,ne_eq] at b1
 refine ZK (Zx ?_)
 exact ZJ ⟨⟨2,g.1.by_,g.1.owner,g.1.name,g.1.to_,g.1.text,z16,g.1.b⟩,(k16+1)⟩ [0,1,2,3,4,5] ⟨ob,ob,ob,ob,ob,ob⟩ t6 rfl
 try simp only [sQ,ne_eq] at a1
 refine Zc (ZF (h:=xA (h:=Zj (Zb rfl (fun a2=>?_) (fun a2=>?_)))))
 try simp only [sQ,ne_eq] at a2
 refine Za (xW Zb8 (h:=xS [_] 5 [_,_,_,_,_,_,_,_] sz3 (h:=tL6 (Za (xM (h:=xX 0 rfl Zw0 rfl (ZiG _ _ _ _ _ oz hm _ hbm) (h:=?_)))))))
 rintro _ _ ⟨z18,k18,rfl,hz18,hz18b,hk18,rfl⟩
 refine xW Zbv (h:=xS [_] 5 [_,_,_,_,_,_,_,_] sz3 (h:=tL6 (Za (xM (h:=xX 0 rfl Za4 rfl (ZL _ _ _ _ _ _ oz oz oz hm _ hbm) (h:=?_))))))
 rintro _ _ ⟨r19,rfl,r19a,r19b,rfl⟩
 refine ZF (h:=tL6 (Zb rfl (fun b1=>?_) (fun b1=>?_)))
 try simp only [sQ,ne_eq] at b1
 refine Zc (xW Zee (h:=xS [_] 5 [_,_,_,_,_,_,_,_] sz9 (h:=Zx ?_)))
 exact ZJ ⟨⟨2,g.1.by_,g.1.owner,g.1.name,[97,110,121,111,110,101],g.1.text,z18,g.1.b⟩,(k18+1)⟩ [0,1,2,3,4,5] ⟨ob,ob,ob,ob,ob,ob⟩ t6 rfl
 try simp only [sQ,ne_eq] at b1
 refine ZK (Zx ?_)
 exact ZJ ⟨⟨2,g.1.by_,g.1.owner,g.1.name,g.1.to_,g.1.text,z18,g.1.b⟩,(k18+1)⟩ [0,1,2,3,4,5] ⟨ob,ob,ob,ob,ob,ob⟩ t6 rfl
 try simp only [sQ,ne_eq] at a2
 refine Zf (Za (ZF (h:=xA (h:=Zb rfl (fun a3=>?_) (fun a3=>?_)))))
 try simp only [sQ,ne_eq] at a3
 refine wSk (Zb rfl (fun a3t=>?_) (fun a3t=>by simp [a3] at a3t))
 try simp only [sQ,ne_eq] at a3t
 refine Za (xW Zb8 (h:=xS [_] 5 [_,_,_,_,_,_,_,_] sz3 (h:=tL6 (Zc (xM (h:=xX 0 rfl Za4 rfl (ZL _ _ _ _ _ _ oz oz oz hm _ hbm) (h:=?_)))))))
 rintro _ _ ⟨r20,rfl,r20a,r20b,rfl⟩
 refine xW Zbv (h:=xS [_] 5 [_,_,_,_,_,_,_,_] sz3 (h:=Zx ?_))
 exact ZJ ⟨⟨3,g.1.by_,g.1.owner,g.1.name,g.1.to_,g.1.text,r20,g.1.b⟩,((g.2+1)+1)⟩ [0,1,2,3,4,5] ⟨ob,ob,ob,ob,ob,ob⟩ t6 rfl
 try simp only [sQ,ne_eq] at a3
 refine Za (ZF (h:=xA (h:=Zb rfl (fun a4=>?_) (fun a4=>?_))))
 try simp only [sQ,ne_eq] at a4
 refine wSk (Zb rfl (fun a4t=>?_) (fun a4t=>by simp [a4] at a4t))
 try simp only [sQ,ne_eq] at a4t
 refine Za (xW Zb8 (h:=xS [_] 5 [_,_,_,_,_,_,_,_] sz3 (h:=tL6 (Zc (xM (h:=xX 0 rfl Za4 rfl (ZL _ _ _ _ _ _ oz oz oz hm _ hbm) (h:=?_)))))))
 rintro _ _ ⟨r21,rfl,r21a,r21b,rfl⟩
 refine xW Zbv (h:=xS [_] 5 [_,_,_,_,_,_,_,_] sz3 (h:=Zx ?_))
 exact ZJ ⟨⟨3,g.1.by_,g.1.owner,g.1.name,g.1.to_,g.1.text,r21,g.1.b⟩,((g.2+1)+1)⟩ [0,1,2,3,4,5] ⟨ob,ob,ob,ob,ob,ob⟩ t6 rfl
 try simp only [sQ,ne_eq] at a4
 refine Zc (ZF (h:=xA (h:=Zj (Zb rfl (fun a5=>?_) (fun a5=>?_)))))
 try simp only [sQ,ne_eq] at a5
 refine Za (xW Zb8 (h:=xS [_] 5 [_,_,_,_,_,_,_,_] sz3 (h:=tL6 (Zc (xM (h:=xX 0 rfl Za4 rfl (ZL _ _ _ _ _ _ oz oz oz hm _ hbm) (h:=?_)))))))
 rintro _ _ ⟨r22,rfl,r22a,r22b,rfl⟩
 refine xW Zbv (h:=xS [_] 5 [_,_,_,_,_,_,_,_] sz3 (h:=Zx ?_))
 exact ZJ ⟨⟨3,g.1.by_,g.1.owner,g.1.name,g.1.to_,g.1.text,r22,g.1.b⟩,((g.2+1)+1)⟩ [0,1,2,3,4,5] ⟨ob,ob,ob,ob,ob,ob⟩ t6 rfl
 try simp only [sQ,ne_eq] at a5
 refine Zf (Za (ZF (h:=xA (h:=Zb rfl (fun a6=>?_) (fun a6=>?_)))))
 try simp only [sQ,ne_eq] at a6
 refine wSk (Zb rfl (fun a6t=>?_) (fun a6t=>by simp [a6] at a6t))
 try simp only [sQ,ne_eq] at a6t
 refine Zc (xW Zb8 (h:=xS [_] 5 [_,_,_,_,_,_,_,_] sz3 (h:=Zx ?_)))
 exact ZJ ⟨⟨4,g.1.by_,g.1.owner,g.1.name,g.1.to_,g.1.text,g.1.a,g.1.b⟩,(g.2+1)⟩ [0,1,2,3,4,5] ⟨ob,ob,ob,ob,ob,ob⟩ t6 rfl
 try simp only [sQ,ne_eq] at a6
 refine Zc (ZF (h:=xA (h:=Zj (Zb rfl (fun a7=>?_) (fun a7=>?_)))))
 try simp only [sQ,ne_eq] at a7
 refine Zc (xW Zb8 (h:=xS [_] 5 [_,_,_,_,_,_,_,_] sz3 (h:=Zx ?_)))
 exact ZJ ⟨⟨4,g.1.by_,g.1.owner,g.1.name,g.1.to_,g.1.text,g.1.a,g.1.b⟩,(g.2+1)⟩ [0,1,2,3,4,5] ⟨ob,ob,ob,ob,ob,ob⟩ t6 rfl
 try simp only [sQ,ne_eq] at a7
 refine Zf (Za (ZF (h:=xA (h:=Zb rfl (fun a8=>?_) (fun a8=>?_)))))
 try simp only [sQ,ne_eq] at a8
 refine wSk (Zb rfl (fun a8t=>?_) (fun a8t=>by simp [a8] at a8t))
 try simp only [sQ,ne_eq] at a8t
 refine Za (xW Zb8 (h:=xS [_] 5 [_,_,_,_,_,_,_,_] sz3 (h:=tL6 (Za (xM (h:=xX 0 rfl Za4 rfl (ZL _ _ _ _ _ _ oz oz oz hm _ hbm) (h:=?_)))))))
 rintro _ _ ⟨r23,rfl,r23a,r23b,rfl⟩
 refine xD (h:=xW Zbv (h:=xS [_] 5 [_,_,_,_,_,_,_,_] sz3 (h:=tL6 (Za (xW Zcg (h:=xW Zar (h:=x1 Zey 1 (h:=xV Tryz.underlying25 (h:=Zbw (h:=xM (h:=Zn (d:=71) rfl (fun d1=>?_) (fun d1=>?_))))))))))))
 try simp only [sQ,ne_eq] at d1
 refine xM (h:=xX 0 rfl Za4 rfl (ZL _ _ _ _ _ _ oz oz oz hm _ hbm) (h:=?_))
 rintro _ _ ⟨r24,rfl,r24a,r24b,rfl⟩
 refine Zbw (h:=xT (h:=tL6 (Zb rfl (fun d2=>?_) (fun d2=>?_))))
 try simp only [sQ,ne_eq] at d2
 refine Zf (Z2 (keeps _ [1] _) mo kr ⟨Kn.le.refl _,Zai.refl _ _⟩ (fun _ _=>?_))
 refine aW 0 rfl Zcg (h:=aW 1 rfl Zar (h:=aT 2 rfl (ZC fun D B L hI=>Zh rfl rfl Zey rfl (atL 1 (hI.2.1.trans rfl) rfl rfl) r4) (h:=aM 3 rfl (h:=aW 4 rfl Zcg (h:=aW 5 rfl Zar (h:=aT 6 rfl (ZC fun D B L hI=>Zh rfl rfl Zey rfl (atL 1 (hI.2.1.trans rfl) rfl rfl) r4) (h:=aV 7 rfl Tryz.underlying25 (h:=Zan [8,11] kr kr kr ⟨?_,?_⟩))))))))
 refine (Zcm 0 rfl rfl rfl Za4 rfl (ZL _ _ _ _ _ _ oz oz oz hm _ hbm) ?_)
 rintro _ _ ⟨rkd,rfl,rkda,rkdb,rfl⟩
 refine ⟨⟨Kn.le.refl _,t1⟩,?_⟩
 obtain ⟨w,hw⟩:=Zeh (xs:=x.queue.items) (i:=rkd) om om
 obtain ⟨bb27,oo27,rfl⟩:=hi.base hw
 obtain ⟨_,⟨qi28,ci28,rfl,hi28,hb28,hb28b⟩,hc28⟩:=hi.elem hw
 have hi28n:=hi28.len
 refine aIx 9 rfl Tryz.underlying25 Zbg (h:=?_)
 have hwl:=hleft w (List.mem_of_getElem? hw)
 refine aT 10 rfl (ZC fun D B L hI=>Z1 [_,_,_,_] rfl rfl ZdF rfl (Ziv (hc28.mono hI.1) 0 rfl rfl) r4) (h:=Zq 11 kr rfl kr (Zal (l:=[_,_,_,_]) rfl rfl ZcM rfl (fun b29=>?_)))
 refine ⟨⟨Kn.le.refl _,t1⟩,(ZV 12 kr rfl kr kr kr (ZI [_,_,_,_] 6 [_,_,_,_] rfl rfl Zbg rfl rfl rfl rfl rfl rfl rfl rfl ?_))⟩
 refine Zj (tL7 (Za (xW ZcZ (h:=x1 lk3 6 (h:=xW Zbv (h:=xS [_] 5 [_,_,_,_,_,_,_,_] sz3 (h:=tL7 (Z2 (keeps _ [5,6] _) mo kr ⟨Kn.le.refl _,Zai.refl _ _⟩ (fun _ _=>?_)))))))))
 refine aW 0 rfl ZaG (h:=aT 1 rfl (ZC fun D B L hI=>Zh rfl rfl ZcX rfl (atL 6 (hI.2.2.1.trans rfl) rfl rfl) r4) (h:=aM 2 rfl (h:=aW 3 rfl ZaG (h:=aT 4 rfl (ZC fun D B L hI=>Zh rfl rfl ZcX rfl (atL 6 (hI.2.2.1.trans rfl) rfl rfl) r4) (h:=aV 5 rfl Tryz.underlying109 (h:=Zq 6 kr rfl kr (Zcm 0 rfl rfl rfl Za4 rfl (ZL _ _ _ _ _ _ oz oz oz hm _ hbm) ?_)))))))
 rintro _ _ ⟨rke,rfl,rkea,rkeb,rfl⟩
 refine ⟨⟨Kn.le.refl _,t2⟩,?_⟩
 obtain ⟨ws,hws⟩:=Zeh (xs:=w.left) (i:=rke) om om
 obtain ⟨bb32,oo32,rfl⟩:=hi28.base hws
 obtain ⟨_,⟨rfl,hb33⟩,hc33⟩:=hi28.elem hws
 refine aIx 7 rfl Tryz.underlying109 sz9 (h:=aT 8 rfl (ZC fun D B L hI=>Zh rfl rfl lk9 rfl ((hc33.mono hI.1) _ 0 _ rfl) r4) (h:=aW 9 rfl Zee (h:=ZV 10 kr rfl kr kr kr (ZI [_] 5 [_,_,_,_,_,_,_,_] rfl rfl sz9 rfl rfl rfl rfl rfl rfl rfl rfl ?_))))
 refine Zx ?_
 exact ZJ ⟨⟨5,g.1.by_,g.1.owner,g.1.name,ws,g.1.text,w.id,g.1.b⟩,(((((g.2+1)+1)+1)+1)+1)⟩ [0,1,2,3,4,5] ⟨ob,ob,ob,ob,ob,ob⟩ t6 rfl
 refine (Zal (l:=[_,_,_,_]) rfl rfl ZcM rfl (fun b34=>⟨⟨Kn.le.refl _,t1⟩,(Zq 8 kr rfl kr (Zcm 0 rfl rfl rfl Za4 rfl (ZL _ _ _ _ _ _ oz oz oz hm _ hbm) ?_))⟩))
 rintro _ _ ⟨rkd,rfl,rkda,rkdb,rfl⟩
 refine ⟨⟨Kn.le.refl _,t1⟩,?_⟩
 obtain ⟨w,hw⟩:=Zeh (xs:=x.queue.items) (i:=rkd) om om
 obtain ⟨bb37,oo37,rfl⟩:=hi.base hw
 obtain ⟨_,⟨qi38,ci38,rfl,hi38,hb38,hb38b⟩,hc38⟩:=hi.elem hw
 have hi38n:=hi38.len
 refine aIx 9 rfl Tryz.underlying25 Zbg (h:=?_)
 have hwl:=hleft w (List.mem_of_getElem? hw)
 refine aT 10 rfl (ZC fun D B L hI=>Z1 [_,_,_,_] rfl rfl ZdF rfl (Ziv (hc38.mono hI.1) 0 rfl rfl) r4) (h:=ZV 12 kr rfl kr kr kr (ZI [_,_,_,_] 6 [_,_,_,_] rfl rfl Zbg rfl rfl rfl rfl rfl rfl rfl rfl ?_))
 refine Zj (tL7 (Za (xW ZcZ (h:=x1 lk3 6 (h:=xW Zbv (h:=xS [_] 5 [_,_,_,_,_,_,_,_] sz3 (h:=tL7 (Z2 (keeps _ [5,6] _) mo kr ⟨Kn.le.refl _,Zai.refl _ _⟩ (fun _ _=>?_)))))))))
 refine aW 0 rfl ZaG (h:=aT 1 rfl (ZC fun D B L hI=>Zh rfl rfl ZcX rfl (atL 6 (hI.2.2.1.trans rfl) rfl rfl) r4) (h:=aM 2 rfl (h:=aW 3 rfl ZaG (h:=aT 4 rfl (ZC fun D B L hI=>Zh rfl rfl ZcX rfl (atL 6 (hI.2.2.1.trans rfl) rfl rfl) r4) (h:=aV 5 rfl Tryz.underlying109 (h:=Zq 6 kr rfl kr (Zcm 0 rfl rfl rfl Za4 rfl (ZL _ _ _ _ _ _ oz oz oz hm _ hbm) ?_)))))))
 rintro _ _ ⟨rke,rfl,rkea,rkeb,rfl⟩
 refine ⟨⟨Kn.le.refl _,t2⟩,?_⟩
 obtain ⟨ws,hws⟩:=Zeh (xs:=w.left) (i:=rke) om om
 obtain ⟨bb41,oo41,rfl⟩:=hi38.base hws
 obtain ⟨_,⟨rfl,hb42⟩,hc42⟩:=hi38.elem hws
 refine aIx 7 rfl Tryz.underlying109 sz9 (h:=aT 8 rfl (ZC fun D B L hI=>Zh rfl rfl lk9 rfl ((hc42.mono hI.1) _ 0 _ rfl) r4) (h:=aW 9 rfl Zee (h:=ZV 10 kr rfl kr kr kr (ZI [_] 5 [_,_,_,_,_,_,_,_] rfl rfl sz9 rfl rfl rfl rfl rfl rfl rfl rfl ?_))))
 refine Zx ?_
 exact ZJ ⟨⟨5,g.1.by_,g.1.owner,g.1.name,ws,g.1.text,w.id,g.1.b⟩,(((((g.2+1)+1)+1)+1)+1)⟩ [0,1,2,3,4,5] ⟨ob,ob,ob,ob,ob,ob⟩ t6 rfl
 try simp only [sQ,ne_eq] at d2
 refine ZK (Zx ?_)
 exact ZJ ⟨⟨5,g.1.by_,g.1.owner,g.1.name,g.1.to_,g.1.text,(1+r23),g.1.b⟩,(((g.2+1)+1)+1)⟩ [0,1,2,3,4,5] ⟨ob,ob,ob,ob,ob,ob⟩ t6 rfl
 try simp only [sQ,ne_eq] at d1
 refine xP (h:=xP (h:=xP (h:=xF (h:=Zb (t:=false) rfl (fun h=>Bool.noConfusion h) (fun _=>ZK (Zx ?_))))))
 exact ZJ ⟨⟨5,g.1.by_,g.1.owner,g.1.name,g.1.to_,g.1.text,(1+r23),g.1.b⟩,((g.2+1)+1)⟩ [0,1,2,3,4,5] ⟨ob,ob,ob,ob,ob,ob⟩ t6 rfl
 try simp only [sQ,ne_eq] at a8
 refine Zc (ZF (h:=xA (h:=Zj (Zb rfl (fun a9=>?_) (fun a9=>?_)))))
 try simp only [sQ,ne_eq] at a9
 refine Za (xW Zb8 (h:=xS [_] 5 [_,_,_,_,_,_,_,_] sz3 (h:=tL6 (Za (xM (h:=xX 0 rfl Za4 rfl (ZL _ _ _ _ _ _ oz oz oz hm _ hbm) (h:=?_)))))))
 rintro _ _ ⟨r43,rfl,r43a,r43b,rfl⟩
 refine xD (h:=xW Zbv (h:=xS [_] 5 [_,_,_,_,_,_,_,_] sz3 (h:=tL6 (Za (xW Zcg (h:=xW Zar (h:=x1 Zey 1 (h:=xV Tryz.underlying25 (h:=Zbw (h:=xM (h:=Zn (d:=71) rfl (fun d1=>?_) (fun d1=>?_))))))))))))
 try simp only [sQ,ne_eq] at d1
 refine xM (h:=xX 0 rfl Za4 rfl (ZL _ _ _ _ _ _ oz oz oz hm _ hbm) (h:=?_))
 rintro _ _ ⟨r44,rfl,r44a,r44b,rfl⟩
 refine Zbw (h:=xT (h:=tL6 (Zb rfl (fun d2=>?_) (fun d2=>?_))))
 try simp only [sQ,ne_eq] at d2
 refine Zf (Z2 (keeps _ [1] _) mo kr ⟨Kn.le.refl _,Zai.refl _ _⟩ (fun _ _=>?_))
 refine aW 0 rfl Zcg (h:=aW 1 rfl Zar (h:=aT 2 rfl (ZC fun D B L hI=>Zh rfl rfl Zey rfl (atL 1 (hI.2.1.trans rfl) rfl rfl) r4) (h:=aM 3 rfl (h:=aW 4 rfl Zcg (h:=aW 5 rfl Zar (h:=aT 6 rfl (ZC fun D B L hI=>Zh rfl rfl Zey rfl (atL 1 (hI.2.1.trans rfl) rfl rfl) r4) (h:=aV 7 rfl Tryz.underlying25 (h:=Zan [8,11] kr kr kr ⟨?_,?_⟩))))))))
 refine (Zcm 0 rfl rfl rfl Za4 rfl (ZL _ _ _ _ _ _ oz oz oz hm _ hbm) ?_)
 rintro _ _ ⟨rkd,rfl,rkda,rkdb,rfl⟩
 refine ⟨⟨Kn.le.refl _,t1⟩,?_⟩
 obtain ⟨w,hw⟩:=Zeh (xs:=x.queue.items) (i:=rkd) om om
 obtain ⟨bb47,oo47,rfl⟩:=hi.base hw
 obtain ⟨_,⟨qi48,ci48,rfl,hi48,hb48,hb48b⟩,hc48⟩:=hi.elem hw
 have hi48n:=hi48.len
 refine aIx 9 rfl Tryz.underlying25 Zbg (h:=?_)
 have hwl:=hleft w (List.mem_of_getElem? hw)
 refine aT 10 rfl (ZC fun D B L hI=>Z1 [_,_,_,_] rfl rfl ZdF rfl (Ziv (hc48.mono hI.1) 0 rfl rfl) r4) (h:=Zq 11 kr rfl kr (Zal (l:=[_,_,_,_]) rfl rfl ZcM rfl (fun b49=>?_)))
 refine ⟨⟨Kn.le.refl _,t1⟩,(ZV 12 kr rfl kr kr kr (ZI [_,_,_,_] 6 [_,_,_,_] rfl rfl Zbg rfl rfl rfl rfl rfl rfl rfl rfl ?_))⟩
 refine Zj (tL7 (Za (xW ZcZ (h:=x1 lk3 6 (h:=xW Zbv (h:=xS [_] 5 [_,_,_,_,_,_,_,_] sz3 (h:=tL7 (Z2 (keeps _ [5,6] _) mo kr ⟨Kn.le.refl _,Zai.refl _ _⟩ (fun _ _=>?_)))))))))
 refine aW 0 rfl ZaG (h:=aT 1 rfl (ZC fun D B L hI=>Zh rfl rfl ZcX rfl (atL 6 (hI.2.2.1.trans rfl) rfl rfl) r4) (h:=aM 2 rfl (h:=aW 3 rfl ZaG (h:=aT 4 rfl (ZC fun D B L hI=>Zh rfl rfl ZcX rfl (atL 6 (hI.2.2.1.trans rfl) rfl rfl) r4) (h:=aV 5 rfl Tryz.underlying109 (h:=Zq 6 kr rfl kr (Zcm 0 rfl rfl rfl Za4 rfl (ZL _ _ _ _ _ _ oz oz oz hm _ hbm) ?_)))))))
 rintro _ _ ⟨rke,rfl,rkea,rkeb,rfl⟩
 refine ⟨⟨Kn.le.refl _,t2⟩,?_⟩
 obtain ⟨ws,hws⟩:=Zeh (xs:=w.left) (i:=rke) om om
 obtain ⟨bb52,oo52,rfl⟩:=hi48.base hws
 obtain ⟨_,⟨rfl,hb53⟩,hc53⟩:=hi48.elem hws
 refine aIx 7 rfl Tryz.underlying109 sz9 (h:=aT 8 rfl (ZC fun D B L hI=>Zh rfl rfl lk9 rfl ((hc53.mono hI.1) _ 0 _ rfl) r4) (h:=aW 9 rfl Zee (h:=ZV 10 kr rfl kr kr kr (ZI [_] 5 [_,_,_,_,_,_,_,_] rfl rfl sz9 rfl rfl rfl rfl rfl rfl rfl rfl ?_))))
 refine Zx ?_
 exact ZJ ⟨⟨5,g.1.by_,g.1.owner,g.1.name,ws,g.1.text,w.id,g.1.b⟩,(((((g.2+1)+1)+1)+1)+1)⟩ [0,1,2,3,4,5] ⟨ob,ob,ob,ob,ob,ob⟩ t6 rfl
 refine (Zal (l:=[_,_,_,_]) rfl rfl ZcM rfl (fun b54=>⟨⟨Kn.le.refl _,t1⟩,(Zq 8 kr rfl kr (Zcm 0 rfl rfl rfl Za4 rfl (ZL _ _ _ _ _ _ oz oz oz hm _ hbm) ?_))⟩))
 rintro _ _ ⟨rkd,rfl,rkda,rkdb,rfl⟩
 refine ⟨⟨Kn.le.refl _,t1⟩,?_⟩
 obtain ⟨w,hw⟩:=Zeh (xs:=x.queue.items) (i:=rkd) om om
 obtain ⟨bb57,oo57,rfl⟩:=hi.base hw
 obtain ⟨_,⟨qi58,ci58,rfl,hi58,hb58,hb58b⟩,hc58⟩:=hi.elem hw
 have hi58n:=hi58.len
 refine aIx 9 rfl Tryz.underlying25 Zbg (h:=?_)
 have hwl:=hleft w (List.mem_of_getElem? hw)
 refine aT 10 rfl (ZC fun D B L hI=>Z1 [_,_,_,_] rfl rfl ZdF rfl (Ziv (hc58.mono hI.1) 0 rfl rfl) r4) (h:=ZV 12 kr rfl kr kr kr (ZI [_,_,_,_] 6 [_,_,_,_] rfl rfl Zbg rfl rfl rfl rfl rfl rfl rfl rfl ?_))
 refine Zj (tL7 (Za (xW ZcZ (h:=x1 lk3 6 (h:=xW Zbv (h:=xS [_] 5 [_,_,_,_,_,_,_,_] sz3 (h:=tL7 (Z2 (keeps _ [5,6] _) mo kr ⟨Kn.le.refl _,Zai.refl _ _⟩ (fun _ _=>?_)))))))))
 refine aW 0 rfl ZaG (h:=aT 1 rfl (ZC fun D B L hI=>Zh rfl rfl ZcX rfl (atL 6 (hI.2.2.1.trans rfl) rfl rfl) r4) (h:=aM 2 rfl (h:=aW 3 rfl ZaG (h:=aT 4 rfl (ZC fun D B L hI=>Zh rfl rfl ZcX rfl (atL 6 (hI.2.2.1.trans rfl) rfl rfl) r4) (h:=aV 5 rfl Tryz.underlying109 (h:=Zq 6 kr rfl kr (Zcm 0 rfl rfl rfl Za4 rfl (ZL _ _ _ _ _ _ oz oz oz hm _ hbm) ?_)))))))
 rintro _ _ ⟨rke,rfl,rkea,rkeb,rfl⟩
 refine ⟨⟨Kn.le.refl _,t2⟩,?_⟩
 obtain ⟨ws,hws⟩:=Zeh (xs:=w.left) (i:=rke) om om
 obtain ⟨bb61,oo61,rfl⟩:=hi58.base hws
 obtain ⟨_,⟨rfl,hb62⟩,hc62⟩:=hi58.elem hws
 refine aIx 7 rfl Tryz.underlying109 sz9 (h:=aT 8 rfl (ZC fun D B L hI=>Zh rfl rfl lk9 rfl ((hc62.mono hI.1) _ 0 _ rfl) r4) (h:=aW 9 rfl Zee (h:=ZV 10 kr rfl kr kr kr (ZI [_] 5 [_,_,_,_,_,_,_,_] rfl rfl sz9 rfl rfl rfl rfl rfl rfl rfl rfl ?_))))
 refine Zx ?_
 exact ZJ ⟨⟨5,g.1.by_,g.1.owner,g.1.name,ws,g.1.text,w.id,g.1.b⟩,(((((g.2+1)+1)+1)+1)+1)⟩ [0,1,2,3,4,5] ⟨ob,ob,ob,ob,ob,ob⟩ t6 rfl
 try simp only [sQ,ne_eq] at d2
 refine ZK (Zx ?_)
 exact ZJ ⟨⟨5,g.1.by_,g.1.owner,g.1.name,g.1.to_,g.1.text,(1+r43),g.1.b⟩,(((g.2+1)+1)+1)⟩ [0,1,2,3,4,5] ⟨ob,ob,ob,ob,ob,ob⟩ t6 rfl
 try simp only [sQ,ne_eq] at d1
 refine xP (h:=xP (h:=xP (h:=xF (h:=Zb (t:=false) rfl (fun h=>Bool.noConfusion h) (fun _=>ZK (Zx ?_))))))
 exact ZJ ⟨⟨5,g.1.by_,g.1.owner,g.1.name,g.1.to_,g.1.text,(1+r43),g.1.b⟩,((g.2+1)+1)⟩ [0,1,2,3,4,5] ⟨ob,ob,ob,ob,ob,ob⟩ t6 rfl
 try simp only [sQ,ne_eq] at a9
 refine Zf (Za (ZF (h:=xA (h:=Zb rfl (fun a10=>?_) (fun a10=>?_)))))
 try simp only [sQ,ne_eq] at a10
 refine wSk (Zb rfl (fun a10t=>?_) (fun a10t=>by simp [a10] at a10t))
 try simp only [sQ,ne_eq] at a10t
 refine Za (xW Zb8 (h:=xS [_] 5 [_,_,_,_,_,_,_,_] sz3 (h:=tL6 (Za (xM (h:=xX 0 rfl Za4 rfl (ZL _ _ _ _ _ _ oz oz oz hm _ hbm) (h:=?_)))))))
 rintro _ _ ⟨r63,rfl,r63a,r63b,rfl⟩
 refine xW Zbv (h:=xS [_] 5 [_,_,_,_,_,_,_,_] sz3 (h:=tL6 (Zc (xM (h:=xX 0 rfl Za4 rfl (ZL _ _ _ _ _ _ oz oz oz hm _ hbm) (h:=?_))))))
 rintro _ _ ⟨r64,rfl,r64a,r64b,rfl⟩
 refine xY (h:=xM (h:=xX 0 rfl Za4 rfl (ZL _ _ _ _ _ _ oz oz oz hm _ hbm) (h:=?_)))
 rintro _ _ ⟨r65,rfl,r65a,r65b,rfl⟩
 refine xD (h:=xW ZnB (h:=xS [_] 5 [_,_,_,_,_,_,_,_] sz3 (h:=Zx ?_)))
 exact ZJ ⟨⟨6,g.1.by_,g.1.owner,g.1.name,g.1.to_,g.1.text,r63,((r64*8)+r65)⟩,((((g.2+1)+1)+1)+1)⟩ [0,1,2,3,4,5] ⟨ob,ob,ob,ob,ob,ob⟩ t6 rfl
 try simp only [sQ,ne_eq] at a10
 refine Zc (ZF (h:=xA (h:=Zj (Zb rfl (fun a11=>?_) (fun a11=>?_)))))
 try simp only [sQ,ne_eq] at a11
 refine Za (xW Zb8 (h:=xS [_] 5 [_,_,_,_,_,_,_,_] sz3 (h:=tL6 (Za (xM (h:=xX 0 rfl Za4 rfl (ZL _ _ _ _ _ _ oz oz oz hm _ hbm) (h:=?_)))))))
 rintro _ _ ⟨r66,rfl,r66a,r66b,rfl⟩
 refine xW Zbv (h:=xS [_] 5 [_,_,_,_,_,_,_,_] sz3 (h:=tL6 (Zc (xM (h:=xX 0 rfl Za4 rfl (ZL _ _ _ _ _ _ oz oz oz hm _ hbm) (h:=?_))))))
 rintro _ _ ⟨r67,rfl,r67a,r67b,rfl⟩
 refine xY (h:=xM (h:=xX 0 rfl Za4 rfl (ZL _ _ _ _ _ _ oz oz oz hm _ hbm) (h:=?_)))
 rintro _ _ ⟨r68,rfl,r68a,r68b,rfl⟩
 refine xD (h:=xW ZnB (h:=xS [_] 5 [_,_,_,_,_,_,_,_] sz3 (h:=Zx ?_)))
 exact ZJ ⟨⟨6,g.1.by_,g.1.owner,g.1.name,g.1.to_,g.1.text,r66,((r67*8)+r68)⟩,((((g.2+1)+1)+1)+1)⟩ [0,1,2,3,4,5] ⟨ob,ob,ob,ob,ob,ob⟩ t6 rfl
 try simp only [sQ,ne_eq] at a11
 refine Za (ZF (h:=xA (h:=Zb rfl (fun a12=>?_) (fun a12=>?_))))
 try simp only [sQ,ne_eq] at a12
 refine Zc (xW Zb8 (h:=xS [_] 5 [_,_,_,_,_,_,_,_] sz3 (h:=Zx ?_)))
 exact ZJ ⟨⟨7,g.1.by_,g.1.owner,g.1.name,g.1.to_,g.1.text,g.1.a,g.1.b⟩,(g.2+1)⟩ [0,1,2,3,4,5] ⟨ob,ob,ob,ob,ob,ob⟩ t6 rfl
 try simp only [sQ,ne_eq] at a12
 refine Za (ZF (h:=xA (h:=Zb rfl (fun a13=>?_) (fun a13=>?_))))
 try simp only [sQ,ne_eq] at a13
 refine Za (xW Zb8 (h:=xS [_] 5 [_,_,_,_,_,_,_,_] sz3 (h:=tL6 (Zc (xM (h:=xX 0 rfl Za4 rfl (ZL _ _ _ _ _ _ oz oz oz hm _ hbm) (h:=?_)))))))
 rintro _ _ ⟨r69,rfl,r69a,r69b,rfl⟩
 refine xW Zbv (h:=xS [_] 5 [_,_,_,_,_,_,_,_] sz3 (h:=Zx ?_))
 exact ZJ ⟨⟨8,g.1.by_,g.1.owner,g.1.name,g.1.to_,g.1.text,r69,g.1.b⟩,((g.2+1)+1)⟩ [0,1,2,3,4,5] ⟨ob,ob,ob,ob,ob,ob⟩ t6 rfl
 try simp only [sQ,ne_eq] at a13
 refine ZK (Zx ?_)
 exact ZJ ⟨⟨g.1.kind,g.1.by_,g.1.owner,g.1.name,g.1.to_,g.1.text,g.1.a,g.1.b⟩,(g.2+1)⟩ [0,1,2,3,4,5] ⟨ob,ob,ob,ob,ob,ob⟩ t6 rfl
 obtain ⟨hj1,hj2,hj3,hj4,hj5,hjp⟩:=hF
 replace hbm:=hbm.mono hle14
 refine ZN [(0,_),(1,_),(3,_),(4,_),(5,_),(6,_)] [_,_,_,_,_,_] t6 rfl (Zlp (α:=DEvent × Nat) [0,1,3,4,5,6] (fun o=>[]) [0,5] (fun o=>[rd b q m cp o.2,Zas b11 [.int .i64 o.1.kind,str o.1.by_,str o.1.owner,str o.1.name,str o.1.to_,str o.1.text,.int .i64 o.1.a,.int .i64 o.1.b] 163]) (fun o=>[]) (fun o Bx=>o.1.by_.length≤40∧o.1.owner.length≤40∧o.1.name.length≤40∧o.1.to_.length≤2000000∧o.1.text.length≤40∧o.2≤p+40) ?_ (fun o B70 hle70 hF=>?_))
 refine Za (xM (h:=xX 0 rfl Za4 rfl (ZL _ _ _ _ _ _ oz oz oz hm _ hbm) (h:=?_)))
 rintro _ _ ⟨rz,rfl,rza,rzb,rfl⟩
 refine tL6 (Zl (Za (ZF (h:=xA (h:=Zb rfl (fun f0=>?_) (fun f0=>?_))))))
 try simp only [sQ,ne_eq] at f0
 refine Zc (xM (h:=xX 0 rfl Za4 rfl (ZL _ _ _ _ _ _ oz oz oz hm _ hbm) (h:=?_)))
 rintro _ _ ⟨r72,rfl,r72a,r72b,rfl⟩
 refine xU (h:=xW Zb8 (h:=xS [_] 5 [_,_,_,_,_,_,_,_] sz3 (h:=Zx ?_)))
 exact ZJ ⟨⟨(r72 - 1),j.1.by_,j.1.owner,j.1.name,j.1.to_,j.1.text,j.1.a,j.1.b⟩,((j.2+1)+1)⟩ [0,1,2,3,4,5] ⟨ob,ob,ob,ob,ob,ob⟩ t6 rfl
 try simp only [sQ,ne_eq] at f0
 refine Za (ZF (h:=xA (h:=Zb rfl (fun f1=>?_) (fun f1=>?_))))
 try simp only [sQ,ne_eq] at f1
 refine Zc (xM (h:=xX 0 rfl Za4 rfl (ZL _ _ _ _ _ _ oz oz oz hm _ hbm) (h:=?_)))
 rintro _ _ ⟨r73,rfl,r73a,r73b,rfl⟩
 refine xU (h:=xW Zbv (h:=xS [_] 5 [_,_,_,_,_,_,_,_] sz3 (h:=Zx ?_)))
 exact ZJ ⟨⟨j.1.kind,j.1.by_,j.1.owner,j.1.name,j.1.to_,j.1.text,(r73 - 5),j.1.b⟩,((j.2+1)+1)⟩ [0,1,2,3,4,5] ⟨ob,ob,ob,ob,ob,ob⟩ t6 rfl
 try simp only [sQ,ne_eq] at f1
 refine Za (ZF (h:=xA (h:=Zb rfl (fun f2=>?_) (fun f2=>?_))))
 try simp only [sQ,ne_eq] at f2
 refine Zc (xM (h:=xX 0 rfl Ztp rfl (ZcD _ _ _ _ _ oz hm _ hbm) (h:=?_)))
 rintro _ _ ⟨x74,rfl,hx74,rfl⟩
 refine xW Zf4 (h:=xS [_] 5 [_,_,_,_,_,_,_,_] sz9 (h:=Zx ?_))
 exact ZJ ⟨⟨j.1.kind,x74,j.1.owner,j.1.name,j.1.to_,j.1.text,j.1.a,j.1.b⟩,((j.2+1)+2)⟩ [0,1,2,3,4,5] ⟨ob,ob,ob,ob,ob,ob⟩ t6 rfl
 try simp only [sQ,ne_eq] at f2
 refine Za (ZF (h:=xA (h:=Zb rfl (fun f3=>?_) (fun f3=>?_))))
 try simp only [sQ,ne_eq] at f3
 refine Zc (xM (h:=xX 0 rfl Ztp rfl (ZcD _ _ _ _ _ oz hm _ hbm) (h:=?_)))
 rintro _ _ ⟨x75,rfl,hx75,rfl⟩
 refine xW Zi8 (h:=xS [_] 5 [_,_,_,_,_,_,_,_] sz9 (h:=Zx ?_))
 exact ZJ ⟨⟨j.1.kind,j.1.by_,j.1.owner,x75,j.1.to_,j.1.text,j.1.a,j.1.b⟩,((j.2+1)+2)⟩ [0,1,2,3,4,5] ⟨ob,ob,ob,ob,ob,ob⟩ t6 rfl
 try simp only [sQ,ne_eq] at f3
 refine ZK (Zx ?_)
 exact ZJ ⟨⟨j.1.kind,j.1.by_,j.1.owner,j.1.name,j.1.to_,j.1.text,j.1.a,j.1.b⟩,(j.2+1)⟩ [0,1,2,3,4,5] ⟨ob,ob,ob,ob,ob,ob⟩ t6 rfl
 obtain ⟨ho1,ho2,ho3,ho4,ho5,hop⟩:=hF
 refine ZN [(0,_),(1,_),(3,_),(4,_),(5,_),(6,_)] [_,_,_,_,_,_] t6 rfl (Za (xL [_,_,_,_,_,_,_,_] ZuT 5 (h:=xS [_,_,_,_,_,_,_,_] 2 [_,_,_,_,_,_,_,_] Zwp (h:=tL6 (Zd ?_)))))
 exact eN [0] rfl ⟨⟨_,rfl,.inr ⟨[_,_,_,_,_,_,_,_],ZuT,Z9 2 rfl rfl rfl,rfl⟩⟩,trivial⟩ ⟨o.1,o.2,rfl,oy,oy,oy,oy,oy,oz,rfl⟩

theorem ZdX (q:Option Addr) (cp:Nat) (x:DBox) (fl:Int) (t:Str) (ht:t.length≤2000000) (B:Kn) (hm:SlK B q cp 3 ZM x.mail):Zu (pj J) 151 [.agg #[.int .i64 x.next,.slice q x.mail.length cp],.int .i64 fl,str t] B [] (fun v B' Ls=>∃l a c,Ls=[l]∧v = .tuple #[.agg #[.int .i64 (ZQ x fl t).1.next,.slice a (ZQ x fl t).1.mail.length c],.bool (ZQ x fl t).2]∧ZZ B' l a c 89 3 ZM (ZQ x fl t).1.mail):=by
 refine cB 28 Tryz.func151 (h:=?_)
 have hxn:=hm.len
 refine Za (xBx [_,_] (h:=fun b1=>xAl [_,_] ZeS (h:=fun b2=>xA (h:=tL2 (Zf (Za (xL [_,_] Zbp 0 (h:=xR Zts rfl (Zgn _ _ (⟨x.next,x.mail⟩:DBox) _ hm) (h:=xN (h:=xM (h:=Zn (d:=11) rfl (fun g1=>?_) (fun g1=>?_))))))))))))
 try simp only [sQ,ne_eq] at g1
 have he:=Zfk (b:=x) (fl:=fl) (t:=t) (by simp [g1])
 refine xP (h:=xP (h:=xP (h:=xT (h:=xM (h:=xP (h:=xP (h:=xP (h:=xT (h:=Zb (t:=true) rfl (fun _=>Za (xB [] [_,_] [_,_] Znc ZeS (h:=xS [_,_] 1 [_,_] Zcx (h:=xA (h:=tL2 (Zd (Zo ?_))))))) (fun h=>Bool.noConfusion h))))))))))
 exact Zvp .ret (.inl rfl) [_,_] ⟨⟨_,rfl,.inr ⟨[_,_],Zbp,Z9 1 rfl rfl rfl,rfl⟩⟩,rfl,trivial⟩ ⟨_,none,0,rfl,by rw [he];rfl,by rw [he];exact ZZ.nil⟩
 try simp only [sQ,ne_eq] at g1
 refine xM (h:=xR ZwV rfl (Zfb _ _) (h:=xN (h:=xF (h:=xM (h:=Zn (d:=16) rfl (fun g2=>?_) (fun g2=>?_))))))
 try simp only [sQ,ne_eq] at g2
 have he:=Zfk (b:=x) (fl:=fl) (t:=t) (fun h=>by have:=h.2.1;simp only [Zae,g2] at this;cases this)
 refine xP (h:=xP (h:=xP (h:=xT (h:=Zb (t:=true) rfl (fun _=>Za (xB [] [_,_] [_,_] Znc ZeS (h:=xS [_,_] 1 [_,_] Zcx (h:=xA (h:=tL2 (Zd (Zo ?_))))))) (fun h=>Bool.noConfusion h)))))
 exact Zvp .ret (.inl rfl) [_,_] ⟨⟨_,rfl,.inr ⟨[_,_],Zbp,Z9 1 rfl rfl rfl,rfl⟩⟩,rfl,trivial⟩ ⟨_,none,0,rfl,by rw [he];rfl,by rw [he];exact ZZ.nil⟩
 try simp only [sQ,ne_eq] at g2
 refine xM (h:=xVs Tryz.underlying9 (h:=Zbw (h:=xF (h:=Zb rfl (fun g3=>?_) (fun g3=>?_)))))
 try simp only [sQ,ne_eq] at g3
 have he:=Zfk (b:=x) (fl:=fl) (t:=t) (by simp;omega)
 refine Za (xB [] [_,_] [_,_] Znc ZeS (h:=xS [_,_] 1 [_,_] Zcx (h:=xA (h:=tL2 (Zd (Zo ?_))))))
 exact Zvp .ret (.inl rfl) [_,_] ⟨⟨_,rfl,.inr ⟨[_,_],Zbp,Z9 1 rfl rfl rfl,rfl⟩⟩,rfl,trivial⟩ ⟨_,none,0,rfl,by rw [he];rfl,by rw [he];exact ZZ.nil⟩
 try simp only [sQ,ne_eq] at g3
 have hok:Zbf x=true:=by simpa using g1
 rw [Zlc ⟨hok,by simpa only [Zae,Bool.not_eq_false] using g2,oz⟩]
 refine wSk (Za (xL [_,_] Zbp 0 (h:=xM (h:=xM (h:=xC Zzf rfl (ZiK _ _ (⟨x.next,x.mail⟩:DBox) fl t oz (oy) _ hm) (h:=?_))))))
 rintro _ B5 _ hle5 ⟨l5,a5,c5,rfl,rfl,hs5⟩
 replace hs5:=hs5.anyK (B':=B5) ZM.any
 refine xE (h:=xE (h:=xS [_,_] 1 [_,_] Zcx (h:=xA (h:=tL3 (Zd ?_)))))
 exact Zav .ret (.inl rfl) [_,_] [2] rfl ⟨⟨_,rfl,.inr ⟨[_,_],Zbp,Z9 1 rfl rfl rfl,rfl⟩⟩,rfl,trivial⟩ ⟨_,_,_,rfl,rfl,hs5⟩

theorem ZsY (b:Nat) (q:Option Addr) (m cp p:Nat) (hp:p≤800000000000) (hm:m≤2000) (B:Kn) (hbm:Zak B q m):Zu (pj J) 107 [ptr ⟨b,0,none⟩] B [rd b q m cp p] (fun v B' Ls=>∃(q':Option Addr) (cp':Nat) (gs:List DGrant) (k:Nat),v = .slice q' gs.length cp'∧SlK B' q' cp' 2 ZU gs∧k≤p+60∧Ls=[rd b q m cp k]):=by
 refine cB 52 Tryz.func107 (h:=?_)
 refine Za (xA (h:=Za (xBs [] [] Tryz.underlying35 ZeV ZjA (h:=fun b1=>xA (h:=tL2 (Za (xM (h:=xX 0 rfl Za4 rfl (ZL _ _ _ _ _ _ oz oz oz hm _ hbm) (h:=?_)))))))))
 rintro _ _ ⟨rn,rfl,rna,rnb,rfl⟩
 refine xA (h:=tL2 (Zf (Za (xA (h:=Zl (ZO (α:=GAc) [0,2,4] (fun g=>[(3,.slice g.a g.xs.length g.c),(5,.int .i64 g.k)]) [0,1] (fun g=>[rd b q m cp g.p,g.l]) (fun g Bx=>g.k≤4∧g.p≤p+1+5*g.k∧g.xs.length≤4*g.k∧ZZ Bx g.l g.a g.c 93 2 ZU g.xs) (fun g=>4 - g.k) ⟨0,_,_,_,_,[]⟩ t2 rfl (⟨Nat.zero_le _,Nat.le_refl _,Nat.le_refl _,.lit0⟩) (fun g B3 hle3 hI=>?_)))))))
 obtain ⟨hk,hgp,hgl,hv⟩:=hI
 replace hbm:=hbm.mono hle3
 refine ZN [(0,_),(2,_),(3,_),(4,_),(5,_)] [_,_] t5 rfl (Zf (Za (xM (h:=xM (h:=Zaa (h:=Zb rfl (fun g1=>?_) (fun g1=>?_)))))))
 try simp only [sQ,ne_eq] at g1
 refine wSk (Zf (Zl (Za (xM (h:=xM (h:=xBs [(0,_),(1,_),(2,_),(3,_),(4,_)] [_,_,_,_,_] Tryz.underlying109 sz9 zo9 (h:=fun b4=>xK [0,2] rfl ZoB rfl (ZqK _ _ _ _ _ _ ([[97,109,121],[98,111,98],[99,121,100],[97,110,121,111,110,101],[100,97,110]]:List Str) oz (by decide) (by decide) hm _ hbm) (h:=?_))))))))
 rintro _ Bu _ hleu ⟨rfl,xu,hxu,rfl,rfl⟩
 replace hxu:=(show∀y∈( ([[97,109,121],[98,111,98],[99,121,100],[97,110,121,111,110,101],[100,97,110]]:List Str):List Str),y.length≤40 from by decide) _ hxu
 refine xM (h:=xX 0 rfl Za4 rfl (ZL _ _ _ _ _ _ oz oz oz hm _ hbm) (h:=?_))
 rintro _ _ ⟨re,rfl,rea,reb,rfl⟩
 refine Zp (Zlo (a:=re) (b:=8) rfl rfl rfl rfl (ZaR oz oz) ?_)
 have ht1:=Int.tmod_nonneg 63 (show 0≤re*8 by omega)
 have ht2:=Int.tmod_lt_of_pos (re*8) (show (0:Int)<63 by decide)
 refine Zp (Zgh (a:=(re*8)) (b:=63) (r:=Int.tmod (re*8) 63) rfl rfl rfl rfl (by decide) rfl ?_)
 refine xD (h:=xM (h:=xX 0 rfl Za4 rfl (ZL _ _ _ _ _ _ oz oz oz hm _ hbm) (h:=?_)))
 rintro _ _ ⟨rf,rfl,rfa,rfb,rfl⟩
 refine xD (h:=xK [1] rfl Zvy rfl (Zu.borrow fun hma=>Ze2 _ _ g.xs xu ((1+(Int.tmod (re*8) 63))+rf) om2 _ (hv.lend ZU.mono hma om)) (h:=?_))
 rintro _ Ba _ hlea ⟨BBa,_,rfl,hBa,_,hma,_,la,aa,ca,rfl,rfl,hsa⟩
 replace hv:=hv.mono ZU.mono hlea
 replace hbm:=hbm.mono hlea
 have hsan:=hsa.cap
 replace hsa:=hsa.anyK (B':=Ba) ZU.any
 refine xM (h:=xE (h:=xE (h:=xA (h:=xA (h:=tL4 (Za (xM (h:=Zb rfl (fun g2=>?_) (fun g2=>?_)))))))))
 try simp only [sQ,ne_eq] at g2
 refine Zc (xM (h:=xA (h:=Zx (Zj (Zc (xM (h:=xD (h:=xA (h:=?_)))))))))
 exact ZA ⟨g.k+1,(((g.p+1)+1)+1),la,aa,ca,((Zb6 g.xs xu ((1+(Int.tmod (re*8) 63))+rf)).1)⟩ [0,3] so2 ⟨so,so,by first | (simp only [];omega) | exact Nat.le_trans (Zfy _ _ _) (so),hsa⟩ t5 rfl
 try simp only [sQ,ne_eq] at g2
 refine ZK (Zx (Zj (Zc (xM (h:=xD (h:=xA (h:=?_)))))))
 exact ZA ⟨g.k+1,(((g.p+1)+1)+1),g.l,g.a,g.c,g.xs⟩ [0,1] so2 ⟨so,so,by first | (simp only [];omega) | exact Nat.le_trans (Zfy _ _ _) (so),hv⟩ t5 rfl
 try simp only [sQ,ne_eq] at g1
 refine ZT (Zab (ZW (ZG (Zj (Zf (Za (xM (h:=xX 0 rfl Za4 rfl (ZL _ _ _ _ _ _ oz oz oz hm _ hbm) (h:=?_)))))))))
 rintro _ _ ⟨rk2,rfl,rk2a,rk2b,rfl⟩
 refine tL2 (Zl (Za (ZF (h:=xA (h:=Zb rfl (fun g3=>?_) (fun g3=>?_))))))
 try simp only [sQ,ne_eq] at g3
 refine Zc (xM (h:=xM (h:=xX 0 rfl Ztp rfl (ZcD _ _ _ _ _ oz hm _ hbm) (h:=?_))))
 rintro _ _ ⟨xs,rfl,hxs,rfl⟩
 refine xM (h:=xX 0 rfl Za4 rfl (ZL _ _ _ _ _ _ oz oz oz hm _ hbm) (h:=?_))
 rintro _ _ ⟨ry,rfl,rya,ryb,rfl⟩
 refine xB [(0,_),(1,_)] [_,_] [_,_] ZxU ZjA (h:=xBs [(0,_)] [_,_] Tryz.underlying35 ZeV ZjA (h:=fun b12=>Zp (Zbc (z:=⟨xs,ry⟩) (R:=ZU) 1 rfl hv rfl rfl rfl ZrF Zqr rfl rfl (ZaN.box 2 rfl) rfl rfl (⟨rfl,by first | assumption | omega | (simp;done) | (simp;omega)⟩) om (fun l13 p13 c13 hv13=>?_))))
 refine xA (h:=Zx (Zj (Za (xM (h:=Z4 1 rfl hv13 ZU.mono om3 (fun B14 hle14 hr14=>?_))))))
 have hr14n:=hr14.len
 refine xA (h:=tL3 (Zd ?_))
 exact eN [0] rfl t1 ⟨_,_,_,_,rfl,hr14,oz,rfl⟩
 try simp only [sQ,ne_eq] at g3
 refine Za (ZF (h:=xA (h:=Zb rfl (fun g4=>?_) (fun g4=>?_))))
 try simp only [sQ,ne_eq] at g4
 refine Zc (xM (h:=xM (h:=Zp (Zwf (R:=ZU) 1 rfl hv rfl rfl rfl ZrF Zqr rfl rfl ZU.one om (fun l15 p15 c15 hv15=>?_)))))
 refine xA (h:=Zx (Zj (Za (xM (h:=Z4 1 rfl hv15 ZU.mono om3 (fun B16 hle16 hr16=>?_))))))
 have hr16n:=hr16.len
 refine xA (h:=tL2 (Zd ?_))
 exact eN [0] rfl t1 ⟨_,_,_,_,rfl,hr16,oz,rfl⟩
 try simp only [sQ,ne_eq] at g4
 refine ZK (Zx (Zj (Za (xM (h:=Z4 1 rfl hv ZU.mono om3 (fun B17 hle17 hr17=>?_))))))
 have hr17n:=hr17.len
 refine xA (h:=tL2 (Zd ?_))
 exact eN [0] rfl t1 ⟨_,_,_,_,rfl,hr17,oz,rfl⟩

end Go.Proofs.YtandoilaebgglaaGreatDoor
