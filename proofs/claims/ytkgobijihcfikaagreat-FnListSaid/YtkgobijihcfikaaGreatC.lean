/-
  WHAT THE FUNCTIONS THAT THE LAWS REACH COMPUTE: each function's contract, proved off its printed body (the text is written by program). No condition beyond those that each theorem states.
-/
import Derived.Test.YtkgobijihcfikaaGreatC3
namespace Go.Proofs.YtkgobijihcfikaaGreat
open Go Go.BL
set_option linter.unusedVariables false
set_option linter.unusedSimpArgs false
set_option maxRecDepth 4000
variable {J : JoinT}
set_option maxHeartbeats 1600000 in
theorem ZrX (b:Nat) (q:Option Addr) (m cp p:Nat) (hp:p≤800000000000) (hm:m≤2000) (B:Kn) (hbm:Zai B q m):ZN (pj J) 96 [ptr ⟨b,0,none⟩] B [rd b q m cp p] (fun v B' Ls=>∃(q':Option Addr) (cp':Nat) (x:DBox) (k:Nat),v = .agg #[.int .i64 x.next,.slice q' x.mail.length cp']∧SlK B' q' cp' 3 ZD x.mail∧k≤p+300∧Ls=[rd b q m cp k]):=by
 refine Ze 91 Tryz.func96 rfl rfl rfl (Nat.le_of_ble_eq_true rfl) ?_
 refine Za (xAl [_,_] ZeD (h:=fun b1=>Zw [_,_] rfl (Za (xM (h:=xX 0 rfl Za0 rfl (ZO _ _ _ _ _ _ oz oz oz hm _ hbm) (h:=?_))))))
 rintro _ _ ⟨rn0,rfl,rn0a,rn0b,rfl⟩
 refine xD (h:=xBs [] [] Tryz.underlying37 Zcv Zfy (h:=fun b3=>xB [(0,_),(1,_)] [_,_] [_,_] Zl2 ZeD (h:=xAl [_,_] ZeD (h:=fun b4=>xS [_,_] 3 [_,_] ZcI (h:=Zw [_,_,_,_] rfl (Za (xM (h:=xX 0 rfl Za0 rfl (ZO _ _ _ _ _ _ oz oz oz hm _ hbm) (h:=?_)))))))))
 rintro _ _ ⟨rb0,rfl,rb0a,rb0b,rfl⟩
 refine xA (h:=Zw [_,_,_,_] rfl (ZkM (α:=Int × Nat) [0,2,3] (fun g=>[(4,.int .i64 g.1)]) [0] (fun g=>[rd b q m cp g.2]) (fun g=>[]) (fun g Bx=>Bx=B∧0≤g.1∧g.1≤14∧g.2≤p+3) ?_ (fun g B6 hle6 hF=>?_)))
 refine Za (xM (h:=xX 0 rfl Za0 rfl (ZO _ _ _ _ _ _ oz oz oz hm _ hbm) (h:=?_)))
 rintro _ _ ⟨rc0,rfl,rc0a,rc0b,rfl⟩
 refine ZJ (h:=Zw [_,_,_,_] rfl (Zc rfl (fun g0=>?_) (fun g0=>?_)))
 try simp only [sQ,ne_eq] at g0
 refine Zd (xA (h:=?_))
 exact ZK ⟨14,(((p+1)+1)+1)⟩ [0,1,2,3] ⟨rfl,so,so,so⟩ t4 rfl
 try simp only [sQ,ne_eq] at g0
 refine Zh ?_
 exact ZK ⟨rb0,(((p+1)+1)+1)⟩ [0,1,2,3] ⟨rfl,so,so,so⟩ t4 rfl
 obtain ⟨rfl,hg0,hg1,hgp⟩:=hF
 refine ZP [(0,_),(2,_),(3,_),(4,_)] [_,_,_,_] t4 rfl (Zk (Za (xA (h:=Zo (ZR (α:=GBo) [0,2,3,4] (fun h=>[(5,.int .i64 h.k)]) [0,2,3] (fun h=>[rd b q m cp h.p,h.l,Zbm b4 [.int .i64 h.x.next,.slice h.a h.x.mail.length h.c] 39]) (fun h Bx=>h.k≤15∧h.p≤p+4+10*h.k∧0≤h.x.next∧h.x.next≤200∧h.x.mail.length≤20∧Z4 Bx h.l h.a h.c 110 3 ZD h.x.mail) (fun h=>15 - h.k) ⟨0,g.2,_,_,_,⟨1+rn0,[]⟩⟩ t1 rfl (⟨Nat.zero_le _,(so),(so),(so),Nat.zero_le _,.lit0⟩) (fun h B8 hle8 hI=>?_))))))
 obtain ⟨hk,hhp,hh0,hh1,hhl,hv⟩:=hI
 replace hbm:=hbm.mono hle8
 refine ZP [(0,_),(2,_),(3,_),(4,_),(5,_)] [_,_,_,_] t5 rfl (Zk (Za (xM (h:=xM (h:=Zae (h:=Zc rfl (fun g1=>?_) (fun g1=>?_)))))))
 try simp only [sQ,ne_eq] at g1
 refine Zh (Zf (Zk (Zo (Zk (Z7 (keeps _ [3] _) mo kr ⟨Kn.le.refl _,Zat.refl _ _⟩ (fun _ _=>?_))))))
 refine aT 0 rfl (ZG fun D B L hI=>Z8 [_,_] rfl rfl ZbD rfl (Zaj 3 (hI.2.1.trans rfl) rfl rfl) r4) (h:=aM 1 rfl (h:=aM 3 rfl (h:=Zao [2,9] kr kr kr ⟨?_,?_⟩)))
 refine (Zci 0 rfl rfl rfl Za0 rfl (ZO _ _ _ _ _ _ oz oz oz hm _ hbm) ?_)
 rintro _ _ ⟨rf,rfl,rfa,rfb,rfl⟩
 refine ⟨⟨Kn.le.refl _,t1⟩,(Zao [4,9] kr kr kr ⟨?_,?_⟩)⟩
 refine (Zci 0 rfl rfl rfl ZqI rfl (ZeW _ _ _ _ _ oz hm _ hbm) ?_)
 rintro _ _ ⟨xt,rfl,hxt,rfl⟩
 refine ⟨⟨Kn.le.refl _,t1⟩,(Zao [5,9] kr kr kr ⟨?_,?_⟩)⟩
 refine (Zab [2] rfl rfl rfl rfl Zso rfl (ZN.borrow fun hma=>ZdG _ _ (⟨h.x.next,h.x.mail⟩:DBox) rf xt om2 _ (hv.lend ZD.mono hma om)) ?_)
 rintro _ Ba _ hlea ⟨BBa,_,rfl,hBa,_,hma,_,la,aa,ca,rfl,rfl,hsa⟩
 replace hv:=hv.mono ZD.mono hlea
 replace hbm:=hbm.mono hlea
 replace hsa:=hsa.anyK (B':=Ba) ZD.any
 refine ⟨⟨hlea,t1⟩,?_⟩
 have hb1:=ZdL (⟨h.x.next,h.x.mail⟩:DBox) rf xt
 refine aM 6 rfl (h:=aE 7 rfl (h:=aE 8 rfl (h:=Zr 9 kr rfl kr (Zar (l:=[_,_]) rfl rfl ZeD rfl (fun b12=>?_)))))
 refine ⟨⟨hlea,t1⟩,(Zbu 10 kr rfl kr kr (ZQ [_,_] 5 [_,_] rfl rfl ZcI rfl rfl rfl rfl rfl rfl rfl rfl ?_))⟩
 refine aA 11 rfl (h:=ZC kr kr ?_)
 refine Zf (Zw [_,_,_,_,_,_] rfl (Zk (Za (xM (h:=Zc rfl (fun g2=>?_) (fun g2=>?_))))))
 try simp only [sQ,ne_eq] at g2
 refine Za (xL [_,_] ZbD 5 (h:=xS [_,_] 3 [_,_] ZcI (h:=Zw [_,_,_,_,_,_] rfl (Z7 (keeps _ [3] _) mo kr ⟨Kn.le.refl _,Zat.refl _ _⟩ (fun _ _=>?_)))))
 refine aW 0 rfl Zcf (h:=aT 1 rfl (ZG fun D B L hI=>Zl rfl rfl lk3 rfl (atL 3 (hI.2.1.trans rfl) rfl rfl) r4) (h:=aM 2 rfl (h:=Zr 3 kr rfl kr (Zci 0 rfl rfl rfl Za0 rfl (ZO _ _ _ _ _ _ oz oz oz hm _ hbm) ?_))))
 rintro _ _ ⟨rd,rfl,rda,rdb,rfl⟩
 refine ⟨⟨Kn.le.refl _,t1⟩,(aD 4 rfl (h:=aW 5 rfl Zcf (h:=Z0 6 kr rfl kr kr kr (ZQ [_] 3 [_,_] rfl rfl sz3 rfl rfl rfl rfl rfl rfl rfl rfl ?_))))⟩
 refine Zf (Za (xM (h:=xX 0 rfl Za0 rfl (ZO _ _ _ _ _ _ oz oz oz hm _ hbm) (h:=?_))))
 rintro _ _ ⟨re,rfl,rea,reb,rfl⟩
 refine ZJ (h:=Zw [_,_,_,_,_,_] rfl (Zc rfl (fun g3=>?_) (fun g3=>?_)))
 try simp only [sQ,ne_eq] at g3
 refine Zd (xL [_,_] ZbD 3 (h:=Zp (Zab [4] rfl rfl rfl rfl Zkx rfl (ZN.borrow fun hm15=>Zcx _ _ (⟨((ZT (⟨h.x.next,h.x.mail⟩:DBox) rf xt).1.next+rd),(ZT (⟨h.x.next,h.x.mail⟩:DBox) rf xt).1.mail⟩:DBox) _ (hsa.lend ZD.mono hm15 om)) ?_)))
 rintro _ B15 _ hle15 ⟨BB15,_,rfl,hB15,_,hm15,_,l15,a15,c15,l15b,a15b,c15b,rfl,rfl,hs15,hs15b⟩
 replace hv:=hv.mono ZD.mono hle15
 replace hsa:=hsa.mono ZD.mono hle15
 replace hbm:=hbm.mono hle15
 replace hs15:=hs15.anyK (B':=B15) ZD.any
 replace hs15b:=hs15b.anyK (B':=B15) ZbE.any
 refine xM (h:=xE (h:=xE (h:=xS [_,_] 3 [_,_] ZcI (h:=Zy (Zf (Zd (xM (h:=xD (h:=xA (h:=?_))))))))))
 exact ZA ⟨h.k+1,((((h.p+1)+2)+1)+1),l15,a15,c15,⟨((expunge (⟨((ZT (⟨h.x.next,h.x.mail⟩:DBox) rf xt).1.next+rd),(ZT (⟨h.x.next,h.x.mail⟩:DBox) rf xt).1.mail⟩:DBox)).1.next),((expunge (⟨((ZT (⟨h.x.next,h.x.mail⟩:DBox) rf xt).1.next+rd),(ZT (⟨h.x.next,h.x.mail⟩:DBox) rf xt).1.mail⟩:DBox)).1.mail)⟩⟩ [0,1,6,3] so2 ⟨so,so,by first | (simp only [];omega) | exact (ZH _).1,by first | (simp only [];omega) | exact Int.le_trans (ZH _).2.1 (by decide),by first | (simp only [];omega) | exact Nat.le_trans (ZH _).2.2 (by decide),hs15⟩ t5 rfl
 try simp only [sQ,ne_eq] at g3
 refine Zh (Zy (Zf (Zd (xM (h:=xD (h:=xA (h:=?_)))))))
 exact ZA ⟨h.k+1,((((h.p+1)+2)+1)+1),la,aa,ca,⟨((ZT (⟨h.x.next,h.x.mail⟩:DBox) rf xt).1.next+rd),((ZT (⟨h.x.next,h.x.mail⟩:DBox) rf xt).1.mail)⟩⟩ [0,1,4,3] so2 ⟨so,so,by first | (simp only [];omega) | exact (ZH _).1,by first | (simp only [];omega) | exact Int.le_trans (ZH _).2.1 (by decide),by first | (simp only [];omega) | exact Nat.le_trans (ZH _).2.2 (by decide),hsa⟩ t5 rfl
 try simp only [sQ,ne_eq] at g2
 refine Zh (Zf (Za (xM (h:=xX 0 rfl Za0 rfl (ZO _ _ _ _ _ _ oz oz oz hm _ hbm) (h:=?_)))))
 rintro _ _ ⟨re,rfl,rea,reb,rfl⟩
 refine ZJ (h:=Zw [_,_,_,_,_,_] rfl (Zc rfl (fun g3=>?_) (fun g3=>?_)))
 try simp only [sQ,ne_eq] at g3
 refine Zd (xL [_,_] ZbD 3 (h:=Zp (Zab [2] rfl rfl rfl rfl Zkx rfl (ZN.borrow fun hm17=>Zcx _ _ (⟨h.x.next,h.x.mail⟩:DBox) _ (hv.lend ZD.mono hm17 om)) ?_)))
 rintro _ B17 _ hle17 ⟨BB17,_,rfl,hB17,_,hm17,_,l17,a17,c17,l17b,a17b,c17b,rfl,rfl,hs17,hs17b⟩
 replace hv:=hv.mono ZD.mono hle17
 replace hsa:=hsa.mono ZD.mono hle17
 replace hbm:=hbm.mono hle17
 replace hs17:=hs17.anyK (B':=B17) ZD.any
 replace hs17b:=hs17b.anyK (B':=B17) ZbE.any
 refine xM (h:=xE (h:=xE (h:=xS [_,_] 3 [_,_] ZcI (h:=Zy (Zf (Zd (xM (h:=xD (h:=xA (h:=?_))))))))))
 exact ZA ⟨h.k+1,(((h.p+1)+2)+1),l17,a17,c17,⟨((expunge (⟨h.x.next,h.x.mail⟩:DBox)).1.next),((expunge (⟨h.x.next,h.x.mail⟩:DBox)).1.mail)⟩⟩ [0,1,6,3] so2 ⟨so,so,by first | (simp only [];omega) | exact (ZH _).1,by first | (simp only [];omega) | exact Int.le_trans (ZH _).2.1 (by decide),by first | (simp only [];omega) | exact Nat.le_trans (ZH _).2.2 (by decide),hs17⟩ t5 rfl
 try simp only [sQ,ne_eq] at g3
 refine Zh (Zy (Zf (Zd (xM (h:=xD (h:=xA (h:=?_)))))))
 exact ZA ⟨h.k+1,(((h.p+1)+2)+1),h.l,h.a,h.c,⟨h.x.next,h.x.mail⟩⟩ [0,1,2,3] so2 ⟨so,so,by first | (simp only [];omega) | exact (ZH _).1,by first | (simp only [];omega) | exact Int.le_trans (ZH _).2.1 (by decide),by first | (simp only [];omega) | exact Nat.le_trans (ZH _).2.2 (by decide),hv⟩ t5 rfl
 refine (Zar (l:=[_,_]) rfl rfl ZeD rfl (fun b18=>⟨⟨Kn.le.refl _,t1⟩,(Zr 5 kr rfl kr (Zab [2] rfl rfl rfl rfl Zso rfl (ZN.borrow fun hma=>ZdG _ _ (⟨h.x.next,h.x.mail⟩:DBox) rf xt om2 _ (hv.lend ZD.mono hma om)) ?_))⟩))
 rintro _ Ba _ hlea ⟨BBa,_,rfl,hBa,_,hma,_,la,aa,ca,rfl,rfl,hsa⟩
 replace hv:=hv.mono ZD.mono hlea
 replace hbm:=hbm.mono hlea
 replace hsa:=hsa.anyK (B':=Ba) ZD.any
 refine ⟨⟨hlea,t1⟩,?_⟩
 have hb1:=ZdL (⟨h.x.next,h.x.mail⟩:DBox) rf xt
 refine aM 6 rfl (h:=aE 7 rfl (h:=aE 8 rfl (h:=Zbu 10 kr rfl kr kr (ZQ [_,_] 4 [_,_] rfl rfl ZcI rfl rfl rfl rfl rfl rfl rfl rfl ?_))))
 refine aA 11 rfl (h:=ZC kr kr ?_)
 refine Zf (Zw [_,_,_,_,_,_] rfl (Zk (Za (xM (h:=Zc rfl (fun g2=>?_) (fun g2=>?_))))))
 try simp only [sQ,ne_eq] at g2
 refine Za (xL [_,_] ZbD 4 (h:=xS [_,_] 3 [_,_] ZcI (h:=Zw [_,_,_,_,_,_] rfl (Z7 (keeps _ [3] _) mo kr ⟨Kn.le.refl _,Zat.refl _ _⟩ (fun _ _=>?_)))))
 refine aW 0 rfl Zcf (h:=aT 1 rfl (ZG fun D B L hI=>Zl rfl rfl lk3 rfl (atL 3 (hI.2.1.trans rfl) rfl rfl) r4) (h:=aM 2 rfl (h:=Zr 3 kr rfl kr (Zci 0 rfl rfl rfl Za0 rfl (ZO _ _ _ _ _ _ oz oz oz hm _ hbm) ?_))))
 rintro _ _ ⟨rd,rfl,rda,rdb,rfl⟩
 refine ⟨⟨Kn.le.refl _,t1⟩,(aD 4 rfl (h:=aW 5 rfl Zcf (h:=Z0 6 kr rfl kr kr kr (ZQ [_] 3 [_,_] rfl rfl sz3 rfl rfl rfl rfl rfl rfl rfl rfl ?_))))⟩
 refine Zf (Za (xM (h:=xX 0 rfl Za0 rfl (ZO _ _ _ _ _ _ oz oz oz hm _ hbm) (h:=?_))))
 rintro _ _ ⟨re,rfl,rea,reb,rfl⟩
 refine ZJ (h:=Zw [_,_,_,_,_,_] rfl (Zc rfl (fun g3=>?_) (fun g3=>?_)))
 try simp only [sQ,ne_eq] at g3
 refine Zd (xL [_,_] ZbD 3 (h:=Zp (Zab [5] rfl rfl rfl rfl Zkx rfl (ZN.borrow fun hm22=>Zcx _ _ (⟨((ZT (⟨h.x.next,h.x.mail⟩:DBox) rf xt).1.next+rd),(ZT (⟨h.x.next,h.x.mail⟩:DBox) rf xt).1.mail⟩:DBox) _ (hsa.lend ZD.mono hm22 om)) ?_)))
 rintro _ B22 _ hle22 ⟨BB22,_,rfl,hB22,_,hm22,_,l22,a22,c22,l22b,a22b,c22b,rfl,rfl,hs22,hs22b⟩
 replace hv:=hv.mono ZD.mono hle22
 replace hsa:=hsa.mono ZD.mono hle22
 replace hbm:=hbm.mono hle22
 replace hs22:=hs22.anyK (B':=B22) ZD.any
 replace hs22b:=hs22b.anyK (B':=B22) ZbE.any
 refine xM (h:=xE (h:=xE (h:=xS [_,_] 3 [_,_] ZcI (h:=Zy (Zf (Zd (xM (h:=xD (h:=xA (h:=?_))))))))))
 exact ZA ⟨h.k+1,((((h.p+1)+2)+1)+1),l22,a22,c22,⟨((expunge (⟨((ZT (⟨h.x.next,h.x.mail⟩:DBox) rf xt).1.next+rd),(ZT (⟨h.x.next,h.x.mail⟩:DBox) rf xt).1.mail⟩:DBox)).1.next),((expunge (⟨((ZT (⟨h.x.next,h.x.mail⟩:DBox) rf xt).1.next+rd),(ZT (⟨h.x.next,h.x.mail⟩:DBox) rf xt).1.mail⟩:DBox)).1.mail)⟩⟩ [0,1,6,3] so2 ⟨so,so,by first | (simp only [];omega) | exact (ZH _).1,by first | (simp only [];omega) | exact Int.le_trans (ZH _).2.1 (by decide),by first | (simp only [];omega) | exact Nat.le_trans (ZH _).2.2 (by decide),hs22⟩ t5 rfl
 try simp only [sQ,ne_eq] at g3
 refine Zh (Zy (Zf (Zd (xM (h:=xD (h:=xA (h:=?_)))))))
 exact ZA ⟨h.k+1,((((h.p+1)+2)+1)+1),la,aa,ca,⟨((ZT (⟨h.x.next,h.x.mail⟩:DBox) rf xt).1.next+rd),((ZT (⟨h.x.next,h.x.mail⟩:DBox) rf xt).1.mail)⟩⟩ [0,1,5,3] so2 ⟨so,so,by first | (simp only [];omega) | exact (ZH _).1,by first | (simp only [];omega) | exact Int.le_trans (ZH _).2.1 (by decide),by first | (simp only [];omega) | exact Nat.le_trans (ZH _).2.2 (by decide),hsa⟩ t5 rfl
 try simp only [sQ,ne_eq] at g2
 refine Zh (Zf (Za (xM (h:=xX 0 rfl Za0 rfl (ZO _ _ _ _ _ _ oz oz oz hm _ hbm) (h:=?_)))))
 rintro _ _ ⟨re,rfl,rea,reb,rfl⟩
 refine ZJ (h:=Zw [_,_,_,_,_,_] rfl (Zc rfl (fun g3=>?_) (fun g3=>?_)))
 try simp only [sQ,ne_eq] at g3
 refine Zd (xL [_,_] ZbD 3 (h:=Zp (Zab [2] rfl rfl rfl rfl Zkx rfl (ZN.borrow fun hm24=>Zcx _ _ (⟨h.x.next,h.x.mail⟩:DBox) _ (hv.lend ZD.mono hm24 om)) ?_)))
 rintro _ B24 _ hle24 ⟨BB24,_,rfl,hB24,_,hm24,_,l24,a24,c24,l24b,a24b,c24b,rfl,rfl,hs24,hs24b⟩
 replace hv:=hv.mono ZD.mono hle24
 replace hsa:=hsa.mono ZD.mono hle24
 replace hbm:=hbm.mono hle24
 replace hs24:=hs24.anyK (B':=B24) ZD.any
 replace hs24b:=hs24b.anyK (B':=B24) ZbE.any
 refine xM (h:=xE (h:=xE (h:=xS [_,_] 3 [_,_] ZcI (h:=Zy (Zf (Zd (xM (h:=xD (h:=xA (h:=?_))))))))))
 exact ZA ⟨h.k+1,(((h.p+1)+2)+1),l24,a24,c24,⟨((expunge (⟨h.x.next,h.x.mail⟩:DBox)).1.next),((expunge (⟨h.x.next,h.x.mail⟩:DBox)).1.mail)⟩⟩ [0,1,6,3] so2 ⟨so,so,by first | (simp only [];omega) | exact (ZH _).1,by first | (simp only [];omega) | exact Int.le_trans (ZH _).2.1 (by decide),by first | (simp only [];omega) | exact Nat.le_trans (ZH _).2.2 (by decide),hs24⟩ t5 rfl
 try simp only [sQ,ne_eq] at g3
 refine Zh (Zy (Zf (Zd (xM (h:=xD (h:=xA (h:=?_)))))))
 exact ZA ⟨h.k+1,(((h.p+1)+2)+1),h.l,h.a,h.c,⟨h.x.next,h.x.mail⟩⟩ [0,1,2,3] so2 ⟨so,so,by first | (simp only [];omega) | exact (ZH _).1,by first | (simp only [];omega) | exact Int.le_trans (ZH _).2.1 (by decide),by first | (simp only [];omega) | exact Nat.le_trans (ZH _).2.2 (by decide),hv⟩ t5 rfl
 refine (Zar (l:=[_,_]) rfl rfl ZeD rfl (fun b25=>⟨⟨Kn.le.refl _,t1⟩,(Zr 4 kr rfl kr (Zci 0 rfl rfl rfl ZqI rfl (ZeW _ _ _ _ _ oz hm _ hbm) ?_))⟩))
 rintro _ _ ⟨xt,rfl,hxt,rfl⟩
 refine ⟨⟨Kn.le.refl _,t1⟩,(Zr 5 kr rfl kr (Zab [2] rfl rfl rfl rfl Zso rfl (ZN.borrow fun hma=>ZdG _ _ (⟨h.x.next,h.x.mail⟩:DBox) rf xt om2 _ (hv.lend ZD.mono hma om)) ?_))⟩
 rintro _ Ba _ hlea ⟨BBa,_,rfl,hBa,_,hma,_,la,aa,ca,rfl,rfl,hsa⟩
 replace hv:=hv.mono ZD.mono hlea
 replace hbm:=hbm.mono hlea
 replace hsa:=hsa.anyK (B':=Ba) ZD.any
 refine ⟨⟨hlea,t1⟩,?_⟩
 have hb1:=ZdL (⟨h.x.next,h.x.mail⟩:DBox) rf xt
 refine aM 6 rfl (h:=aE 7 rfl (h:=aE 8 rfl (h:=Zbu 10 kr rfl kr kr (ZQ [_,_] 4 [_,_] rfl rfl ZcI rfl rfl rfl rfl rfl rfl rfl rfl ?_))))
 refine aA 11 rfl (h:=ZC kr kr ?_)
 refine Zf (Zw [_,_,_,_,_,_] rfl (Zk (Za (xM (h:=Zc rfl (fun g2=>?_) (fun g2=>?_))))))
 try simp only [sQ,ne_eq] at g2
 refine Za (xL [_,_] ZbD 4 (h:=xS [_,_] 3 [_,_] ZcI (h:=Zw [_,_,_,_,_,_] rfl (Z7 (keeps _ [3] _) mo kr ⟨Kn.le.refl _,Zat.refl _ _⟩ (fun _ _=>?_)))))
 refine aW 0 rfl Zcf (h:=aT 1 rfl (ZG fun D B L hI=>Zl rfl rfl lk3 rfl (atL 3 (hI.2.1.trans rfl) rfl rfl) r4) (h:=aM 2 rfl (h:=Zr 3 kr rfl kr (Zci 0 rfl rfl rfl Za0 rfl (ZO _ _ _ _ _ _ oz oz oz hm _ hbm) ?_))))
 rintro _ _ ⟨rd,rfl,rda,rdb,rfl⟩
 refine ⟨⟨Kn.le.refl _,t1⟩,(aD 4 rfl (h:=aW 5 rfl Zcf (h:=Z0 6 kr rfl kr kr kr (ZQ [_] 3 [_,_] rfl rfl sz3 rfl rfl rfl rfl rfl rfl rfl rfl ?_))))⟩
 refine Zf (Za (xM (h:=xX 0 rfl Za0 rfl (ZO _ _ _ _ _ _ oz oz oz hm _ hbm) (h:=?_))))
 rintro _ _ ⟨re,rfl,rea,reb,rfl⟩
 refine ZJ (h:=Zw [_,_,_,_,_,_] rfl (Zc rfl (fun g3=>?_) (fun g3=>?_)))
 try simp only [sQ,ne_eq] at g3
 refine Zd (xL [_,_] ZbD 3 (h:=Zp (Zab [5] rfl rfl rfl rfl Zkx rfl (ZN.borrow fun hm30=>Zcx _ _ (⟨((ZT (⟨h.x.next,h.x.mail⟩:DBox) rf xt).1.next+rd),(ZT (⟨h.x.next,h.x.mail⟩:DBox) rf xt).1.mail⟩:DBox) _ (hsa.lend ZD.mono hm30 om)) ?_)))
 rintro _ B30 _ hle30 ⟨BB30,_,rfl,hB30,_,hm30,_,l30,a30,c30,l30b,a30b,c30b,rfl,rfl,hs30,hs30b⟩
 replace hv:=hv.mono ZD.mono hle30
 replace hsa:=hsa.mono ZD.mono hle30
 replace hbm:=hbm.mono hle30
 replace hs30:=hs30.anyK (B':=B30) ZD.any
 replace hs30b:=hs30b.anyK (B':=B30) ZbE.any
 refine xM (h:=xE (h:=xE (h:=xS [_,_] 3 [_,_] ZcI (h:=Zy (Zf (Zd (xM (h:=xD (h:=xA (h:=?_))))))))))
 exact ZA ⟨h.k+1,((((h.p+1)+2)+1)+1),l30,a30,c30,⟨((expunge (⟨((ZT (⟨h.x.next,h.x.mail⟩:DBox) rf xt).1.next+rd),(ZT (⟨h.x.next,h.x.mail⟩:DBox) rf xt).1.mail⟩:DBox)).1.next),((expunge (⟨((ZT (⟨h.x.next,h.x.mail⟩:DBox) rf xt).1.next+rd),(ZT (⟨h.x.next,h.x.mail⟩:DBox) rf xt).1.mail⟩:DBox)).1.mail)⟩⟩ [0,1,6,3] so2 ⟨so,so,by first | (simp only [];omega) | exact (ZH _).1,by first | (simp only [];omega) | exact Int.le_trans (ZH _).2.1 (by decide),by first | (simp only [];omega) | exact Nat.le_trans (ZH _).2.2 (by decide),hs30⟩ t5 rfl
 try simp only [sQ,ne_eq] at g3
 refine Zh (Zy (Zf (Zd (xM (h:=xD (h:=xA (h:=?_)))))))
 exact ZA ⟨h.k+1,((((h.p+1)+2)+1)+1),la,aa,ca,⟨((ZT (⟨h.x.next,h.x.mail⟩:DBox) rf xt).1.next+rd),((ZT (⟨h.x.next,h.x.mail⟩:DBox) rf xt).1.mail)⟩⟩ [0,1,5,3] so2 ⟨so,so,by first | (simp only [];omega) | exact (ZH _).1,by first | (simp only [];omega) | exact Int.le_trans (ZH _).2.1 (by decide),by first | (simp only [];omega) | exact Nat.le_trans (ZH _).2.2 (by decide),hsa⟩ t5 rfl
 try simp only [sQ,ne_eq] at g2
 refine Zh (Zf (Za (xM (h:=xX 0 rfl Za0 rfl (ZO _ _ _ _ _ _ oz oz oz hm _ hbm) (h:=?_)))))
 rintro _ _ ⟨re,rfl,rea,reb,rfl⟩
 refine ZJ (h:=Zw [_,_,_,_,_,_] rfl (Zc rfl (fun g3=>?_) (fun g3=>?_)))
 try simp only [sQ,ne_eq] at g3
 refine Zd (xL [_,_] ZbD 3 (h:=Zp (Zab [2] rfl rfl rfl rfl Zkx rfl (ZN.borrow fun hm32=>Zcx _ _ (⟨h.x.next,h.x.mail⟩:DBox) _ (hv.lend ZD.mono hm32 om)) ?_)))
 rintro _ B32 _ hle32 ⟨BB32,_,rfl,hB32,_,hm32,_,l32,a32,c32,l32b,a32b,c32b,rfl,rfl,hs32,hs32b⟩
 replace hv:=hv.mono ZD.mono hle32
 replace hsa:=hsa.mono ZD.mono hle32
 replace hbm:=hbm.mono hle32
 replace hs32:=hs32.anyK (B':=B32) ZD.any
 replace hs32b:=hs32b.anyK (B':=B32) ZbE.any
 refine xM (h:=xE (h:=xE (h:=xS [_,_] 3 [_,_] ZcI (h:=Zy (Zf (Zd (xM (h:=xD (h:=xA (h:=?_))))))))))
 exact ZA ⟨h.k+1,(((h.p+1)+2)+1),l32,a32,c32,⟨((expunge (⟨h.x.next,h.x.mail⟩:DBox)).1.next),((expunge (⟨h.x.next,h.x.mail⟩:DBox)).1.mail)⟩⟩ [0,1,6,3] so2 ⟨so,so,by first | (simp only [];omega) | exact (ZH _).1,by first | (simp only [];omega) | exact Int.le_trans (ZH _).2.1 (by decide),by first | (simp only [];omega) | exact Nat.le_trans (ZH _).2.2 (by decide),hs32⟩ t5 rfl
 try simp only [sQ,ne_eq] at g3
 refine Zh (Zy (Zf (Zd (xM (h:=xD (h:=xA (h:=?_)))))))
 exact ZA ⟨h.k+1,(((h.p+1)+2)+1),h.l,h.a,h.c,⟨h.x.next,h.x.mail⟩⟩ [0,1,2,3] so2 ⟨so,so,by first | (simp only [];omega) | exact (ZH _).1,by first | (simp only [];omega) | exact Int.le_trans (ZH _).2.1 (by decide),by first | (simp only [];omega) | exact Nat.le_trans (ZH _).2.2 (by decide),hv⟩ t5 rfl
 refine (Zar (l:=[_,_]) rfl rfl ZeD rfl (fun b33=>⟨⟨Kn.le.refl _,t1⟩,(Zr 2 kr rfl kr (Zci 0 rfl rfl rfl Za0 rfl (ZO _ _ _ _ _ _ oz oz oz hm _ hbm) ?_))⟩))
 rintro _ _ ⟨rf,rfl,rfa,rfb,rfl⟩
 refine ⟨⟨Kn.le.refl _,t1⟩,(Zr 4 kr rfl kr (Zci 0 rfl rfl rfl ZqI rfl (ZeW _ _ _ _ _ oz hm _ hbm) ?_))⟩
 rintro _ _ ⟨xt,rfl,hxt,rfl⟩
 refine ⟨⟨Kn.le.refl _,t1⟩,(Zr 5 kr rfl kr (Zab [2] rfl rfl rfl rfl Zso rfl (ZN.borrow fun hma=>ZdG _ _ (⟨h.x.next,h.x.mail⟩:DBox) rf xt om2 _ (hv.lend ZD.mono hma om)) ?_))⟩
 rintro _ Ba _ hlea ⟨BBa,_,rfl,hBa,_,hma,_,la,aa,ca,rfl,rfl,hsa⟩
 replace hv:=hv.mono ZD.mono hlea
 replace hbm:=hbm.mono hlea
 replace hsa:=hsa.anyK (B':=Ba) ZD.any
 refine ⟨⟨hlea,t1⟩,?_⟩
 have hb1:=ZdL (⟨h.x.next,h.x.mail⟩:DBox) rf xt
 refine aM 6 rfl (h:=aE 7 rfl (h:=aE 8 rfl (h:=Zbu 10 kr rfl kr kr (ZQ [_,_] 4 [_,_] rfl rfl ZcI rfl rfl rfl rfl rfl rfl rfl rfl ?_))))
 refine aA 11 rfl (h:=ZC kr kr ?_)
 refine Zf (Zw [_,_,_,_,_,_] rfl (Zk (Za (xM (h:=Zc rfl (fun g2=>?_) (fun g2=>?_))))))
 try simp only [sQ,ne_eq] at g2
 refine Za (xL [_,_] ZbD 4 (h:=xS [_,_] 3 [_,_] ZcI (h:=Zw [_,_,_,_,_,_] rfl (Z7 (keeps _ [3] _) mo kr ⟨Kn.le.refl _,Zat.refl _ _⟩ (fun _ _=>?_)))))
 refine aW 0 rfl Zcf (h:=aT 1 rfl (ZG fun D B L hI=>Zl rfl rfl lk3 rfl (atL 3 (hI.2.1.trans rfl) rfl rfl) r4) (h:=aM 2 rfl (h:=Zr 3 kr rfl kr (Zci 0 rfl rfl rfl Za0 rfl (ZO _ _ _ _ _ _ oz oz oz hm _ hbm) ?_))))
 rintro _ _ ⟨rd,rfl,rda,rdb,rfl⟩
 refine ⟨⟨Kn.le.refl _,t1⟩,(aD 4 rfl (h:=aW 5 rfl Zcf (h:=Z0 6 kr rfl kr kr kr (ZQ [_] 3 [_,_] rfl rfl sz3 rfl rfl rfl rfl rfl rfl rfl rfl ?_))))⟩
 refine Zf (Za (xM (h:=xX 0 rfl Za0 rfl (ZO _ _ _ _ _ _ oz oz oz hm _ hbm) (h:=?_))))
 rintro _ _ ⟨re,rfl,rea,reb,rfl⟩
 refine ZJ (h:=Zw [_,_,_,_,_,_] rfl (Zc rfl (fun g3=>?_) (fun g3=>?_)))
 try simp only [sQ,ne_eq] at g3
 refine Zd (xL [_,_] ZbD 3 (h:=Zp (Zab [5] rfl rfl rfl rfl Zkx rfl (ZN.borrow fun hm39=>Zcx _ _ (⟨((ZT (⟨h.x.next,h.x.mail⟩:DBox) rf xt).1.next+rd),(ZT (⟨h.x.next,h.x.mail⟩:DBox) rf xt).1.mail⟩:DBox) _ (hsa.lend ZD.mono hm39 om)) ?_)))
 rintro _ B39 _ hle39 ⟨BB39,_,rfl,hB39,_,hm39,_,l39,a39,c39,l39b,a39b,c39b,rfl,rfl,hs39,hs39b⟩
 replace hv:=hv.mono ZD.mono hle39
 replace hsa:=hsa.mono ZD.mono hle39
 replace hbm:=hbm.mono hle39
 replace hs39:=hs39.anyK (B':=B39) ZD.any
 replace hs39b:=hs39b.anyK (B':=B39) ZbE.any
 refine xM (h:=xE (h:=xE (h:=xS [_,_] 3 [_,_] ZcI (h:=Zy (Zf (Zd (xM (h:=xD (h:=xA (h:=?_))))))))))
 exact ZA ⟨h.k+1,((((h.p+1)+2)+1)+1),l39,a39,c39,⟨((expunge (⟨((ZT (⟨h.x.next,h.x.mail⟩:DBox) rf xt).1.next+rd),(ZT (⟨h.x.next,h.x.mail⟩:DBox) rf xt).1.mail⟩:DBox)).1.next),((expunge (⟨((ZT (⟨h.x.next,h.x.mail⟩:DBox) rf xt).1.next+rd),(ZT (⟨h.x.next,h.x.mail⟩:DBox) rf xt).1.mail⟩:DBox)).1.mail)⟩⟩ [0,1,6,3] so2 ⟨so,so,by first | (simp only [];omega) | exact (ZH _).1,by first | (simp only [];omega) | exact Int.le_trans (ZH _).2.1 (by decide),by first | (simp only [];omega) | exact Nat.le_trans (ZH _).2.2 (by decide),hs39⟩ t5 rfl
 try simp only [sQ,ne_eq] at g3
 refine Zh (Zy (Zf (Zd (xM (h:=xD (h:=xA (h:=?_)))))))
 exact ZA ⟨h.k+1,((((h.p+1)+2)+1)+1),la,aa,ca,⟨((ZT (⟨h.x.next,h.x.mail⟩:DBox) rf xt).1.next+rd),((ZT (⟨h.x.next,h.x.mail⟩:DBox) rf xt).1.mail)⟩⟩ [0,1,5,3] so2 ⟨so,so,by first | (simp only [];omega) | exact (ZH _).1,by first | (simp only [];omega) | exact Int.le_trans (ZH _).2.1 (by decide),by first | (simp only [];omega) | exact Nat.le_trans (ZH _).2.2 (by decide),hsa⟩ t5 rfl
 try simp only [sQ,ne_eq] at g2
 refine Zh (Zf (Za (xM (h:=xX 0 rfl Za0 rfl (ZO _ _ _ _ _ _ oz oz oz hm _ hbm) (h:=?_)))))
 rintro _ _ ⟨re,rfl,rea,reb,rfl⟩
 refine ZJ (h:=Zw [_,_,_,_,_,_] rfl (Zc rfl (fun g3=>?_) (fun g3=>?_)))
 try simp only [sQ,ne_eq] at g3
 refine Zd (xL [_,_] ZbD 3 (h:=Zp (Zab [2] rfl rfl rfl rfl Zkx rfl (ZN.borrow fun hm41=>Zcx _ _ (⟨h.x.next,h.x.mail⟩:DBox) _ (hv.lend ZD.mono hm41 om)) ?_)))
 rintro _ B41 _ hle41 ⟨BB41,_,rfl,hB41,_,hm41,_,l41,a41,c41,l41b,a41b,c41b,rfl,rfl,hs41,hs41b⟩
 replace hv:=hv.mono ZD.mono hle41
 replace hsa:=hsa.mono ZD.mono hle41
 replace hbm:=hbm.mono hle41
 replace hs41:=hs41.anyK (B':=B41) ZD.any
 replace hs41b:=hs41b.anyK (B':=B41) ZbE.any
 refine xM (h:=xE (h:=xE (h:=xS [_,_] 3 [_,_] ZcI (h:=Zy (Zf (Zd (xM (h:=xD (h:=xA (h:=?_))))))))))
 exact ZA ⟨h.k+1,(((h.p+1)+2)+1),l41,a41,c41,⟨((expunge (⟨h.x.next,h.x.mail⟩:DBox)).1.next),((expunge (⟨h.x.next,h.x.mail⟩:DBox)).1.mail)⟩⟩ [0,1,6,3] so2 ⟨so,so,by first | (simp only [];omega) | exact (ZH _).1,by first | (simp only [];omega) | exact Int.le_trans (ZH _).2.1 (by decide),by first | (simp only [];omega) | exact Nat.le_trans (ZH _).2.2 (by decide),hs41⟩ t5 rfl
 try simp only [sQ,ne_eq] at g3
 refine Zh (Zy (Zf (Zd (xM (h:=xD (h:=xA (h:=?_)))))))
 exact ZA ⟨h.k+1,(((h.p+1)+2)+1),h.l,h.a,h.c,⟨h.x.next,h.x.mail⟩⟩ [0,1,2,3] so2 ⟨so,so,by first | (simp only [];omega) | exact (ZH _).1,by first | (simp only [];omega) | exact Int.le_trans (ZH _).2.1 (by decide),by first | (simp only [];omega) | exact Nat.le_trans (ZH _).2.2 (by decide),hv⟩ t5 rfl
 try simp only [sQ,ne_eq] at g1
 refine ZU (Zad (ZV (ZF (Zf (Zk (Za (xM (h:=xX 0 rfl Za0 rfl (ZO _ _ _ _ _ _ oz oz oz hm _ hbm) (h:=?_)))))))))
 rintro _ _ ⟨rz0,rfl,rz0a,rz0b,rfl⟩
 refine Zw [_,_,_,_] rfl (Zo (Za (ZJ (h:=xA (h:=Zc rfl (fun g4=>?_) (fun g4=>?_))))))
 try simp only [sQ,ne_eq] at g4
 refine Zd (xBs [(0,_),(1,_),(2,_),(3,_)] [_,_,_,_] Tryz.underlying147 sz3 zo3 (h:=fun b43=>xM (h:=xX 0 rfl Za0 rfl (ZO _ _ _ _ _ _ oz oz oz hm _ hbm) (h:=?_))))
 rintro _ _ ⟨rz1,rfl,rz1a,rz1b,rfl⟩
 have hvq45:Z4 B8 (Zbm b43 (([0,99,100,101]:List Int).map fun x=>.int .i64 x) 3) (some ⟨b43,0,none⟩) 4 3 1 ZbE ([0,99,100,101]:List Int):=Z4.ints
 obtain ⟨e,he⟩:=Zex (xs:=([0,99,100,101]:List Int)) (i:=rz1) om om
 obtain ⟨bb47,_,hp47,rfl,hw47,hc47⟩:=hvq45.row he
 refine xIp hp47 Tryz.underlying147 sz3 (h:=Zp (Zl rfl rfl lk3 rfl (hc47 _ 4 rfl 0 _ rfl) (xW Zcf (h:=xS [_] 3 [_,_] sz3 (h:=Zy (Zf (Za (xL [_,_] ZbD 3 (h:=ZY 2 rfl hv ZD.mono om3 (fun B48 hle48 hr48=>?_))))))))))
 replace hvq45:=hvq45.mono ZbE.mono hle48
 replace hbm:=hbm.mono hle48
 have hr48n:=hr48.len
 refine xS [_,_] 1 [_,_] ZcI (h:=Zw [_,_,_,_,_] rfl (Zi ?_))
 exact Zag .ret (.inl rfl) [_] [0] rfl ⟨⟨_,rfl,.inr ⟨[_,_],ZbD,Zaj 1 rfl rfl rfl,rfl⟩⟩,trivial⟩ ⟨_,_,⟨e,h.x.mail⟩,_,(ol),hr48,oz,rfl⟩
 try simp only [sQ,ne_eq] at g4
 refine Za (ZJ (h:=xA (h:=Zc rfl (fun g5=>?_) (fun g5=>?_))))
 try simp only [sQ,ne_eq] at g5
 refine Za (xW ZaL (h:=x1 Zfo 3 (h:=xV Tryz.underlying37 (h:=Zbx (h:=Zc rfl (fun g6=>?_) (fun g6=>?_))))))
 try simp only [sQ,ne_eq] at g6
 refine Z7 (keeps _ [2,3] _) mo kr ⟨Kn.le.refl _,Zat.refl _ _⟩ (fun _ _=>?_)
 refine aW 0 rfl ZaL (h:=aT 1 rfl (ZG fun D B L hI=>Zl rfl rfl Zfo rfl (atL 3 (hI.2.2.1.trans rfl) rfl rfl) r4) (h:=aM 2 rfl (h:=aW 3 rfl ZaL (h:=aT 4 rfl (ZG fun D B L hI=>Zl rfl rfl Zfo rfl (atL 3 (hI.2.2.1.trans rfl) rfl rfl) r4) (h:=aV 5 rfl Tryz.underlying37 (h:=aM 7 rfl (h:=Zr 6 kr rfl kr (Zci 0 rfl rfl rfl Za0 rfl (ZO _ _ _ _ _ _ oz oz oz hm _ hbm) ?_))))))))
 rintro _ _ ⟨rz1,rfl,rz1a,rz1b,rfl⟩
 refine ⟨⟨Kn.le.refl _,t2⟩,(Zr 8 kr rfl kr (Zci 0 rfl rfl rfl Za0 rfl (ZO _ _ _ _ _ _ oz oz oz hm _ hbm) ?_))⟩
 rintro _ _ ⟨rz2,rfl,rz2a,rz2b,rfl⟩
 refine ⟨⟨Kn.le.refl _,t2⟩,?_⟩
 obtain ⟨z,hz⟩:=Zex (xs:=h.x.mail) (i:=rz1) om om
 obtain ⟨bb52,_,hp52,⟨rfl,hb52⟩,hw52,hc52⟩:=hv.row hz
 refine aT 9 rfl (ZG fun D B L hI=>Zf4 hp52 rfl rfl Tryz.underlying37 Zcv rfl rfl om om r4) (h:=?_)
 refine aW 10 rfl Ze4 (h:=Z0 11 kr rfl kr kr kr (Zee (k:=(rz1).toNat) (off:=0) (⟨rz2,z.flags,z.text⟩) [_] 2 hv hp52 hz rfl rfl sz3 rfl rfl rfl rfl rfl rfl (by rintro _ ⟨rfl,e1⟩;exact ⟨rfl,e1⟩) (fun l53 hv53=>?_)))
 refine Zy (Zf (Za (xL [_,_] ZbD 3 (h:=ZY 2 rfl hv53 ZD.mono om3 (fun B54 hle54 hr54=>?_)))))
 replace hbm:=hbm.mono hle54
 have hr54n:=hr54.len
 refine xS [_,_] 1 [_,_] ZcI (h:=Zw [_,_,_,_] rfl (Zi ?_))
 exact Zag .ret (.inl rfl) [_] [0] rfl ⟨⟨_,rfl,.inr ⟨[_,_],ZbD,Zaj 1 rfl rfl rfl,rfl⟩⟩,trivial⟩ ⟨_,_,⟨h.x.next,(h.x.mail.set ((rz1).toNat) (⟨rz2,z.flags,z.text⟩))⟩,_,(ol),hr54,oz,rfl⟩
 try simp only [sQ,ne_eq] at g6
 refine Zh (Zy (Zf (Za (xL [_,_] ZbD 3 (h:=ZY 2 rfl hv ZD.mono om3 (fun B55 hle55 hr55=>?_))))))
 replace hbm:=hbm.mono hle55
 have hr55n:=hr55.len
 refine xS [_,_] 1 [_,_] ZcI (h:=Zw [_,_,_,_] rfl (Zi ?_))
 exact Zag .ret (.inl rfl) [_] [0] rfl ⟨⟨_,rfl,.inr ⟨[_,_],ZbD,Zaj 1 rfl rfl rfl,rfl⟩⟩,trivial⟩ ⟨_,_,⟨h.x.next,h.x.mail⟩,_,(ol),hr55,oz,rfl⟩
 try simp only [sQ,ne_eq] at g5
 refine Za (ZJ (h:=xA (h:=Zc rfl (fun g7=>?_) (fun g7=>?_))))
 try simp only [sQ,ne_eq] at g7
 refine Za (xW ZaL (h:=x1 Zfo 3 (h:=xV Tryz.underlying37 (h:=Zbx (h:=Zc rfl (fun g8=>?_) (fun g8=>?_))))))
 try simp only [sQ,ne_eq] at g8
 refine Z7 (keeps _ [2,3] _) mo kr ⟨Kn.le.refl _,Zat.refl _ _⟩ (fun _ _=>?_)
 refine aW 0 rfl ZaL (h:=aT 1 rfl (ZG fun D B L hI=>Zl rfl rfl Zfo rfl (atL 3 (hI.2.2.1.trans rfl) rfl rfl) r4) (h:=aM 2 rfl (h:=aW 3 rfl ZaL (h:=aT 4 rfl (ZG fun D B L hI=>Zl rfl rfl Zfo rfl (atL 3 (hI.2.2.1.trans rfl) rfl rfl) r4) (h:=aV 5 rfl Tryz.underlying37 (h:=Zr 6 kr rfl kr (Zci 0 rfl rfl rfl Za0 rfl (ZO _ _ _ _ _ _ oz oz oz hm _ hbm) ?_)))))))
 rintro _ _ ⟨rz1,rfl,rz1a,rz1b,rfl⟩
 refine ⟨⟨Kn.le.refl _,t2⟩,?_⟩
 obtain ⟨z,hz⟩:=Zex (xs:=h.x.mail) (i:=rz1) om om
 obtain ⟨bb58,_,hp58,⟨rfl,hb58⟩,hw58,hc58⟩:=hv.row hz
 refine aT 7 rfl (ZG fun D B L hI=>Zf4 hp58 rfl rfl Tryz.underlying37 Zcv rfl rfl om om r4) (h:=?_)
 refine aW 8 rfl ZfT (h:=Z0 9 kr rfl kr kr kr (Zee (k:=(rz1).toNat) (off:=1) (⟨z.uid,32,z.text⟩) [_] 2 hv hp58 hz rfl rfl sz3 rfl rfl rfl rfl rfl rfl (by rintro _ ⟨rfl,e1⟩;exact ⟨rfl,e1⟩) (fun l59 hv59=>?_)))
 refine Zy (Zf (Za (xL [_,_] ZbD 3 (h:=ZY 2 rfl hv59 ZD.mono om3 (fun B60 hle60 hr60=>?_)))))
 replace hbm:=hbm.mono hle60
 have hr60n:=hr60.len
 refine xS [_,_] 1 [_,_] ZcI (h:=Zw [_,_,_,_] rfl (Zi ?_))
 exact Zag .ret (.inl rfl) [_] [0] rfl ⟨⟨_,rfl,.inr ⟨[_,_],ZbD,Zaj 1 rfl rfl rfl,rfl⟩⟩,trivial⟩ ⟨_,_,⟨h.x.next,(h.x.mail.set ((rz1).toNat) (⟨z.uid,32,z.text⟩))⟩,_,(ol),hr60,oz,rfl⟩
 try simp only [sQ,ne_eq] at g8
 refine Zh (Zy (Zf (Za (xL [_,_] ZbD 3 (h:=ZY 2 rfl hv ZD.mono om3 (fun B61 hle61 hr61=>?_))))))
 replace hbm:=hbm.mono hle61
 have hr61n:=hr61.len
 refine xS [_,_] 1 [_,_] ZcI (h:=Zw [_,_,_,_] rfl (Zi ?_))
 exact Zag .ret (.inl rfl) [_] [0] rfl ⟨⟨_,rfl,.inr ⟨[_,_],ZbD,Zaj 1 rfl rfl rfl,rfl⟩⟩,trivial⟩ ⟨_,_,⟨h.x.next,h.x.mail⟩,_,(ol),hr61,oz,rfl⟩
 try simp only [sQ,ne_eq] at g7
 refine Zh (Zy (Zf (Za (xL [_,_] ZbD 3 (h:=ZY 2 rfl hv ZD.mono om3 (fun B62 hle62 hr62=>?_))))))
 replace hbm:=hbm.mono hle62
 have hr62n:=hr62.len
 refine xS [_,_] 1 [_,_] ZcI (h:=Zw [_,_,_,_] rfl (Zi ?_))
 exact Zag .ret (.inl rfl) [_] [0] rfl ⟨⟨_,rfl,.inr ⟨[_,_],ZbD,Zaj 1 rfl rfl rfl,rfl⟩⟩,trivial⟩ ⟨_,_,⟨h.x.next,h.x.mail⟩,_,(ol),hr62,oz,rfl⟩

set_option maxHeartbeats 800000 in
theorem Zlr (b:Nat) (q:Option Addr) (m cp p:Nat) (hp:p≤700000000000) (hm:m≤2000) (B:Kn) (hbm:Zai B q m):ZN (pj J) 66 [ptr ⟨b,0,none⟩] B [rd b q m cp p] (fun v B' Ls=>∃(x:DHost) (p1 p2 p3:Option Addr) (d1 d2 d3 k:Nat),v = .agg #[str x.domain,.slice p1 x.users.length d1,.slice p2 x.folders.length d2,.int .i64 x.queue.next,.slice p3 x.queue.items.length d3]∧SlK B' p1 d1 3 Zg x.users∧SlK B' p2 d2 5 Zb x.folders∧SlK B' p3 d3 4 Zj x.queue.items∧x.domain.length≤2000000∧Zz x=true∧k≤p+6000∧Ls=[rd b q m cp k]):=by
 refine Ze 37 Tryz.func66 rfl rfl rfl (Nat.le_of_ble_eq_true rfl) ?_
 refine Za (xAl [_,_,_,_,_] Za2 (h:=fun b1=>Zw [_,_] rfl (Za (xB [(0,_),(1,_),(2,_)] [_,_,_] [_,_,_] ZrG Zgw (h:=xM (h:=xX 0 rfl Za0 rfl (ZO _ _ _ _ _ _ oz oz oz hm _ hbm) (h:=?_)))))))
 rintro _ _ ⟨ra,rfl,raa,rab,rfl⟩
 refine xD (h:=xB [(0,_),(1,_),(2,_)] [_,_,_] [_,_,_] ZrG Zgw (h:=xM (h:=xX 0 rfl Za0 rfl (ZO _ _ _ _ _ _ oz oz oz hm _ hbm) (h:=?_))))
 rintro _ _ ⟨rb,rfl,rba,rbb,rfl⟩
 refine xD (h:=xB [(0,_),(1,_),(2,_)] [_,_,_] [_,_,_] ZrG Zgw (h:=xBs [(0,_),(1,_),(2,_)] [_,_,_,_,_,_,_,_,_] Tryz.underlying23 ZeJ Zgw (h:=fun b4=>?_)))
 have hdl:(Zfu ra rb).length=3:=rfl
 have hvq:Z4 B (Zbm b4 [str [97,109,121],str [97,49],int 60,str [98,111,98],str [98,50],int (20+ra),str [99,121,100],str [99,51],int (100+rb)] 65) (some ⟨b4,0,none⟩) 3 65 3 Zg (Zfu ra rb):=Z4.lit (rows:=[[str [97,109,121],str [97,49],int 60],[str [98,111,98],str [98,50],int (20+ra)],[str [99,121,100],str [99,51],int (100+rb)]]) (.cons ⟨rfl,by simp,by simp⟩ (.cons ⟨rfl,by simp,by simp⟩ (.cons ⟨rfl,by simp,by simp⟩ .nil))) (by intro row hr;simp only [List.mem_cons,List.not_mem_nil,or_false] at hr;rcases hr with rfl | rfl | rfl <;> rfl)
 have hdu:=ZqM (a:=ra) (b:=rb) oz oz oz oz
 refine ZY 2 rfl hvq Zg.mono om3 (fun B5 hle5 hr5=>?_)
 replace hbm:=hbm.mono hle5
 have hr5n:=hr5.len
 refine Zp (Zac rfl rfl Zxv rfl (ZpB _ _ [104,111,115,116,46,111,114,103] (Zfu ra rb) om2 om2 _ hr5) ?_)
 intro vh Bh hleh
 rintro ⟨q1h,c1h,q2h,c2h,q3h,c3h,rfl,huh,hfh,hih⟩
 replace hr5:=hr5.mono Zg.mono hleh
 replace hbm:=hbm.mono hleh
 have huhn:=huh.len
 have hfhn:=hfh.len
 have hihn:=hih.len
 refine xM (h:=xE (h:=xE (h:=xAl [_,_,_,_,_] Za2 (h:=fun b7=>xS [_,_,_,_,_] 3 [_,_,_,_,_] Zay (h:=xA (h:=Zw [_,_,_,_] rfl (Za (xM (h:=xX 0 rfl Za0 rfl (ZO _ _ _ _ _ _ oz oz oz hm _ hbm) (h:=?_))))))))))
 rintro _ _ ⟨rn,rfl,rna,rnb,rfl⟩
 refine xA (h:=Zw [_,_,_,_] rfl (Zk (Za (xA (h:=Zo (ZR (α:=GHo) [0,2,3,5] (fun g=>[(6,.int .i64 g.k)]) [0,3] (fun g=>[rd b q m cp g.p,Zbm b7 [str g.x.domain,.slice g.q1 g.x.users.length g.c1,.slice g.q2 g.x.folders.length g.c2,.int .i64 g.x.queue.next,.slice g.q3 g.x.queue.items.length g.c3] 29]) (fun g Bx=>g.k≤40∧g.p≤p+4+60*g.k∧Zz g.x=true∧g.x.domain.length≤2000000∧SlK Bx g.q1 g.c1 3 Zg g.x.users∧SlK Bx g.q2 g.c2 5 Zb g.x.folders∧SlK Bx g.q3 g.c3 4 Zj g.x.queue.items) (fun g=>40 - g.k) ⟨0,_,(Zck [104,111,115,116,46,111,114,103] (Zfu ra rb)).1,_,_,_,_,_,_⟩ t1 rfl (⟨Nat.zero_le _,(so),(by rw [hdu.1];exact hdu.2),(by rw [hdu.1];exact (by decide:(8:Nat)≤2000000)),huh,hfh,hih⟩) (fun g B9 hle9 hI=>?_)))))))
 obtain ⟨hk,hgp,hgo,hgd,hgu,hgf,hgi⟩:=hI
 have hgin:=hgi.len
 have hleft:=ZmH hgo
 replace hbm:=hbm.mono hle9
 refine ZP [(0,_),(2,_),(3,_),(5,_),(6,_)] [_,_,_,_] t5 rfl (Zk (Za (xM (h:=xM (h:=Zae (h:=Zc rfl (fun g1=>?_) (fun g1=>?_)))))))
 try simp only [sQ,ne_eq] at g1
 refine Zh (Zf (Zk (Zo (Z7 (keeps _ [3] _) mo kr ⟨Kn.le.refl _,Zat.refl _ _⟩ (fun _ _=>?_)))))
 refine aT 0 rfl (ZG fun D B L hI=>Z8 [_,_,_,_,_] rfl rfl Z3 rfl (Zaj 3 (hI.2.1.trans rfl) rfl rfl) r4) (h:=aM 1 rfl (h:=aT 2 rfl (ZG fun D B L hI=>Z8 [_,_,_,_,_] rfl rfl Z3 rfl (Zaj 3 (hI.2.1.trans rfl) rfl rfl) r4) (h:=Zr 3 kr rfl kr (Zab [0] rfl rfl rfl rfl Zw1 rfl (Zov _ _ _ _ _ oz hm _ _ _ _ _ _ g.x (oy) _ hbm hgi) ?_))))
 rintro _ Be _ hlee ⟨ee,ke,rfl,hee1,hee2,hee3,hee4,hee5,hke,rfl⟩
 replace hgu:=hgu.mono Zg.mono hlee
 replace hgf:=hgf.mono Zb.mono hlee
 replace hgi:=hgi.mono Zj.mono hlee
 replace hbm:=hbm.mono hlee
 refine ⟨⟨hlee,t1⟩,(Zr 4 kr rfl kr (Zac rfl rfl Zxu rfl (Zrv _ _ _ _ _ _ g.x ee om2 om2 om2 om2 om2 om2 _ hgu hgf hgi) ?_))⟩
 intro vy By hley
 rintro ⟨p1y,d1y,p2y,d2y,p3y,d3y,rfl,huy,hfy,hiy,hdy⟩
 replace hgu:=hgu.mono Zg.mono hley
 replace hgf:=hgf.mono Zb.mono hley
 replace hgi:=hgi.mono Zj.mono hley
 replace hbm:=hbm.mono hley
 have huyn:=huy.len
 have hfyn:=hfy.len
 have hiyn:=hiy.len
 refine ⟨⟨(hlee.trans hley),t1⟩,(aM 5 rfl (h:=aE 6 rfl (h:=aE 7 rfl (h:=Zbu 8 kr rfl kr kr (ZQ [_,_,_,_,_] 3 [_,_,_,_,_] rfl rfl Zay rfl rfl rfl rfl rfl rfl rfl rfl ?_)))))⟩
 refine ZC kr kr ?_
 refine Zy (Zf (Zd (xM (h:=xD (h:=xA (h:=?_))))))
 exact ZA ⟨g.k+1,ke,(hDo g.x ee).1,_,_,_,_,_,_⟩ [0,1,2,3] so2 ⟨so,so,Zu1 hgo,hdy,huy,hfy,hiy⟩ t5 rfl
 try simp only [sQ,ne_eq] at g1
 refine ZU (Zad (ZV (ZF (Zf (Za (xL [_,_,_,_,_] Z3 3 (h:=xS [_,_,_,_,_] 1 [_,_,_,_,_] Zay (h:=Zw [_,_,_,_] rfl (Zi ?_)))))))))
 exact Zag .ret (.inl rfl) [_] [0] rfl ⟨⟨_,rfl,.inr ⟨[_,_,_,_,_],Z3,Zaj 1 rfl rfl rfl,rfl⟩⟩,trivial⟩ ⟨_,_,_,_,_,_,_,_,rfl,hgu,hgf,hgi,oy,hgo,so2,rfl⟩

set_option maxHeartbeats 800000 in
theorem Zos (b:Nat) (q:Option Addr) (m cp p:Nat) (hp:p≤650000000000) (hm:m≤2000) (B:Kn) (hbm:Zai B q m):ZN (pj J) 65 [ptr ⟨b,0,none⟩] B [rd b q m cp p] (fun v B' Ls=>∃(x:DHost) (p1 p2 p3:Option Addr) (d1 d2 d3 k:Nat),v = .agg #[str x.domain,.slice p1 x.users.length d1,.slice p2 x.folders.length d2,.int .i64 x.queue.next,.slice p3 x.queue.items.length d3]∧SlK B' p1 d1 3 Zg x.users∧SlK B' p2 d2 5 Zb x.folders∧SlK B' p3 d3 4 Zj x.queue.items∧x.domain.length≤2000000∧k≤p+8000∧Ls=[rd b q m cp k]):=by
 refine Ze 57 Tryz.func65 rfl rfl rfl (Nat.le_of_ble_eq_true rfl) ?_
 refine Za (xAl [_,_,_,_,_] Za2 (h:=fun b1=>Zw [_,_] rfl (Za (xM (h:=Zp (Zab [0] rfl rfl rfl rfl Zxa rfl (Zlr _ _ _ _ _ oz hm _ hbm) ?_))))))
 rintro _ Bh _ hleh ⟨xh,p1h,p2h,p3h,d1h,d2h,d3h,kh,rfl,huh,hfh,hih,hdh,hoh,hkh,rfl⟩
 replace hbm:=hbm.mono hleh
 have huhn:=huh.len
 have hfhn:=hfh.len
 have hihn:=hih.len
 have hpos:=ZoA hoh
 refine Zp (Zaf rfl rfl ZnH rfl (Zbe _ _ _ _ _ _ xh _ huh hfh hih) ?_)
 rintro _ B3 _ hle3 ⟨l3,a3,c3,q13,c13,q33,c33,rfl,rfl,hu3,hs3,hi3⟩
 replace huh:=huh.mono Zg.mono hle3
 replace hfh:=hfh.mono Zb.mono hle3
 replace hih:=hih.mono Zj.mono hle3
 replace hbm:=hbm.mono hle3
 have hu3n:=hu3.len
 have hi3n:=hi3.len
 refine xAl [_,_,_,_,_] Za2 (h:=fun b4=>xS [_,_,_,_,_] 3 [_,_,_,_,_] Zay (h:=Zw [_,_,_,_] rfl (Zk (Za (xM (h:=xX 0 rfl Za0 rfl (ZO _ _ _ _ _ _ oz oz oz hm _ hbm) (h:=?_)))))))
 rintro _ _ ⟨rk,rfl,rka,rkb,rfl⟩
 refine Zw [_,_,_,_] rfl (Zo (Za (ZJ (h:=xA (h:=Zc rfl (fun g0=>?_) (fun g0=>?_))))))
 try simp only [sQ,ne_eq] at g0
 refine Zd (xM (h:=xX 0 rfl ZxA rfl (Zmz _ _ _ _ _ oz hm _ hbm) (h:=?_)))
 rintro _ _ ⟨x6,rfl,hx6,rfl⟩
 refine xW ZnC (h:=xS [_] 3 [_,_,_,_,_] sz9 (h:=Zy (Zf (Za (xL [_,_,_,_,_] Z3 3 (h:=ZY 2 rfl hs3 Zb.mono om3 (fun B7 hle7 hr7=>?_)))))))
 replace hu3:=hu3.mono Zg.mono hle7
 replace hi3:=hi3.mono Zj.mono hle7
 replace hbm:=hbm.mono hle7
 have hr7n:=hr7.len
 refine xS [_,_,_,_,_] 1 [_,_,_,_,_] Zay (h:=Zw [_,_,_,_] rfl (Zi ?_))
 exact Zag .ret (.inl rfl) [_] [0] rfl ⟨⟨_,rfl,.inr ⟨[_,_,_,_,_],Z3,Zaj 1 rfl rfl rfl,rfl⟩⟩,trivial⟩ ⟨⟨x6,xh.users,xh.folders,⟨xh.queue.next,xh.queue.items⟩⟩,_,_,_,_,_,_,_,(ol),hu3,hr7,hi3,by first | assumption | omega | (simp only [];omega),so2,rfl⟩
 try simp only [sQ,ne_eq] at g0
 refine Za (ZJ (h:=xA (h:=Zc rfl (fun g1=>?_) (fun g1=>?_))))
 try simp only [sQ,ne_eq] at g1
 refine Zd (xM (h:=Zp (Zab [0] rfl rfl rfl rfl Zxz rfl (Zot _ _ _ _ _ oz hm _ hbm) ?_)))
 rintro _ B8 _ hle8 ⟨q8,cp8,us8,p8,rfl,hu8,hun8,hp8,rfl⟩
 replace hs3:=hs3.mono Zb.mono hle8
 replace hu3:=hu3.mono Zg.mono hle8
 replace hi3:=hi3.mono Zj.mono hle8
 replace hbm:=hbm.mono hle8
 have hu8n:=hu8.len
 refine xW ZbN (h:=xS [_] 3 [_,_,_,_,_] Zxo (h:=Zy (Zf (Za (xL [_,_,_,_,_] Z3 3 (h:=ZY 2 rfl hs3 Zb.mono om3 (fun B9 hle9 hr9=>?_)))))))
 replace hu8:=hu8.mono Zg.mono hle9
 replace hi3:=hi3.mono Zj.mono hle9
 replace hbm:=hbm.mono hle9
 have hr9n:=hr9.len
 refine xS [_,_,_,_,_] 1 [_,_,_,_,_] Zay (h:=Zw [_,_,_,_] rfl (Zi ?_))
 exact Zag .ret (.inl rfl) [_] [0] rfl ⟨⟨_,rfl,.inr ⟨[_,_,_,_,_],Z3,Zaj 1 rfl rfl rfl,rfl⟩⟩,trivial⟩ ⟨⟨xh.domain,us8,xh.folders,⟨xh.queue.next,xh.queue.items⟩⟩,_,_,_,_,_,_,_,(ol),hu8,hr9,hi3,by first | assumption | omega | (simp only [];omega),so2,rfl⟩
 try simp only [sQ,ne_eq] at g1
 refine Za (ZJ (h:=xA (h:=Zc rfl (fun g2=>?_) (fun g2=>?_))))
 try simp only [sQ,ne_eq] at g2
 refine Zd (xW ZZ (h:=x1 Zb3 3 (h:=ZY 2 rfl hs3 Zb.mono om3 (fun B10 hle10 hr10=>?_))))
 replace hu3:=hu3.mono Zg.mono hle10
 replace hi3:=hi3.mono Zj.mono hle10
 replace hbm:=hbm.mono hle10
 have hr10n:=hr10.len
 obtain ⟨hq11,q11,cp11,hv11,hr11⟩:=hr10.cutE 1 xh.folders.length om om
 have hr11n:=hr11.len
 refine Zp (Zg3 (a:=1) (b:=xh.folders.length) hv11 om hq11 rfl rfl Tryz.underlying24 ZaD rfl ⟨_,_,rfl,by first | omega | (simp;done) | (simp;omega)⟩ rfl ?_)
 refine xW ZZ (h:=xS [_] 3 [_,_,_,_,_] Zrd (h:=Zy (Zf (Za (xL [_,_,_,_,_] Z3 3 (h:=xS [_,_,_,_,_] 1 [_,_,_,_,_] Zay (h:=Zw [_,_,_,_] rfl (Zi ?_))))))))
 exact Zag .ret (.inl rfl) [_] [0] rfl ⟨⟨_,rfl,.inr ⟨[_,_,_,_,_],Z3,Zaj 1 rfl rfl rfl,rfl⟩⟩,trivial⟩ ⟨⟨xh.domain,xh.users,((xh.folders.take xh.folders.length).drop 1),⟨xh.queue.next,xh.queue.items⟩⟩,_,_,_,_,_,_,_,(ol),hu3,hr11,hi3,by first | assumption | omega | (simp only [];omega),so2,rfl⟩
 try simp only [sQ,ne_eq] at g2
 refine Za (ZJ (h:=xA (h:=Zc rfl (fun g3=>?_) (fun g3=>?_))))
 try simp only [sQ,ne_eq] at g3
 refine Z7 (keeps _ [2,3] _) mo kr ⟨Kn.le.refl _,Zat.refl _ _⟩ (fun _ _=>?_)
 refine aW 0 rfl ZZ (h:=aT 1 rfl (ZG fun D B L hI=>Zl rfl rfl Zb3 rfl (atL 3 (hI.2.2.1.trans rfl) rfl rfl) r4) (h:=aM 2 rfl (h:=aW 3 rfl ZZ (h:=aT 4 rfl (ZG fun D B L hI=>Zl rfl rfl Zb3 rfl (atL 3 (hI.2.2.1.trans rfl) rfl rfl) r4) (h:=aV 5 rfl Tryz.underlying24 (h:=aM 7 rfl (h:=Zr 6 kr rfl kr (Zci 0 rfl rfl rfl Za0 rfl (ZO _ _ _ _ _ _ oz oz oz hm _ hbm) ?_))))))))
 rintro _ _ ⟨rw,rfl,rwa,rwb,rfl⟩
 refine ⟨⟨Kn.le.refl _,t2⟩,(Zr 8 kr rfl kr (Zab [0] rfl rfl rfl rfl Zxy rfl (ZrW _ _ _ _ _ oz hm _ hbm) ?_))⟩
 rintro _ Ba _ hlea ⟨qa,cpa,gsa,ka,rfl,hga,hka,rfl⟩
 replace hs3:=hs3.mono Zb.mono hlea
 replace hu3:=hu3.mono Zg.mono hlea
 replace hi3:=hi3.mono Zj.mono hlea
 replace hbm:=hbm.mono hlea
 have hgan:=hga.len
 refine ⟨⟨hlea,t2⟩,?_⟩
 obtain ⟨z,hz⟩:=Zex (xs:=xh.folders) (i:=rw) om om
 obtain ⟨bb15,_,hp15,⟨qg15,cg15,qm15,cm15,rfl,hg15,hm15,hb15,hb15b⟩,hw15,hc15⟩:=hs3.row hz
 have hg15n:=hg15.len
 have hm15n:=hm15.len
 have hm15s:=ZS hm15
 refine aT 9 rfl (ZG fun D B L hI=>Zf4 hp15 rfl rfl Tryz.underlying24 ZaD rfl rfl om om r4) (h:=?_)
 refine aW 10 rfl ZbU (h:=Z0 11 kr rfl kr kr kr (Zee (k:=(rw).toNat) (off:=2) (⟨z.owner,z.name,gsa,z.next,z.mail⟩) [_] 2 hs3 hp15 hz rfl rfl Zur rfl rfl rfl rfl rfl rfl (by rintro _ ⟨_,_,_,_,rfl,_,e2,e3,e4⟩;exact ⟨_,_,_,_,rfl,hga,e2,e3,e4⟩) (fun l16 hv16=>?_)))
 refine Zy (Zf (Za (xL [_,_,_,_,_] Z3 3 (h:=ZY 2 rfl hv16 Zb.mono om3 (fun B17 hle17 hr17=>?_)))))
 replace hga:=hga.mono Zx.mono hle17
 replace hg15:=hg15.mono Zx.mono hle17
 replace hm15:=hm15.mono ZD.mono hle17
 replace hu3:=hu3.mono Zg.mono hle17
 replace hi3:=hi3.mono Zj.mono hle17
 replace hbm:=hbm.mono hle17
 have hr17n:=hr17.len
 refine xS [_,_,_,_,_] 1 [_,_,_,_,_] Zay (h:=Zw [_,_,_,_] rfl (Zi ?_))
 exact Zag .ret (.inl rfl) [_] [0] rfl ⟨⟨_,rfl,.inr ⟨[_,_,_,_,_],Z3,Zaj 1 rfl rfl rfl,rfl⟩⟩,trivial⟩ ⟨⟨xh.domain,xh.users,(xh.folders.set ((rw).toNat) (⟨z.owner,z.name,gsa,z.next,z.mail⟩)),⟨xh.queue.next,xh.queue.items⟩⟩,_,_,_,_,_,_,_,(ol),hu3,hr17,hi3,by first | assumption | omega | (simp only [];omega),so2,rfl⟩
 try simp only [sQ,ne_eq] at g3
 refine Za (ZJ (h:=xA (h:=Zc rfl (fun g4=>?_) (fun g4=>?_))))
 try simp only [sQ,ne_eq] at g4
 refine Z7 (keeps _ [2,3] _) mo kr ⟨Kn.le.refl _,Zat.refl _ _⟩ (fun _ _=>?_)
 refine aW 0 rfl ZZ (h:=aT 1 rfl (ZG fun D B L hI=>Zl rfl rfl Zb3 rfl (atL 3 (hI.2.2.1.trans rfl) rfl rfl) r4) (h:=aM 2 rfl (h:=aW 3 rfl ZZ (h:=aT 4 rfl (ZG fun D B L hI=>Zl rfl rfl Zb3 rfl (atL 3 (hI.2.2.1.trans rfl) rfl rfl) r4) (h:=aV 5 rfl Tryz.underlying24 (h:=aM 7 rfl (h:=Zr 6 kr rfl kr (Zci 0 rfl rfl rfl Za0 rfl (ZO _ _ _ _ _ _ oz oz oz hm _ hbm) ?_))))))))
 rintro _ _ ⟨rw,rfl,rwa,rwb,rfl⟩
 refine ⟨⟨Kn.le.refl _,t2⟩,(Zr 8 kr rfl kr (Zab [0] rfl rfl rfl rfl Zxx rfl (ZrX _ _ _ _ _ oz hm _ hbm) ?_))⟩
 rintro _ Ba _ hlea ⟨qa,cpa,xa,ka,rfl,hga,hka,rfl⟩
 replace hs3:=hs3.mono Zb.mono hlea
 replace hu3:=hu3.mono Zg.mono hlea
 replace hi3:=hi3.mono Zj.mono hlea
 replace hbm:=hbm.mono hlea
 have hgan:=hga.len
 refine ⟨⟨hlea,t2⟩,?_⟩
 obtain ⟨z,hz⟩:=Zex (xs:=xh.folders) (i:=rw) om om
 obtain ⟨bb21,_,hp21,⟨qg21,cg21,qm21,cm21,rfl,hg21,hm21,hb21,hb21b⟩,hw21,hc21⟩:=hs3.row hz
 have hg21n:=hg21.len
 have hm21n:=hm21.len
 have hm21s:=ZS hm21
 refine aT 9 rfl (ZG fun D B L hI=>Zf4 hp21 rfl rfl Tryz.underlying24 ZaD rfl rfl om om r4) (h:=?_)
 refine aW 10 rfl Zbh (h:=Z0 11 kr rfl kr kr kr (Zee (k:=(rw).toNat) (off:=3) (⟨z.owner,z.name,z.grants,xa.next,xa.mail⟩) [_,_] 2 hs3 hp21 hz rfl rfl ZcI rfl rfl rfl rfl rfl rfl (by rintro _ ⟨_,_,_,_,rfl,e1,_,e3,e4⟩;exact ⟨_,_,_,_,rfl,e1,hga,e3,e4⟩) (fun l22 hv22=>?_)))
 refine Zy (Zf (Za (xL [_,_,_,_,_] Z3 3 (h:=ZY 2 rfl hv22 Zb.mono om3 (fun B23 hle23 hr23=>?_)))))
 replace hga:=hga.mono ZD.mono hle23
 replace hg21:=hg21.mono Zx.mono hle23
 replace hm21:=hm21.mono ZD.mono hle23
 replace hu3:=hu3.mono Zg.mono hle23
 replace hi3:=hi3.mono Zj.mono hle23
 replace hbm:=hbm.mono hle23
 have hr23n:=hr23.len
 refine xS [_,_,_,_,_] 1 [_,_,_,_,_] Zay (h:=Zw [_,_,_,_] rfl (Zi ?_))
 exact Zag .ret (.inl rfl) [_] [0] rfl ⟨⟨_,rfl,.inr ⟨[_,_,_,_,_],Z3,Zaj 1 rfl rfl rfl,rfl⟩⟩,trivial⟩ ⟨⟨xh.domain,xh.users,(xh.folders.set ((rw).toNat) (⟨z.owner,z.name,z.grants,xa.next,xa.mail⟩)),⟨xh.queue.next,xh.queue.items⟩⟩,_,_,_,_,_,_,_,(ol),hu3,hr23,hi3,by first | assumption | omega | (simp only [];omega),so2,rfl⟩
 try simp only [sQ,ne_eq] at g4
 refine Za (ZJ (h:=xA (h:=Zc rfl (fun g5=>?_) (fun g5=>?_))))
 try simp only [sQ,ne_eq] at g5
 refine Zd (xM (h:=Zp (Zab [0] rfl rfl rfl rfl Zxw rfl (Zou _ _ _ _ _ oz hm _ hbm) ?_)))
 rintro _ B24 _ hle24 ⟨aq24,cq24,qq24,p24,rfl,hq24,hp24,rfl⟩
 replace hs3:=hs3.mono Zb.mono hle24
 replace hu3:=hu3.mono Zg.mono hle24
 replace hi3:=hi3.mono Zj.mono hle24
 replace hbm:=hbm.mono hle24
 have hq24n:=hq24.len
 refine xW ZcG (h:=xS [_,_] 3 [_,_,_,_,_] Zf0 (h:=Zy (Zf (Za (xL [_,_,_,_,_] Z3 3 (h:=ZY 2 rfl hs3 Zb.mono om3 (fun B25 hle25 hr25=>?_)))))))
 replace hq24:=hq24.mono Zj.mono hle25
 replace hu3:=hu3.mono Zg.mono hle25
 replace hbm:=hbm.mono hle25
 have hr25n:=hr25.len
 refine xS [_,_,_,_,_] 1 [_,_,_,_,_] Zay (h:=Zw [_,_,_,_] rfl (Zi ?_))
 exact Zag .ret (.inl rfl) [_] [0] rfl ⟨⟨_,rfl,.inr ⟨[_,_,_,_,_],Z3,Zaj 1 rfl rfl rfl,rfl⟩⟩,trivial⟩ ⟨⟨xh.domain,xh.users,xh.folders,⟨qq24.next,qq24.items⟩⟩,_,_,_,_,_,_,_,(ol),hu3,hr25,hq24,by first | assumption | omega | (simp only [];omega),so2,rfl⟩
 try simp only [sQ,ne_eq] at g5
 refine Zh (Zy (Zf (Za (xL [_,_,_,_,_] Z3 3 (h:=ZY 2 rfl hs3 Zb.mono om3 (fun B26 hle26 hr26=>?_))))))
 replace hu3:=hu3.mono Zg.mono hle26
 replace hi3:=hi3.mono Zj.mono hle26
 replace hbm:=hbm.mono hle26
 have hr26n:=hr26.len
 refine xS [_,_,_,_,_] 1 [_,_,_,_,_] Zay (h:=Zw [_,_,_,_] rfl (Zi ?_))
 exact Zag .ret (.inl rfl) [_] [0] rfl ⟨⟨_,rfl,.inr ⟨[_,_,_,_,_],Z3,Zaj 1 rfl rfl rfl,rfl⟩⟩,trivial⟩ ⟨⟨xh.domain,xh.users,xh.folders,⟨xh.queue.next,xh.queue.items⟩⟩,_,_,_,_,_,_,_,(ol),hu3,hr26,hi3,by first | assumption | omega | (simp only [];omega),so2,rfl⟩

set_option maxHeartbeats 400000 in
theorem Znu (b:Nat) (q:Option Addr) (m cp p:Nat) (hp:p≤600000000000) (hm:m≤2000) (B:Kn) (hbm:Zai B q m):ZN (pj J) 37 [ptr ⟨b,0,none⟩] B [rd b q m cp p] (fun v B' Ls=>∃(x:DHost) (p1 p2 p3:Option Addr) (d1 d2 d3 k:Nat),v = .agg #[str x.domain,.slice p1 x.users.length d1,.slice p2 x.folders.length d2,.int .i64 x.queue.next,.slice p3 x.queue.items.length d3]∧SlK B' p1 d1 3 Zg x.users∧SlK B' p2 d2 5 Zb x.folders∧SlK B' p3 d3 4 Zj x.queue.items∧x.domain.length≤2000000∧k≤p+9000∧Ls=[rd b q m cp k]):=by
 refine Ze 10 Tryz.func37 rfl rfl rfl (Nat.le_of_ble_eq_true rfl) ?_
 refine Za (xAl [_,_,_,_,_] Za2 (h:=fun b1=>Zw [_,_] rfl (Zk (Za (xM (h:=xX 0 rfl Za0 rfl (ZO _ _ _ _ _ _ oz oz oz hm _ hbm) (h:=?_)))))))
 rintro _ _ ⟨r2,rfl,r2a,r2b,rfl⟩
 refine ZJ (h:=Zw [_,_] rfl (Zc rfl (fun g0=>?_) (fun g0=>?_)))
 try simp only [sQ,ne_eq] at g0
 refine Za (xM (h:=Zp (Zab [0] rfl rfl rfl rfl ZxR rfl (Zos _ _ _ _ _ oz hm _ hbm) ?_)))
 rintro _ Bh _ hleh ⟨xh,p1h,p2h,p3h,d1h,d2h,d3h,kh,rfl,huh,hfh,hih,hdh,hkh,rfl⟩
 replace hbm:=hbm.mono hleh
 have huhn:=huh.len
 have hfhn:=hfh.len
 have hihn:=hih.len
 refine xS [_,_,_,_,_] 1 [_,_,_,_,_] Zay (h:=Zw [_,_] rfl (Zi (Zs ?_)))
 exact Zag .ret (.inl rfl) [_] [0] rfl ⟨⟨_,rfl,.inr ⟨[_,_,_,_,_],Z3,Zaj 1 rfl rfl rfl,rfl⟩⟩,trivial⟩ ⟨_,_,_,_,_,_,_,_,rfl,huh,hfh,hih,oy,so2,rfl⟩
 try simp only [sQ,ne_eq] at g0
 refine Zh (Zf (Za (xM (h:=Zp (Zab [0] rfl rfl rfl rfl Zxa rfl (Zlr _ _ _ _ _ oz hm _ hbm) ?_)))))
 rintro _ Bh _ hleh ⟨xh,p1h,p2h,p3h,d1h,d2h,d3h,kh,rfl,huh,hfh,hih,hdh,hoh,hkh,rfl⟩
 replace hbm:=hbm.mono hleh
 have huhn:=huh.len
 have hfhn:=hfh.len
 have hihn:=hih.len
 refine xS [_,_,_,_,_] 1 [_,_,_,_,_] Zay (h:=Zw [_,_] rfl (Zi ?_))
 exact Zag .ret (.inl rfl) [_] [0] rfl ⟨⟨_,rfl,.inr ⟨[_,_,_,_,_],Z3,Zaj 1 rfl rfl rfl,rfl⟩⟩,trivial⟩ ⟨_,_,_,_,_,_,_,_,rfl,huh,hfh,hih,oy,so2,rfl⟩

set_option maxHeartbeats 400000 in
theorem Zsp (q:Option Addr) (m cp:Nat) (hmc:m≤cp) (B:Kn) (hb:Zai B q m):ZN (pj J) 21 [.slice q m cp] B [] (fun v B' Ls=>Ls=[]∧∃(x:DHost) (p1 p2 p3:Option Addr) (d1 d2 d3:Nat) (w:Str),v = .tuple #[.agg #[str x.domain,.slice p1 x.users.length d1,.slice p2 x.folders.length d2,.int .i64 x.queue.next,.slice p3 x.queue.items.length d3],str w]∧SlK B' p1 d1 3 Zg x.users∧SlK B' p2 d2 5 Zb x.folders∧SlK B' p3 d3 4 Zj x.queue.items∧x.domain.length≤2000000∧w.length≤2000000):=by
 refine Ze 13 Tryz.func21 rfl rfl rfl (Nat.le_of_ble_eq_true rfl) ?_
 refine Za (xAl [_,_,_,_,_] Za2 (h:=fun b1=>xA (h:=Zw [_] rfl (Za (xM (h:=Zp (Zpa rfl rfl Zxg rfl (Znv _ _ _ oz _ (oy)) ?_)))))))
 rintro _ _ ⟨bop,qop,mop,cpop,rfl,rfl,hm,hbm⟩
 refine xA (h:=Zw [_,_] rfl (Za (xM (h:=Zp (Zab [1] rfl rfl rfl rfl Zxf rfl (Znu _ _ _ _ _ oz hm _ hbm) ?_)))))
 rintro _ Bh _ hleh ⟨xh,p1h,p2h,p3h,d1h,d2h,d3h,kh,rfl,huh,hfh,hih,hdh,hkh,rfl⟩
 replace hbm:=hbm.mono hleh
 have huhn:=huh.len
 have hfhn:=hfh.len
 have hihn:=hih.len
 refine xAl [_,_,_,_,_] Za2 (h:=fun b4=>xS [_,_,_,_,_] 2 [_,_,_,_,_] Zay (h:=Zw [_,_,_] rfl (Zk (Z7 (keeps _ [2] _) mo kr ⟨Kn.le.refl _,Zat.refl _ _⟩ (fun _ _=>?_)))))
 refine aT 0 rfl (ZG fun D B L hI=>Z8 [_,_,_,_,_] rfl rfl Z3 rfl (Zaj 2 (hI.2.1.trans rfl) rfl rfl) r4) (h:=aM 1 rfl (h:=Zr 2 kr rfl kr (Zci 1 rfl rfl rfl ZvJ rfl (Zgk _ _ _ _ _ oz hm _ hbm) ?_)))
 rintro _ _ ⟨x5,k5,rfl,hx5,hk5,rfl⟩
 refine ⟨⟨Kn.le.refl _,t1⟩,(Zbu 3 kr rfl kr kr (ZQ [_,_,_,_,_] 0 [_,_,_,_,_] rfl rfl Zay rfl rfl rfl rfl rfl rfl rfl rfl ?_))⟩
 refine aA 4 rfl (h:=ZC kr kr ?_)
 refine Zf (Zw [_,_,_] rfl (Zi ?_))
 exact Zag .ret (.inl rfl) [_,_] [] rfl ⟨⟨_,rfl,.inr ⟨[_,_,_,_,_],Z3,Zaj 0 rfl rfl rfl,rfl⟩⟩,rfl,trivial⟩ ⟨rfl,xh,_,_,_,_,_,_,_,rfl,huh,hfh,hih,hdh,oa⟩

set_option maxHeartbeats 400000 in
theorem Zdx (q:Option Addr) (cp:Nat) (gs:List DGrant) (o u:Str) (ho:o.length≤2000000) (hn:u.length≤2000000) (B:Kn) (hg:SlK B q cp 2 Zx gs):Za1 (pj J) 17 [.slice q gs.length cp,str o,str u] B (.int .i64 (Zb1 gs o u)):=by
 refine Ze 35 Tryz.func17 rfl rfl rfl (Nat.le_of_ble_eq_true rfl) ?_
 refine Za (xA (h:=Za (xM (h:=Zp (Zaf rfl rfl Zxe rfl (ZnT _ _ _ _ hg) ?_)))))
 rintro _ _ _ hlem ⟨mm,lm,rfl,rfl,rfl,hlm⟩
 refine xM (h:=xE (h:=xE (h:=xA (h:=xA (h:=Zw [_] rfl (Zk (Za (xM (h:=xN (h:=xM (h:=Zt (d:=16) rfl (fun g1=>?_) (fun g1=>?_))))))))))))
 try simp only [sQ,ne_eq] at g1
 refine xP (h:=xP (h:=xP (h:=xT (h:=xM (h:=xP (h:=xP (h:=xP (h:=xT (h:=Zc (t:=true) rfl (fun _=>Za (xA (h:=Zi (Zs ?_)))) (fun h=>Bool.noConfusion h))))))))))
 exact Z2 .ret (.inl rfl) [_] t1 ⟨ZaW (ZkH (by simp [g1])).symm,rfl,rfl⟩
 try simp only [sQ,ne_eq] at g1
 refine xM (h:=xR Zs4 rfl (Zcp _ om2 _) (h:=?_))
 refine xN (h:=xF (h:=xM (h:=Zt (d:=21) rfl (fun g2=>?_) (fun g2=>?_))))
 try simp only [sQ,ne_eq] at g2
 refine xP (h:=xP (h:=xP (h:=xT (h:=Zc (t:=true) rfl (fun _=>Za (xA (h:=Zi (Zs ?_)))) (fun h=>Bool.noConfusion h)))))
 exact Z2 .ret (.inl rfl) [_] t1 ⟨ZaW (ZkH (by simp [g2])).symm,rfl,rfl⟩
 try simp only [sQ,ne_eq] at g2
 refine xM (h:=xR Zs4 rfl (Zcp _ om2 _) (h:=?_))
 refine xN (h:=xF (h:=Zc rfl (fun g3=>?_) (fun g3=>?_)))
 try simp only [sQ,ne_eq] at g3
 refine Za (xA (h:=Zi (Zs ?_)))
 exact Z2 .ret (.inl rfl) [_] t1 ⟨ZaW (ZkH (by simp [g3])).symm,rfl,rfl⟩
 try simp only [sQ,ne_eq] at g3
 have hce:=ZsH (gs:=gs) (o:=o) (u:=u) g1 g2 (by simpa using g3)
 obtain ⟨bm,hmb,hml⟩:=hlm g1
 subst hmb
 clear hlm
 have hlm:=hml
 refine Zh (Zf (Zk (Za (xM (h:=xM (h:=ZcF (h:=Zc rfl (fun g4=>?_) (fun g4=>?_))))))))
 try simp only [sQ,ne_eq] at g4
 refine Za (xA (h:=Zi (Zs ?_)))
 exact Z2 .ret (.inl rfl) [_] t1 ⟨ZaW (by rw [hce,if_pos g4]),rfl,rfl⟩
 try simp only [sQ,ne_eq] at g4
 refine Zh (Zf (Za (xM (h:=xM (h:=Zp (Zm9 (k:=u) 0 rfl hlm rfl rfl Tryz.underlying76 Tryz.underlying9 zo3 rfl rfl (xM (h:=Zp (Zm9 (k:=[97,110,121,111,110,101]) 0 rfl hlm rfl rfl Tryz.underlying76 Tryz.underlying9 zo3 rfl rfl (Zp (ZvS rfl rfl rfl rfl (xA (h:=Zi ?_)))))))))))))
 exact Z2 .ret (.inl rfl) [_] t1 ⟨ZaW (by rw [hce,if_neg g4];rfl),rfl,rfl⟩

set_option maxHeartbeats 400000 in
theorem ZtE (b o:Nat) (q1 q2 q3:Option Addr) (c1 c2 c3:Nat) (x:DHost) (qa qb:Option Addr) (ca cb:Nat) (u:Str) (f:DFolder) (rr:Int) (hn:u.length≤2000000) (ho:f.owner.length≤2000000) (B:Kn) (hh:Zbv B b o [str x.domain,.slice q1 x.users.length c1,.slice q2 x.folders.length c2,.int .i64 x.queue.next,.slice q3 x.queue.items.length c3]) (hu:SlK B q1 c1 3 Zg x.users) (hg:SlK B qa ca 2 Zx f.grants):Za1 (pj J) 23 [ptr ⟨b,o,none⟩,str u,.agg #[str f.owner,str f.name,.slice qa f.grants.length ca,.int .i64 f.next,.slice qb f.mail.length cb],.int .i64 rr] B (.bool (Zmv x.users f u rr)):=by
 refine Ze 29 Tryz.func23 rfl rfl rfl (Nat.le_of_ble_eq_true rfl) ?_
 refine Za (xBx [_,_,_,_,_] (h:=fun b1=>xA (h:=Zw [_] rfl (Za (xW ZbU (h:=x1 Zlm 0 (h:=xW Zbi (h:=x1 lk9 0 (h:=xM (h:=xR Zvb rfl (Zdx _ _ f.grants f.owner u om2 om2 _ hg) (h:=?_)))))))))))
 refine xA (h:=Za (xM (h:=xM (h:=xR ZvI rfl (ZhD _ _ _ _ _ _ _ _ x u om2 _ hh hu) (h:=?_)))))
 refine xM (h:=Zt (d:=19) rfl (fun g1=>?_) (fun g1=>?_))
 try simp only [sQ,ne_eq] at g1
 refine xM (h:=ZdB (h:=xT (h:=xM (h:=Zt (d:=23) rfl (fun g2=>?_) (fun g2=>?_)))))
 try simp only [sQ,ne_eq] at g2
 refine xM (h:=xM (h:=Zp (ZuJ rfl rfl rfl rfl (Zc5 (h:=xT (h:=xA (h:=Zi ?_)))))))
 exact Z2 .ret (.inl rfl) [_] t1 ⟨Zn (by simp [Zmv,g1,g2]),rfl,rfl⟩
 try simp only [sQ,ne_eq] at g2
 refine xP (h:=xP (h:=xP (h:=xP (h:=xF (h:=xA (h:=Zi ?_))))))
 exact Z2 .ret (.inl rfl) [_] t1 ⟨Zn (by simp [Zmv,g1,g2];try omega),rfl,rfl⟩
 try simp only [sQ,ne_eq] at g1
 refine xP (h:=xP (h:=xF (h:=xM (h:=xP (h:=xP (h:=xP (h:=xP (h:=xF (h:=xA (h:=Zi ?_))))))))))
 exact Z2 .ret (.inl rfl) [_] t1 ⟨Zn (by simp [Zmv,g1]),rfl,rfl⟩

set_option maxHeartbeats 400000 in
theorem Zqa (q:Option Addr) (cp:Nat) (us:List DUser) (u:Str) (B:Kn) (hu:SlK B q cp 3 Zg us):Za1 (pj J) 12 [.slice q us.length cp,str u] B (.bool (decide (0≤ZcC us u))):=by
 refine Ze 19 Tryz.func12 rfl rfl rfl (Nat.le_of_ble_eq_true rfl) ?_
 have hun:=hu.len
 refine Za (xA (h:=Zk (Za (xA (h:=Zo (ZR (α:=Nat) [0,1] (fun k=>[(5,.int .i64 k)]) [] (fun k=>[]) (fun k Bx=>Bx=B∧k≤us.length∧∀z,z∈us.take k→z.name≠u) (fun k=>us.length - k) 0 t1 rfl (⟨rfl,Nat.zero_le _,by simp⟩) (fun k B1 hle1 hI=>?_)))))))
 obtain ⟨rfl,hk,hs⟩:=hI
 refine ZP [(0,_),(1,_),(5,_)] [] t3 rfl (Zk (Za (xM (h:=xM (h:=xV Tryz.underlying23 (h:=Zae (h:=Zc rfl (fun g1=>?_) (fun g1=>?_))))))))
 try simp only [sQ,ne_eq] at g1
 refine Zh (Zf (Zk (Zo (Za (xM (h:=xM (h:=?_)))))))
 obtain ⟨w,hw⟩:=Zan (xs:=us) (i:=k) om
 obtain ⟨bb3,oo3,rfl⟩:=hu.base hw
 obtain ⟨_,⟨rfl,hb4,hb4b⟩,hc4⟩:=hu.elem hw
 refine xIx Tryz.underlying23 ZeJ (h:=xW Zc0 (h:=y1 lk9 hc4 0 (h:=xM (h:=ZcF (h:=Zc rfl (fun g2=>?_) (fun g2=>?_))))))
 try simp only [sQ,ne_eq] at g2
 refine Za (xA (h:=Zi (ZM (Zs (Zaa (ZM (Zs ?_)))))))
 exact Z2 .ret (.inl rfl) [_] t1 ⟨Zn (decide_eq_true (ZbB.2 ⟨w,List.mem_of_getElem? hw,g2⟩)).symm,rfl,rfl⟩
 try simp only [sQ,ne_eq] at g2
 refine Zh (Zy (Zf (Zd (xM (h:=xD (h:=xA (h:=?_)))))))
 exact ZA (k+1) [] so2 ⟨rfl,oz,ZtB (p:=fun z:DUser=>z.name≠u) hw hs g2⟩ t3 rfl
 try simp only [sQ,ne_eq] at g1
 refine ZU (Zad (ZV (ZF (Zf (Za (xA (h:=Zi ?_)))))))
 exact Z2 .ret (.inl rfl) [_] t1 ⟨Zn (decide_eq_false (Zqb (ZbA oz hs))).symm,rfl,rfl⟩

set_option maxHeartbeats 400000 in
theorem ZgU (a b:Int) (ha0 : -100≤a) (ha1:a≤100) (hb0:0≤b) (hb1:b≤100) (B:Kn):Za1 (pj J) 16 [.int .i64 a,.int .i64 b] B (.bool (ZjV b.toNat a b)):=by
 refine Ze 19 Tryz.func16 rfl rfl rfl (Nat.le_of_ble_eq_true rfl) ?_
 refine Za (xA (h:=Zk (Zo (ZR (α:=Nat × Int × Int) [] (fun g=>[(0,.int .i64 g.2.1),(1,.int .i64 g.2.2)]) [] (fun g=>[]) (fun g Bx=>Bx=B∧0≤g.2.2∧g.2.2≤g.1∧g.2.2≤100∧-100≤g.2.1∧g.2.1≤100∧ZjV b.toNat a b=ZjV g.1 g.2.1 g.2.2) (fun g=>g.2.2.toNat) (b.toNat,a,b) t2 rfl (⟨rfl,hb0,so,hb1,ha0,ha1,rfl⟩) (fun g B1 hle1 hI=>?_)))))
 obtain ⟨rfl,hk0,hk1,hk2,hk3,hk4,hs⟩:=hI
 have hq1:=Zqn (a:=g.2.1) oz oz
 have hq2:=Zqn (a:=g.2.2) oz oz
 refine ZP [(0,_),(1,_)] [] t2 rfl (Zk (Za (xM (h:=Zbx (h:=Zc rfl (fun g1=>?_) (fun g1=>?_))))))
 try simp only [sQ,ne_eq] at g1
 refine Zh (Zf (Zo (Zk (Za (xM (h:=Zp (Zf3 rfl rfl rfl rfl oz rfl ?_)))))))
 refine ZJ (h:=xM (h:=Zt (d:=10) rfl (fun g2=>?_) (fun g2=>?_)))
 try simp only [sQ,ne_eq] at g2
 refine xM (h:=Zp (Zf3 rfl rfl rfl rfl oz rfl ?_))
 refine ZJ (h:=xT (h:=Zc rfl (fun g3=>?_) (fun g3=>?_)))
 try simp only [sQ,ne_eq] at g3
 refine Za (xA (h:=Zi (Zs (ZM (Zaa (ZM (Zs ?_)))))))
 exact Z2 .ret (.inl rfl) [_] t1 ⟨Zn (by rw [hs];exact (ZsD oz hk1 g2 g3).symm),rfl,rfl⟩
 try simp only [sQ,ne_eq] at g3
 refine Zh (Zf (Za (xM (h:=Zp (Zfz rfl rfl rfl rfl oz (by first | exact ZaN om om | rfl) ?_)))))
 refine xA (h:=Zd (xM (h:=Zp (Zfz rfl rfl rfl rfl oz (by first | exact ZaN om om | rfl) ?_))))
 refine xA (h:=Zy ?_)
 exact ZA (g.1 - 1,Int.tdiv g.2.1 2,Int.tdiv g.2.2 2) [] so2 ⟨rfl,so,so,so,so,so,by rw [hs];exact ZlV oz hk1 (fun hc=>g3 hc.2)⟩ t2 rfl
 try simp only [sQ,ne_eq] at g2
 refine xP (h:=xP (h:=xP (h:=xF (h:=Zc (t:=false) rfl (fun h=>Bool.noConfusion h) (fun _=>Zh (Zf (Za (xM (h:=Zp (Zfz rfl rfl rfl rfl oz (by first | exact ZaN om om | rfl) ?_))))))))))
 refine xA (h:=Zd (xM (h:=Zp (Zfz rfl rfl rfl rfl oz (by first | exact ZaN om om | rfl) ?_))))
 refine xA (h:=Zy ?_)
 exact ZA (g.1 - 1,Int.tdiv g.2.1 2,Int.tdiv g.2.2 2) [] so2 ⟨rfl,so,so,so,so,so,by rw [hs];exact ZlV oz hk1 (fun hc=>g2 hc.1)⟩ t2 rfl
 try simp only [sQ,ne_eq] at g1
 refine ZU (Zad (ZV (ZF (Zf (Za (xA (h:=Zi ?_)))))))
 exact Z2 .ret (.inl rfl) [_] t1 ⟨Zn (by rw [hs,ZsE oz]),rfl,rfl⟩

set_option maxRecDepth 4000 in
set_option maxHeartbeats 400000 in
theorem Zmx (hJ : Joins Tryz.prog J) (q1 q2 q3 : Option Addr) (c1 c2 c3 : Nat) (x : DHost) (u y z : Str) (hn : u.length ≤ 2000000) (hd : x.domain.length ≤ 2000000) (B : Kn) (hu : SlK B q1 c1 3 Zg x.users) (hf : SlK B q2 c2 5 Zb x.folders) (hi : SlK B q3 c3 4 Zj x.queue.items) : ZN (pj J) 13 [.agg #[str x.domain, .slice q1 x.users.length c1, .slice q2 x.folders.length c2, .int .i64 x.queue.next, .slice q3 x.queue.items.length c3], .agg #[str u, str y, str z]] B [] (fun v B' Ls => Ls = [] ∧ ∃ p cp, v = .slice p (ZgG x u).length cp ∧ SlK B' p cp 5 Zb (ZgG x u)) := by
  refine Ze 34 Tryz.func13 rfl rfl rfl (Nat.le_of_ble_eq_true rfl) ?_
  have hfn := hf.len
  refine Za (xBx [_, _, _, _, _] (h:=fun b1 => xBx [_, _, _] (h:=fun b2 => xA (h:=Zw [_, _] rfl (ZnV 0 rfl (fun B3 hle3 hpm3 => ?_))))))
  have hc3 := ZcW hpm3
  replace hu := hu.mono Zg.mono hle3
  replace hf := hf.mono Zb.mono hle3
  replace hi := hi.mono Zj.mono hle3
  refine Za (xBs [] [] Tryz.underlying24 ZaD Zb8 (h:=fun b4 => xA (h:=Zw [_, _, _] rfl (Zk (Za (yL [_, _, _, _, _] Z3 hc3 0 (h:=Zp (Zac rfl rfl Zwo rfl (ZfQ hJ _ _ _ _ _ _ x (by first | assumption | omega | (simp; done) | (simp; omega)) _ hu hf hi) ?_))))))))
  intro v5 B5 hle5
  rintro rfl
  replace hu := hu.mono Zg.mono hle5
  replace hf := hf.mono Zb.mono hle5
  replace hi := hi.mono Zj.mono hle5
  replace hc3 := hc3.mono hle5
  refine xN (h:=Zc rfl (fun g1 => ?_) (fun g1 => ?_))
  try simp only [sQ, ne_eq] at g1
  rw [ZrS (by simpa using g1)]
  refine Za (xM (h:=xA (h:=Zi (Zs ?_))))
  exact Zag .ret (.inl rfl) [_] [] rfl ⟨rfl, trivial⟩ ⟨rfl, _, _, rfl, SlK.nil⟩
  try simp only [sQ, ne_eq] at g1
  refine Zh (Zf (Zk (Za (xW ZZ (h:=y1 Zb3 hc3 2 (h:=xV Tryz.underlying24 (h:=xM (h:=Zo (ZR (α := Gh DFolder) [0, 1, 2, 3, 4, 11, 14, 15] (fun g => [(5, .slice g.a g.xs.length g.c), (16, .int .i64 g.k)]) [2] (fun g => [g.l]) (fun g Bx => Bx = B5 ∧ g.k ≤ x.folders.length ∧ g.xs = Zd1 (Zz x) (Zv5 x u) Zje x.folders g.k ∧ g.xs.length ≤ g.k ∧ Z4 Bx g.l g.a g.c 41 5 Zb g.xs) (fun g => x.folders.length - g.k) ⟨0, 0, _, _, _, []⟩ ⟨rfl, rfl, trivial⟩ rfl (⟨rfl, Nat.zero_le _, Zff, Nat.le_refl _, Z4.lit0⟩) (fun g B6 hle6 hI => ?_))))))))))
  obtain ⟨rfl, hk, hxs, hxl, hv⟩ := hI
  refine ZP [(0, _), (1, _), (2, _), (3, _), (4, _), (5, _), (11, _), (14, _), (15, _), (16, _)] [_, _, _] ⟨rfl, rfl, rfl, rfl, rfl, rfl, rfl, rfl, rfl, rfl, trivial⟩ rfl (Za (Zae (h:=Zk (Zc rfl (fun g2 => ?_) (fun g2 => ?_)))))
  try simp only [sQ, ne_eq] at g2
  refine Zh (Zf (Zk (Zo (Za ?_))))
  obtain ⟨w, hw⟩ := Zan (xs := x.folders) (i := g.k) (by first | omega | (simp; done) | (simp; omega))
  obtain ⟨bb8, oo8, rfl⟩ := hf.base hw
  obtain ⟨_, ⟨qg9, cg9, qm9, cm9, rfl, hg9, hm9, hb9, hb9b⟩, hc9⟩ := hf.elem hw
  have hg9n := hg9.len
  have hm9n := hm9.len
  have hm9s := ZS hm9
  refine xIx Tryz.underlying24 ZaD (h:=yL [_, _, _, _, _] Zfn hc9 0 (h:=xAl [_, _, _, _, _] Zb8 (h:=fun b10 => xS [_, _, _, _, _] 3 [_, _, _, _, _] ZaD (h:=Zw [_, _, _, _] rfl (Za (xW Zfr (h:=x1 lk9 1 (h:=xL [_, _, _, _, _] Zfn 3 (h:=xR Zwn rfl (ZtE _ _ _ _ _ _ _ _ x _ _ _ _ u w _ (by first | assumption | omega | (simp; done) | (simp; omega)) (by first | assumption | omega | (simp; done) | (simp; omega)) _ hc3 hu hg9) (h:=?_))))))))))
  refine Zc rfl (fun g3 => ?_) (fun g3 => ?_)
  try simp only [sQ, ne_eq] at g3
  refine Zd (xM (h:=xW Zbi (h:=x1 lk9 3 (h:=xW Zc1 (h:=x1 lk9 3 (h:=xB [(0, _), (1, _)] [_, _, _, _, _] [_, _, _, _, _] Zre Zb8 (h:=xBs [(0, _)] [_, _, _, _, _] Tryz.underlying24 ZaD Zb8 (h:=fun b12 => Zp (ZaK (z := ⟨w.owner, w.name, [], 0, []⟩) (R := Zb) 2 rfl hv rfl rfl rfl ZgP Zgz rfl rfl (ZaI.box 4 rfl) rfl rfl (⟨_, _, _, _, rfl, SlK.nil, SlK.nil, by first | assumption | omega | (simp; done) | (simp; omega), by first | assumption | omega | (simp; done) | (simp; omega)⟩) (by first | omega | (simp; done) | (simp; omega)) (fun l13 p13 c13 hv13 => ?_))))))))))
  refine xA (h:=Zy (Zf (Zd (xD (h:=xM (h:=?_))))))
  exact ZA ⟨g.k + 1, 0, l13, p13, c13, (g.xs ++ [⟨w.owner, w.name, [], 0, []⟩])⟩ [0, 1, 2] (by first | omega | (simp only []; omega)) ⟨rfl, by simp only []; omega, by simp only []; exact ZdZ hxs (by simpa using g1) hw g3, by simp; omega, hv13⟩ ⟨rfl, rfl, rfl, rfl, rfl, rfl, rfl, rfl, rfl, rfl, trivial⟩ rfl
  try simp only [sQ, ne_eq] at g3
  refine Zh (Zy (Zf (Zd (xD (h:=xM (h:=?_))))))
  exact ZA ⟨g.k + 1, 0, g.l, g.a, g.c, g.xs⟩ [0, 1, 2] (by first | omega | (simp only []; omega)) ⟨rfl, by simp only []; omega, by simp only []; exact Zd0 hxs (by simpa using g1) hw (by simpa [Zv5] using g3), by simp only []; omega, hv⟩ ⟨rfl, rfl, rfl, rfl, rfl, rfl, rfl, rfl, rfl, rfl, trivial⟩ rfl
  try simp only [sQ, ne_eq] at g2
  have hxe := Zp7 hxs (by omega)
  refine ZU (Zad (ZV (ZF (Zf (Za (xM (h:=ZY 2 rfl hv Zb.mono (by first | omega | decide | (simp; done) | (simp; omega)) (fun B14 hle14 hr14 => ?_))))))))
  replace hu := hu.mono Zg.mono hle14
  replace hf := hf.mono Zb.mono hle14
  replace hi := hi.mono Zj.mono hle14
  replace hc3 := hc3.mono hle14
  have hr14n := hr14.len
  refine xA (h:=Zw [_, _, _] rfl (Zi ?_))
  exact Zag .ret (.inl rfl) [_] [] rfl ⟨rfl, trivial⟩ (by rw [← hxe]; exact ⟨rfl, _, _, rfl, hr14⟩)

set_option maxRecDepth 4000 in
set_option maxHeartbeats 400000 in
theorem Zp6 (q1 q2 q3 : Option Addr) (c1 c2 c3 : Nat) (x : DHost) (u y z : Str) (hn : u.length ≤ 2000000) (hd : x.domain.length ≤ 2000000) (B : Kn) (hu : SlK B q1 c1 3 Zg x.users) (hf : SlK B q2 c2 5 Zb x.folders) (hi : SlK B q3 c3 4 Zj x.queue.items) : ZN (pj J) 15 [.agg #[str x.domain, .slice q1 x.users.length c1, .slice q2 x.folders.length c2, .int .i64 x.queue.next, .slice q3 x.queue.items.length c3], .agg #[str u, str y, str z]] B [] (fun v B' Ls => Ls = [] ∧ ∃ p cp, v = .slice p (Zkc x u).length cp ∧ SlK B' p cp 5 Zb (Zkc x u)) := by
  refine Ze 52 Tryz.func15 rfl rfl rfl (Nat.le_of_ble_eq_true rfl) ?_
  have hfn := hf.len
  have hix := Zkl x.users u
  refine Za (xBx [_, _, _, _, _] (h:=fun b1 => xBx [_, _, _] (h:=fun b2 => xA (h:=Zw [_, _] rfl (Za (xBs [] [] Tryz.underlying24 ZaD Zb8 (h:=fun b3 => xA (h:=Zw [_, _, _] rfl (Zk (Za (xA (h:=Zo ?_))))))))))))
  refine ZR (α := Gh DFolder) [0, 1, 2, 3, 4] (fun g => [(5, .slice g.a g.xs.length g.c), (6, .int .i64 g.k)]) [2] (fun g => [g.l]) (fun g Bx => g.k ≤ x.folders.length ∧ g.xs = Zd1 (okU x u) (Zv4 u) Zje x.folders g.k ∧ g.xs.length ≤ g.k ∧ Z4 Bx g.l g.a g.c 41 5 Zb g.xs) (fun g => x.folders.length - g.k) ⟨0, 0, _, _, _, []⟩ ⟨rfl, rfl, trivial⟩ rfl (⟨Nat.zero_le _, Zff, Nat.le_refl _, Z4.lit0⟩) (fun g B4 hle4 hI => ?_)
  obtain ⟨hk, hxs, hxl, hv⟩ := hI
  replace hu := hu.mono Zg.mono hle4
  replace hf := hf.mono Zb.mono hle4
  replace hi := hi.mono Zj.mono hle4
  refine ZP [(0, _), (1, _), (2, _), (3, _), (4, _), (5, _), (6, _)] [_, _, _] ⟨rfl, rfl, rfl, rfl, rfl, rfl, rfl, trivial⟩ rfl (Zk (Za (xM (h:=xW ZZ (h:=x1 Zb3 0 (h:=xV Tryz.underlying24 (h:=Zae (h:=xM (h:=Zt (d := 13) rfl (fun g1 => ?_) (fun g1 => ?_))))))))))
  try simp only [sQ, ne_eq] at g1
  refine xL [_, _, _, _, _] Z3 0 (h:=xR ZnJ rfl (ZaS _ _ _ _ _ _ x (by first | assumption | omega | (simp; done) | (simp; omega)) _ hu hf hi) (h:=?_))
  refine xT (h:=xM (h:=Zt (d := 17) rfl (fun g2 => ?_) (fun g2 => ?_)))
  try simp only [sQ, ne_eq] at g2
  refine xW ZbN (h:=x1 Zim 0 (h:=xW Zfr (h:=x1 lk9 1 (h:=xR Zrf rfl (Zcc _ _ _ _ _ hu) (h:=ZdB (h:=xT (h:=Zc rfl (fun g3 => ?_) (fun g3 => ?_))))))))
  try simp only [sQ, ne_eq] at g3
  have hrr := Zbf g2
  obtain ⟨w, hw⟩ := Zan (xs := x.folders) (i := g.k) (by omega)
  have hwt : x.folders[((g.k : Nat) : Int).toNat]? = some w := hw
  refine Zh (Zf (Zk (Zo (Za (xL [_, _, _, _, _] Z3 0 (h:=xM (h:=xW Zfr (h:=x1 lk9 1 (h:=xR Zwk rfl (Zkf _ _ _ _ _ _ x ↑g.k u 1 _ (by omega) (by assumption) hrr (by omega) _ hf) (h:=?_))))))))))
  refine Zc rfl (fun g4 => ?_) (fun g4 => ?_)
  try simp only [sQ, ne_eq] at g4
  refine Z7 (keeps _ [0, 1] _) mo (by kernel_rfl) ⟨Kn.le.refl _, Zat.refl _ _⟩ (fun _ _ => ?_)
  refine aM 0 rfl (h:=aW 1 rfl ZZ (h:=aT 2 rfl (ZG fun D B L hI => Zl rfl rfl Zb3 rfl (atL 0 (hI.2.1.trans rfl) rfl rfl) r4) (h:=aM 3 rfl (h:=?_))))
  obtain ⟨bb8, oo8, rfl⟩ := hf.base hw
  obtain ⟨_, ⟨qg9, cg9, qm9, cm9, rfl, hg9, hm9, hb9, hb9b⟩, hc9⟩ := hf.elem hw
  have hg9n := hg9.len
  have hm9n := hm9.len
  have hm9s := ZS hm9
  refine aIx 4 rfl Tryz.underlying24 ZaD (h:=aW 5 rfl Zbi (h:=aT 6 rfl (ZG fun D B L hI => Zl rfl rfl lk9 rfl ((hc9.mono hI.1) _ 0 _ rfl) r4) (h:=aW 7 rfl ZZ (h:=aT 8 rfl (ZG fun D B L hI => Zl rfl rfl Zb3 rfl (atL 0 (hI.2.1.trans rfl) rfl rfl) r4) (h:=aM 9 rfl (h:=aIx 10 rfl Tryz.underlying24 ZaD (h:=aW 11 rfl Zc1 (h:=aT 12 rfl (ZG fun D B L hI => Zl rfl rfl lk9 rfl ((hc9.mono hI.1) _ 1 _ rfl) r4) (h:=Zao [13, 14] (by kernel_rfl) (by kernel_rfl) (by kernel_rfl) ⟨?_, ?_⟩)))))))))
  refine (Zu (parts := []) [] rfl rfl Tryz.underlying36 Zbn ZcH rfl rfl rfl rfl rfl (fun b10 => ⟨⟨Kn.le.refl _, ⟨rfl, rfl, trivial⟩⟩, (Zr 14 (by kernel_rfl) rfl (by kernel_rfl) (Zu (parts := []) [] rfl rfl Tryz.underlying37 Zcv Zfy rfl rfl rfl rfl rfl (fun b11 => ?_)))⟩))
  refine ⟨⟨Kn.le.refl _, ⟨rfl, rfl, trivial⟩⟩, (aT 15 rfl (ZG fun D B L hI => Zav (parts := [(1, _)]) [_, _] [_, _] rfl rfl Zl2 ZeD rfl rfl rfl r4) (h:=aT 16 rfl (ZG fun D B L hI => Zav (parts := [(0, _), (1, _), (2, _), (3, _)]) [_, _, _, _, _] [_, _, _, _, _] rfl rfl Zre Zb8 rfl rfl rfl r4) (h:=Zax 3 rfl (Z4.lit0 (R := Zx) (w := 2)) Zx.mono (by first | omega | decide | (simp; done) | (simp; omega)) (fun B' hle' => ⟨hle', ⟨rfl, rfl, trivial⟩⟩) (fun B12 hle12 hr12 => ?_))))⟩
  replace hu := hu.mono Zg.mono hle12
  replace hf := hf.mono Zb.mono hle12
  replace hi := hi.mono Zj.mono hle12
  replace hg9 := hg9.mono Zx.mono hle12
  replace hm9 := hm9.mono ZD.mono hle12
  replace hc9 := hc9.mono hle12
  replace hv := hv.mono Zb.mono hle12
  have hr12n := hr12.len
  refine Zax 4 rfl (Z4.lit0 (R := ZD) (w := 3)) ZD.mono (by first | omega | decide | (simp; done) | (simp; omega)) (fun B' hle' => ⟨hle12.trans hle', ⟨rfl, rfl, trivial⟩⟩) (fun B13 hle13 hr13 => ?_)
  replace hu := hu.mono Zg.mono hle13
  replace hf := hf.mono Zb.mono hle13
  replace hi := hi.mono Zj.mono hle13
  replace hg9 := hg9.mono Zx.mono hle13
  replace hm9 := hm9.mono ZD.mono hle13
  replace hc9 := hc9.mono hle13
  replace hr12 := hr12.mono Zx.mono hle13
  replace hv := hv.mono Zb.mono hle13
  have hr13n := hr13.len
  refine Zr 17 (by kernel_rfl) rfl (by kernel_rfl) (Zu (parts := [(0, _)]) [_, _, _, _, _] rfl rfl Tryz.underlying24 ZaD Zb8 rfl rfl rfl rfl rfl (fun b14 => ?_))
  refine ⟨⟨(hle12.trans hle13), ⟨rfl, rfl, trivial⟩⟩, (Zr 18 (by kernel_rfl) rfl (by kernel_rfl) (ZaK (z := ⟨w.owner, w.name, [], 0, []⟩) (R := Zb) 2 rfl hv rfl rfl rfl ZgP Zgz rfl rfl (ZaI.box 5 rfl) rfl rfl (⟨_, _, _, _, rfl, hr12, hr13, by first | assumption | omega | (simp; done) | (simp; omega), by first | assumption | omega | (simp; done) | (simp; omega)⟩) (by first | omega | (simp; done) | (simp; omega)) (fun l15 p15 c15 hv15 => ?_)))⟩
  refine ⟨⟨(hle12.trans hle13), ⟨rfl, rfl, trivial⟩⟩, (aA 19 rfl (h:=ZC (by kernel_rfl) (by kernel_rfl) ?_))⟩
  refine Zy (Zf (Zd (xM (h:=xD (h:=xA (h:=?_))))))
  exact ZA ⟨g.k + 1, 0, l15, p15, c15, (g.xs ++ [⟨w.owner, w.name, [], 0, []⟩])⟩ [0, 1, 2] (by first | omega | (simp only []; omega)) ⟨by simp only []; omega, by simp only []; exact ZdZ hxs (Zid g2 g3) hw g4, by simp; omega, hv15⟩ ⟨rfl, rfl, rfl, rfl, rfl, rfl, rfl, trivial⟩ rfl
  refine (Zu (parts := []) [] rfl rfl Tryz.underlying37 Zcv Zfy rfl rfl rfl rfl rfl (fun b16 => ⟨⟨Kn.le.refl _, ⟨rfl, rfl, trivial⟩⟩, (aT 15 rfl (ZG fun D B L hI => Zav (parts := [(1, _)]) [_, _] [_, _] rfl rfl Zl2 ZeD rfl rfl rfl r4) (h:=Zr 13 (by kernel_rfl) rfl (by kernel_rfl) (Zu (parts := []) [] rfl rfl Tryz.underlying36 Zbn ZcH rfl rfl rfl rfl rfl (fun b17 => ?_))))⟩))
  refine ⟨⟨Kn.le.refl _, ⟨rfl, rfl, trivial⟩⟩, (aT 16 rfl (ZG fun D B L hI => Zav (parts := [(0, _), (1, _), (2, _), (3, _)]) [_, _, _, _, _] [_, _, _, _, _] rfl rfl Zre Zb8 rfl rfl rfl r4) (h:=Zax 4 rfl (Z4.lit0 (R := Zx) (w := 2)) Zx.mono (by first | omega | decide | (simp; done) | (simp; omega)) (fun B' hle' => ⟨hle', ⟨rfl, rfl, trivial⟩⟩) (fun B18 hle18 hr18 => ?_)))⟩
  replace hu := hu.mono Zg.mono hle18
  replace hf := hf.mono Zb.mono hle18
  replace hi := hi.mono Zj.mono hle18
  replace hg9 := hg9.mono Zx.mono hle18
  replace hm9 := hm9.mono ZD.mono hle18
  replace hc9 := hc9.mono hle18
  replace hv := hv.mono Zb.mono hle18
  have hr18n := hr18.len
  refine Zax 3 rfl (Z4.lit0 (R := ZD) (w := 3)) ZD.mono (by first | omega | decide | (simp; done) | (simp; omega)) (fun B' hle' => ⟨hle18.trans hle', ⟨rfl, rfl, trivial⟩⟩) (fun B19 hle19 hr19 => ?_)
  replace hu := hu.mono Zg.mono hle19
  replace hf := hf.mono Zb.mono hle19
  replace hi := hi.mono Zj.mono hle19
  replace hg9 := hg9.mono Zx.mono hle19
  replace hm9 := hm9.mono ZD.mono hle19
  replace hc9 := hc9.mono hle19
  replace hr18 := hr18.mono Zx.mono hle19
  replace hv := hv.mono Zb.mono hle19
  have hr19n := hr19.len
  refine Zr 17 (by kernel_rfl) rfl (by kernel_rfl) (Zu (parts := [(0, _)]) [_, _, _, _, _] rfl rfl Tryz.underlying24 ZaD Zb8 rfl rfl rfl rfl rfl (fun b20 => ?_))
  refine ⟨⟨(hle18.trans hle19), ⟨rfl, rfl, trivial⟩⟩, (Zr 18 (by kernel_rfl) rfl (by kernel_rfl) (ZaK (z := ⟨w.owner, w.name, [], 0, []⟩) (R := Zb) 2 rfl hv rfl rfl rfl ZgP Zgz rfl rfl (ZaI.box 5 rfl) rfl rfl (⟨_, _, _, _, rfl, hr18, hr19, by first | assumption | omega | (simp; done) | (simp; omega), by first | assumption | omega | (simp; done) | (simp; omega)⟩) (by first | omega | (simp; done) | (simp; omega)) (fun l21 p21 c21 hv21 => ?_)))⟩
  refine ⟨⟨(hle18.trans hle19), ⟨rfl, rfl, trivial⟩⟩, (aA 19 rfl (h:=ZC (by kernel_rfl) (by kernel_rfl) ?_))⟩
  refine Zy (Zf (Zd (xM (h:=xD (h:=xA (h:=?_))))))
  exact ZA ⟨g.k + 1, 0, l21, p21, c21, (g.xs ++ [⟨w.owner, w.name, [], 0, []⟩])⟩ [0, 1, 2] (by first | omega | (simp only []; omega)) ⟨by simp only []; omega, by simp only []; exact ZdZ hxs (Zid g2 g3) hw g4, by simp; omega, hv21⟩ ⟨rfl, rfl, rfl, rfl, rfl, rfl, rfl, trivial⟩ rfl
  try simp only [sQ, ne_eq] at g4
  refine Zh (Zy (Zf (Zd (xM (h:=xD (h:=xA (h:=?_)))))))
  exact ZA ⟨g.k + 1, 0, g.l, g.a, g.c, g.xs⟩ [0, 1, 2] (by first | omega | (simp only []; omega)) ⟨by simp only []; omega, by simp only []; exact Zd0 hxs (Zid g2 g3) hw (by simpa [Zv4] using g4), by simp only []; omega, hv⟩ ⟨rfl, rfl, rfl, rfl, rfl, rfl, rfl, trivial⟩ rfl
  try simp only [sQ, ne_eq] at g3
  have hxe := Zin hxs (.inr (ZpM (by first | omega | simpa using g3)))
  refine ZU (Zad (ZV (ZF (Zf (Za (xM (h:=ZY 2 rfl hv Zb.mono (by first | omega | decide | (simp; done) | (simp; omega)) (fun B22 hle22 hr22 => ?_))))))))
  replace hu := hu.mono Zg.mono hle22
  replace hf := hf.mono Zb.mono hle22
  replace hi := hi.mono Zj.mono hle22
  have hr22n := hr22.len
  refine xA (h:=Zw [_, _, _] rfl (Zi ?_))
  exact Zag .ret (.inl rfl) [_] [] rfl ⟨rfl, trivial⟩ (by rw [← hxe]; exact ⟨rfl, _, _, rfl, hr22⟩)
  try simp only [sQ, ne_eq] at g2
  have hxe := Zin hxs (.inr (ZpN g2))
  refine xP (h:=xP (h:=xP (h:=xP (h:=xP (h:=xP (h:=xF (h:=Zc (t := false) rfl (fun h => Bool.noConfusion h) (fun _ => ZU (Zad (ZV (ZF (Zf (Za (xM (h:=ZY 2 rfl hv Zb.mono (by first | omega | decide | (simp; done) | (simp; omega)) (fun B23 hle23 hr23 => ?_))))))))))))))))
  replace hu := hu.mono Zg.mono hle23
  replace hf := hf.mono Zb.mono hle23
  replace hi := hi.mono Zj.mono hle23
  have hr23n := hr23.len
  refine xA (h:=Zw [_, _, _] rfl (Zi ?_))
  exact Zag .ret (.inl rfl) [_] [] rfl ⟨rfl, trivial⟩ (by rw [← hxe]; exact ⟨rfl, _, _, rfl, hr23⟩)
  try simp only [sQ, ne_eq] at g1
  have hxe := Zin hxs (.inl (by omega))
  refine xP (h:=xP (h:=xF (h:=xM (h:=xP (h:=xP (h:=xP (h:=xP (h:=xP (h:=xP (h:=xF (h:=Zc (t := false) rfl (fun h => Bool.noConfusion h) (fun _ => ZU (Zad (ZV (ZF (Zf ?_))))))))))))))))
  refine Za (xM (h:=ZY 2 rfl hv Zb.mono (by first | omega | decide | (simp; done) | (simp; omega)) (fun B24 hle24 hr24 => ?_)))
  replace hu := hu.mono Zg.mono hle24
  replace hf := hf.mono Zb.mono hle24
  replace hi := hi.mono Zj.mono hle24
  have hr24n := hr24.len
  refine xA (h:=Zw [_, _, _] rfl (Zi ?_))
  exact Zag .ret (.inl rfl) [_] [] rfl ⟨rfl, trivial⟩ (by rw [← hxe]; exact ⟨rfl, _, _, rfl, hr24⟩)

set_option maxRecDepth 4000 in
set_option maxHeartbeats 400000 in
theorem Zpi (hJ : Joins Tryz.prog J) (q1 q2 q3 : Option Addr) (c1 c2 c3 : Nat) (x : DHost) (u : Str) (hn : u.length ≤ 2000000) (hd : x.domain.length ≤ 2000000) (B : Kn) (hu : SlK B q1 c1 3 Zg x.users) (hf : SlK B q2 c2 5 Zb x.folders) (hi : SlK B q3 c3 4 Zj x.queue.items) : ZN (pj J) 8 [.agg #[str x.domain, .slice q1 x.users.length c1, .slice q2 x.folders.length c2, .int .i64 x.queue.next, .slice q3 x.queue.items.length c3], str u] B [] (fun v B' Ls => Ls = [] ∧ ∃ p cp, v = .slice p (ZeG x u).length cp ∧ SlK B' p cp 5 Zb (ZeG x u)) := by
  refine Ze 42 Tryz.func8 rfl rfl rfl (Nat.le_of_ble_eq_true rfl) ?_
  have hfn := hf.len
  refine Za (xBx [_, _, _, _, _] (h:=fun b1 => xA (h:=Zw [_] rfl (ZnV 0 rfl (fun B2 hle2 hpm2 => ?_)))))
  have hc2 := ZcW hpm2
  replace hu := hu.mono Zg.mono hle2
  replace hf := hf.mono Zb.mono hle2
  replace hi := hi.mono Zj.mono hle2
  refine Za (xBs [] [] Tryz.underlying24 ZaD Zb8 (h:=fun b3 => xA (h:=Zw [_, _] rfl (Zk (Za (yL [_, _, _, _, _] Z3 hc2 0 (h:=Zp (Zac rfl rfl Zwo rfl (ZfQ hJ _ _ _ _ _ _ x (by first | assumption | omega | (simp; done) | (simp; omega)) _ hu hf hi) ?_))))))))
  intro v4 B4 hle4
  rintro rfl
  replace hu := hu.mono Zg.mono hle4
  replace hf := hf.mono Zb.mono hle4
  replace hi := hi.mono Zj.mono hle4
  replace hc2 := hc2.mono hle4
  refine xN (h:=Zc rfl (fun g1 => ?_) (fun g1 => ?_))
  try simp only [sQ, ne_eq] at g1
  rw [Zrr (by simpa using g1)]
  refine Za (xM (h:=xA (h:=Zi (Zs ?_))))
  exact Zag .ret (.inl rfl) [_] [] rfl ⟨rfl, trivial⟩ ⟨rfl, _, _, rfl, SlK.nil⟩
  try simp only [sQ, ne_eq] at g1
  refine Zh (Zf (Zk (Za (xW ZZ (h:=y1 Zb3 hc2 2 (h:=xV Tryz.underlying24 (h:=xM (h:=Zo (ZR (α := Gh DFolder) [0, 1, 2, 4, 11, 14, 15] (fun g => [(5, .slice g.a g.xs.length g.c), (16, .int .i64 g.k)]) [1] (fun g => [g.l]) (fun g Bx => g.k ≤ x.folders.length ∧ g.xs = Zd1 (Zz x) (Zod x u) Zhl x.folders g.k ∧ g.xs.length ≤ g.k ∧ Z4 Bx g.l g.a g.c 41 5 Zb g.xs) (fun g => x.folders.length - g.k) ⟨0, 0, _, _, _, []⟩ ⟨rfl, rfl, trivial⟩ rfl (⟨Nat.zero_le _, Zff, Nat.le_refl _, Z4.lit0⟩) (fun g B5 hle5 hI => ?_))))))))))
  obtain ⟨hk, hxs, hxl, hv⟩ := hI
  replace hu := hu.mono Zg.mono hle5
  replace hf := hf.mono Zb.mono hle5
  replace hi := hi.mono Zj.mono hle5
  replace hc2 := hc2.mono hle5
  refine ZP [(0, _), (1, _), (2, _), (4, _), (5, _), (11, _), (14, _), (15, _), (16, _)] [_, _] ⟨rfl, rfl, rfl, rfl, rfl, rfl, rfl, rfl, rfl, trivial⟩ rfl (Za (Zae (h:=Zk (Zc rfl (fun g2 => ?_) (fun g2 => ?_)))))
  try simp only [sQ, ne_eq] at g2
  refine Zh (Zf (Zk (Zo (Za ?_))))
  obtain ⟨w, hw⟩ := Zan (xs := x.folders) (i := g.k) (by first | omega | (simp; done) | (simp; omega))
  obtain ⟨bb7, oo7, rfl⟩ := hf.base hw
  obtain ⟨_, ⟨qg8, cg8, qm8, cm8, rfl, hg8, hm8, hb8, hb8b⟩, hc8⟩ := hf.elem hw
  have hg8n := hg8.len
  have hm8n := hm8.len
  have hm8s := ZS hm8
  refine xIx Tryz.underlying24 ZaD (h:=yL [_, _, _, _, _] Zfn hc8 0 (h:=xAl [_, _, _, _, _] Zb8 (h:=fun b9 => xS [_, _, _, _, _] 2 [_, _, _, _, _] ZaD (h:=Zw [_, _, _] rfl (Za (xM (h:=xL [_, _, _, _, _] Zfn 2 (h:=xR Zwn rfl (ZtE _ _ _ _ _ _ _ _ x _ _ _ _ u w _ (by first | assumption | omega | (simp; done) | (simp; omega)) (by first | assumption | omega | (simp; done) | (simp; omega)) _ hc2 hu hg8) (h:=?_)))))))))
  refine xM (h:=Zt (d := 23) rfl (fun g3 => ?_) (fun g3 => ?_))
  try simp only [sQ, ne_eq] at g3
  refine xM (h:=xL [_, _, _, _, _] Zfn 2 (h:=xR Zwn rfl (ZtE _ _ _ _ _ _ _ _ x _ _ _ _ u w _ (by first | assumption | omega | (simp; done) | (simp; omega)) (by first | assumption | omega | (simp; done) | (simp; omega)) _ hc2 hu hg8) (h:=?_)))
  refine xT (h:=Zc rfl (fun g4 => ?_) (fun g4 => ?_))
  try simp only [sQ, ne_eq] at g4
  refine Z7 (keeps _ [2] _) mo (by kernel_rfl) ⟨Kn.le.refl _, Zat.refl _ _⟩ (fun _ _ => ?_)
  refine aM 0 rfl (h:=aW 1 rfl Zbi (h:=aT 2 rfl (ZG fun D B L hI => Zl rfl rfl lk9 rfl (atL 2 (hI.2.1.trans rfl) rfl rfl) r4) (h:=aW 3 rfl Zc1 (h:=aT 4 rfl (ZG fun D B L hI => Zl rfl rfl lk9 rfl (atL 2 (hI.2.1.trans rfl) rfl rfl) r4) (h:=aW 6 rfl Zbh (h:=aT 7 rfl (ZG fun D B L hI => Z8 [_, _] rfl rfl ZbD rfl (Zaj 2 (hI.2.1.trans rfl) rfl rfl) r4) (h:=Zao [5, 8] (by kernel_rfl) (by kernel_rfl) (by kernel_rfl) ⟨?_, ?_⟩)))))))
  refine (Zu (parts := []) [] rfl rfl Tryz.underlying36 Zbn ZcH rfl rfl rfl rfl rfl (fun b12 => ⟨⟨Kn.le.refl _, ⟨rfl, trivial⟩⟩, (Zr 8 (by kernel_rfl) rfl (by kernel_rfl) (Zaf rfl rfl Zwm rfl (ZgR _ _ (⟨w.next, w.mail⟩ : DBox) _ hm8) ?_))⟩))
  rintro _ _ _ hle13 ⟨rfl, l13, a13, c13, rfl, rfl, hs13⟩
  refine ⟨⟨Kn.le.refl _, ⟨rfl, trivial⟩⟩, (aT 9 rfl (ZG fun D B L hI => Zav (parts := [(0, _), (1, _), (2, _), (3, _)]) [_, _, _, _, _] [_, _, _, _, _] rfl rfl Zre Zb8 rfl rfl rfl r4) (h:=Zax 3 rfl (Z4.lit0 (R := Zx) (w := 2)) Zx.mono (by first | omega | decide | (simp; done) | (simp; omega)) (fun B' hle' => ⟨hle', ⟨rfl, trivial⟩⟩) (fun B14 hle14 hr14 => ?_)))⟩
  replace hu := hu.mono Zg.mono hle14
  replace hf := hf.mono Zb.mono hle14
  replace hi := hi.mono Zj.mono hle14
  replace hc2 := hc2.mono hle14
  replace hm8 := hm8.mono ZD.mono hle14
  replace hv := hv.mono Zb.mono hle14
  replace hg8 := hg8.mono Zx.mono hle14
  replace hs13 := hs13.mono ZD.mono hle14
  have hr14n := hr14.len
  refine Zax 4 rfl hs13 ZD.mono (by first | omega | decide | (simp; done) | (simp; omega)) (fun B' hle' => ⟨hle14.trans hle', ⟨rfl, trivial⟩⟩) (fun B15 hle15 hr15 => ?_)
  replace hu := hu.mono Zg.mono hle15
  replace hf := hf.mono Zb.mono hle15
  replace hi := hi.mono Zj.mono hle15
  replace hc2 := hc2.mono hle15
  replace hm8 := hm8.mono ZD.mono hle15
  replace hr14 := hr14.mono Zx.mono hle15
  replace hv := hv.mono Zb.mono hle15
  replace hg8 := hg8.mono Zx.mono hle15
  have hr15n := hr15.len
  refine Zr 10 (by kernel_rfl) rfl (by kernel_rfl) (Zu (parts := [(0, _)]) [_, _, _, _, _] rfl rfl Tryz.underlying24 ZaD Zb8 rfl rfl rfl rfl rfl (fun b16 => ?_))
  refine ⟨⟨(hle14.trans hle15), ⟨rfl, trivial⟩⟩, (Zr 11 (by kernel_rfl) rfl (by kernel_rfl) (ZaK (z := ⟨w.owner, w.name, [], w.next, w.mail⟩) (R := Zb) 1 rfl hv rfl rfl rfl ZgP Zgz rfl rfl (ZaI.box 5 rfl) rfl rfl (⟨_, _, _, _, rfl, hr14, hr15, by first | assumption | omega | (simp; done) | (simp; omega), by first | assumption | omega | (simp; done) | (simp; omega)⟩) (by first | omega | (simp; done) | (simp; omega)) (fun l17 p17 c17 hv17 => ?_)))⟩
  refine ⟨⟨(hle14.trans hle15), ⟨rfl, trivial⟩⟩, (aA 12 rfl (h:=ZC (by kernel_rfl) (by kernel_rfl) ?_))⟩
  refine Zy (Zf (Zd (xD (h:=xM (h:=?_)))))
  exact ZA ⟨g.k + 1, 0, l17, p17, c17, (g.xs ++ [⟨w.owner, w.name, [], w.next, w.mail⟩])⟩ [0, 1] (by first | omega | (simp only []; omega)) ⟨by simp only []; omega, by simp only []; exact ZdZ hxs (by simpa using g1) hw (by simp [Zod, g3, g4]), by simp; omega, hv17⟩ ⟨rfl, rfl, rfl, rfl, rfl, rfl, rfl, rfl, rfl, trivial⟩ rfl
  refine (Zaf rfl rfl Zwm rfl (ZgR _ _ (⟨w.next, w.mail⟩ : DBox) _ hm8) ?_)
  rintro _ _ _ hle18 ⟨rfl, l18, a18, c18, rfl, rfl, hs18⟩
  refine ⟨⟨Kn.le.refl _, ⟨rfl, trivial⟩⟩, (Zr 5 (by kernel_rfl) rfl (by kernel_rfl) (Zu (parts := []) [] rfl rfl Tryz.underlying36 Zbn ZcH rfl rfl rfl rfl rfl (fun b19 => ?_)))⟩
  refine ⟨⟨Kn.le.refl _, ⟨rfl, trivial⟩⟩, (aT 9 rfl (ZG fun D B L hI => Zav (parts := [(0, _), (1, _), (2, _), (3, _)]) [_, _, _, _, _] [_, _, _, _, _] rfl rfl Zre Zb8 rfl rfl rfl r4) (h:=Zax 4 rfl (Z4.lit0 (R := Zx) (w := 2)) Zx.mono (by first | omega | decide | (simp; done) | (simp; omega)) (fun B' hle' => ⟨hle', ⟨rfl, trivial⟩⟩) (fun B20 hle20 hr20 => ?_)))⟩
  replace hu := hu.mono Zg.mono hle20
  replace hf := hf.mono Zb.mono hle20
  replace hi := hi.mono Zj.mono hle20
  replace hc2 := hc2.mono hle20
  replace hm8 := hm8.mono ZD.mono hle20
  replace hv := hv.mono Zb.mono hle20
  replace hg8 := hg8.mono Zx.mono hle20
  replace hs18 := hs18.mono ZD.mono hle20
  have hr20n := hr20.len
  refine Zax 3 rfl hs18 ZD.mono (by first | omega | decide | (simp; done) | (simp; omega)) (fun B' hle' => ⟨hle20.trans hle', ⟨rfl, trivial⟩⟩) (fun B21 hle21 hr21 => ?_)
  replace hu := hu.mono Zg.mono hle21
  replace hf := hf.mono Zb.mono hle21
  replace hi := hi.mono Zj.mono hle21
  replace hc2 := hc2.mono hle21
  replace hm8 := hm8.mono ZD.mono hle21
  replace hr20 := hr20.mono Zx.mono hle21
  replace hv := hv.mono Zb.mono hle21
  replace hg8 := hg8.mono Zx.mono hle21
  have hr21n := hr21.len
  refine Zr 10 (by kernel_rfl) rfl (by kernel_rfl) (Zu (parts := [(0, _)]) [_, _, _, _, _] rfl rfl Tryz.underlying24 ZaD Zb8 rfl rfl rfl rfl rfl (fun b22 => ?_))
  refine ⟨⟨(hle20.trans hle21), ⟨rfl, trivial⟩⟩, (Zr 11 (by kernel_rfl) rfl (by kernel_rfl) (ZaK (z := ⟨w.owner, w.name, [], w.next, w.mail⟩) (R := Zb) 1 rfl hv rfl rfl rfl ZgP Zgz rfl rfl (ZaI.box 5 rfl) rfl rfl (⟨_, _, _, _, rfl, hr20, hr21, by first | assumption | omega | (simp; done) | (simp; omega), by first | assumption | omega | (simp; done) | (simp; omega)⟩) (by first | omega | (simp; done) | (simp; omega)) (fun l23 p23 c23 hv23 => ?_)))⟩
  refine ⟨⟨(hle20.trans hle21), ⟨rfl, trivial⟩⟩, (aA 12 rfl (h:=ZC (by kernel_rfl) (by kernel_rfl) ?_))⟩
  refine Zy (Zf (Zd (xD (h:=xM (h:=?_)))))
  exact ZA ⟨g.k + 1, 0, l23, p23, c23, (g.xs ++ [⟨w.owner, w.name, [], w.next, w.mail⟩])⟩ [0, 1] (by first | omega | (simp only []; omega)) ⟨by simp only []; omega, by simp only []; exact ZdZ hxs (by simpa using g1) hw (by simp [Zod, g3, g4]), by simp; omega, hv23⟩ ⟨rfl, rfl, rfl, rfl, rfl, rfl, rfl, rfl, rfl, trivial⟩ rfl
  try simp only [sQ, ne_eq] at g4
  refine Zh (Zy (Zf (Zd (xD (h:=xM (h:=?_))))))
  exact ZA ⟨g.k + 1, 0, g.l, g.a, g.c, g.xs⟩ [0, 1] (by first | omega | (simp only []; omega)) ⟨by simp only []; omega, by simp only []; exact Zd0 hxs (by simpa using g1) hw (by simp [Zod, g3, g4]), by simp only []; omega, hv⟩ ⟨rfl, rfl, rfl, rfl, rfl, rfl, rfl, rfl, rfl, trivial⟩ rfl
  try simp only [sQ, ne_eq] at g3
  refine xP (h:=xP (h:=xP (h:=xF (h:=Zc (t := false) rfl (fun h => Bool.noConfusion h) (fun _ => Zh (Zy (Zf (Zd (xD (h:=xM (h:=?_)))))))))))
  exact ZA ⟨g.k + 1, 0, g.l, g.a, g.c, g.xs⟩ [0, 1] (by first | omega | (simp only []; omega)) ⟨by simp only []; omega, by simp only []; exact Zd0 hxs (by simpa using g1) hw (by simp [Zod, g3]), by simp only []; omega, hv⟩ ⟨rfl, rfl, rfl, rfl, rfl, rfl, rfl, rfl, rfl, trivial⟩ rfl
  try simp only [sQ, ne_eq] at g2
  have hxe := Zph hxs (by omega)
  refine ZU (Zad (ZV (ZF (Zf (Za (xM (h:=ZY 1 rfl hv Zb.mono (by first | omega | decide | (simp; done) | (simp; omega)) (fun B24 hle24 hr24 => ?_))))))))
  replace hu := hu.mono Zg.mono hle24
  replace hf := hf.mono Zb.mono hle24
  replace hi := hi.mono Zj.mono hle24
  replace hc2 := hc2.mono hle24
  have hr24n := hr24.len
  refine xA (h:=Zw [_, _] rfl (Zi ?_))
  exact Zag .ret (.inl rfl) [_] [] rfl ⟨rfl, trivial⟩ (by rw [← hxe]; exact ⟨rfl, _, _, rfl, hr24⟩)

set_option maxRecDepth 4000 in
set_option maxHeartbeats 400000 in
theorem Zpg (q1 q2 q3 : Option Addr) (c1 c2 c3 : Nat) (x : DHost) (u : Str) (hn : u.length ≤ 2000000) (hd : x.domain.length ≤ 2000000) (B : Kn) (hu : SlK B q1 c1 3 Zg x.users) (hf : SlK B q2 c2 5 Zb x.folders) (hi : SlK B q3 c3 4 Zj x.queue.items) : ZN (pj J) 9 [.agg #[str x.domain, .slice q1 x.users.length c1, .slice q2 x.folders.length c2, .int .i64 x.queue.next, .slice q3 x.queue.items.length c3], str u] B [] (fun v B' Ls => Ls = [] ∧ ∃ p cp, v = .slice p (ZjY x u).length cp ∧ SlK B' p cp 5 Zb (ZjY x u)) := by
  refine Ze 45 Tryz.func9 rfl rfl rfl (Nat.le_of_ble_eq_true rfl) ?_
  have hfn := hf.len
  have hix := Zkl x.users u
  refine Za (xBx [_, _, _, _, _] (h:=fun b1 => xA (h:=Zw [_] rfl (Za (xBs [] [] Tryz.underlying24 ZaD Zb8 (h:=fun b2 => xA (h:=Zw [_, _] rfl (Zk (Za (xA (h:=Zo (ZR (α := Gh DFolder) [0, 1, 2, 4] (fun g => [(5, .slice g.a g.xs.length g.c), (6, .int .i64 g.k)]) [1] (fun g => [g.l]) (fun g Bx => g.k ≤ x.folders.length ∧ g.xs = Zd1 (okU x u) (ZrA u) Zhl x.folders g.k ∧ g.xs.length ≤ g.k ∧ Z4 Bx g.l g.a g.c 41 5 Zb g.xs) (fun g => x.folders.length - g.k) ⟨0, 0, _, _, _, []⟩ ⟨rfl, rfl, trivial⟩ rfl (⟨Nat.zero_le _, Zff, Nat.le_refl _, Z4.lit0⟩) (fun g B3 hle3 hI => ?_)))))))))))))
  obtain ⟨hk, hxs, hxl, hv⟩ := hI
  replace hu := hu.mono Zg.mono hle3
  replace hf := hf.mono Zb.mono hle3
  replace hi := hi.mono Zj.mono hle3
  refine ZP [(0, _), (1, _), (2, _), (4, _), (5, _), (6, _)] [_, _] ⟨rfl, rfl, rfl, rfl, rfl, rfl, trivial⟩ rfl (Zk (Za (xM (h:=xW ZZ (h:=x1 Zb3 0 (h:=xV Tryz.underlying24 (h:=Zae (h:=xM (h:=Zt (d := 14) rfl (fun g1 => ?_) (fun g1 => ?_))))))))))
  try simp only [sQ, ne_eq] at g1
  refine xL [_, _, _, _, _] Z3 0 (h:=xR ZnJ rfl (ZaS _ _ _ _ _ _ x (by first | assumption | omega | (simp; done) | (simp; omega)) _ hu hf hi) (h:=?_))
  refine xT (h:=xM (h:=Zt (d := 18) rfl (fun g2 => ?_) (fun g2 => ?_)))
  try simp only [sQ, ne_eq] at g2
  refine xW ZbN (h:=x1 Zim 0 (h:=xM (h:=xR Zrf rfl (Zcc _ _ _ _ _ hu) (h:=ZdB (h:=xT (h:=Zc rfl (fun g3 => ?_) (fun g3 => ?_)))))))
  try simp only [sQ, ne_eq] at g3
  have hrr := Zbf g2
  obtain ⟨w, hw⟩ := Zan (xs := x.folders) (i := g.k) (by omega)
  have hwt : x.folders[((g.k : Nat) : Int).toNat]? = some w := hw
  refine Zh (Zf (Zk (Zo (Za (xL [_, _, _, _, _] Z3 0 (h:=xM (h:=xM (h:=xR Zus rfl (Zdg _ _ _ _ _ _ x u ↑g.k 2 (by omega) hrr (by omega) _ hu hf) (h:=?_)))))))))
  refine ZJ (h:=Zc rfl (fun g4 => ?_) (fun g4 => ?_))
  try simp only [sQ, ne_eq] at g4
  refine Za (xW ZZ (h:=x1 Zb3 0 (h:=xM (h:=?_))))
  obtain ⟨bb7, oo7, rfl⟩ := hf.base hw
  obtain ⟨_, ⟨qg8, cg8, qm8, cm8, rfl, hg8, hm8, hb8, hb8b⟩, hc8⟩ := hf.elem hw
  have hg8n := hg8.len
  have hm8n := hm8.len
  have hm8s := ZS hm8
  refine xIx Tryz.underlying24 ZaD (h:=yL [_, _, _, _, _] Zfn hc8 0 (h:=Zp (Zaf rfl rfl Zxj rfl (Ziq _ _ _ _ w _ hg8 hm8) ?_)))
  rintro _ _ _ hle9 ⟨rfl, l9, a9, c9, l9b, a9b, c9b, rfl, rfl, hs9, hs9b⟩
  refine xAl [_, _, _, _, _] Zb8 (h:=fun b10 => xS [_, _, _, _, _] 4 [_, _, _, _, _] ZaD (h:=Zw [_, _, _, _, _] rfl (Za (xBs [] [] Tryz.underlying36 Zbn ZcH (h:=fun b11 => xW ZbU (h:=xS [_] 4 [_, _, _, _, _] Zur (h:=Zw [_, _, _, _, _, _] rfl (Zd (xM (h:=xL [_, _, _, _, _] Zfn 4 (h:=ZY 5 rfl (Z4.lit0 (R := Zx) (w := 2)) Zx.mono (by first | omega | decide | (simp; done) | (simp; omega)) (fun B12 hle12 hr12 => ?_))))))))))))
  replace hu := hu.mono Zg.mono hle12
  replace hf := hf.mono Zb.mono hle12
  replace hi := hi.mono Zj.mono hle12
  replace hv := hv.mono Zb.mono hle12
  replace hs9 := hs9.mono Zx.mono hle12
  replace hs9b := hs9b.mono ZD.mono hle12
  have hr12n := hr12.len
  refine ZY 3 rfl hs9b ZD.mono (by first | omega | decide | (simp; done) | (simp; omega)) (fun B13 hle13 hr13 => ?_)
  replace hu := hu.mono Zg.mono hle13
  replace hf := hf.mono Zb.mono hle13
  replace hi := hi.mono Zj.mono hle13
  replace hr12 := hr12.mono Zx.mono hle13
  replace hv := hv.mono Zb.mono hle13
  replace hs9 := hs9.mono Zx.mono hle13
  have hr13n := hr13.len
  refine xBs [(0, _)] [_, _, _, _, _] Tryz.underlying24 ZaD Zb8 (h:=fun b14 => Zp (ZaK (z := ⟨w.owner, w.name, [], w.next, w.mail⟩) (R := Zb) 1 rfl hv rfl rfl rfl ZgP Zgz rfl rfl (ZaI.box 6 rfl) rfl rfl (⟨_, _, _, _, rfl, hr12, hr13, by first | assumption | omega | (simp; done) | (simp; omega), by first | assumption | omega | (simp; done) | (simp; omega)⟩) (by first | omega | (simp; done) | (simp; omega)) (fun l15 p15 c15 hv15 => ?_)))
  refine xA (h:=Zy (Zf (Zd (xM (h:=xD (h:=xA (h:=?_)))))))
  exact ZA ⟨g.k + 1, 0, l15, p15, c15, (g.xs ++ [⟨w.owner, w.name, [], w.next, w.mail⟩])⟩ [0, 1] (by first | omega | (simp only []; omega)) ⟨by simp only []; omega, by simp only []; exact ZdZ hxs (Zid g2 g3) hw (by rw [← ZnP g3 hw]; simpa using g4), by simp; omega, hv15⟩ ⟨rfl, rfl, rfl, rfl, rfl, rfl, trivial⟩ rfl
  try simp only [sQ, ne_eq] at g4
  refine Zh (Zy (Zf (Zd (xM (h:=xD (h:=xA (h:=?_)))))))
  exact ZA ⟨g.k + 1, 0, g.l, g.a, g.c, g.xs⟩ [0, 1] (by first | omega | (simp only []; omega)) ⟨by simp only []; omega, by simp only []; exact Zd0 hxs (Zid g2 g3) hw (by rw [← ZnP g3 hw]; simpa using g4), by simp only []; omega, hv⟩ ⟨rfl, rfl, rfl, rfl, rfl, rfl, trivial⟩ rfl
  try simp only [sQ, ne_eq] at g3
  have hxe := ZhT hxs (.inr (ZpM (by first | omega | simpa using g3)))
  refine ZU (Zad (ZV (ZF (Zf (Za (xM (h:=ZY 1 rfl hv Zb.mono (by first | omega | decide | (simp; done) | (simp; omega)) (fun B16 hle16 hr16 => ?_))))))))
  replace hu := hu.mono Zg.mono hle16
  replace hf := hf.mono Zb.mono hle16
  replace hi := hi.mono Zj.mono hle16
  have hr16n := hr16.len
  refine xA (h:=Zw [_, _] rfl (Zi ?_))
  exact Zag .ret (.inl rfl) [_] [] rfl ⟨rfl, trivial⟩ (by rw [← hxe]; exact ⟨rfl, _, _, rfl, hr16⟩)
  try simp only [sQ, ne_eq] at g2
  have hxe := ZhT hxs (.inr (ZpN g2))
  refine xP (h:=xP (h:=xP (h:=xP (h:=xP (h:=xF (h:=Zc (t := false) rfl (fun h => Bool.noConfusion h) (fun _ => ZU (Zad (ZV (ZF (Zf (Za (xM (h:=ZY 1 rfl hv Zb.mono (by first | omega | decide | (simp; done) | (simp; omega)) (fun B17 hle17 hr17 => ?_)))))))))))))))
  replace hu := hu.mono Zg.mono hle17
  replace hf := hf.mono Zb.mono hle17
  replace hi := hi.mono Zj.mono hle17
  have hr17n := hr17.len
  refine xA (h:=Zw [_, _] rfl (Zi ?_))
  exact Zag .ret (.inl rfl) [_] [] rfl ⟨rfl, trivial⟩ (by rw [← hxe]; exact ⟨rfl, _, _, rfl, hr17⟩)
  try simp only [sQ, ne_eq] at g1
  have hxe := ZhT hxs (.inl (by omega))
  refine xP (h:=xP (h:=xF (h:=xM (h:=xP (h:=xP (h:=xP (h:=xP (h:=xP (h:=xF (h:=Zc (t := false) rfl (fun h => Bool.noConfusion h) (fun _ => ZU (Zad (ZV (ZF (Zf (Za ?_))))))))))))))))
  refine xM (h:=ZY 1 rfl hv Zb.mono (by first | omega | decide | (simp; done) | (simp; omega)) (fun B18 hle18 hr18 => ?_))
  replace hu := hu.mono Zg.mono hle18
  replace hf := hf.mono Zb.mono hle18
  replace hi := hi.mono Zj.mono hle18
  have hr18n := hr18.len
  refine xA (h:=Zw [_, _] rfl (Zi ?_))
  exact Zag .ret (.inl rfl) [_] [] rfl ⟨rfl, trivial⟩ (by rw [← hxe]; exact ⟨rfl, _, _, rfl, hr18⟩)

set_option maxHeartbeats 400000 in
theorem Zlq (b:Nat) (q:Option Addr) (m cp p:Nat) (hp:p≤750000000000) (hm:m≤2000) (q1 q2 q3:Option Addr) (d1 d2 d3:Nat) (x:DHost) (B:Kn) (hbm:Zai B q m) (hf:SlK B q2 d2 5 Zb x.folders):Ex1 (pj J) 38 [ptr ⟨b,0,none⟩,.agg #[str x.domain,.slice q1 x.users.length d1,.slice q2 x.folders.length d2,.int .i64 x.queue.next,.slice q3 x.queue.items.length d3]] B (rd b q m cp p) (fun v s=>∃(w y z:Str) (k:Nat),v = .agg #[str w,str y,str z]∧w.length≤2000000∧y.length≤2000000∧z.length≤2000000∧k≤p+12∧s=rd b q m cp k):=by
 refine Ze 25 Tryz.func38 rfl rfl rfl (Nat.le_of_ble_eq_true rfl) ?_
 refine Za (xBx [_,_,_,_,_] (h:=fun b1=>xAl [_,_,_] Zri (h:=fun b2=>Zw [_,_,_] rfl (Za (xM (h:=xL [_,_,_,_,_] Z3 1 (h:=xX 0 rfl ZxQ rfl (ZrV _ _ _ _ _ oz hm _ _ _ _ _ _ _ _ hbm hf) (h:=?_))))))))
 rintro _ _ ⟨yo,zo,ko,rfl,hyo,hzo,hko,rfl⟩
 refine xM (h:=xE (h:=xE (h:=xA (h:=xA (h:=Zw [_,_,_] rfl (Za (xM (h:=xM (h:=xM (h:=xB [(0,_),(1,_),(2,_)] [_,_,_] [_,_,_] Zv6 Zri (h:=xAl [_,_,_] Zri (h:=fun b4=>xS [_,_,_] 3 [_,_,_] Ztm (h:=?_)))))))))))))
 refine Zw [_,_,_,_] rfl (Zk (Za (xM (h:=xX 0 rfl Za0 rfl (ZO _ _ _ _ _ _ oz oz oz hm _ hbm) (h:=?_)))))
 rintro _ _ ⟨rn,rfl,rna,rnb,rfl⟩
 refine ZJ (h:=Zw [_,_,_,_] rfl (Zc rfl (fun g1=>?_) (fun g1=>?_)))
 try simp only [sQ,ne_eq] at g1
 refine Zd (xM (h:=xX 0 rfl ZvJ rfl (Zgk _ _ _ _ _ oz hm _ hbm) (h:=?_)))
 rintro _ _ ⟨xu,ku,rfl,hxu,hku,rfl⟩
 refine xW Zfr (h:=xS [_] 3 [_,_,_] sz9 (h:=Zf (Za (xL [_,_,_] Zmw 3 (h:=xS [_,_,_] 2 [_,_,_] Ztm (h:=Zw [_,_,_,_] rfl (Zi ?_)))))))
 exact ZfW .ret (.inl rfl) [_] 0 rfl ⟨⟨_,rfl,.inr ⟨[_,_,_],Zmw,Zaj 2 rfl rfl rfl,rfl⟩⟩,trivial⟩ ⟨rfl,_,rfl,_,_,_,_,rfl,oz,oa,oa,oz,rfl⟩
 try simp only [sQ,ne_eq] at g1
 refine Zh (Zf (Za (xL [_,_,_] Zmw 3 (h:=xS [_,_,_] 2 [_,_,_] Ztm (h:=Zw [_,_,_,_] rfl (Zi ?_))))))
 exact ZfW .ret (.inl rfl) [_] 0 rfl ⟨⟨_,rfl,.inr ⟨[_,_,_],Zmw,Zaj 2 rfl rfl rfl,rfl⟩⟩,trivial⟩ ⟨rfl,_,rfl,_,_,_,_,rfl,oa,oa,oa,oz,rfl⟩

set_option maxHeartbeats 400000 in
theorem ZnL (q:Option Addr) (m cp:Nat) (hmc:m≤cp) (B:Kn) (hb:Zai B q m):ZN (pj J) 14 [.slice q m cp] B [] (fun v B' Ls=>Ls=[]∧∃(x:DHost) (p1 p2 p3:Option Addr) (d1 d2 d3:Nat) (w y z:Str),v = .tuple #[.agg #[str x.domain,.slice p1 x.users.length d1,.slice p2 x.folders.length d2,.int .i64 x.queue.next,.slice p3 x.queue.items.length d3],.agg #[str w,str y,str z]]∧SlK B' p1 d1 3 Zg x.users∧SlK B' p2 d2 5 Zb x.folders∧SlK B' p3 d3 4 Zj x.queue.items∧x.domain.length≤2000000∧w.length≤2000000∧y.length≤2000000∧z.length≤2000000):=by
 refine Ze 14 Tryz.func14 rfl rfl rfl (Nat.le_of_ble_eq_true rfl) ?_
 refine Za (xAl [_,_,_,_,_] Za2 (h:=fun b1=>xAl [_,_,_] Zri (h:=fun b2=>Zw [_,_] rfl (Za (xM (h:=Zp (Zpa rfl rfl Zxg rfl (Znv _ _ _ oz _ (oy)) ?_)))))))
 rintro _ _ ⟨bop,qop,mop,cpop,rfl,rfl,hm,hbm⟩
 refine xA (h:=Zw [_,_,_] rfl (Za (xM (h:=Zp (Zab [2] rfl rfl rfl rfl Zxf rfl (Znu _ _ _ _ _ oz hm _ hbm) ?_)))))
 rintro _ Bh _ hleh ⟨xh,p1h,p2h,p3h,d1h,d2h,d3h,kh,rfl,huh,hfh,hih,hdh,hkh,rfl⟩
 replace hbm:=hbm.mono hleh
 have huhn:=huh.len
 have hfhn:=hfh.len
 have hihn:=hih.len
 refine xAl [_,_,_,_,_] Za2 (h:=fun b5=>xS [_,_,_,_,_] 3 [_,_,_,_,_] Zay (h:=Zw [_,_,_,_] rfl (Zk (Z7 (keeps _ [3] _) mo kr ⟨Kn.le.refl _,Zat.refl _ _⟩ (fun _ _=>?_)))))
 refine aT 0 rfl (ZG fun D B L hI=>Z8 [_,_,_,_,_] rfl rfl Z3 rfl (Zaj 3 (hI.2.1.trans rfl) rfl rfl) r4) (h:=aM 1 rfl (h:=aT 2 rfl (ZG fun D B L hI=>Z8 [_,_,_,_,_] rfl rfl Z3 rfl (Zaj 3 (hI.2.1.trans rfl) rfl rfl) r4) (h:=Zr 3 kr rfl kr (Zci 2 rfl rfl rfl Zx3 rfl (Zlq _ _ _ _ _ oz hm _ _ _ _ _ _ _ _ hbm hfh) ?_))))
 rintro _ _ ⟨ws,ys,zs,ks,rfl,hws,hys,hzs,hks,rfl⟩
 refine ⟨⟨Kn.le.refl _,t1⟩,(Zbu 4 kr rfl kr kr (ZQ [_,_,_,_,_] 0 [_,_,_,_,_] rfl rfl Zay rfl rfl rfl rfl rfl rfl rfl rfl ?_))⟩
 refine Z0 5 kr rfl kr kr kr (ZQ [_,_,_] 1 [_,_,_] rfl rfl Ztm rfl rfl rfl rfl rfl rfl rfl rfl ?_)
 refine Zf (Zw [_,_,_,_] rfl (Zi ?_))
 exact Zag .ret (.inl rfl) [_,_] [] rfl ⟨⟨_,rfl,.inr ⟨[_,_,_,_,_],Z3,Zaj 0 rfl rfl rfl,rfl⟩⟩,⟨_,rfl,.inr ⟨[_,_,_],Zmw,Zaj 1 rfl rfl rfl,rfl⟩⟩,trivial⟩ ⟨rfl,xh,_,_,_,_,_,_,_,_,_,rfl,huh,hfh,hih,hdh,oa,oa,oa⟩

set_option maxHeartbeats 400000 in
theorem ZnK (q:Option Addr) (m cp:Nat) (hmc:m≤cp) (B:Kn) (hb:Zai B q m):ZN (pj J) 7 [.slice q m cp] B [] (fun v B' Ls=>Ls=[]∧∃(x:DHost) (p1 p2 p3:Option Addr) (d1 d2 d3:Nat) (w:Str),v = .tuple #[.agg #[str x.domain,.slice p1 x.users.length d1,.slice p2 x.folders.length d2,.int .i64 x.queue.next,.slice p3 x.queue.items.length d3],str w]∧SlK B' p1 d1 3 Zg x.users∧SlK B' p2 d2 5 Zb x.folders∧SlK B' p3 d3 4 Zj x.queue.items∧x.domain.length≤2000000∧w.length≤2000000):=by
 refine Ze 8 Tryz.func7 rfl rfl rfl (Nat.le_of_ble_eq_true rfl) ?_
 refine Za (xAl [_,_,_,_,_] Za2 (h:=fun b1=>xA (h:=Zw [_] rfl (Za (xM (h:=Zp (Zac rfl rfl Zx8 rfl (Zsp _ _ _ oz _ (oy)) ?_)))))))
 intro vh Bh hleh
 rintro ⟨xh,p1h,p2h,p3h,d1h,d2h,d3h,wh,rfl,huh,hfh,hih,hdh,hwh⟩
 have huhn:=huh.len
 have hfhn:=hfh.len
 have hihn:=hih.len
 refine xE (h:=xE (h:=xS [_,_,_,_,_] 0 [_,_,_,_,_] Zay (h:=xA (h:=Zw [_] rfl (Zi ?_)))))
 exact Zag .ret (.inl rfl) [_,_] [] rfl ⟨⟨_,rfl,.inr ⟨[_,_,_,_,_],Z3,Zaj 0 rfl rfl rfl,rfl⟩⟩,rfl,trivial⟩ ⟨rfl,xh,_,_,_,_,_,_,_,rfl,huh,hfh,hih,hdh,oa⟩

set_option maxHeartbeats 400000 in
theorem Zob (hJ:Joins Tryz.prog J) (q1 q2 q3:Option Addr) (c1 c2 c3:Nat) (x:DHost) (u o n:Str) (hn:u.length≤2000000) (ho:o.length≤2000000) (hm:n.length≤2000000) (hd:x.domain.length≤2000000) (B:Kn) (hu:SlK B q1 c1 3 Zg x.users) (hf:SlK B q2 c2 5 Zb x.folders) (hi:SlK B q3 c3 4 Zj x.queue.items):ZN (pj J) 18 [.agg #[str x.domain,.slice q1 x.users.length c1,.slice q2 x.folders.length c2,.int .i64 x.queue.next,.slice q3 x.queue.items.length c3],str u,str o,str n] B [] (fun v B' Ls=>Ls=[]∧v = .int .i64 (ZeN x u o n)):=by
 refine Ze 25 Tryz.func18 rfl rfl rfl (Nat.le_of_ble_eq_true rfl) ?_
 refine Za (xBx [_,_,_,_,_] (h:=fun b1=>xA (h:=Zw [_] rfl (Za (xL [_,_,_,_,_] Z3 0 (h:=xM (h:=xM (h:=Zp (Zac rfl rfl Zws rfl (ZeZ hJ _ _ _ _ _ _ x o n om2 om2 om2 _ hu hf hi) ?_)))))))))
 intro vf Bf hlef
 rintro ⟨qaf,caf,qbf,cbf,rfl,hgf,hmf⟩
 replace hu:=hu.mono Zg.mono hlef
 replace hf:=hf.mono Zb.mono hlef
 replace hi:=hi.mono Zj.mono hlef
 have hgfn:=hgf.len
 have hmfn:=hmf.len
 refine xM (h:=xE (h:=xE (h:=xAl [_,_,_,_,_] Zb8 (h:=fun b3=>xS [_,_,_,_,_] 1 [_,_,_,_,_] ZaD (h:=xA (h:=Zw [_,_] rfl (Zk (Za (xM (h:=xN (h:=Zc rfl (fun g1=>?_) (fun g1=>?_))))))))))))
 try simp only [sQ,ne_eq] at g1
 refine Za (xA (h:=Zi (Zs ?_)))
 exact Z2 .ret (.inl rfl) [_] t1 ⟨rfl,ZaW (Zoa (by simpa using g1)).symm⟩
 try simp only [sQ,ne_eq] at g1
 refine Zh (Zf (Za (xW ZbU (h:=x1 Zlm 1 (h:=xM (h:=xM (h:=xR Zvb rfl (Zdx _ _ ((ZL x o n).1.grants) o u om2 om2 _ hgf) (h:=?_))))))))
 refine xA (h:=Zi ?_)
 exact Z2 .ret (.inl rfl) [_] t1 ⟨rfl,ZaW (Zia (by simpa using g1)).symm⟩

set_option maxHeartbeats 1600000 in
theorem ZmQ (q:Option Addr) (m cp:Nat) (hmc:m≤cp) (B:Kn) (hb:Zai B q m) :∃code,Tryz.f4.body=some code∧wpS (pj (Zhr Tryz.prog)) 72 code (ZgS (pj (Zhr Tryz.prog)) [.tmp 2] (fun v B' Ls=>v = .bool true)) (Zdw [.slice q m cp] 0) [] B []:=by
 have hJ:=Zen Tryz.prog
 refine ⟨_,rfl,(Za (xA (h:=Zk (Za (xM (h:=xV Tryz.underlying22 (h:=Zbx (h:=Zc rfl (fun g0=>?_) (fun g0=>?_)))))))))⟩
 try simp only [sQ,ne_eq] at g0
 refine Za (xA (h:=Zi (Zs ?_)))
 exact Z2 .ret (.inl rfl) [_] t1 rfl
 try simp only [sQ,ne_eq] at g0
 refine Zh (Zf (Za (xM (h:=Zp (Zac rfl rfl Zxl rfl (ZnL _ _ _ oz _ (oy)) ?_)))))
 intro va Ba hlea
 rintro ⟨xa,p1a,p2a,p3a,d1a,d2a,d3a,wa,ya,za,rfl,hua,hfa,hia,hda,hwa,hya,hza⟩
 have huan:=hua.len
 have hfan:=hfa.len
 have hian:=hia.len
 refine xM (h:=xE (h:=xE (h:=xAl [_,_,_,_,_] Za2 (h:=fun b2=>xAl [_,_,_] Zri (h:=fun b3=>xS [_,_,_,_,_] 0 [_,_,_,_,_] Zay (h:=xS [_,_,_] 1 [_,_,_] Ztm (h:=Zw [_,_] rfl (Za (xL [_,_,_,_,_] Z3 0 (h:=xL [_,_,_] Zmw 1 (h:=Zp (Zac rfl rfl ZwQ rfl (Zmx hJ _ _ _ _ _ _ xa wa ya za om2 om2 _ hua hfa hia) ?_))))))))))))
 intro v4 B4 hle4
 rintro ⟨p4,cp4,rfl,hl4⟩
 replace hua:=hua.mono Zg.mono hle4
 replace hfa:=hfa.mono Zb.mono hle4
 replace hia:=hia.mono Zj.mono hle4
 have hl4n:=hl4.len
 refine xA (h:=Za (xL [_,_,_,_,_] Z3 0 (h:=xL [_,_,_] Zmw 1 (h:=Zp (Zac rfl rfl Zxk rfl (Zp6 _ _ _ _ _ _ xa wa ya za om2 om2 _ hua hfa hia) ?_)))))
 intro v5 B5 hle5
 rintro ⟨p5,cp5,rfl,hl5⟩
 replace hl4:=hl4.mono Zb.mono hle5
 replace hua:=hua.mono Zg.mono hle5
 replace hfa:=hfa.mono Zb.mono hle5
 replace hia:=hia.mono Zj.mono hle5
 have hl5n:=hl5.len
 refine xA (h:=Zk (Za (xM (h:=xM (h:=xR Zs5 rfl (Zbc _ _ _ _ _ _ _ hl4 hl5) (h:=xN (h:=xM (h:=Zt (d:=27) rfl (fun g1=>by simp [Zem] at g1) (fun g1=>?_)))))))))
 try simp only [sQ,ne_eq] at g1
 refine xL [_,_,_,_,_] Z3 0 (h:=xR ZnJ rfl (ZaS _ _ _ _ _ _ xa om2 _ hua hfa hia) (h:=?_))
 refine xN (h:=xF (h:=xM (h:=Zt (d:=32) rfl (fun g2=>?_) (fun g2=>?_))))
 try simp only [sQ,ne_eq] at g2
 refine xP (h:=xP (h:=xP (h:=xP (h:=xP (h:=xP (h:=xT (h:=Zc (t:=true) rfl (fun _=>Za (xM (h:=xM (h:=xR Zs5 rfl (Zbc _ _ _ _ _ _ _ hl4 hl5) (h:=xA (h:=?_)))))) (fun h=>Bool.noConfusion h))))))))
 refine Zi (Zs ?_)
 exact Z2 .ret (.inl rfl) [_] t1 (Zn (by simp [Zem]))
 try simp only [sQ,ne_eq] at g2
 refine xW ZbN (h:=x1 Zim 0 (h:=xW Zfr (h:=x1 lk9 1 (h:=xR Zxm rfl (Zqa _ _ xa.users wa _ hua) (h:=xN (h:=xF (h:=Zc rfl (fun g3=>?_) (fun g3=>?_))))))))
 try simp only [sQ,ne_eq] at g3
 refine Za (xM (h:=xM (h:=xR Zs5 rfl (Zbc _ _ _ _ _ _ _ hl4 hl5) (h:=xA (h:=Zi (Zs ?_))))))
 exact Z2 .ret (.inl rfl) [_] t1 (Zn (by simp [Zem]))
 try simp only [sQ,ne_eq] at g3
 have hok:Zz xa=true:=g2
 have hui:0≤ZcC xa.users wa:=by simpa using g3
 refine Zh (Zf (Za (xA (h:=Zk (Za (xA (h:=Zo (ZR (α:=Nat × Nat) [0,2,3,4,5,6,11,39] (fun g=>[(7,.int .i64 g.2),(8,.int .i64 g.1)]) [] (fun g=>[]) (fun g Bx=>Bx=B5∧g.1≤xa.folders.length∧g.2=(xa.folders.take g.1).countP (fun f=>ZjV 1 (Zb1 f.grants f.owner wa) 1)∧g.2≤g.1) (fun g=>xa.folders.length - g.1) (0,0) t2 rfl (⟨rfl,Nat.zero_le _,rfl,Nat.le_refl _⟩) (fun g B11 hle11 hI=>?_)))))))))
 obtain ⟨rfl,hk,hs,hl⟩:=hI
 refine ZP [(0,_),(2,_),(3,_),(4,_),(5,_),(6,_),(7,_),(8,_),(11,_),(39,_)] [_,_] t10 rfl (Zk (Za (xM (h:=xW ZZ (h:=x1 Zb3 0 (h:=xV Tryz.underlying24 (h:=Zae (h:=Zc rfl (fun g4=>?_) (fun g4=>?_)))))))))
 try simp only [sQ,ne_eq] at g4
 obtain ⟨w,hw⟩:=Zan (xs:=xa.folders) (i:=g.1) oz
 have hab:=Zi1 (u:=wa) hok (List.mem_of_getElem? hw)
 refine Zh (Zf (Zk (Zo (Zk (Z7 (same _ _) mo kr ⟨rfl,rfl⟩ (fun _ _=>?_))))))
 refine aW 0 rfl ZZ (h:=aT 1 rfl (Zak fun D=>Zl rfl rfl Zb3 rfl (atL 0 rfl rfl rfl) r4) (h:=aM 2 rfl (h:=?_)))
 obtain ⟨bb12,oo12,rfl⟩:=hfa.base hw
 obtain ⟨_,⟨qg13,cg13,qm13,cm13,rfl,hg13,hm13,hb13,hb13b⟩,hc13⟩:=hfa.elem hw
 have hg13n:=hg13.len
 have hm13n:=hm13.len
 have hm13s:=ZS hm13
 refine aIx 3 rfl Tryz.underlying24 ZaD (h:=aW 4 rfl ZbU (h:=aT 5 rfl (Zak fun D=>Zl rfl rfl Zlm rfl (hc13 _ 2 _ rfl) r4) (h:=aW 6 rfl ZZ (h:=aT 7 rfl (Zak fun D=>Zl rfl rfl Zb3 rfl (atL 0 rfl rfl rfl) r4) (h:=aM 8 rfl (h:=aIx 9 rfl Tryz.underlying24 ZaD (h:=aW 10 rfl Zbi (h:=aT 11 rfl (Zak fun D=>Zl rfl rfl lk9 rfl (hc13 _ 0 _ rfl) r4) (h:=aW 12 rfl Zfr (h:=aT 13 rfl (Zak fun D=>Zl rfl rfl lk9 rfl (atL 1 rfl rfl rfl) r4) (h:=aT 14 rfl (Zak fun D=>ZaC rfl rfl Zvb rfl (Zdx _ _ w.grants w.owner wa om2 om2 _ hg13) r4) (h:=?_))))))))))))
 refine aT 15 rfl (Zak fun D=>ZaC rfl rfl Zut rfl (ZgU (Zb1 w.grants w.owner wa) 1 om2 om2 om2 om2 _) r4) (h:=?_)
 refine ZC kr kr ?_
 refine Zf (Zc rfl (fun g5=>?_) (fun g5=>?_))
 try simp only [sQ,ne_eq] at g5
 refine Zd (xM (h:=xD (h:=xA (h:=Zy (Zf (Zd (xM (h:=xD (h:=xA (h:=?_))))))))))
 exact ZA (g.1+1,g.2+1) [0,1] so2 ⟨rfl,so,ZkB hw hs g5,so⟩ t10 rfl
 try simp only [sQ,ne_eq] at g5
 refine Zh (Zy (Zf (Zd (xM (h:=xD (h:=xA (h:=?_)))))))
 exact ZA (g.1+1,g.2) [0,1] so2 ⟨rfl,so,ZkA hw hs (by simpa using g5),so⟩ t10 rfl
 try simp only [sQ,ne_eq] at g4
 have hse:=ZrR hok hui (ZmY hs oz)
 refine ZU (Zad (ZV (ZF (Zf (Za (xM (h:=xM (h:=xV Tryz.underlying24 (h:=ZJ (h:=xA (h:=Zi ?_)))))))))))
 exact Z2 .ret (.inl rfl) [_] t1 (Zn (decide_eq_true (by rw [hse])))

set_option maxHeartbeats 1600000 in
theorem ZmP (q:Option Addr) (m cp:Nat) (hmc:m≤cp) (B:Kn) (hb:Zai B q m) :∃code,Tryz.f3.body=some code∧wpS (pj (Zhr Tryz.prog)) 89 code (ZgS (pj (Zhr Tryz.prog)) [.tmp 2] (fun v B' Ls=>v = .bool true)) (Zdw [.slice q m cp] 0) [] B []:=by
 have hJ:=Zen Tryz.prog
 refine ⟨_,rfl,(Za (xA (h:=Zk (Za (xM (h:=xV Tryz.underlying22 (h:=Zbx (h:=Zc rfl (fun g0=>?_) (fun g0=>?_)))))))))⟩
 try simp only [sQ,ne_eq] at g0
 refine Za (xA (h:=Zi (Zs ?_)))
 exact Z2 .ret (.inl rfl) [_] t1 rfl
 try simp only [sQ,ne_eq] at g0
 refine Zh (Zf (Za (xM (h:=Zp (Zac rfl rfl en7 rfl (ZnK _ _ _ oz _ (oy)) ?_)))))
 intro va Ba hlea
 rintro ⟨xa,p1a,p2a,p3a,d1a,d2a,d3a,wa,rfl,hua,hfa,hia,hda,hwa⟩
 have huan:=hua.len
 have hfan:=hfa.len
 have hian:=hia.len
 refine xM (h:=xE (h:=xE (h:=xAl [_,_,_,_,_] Za2 (h:=fun b2=>xS [_,_,_,_,_] 0 [_,_,_,_,_] Zay (h:=xA (h:=Zw [_] rfl (Za (xL [_,_,_,_,_] Z3 0 (h:=xM (h:=Zp (Zac rfl rfl en8 rfl (Zpi hJ _ _ _ _ _ _ xa wa om2 om2 _ hua hfa hia) ?_)))))))))))
 intro v3 B3 hle3
 rintro ⟨p3,cp3,rfl,hl3⟩
 replace hua:=hua.mono Zg.mono hle3
 replace hfa:=hfa.mono Zb.mono hle3
 replace hia:=hia.mono Zj.mono hle3
 have hl3n:=hl3.len
 refine xA (h:=Za (xL [_,_,_,_,_] Z3 0 (h:=xM (h:=Zp (Zac rfl rfl en9 rfl (Zpg _ _ _ _ _ _ xa wa om2 om2 _ hua hfa hia) ?_)))))
 intro v4 B4 hle4
 rintro ⟨p4,cp4,rfl,hl4⟩
 replace hl3:=hl3.mono Zb.mono hle4
 replace hua:=hua.mono Zg.mono hle4
 replace hfa:=hfa.mono Zb.mono hle4
 replace hia:=hia.mono Zj.mono hle4
 have hl4n:=hl4.len
 refine xA (h:=Zk (Za (xM (h:=xM (h:=xR Zs5 rfl (Zbc _ _ _ _ _ _ _ hl3 hl4) (h:=xN (h:=xM (h:=Zt (d:=29) rfl (fun g1=>by simp [Zeh] at g1) (fun g1=>?_)))))))))
 try simp only [sQ,ne_eq] at g1
 refine xL [_,_,_,_,_] Z3 0 (h:=xR ZnJ rfl (ZaS _ _ _ _ _ _ xa om2 _ hua hfa hia) (h:=?_))
 refine xN (h:=xF (h:=xM (h:=Zt (d:=34) rfl (fun g2=>?_) (fun g2=>?_))))
 try simp only [sQ,ne_eq] at g2
 refine xP (h:=xP (h:=xP (h:=xP (h:=xP (h:=xT (h:=Zc (t:=true) rfl (fun _=>Za (xM (h:=xM (h:=xR Zs5 rfl (Zbc _ _ _ _ _ _ _ hl3 hl4) (h:=xA (h:=Zi (Zs ?_))))))) (fun h=>Bool.noConfusion h)))))))
 exact Z2 .ret (.inl rfl) [_] t1 (Zn (by simp [Zeh]))
 try simp only [sQ,ne_eq] at g2
 refine xW ZbN (h:=x1 Zim 0 (h:=xM (h:=xR Zxm rfl (Zqa _ _ xa.users wa _ hua) (h:=xN (h:=xF (h:=Zc rfl (fun g3=>?_) (fun g3=>?_)))))))
 try simp only [sQ,ne_eq] at g3
 refine Za (xM (h:=xM (h:=xR Zs5 rfl (Zbc _ _ _ _ _ _ _ hl3 hl4) (h:=xA (h:=Zi (Zs ?_))))))
 exact Z2 .ret (.inl rfl) [_] t1 (Zn (by simp [Zeh]))
 try simp only [sQ,ne_eq] at g3
 have hok:Zz xa=true:=g2
 have hui:0≤ZcC xa.users wa:=by simpa using g3
 refine Zh (Zf (Za (xA (h:=Zk (Za (xA (h:=Zo (ZR (α:=Nat × Nat) [0,2,3,4,5,6,13,40] (fun g=>[(7,.int .i64 g.2),(8,.int .i64 g.1)]) [] (fun g=>[]) (fun g Bx=>Bx=B4∧g.1≤(ZeG xa wa).length∧g.2=((ZeG xa wa).take g.1).countP (fun f=>decide (f.owner=wa))∧g.2≤g.1) (fun g=>(ZeG xa wa).length - g.1) (0,0) t2 rfl (⟨rfl,Nat.zero_le _,rfl,Nat.le_refl _⟩) (fun g B10 hle10 hI=>?_)))))))))
 obtain ⟨rfl,hk,hs,hl⟩:=hI
 refine ZP [(0,_),(2,_),(3,_),(4,_),(5,_),(6,_),(7,_),(8,_),(13,_),(40,_)] [_] t10 rfl (Zk (Za (xM (h:=xM (h:=xV Tryz.underlying24 (h:=Zae (h:=Zc rfl (fun g4=>?_) (fun g4=>?_))))))))
 try simp only [sQ,ne_eq] at g4
 refine Zh (Zf (Zk (Zo (Za (xM (h:=xM (h:=?_)))))))
 obtain ⟨w,hw⟩:=Zan (xs:=(ZeG xa wa)) (i:=g.1) om
 obtain ⟨bb12,oo12,rfl⟩:=hl3.base hw
 obtain ⟨_,⟨qg13,cg13,qm13,cm13,rfl,hg13,hm13,hb13,hb13b⟩,hc13⟩:=hl3.elem hw
 have hg13n:=hg13.len
 have hm13n:=hm13.len
 have hm13s:=ZS hm13
 refine xIx Tryz.underlying24 ZaD (h:=xW Zbi (h:=y1 lk9 hc13 0 (h:=xM (h:=ZcF (h:=Zc rfl (fun g5=>?_) (fun g5=>?_))))))
 try simp only [sQ,ne_eq] at g5
 refine Zd (xM (h:=xD (h:=xA (h:=Zy (Zf (Zd (xM (h:=xD (h:=xA (h:=?_))))))))))
 exact ZA (g.1+1,g.2+1) [0] so2 ⟨rfl,so,ZkB hw hs (by simp [g5]),so⟩ t10 rfl
 try simp only [sQ,ne_eq] at g5
 refine Zh (Zy (Zf (Zd (xM (h:=xD (h:=xA (h:=?_)))))))
 exact ZA (g.1+1,g.2) [0] so2 ⟨rfl,so,ZkA hw hs (by simp [g5]),so⟩ t10 rfl
 try simp only [sQ,ne_eq] at g4
 have hv1:=ZmY hs oz
 clear hs hk hl
 obtain ⟨nv,hnv⟩ :∃nv,nv=g.2:=⟨_,rfl⟩
 refine ZU (Zad (ZV (ZF (Zf (Za (xA (h:=Zk (Za (xA (h:=Zo (ZR (α:=Nat × Nat) [0,2,3,4,5,6,7,8,13,40,47] (fun g=>[(9,.int .i64 g.2),(10,.int .i64 g.1)]) [] (fun g=>[]) (fun g Bx=>Bx=B10∧g.1≤xa.folders.length∧g.2=(xa.folders.take g.1).countP (fun f=>decide (f.owner=wa))∧g.2≤g.1) (fun g=>xa.folders.length - g.1) (0,0) t2 rfl (⟨rfl,Nat.zero_le _,rfl,Nat.le_refl _⟩) (fun g B14 hle14 hI=>?_))))))))))))
 obtain ⟨rfl,hk,hs,hl⟩:=hI
 refine ZP [(0,_),(2,_),(3,_),(4,_),(5,_),(6,_),(7,_),(8,_),(9,_),(10,_),(13,_),(40,_),(47,_)] [_] t13 rfl (Zk (Za (xM (h:=xW ZZ (h:=x1 Zb3 0 (h:=xV Tryz.underlying24 (h:=Zae (h:=Zc rfl (fun g6=>?_) (fun g6=>?_)))))))))
 try simp only [sQ,ne_eq] at g6
 refine Zh (Zf (Zk (Zo (Za (xW ZZ (h:=x1 Zb3 0 (h:=xM (h:=?_))))))))
 obtain ⟨w,hw⟩:=Zan (xs:=xa.folders) (i:=g.1) om
 obtain ⟨bb16,oo16,rfl⟩:=hfa.base hw
 obtain ⟨_,⟨qg17,cg17,qm17,cm17,rfl,hg17,hm17,hb17,hb17b⟩,hc17⟩:=hfa.elem hw
 have hg17n:=hg17.len
 have hm17n:=hm17.len
 have hm17s:=ZS hm17
 refine xIx Tryz.underlying24 ZaD (h:=xW Zbi (h:=y1 lk9 hc17 0 (h:=xM (h:=ZcF (h:=Zc rfl (fun g7=>?_) (fun g7=>?_))))))
 try simp only [sQ,ne_eq] at g7
 refine Zd (xM (h:=xD (h:=xA (h:=Zy (Zf (Zd (xM (h:=xD (h:=xA (h:=?_))))))))))
 exact ZA (g.1+1,g.2+1) [0] so2 ⟨rfl,so,ZkB hw hs (by simp [g7]),so⟩ t13 rfl
 try simp only [sQ,ne_eq] at g7
 refine Zh (Zy (Zf (Zd (xM (h:=xD (h:=xA (h:=?_)))))))
 exact ZA (g.1+1,g.2) [0] so2 ⟨rfl,so,ZkA hw hs (by simp [g7]),so⟩ t13 rfl
 try simp only [sQ,ne_eq] at g6
 have hv2:=ZmY hs oz
 refine ZU (Zad (ZV (ZF (Zf (Za (xM (h:=xM (h:=ZJ (h:=xM (h:=Zt (d:=79) rfl (fun g8=>?_) (fun g8=>by have h1:=hv1.trans (Zrp hok hui);rw [← hv2] at h1;simp [h1] at g8)))))))))))
 try simp only [sQ,ne_eq] at g8
 refine xM (h:=xV Tryz.underlying24 (h:=xL [_,_,_,_,_] Z3 0 (h:=xM (h:=xB [(0,_)] [_,_,_] [_,_,_] Zv6 Zri (h:=Zp (Zac rfl rfl ZwQ rfl (Zmx hJ _ _ _ _ _ _ xa wa [] [] om2 om2 _ hua hfa hia) ?_))))))
 intro v18 B18 hle18
 rintro ⟨p18,cp18,rfl,hl18⟩
 replace hl3:=hl3.mono Zb.mono hle18
 replace hl4:=hl4.mono Zb.mono hle18
 replace hua:=hua.mono Zg.mono hle18
 replace hfa:=hfa.mono Zb.mono hle18
 replace hia:=hia.mono Zj.mono hle18
 have hl18n:=hl18.len
 refine xV Tryz.underlying24 (h:=ZcE (h:=xT (h:=xA (h:=Zi ?_))))
 exact Z2 .ret (.inl rfl) [_] t1 (Zn (decide_eq_true (by have:=Zrq hok hui;omega)))

set_option maxHeartbeats 1600000 in
theorem Zsh (q:Option Addr) (m cp:Nat) (hmc:m≤cp) (B:Kn) (hb:Zai B q m) :∃code,Tryz.f5.body=some code∧wpS (pj (Zhr Tryz.prog)) 79 code (ZgS (pj (Zhr Tryz.prog)) [.tmp 2] (fun v B' Ls=>v = .bool true)) (Zdw [.slice q m cp] 0) [] B []:=by
 have hJ:=Zen Tryz.prog
 refine ⟨_,rfl,(Za (xA (h:=Zk (Za (xM (h:=xV Tryz.underlying22 (h:=Zbx (h:=Zc rfl (fun g0=>?_) (fun g0=>?_)))))))))⟩
 try simp only [sQ,ne_eq] at g0
 refine Za (xA (h:=Zi (Zs ?_)))
 exact Z2 .ret (.inl rfl) [_] t1 rfl
 try simp only [sQ,ne_eq] at g0
 refine Zh (Zf (Za (xM (h:=Zp (Zac rfl rfl Zxl rfl (ZnL _ _ _ oz _ (oy)) ?_)))))
 intro va Ba hlea
 rintro ⟨xa,p1a,p2a,p3a,d1a,d2a,d3a,wa,ya,za,rfl,hua,hfa,hia,hda,hwa,hya,hza⟩
 have huan:=hua.len
 have hfan:=hfa.len
 have hian:=hia.len
 refine xM (h:=xE (h:=xE (h:=xAl [_,_,_,_,_] Za2 (h:=fun b2=>xAl [_,_,_] Zri (h:=fun b3=>xS [_,_,_,_,_] 0 [_,_,_,_,_] Zay (h:=xS [_,_,_] 1 [_,_,_] Ztm (h:=Zw [_,_] rfl (Za (xL [_,_,_,_,_] Z3 0 (h:=xL [_,_,_] Zmw 1 (h:=Zp (Zac rfl rfl ZwQ rfl (Zmx hJ _ _ _ _ _ _ xa wa ya za om2 om2 _ hua hfa hia) ?_))))))))))))
 intro v4 B4 hle4
 rintro ⟨p4,cp4,rfl,hl4⟩
 replace hua:=hua.mono Zg.mono hle4
 replace hfa:=hfa.mono Zb.mono hle4
 replace hia:=hia.mono Zj.mono hle4
 have hl4n:=hl4.len
 refine xA (h:=Za (xL [_,_,_,_,_] Z3 0 (h:=xL [_,_,_] Zmw 1 (h:=Zp (Zac rfl rfl Zxk rfl (Zp6 _ _ _ _ _ _ xa wa ya za om2 om2 _ hua hfa hia) ?_)))))
 intro v5 B5 hle5
 rintro ⟨p5,cp5,rfl,hl5⟩
 replace hl4:=hl4.mono Zb.mono hle5
 replace hua:=hua.mono Zg.mono hle5
 replace hfa:=hfa.mono Zb.mono hle5
 replace hia:=hia.mono Zj.mono hle5
 have hl5n:=hl5.len
 refine xA (h:=Zk (Za (xM (h:=xM (h:=xR Zs5 rfl (Zbc _ _ _ _ _ _ _ hl4 hl5) (h:=xN (h:=Zc rfl (fun g1=>by simp [Zem] at g1) (fun g1=>?_))))))))
 try simp only [sQ,ne_eq] at g1
 refine Zh (Zf (Zk (Za (xA (h:=Zo (ZR (α:=Nat) [0,3,4,5,6,10,25] (fun k=>[(7,.int .i64 k)]) [] (fun k=>[]) (fun k Bx=>k≤(ZgG xa wa).length) (fun k=>(ZgG xa wa).length - k) 0 t1 rfl (Nat.zero_le _) (fun k B7 hle7 hI=>?_)))))))
 have hk:=hI
 replace hl4:=hl4.mono Zb.mono hle7
 replace hl5:=hl5.mono Zb.mono hle7
 replace hua:=hua.mono Zg.mono hle7
 replace hfa:=hfa.mono Zb.mono hle7
 replace hia:=hia.mono Zj.mono hle7
 refine ZP [(0,_),(3,_),(4,_),(5,_),(6,_),(7,_),(10,_),(25,_)] [_,_] t8 rfl (Zk (Za (xM (h:=xM (h:=xV Tryz.underlying24 (h:=Zae (h:=Zc rfl (fun g2=>?_) (fun g2=>?_))))))))
 try simp only [sQ,ne_eq] at g2
 obtain ⟨w,hw⟩:=Zan (xs:=ZgG xa wa) (i:=k) oz
 obtain ⟨hok,f,hfm,hwe,hal⟩:=ZtI (List.mem_of_getElem? hw)
 have hri:ZeN xa wa w.owner w.name=Zb1 f.grants f.owner wa:=by rw [hwe];exact Zml hok hfm
 have hab:=Zi1 (u:=wa) hok hfm
 refine Zh (Zf (Zk (Zo (Zk (Z7 (keeps _ [0,1] _) mo kr ⟨Kn.le.refl _,Zat.refl _ _⟩ (fun _ _=>?_))))))
 refine aT 0 rfl (ZG fun D B L hI=>Z8 [_,_,_,_,_] rfl rfl Z3 rfl (Zaj 0 (hI.2.1.trans rfl) rfl rfl) r4) (h:=aW 1 rfl Zfr (h:=aT 2 rfl (ZG fun D B L hI=>Zl rfl rfl lk9 rfl (atL 1 (hI.2.2.1.trans rfl) rfl rfl) r4) (h:=aM 3 rfl (h:=aM 4 rfl (h:=?_)))))
 obtain ⟨bb8,oo8,rfl⟩:=hl4.base hw
 obtain ⟨_,⟨qg9,cg9,qm9,cm9,rfl,hg9,hm9,hb9,hb9b⟩,hc9⟩:=hl4.elem hw
 have hg9n:=hg9.len
 have hm9n:=hm9.len
 have hm9s:=ZS hm9
 refine aIx 5 rfl Tryz.underlying24 ZaD (h:=aW 6 rfl Zbi (h:=aT 7 rfl (ZG fun D B L hI=>Zl rfl rfl lk9 rfl ((hc9.mono hI.1) _ 0 _ rfl) r4) (h:=aM 8 rfl (h:=aM 9 rfl (h:=aIx 10 rfl Tryz.underlying24 ZaD (h:=aW 11 rfl Zc1 (h:=aT 12 rfl (ZG fun D B L hI=>Zl rfl rfl lk9 rfl ((hc9.mono hI.1) _ 1 _ rfl) r4) (h:=Zr 13 kr rfl kr (Zac rfl rfl Zx9 rfl (Zob hJ _ _ _ _ _ _ xa wa w.owner w.name om2 om2 om2 om2 _ hua hfa hia) ?_)))))))))
 intro v10 B10 hle10
 rintro rfl
 replace hl4:=hl4.mono Zb.mono hle10
 replace hl5:=hl5.mono Zb.mono hle10
 replace hua:=hua.mono Zg.mono hle10
 replace hfa:=hfa.mono Zb.mono hle10
 replace hia:=hia.mono Zj.mono hle10
 replace hg9:=hg9.mono Zx.mono hle10
 replace hm9:=hm9.mono ZD.mono hle10
 replace hc9:=hc9.mono hle10
 refine ⟨⟨hle10,t2⟩,(Zr 14 kr rfl kr (ZaC rfl rfl Zut rfl (ZgU (ZeN xa wa w.owner w.name) 1 om2 om2 om2 om2 _) ?_))⟩
 refine ⟨⟨hle10,t2⟩,(aN 15 rfl (h:=aM 16 rfl (h:=Zal (d:=51) rfl (fun g3=>by rw [hri] at g3;simp [hal] at g3) (fun g3=>?_))))⟩
 try simp only [sQ,ne_eq] at g3
 refine aM 17 rfl (h:=aM 18 rfl (h:=?_))
 obtain ⟨_,⟨qg12,cg12,qm12,cm12,rfl,hg12,hm12,hb12,hb12b⟩,hc12⟩:=hl4.elem hw
 have hg12n:=hg12.len
 have hm12n:=hm12.len
 have hm12s:=ZS hm12
 refine aIx 19 rfl Tryz.underlying24 ZaD (h:=aW 20 rfl Zbh (h:=aW 21 rfl ZaL (h:=Zr 22 kr rfl kr (Zl rfl rfl Zfo rfl (hc12 _ 4 _ rfl) ?_))))
 refine ⟨⟨hle10,t2⟩,(aV 23 rfl Tryz.underlying37 (h:=Zhq 24 rfl (h:=aPF 25 rfl (h:=aM 26 rfl (h:=Zal (d:=61) rfl (fun g4=>by rw [hwe] at g4;simp [Zje] at g4) (fun g4=>?_))))))⟩
 try simp only [sQ,ne_eq] at g4
 refine aM 27 rfl (h:=aM 28 rfl (h:=aIx 29 rfl Tryz.underlying24 ZaD (h:=aW 30 rfl Zbh (h:=aW 31 rfl Zcf (h:=Zr 32 kr rfl kr (Zl rfl rfl lk3 rfl (hc12 _ 3 _ rfl) ?_))))))
 refine ⟨⟨hle10,t2⟩,(Zhq 33 rfl (h:=aPF 34 rfl (h:=aM 35 rfl (h:=Zal (d:=70) rfl (fun g5=>by rw [hwe] at g5;simp [Zje] at g5) (fun g5=>?_)))))⟩
 try simp only [sQ,ne_eq] at g5
 refine aM 36 rfl (h:=aM 37 rfl (h:=aIx 38 rfl Tryz.underlying24 ZaD (h:=aW 39 rfl ZbU (h:=Zr 40 kr rfl kr (Zl rfl rfl Zlm rfl (hc12 _ 2 _ rfl) ?_)))))
 refine ⟨⟨hle10,t2⟩,(aV 41 rfl Tryz.underlying36 (h:=Zhq 42 rfl (h:=aPF 43 rfl (h:=ZC kr kr ?_))))⟩
 refine Zf (Zc rfl (fun g6=>by rw [hwe] at g6;simp [Zje] at g6) (fun g6=>?_))
 try simp only [sQ,ne_eq] at g6
 refine Zh (Zy (Zf (Zd (xM (h:=xD (h:=xA (h:=?_)))))))
 exact ZA (k+1) [0,1] so2 oz t8 rfl
 try simp only [sQ,ne_eq] at g2
 refine ZU (Zad (ZV (ZF (Zf (Za (xA (h:=Zi ?_)))))))
 exact Z2 .ret (.inl rfl) [_] t1 rfl

set_option maxHeartbeats 1600000 in
theorem Zsg (q:Option Addr) (m cp:Nat) (hmc:m≤cp) (B:Kn) (hb:Zai B q m) :∃code,Tryz.f6.body=some code∧wpS (pj (Zhr Tryz.prog)) 91 code (ZgS (pj (Zhr Tryz.prog)) [.tmp 2] (fun v B' Ls=>v = .bool true)) (Zdw [.slice q m cp] 0) [] B []:=by
 have hJ:=Zen Tryz.prog
 refine ⟨_,rfl,(Za (xA (h:=Zk (Za (xM (h:=xV Tryz.underlying22 (h:=Zbx (h:=Zc rfl (fun g0=>?_) (fun g0=>?_)))))))))⟩
 try simp only [sQ,ne_eq] at g0
 refine Za (xA (h:=Zi (Zs ?_)))
 exact Z2 .ret (.inl rfl) [_] t1 rfl
 try simp only [sQ,ne_eq] at g0
 refine Zh (Zf (Za (xM (h:=Zp (Zac rfl rfl en7 rfl (ZnK _ _ _ oz _ (oy)) ?_)))))
 intro va Ba hlea
 rintro ⟨xa,p1a,p2a,p3a,d1a,d2a,d3a,wa,rfl,hua,hfa,hia,hda,hwa⟩
 have huan:=hua.len
 have hfan:=hfa.len
 have hian:=hia.len
 refine xM (h:=xE (h:=xE (h:=xAl [_,_,_,_,_] Za2 (h:=fun b2=>xS [_,_,_,_,_] 0 [_,_,_,_,_] Zay (h:=xA (h:=Zw [_] rfl (Za (xL [_,_,_,_,_] Z3 0 (h:=xM (h:=Zp (Zac rfl rfl en8 rfl (Zpi hJ _ _ _ _ _ _ xa wa om2 om2 _ hua hfa hia) ?_)))))))))))
 intro v3 B3 hle3
 rintro ⟨p3,cp3,rfl,hl3⟩
 replace hua:=hua.mono Zg.mono hle3
 replace hfa:=hfa.mono Zb.mono hle3
 replace hia:=hia.mono Zj.mono hle3
 have hl3n:=hl3.len
 refine xA (h:=Za (xL [_,_,_,_,_] Z3 0 (h:=xM (h:=Zp (Zac rfl rfl en9 rfl (Zpg _ _ _ _ _ _ xa wa om2 om2 _ hua hfa hia) ?_)))))
 intro v4 B4 hle4
 rintro ⟨p4,cp4,rfl,hl4⟩
 replace hl3:=hl3.mono Zb.mono hle4
 replace hua:=hua.mono Zg.mono hle4
 replace hfa:=hfa.mono Zb.mono hle4
 replace hia:=hia.mono Zj.mono hle4
 have hl4n:=hl4.len
 refine xA (h:=Zk (Za (xM (h:=xM (h:=xR Zs5 rfl (Zbc _ _ _ _ _ _ _ hl3 hl4) (h:=xN (h:=Zc rfl (fun g1=>by simp [Zeh] at g1) (fun g1=>?_))))))))
 try simp only [sQ,ne_eq] at g1
 refine Zh (Zf (Zk (Za (xA (h:=Zo (ZR (α:=Nat) [0,3,4,5,6,13,28] (fun k=>[(7,.int .i64 k)]) [] (fun k=>[]) (fun k Bx=>k≤(ZeG xa wa).length) (fun k=>(ZeG xa wa).length - k) 0 t1 rfl (Nat.zero_le _) (fun k B6 hle6 hI=>?_)))))))
 have hk:=hI
 replace hl3:=hl3.mono Zb.mono hle6
 replace hl4:=hl4.mono Zb.mono hle6
 replace hua:=hua.mono Zg.mono hle6
 replace hfa:=hfa.mono Zb.mono hle6
 replace hia:=hia.mono Zj.mono hle6
 refine ZP [(0,_),(3,_),(4,_),(5,_),(6,_),(7,_),(13,_),(28,_)] [_] t8 rfl (Zk (Za (xM (h:=xM (h:=xV Tryz.underlying24 (h:=Zae (h:=Zc rfl (fun g2=>?_) (fun g2=>?_))))))))
 try simp only [sQ,ne_eq] at g2
 obtain ⟨w,hw⟩:=Zan (xs:=ZeG xa wa) (i:=k) oz
 obtain ⟨hok,f,hfm,hwe,hal,hal2⟩:=Zti (List.mem_of_getElem? hw)
 have hfw:ZL xa w.owner w.name=(f,true):=by rw [hwe];exact ZdS hok hfm
 have hab:=Zi1 (u:=wa) hok hfm
 have hab2 : -1≤Zb1 (ZL xa w.owner w.name).1.grants (ZL xa w.owner w.name).1.owner wa∧Zb1 (ZL xa w.owner w.name).1.grants (ZL xa w.owner w.name).1.owner wa≤63:=by rw [hfw];exact hab
 have hol:(ZL xa w.owner w.name).1.owner.length≤2000000:=by rw [hfw];exact ZpK hok hfm
 refine Zh (Zf (Zk (Zo (Zk (Z7 (keeps _ [0] _) mo kr ⟨Kn.le.refl _,Zat.refl _ _⟩ (fun _ _=>?_))))))
 refine aT 0 rfl (ZG fun D B L hI=>Z8 [_,_,_,_,_] rfl rfl Z3 rfl (Zaj 0 (hI.2.1.trans rfl) rfl rfl) r4) (h:=aM 1 rfl (h:=aM 2 rfl (h:=?_)))
 obtain ⟨bb7,oo7,rfl⟩:=hl3.base hw
 obtain ⟨_,⟨qg8,cg8,qm8,cm8,rfl,hg8,hm8,hb8,hb8b⟩,hc8⟩:=hl3.elem hw
 have hg8n:=hg8.len
 have hm8n:=hm8.len
 have hm8s:=ZS hm8
 refine aIx 3 rfl Tryz.underlying24 ZaD (h:=aW 4 rfl Zbi (h:=aT 5 rfl (ZG fun D B L hI=>Zl rfl rfl lk9 rfl ((hc8.mono hI.1) _ 0 _ rfl) r4) (h:=aM 6 rfl (h:=aM 7 rfl (h:=aIx 8 rfl Tryz.underlying24 ZaD (h:=aW 9 rfl Zc1 (h:=aT 10 rfl (ZG fun D B L hI=>Zl rfl rfl lk9 rfl ((hc8.mono hI.1) _ 1 _ rfl) r4) (h:=Zao [11,15] kr kr kr ⟨?_,?_⟩))))))))
 refine (Zac rfl rfl Zws rfl (ZeZ hJ _ _ _ _ _ _ xa w.owner w.name om2 om2 om2 _ hua hfa hia) ?_)
 intro v9 B9 hle9
 rintro ⟨qa9,ca9,qb9,cb9,rfl,hg9,hm9⟩
 replace hl3:=hl3.mono Zb.mono hle9
 replace hl4:=hl4.mono Zb.mono hle9
 replace hua:=hua.mono Zg.mono hle9
 replace hfa:=hfa.mono Zb.mono hle9
 replace hia:=hia.mono Zj.mono hle9
 replace hg8:=hg8.mono Zx.mono hle9
 replace hm8:=hm8.mono ZD.mono hle9
 replace hc8:=hc8.mono hle9
 have hg9n:=hg9.len
 have hm9n:=hm9.len
 refine ⟨⟨hle9,t1⟩,(aM 12 rfl (h:=aE 13 rfl (h:=aE 14 rfl (h:=Zr 15 kr rfl kr (Zar (l:=[_,_,_,_,_]) rfl rfl Zb8 rfl (fun b10=>?_))))))⟩
 refine ⟨⟨hle9,t1⟩,(Zbu 16 kr rfl kr kr (ZQ [_,_,_,_,_] 1 [_,_,_,_,_] rfl rfl ZaD rfl rfl rfl rfl rfl rfl rfl rfl ?_))⟩
 refine aA 17 rfl (h:=ZC kr kr ?_)
 refine Zf (Zw [_,_] rfl (Za (xW ZbU (h:=x1 Zlm 1 (h:=xW Zbi (h:=x1 lk9 1 (h:=xM (h:=xR Zvb rfl (Zdx _ _ ((ZL xa w.owner w.name).1.grants) ((ZL xa w.owner w.name).1.owner) wa om2 om2 _ hg9) (h:=?_)))))))))
 refine xA (h:=Zk (Z7 (same _ _) mo kr ⟨rfl,rfl⟩ (fun _ _=>?_)))
 refine aM 0 rfl (h:=aN 1 rfl (h:=aM 2 rfl (h:=Zal (d:=61) rfl (fun g3=>by rw [hfw] at g3;simp at g3) (fun g3=>?_))))
 try simp only [sQ,ne_eq] at g3
 refine aW 3 rfl Zbh (h:=aT 4 rfl (Zak fun D=>Z8 [_,_] rfl rfl ZbD rfl (Zaj 1 rfl rfl rfl) r4) (h:=aM 5 rfl (h:=aM 6 rfl (h:=?_))))
 obtain ⟨_,⟨qg12,cg12,qm12,cm12,rfl,hg12,hm12,hb12,hb12b⟩,hc12⟩:=hl3.elem hw
 have hg12n:=hg12.len
 have hm12n:=hm12.len
 have hm12s:=ZS hm12
 refine aIx 7 rfl Tryz.underlying24 ZaD (h:=aW 8 rfl Zbh (h:=aT 9 rfl (Zak fun D=>Z8 [_,_] rfl rfl ZbD rfl (Zh9 hc12 3 rfl rfl) r4) (h:=aT 10 rfl (Zak fun D=>ZaC rfl rfl Zwp rfl (Zh8 _ _ _ _ (⟨(ZL xa w.owner w.name).1.next,(ZL xa w.owner w.name).1.mail⟩:DBox) (⟨w.next,w.mail⟩:DBox) _ hm9 hm12) r4) (h:=aN 11 rfl (h:=aPF 12 rfl (h:=aM 13 rfl (h:=Zal (d:=72) rfl (fun g4=>by rw [hfw,hwe] at g4;simp [Zhl,DFolder.box] at g4) (fun g4=>?_))))))))
 try simp only [sQ,ne_eq] at g4
 refine aM 14 rfl (h:=aM 15 rfl (h:=aIx 16 rfl Tryz.underlying24 ZaD (h:=aW 17 rfl ZbU (h:=aT 18 rfl (Zak fun D=>Zl rfl rfl Zlm rfl (hc12 _ 2 _ rfl) r4) (h:=aV 19 rfl Tryz.underlying36 (h:=Zhq 20 rfl (h:=aPF 21 rfl (h:=aM 22 rfl (h:=Zal (d:=81) rfl (fun g5=>by rw [hwe] at g5;simp [Zhl] at g5) (fun g5=>?_))))))))))
 try simp only [sQ,ne_eq] at g5
 refine aM 23 rfl (h:=aT 24 rfl (Zak fun D=>ZaC rfl rfl Zut rfl (ZgU (Zb1 ((ZL xa w.owner w.name).1.grants) ((ZL xa w.owner w.name).1.owner) wa) 1 om2 om2 om2 om2 _) r4) (h:=?_))
 refine aN 25 rfl (h:=aPF 26 rfl (h:=aM 27 rfl (h:=Zal (d:=86) rfl (fun g6=>by rw [hfw] at g6;simp [hal] at g6) (fun g6=>?_))))
 try simp only [sQ,ne_eq] at g6
 refine aM 28 rfl (h:=aT 29 rfl (Zak fun D=>ZaC rfl rfl Zut rfl (ZgU (Zb1 ((ZL xa w.owner w.name).1.grants) ((ZL xa w.owner w.name).1.owner) wa) 2 om2 om2 om2 om2 _) r4) (h:=?_))
 refine aN 30 rfl (h:=aPF 31 rfl (h:=ZC kr kr ?_))
 refine Zf (Zc rfl (fun g7=>by rw [hfw] at g7;simp [hal2] at g7) (fun g7=>?_))
 try simp only [sQ,ne_eq] at g7
 refine Zh (Zy (Zf (Zd (xM (h:=xD (h:=xA (h:=?_)))))))
 exact ZA (k+1) [0] so2 oz t8 rfl
 refine (Zar (l:=[_,_,_,_,_]) rfl rfl Zb8 rfl (fun b16=>⟨⟨Kn.le.refl _,t1⟩,(Zr 11 kr rfl kr (Zac rfl rfl Zws rfl (ZeZ hJ _ _ _ _ _ _ xa w.owner w.name om2 om2 om2 _ hua hfa hia) ?_))⟩))
 intro v17 B17 hle17
 rintro ⟨qa17,ca17,qb17,cb17,rfl,hg17,hm17⟩
 replace hl3:=hl3.mono Zb.mono hle17
 replace hl4:=hl4.mono Zb.mono hle17
 replace hua:=hua.mono Zg.mono hle17
 replace hfa:=hfa.mono Zb.mono hle17
 replace hia:=hia.mono Zj.mono hle17
 replace hg8:=hg8.mono Zx.mono hle17
 replace hm8:=hm8.mono ZD.mono hle17
 replace hc8:=hc8.mono hle17
 have hg17n:=hg17.len
 have hm17n:=hm17.len
 refine ⟨⟨hle17,t1⟩,(aM 12 rfl (h:=aE 13 rfl (h:=aE 14 rfl (h:=Zbu 16 kr rfl kr kr (ZQ [_,_,_,_,_] 1 [_,_,_,_,_] rfl rfl ZaD rfl rfl rfl rfl rfl rfl rfl rfl ?_)))))⟩
 refine aA 17 rfl (h:=ZC kr kr ?_)
 refine Zf (Zw [_,_] rfl (Za (xW ZbU (h:=x1 Zlm 1 (h:=xW Zbi (h:=x1 lk9 1 (h:=xM (h:=xR Zvb rfl (Zdx _ _ ((ZL xa w.owner w.name).1.grants) ((ZL xa w.owner w.name).1.owner) wa om2 om2 _ hg17) (h:=?_)))))))))
 refine xA (h:=Zk (Z7 (same _ _) mo kr ⟨rfl,rfl⟩ (fun _ _=>?_)))
 refine aM 0 rfl (h:=aN 1 rfl (h:=aM 2 rfl (h:=Zal (d:=61) rfl (fun g3=>by rw [hfw] at g3;simp at g3) (fun g3=>?_))))
 try simp only [sQ,ne_eq] at g3
 refine aW 3 rfl Zbh (h:=aT 4 rfl (Zak fun D=>Z8 [_,_] rfl rfl ZbD rfl (Zaj 1 rfl rfl rfl) r4) (h:=aM 5 rfl (h:=aM 6 rfl (h:=?_))))
 obtain ⟨_,⟨qg19,cg19,qm19,cm19,rfl,hg19,hm19,hb19,hb19b⟩,hc19⟩:=hl3.elem hw
 have hg19n:=hg19.len
 have hm19n:=hm19.len
 have hm19s:=ZS hm19
 refine aIx 7 rfl Tryz.underlying24 ZaD (h:=aW 8 rfl Zbh (h:=aT 9 rfl (Zak fun D=>Z8 [_,_] rfl rfl ZbD rfl (Zh9 hc19 3 rfl rfl) r4) (h:=aT 10 rfl (Zak fun D=>ZaC rfl rfl Zwp rfl (Zh8 _ _ _ _ (⟨(ZL xa w.owner w.name).1.next,(ZL xa w.owner w.name).1.mail⟩:DBox) (⟨w.next,w.mail⟩:DBox) _ hm17 hm19) r4) (h:=aN 11 rfl (h:=aPF 12 rfl (h:=aM 13 rfl (h:=Zal (d:=72) rfl (fun g4=>by rw [hfw,hwe] at g4;simp [Zhl,DFolder.box] at g4) (fun g4=>?_))))))))
 try simp only [sQ,ne_eq] at g4
 refine aM 14 rfl (h:=aM 15 rfl (h:=aIx 16 rfl Tryz.underlying24 ZaD (h:=aW 17 rfl ZbU (h:=aT 18 rfl (Zak fun D=>Zl rfl rfl Zlm rfl (hc19 _ 2 _ rfl) r4) (h:=aV 19 rfl Tryz.underlying36 (h:=Zhq 20 rfl (h:=aPF 21 rfl (h:=aM 22 rfl (h:=Zal (d:=81) rfl (fun g5=>by rw [hwe] at g5;simp [Zhl] at g5) (fun g5=>?_))))))))))
 try simp only [sQ,ne_eq] at g5
 refine aM 23 rfl (h:=aT 24 rfl (Zak fun D=>ZaC rfl rfl Zut rfl (ZgU (Zb1 ((ZL xa w.owner w.name).1.grants) ((ZL xa w.owner w.name).1.owner) wa) 1 om2 om2 om2 om2 _) r4) (h:=?_))
 refine aN 25 rfl (h:=aPF 26 rfl (h:=aM 27 rfl (h:=Zal (d:=86) rfl (fun g6=>by rw [hfw] at g6;simp [hal] at g6) (fun g6=>?_))))
 try simp only [sQ,ne_eq] at g6
 refine aM 28 rfl (h:=aT 29 rfl (Zak fun D=>ZaC rfl rfl Zut rfl (ZgU (Zb1 ((ZL xa w.owner w.name).1.grants) ((ZL xa w.owner w.name).1.owner) wa) 2 om2 om2 om2 om2 _) r4) (h:=?_))
 refine aN 30 rfl (h:=aPF 31 rfl (h:=ZC kr kr ?_))
 refine Zf (Zc rfl (fun g7=>by rw [hfw] at g7;simp [hal2] at g7) (fun g7=>?_))
 try simp only [sQ,ne_eq] at g7
 refine Zh (Zy (Zf (Zd (xM (h:=xD (h:=xA (h:=?_)))))))
 exact ZA (k+1) [0] so2 oz t8 rfl
 try simp only [sQ,ne_eq] at g2
 refine ZU (Zad (ZV (ZF (Zf (Za (xA (h:=Zi ?_)))))))
 exact Z2 .ret (.inl rfl) [_] t1 rfl

end Go.Proofs.YtkgobijihcfikaaGreat
