/-
  WHAT THE FUNCTIONS THAT THE LAWS REACH COMPUTE: each function's contract, proved off its printed body (the text is written by program). No condition beyond those that each theorem states.
-/
import Derived.Test.YtandoilaebgglaaGreatDoorC3
namespace Go.Proofs.YtandoilaebgglaaGreatDoor
open Go Go.BL
set_option linter.unusedVariables false
set_option linter.unusedSimpArgs false
set_option maxRecDepth 4000
set_option maxHeartbeats 6400000
variable {J : JoinT}
set_option maxHeartbeats 1600000 in
theorem ZsZ (b:Nat) (q:Option Addr) (m cp p:Nat) (hp:p≤800000000000) (hm:m≤2000) (B:Kn) (hbm:Zak B q m):Zu (pj J) 108 [ptr ⟨b,0,none⟩] B [rd b q m cp p] (fun v B' Ls=>∃(q':Option Addr) (cp':Nat) (x:DBox) (k:Nat),v = .agg #[.int .i64 x.next,.slice q' x.mail.length cp']∧SlK B' q' cp' 3 ZM x.mail∧k≤p+300∧Ls=[rd b q m cp k]):=by
 refine ZeM 91 Tryz.func108 rfl rfl rfl (Nat.le_of_ble_eq_true rfl) ?_
 refine Za (xAl [_,_] ZeS (h:=fun b1=>ZgI [_,_] rfl (Za (xM (h:=xX 0 rfl Za4 rfl (ZL _ _ _ _ _ _ oz oz oz hm _ hbm) (h:=?_))))))
 rintro _ _ ⟨rn0,rfl,rn0a,rn0b,rfl⟩
 refine xD (h:=xBs [] [] Tryz.underlying36 Zgc Zlk (h:=fun b3=>xB [(0,_),(1,_)] [_,_] [_,_] Znc ZeS (h:=xAl [_,_] ZeS (h:=fun b4=>xS [_,_] 3 [_,_] Zcx (h:=ZgI [_,_,_,_] rfl (Za (xM (h:=xX 0 rfl Za4 rfl (ZL _ _ _ _ _ _ oz oz oz hm _ hbm) (h:=?_)))))))))
 rintro _ _ ⟨rb0,rfl,rb0a,rb0b,rfl⟩
 refine xA (h:=ZgI [_,_,_,_] rfl (Zlp (α:=Int × Nat) [0,2,3] (fun g=>[(4,.int .i64 g.1)]) [0] (fun g=>[rd b q m cp g.2]) (fun g=>[]) (fun g Bx=>Bx=B∧0≤g.1∧g.1≤14∧g.2≤p+3) ?_ (fun g B6 hle6 hF=>?_)))
 refine Za (xM (h:=xX 0 rfl Za4 rfl (ZL _ _ _ _ _ _ oz oz oz hm _ hbm) (h:=?_)))
 rintro _ _ ⟨rc0,rfl,rc0a,rc0b,rfl⟩
 refine ZF (h:=ZgI [_,_,_,_] rfl (Zb rfl (fun g0=>?_) (fun g0=>?_)))
 try simp only [sQ,ne_eq] at g0
 refine Zc (xA (h:=?_))
 exact ZJ ⟨14,(((p+1)+1)+1)⟩ [0,1,2,3] ⟨rfl,so,so,so⟩ t4 rfl
 try simp only [sQ,ne_eq] at g0
 refine ZK ?_
 exact ZJ ⟨rb0,(((p+1)+1)+1)⟩ [0,1,2,3] ⟨rfl,so,so,so⟩ t4 rfl
 obtain ⟨rfl,hg0,hg1,hgp⟩:=hF
 refine ZN [(0,_),(2,_),(3,_),(4,_)] [_,_,_,_] t4 rfl (Zf (Za (xA (h:=Zl (ZO (α:=GBo) [0,2,3,4] (fun h=>[(5,.int .i64 h.k)]) [0,2,3] (fun h=>[rd b q m cp h.p,h.l,Zas b4 [.int .i64 h.x.next,.slice h.a h.x.mail.length h.c] 38]) (fun h Bx=>h.k≤15∧h.p≤p+4+10*h.k∧0≤h.x.next∧h.x.next≤200∧h.x.mail.length≤20∧ZZ Bx h.l h.a h.c 89 3 ZM h.x.mail) (fun h=>15 - h.k) ⟨0,g.2,_,_,_,⟨1+rn0,[]⟩⟩ t1 rfl (⟨Nat.zero_le _,(so),(so),(so),Nat.zero_le _,.lit0⟩) (fun h B8 hle8 hI=>?_))))))
 obtain ⟨hk,hhp,hh0,hh1,hhl,hv⟩:=hI
 replace hbm:=hbm.mono hle8
 refine ZN [(0,_),(2,_),(3,_),(4,_),(5,_)] [_,_,_,_] t5 rfl (Zf (Za (xM (h:=xM (h:=Zaa (h:=Zb rfl (fun g1=>?_) (fun g1=>?_)))))))
 try simp only [sQ,ne_eq] at g1
 refine ZK (Zj (Zf (Zl (Zf (Z2 (keeps _ [3] _) mo kr ⟨Kn.le.refl _,Zai.refl _ _⟩ (fun _ _=>?_))))))
 refine aT 0 rfl (ZC fun D B L hI=>Z1 [_,_] rfl rfl Zbp rfl (Z9 3 (hI.2.1.trans rfl) rfl rfl) r4) (h:=aM 1 rfl (h:=aM 3 rfl (h:=Zan [2,9] kr kr kr ⟨?_,?_⟩)))
 refine (Zcm 0 rfl rfl rfl Za4 rfl (ZL _ _ _ _ _ _ oz oz oz hm _ hbm) ?_)
 rintro _ _ ⟨rf,rfl,rfa,rfb,rfl⟩
 refine ⟨⟨Kn.le.refl _,t1⟩,(Zan [4,9] kr kr kr ⟨?_,?_⟩)⟩
 refine (Zcm 0 rfl rfl rfl Zvr rfl (ZdG _ _ _ _ _ oz hm _ hbm) ?_)
 rintro _ _ ⟨xt,rfl,hxt,rfl⟩
 refine ⟨⟨Kn.le.refl _,t1⟩,(Zan [5,9] kr kr kr ⟨?_,?_⟩)⟩
 refine (ZaA [2] rfl rfl rfl rfl Ztr rfl (Zu.borrow fun hma=>ZdX _ _ (⟨h.x.next,h.x.mail⟩:DBox) rf xt om2 _ (hv.lend ZM.mono hma om)) ?_)
 rintro _ Ba _ hlea ⟨BBa,_,rfl,hBa,_,hma,_,la,aa,ca,rfl,rfl,hsa⟩
 replace hv:=hv.mono ZM.mono hlea
 replace hbm:=hbm.mono hlea
 replace hsa:=hsa.anyK (B':=Ba) ZM.any
 refine ⟨⟨hlea,t1⟩,?_⟩
 have hb1:=Zd7 (⟨h.x.next,h.x.mail⟩:DBox) rf xt
 refine aM 6 rfl (h:=aE 7 rfl (h:=aE 8 rfl (h:=Zq 9 kr rfl kr (Zal (l:=[_,_]) rfl rfl ZeS rfl (fun b12=>?_)))))
 refine ⟨⟨hlea,t1⟩,(Zbj 10 kr rfl kr kr (ZI [_,_] 5 [_,_] rfl rfl Zcx rfl rfl rfl rfl rfl rfl rfl rfl ?_))⟩
 refine aA 11 rfl (h:=Zz kr kr ?_)
 refine Zj (ZgI [_,_,_,_,_,_] rfl (Zf (Za (xM (h:=Zb rfl (fun g2=>?_) (fun g2=>?_))))))
 try simp only [sQ,ne_eq] at g2
 refine Za (xL [_,_] Zbp 5 (h:=xS [_,_] 3 [_,_] Zcx (h:=ZgI [_,_,_,_,_,_] rfl (Z2 (keeps _ [3] _) mo kr ⟨Kn.le.refl _,Zai.refl _ _⟩ (fun _ _=>?_)))))
 refine aW 0 rfl ZbW (h:=aT 1 rfl (ZC fun D B L hI=>Zh rfl rfl lk3 rfl (atL 3 (hI.2.1.trans rfl) rfl rfl) r4) (h:=aM 2 rfl (h:=Zq 3 kr rfl kr (Zcm 0 rfl rfl rfl Za4 rfl (ZL _ _ _ _ _ _ oz oz oz hm _ hbm) ?_))))
 rintro _ _ ⟨rd,rfl,rda,rdb,rfl⟩
 refine ⟨⟨Kn.le.refl _,t1⟩,(aD 4 rfl (h:=aW 5 rfl ZbW (h:=ZV 6 kr rfl kr kr kr (ZI [_] 3 [_,_] rfl rfl sz3 rfl rfl rfl rfl rfl rfl rfl rfl ?_))))⟩
 refine Zj (Za (xM (h:=xX 0 rfl Za4 rfl (ZL _ _ _ _ _ _ oz oz oz hm _ hbm) (h:=?_))))
 rintro _ _ ⟨re,rfl,rea,reb,rfl⟩
 refine ZF (h:=ZgI [_,_,_,_,_,_] rfl (Zb rfl (fun g3=>?_) (fun g3=>?_)))
 try simp only [sQ,ne_eq] at g3
 refine Zc (xL [_,_] Zbp 3 (h:=Zp (ZaA [4] rfl rfl rfl rfl Zk6 rfl (Zu.borrow fun hm15=>ZcB _ _ (⟨((ZQ (⟨h.x.next,h.x.mail⟩:DBox) rf xt).1.next+rd),(ZQ (⟨h.x.next,h.x.mail⟩:DBox) rf xt).1.mail⟩:DBox) _ (hsa.lend ZM.mono hm15 om)) ?_)))
 rintro _ B15 _ hle15 ⟨BB15,_,rfl,hB15,_,hm15,_,l15,a15,c15,l15b,a15b,c15b,rfl,rfl,hs15,hs15b⟩
 replace hv:=hv.mono ZM.mono hle15
 replace hsa:=hsa.mono ZM.mono hle15
 replace hbm:=hbm.mono hle15
 replace hs15:=hs15.anyK (B':=B15) ZM.any
 replace hs15b:=hs15b.anyK (B':=B15) Zb9.any
 refine xM (h:=xE (h:=xE (h:=xS [_,_] 3 [_,_] Zcx (h:=Zx (Zj (Zc (xM (h:=xD (h:=xA (h:=?_))))))))))
 exact ZA ⟨h.k+1,((((h.p+1)+2)+1)+1),l15,a15,c15,⟨((expunge (⟨((ZQ (⟨h.x.next,h.x.mail⟩:DBox) rf xt).1.next+rd),(ZQ (⟨h.x.next,h.x.mail⟩:DBox) rf xt).1.mail⟩:DBox)).1.next),((expunge (⟨((ZQ (⟨h.x.next,h.x.mail⟩:DBox) rf xt).1.next+rd),(ZQ (⟨h.x.next,h.x.mail⟩:DBox) rf xt).1.mail⟩:DBox)).1.mail)⟩⟩ [0,1,6,3] so2 ⟨so,so,by first | (simp only [];omega) | exact (ZE _).1,by first | (simp only [];omega) | exact Int.le_trans (ZE _).2.1 (by decide),by first | (simp only [];omega) | exact Nat.le_trans (ZE _).2.2 (by decide),hs15⟩ t5 rfl
 try simp only [sQ,ne_eq] at g3
 refine ZK (Zx (Zj (Zc (xM (h:=xD (h:=xA (h:=?_)))))))
 exact ZA ⟨h.k+1,((((h.p+1)+2)+1)+1),la,aa,ca,⟨((ZQ (⟨h.x.next,h.x.mail⟩:DBox) rf xt).1.next+rd),((ZQ (⟨h.x.next,h.x.mail⟩:DBox) rf xt).1.mail)⟩⟩ [0,1,4,3] so2 ⟨so,so,by first | (simp only [];omega) | exact (ZE _).1,by first | (simp only [];omega) | exact Int.le_trans (ZE _).2.1 (by decide),by first | (simp only [];omega) | exact Nat.le_trans (ZE _).2.2 (by decide),hsa⟩ t5 rfl
 try simp only [sQ,ne_eq] at g2
 refine ZK (Zj (Za (xM (h:=xX 0 rfl Za4 rfl (ZL _ _ _ _ _ _ oz oz oz hm _ hbm) (h:=?_)))))
 rintro _ _ ⟨re,rfl,rea,reb,rfl⟩
 refine ZF (h:=ZgI [_,_,_,_,_,_] rfl (Zb rfl (fun g3=>?_) (fun g3=>?_)))
 try simp only [sQ,ne_eq] at g3
 refine Zc (xL [_,_] Zbp 3 (h:=Zp (ZaA [2] rfl rfl rfl rfl Zk6 rfl (Zu.borrow fun hm17=>ZcB _ _ (⟨h.x.next,h.x.mail⟩:DBox) _ (hv.lend ZM.mono hm17 om)) ?_)))
 rintro _ B17 _ hle17 ⟨BB17,_,rfl,hB17,_,hm17,_,l17,a17,c17,l17b,a17b,c17b,rfl,rfl,hs17,hs17b⟩
 replace hv:=hv.mono ZM.mono hle17
 replace hsa:=hsa.mono ZM.mono hle17
 replace hbm:=hbm.mono hle17
 replace hs17:=hs17.anyK (B':=B17) ZM.any
 replace hs17b:=hs17b.anyK (B':=B17) Zb9.any
 refine xM (h:=xE (h:=xE (h:=xS [_,_] 3 [_,_] Zcx (h:=Zx (Zj (Zc (xM (h:=xD (h:=xA (h:=?_))))))))))
 exact ZA ⟨h.k+1,(((h.p+1)+2)+1),l17,a17,c17,⟨((expunge (⟨h.x.next,h.x.mail⟩:DBox)).1.next),((expunge (⟨h.x.next,h.x.mail⟩:DBox)).1.mail)⟩⟩ [0,1,6,3] so2 ⟨so,so,by first | (simp only [];omega) | exact (ZE _).1,by first | (simp only [];omega) | exact Int.le_trans (ZE _).2.1 (by decide),by first | (simp only [];omega) | exact Nat.le_trans (ZE _).2.2 (by decide),hs17⟩ t5 rfl
 try simp only [sQ,ne_eq] at g3
 refine ZK (Zx (Zj (Zc (xM (h:=xD (h:=xA (h:=?_)))))))
 exact ZA ⟨h.k+1,(((h.p+1)+2)+1),h.l,h.a,h.c,⟨h.x.next,h.x.mail⟩⟩ [0,1,2,3] so2 ⟨so,so,by first | (simp only [];omega) | exact (ZE _).1,by first | (simp only [];omega) | exact Int.le_trans (ZE _).2.1 (by decide),by first | (simp only [];omega) | exact Nat.le_trans (ZE _).2.2 (by decide),hv⟩ t5 rfl
 refine (Zal (l:=[_,_]) rfl rfl ZeS rfl (fun b18=>⟨⟨Kn.le.refl _,t1⟩,(Zq 5 kr rfl kr (ZaA [2] rfl rfl rfl rfl Ztr rfl (Zu.borrow fun hma=>ZdX _ _ (⟨h.x.next,h.x.mail⟩:DBox) rf xt om2 _ (hv.lend ZM.mono hma om)) ?_))⟩))
 rintro _ Ba _ hlea ⟨BBa,_,rfl,hBa,_,hma,_,la,aa,ca,rfl,rfl,hsa⟩
 replace hv:=hv.mono ZM.mono hlea
 replace hbm:=hbm.mono hlea
 replace hsa:=hsa.anyK (B':=Ba) ZM.any
 refine ⟨⟨hlea,t1⟩,?_⟩
 have hb1:=Zd7 (⟨h.x.next,h.x.mail⟩:DBox) rf xt
 refine aM 6 rfl (h:=aE 7 rfl (h:=aE 8 rfl (h:=Zbj 10 kr rfl kr kr (ZI [_,_] 4 [_,_] rfl rfl Zcx rfl rfl rfl rfl rfl rfl rfl rfl ?_))))
 refine aA 11 rfl (h:=Zz kr kr ?_)
 refine Zj (ZgI [_,_,_,_,_,_] rfl (Zf (Za (xM (h:=Zb rfl (fun g2=>?_) (fun g2=>?_))))))
 try simp only [sQ,ne_eq] at g2
 refine Za (xL [_,_] Zbp 4 (h:=xS [_,_] 3 [_,_] Zcx (h:=ZgI [_,_,_,_,_,_] rfl (Z2 (keeps _ [3] _) mo kr ⟨Kn.le.refl _,Zai.refl _ _⟩ (fun _ _=>?_)))))
 refine aW 0 rfl ZbW (h:=aT 1 rfl (ZC fun D B L hI=>Zh rfl rfl lk3 rfl (atL 3 (hI.2.1.trans rfl) rfl rfl) r4) (h:=aM 2 rfl (h:=Zq 3 kr rfl kr (Zcm 0 rfl rfl rfl Za4 rfl (ZL _ _ _ _ _ _ oz oz oz hm _ hbm) ?_))))
 rintro _ _ ⟨rd,rfl,rda,rdb,rfl⟩
 refine ⟨⟨Kn.le.refl _,t1⟩,(aD 4 rfl (h:=aW 5 rfl ZbW (h:=ZV 6 kr rfl kr kr kr (ZI [_] 3 [_,_] rfl rfl sz3 rfl rfl rfl rfl rfl rfl rfl rfl ?_))))⟩
 refine Zj (Za (xM (h:=xX 0 rfl Za4 rfl (ZL _ _ _ _ _ _ oz oz oz hm _ hbm) (h:=?_))))
 rintro _ _ ⟨re,rfl,rea,reb,rfl⟩
 refine ZF (h:=ZgI [_,_,_,_,_,_] rfl (Zb rfl (fun g3=>?_) (fun g3=>?_)))
 try simp only [sQ,ne_eq] at g3
 refine Zc (xL [_,_] Zbp 3 (h:=Zp (ZaA [5] rfl rfl rfl rfl Zk6 rfl (Zu.borrow fun hm22=>ZcB _ _ (⟨((ZQ (⟨h.x.next,h.x.mail⟩:DBox) rf xt).1.next+rd),(ZQ (⟨h.x.next,h.x.mail⟩:DBox) rf xt).1.mail⟩:DBox) _ (hsa.lend ZM.mono hm22 om)) ?_)))
 rintro _ B22 _ hle22 ⟨BB22,_,rfl,hB22,_,hm22,_,l22,a22,c22,l22b,a22b,c22b,rfl,rfl,hs22,hs22b⟩
 replace hv:=hv.mono ZM.mono hle22
 replace hsa:=hsa.mono ZM.mono hle22
 replace hbm:=hbm.mono hle22
 replace hs22:=hs22.anyK (B':=B22) ZM.any
 replace hs22b:=hs22b.anyK (B':=B22) Zb9.any
 refine xM (h:=xE (h:=xE (h:=xS [_,_] 3 [_,_] Zcx (h:=Zx (Zj (Zc (xM (h:=xD (h:=xA (h:=?_))))))))))
 exact ZA ⟨h.k+1,((((h.p+1)+2)+1)+1),l22,a22,c22,⟨((expunge (⟨((ZQ (⟨h.x.next,h.x.mail⟩:DBox) rf xt).1.next+rd),(ZQ (⟨h.x.next,h.x.mail⟩:DBox) rf xt).1.mail⟩:DBox)).1.next),((expunge (⟨((ZQ (⟨h.x.next,h.x.mail⟩:DBox) rf xt).1.next+rd),(ZQ (⟨h.x.next,h.x.mail⟩:DBox) rf xt).1.mail⟩:DBox)).1.mail)⟩⟩ [0,1,6,3] so2 ⟨so,so,by first | (simp only [];omega) | exact (ZE _).1,by first | (simp only [];omega) | exact Int.le_trans (ZE _).2.1 (by decide),by first | (simp only [];omega) | exact Nat.le_trans (ZE _).2.2 (by decide),hs22⟩ t5 rfl
 try simp only [sQ,ne_eq] at g3
 refine ZK (Zx (Zj (Zc (xM (h:=xD (h:=xA (h:=?_)))))))
 exact ZA ⟨h.k+1,((((h.p+1)+2)+1)+1),la,aa,ca,⟨((ZQ (⟨h.x.next,h.x.mail⟩:DBox) rf xt).1.next+rd),((ZQ (⟨h.x.next,h.x.mail⟩:DBox) rf xt).1.mail)⟩⟩ [0,1,5,3] so2 ⟨so,so,by first | (simp only [];omega) | exact (ZE _).1,by first | (simp only [];omega) | exact Int.le_trans (ZE _).2.1 (by decide),by first | (simp only [];omega) | exact Nat.le_trans (ZE _).2.2 (by decide),hsa⟩ t5 rfl
 try simp only [sQ,ne_eq] at g2
 refine ZK (Zj (Za (xM (h:=xX 0 rfl Za4 rfl (ZL _ _ _ _ _ _ oz oz oz hm _ hbm) (h:=?_)))))
 rintro _ _ ⟨re,rfl,rea,reb,rfl⟩
 refine ZF (h:=ZgI [_,_,_,_,_,_] rfl (Zb rfl (fun g3=>?_) (fun g3=>?_)))
 try simp only [sQ,ne_eq] at g3
 refine Zc (xL [_,_] Zbp 3 (h:=Zp (ZaA [2] rfl rfl rfl rfl Zk6 rfl (Zu.borrow fun hm24=>ZcB _ _ (⟨h.x.next,h.x.mail⟩:DBox) _ (hv.lend ZM.mono hm24 om)) ?_)))
 rintro _ B24 _ hle24 ⟨BB24,_,rfl,hB24,_,hm24,_,l24,a24,c24,l24b,a24b,c24b,rfl,rfl,hs24,hs24b⟩
 replace hv:=hv.mono ZM.mono hle24
 replace hsa:=hsa.mono ZM.mono hle24
 replace hbm:=hbm.mono hle24
 replace hs24:=hs24.anyK (B':=B24) ZM.any
 replace hs24b:=hs24b.anyK (B':=B24) Zb9.any
 refine xM (h:=xE (h:=xE (h:=xS [_,_] 3 [_,_] Zcx (h:=Zx (Zj (Zc (xM (h:=xD (h:=xA (h:=?_))))))))))
 exact ZA ⟨h.k+1,(((h.p+1)+2)+1),l24,a24,c24,⟨((expunge (⟨h.x.next,h.x.mail⟩:DBox)).1.next),((expunge (⟨h.x.next,h.x.mail⟩:DBox)).1.mail)⟩⟩ [0,1,6,3] so2 ⟨so,so,by first | (simp only [];omega) | exact (ZE _).1,by first | (simp only [];omega) | exact Int.le_trans (ZE _).2.1 (by decide),by first | (simp only [];omega) | exact Nat.le_trans (ZE _).2.2 (by decide),hs24⟩ t5 rfl
 try simp only [sQ,ne_eq] at g3
 refine ZK (Zx (Zj (Zc (xM (h:=xD (h:=xA (h:=?_)))))))
 exact ZA ⟨h.k+1,(((h.p+1)+2)+1),h.l,h.a,h.c,⟨h.x.next,h.x.mail⟩⟩ [0,1,2,3] so2 ⟨so,so,by first | (simp only [];omega) | exact (ZE _).1,by first | (simp only [];omega) | exact Int.le_trans (ZE _).2.1 (by decide),by first | (simp only [];omega) | exact Nat.le_trans (ZE _).2.2 (by decide),hv⟩ t5 rfl
 refine (Zal (l:=[_,_]) rfl rfl ZeS rfl (fun b25=>⟨⟨Kn.le.refl _,t1⟩,(Zq 4 kr rfl kr (Zcm 0 rfl rfl rfl Zvr rfl (ZdG _ _ _ _ _ oz hm _ hbm) ?_))⟩))
 rintro _ _ ⟨xt,rfl,hxt,rfl⟩
 refine ⟨⟨Kn.le.refl _,t1⟩,(Zq 5 kr rfl kr (ZaA [2] rfl rfl rfl rfl Ztr rfl (Zu.borrow fun hma=>ZdX _ _ (⟨h.x.next,h.x.mail⟩:DBox) rf xt om2 _ (hv.lend ZM.mono hma om)) ?_))⟩
 rintro _ Ba _ hlea ⟨BBa,_,rfl,hBa,_,hma,_,la,aa,ca,rfl,rfl,hsa⟩
 replace hv:=hv.mono ZM.mono hlea
 replace hbm:=hbm.mono hlea
 replace hsa:=hsa.anyK (B':=Ba) ZM.any
 refine ⟨⟨hlea,t1⟩,?_⟩
 have hb1:=Zd7 (⟨h.x.next,h.x.mail⟩:DBox) rf xt
 refine aM 6 rfl (h:=aE 7 rfl (h:=aE 8 rfl (h:=Zbj 10 kr rfl kr kr (ZI [_,_] 4 [_,_] rfl rfl Zcx rfl rfl rfl rfl rfl rfl rfl rfl ?_))))
 refine aA 11 rfl (h:=Zz kr kr ?_)
 refine Zj (ZgI [_,_,_,_,_,_] rfl (Zf (Za (xM (h:=Zb rfl (fun g2=>?_) (fun g2=>?_))))))
 try simp only [sQ,ne_eq] at g2
 refine Za (xL [_,_] Zbp 4 (h:=xS [_,_] 3 [_,_] Zcx (h:=ZgI [_,_,_,_,_,_] rfl (Z2 (keeps _ [3] _) mo kr ⟨Kn.le.refl _,Zai.refl _ _⟩ (fun _ _=>?_)))))
 refine aW 0 rfl ZbW (h:=aT 1 rfl (ZC fun D B L hI=>Zh rfl rfl lk3 rfl (atL 3 (hI.2.1.trans rfl) rfl rfl) r4) (h:=aM 2 rfl (h:=Zq 3 kr rfl kr (Zcm 0 rfl rfl rfl Za4 rfl (ZL _ _ _ _ _ _ oz oz oz hm _ hbm) ?_))))
 rintro _ _ ⟨rd,rfl,rda,rdb,rfl⟩
 refine ⟨⟨Kn.le.refl _,t1⟩,(aD 4 rfl (h:=aW 5 rfl ZbW (h:=ZV 6 kr rfl kr kr kr (ZI [_] 3 [_,_] rfl rfl sz3 rfl rfl rfl rfl rfl rfl rfl rfl ?_))))⟩
 refine Zj (Za (xM (h:=xX 0 rfl Za4 rfl (ZL _ _ _ _ _ _ oz oz oz hm _ hbm) (h:=?_))))
 rintro _ _ ⟨re,rfl,rea,reb,rfl⟩
 refine ZF (h:=ZgI [_,_,_,_,_,_] rfl (Zb rfl (fun g3=>?_) (fun g3=>?_)))
 try simp only [sQ,ne_eq] at g3
 refine Zc (xL [_,_] Zbp 3 (h:=Zp (ZaA [5] rfl rfl rfl rfl Zk6 rfl (Zu.borrow fun hm30=>ZcB _ _ (⟨((ZQ (⟨h.x.next,h.x.mail⟩:DBox) rf xt).1.next+rd),(ZQ (⟨h.x.next,h.x.mail⟩:DBox) rf xt).1.mail⟩:DBox) _ (hsa.lend ZM.mono hm30 om)) ?_)))
 rintro _ B30 _ hle30 ⟨BB30,_,rfl,hB30,_,hm30,_,l30,a30,c30,l30b,a30b,c30b,rfl,rfl,hs30,hs30b⟩
 replace hv:=hv.mono ZM.mono hle30
 replace hsa:=hsa.mono ZM.mono hle30
 replace hbm:=hbm.mono hle30
 replace hs30:=hs30.anyK (B':=B30) ZM.any
 replace hs30b:=hs30b.anyK (B':=B30) Zb9.any
 refine xM (h:=xE (h:=xE (h:=xS [_,_] 3 [_,_] Zcx (h:=Zx (Zj (Zc (xM (h:=xD (h:=xA (h:=?_))))))))))
 exact ZA ⟨h.k+1,((((h.p+1)+2)+1)+1),l30,a30,c30,⟨((expunge (⟨((ZQ (⟨h.x.next,h.x.mail⟩:DBox) rf xt).1.next+rd),(ZQ (⟨h.x.next,h.x.mail⟩:DBox) rf xt).1.mail⟩:DBox)).1.next),((expunge (⟨((ZQ (⟨h.x.next,h.x.mail⟩:DBox) rf xt).1.next+rd),(ZQ (⟨h.x.next,h.x.mail⟩:DBox) rf xt).1.mail⟩:DBox)).1.mail)⟩⟩ [0,1,6,3] so2 ⟨so,so,by first | (simp only [];omega) | exact (ZE _).1,by first | (simp only [];omega) | exact Int.le_trans (ZE _).2.1 (by decide),by first | (simp only [];omega) | exact Nat.le_trans (ZE _).2.2 (by decide),hs30⟩ t5 rfl
 try simp only [sQ,ne_eq] at g3
 refine ZK (Zx (Zj (Zc (xM (h:=xD (h:=xA (h:=?_)))))))
 exact ZA ⟨h.k+1,((((h.p+1)+2)+1)+1),la,aa,ca,⟨((ZQ (⟨h.x.next,h.x.mail⟩:DBox) rf xt).1.next+rd),((ZQ (⟨h.x.next,h.x.mail⟩:DBox) rf xt).1.mail)⟩⟩ [0,1,5,3] so2 ⟨so,so,by first | (simp only [];omega) | exact (ZE _).1,by first | (simp only [];omega) | exact Int.le_trans (ZE _).2.1 (by decide),by first | (simp only [];omega) | exact Nat.le_trans (ZE _).2.2 (by decide),hsa⟩ t5 rfl
 try simp only [sQ,ne_eq] at g2
 refine ZK (Zj (Za (xM (h:=xX 0 rfl Za4 rfl (ZL _ _ _ _ _ _ oz oz oz hm _ hbm) (h:=?_)))))
 rintro _ _ ⟨re,rfl,rea,reb,rfl⟩
 refine ZF (h:=ZgI [_,_,_,_,_,_] rfl (Zb rfl (fun g3=>?_) (fun g3=>?_)))
 try simp only [sQ,ne_eq] at g3
 refine Zc (xL [_,_] Zbp 3 (h:=Zp (ZaA [2] rfl rfl rfl rfl Zk6 rfl (Zu.borrow fun hm32=>ZcB _ _ (⟨h.x.next,h.x.mail⟩:DBox) _ (hv.lend ZM.mono hm32 om)) ?_)))
 rintro _ B32 _ hle32 ⟨BB32,_,rfl,hB32,_,hm32,_,l32,a32,c32,l32b,a32b,c32b,rfl,rfl,hs32,hs32b⟩
 replace hv:=hv.mono ZM.mono hle32
 replace hsa:=hsa.mono ZM.mono hle32
 replace hbm:=hbm.mono hle32
 replace hs32:=hs32.anyK (B':=B32) ZM.any
 replace hs32b:=hs32b.anyK (B':=B32) Zb9.any
 refine xM (h:=xE (h:=xE (h:=xS [_,_] 3 [_,_] Zcx (h:=Zx (Zj (Zc (xM (h:=xD (h:=xA (h:=?_))))))))))
 exact ZA ⟨h.k+1,(((h.p+1)+2)+1),l32,a32,c32,⟨((expunge (⟨h.x.next,h.x.mail⟩:DBox)).1.next),((expunge (⟨h.x.next,h.x.mail⟩:DBox)).1.mail)⟩⟩ [0,1,6,3] so2 ⟨so,so,by first | (simp only [];omega) | exact (ZE _).1,by first | (simp only [];omega) | exact Int.le_trans (ZE _).2.1 (by decide),by first | (simp only [];omega) | exact Nat.le_trans (ZE _).2.2 (by decide),hs32⟩ t5 rfl
 try simp only [sQ,ne_eq] at g3
 refine ZK (Zx (Zj (Zc (xM (h:=xD (h:=xA (h:=?_)))))))
 exact ZA ⟨h.k+1,(((h.p+1)+2)+1),h.l,h.a,h.c,⟨h.x.next,h.x.mail⟩⟩ [0,1,2,3] so2 ⟨so,so,by first | (simp only [];omega) | exact (ZE _).1,by first | (simp only [];omega) | exact Int.le_trans (ZE _).2.1 (by decide),by first | (simp only [];omega) | exact Nat.le_trans (ZE _).2.2 (by decide),hv⟩ t5 rfl
 refine (Zal (l:=[_,_]) rfl rfl ZeS rfl (fun b33=>⟨⟨Kn.le.refl _,t1⟩,(Zq 2 kr rfl kr (Zcm 0 rfl rfl rfl Za4 rfl (ZL _ _ _ _ _ _ oz oz oz hm _ hbm) ?_))⟩))
 rintro _ _ ⟨rf,rfl,rfa,rfb,rfl⟩
 refine ⟨⟨Kn.le.refl _,t1⟩,(Zq 4 kr rfl kr (Zcm 0 rfl rfl rfl Zvr rfl (ZdG _ _ _ _ _ oz hm _ hbm) ?_))⟩
 rintro _ _ ⟨xt,rfl,hxt,rfl⟩
 refine ⟨⟨Kn.le.refl _,t1⟩,(Zq 5 kr rfl kr (ZaA [2] rfl rfl rfl rfl Ztr rfl (Zu.borrow fun hma=>ZdX _ _ (⟨h.x.next,h.x.mail⟩:DBox) rf xt om2 _ (hv.lend ZM.mono hma om)) ?_))⟩
 rintro _ Ba _ hlea ⟨BBa,_,rfl,hBa,_,hma,_,la,aa,ca,rfl,rfl,hsa⟩
 replace hv:=hv.mono ZM.mono hlea
 replace hbm:=hbm.mono hlea
 replace hsa:=hsa.anyK (B':=Ba) ZM.any
 refine ⟨⟨hlea,t1⟩,?_⟩
 have hb1:=Zd7 (⟨h.x.next,h.x.mail⟩:DBox) rf xt
 refine aM 6 rfl (h:=aE 7 rfl (h:=aE 8 rfl (h:=Zbj 10 kr rfl kr kr (ZI [_,_] 4 [_,_] rfl rfl Zcx rfl rfl rfl rfl rfl rfl rfl rfl ?_))))
 refine aA 11 rfl (h:=Zz kr kr ?_)
 refine Zj (ZgI [_,_,_,_,_,_] rfl (Zf (Za (xM (h:=Zb rfl (fun g2=>?_) (fun g2=>?_))))))
 try simp only [sQ,ne_eq] at g2
 refine Za (xL [_,_] Zbp 4 (h:=xS [_,_] 3 [_,_] Zcx (h:=ZgI [_,_,_,_,_,_] rfl (Z2 (keeps _ [3] _) mo kr ⟨Kn.le.refl _,Zai.refl _ _⟩ (fun _ _=>?_)))))
 refine aW 0 rfl ZbW (h:=aT 1 rfl (ZC fun D B L hI=>Zh rfl rfl lk3 rfl (atL 3 (hI.2.1.trans rfl) rfl rfl) r4) (h:=aM 2 rfl (h:=Zq 3 kr rfl kr (Zcm 0 rfl rfl rfl Za4 rfl (ZL _ _ _ _ _ _ oz oz oz hm _ hbm) ?_))))
 rintro _ _ ⟨rd,rfl,rda,rdb,rfl⟩
 refine ⟨⟨Kn.le.refl _,t1⟩,(aD 4 rfl (h:=aW 5 rfl ZbW (h:=ZV 6 kr rfl kr kr kr (ZI [_] 3 [_,_] rfl rfl sz3 rfl rfl rfl rfl rfl rfl rfl rfl ?_))))⟩
 refine Zj (Za (xM (h:=xX 0 rfl Za4 rfl (ZL _ _ _ _ _ _ oz oz oz hm _ hbm) (h:=?_))))
 rintro _ _ ⟨re,rfl,rea,reb,rfl⟩
 refine ZF (h:=ZgI [_,_,_,_,_,_] rfl (Zb rfl (fun g3=>?_) (fun g3=>?_)))
 try simp only [sQ,ne_eq] at g3
 refine Zc (xL [_,_] Zbp 3 (h:=Zp (ZaA [5] rfl rfl rfl rfl Zk6 rfl (Zu.borrow fun hm39=>ZcB _ _ (⟨((ZQ (⟨h.x.next,h.x.mail⟩:DBox) rf xt).1.next+rd),(ZQ (⟨h.x.next,h.x.mail⟩:DBox) rf xt).1.mail⟩:DBox) _ (hsa.lend ZM.mono hm39 om)) ?_)))
 rintro _ B39 _ hle39 ⟨BB39,_,rfl,hB39,_,hm39,_,l39,a39,c39,l39b,a39b,c39b,rfl,rfl,hs39,hs39b⟩
 replace hv:=hv.mono ZM.mono hle39
 replace hsa:=hsa.mono ZM.mono hle39
 replace hbm:=hbm.mono hle39
 replace hs39:=hs39.anyK (B':=B39) ZM.any
 replace hs39b:=hs39b.anyK (B':=B39) Zb9.any
 refine xM (h:=xE (h:=xE (h:=xS [_,_] 3 [_,_] Zcx (h:=Zx (Zj (Zc (xM (h:=xD (h:=xA (h:=?_))))))))))
 exact ZA ⟨h.k+1,((((h.p+1)+2)+1)+1),l39,a39,c39,⟨((expunge (⟨((ZQ (⟨h.x.next,h.x.mail⟩:DBox) rf xt).1.next+rd),(ZQ (⟨h.x.next,h.x.mail⟩:DBox) rf xt).1.mail⟩:DBox)).1.next),((expunge (⟨((ZQ (⟨h.x.next,h.x.mail⟩:DBox) rf xt).1.next+rd),(ZQ (⟨h.x.next,h.x.mail⟩:DBox) rf xt).1.mail⟩:DBox)).1.mail)⟩⟩ [0,1,6,3] so2 ⟨so,so,by first | (simp only [];omega) | exact (ZE _).1,by first | (simp only [];omega) | exact Int.le_trans (ZE _).2.1 (by decide),by first | (simp only [];omega) | exact Nat.le_trans (ZE _).2.2 (by decide),hs39⟩ t5 rfl
 try simp only [sQ,ne_eq] at g3
 refine ZK (Zx (Zj (Zc (xM (h:=xD (h:=xA (h:=?_)))))))
 exact ZA ⟨h.k+1,((((h.p+1)+2)+1)+1),la,aa,ca,⟨((ZQ (⟨h.x.next,h.x.mail⟩:DBox) rf xt).1.next+rd),((ZQ (⟨h.x.next,h.x.mail⟩:DBox) rf xt).1.mail)⟩⟩ [0,1,5,3] so2 ⟨so,so,by first | (simp only [];omega) | exact (ZE _).1,by first | (simp only [];omega) | exact Int.le_trans (ZE _).2.1 (by decide),by first | (simp only [];omega) | exact Nat.le_trans (ZE _).2.2 (by decide),hsa⟩ t5 rfl
 try simp only [sQ,ne_eq] at g2
 refine ZK (Zj (Za (xM (h:=xX 0 rfl Za4 rfl (ZL _ _ _ _ _ _ oz oz oz hm _ hbm) (h:=?_)))))
 rintro _ _ ⟨re,rfl,rea,reb,rfl⟩
 refine ZF (h:=ZgI [_,_,_,_,_,_] rfl (Zb rfl (fun g3=>?_) (fun g3=>?_)))
 try simp only [sQ,ne_eq] at g3
 refine Zc (xL [_,_] Zbp 3 (h:=Zp (ZaA [2] rfl rfl rfl rfl Zk6 rfl (Zu.borrow fun hm41=>ZcB _ _ (⟨h.x.next,h.x.mail⟩:DBox) _ (hv.lend ZM.mono hm41 om)) ?_)))
 rintro _ B41 _ hle41 ⟨BB41,_,rfl,hB41,_,hm41,_,l41,a41,c41,l41b,a41b,c41b,rfl,rfl,hs41,hs41b⟩
 replace hv:=hv.mono ZM.mono hle41
 replace hsa:=hsa.mono ZM.mono hle41
 replace hbm:=hbm.mono hle41
 replace hs41:=hs41.anyK (B':=B41) ZM.any
 replace hs41b:=hs41b.anyK (B':=B41) Zb9.any
 refine xM (h:=xE (h:=xE (h:=xS [_,_] 3 [_,_] Zcx (h:=Zx (Zj (Zc (xM (h:=xD (h:=xA (h:=?_))))))))))
 exact ZA ⟨h.k+1,(((h.p+1)+2)+1),l41,a41,c41,⟨((expunge (⟨h.x.next,h.x.mail⟩:DBox)).1.next),((expunge (⟨h.x.next,h.x.mail⟩:DBox)).1.mail)⟩⟩ [0,1,6,3] so2 ⟨so,so,by first | (simp only [];omega) | exact (ZE _).1,by first | (simp only [];omega) | exact Int.le_trans (ZE _).2.1 (by decide),by first | (simp only [];omega) | exact Nat.le_trans (ZE _).2.2 (by decide),hs41⟩ t5 rfl
 try simp only [sQ,ne_eq] at g3
 refine ZK (Zx (Zj (Zc (xM (h:=xD (h:=xA (h:=?_)))))))
 exact ZA ⟨h.k+1,(((h.p+1)+2)+1),h.l,h.a,h.c,⟨h.x.next,h.x.mail⟩⟩ [0,1,2,3] so2 ⟨so,so,by first | (simp only [];omega) | exact (ZE _).1,by first | (simp only [];omega) | exact Int.le_trans (ZE _).2.1 (by decide),by first | (simp only [];omega) | exact Nat.le_trans (ZE _).2.2 (by decide),hv⟩ t5 rfl
 try simp only [sQ,ne_eq] at g1
 refine ZT (Zab (ZW (ZG (Zj (Zf (Za (xM (h:=xX 0 rfl Za4 rfl (ZL _ _ _ _ _ _ oz oz oz hm _ hbm) (h:=?_)))))))))
 rintro _ _ ⟨rz0,rfl,rz0a,rz0b,rfl⟩
 refine ZgI [_,_,_,_] rfl (Zl (Za (ZF (h:=xA (h:=Zb rfl (fun g4=>?_) (fun g4=>?_))))))
 try simp only [sQ,ne_eq] at g4
 refine Zc (xBs [(0,_),(1,_),(2,_),(3,_)] [_,_,_,_] Tryz.underlying110 sz3 zo3 (h:=fun b43=>xM (h:=xX 0 rfl Za4 rfl (ZL _ _ _ _ _ _ oz oz oz hm _ hbm) (h:=?_))))
 rintro _ _ ⟨rz1,rfl,rz1a,rz1b,rfl⟩
 have hvq45:ZZ B8 (Zas b43 (([0,99,100,101]:List Int).map fun x=>.int .i64 x) 3) (some ⟨b43,0,none⟩) 4 3 1 Zb9 ([0,99,100,101]:List Int):=ZZ.ints
 obtain ⟨e,he⟩:=Zeh (xs:=([0,99,100,101]:List Int)) (i:=rz1) om om
 obtain ⟨bb47,_,hp47,rfl,hw47,hc47⟩:=hvq45.row he
 refine xIp hp47 Tryz.underlying110 sz3 (h:=Zp (Zh rfl rfl lk3 rfl (hc47 _ 4 rfl 0 _ rfl) (xW ZbW (h:=xS [_] 3 [_,_] sz3 (h:=Zx (Zj (Za (xL [_,_] Zbp 3 (h:=Z4 2 rfl hv ZM.mono om3 (fun B48 hle48 hr48=>?_))))))))))
 replace hvq45:=hvq45.mono Zb9.mono hle48
 replace hbm:=hbm.mono hle48
 have hr48n:=hr48.len
 refine xS [_,_] 1 [_,_] Zcx (h:=ZgI [_,_,_,_,_] rfl (Zd ?_))
 exact Zav .ret (.inl rfl) [_] [0] rfl ⟨⟨_,rfl,.inr ⟨[_,_],Zbp,Z9 1 rfl rfl rfl,rfl⟩⟩,trivial⟩ ⟨_,_,⟨e,h.x.mail⟩,_,(ol),hr48,oz,rfl⟩
 try simp only [sQ,ne_eq] at g4
 refine Za (ZF (h:=xA (h:=Zb rfl (fun g5=>?_) (fun g5=>?_))))
 try simp only [sQ,ne_eq] at g5
 refine Za (xW ZaL (h:=x1 Zfs 3 (h:=xV Tryz.underlying36 (h:=Zbw (h:=Zb rfl (fun g6=>?_) (fun g6=>?_))))))
 try simp only [sQ,ne_eq] at g6
 refine Z2 (keeps _ [2,3] _) mo kr ⟨Kn.le.refl _,Zai.refl _ _⟩ (fun _ _=>?_)
 refine aW 0 rfl ZaL (h:=aT 1 rfl (ZC fun D B L hI=>Zh rfl rfl Zfs rfl (atL 3 (hI.2.2.1.trans rfl) rfl rfl) r4) (h:=aM 2 rfl (h:=aW 3 rfl ZaL (h:=aT 4 rfl (ZC fun D B L hI=>Zh rfl rfl Zfs rfl (atL 3 (hI.2.2.1.trans rfl) rfl rfl) r4) (h:=aV 5 rfl Tryz.underlying36 (h:=aM 7 rfl (h:=Zq 6 kr rfl kr (Zcm 0 rfl rfl rfl Za4 rfl (ZL _ _ _ _ _ _ oz oz oz hm _ hbm) ?_))))))))
 rintro _ _ ⟨rz1,rfl,rz1a,rz1b,rfl⟩
 refine ⟨⟨Kn.le.refl _,t2⟩,(Zq 8 kr rfl kr (Zcm 0 rfl rfl rfl Za4 rfl (ZL _ _ _ _ _ _ oz oz oz hm _ hbm) ?_))⟩
 rintro _ _ ⟨rz2,rfl,rz2a,rz2b,rfl⟩
 refine ⟨⟨Kn.le.refl _,t2⟩,?_⟩
 obtain ⟨z,hz⟩:=Zeh (xs:=h.x.mail) (i:=rz1) om om
 obtain ⟨bb52,_,hp52,⟨rfl,hb52⟩,hw52,hc52⟩:=hv.row hz
 refine aT 9 rfl (ZC fun D B L hI=>ZfN hp52 rfl rfl Tryz.underlying36 Zgc rfl rfl om om r4) (h:=?_)
 refine aW 10 rfl Zhw (h:=ZV 11 kr rfl kr kr kr (Zez (k:=(rz1).toNat) (off:=0) (⟨rz2,z.flags,z.text⟩) [_] 2 hv hp52 hz rfl rfl sz3 rfl rfl rfl rfl rfl rfl (by rintro _ ⟨rfl,e1⟩;exact ⟨rfl,e1⟩) (fun l53 hv53=>?_)))
 refine Zx (Zj (Za (xL [_,_] Zbp 3 (h:=Z4 2 rfl hv53 ZM.mono om3 (fun B54 hle54 hr54=>?_)))))
 replace hbm:=hbm.mono hle54
 have hr54n:=hr54.len
 refine xS [_,_] 1 [_,_] Zcx (h:=ZgI [_,_,_,_] rfl (Zd ?_))
 exact Zav .ret (.inl rfl) [_] [0] rfl ⟨⟨_,rfl,.inr ⟨[_,_],Zbp,Z9 1 rfl rfl rfl,rfl⟩⟩,trivial⟩ ⟨_,_,⟨h.x.next,(h.x.mail.set ((rz1).toNat) (⟨rz2,z.flags,z.text⟩))⟩,_,(ol),hr54,oz,rfl⟩
 try simp only [sQ,ne_eq] at g6
 refine ZK (Zx (Zj (Za (xL [_,_] Zbp 3 (h:=Z4 2 rfl hv ZM.mono om3 (fun B55 hle55 hr55=>?_))))))
 replace hbm:=hbm.mono hle55
 have hr55n:=hr55.len
 refine xS [_,_] 1 [_,_] Zcx (h:=ZgI [_,_,_,_] rfl (Zd ?_))
 exact Zav .ret (.inl rfl) [_] [0] rfl ⟨⟨_,rfl,.inr ⟨[_,_],Zbp,Z9 1 rfl rfl rfl,rfl⟩⟩,trivial⟩ ⟨_,_,⟨h.x.next,h.x.mail⟩,_,(ol),hr55,oz,rfl⟩
 try simp only [sQ,ne_eq] at g5
 refine Za (ZF (h:=xA (h:=Zb rfl (fun g7=>?_) (fun g7=>?_))))
 try simp only [sQ,ne_eq] at g7
 refine Za (xW ZaL (h:=x1 Zfs 3 (h:=xV Tryz.underlying36 (h:=Zbw (h:=Zb rfl (fun g8=>?_) (fun g8=>?_))))))
 try simp only [sQ,ne_eq] at g8
 refine Z2 (keeps _ [2,3] _) mo kr ⟨Kn.le.refl _,Zai.refl _ _⟩ (fun _ _=>?_)
 refine aW 0 rfl ZaL (h:=aT 1 rfl (ZC fun D B L hI=>Zh rfl rfl Zfs rfl (atL 3 (hI.2.2.1.trans rfl) rfl rfl) r4) (h:=aM 2 rfl (h:=aW 3 rfl ZaL (h:=aT 4 rfl (ZC fun D B L hI=>Zh rfl rfl Zfs rfl (atL 3 (hI.2.2.1.trans rfl) rfl rfl) r4) (h:=aV 5 rfl Tryz.underlying36 (h:=Zq 6 kr rfl kr (Zcm 0 rfl rfl rfl Za4 rfl (ZL _ _ _ _ _ _ oz oz oz hm _ hbm) ?_)))))))
 rintro _ _ ⟨rz1,rfl,rz1a,rz1b,rfl⟩
 refine ⟨⟨Kn.le.refl _,t2⟩,?_⟩
 obtain ⟨z,hz⟩:=Zeh (xs:=h.x.mail) (i:=rz1) om om
 obtain ⟨bb58,_,hp58,⟨rfl,hb58⟩,hw58,hc58⟩:=hv.row hz
 refine aT 7 rfl (ZC fun D B L hI=>ZfN hp58 rfl rfl Tryz.underlying36 Zgc rfl rfl om om r4) (h:=?_)
 refine aW 8 rfl Zi5 (h:=ZV 9 kr rfl kr kr kr (Zez (k:=(rz1).toNat) (off:=1) (⟨z.uid,32,z.text⟩) [_] 2 hv hp58 hz rfl rfl sz3 rfl rfl rfl rfl rfl rfl (by rintro _ ⟨rfl,e1⟩;exact ⟨rfl,e1⟩) (fun l59 hv59=>?_)))
 refine Zx (Zj (Za (xL [_,_] Zbp 3 (h:=Z4 2 rfl hv59 ZM.mono om3 (fun B60 hle60 hr60=>?_)))))
 replace hbm:=hbm.mono hle60
 have hr60n:=hr60.len
 refine xS [_,_] 1 [_,_] Zcx (h:=ZgI [_,_,_,_] rfl (Zd ?_))
 exact Zav .ret (.inl rfl) [_] [0] rfl ⟨⟨_,rfl,.inr ⟨[_,_],Zbp,Z9 1 rfl rfl rfl,rfl⟩⟩,trivial⟩ ⟨_,_,⟨h.x.next,(h.x.mail.set ((rz1).toNat) (⟨z.uid,32,z.text⟩))⟩,_,(ol),hr60,oz,rfl⟩
 try simp only [sQ,ne_eq] at g8
 refine ZK (Zx (Zj (Za (xL [_,_] Zbp 3 (h:=Z4 2 rfl hv ZM.mono om3 (fun B61 hle61 hr61=>?_))))))
 replace hbm:=hbm.mono hle61
 have hr61n:=hr61.len
 refine xS [_,_] 1 [_,_] Zcx (h:=ZgI [_,_,_,_] rfl (Zd ?_))
 exact Zav .ret (.inl rfl) [_] [0] rfl ⟨⟨_,rfl,.inr ⟨[_,_],Zbp,Z9 1 rfl rfl rfl,rfl⟩⟩,trivial⟩ ⟨_,_,⟨h.x.next,h.x.mail⟩,_,(ol),hr61,oz,rfl⟩
 try simp only [sQ,ne_eq] at g7
 refine ZK (Zx (Zj (Za (xL [_,_] Zbp 3 (h:=Z4 2 rfl hv ZM.mono om3 (fun B62 hle62 hr62=>?_))))))
 replace hbm:=hbm.mono hle62
 have hr62n:=hr62.len
 refine xS [_,_] 1 [_,_] Zcx (h:=ZgI [_,_,_,_] rfl (Zd ?_))
 exact Zav .ret (.inl rfl) [_] [0] rfl ⟨⟨_,rfl,.inr ⟨[_,_],Zbp,Z9 1 rfl rfl rfl,rfl⟩⟩,trivial⟩ ⟨_,_,⟨h.x.next,h.x.mail⟩,_,(ol),hr62,oz,rfl⟩

theorem Zl4 (b:Nat) (q:Option Addr) (m cp p:Nat) (hp:p≤700000000000) (hm:m≤2000) (B:Kn) (hbm:Zak B q m):Zu (pj J) 66 [ptr ⟨b,0,none⟩] B [rd b q m cp p] (fun v B' Ls=>∃(x:DHost) (p1 p2 p3:Option Addr) (d1 d2 d3 k:Nat),v = .agg #[str x.domain,.slice p1 x.users.length d1,.slice p2 x.folders.length d2,.int .i64 x.queue.next,.slice p3 x.queue.items.length d3]∧SlK B' p1 d1 3 Zv x.users∧SlK B' p2 d2 5 Ze x.folders∧SlK B' p3 d3 4 Zy x.queue.items∧x.domain.length≤2000000∧Zw x=true∧k≤p+6000∧Ls=[rd b q m cp k]):=by
 refine cB 37 Tryz.func66 (h:=?_)
 refine Za (xAl [_,_,_,_,_] Za1 (h:=fun b1=>tL2 (Za (xB [(0,_),(1,_),(2,_)] [_,_,_] [_,_,_] ZsH ZgH (h:=xM (h:=xX 0 rfl Za4 rfl (ZL _ _ _ _ _ _ oz oz oz hm _ hbm) (h:=?_)))))))
 rintro _ _ ⟨ra,rfl,raa,rab,rfl⟩
 refine xD (h:=xB [(0,_),(1,_),(2,_)] [_,_,_] [_,_,_] ZsH ZgH (h:=xM (h:=xX 0 rfl Za4 rfl (ZL _ _ _ _ _ _ oz oz oz hm _ hbm) (h:=?_))))
 rintro _ _ ⟨rb,rfl,rba,rbb,rfl⟩
 refine xD (h:=xB [(0,_),(1,_),(2,_)] [_,_,_] [_,_,_] ZsH ZgH (h:=xBs [(0,_),(1,_),(2,_)] [_,_,_,_,_,_,_,_,_] Tryz.underlying23 ZeW ZgH (h:=fun b4=>?_)))
 have hdl:(ZfH ra rb).length=3:=rfl
 have hvq:ZZ B (Zas b4 [str [97,109,121],str [97,49],int 60,str [98,111,98],str [98,50],int (20+ra),str [99,121,100],str [99,51],int (100+rb)] 50) (some ⟨b4,0,none⟩) 3 50 3 Zv (ZfH ra rb):=ZZ.lit (rows:=[[str [97,109,121],str [97,49],int 60],[str [98,111,98],str [98,50],int (20+ra)],[str [99,121,100],str [99,51],int (100+rb)]]) (.cons ⟨rfl,by simp,by simp⟩ (.cons ⟨rfl,by simp,by simp⟩ (.cons ⟨rfl,by simp,by simp⟩ .nil))) (by intro row hr;simp only [List.mem_cons,List.not_mem_nil,or_false] at hr;rcases hr with rfl | rfl | rfl <;> rfl)
 have hdu:=ZrN (a:=ra) (b:=rb) oz oz oz oz
 refine Z4 2 rfl hvq Zv.mono om3 (fun B5 hle5 hr5=>?_)
 replace hbm:=hbm.mono hle5
 have hr5n:=hr5.len
 refine xQ ZyY rfl (Zqv _ _ [104,111,115,116,46,111,114,103] (ZfH ra rb) om2 om2 _ hr5) (h:=?_)
 intro vh Bh hleh
 rintro ⟨q1h,c1h,q2h,c2h,q3h,c3h,rfl,huh,hfh,hih⟩
 replace hbm:=hbm.mono hleh
 have huhn:=huh.len
 have hfhn:=hfh.len
 have hihn:=hih.len
 refine xM (h:=xE (h:=xE (h:=xAl [_,_,_,_,_] Za1 (h:=fun b7=>xS [_,_,_,_,_] 3 [_,_,_,_,_] Zaq (h:=xA (h:=tL4 (Za (xM (h:=xX 0 rfl Za4 rfl (ZL _ _ _ _ _ _ oz oz oz hm _ hbm) (h:=?_))))))))))
 rintro _ _ ⟨rn,rfl,rna,rnb,rfl⟩
 refine xA (h:=tL4 (Zf (Za (xA (h:=Zl (ZO (α:=GHo) [0,2,3,5] (fun g=>[(6,.int .i64 g.k)]) [0,3] (fun g=>[rd b q m cp g.p,Zas b7 [str g.x.domain,.slice g.q1 g.x.users.length g.c1,.slice g.q2 g.x.folders.length g.c2,.int .i64 g.x.queue.next,.slice g.q3 g.x.queue.items.length g.c3] 29]) (fun g Bx=>g.k≤40∧g.p≤p+4+60*g.k∧Zw g.x=true∧g.x.domain.length≤2000000∧SlK Bx g.q1 g.c1 3 Zv g.x.users∧SlK Bx g.q2 g.c2 5 Ze g.x.folders∧SlK Bx g.q3 g.c3 4 Zy g.x.queue.items) (fun g=>40 - g.k) ⟨0,_,(Zco [104,111,115,116,46,111,114,103] (ZfH ra rb)).1,_,_,_,_,_,_⟩ t1 rfl (⟨Nat.zero_le _,(so),(by rw [hdu.1];exact hdu.2),(by rw [hdu.1];exact (by decide:(8:Nat)≤2000000)),huh,hfh,hih⟩) (fun g B9 hle9 hI=>?_)))))))
 obtain ⟨hk,hgp,hgo,hgd,hgu,hgf,hgi⟩:=hI
 have hgin:=hgi.len
 have hleft:=Znu hgo
 replace hbm:=hbm.mono hle9
 refine ZN [(0,_),(2,_),(3,_),(5,_),(6,_)] [_,_,_,_] t5 rfl (Zf (Za (xM (h:=xM (h:=Zaa (h:=Zb rfl (fun g1=>?_) (fun g1=>?_)))))))
 try simp only [sQ,ne_eq] at g1
 refine wSk (Zf (Zl (Z2 (keeps _ [3] _) mo kr ⟨Kn.le.refl _,Zai.refl _ _⟩ (fun _ _=>?_))))
 refine aT 0 rfl (ZC fun D B L hI=>Z1 [_,_,_,_,_] rfl rfl ZY rfl (Z9 3 (hI.2.1.trans rfl) rfl rfl) r4) (h:=aM 1 rfl (h:=aT 2 rfl (ZC fun D B L hI=>Z1 [_,_,_,_,_] rfl rfl ZY rfl (Z9 3 (hI.2.1.trans rfl) rfl rfl) r4) (h:=Zq 3 kr rfl kr (ZaA [0] rfl rfl rfl rfl ZyW rfl (Zpn _ _ _ _ _ oz hm _ _ _ _ _ _ g.x (oy) _ hbm hgi) ?_))))
 rintro _ Be _ hlee ⟨ee,ke,rfl,hee1,hee2,hee3,hee4,hee5,hke,rfl⟩
 obtain ⟨hgu,hgf,hgi⟩:=up3 hlee hgu hgf hgi
 refine ⟨⟨hlee,t1⟩,(Zq 4 kr rfl kr (ZeD rfl rfl ZyX rfl (Zsv _ _ _ _ _ _ g.x ee om2 om2 om2 om2 om2 om2 _ hgu hgf hgi) ?_))⟩
 intro vy By hley
 rintro ⟨p1y,d1y,p2y,d2y,p3y,d3y,rfl,huy,hfy,hiy,hdy⟩
 obtain ⟨hgu,hgf,hgi⟩:=up3 hley hgu hgf hgi
 have huyn:=huy.len
 have hfyn:=hfy.len
 have hiyn:=hiy.len
 refine ⟨⟨(hlee.trans hley),t1⟩,(aM 5 rfl (h:=aE 6 rfl (h:=aE 7 rfl (h:=Zbj 8 kr rfl kr kr (ZI [_,_,_,_,_] 3 [_,_,_,_,_] rfl rfl Zaq rfl rfl rfl rfl rfl rfl rfl rfl ?_)))))⟩
 refine Zz kr kr ?_
 refine Zx (Zj (Zc (xM (h:=xD (h:=xA (h:=?_))))))
 exact ZA ⟨g.k+1,ke,(hDo g.x ee).1,_,_,_,_,_,_⟩ [0,1,2,3] so2 ⟨so,so,ZwJ hgo,hdy,huy,hfy,hiy⟩ t5 rfl
 try simp only [sQ,ne_eq] at g1
 refine ZT (Zab (ZW (ZG (Zj (Za (xL [_,_,_,_,_] ZY 3 (h:=xS [_,_,_,_,_] 1 [_,_,_,_,_] Zaq (h:=tL4 (Zd ?_)))))))))
 exact eN [0] rfl ⟨⟨_,rfl,.inr ⟨[_,_,_,_,_],ZY,Z9 1 rfl rfl rfl,rfl⟩⟩,trivial⟩ ⟨_,_,_,_,_,_,_,_,rfl,hgu,hgf,hgi,oy,hgo,so2,rfl⟩

theorem Zpk (b:Nat) (q:Option Addr) (m cp p:Nat) (hp:p≤650000000000) (hm:m≤2000) (B:Kn) (hbm:Zak B q m):Zu (pj J) 65 [ptr ⟨b,0,none⟩] B [rd b q m cp p] (fun v B' Ls=>∃(x:DHost) (p1 p2 p3:Option Addr) (d1 d2 d3 k:Nat),v = .agg #[str x.domain,.slice p1 x.users.length d1,.slice p2 x.folders.length d2,.int .i64 x.queue.next,.slice p3 x.queue.items.length d3]∧SlK B' p1 d1 3 Zv x.users∧SlK B' p2 d2 5 Ze x.folders∧SlK B' p3 d3 4 Zy x.queue.items∧x.domain.length≤2000000∧k≤p+8000∧Ls=[rd b q m cp k]):=by
 refine cB 57 Tryz.func65 (h:=?_)
 refine Za (xAl [_,_,_,_,_] Za1 (h:=fun b1=>tL2 (Za (xM (h:=xK [0] rfl Zzl rfl (Zl4 _ _ _ _ _ oz hm _ hbm) (h:=?_))))))
 rintro _ Bh _ hleh ⟨xh,p1h,p2h,p3h,d1h,d2h,d3h,kh,rfl,huh,hfh,hih,hdh,hoh,hkh,rfl⟩
 replace hbm:=hbm.mono hleh
 have huhn:=huh.len
 have hfhn:=hfh.len
 have hihn:=hih.len
 have hpos:=Zpt hoh
 refine xC ZoC rfl (Zbl _ _ _ _ _ _ xh _ huh hfh hih) (h:=?_)
 rintro _ B3 _ hle3 ⟨l3,a3,c3,q13,c13,q33,c33,rfl,rfl,hu3,hs3,hi3⟩
 replace hbm:=hbm.mono hle3
 have hu3n:=hu3.len
 have hi3n:=hi3.len
 refine xAl [_,_,_,_,_] Za1 (h:=fun b4=>xS [_,_,_,_,_] 3 [_,_,_,_,_] Zaq (h:=tL4 (Zf (Za (xM (h:=xX 0 rfl Za4 rfl (ZL _ _ _ _ _ _ oz oz oz hm _ hbm) (h:=?_)))))))
 rintro _ _ ⟨rk,rfl,rka,rkb,rfl⟩
 refine tL4 (Zl (Za (ZF (h:=xA (h:=Zb rfl (fun g0=>?_) (fun g0=>?_))))))
 try simp only [sQ,ne_eq] at g0
 refine Zc (xM (h:=xX 0 rfl Zy3 rfl (Znk _ _ _ _ _ oz hm _ hbm) (h:=?_)))
 rintro _ _ ⟨x6,rfl,hx6,rfl⟩
 refine xW Zi7 (h:=xS [_] 3 [_,_,_,_,_] sz9 (h:=Zx (Zj (Za (xL [_,_,_,_,_] ZY 3 (h:=Z4 2 rfl hs3 Ze.mono om3 (fun B7 hle7 hr7=>?_)))))))
 obtain ⟨hu3,hi3⟩:=up2 hle7 hu3 hi3
 replace hbm:=hbm.mono hle7
 have hr7n:=hr7.len
 refine xS [_,_,_,_,_] 1 [_,_,_,_,_] Zaq (h:=tL4 (Zd ?_))
 exact eN [0] rfl ⟨⟨_,rfl,.inr ⟨[_,_,_,_,_],ZY,Z9 1 rfl rfl rfl,rfl⟩⟩,trivial⟩ ⟨⟨x6,xh.users,xh.folders,⟨xh.queue.next,xh.queue.items⟩⟩,_,_,_,_,_,_,_,(ol),hu3,hr7,hi3,by first | assumption | omega | (simp only [];omega),so2,rfl⟩
 try simp only [sQ,ne_eq] at g0
 refine Za (ZF (h:=xA (h:=Zb rfl (fun g1=>?_) (fun g1=>?_))))
 try simp only [sQ,ne_eq] at g1
 refine Zc (xM (h:=xK [0] rfl Zy2 rfl (Zpl _ _ _ _ _ oz hm _ hbm) (h:=?_)))
 rintro _ B8 _ hle8 ⟨q8,cp8,us8,p8,rfl,hu8,hun8,hp8,rfl⟩
 replace hs3:=hs3.mono Ze.mono hle8
 replace hu3:=hu3.mono Zv.mono hle8
 replace hi3:=hi3.mono Zy.mono hle8
 replace hbm:=hbm.mono hle8
 have hu8n:=hu8.len
 refine Zp (ZeC rfl rfl ZbX rfl ?_)
 refine Zp (ZI [_] 3 [_,_,_,_,_] rfl rfl ZzD rfl rfl rfl rfl rfl rfl rfl rfl ?_)
 refine Zx (Zj ?_)
 refine Za ?_
 refine Zp (Z1 [_,_,_,_,_] rfl rfl ZY rfl (Z9 3 rfl rfl rfl) ?_)
 refine Z4 2 rfl hs3 Ze.mono (by first | omega | decide | (simp;done) | (simp;omega)) (fun B9 hle9 hr9=>?_)
 obtain ⟨hu8,hi3⟩:=up2 hle9 hu8 hi3
 replace hbm:=hbm.mono hle9
 have hr9n:=hr9.len
 refine xS [_,_,_,_,_] 1 [_,_,_,_,_] Zaq (h:=tL4 (Zd ?_))
 exact eN [0] rfl ⟨⟨_,rfl,.inr ⟨[_,_,_,_,_],ZY,Z9 1 rfl rfl rfl,rfl⟩⟩,trivial⟩ ⟨⟨xh.domain,us8,xh.folders,⟨xh.queue.next,xh.queue.items⟩⟩,_,_,_,_,_,_,_,(ol),hu8,hr9,hi3,by first | assumption | omega | (simp only [];omega),so2,rfl⟩
 try simp only [sQ,ne_eq] at g1
 refine Za (ZF (h:=xA (h:=Zb rfl (fun g2=>?_) (fun g2=>?_))))
 try simp only [sQ,ne_eq] at g2
 refine Zc (xW ZX (h:=x1 Zck 3 (h:=Z4 2 rfl hs3 Ze.mono om3 (fun B10 hle10 hr10=>?_))))
 obtain ⟨hu3,hi3⟩:=up2 hle10 hu3 hi3
 replace hbm:=hbm.mono hle10
 have hr10n:=hr10.len
 obtain ⟨hq11,q11,cp11,hv11,hr11⟩:=hr10.cutE 1 xh.folders.length om om
 have hr11n:=hr11.len
 refine Zp (Zhh (a:=1) (b:=xh.folders.length) hv11 om hq11 rfl rfl Tryz.underlying24 Zba rfl ⟨_,_,rfl,by first | omega | (simp;done) | (simp;omega)⟩ rfl ?_)
 refine xW ZX (h:=xS [_] 3 [_,_,_,_,_] Zsg (h:=Zx (Zj (Za (xL [_,_,_,_,_] ZY 3 (h:=xS [_,_,_,_,_] 1 [_,_,_,_,_] Zaq (h:=tL4 (Zd ?_))))))))
 exact eN [0] rfl ⟨⟨_,rfl,.inr ⟨[_,_,_,_,_],ZY,Z9 1 rfl rfl rfl,rfl⟩⟩,trivial⟩ ⟨⟨xh.domain,xh.users,((xh.folders.take xh.folders.length).drop 1),⟨xh.queue.next,xh.queue.items⟩⟩,_,_,_,_,_,_,_,(ol),hu3,hr11,hi3,by first | assumption | omega | (simp only [];omega),so2,rfl⟩
 try simp only [sQ,ne_eq] at g2
 refine Za (ZF (h:=xA (h:=Zb rfl (fun g3=>?_) (fun g3=>?_))))
 try simp only [sQ,ne_eq] at g3
 refine Z2 (keeps _ [2,3] _) mo kr ⟨Kn.le.refl _,Zai.refl _ _⟩ (fun _ _=>?_)
 refine aW 0 rfl ZX (h:=aT 1 rfl (ZC fun D B L hI=>Zh rfl rfl Zck rfl (atL 3 (hI.2.2.1.trans rfl) rfl rfl) r4) (h:=aM 2 rfl (h:=aW 3 rfl ZX (h:=aT 4 rfl (ZC fun D B L hI=>Zh rfl rfl Zck rfl (atL 3 (hI.2.2.1.trans rfl) rfl rfl) r4) (h:=aV 5 rfl Tryz.underlying24 (h:=aM 7 rfl (h:=Zq 6 kr rfl kr (Zcm 0 rfl rfl rfl Za4 rfl (ZL _ _ _ _ _ _ oz oz oz hm _ hbm) ?_))))))))
 rintro _ _ ⟨rw,rfl,rwa,rwb,rfl⟩
 refine ⟨⟨Kn.le.refl _,t2⟩,(Zq 8 kr rfl kr (ZaA [0] rfl rfl rfl rfl Zy1 rfl (ZsY _ _ _ _ _ oz hm _ hbm) ?_))⟩
 rintro _ Ba _ hlea ⟨qa,cpa,gsa,ka,rfl,hga,hka,rfl⟩
 replace hs3:=hs3.mono Ze.mono hlea
 replace hu3:=hu3.mono Zv.mono hlea
 replace hi3:=hi3.mono Zy.mono hlea
 replace hbm:=hbm.mono hlea
 have hgan:=hga.len
 refine ⟨⟨hlea,t2⟩,?_⟩
 obtain ⟨z,hz⟩:=Zeh (xs:=xh.folders) (i:=rw) om om
 obtain ⟨bb15,_,hp15,⟨qg15,cg15,qm15,cm15,rfl,hg15,hm15,hb15,hb15b⟩,hw15,hc15⟩:=hs3.row hz
 have hg15n:=hg15.len
 have hm15n:=hm15.len
 have hm15s:=Z0 hm15
 refine aT 9 rfl (ZC fun D B L hI=>ZfN hp15 rfl rfl Tryz.underlying24 Zba rfl rfl om om r4) (h:=?_)
 refine aW 10 rfl ZcN (h:=ZV 11 kr rfl kr kr kr (Zez (k:=(rw).toNat) (off:=2) (⟨z.owner,z.name,gsa,z.next,z.mail⟩) [_] 2 hs3 hp15 hz rfl rfl Zwm rfl rfl rfl rfl rfl rfl (by rintro _ ⟨_,_,_,_,rfl,_,e2,e3,e4⟩;exact ⟨_,_,_,_,rfl,hga,e2,e3,e4⟩) (fun l16 hv16=>?_)))
 refine Zx (Zj (Za (xL [_,_,_,_,_] ZY 3 (h:=Z4 2 rfl hv16 Ze.mono om3 (fun B17 hle17 hr17=>?_)))))
 obtain ⟨hga,hu3,hi3⟩:=up3 hle17 hga hu3 hi3
 replace hbm:=hbm.mono hle17
 have hr17n:=hr17.len
 refine xS [_,_,_,_,_] 1 [_,_,_,_,_] Zaq (h:=tL4 (Zd ?_))
 exact Zav .ret (.inl rfl) [_] [0] rfl ⟨⟨_,rfl,.inr ⟨[_,_,_,_,_],ZY,Z9 1 rfl rfl rfl,rfl⟩⟩,trivial⟩ ⟨⟨xh.domain,xh.users,(xh.folders.set ((rw).toNat) (⟨z.owner,z.name,gsa,z.next,z.mail⟩)),⟨xh.queue.next,xh.queue.items⟩⟩,_,_,_,_,_,_,_,(by first | rfl | (simp only [List.length_set];rfl)),hu3,hr17,hi3,by first | assumption | omega | (simp only [];omega),by first | omega | (simp only [];omega),rfl⟩
 try simp only [sQ,ne_eq] at g3
 refine Za (ZF (h:=xA (h:=Zb rfl (fun g4=>?_) (fun g4=>?_))))
 try simp only [sQ,ne_eq] at g4
 refine Z2 (keeps _ [2,3] _) mo kr ⟨Kn.le.refl _,Zai.refl _ _⟩ (fun _ _=>?_)
 refine aW 0 rfl ZX (h:=aT 1 rfl (ZC fun D B L hI=>Zh rfl rfl Zck rfl (atL 3 (hI.2.2.1.trans rfl) rfl rfl) r4) (h:=aM 2 rfl (h:=aW 3 rfl ZX (h:=aT 4 rfl (ZC fun D B L hI=>Zh rfl rfl Zck rfl (atL 3 (hI.2.2.1.trans rfl) rfl rfl) r4) (h:=aV 5 rfl Tryz.underlying24 (h:=aM 7 rfl (h:=Zq 6 kr rfl kr (Zcm 0 rfl rfl rfl Za4 rfl (ZL _ _ _ _ _ _ oz oz oz hm _ hbm) ?_))))))))
 rintro _ _ ⟨rw,rfl,rwa,rwb,rfl⟩
 refine ⟨⟨Kn.le.refl _,t2⟩,(Zq 8 kr rfl kr (ZaA [0] rfl rfl rfl rfl Zy0 rfl (ZsZ _ _ _ _ _ oz hm _ hbm) ?_))⟩
 rintro _ Ba _ hlea ⟨qa,cpa,xa,ka,rfl,hga,hka,rfl⟩
 replace hs3:=hs3.mono Ze.mono hlea
 replace hu3:=hu3.mono Zv.mono hlea
 replace hi3:=hi3.mono Zy.mono hlea
 replace hbm:=hbm.mono hlea
 have hgan:=hga.len
 refine ⟨⟨hlea,t2⟩,?_⟩
 obtain ⟨z,hz⟩:=Zeh (xs:=xh.folders) (i:=rw) om om
 obtain ⟨bb21,_,hp21,⟨qg21,cg21,qm21,cm21,rfl,hg21,hm21,hb21,hb21b⟩,hw21,hc21⟩:=hs3.row hz
 have hg21n:=hg21.len
 have hm21n:=hm21.len
 have hm21s:=Z0 hm21
 refine aT 9 rfl (ZC fun D B L hI=>ZfN hp21 rfl rfl Tryz.underlying24 Zba rfl rfl om om r4) (h:=?_)
 refine aW 10 rfl Zby (h:=ZV 11 kr rfl kr kr kr (Zez (k:=(rw).toNat) (off:=3) (⟨z.owner,z.name,z.grants,xa.next,xa.mail⟩) [_,_] 2 hs3 hp21 hz rfl rfl Zcx rfl rfl rfl rfl rfl rfl (by rintro _ ⟨_,_,_,_,rfl,e1,_,e3,e4⟩;exact ⟨_,_,_,_,rfl,e1,hga,e3,e4⟩) (fun l22 hv22=>?_)))
 refine Zx (Zj (Za (xL [_,_,_,_,_] ZY 3 (h:=Z4 2 rfl hv22 Ze.mono om3 (fun B23 hle23 hr23=>?_)))))
 obtain ⟨hu3,hi3⟩:=up2 hle23 hu3 hi3
 replace hbm:=hbm.mono hle23
 have hr23n:=hr23.len
 refine xS [_,_,_,_,_] 1 [_,_,_,_,_] Zaq (h:=tL4 (Zd ?_))
 exact Zav .ret (.inl rfl) [_] [0] rfl ⟨⟨_,rfl,.inr ⟨[_,_,_,_,_],ZY,Z9 1 rfl rfl rfl,rfl⟩⟩,trivial⟩ ⟨⟨xh.domain,xh.users,(xh.folders.set ((rw).toNat) (⟨z.owner,z.name,z.grants,xa.next,xa.mail⟩)),⟨xh.queue.next,xh.queue.items⟩⟩,_,_,_,_,_,_,_,(by first | rfl | (simp only [List.length_set];rfl)),hu3,hr23,hi3,by first | assumption | omega | (simp only [];omega),by first | omega | (simp only [];omega),rfl⟩
 try simp only [sQ,ne_eq] at g4
 refine Za (ZF (h:=xA (h:=Zb rfl (fun g5=>?_) (fun g5=>?_))))
 try simp only [sQ,ne_eq] at g5
 refine Zc (xM (h:=xK [0] rfl ZyZ rfl (Zpm _ _ _ _ _ oz hm _ hbm) (h:=?_)))
 rintro _ B24 _ hle24 ⟨aq24,cq24,qq24,p24,rfl,hq24,hp24,rfl⟩
 replace hs3:=hs3.mono Ze.mono hle24
 replace hu3:=hu3.mono Zv.mono hle24
 replace hi3:=hi3.mono Zy.mono hle24
 have hq24n:=hq24.len
 refine Zp (ZeC rfl rfl Zcg rfl ?_)
 refine Zp (ZI [_,_] 3 [_,_,_,_,_] rfl rfl ZfA rfl rfl rfl rfl rfl rfl rfl rfl ?_)
 refine Zx (Zj ?_)
 refine Za ?_
 refine Zp (Z1 [_,_,_,_,_] rfl rfl ZY rfl (Z9 3 rfl rfl rfl) ?_)
 refine Z4 2 rfl hs3 Ze.mono (by first | omega | decide | (simp;done) | (simp;omega)) (fun B25 hle25 hr25=>?_)
 obtain ⟨hq24,hu3⟩:=up2 hle25 hq24 hu3
 have hr25n:=hr25.len
 refine xS [_,_,_,_,_] 1 [_,_,_,_,_] Zaq (h:=tL4 (Zd ?_))
 exact eN [0] rfl ⟨⟨_,rfl,.inr ⟨[_,_,_,_,_],ZY,Z9 1 rfl rfl rfl,rfl⟩⟩,trivial⟩ ⟨⟨xh.domain,xh.users,xh.folders,⟨qq24.next,qq24.items⟩⟩,_,_,_,_,_,_,_,(ol),hu3,hr25,hq24,by first | assumption | omega | (simp only [];omega),so2,rfl⟩
 try simp only [sQ,ne_eq] at g5
 refine ZK (Zx (Zj (Za (xL [_,_,_,_,_] ZY 3 (h:=Z4 2 rfl hs3 Ze.mono om3 (fun B26 hle26 hr26=>?_))))))
 obtain ⟨hu3,hi3⟩:=up2 hle26 hu3 hi3
 have hr26n:=hr26.len
 refine xS [_,_,_,_,_] 1 [_,_,_,_,_] Zaq (h:=tL4 (Zd ?_))
 exact eN [0] rfl ⟨⟨_,rfl,.inr ⟨[_,_,_,_,_],ZY,Z9 1 rfl rfl rfl,rfl⟩⟩,trivial⟩ ⟨⟨xh.domain,xh.users,xh.folders,⟨xh.queue.next,xh.queue.items⟩⟩,_,_,_,_,_,_,_,(ol),hu3,hr26,hi3,by first | assumption | omega | (simp only [];omega),so2,rfl⟩

theorem ZsX (b:Nat) (q:Option Addr) (m cp p:Nat) (hp:p≤600000000000) (hm:m≤2000) (B:Kn) (hbm:Zak B q m):Zu (pj J) 23 [ptr ⟨b,0,none⟩] B [rd b q m cp p] (fun v B' Ls=>∃(x:DHost) (p1 p2 p3:Option Addr) (d1 d2 d3 k:Nat),v = .agg #[str x.domain,.slice p1 x.users.length d1,.slice p2 x.folders.length d2,.int .i64 x.queue.next,.slice p3 x.queue.items.length d3]∧SlK B' p1 d1 3 Zv x.users∧SlK B' p2 d2 5 Ze x.folders∧SlK B' p3 d3 4 Zy x.queue.items∧x.domain.length≤2000000∧k≤p+9000∧Ls=[rd b q m cp k]):=by
 refine cB 10 Tryz.func23 (h:=?_)
 refine Za (xAl [_,_,_,_,_] Za1 (h:=fun b1=>tL2 (Zf (Za (xM (h:=xX 0 rfl Za4 rfl (ZL _ _ _ _ _ _ oz oz oz hm _ hbm) (h:=?_)))))))
 rintro _ _ ⟨r2,rfl,r2a,r2b,rfl⟩
 refine ZF (h:=tL2 (Zb rfl (fun g0=>?_) (fun g0=>?_)))
 refine Za (xM (h:=xK [0] rfl Zz1 rfl (Zpk _ _ _ _ _ oz hm _ hbm) (h:=?_)))
 rintro _ Bh _ hleh ⟨xh,p1h,p2h,p3h,d1h,d2h,d3h,kh,rfl,huh,hfh,hih,hdh,hkh,rfl⟩
 replace hbm:=hbm.mono hleh
 have huhn:=huh.len
 have hfhn:=hfh.len
 have hihn:=hih.len
 refine xS [_,_,_,_,_] 1 [_,_,_,_,_] Zaq (h:=tL2 (Zd (Zo ?_)))
 exact eN [0] rfl ⟨⟨_,rfl,.inr ⟨[_,_,_,_,_],ZY,Z9 1 rfl rfl rfl,rfl⟩⟩,trivial⟩ ⟨_,_,_,_,_,_,_,_,rfl,huh,hfh,hih,oy,so2,rfl⟩
 refine wSk (Za (xM (h:=xK [0] rfl Zzl rfl (Zl4 _ _ _ _ _ oz hm _ hbm) (h:=?_))))
 rintro _ Bh _ hleh ⟨xh,p1h,p2h,p3h,d1h,d2h,d3h,kh,rfl,huh,hfh,hih,hdh,hoh,hkh,rfl⟩
 have huhn:=huh.len
 have hfhn:=hfh.len
 have hihn:=hih.len
 refine xS [_,_,_,_,_] 1 [_,_,_,_,_] Zaq (h:=tL2 (Zd ?_))
 exact eN [0] rfl ⟨⟨_,rfl,.inr ⟨[_,_,_,_,_],ZY,Z9 1 rfl rfl rfl,rfl⟩⟩,trivial⟩ ⟨_,_,_,_,_,_,_,_,rfl,huh,hfh,hih,oy,so2,rfl⟩

theorem Zjx (q:Option Addr) (cp:Nat) (gs:List DGrant) (o u:Str) (ho:o.length≤2000000) (hn:u.length≤2000000) (B:Kn) (hg:SlK B q cp 2 ZU gs):ZaH (pj J) 20 [.slice q gs.length cp,str o,str u] B (.int .i64 (Zc2 gs o u)):=by
 refine cB 35 Tryz.func20 (h:=?_)
 refine Za (xA (h:=Za (xM (h:=xC Zzm rfl (ZoK _ _ _ _ hg) (h:=?_)))))
 rintro _ Bm _ hlem ⟨mm,lm,rfl,rfl,rfl,hlm⟩
 refine xM (h:=xE (h:=xE (h:=xA (h:=xA (h:=tL1 (Zf (Za (xM (h:=xN (h:=xM (h:=Zn (d:=16) rfl (fun g1=>?_) (fun g1=>?_))))))))))))
 try simp only [sQ,ne_eq] at g1
 refine xP (h:=xP (h:=xP (h:=xT (h:=xM (h:=xP (h:=xP (h:=xP (h:=xT (h:=Zb (t:=true) rfl (fun _=>Za (xA (h:=Zd (Zo ?_)))) (fun h=>Bool.noConfusion h))))))))))
 exact eR t1 ⟨ZaJ (Zli (by simp [g1])).symm,rfl,rfl⟩
 try simp only [sQ,ne_eq] at g1
 refine xM (h:=xR Zuc rfl (Zct _ om2 _) (h:=?_))
 refine xN (h:=xF (h:=xM (h:=Zn (d:=21) rfl (fun g2=>?_) (fun g2=>?_))))
 try simp only [sQ,ne_eq] at g2
 refine xP (h:=xP (h:=xP (h:=xT (h:=Zb (t:=true) rfl (fun _=>Za (xA (h:=Zd (Zo ?_)))) (fun h=>Bool.noConfusion h)))))
 exact eR t1 ⟨ZaJ (Zli (by simp [g2])).symm,rfl,rfl⟩
 try simp only [sQ,ne_eq] at g2
 refine xM (h:=xR Zuc rfl (Zct _ om2 _) (h:=?_))
 refine xN (h:=xF (h:=Zb rfl (fun g3=>?_) (fun g3=>?_)))
 try simp only [sQ,ne_eq] at g3
 refine Za (xA (h:=Zd (Zo ?_)))
 exact eR t1 ⟨ZaJ (Zli (by simp [g3])).symm,rfl,rfl⟩
 try simp only [sQ,ne_eq] at g3
 have hce:=ZtM (gs:=gs) (o:=o) (u:=u) g1 g2 (by simpa using g3)
 obtain ⟨bm,hmb,hml⟩:=hlm g1
 subst hmb
 clear hlm
 have hlm:=hml
 refine wSk (Zf (Za (xM (h:=xM (h:=Zdk (h:=Zb rfl (fun g4=>?_) (fun g4=>?_)))))))
 try simp only [sQ,ne_eq] at g4
 refine Za (xA (h:=Zd (Zo ?_)))
 exact eR t1 ⟨ZaJ (by rw [hce,if_pos g4]),rfl,rfl⟩
 try simp only [sQ,ne_eq] at g4
 refine wSk (Za (xM (h:=xM (h:=Zp (ZnW (k:=u) 0 rfl hlm rfl rfl Tryz.underlying103 Tryz.underlying9 zo3 rfl rfl (xM (h:=Zp (ZnW (k:=[97,110,121,111,110,101]) 0 rfl hlm rfl rfl Tryz.underlying103 Tryz.underlying9 zo3 rfl rfl (Zp (ZxE rfl rfl rfl rfl (xA (h:=Zd ?_))))))))))))
 exact eR t1 ⟨ZaJ (by rw [hce,if_neg g4];rfl),rfl,rfl⟩

theorem ZwE (b o:Nat) (q1 q2 q3:Option Addr) (c1 c2 c3:Nat) (x:DHost) (qa qb:Option Addr) (ca cb:Nat) (u:Str) (f:DFolder) (rr:Int) (hn:u.length≤2000000) (ho:f.owner.length≤2000000) (B:Kn) (hh:ZaQ B b o [str x.domain,.slice q1 x.users.length c1,.slice q2 x.folders.length c2,.int .i64 x.queue.next,.slice q3 x.queue.items.length c3]) (hu:SlK B q1 c1 3 Zv x.users) (hg:SlK B qa ca 2 ZU f.grants):ZaH (pj J) 72 [ptr ⟨b,o,none⟩,str u,.agg #[str f.owner,str f.name,.slice qa f.grants.length ca,.int .i64 f.next,.slice qb f.mail.length cb],.int .i64 rr] B (.bool (ZpX x.users f u rr)):=by
 refine cB 29 Tryz.func72 (h:=?_)
 refine Za (xBx [_,_,_,_,_] (h:=fun b1=>xA (h:=tL1 (Za (xW ZcN (h:=x1 Zph 0 (h:=xW Zb5 (h:=x1 lk9 0 (h:=xM (h:=xR Zzu rfl (Zjx _ _ f.grants f.owner u om2 om2 _ hg) (h:=?_)))))))))))
 refine xA (h:=Za (xM (h:=xM (h:=xR Zxo rfl (ZhV _ _ _ _ _ _ _ _ x u om2 _ hh hu) (h:=?_)))))
 refine xM (h:=Zn (d:=19) rfl (fun g1=>?_) (fun g1=>?_))
 refine xM (h:=Zd9 (h:=xT (h:=xM (h:=Zn (d:=23) rfl (fun g2=>?_) (fun g2=>?_)))))
 refine xM (h:=xM (h:=Zp (Zwh rfl rfl rfl rfl (ZbC (h:=xT (h:=xA (h:=Zd ?_)))))))
 exact eR t1 ⟨Zg (by simp [ZpX,g1,g2]),rfl,rfl⟩
 refine xP (h:=xP (h:=xP (h:=xP (h:=xF (h:=xA (h:=Zd ?_))))))
 exact eR t1 ⟨Zg (by simp [ZpX,g1,g2];try omega),rfl,rfl⟩
 refine xP (h:=xP (h:=xF (h:=xM (h:=xP (h:=xP (h:=xP (h:=xP (h:=xF (h:=xA (h:=Zd ?_))))))))))
 exact eR t1 ⟨Zg (by simp [ZpX,g1]),rfl,rfl⟩

theorem Zr4 (a b:Int) (ha0 : -100≤a) (ha1:a≤100) (hb0:0≤b) (hb1:b≤100) (B:Kn):ZaH (pj J) 21 [.int .i64 a,.int .i64 b] B (.bool (Zh3 b.toNat a b)):=by
 refine cB 19 Tryz.func21 (h:=?_)
 refine Za (xA (h:=Zf (Zl (ZO (α:=Nat × Int × Int) [] (fun g=>[(0,.int .i64 g.2.1),(1,.int .i64 g.2.2)]) [] (fun g=>[]) (fun g Bx=>Bx=B∧0≤g.2.2∧g.2.2≤g.1∧g.2.2≤100∧-100≤g.2.1∧g.2.1≤100∧Zh3 b.toNat a b=Zh3 g.1 g.2.1 g.2.2) (fun g=>g.2.2.toNat) (b.toNat,a,b) t2 rfl (⟨rfl,hb0,so,hb1,ha0,ha1,rfl⟩) (fun g B1 hle1 hI=>?_)))))
 obtain ⟨rfl,hk0,hk1,hk2,hk3,hk4,hs⟩:=hI
 have hq1:=Zrk (a:=g.2.1) oz oz
 have hq2:=Zrk (a:=g.2.2) oz oz
 refine ZN [(0,_),(1,_)] [] t2 rfl (Zf (Za (xM (h:=Zbw (h:=Zb rfl (fun g1=>?_) (fun g1=>?_))))))
 try simp only [sQ,ne_eq] at g1
 refine wSk (Zl (Zf (Za (xM (h:=Zp (Zgh rfl rfl rfl rfl oz rfl ?_))))))
 refine ZF (h:=xM (h:=Zn (d:=10) rfl (fun g2=>?_) (fun g2=>?_)))
 try simp only [sQ,ne_eq] at g2
 refine xM (h:=Zp (Zgh rfl rfl rfl rfl oz rfl ?_))
 refine ZF (h:=xT (h:=Zb rfl (fun g3=>?_) (fun g3=>?_)))
 try simp only [sQ,ne_eq] at g3
 refine Za (xA (h:=Zd (Zo (ZD (Z3 (ZD (Zo ?_)))))))
 exact eR t1 ⟨Zg (by rw [hs];exact (ZtK oz hk1 g2 g3).symm),rfl,rfl⟩
 try simp only [sQ,ne_eq] at g3
 refine wSk (Za (xM (h:=Zp (ZfL rfl rfl rfl rfl oz (by first | exact ZaR om om | rfl) ?_))))
 refine xA (h:=Zc (xM (h:=Zp (ZfL rfl rfl rfl rfl oz (by first | exact ZaR om om | rfl) ?_))))
 refine xA (h:=Zx ?_)
 exact ZA (g.1 - 1,Int.tdiv g.2.1 2,Int.tdiv g.2.2 2) [] so2 ⟨rfl,so,so,so,so,so,by rw [hs];exact ZmI oz hk1 (fun hc=>g3 hc.2)⟩ t2 rfl
 try simp only [sQ,ne_eq] at g2
 refine xP (h:=xP (h:=xP (h:=xF (h:=Zb (t:=false) rfl (fun h=>Bool.noConfusion h) (fun _=>wSk (Za (xM (h:=Zp (ZfL rfl rfl rfl rfl oz (by first | exact ZaR om om | rfl) ?_)))))))))
 refine xA (h:=Zc (xM (h:=Zp (ZfL rfl rfl rfl rfl oz (by first | exact ZaR om om | rfl) ?_))))
 refine xA (h:=Zx ?_)
 exact ZA (g.1 - 1,Int.tdiv g.2.1 2,Int.tdiv g.2.2 2) [] so2 ⟨rfl,so,so,so,so,so,by rw [hs];exact ZmI oz hk1 (fun hc=>g2 hc.1)⟩ t2 rfl
 try simp only [sQ,ne_eq] at g1
 refine ZT (Zab (ZW (ZG (Zj (Za (xA (h:=Zd ?_)))))))
 exact eR t1 ⟨Zg (by rw [hs,ZoI oz]),rfl,rfl⟩

theorem ZwQ (v:Value) (Q:Value→Kn→Cells→Prop) (B:Kn) (L:Cells):hb Tryz.prog (Extern.ReflectliteType.typeOf #[.iface 267 v]) Q B L=Q (.iface 245 (.agg #[.pointer (some ⟨5,267,none⟩)])) B L:=by kernel_rfl

theorem ZwR (v:Value) (k:Nat) (Q:FuncId × Value→Kn→Cells→Prop) (B:Kn) (L:Cells):hb Tryz.prog (Go.method (k+1) 245 v "Comparable") Q B L=Q (226,v) B L:=by kernel_rfl

theorem ZwS (Q:Value→Kn→Cells→Prop) (B:Kn) (L:Cells):hb Tryz.prog ((Extern.ReflectliteType.method fun t=>do Extern.Rtype.noPackHeld "Comparable" t;pure (.bool (← typeInfo t).comparable)) #[(.agg #[.pointer (some ⟨5,267,none⟩)])]) Q B L=Q (.bool true) B L:=by kernel_rfl

theorem Zvm:Extern.find Tryz.f226=some (Extern.ReflectliteType.method fun t=>do Extern.Rtype.noPackHeld "Comparable" t;pure (.bool (← typeInfo t).comparable)):=by kernel_rfl
theorem Zvl:Extern.find Tryz.f160=some Extern.ReflectliteType.typeOf:=by kernel_rfl

theorem Zx7:Extern.findNext Tryz.f160=none:=by kernel_rfl
theorem Zx8:Extern.findNext Tryz.f226=none:=by kernel_rfl

theorem Zvj (c k:Nat) (hc:c<4) (hk:k<4) (a:Nat→Addr)  (B:Kn) (hE:ErrsB 267 [0,1,2,3] B a):ZaH (pj J) 161 [errv 267 a (c+1),errv 267 a (k+1),.bool true] B (.bool (decide (c+1=k+1))):=by
 refine cB 54 Tryz.func161 (h:=?_)
 refine Za (xA (h:=Zl (ZO (α:=Unit) [1,2] (fun u=>[(0,errv 267 a (c+1))]) [] (fun u=>[]) (fun u Bx=>Bx=B) (fun u=>0) () t1 rfl (rfl) (fun u B1 hle1 hI=>?_))))
 subst hI
 refine ZN [(0,_),(1,_),(2,_)] [] t3 rfl (Zl (Zf (Za (xM (h:=xM (h:=Zn (d:=15) rfl (fun g1=>?_) (fun g1=>by cases g1)))))))
 try simp only [sQ,ne_eq] at g1
 refine xM (h:=xM (h:=Zp (Zqb (a:=a) (c:=(c+1)) (k:=k) hE oz oz rfl rfl Tryz.underlying69 Tryz.underlying267 ZzA Zwn rfl rfl ?_)))
 refine xT (h:=Zb rfl (fun g2=>?_) (fun g2=>?_))
 try simp only [sQ,ne_eq] at g2
 refine Za (xA (h:=Zd (Zo (ZD (Z3 (ZD ?_))))))
 exact eR t1 ⟨Zg (decide_eq_true g2).symm,rfl,rfl⟩
 try simp only [sQ,ne_eq] at g2
 refine wSk (Zf (Za (xM (h:=Zp (Zid rfl rfl Tryz.underlying247 kr Zxu rfl ?_)))))
 refine xM (h:=xE (h:=xE (h:=xA (h:=xA (h:=Za (xM (h:=xM (h:=Zn (d:=26) rfl (fun g3=>by cases g3) (fun g3=>?_)))))))))
 try simp only [sQ,ne_eq] at g3
 refine xP (h:=xP (h:=xP (h:=xF (h:=Zb (t:=false) rfl (fun h=>Bool.noConfusion h) (fun _=>wSk (Za (xM (h:=Zl (Za (Zp (Zid rfl rfl Tryz.underlying250 kr Zxt rfl ?_)))))))))))
 refine xE (h:=xE (h:=Zb rfl (fun g5=>by cases g5) (fun g5=>?_)))
 try simp only [sQ,ne_eq] at g5
 refine Za (Zp (Zid rfl rfl Tryz.underlying252 kr Zxs rfl ?_))
 refine xE (h:=xE (h:=Zb rfl (fun g6=>by cases g6) (fun g6=>?_)))
 try simp only [sQ,ne_eq] at g6
 refine Za (xA (h:=Za (xA (h:=Zd (ZD (ZD (Z3 (ZD ?_))))))))
 exact eR t1 ⟨Zg (decide_eq_false g2).symm,rfl,rfl⟩

theorem Zvi (c k:Nat) (hc:c<4) (hk:k<4) (a:Nat→Addr)  (B:Kn) (hE:ErrsB 267 [0,1,2,3] B a):ZaH (pj J) 115 [errv 267 a (c+1),errv 267 a (k+1)] B (.bool (decide (c+1=k+1))):=by
 refine cB 22 Tryz.func115 (h:=?_)
 refine Za (xA (h:=Zf (Za (xM (h:=Zp (ZnY (tE:=267) (a:=a) (c:=(c+1)) rfl rfl Tryz.underlying69 rfl (xM (h:=Zn (d:=8) rfl (fun g1=>by simp at g1) (fun g1=>?_)))))))))
 refine xM (h:=Zp (ZnY (tE:=267) (a:=a) (c:=(k+1)) rfl rfl Tryz.underlying69 rfl (xF (h:=Zb rfl (fun g2=>by simp at g2) (fun g2=>?_)))))
 refine wSk (Za (xM (h:=Zp (Zwc (fn:=Tryz.f160) rfl rfl Tryz.func160 rfl rfl Zx7 Zvl rfl (ZwQ _) (Zp (Zv9 (f:=226) (fn:=Tryz.f226) rfl rfl Tryz.func226 rfl rfl Zx8 Zvm rfl (ZwR _) ZwS (xA (h:=Za (xM (h:=xM (h:=xM (h:=xR ZyG rfl (Zvj c k oz oz a _ hE) (h:=?_)))))))))))))
 refine xA (h:=Zd ?_)
 exact eR t1 ⟨rfl,rfl,rfl⟩

theorem Zvk (k:Nat) (hk:k<4) (a:Nat→Addr)  (B:Kn) (hE:ErrsB 267 [0,1,2,3] B a):ZaH (pj J) 115 [.nilIface,errv 267 a (k+1)] B (.bool (decide (0=k+1))):=by
 refine cB 22 Tryz.func115 (h:=?_)
 refine Za (xA (h:=Zf (Za (xM (h:=Zp (ZnY (tE:=267) (a:=a) (c:=0) rfl rfl Tryz.underlying69 rfl (xM (h:=Zn (d:=8) rfl (fun g1=>?_) (fun g1=>by simp at g1)))))))))
 refine xP (h:=xP (h:=xT (h:=Zb (t:=true) rfl (fun _=>Za (xM (h:=xM (h:=Zp (Zqb (a:=a) (c:=0) (k:=k) hE oz oz rfl rfl Tryz.underlying69 Tryz.underlying267 ZzA Zwn rfl rfl ?_))))) (fun h=>Bool.noConfusion h))))
 refine xA (h:=Zd (Zo ?_))
 exact eR t1 ⟨rfl,rfl,rfl⟩

theorem Zoy (c k:Nat) (hc:c<5) (hk:k<4) (a:Nat→Addr)  (B:Kn) (hE:ErrsB 267 [0,1,2,3] B a):ZaH (pj J) 115 [errv 267 a c,errv 267 a (k+1)] B (.bool (decide (c=k+1))):=by
 cases c with
 | zero=>exact Zvk k hk a B hE
 | succ c=>exact Zvi c k oz hk a B hE

theorem Zpx (c:Nat) (hc:c<5) (a:Nat→Addr)  (B:Kn) (hE:ErrsB 267 [0,1,2,3] B a):ZaH (pj J) 71 [errv 267 a (c)] B (.int .i64 c):=by
 refine cB 22 Tryz.func71 (h:=?_)
 refine Za (xA (h:=Zf (Zl (Za (xM (h:=Zp (ZnY (tE:=267) (a:=a) (c:=c) rfl rfl Tryz.underlying69 rfl (xA (h:=Zb rfl (fun g0=>?_) (fun g0=>?_))))))))))
 try simp only [sQ,ne_eq] at g0
 refine Za (xA (h:=Zd (ZD (Zo ?_))))
 exact eR t1 ⟨ZaJ oz,rfl,rfl⟩
 try simp only [sQ,ne_eq] at g0
 refine Za (xM (h:=Zp (Zh rfl rfl ZsT rfl ((hE.row 0 (by decide)) _ 0 _ rfl) ?_)))
 refine xR Ztu rfl (Zoy c 0 om2 om2 a _ hE) (h:=?_)
 refine xA (h:=Zb rfl (fun g1=>?_) (fun g1=>?_))
 try simp only [sQ,ne_eq] at g1
 refine Za (xA (h:=Zd (ZD (Zo ?_))))
 exact eR t1 ⟨ZaJ oz,rfl,rfl⟩
 try simp only [sQ,ne_eq] at g1
 refine Za (xM (h:=Zp (Zh rfl rfl ZsT rfl ((hE.row 1 (by decide)) _ 0 _ rfl) ?_)))
 refine xR Ztu rfl (Zoy c 1 om2 om2 a _ hE) (h:=?_)
 refine xA (h:=Zb rfl (fun g2=>?_) (fun g2=>?_))
 try simp only [sQ,ne_eq] at g2
 refine Za (xA (h:=Zd (ZD (Zo ?_))))
 exact eR t1 ⟨ZaJ oz,rfl,rfl⟩
 try simp only [sQ,ne_eq] at g2
 refine Za (xM (h:=Zp (Zh rfl rfl ZsT rfl ((hE.row 2 (by decide)) _ 0 _ rfl) ?_)))
 refine xR Ztu rfl (Zoy c 2 om2 om2 a _ hE) (h:=?_)
 refine xA (h:=Zb rfl (fun g3=>?_) (fun g3=>?_))
 try simp only [sQ,ne_eq] at g3
 refine Za (xA (h:=Zd (ZD (Zo ?_))))
 exact eR t1 ⟨ZaJ oz,rfl,rfl⟩
 try simp only [sQ,ne_eq] at g3
 refine Za (xM (h:=Zp (Zh rfl rfl ZsT rfl ((hE.row 3 (by decide)) _ 0 _ rfl) ?_)))
 refine xR Ztu rfl (Zoy c 3 om2 om2 a _ hE) (h:=?_)
 refine xA (h:=Zb rfl (fun g4=>?_) (fun g4=>?_))
 try simp only [sQ,ne_eq] at g4
 refine Za (xA (h:=Zd (ZD (Zo ?_))))
 exact eR t1 ⟨ZaJ oz,rfl,rfl⟩
 try simp only [sQ,ne_eq] at g4
 refine ZK (Zx (Zj (Za (xA (h:=Zd ?_)))))
 exact eR t1 ⟨ZaJ oz,rfl,rfl⟩

theorem ZvG (b o:Nat) (q1 q2 q3:Option Addr) (c1 c2 c3:Nat) (x:DHost) (u ow nm:Str) (rr:Int) (hn:u.length≤2000000) (ho:ow.length≤2000000) (hm:nm.length≤2000000) (a:Nat→Addr)  (B:Kn) (hE:ErrsB 267 [0,1,2,3] B a) (hh:ZaQ B b o [str x.domain,.slice q1 x.users.length c1,.slice q2 x.folders.length c2,.int .i64 x.queue.next,.slice q3 x.queue.items.length c3]) (hu:SlK B q1 c1 3 Zv x.users) (hf:SlK B q2 c2 5 Ze x.folders):ZaH (pj J) 32 [ptr ⟨b,o,none⟩,str u,str ow,str nm,.int .i64 rr] B (.tuple #[.int .i64 (if Zjr x.users x.folders u ow nm rr=0 then ZaB (inF ow nm) x.folders else -1),errv 267 a (Zjr x.users x.folders u ow nm rr)]):=by
 refine cB 47 Tryz.func32 (h:=?_)
 have hfn:=hf.len
 have hix:=ZcY (inF ow nm) x.folders
 refine Za (xA (h:=xA (h:=Za (xM (h:=xM (h:=xM (h:=xR Zyf rfl (Zry _ _ _ _ _ _ _ _ x ow nm om2 om2 _ hh hf) (h:=?_))))))))
 refine xA (h:=Zf (Za (xM (h:=Zaa (h:=xM (h:=Zn (d:=19) rfl (fun g1=>?_) (fun g1=>?_)))))))
 try simp only [sQ,ne_eq] at g1
 refine xP (h:=xP (h:=xP (h:=xP (h:=xP (h:=xP (h:=xP (h:=xP (h:=xP (h:=xP (h:=xP (h:=xT (h:=Zb (t:=true) rfl (fun _=>Zf (Z2 (same _ _) mo kr ⟨rfl,rfl⟩ (fun _ _=>?_))) (fun h=>Bool.noConfusion h)))))))))))))
 refine aT 0 rfl (Zaj fun D=>Zh rfl rfl ZsT rfl ((hE.row 0 (by decide)) _ 0 _ rfl) r4) (h:=?_)
 refine aA 1 rfl (h:=aA 2 rfl (h:=Zz kr kr ?_))
 refine Zj (Zd (Zo ?_))
 exact ZrG .ret (.inl rfl) [_,_] t2 ⟨(by rw [show Zjr x.users x.folders u ow nm rr=1 from ZrT (by simpa using g1)];rfl),rfl,rfl⟩
 try simp only [sQ,ne_eq] at g1
 refine xM (h:=xM (h:=xM (h:=xNc (h:=xW ZX (h:=Zp (Zh rfl rfl Zck rfl (hh _ 2 _ rfl) (xM (h:=?_))))))))
 obtain ⟨w,hw⟩:=Zeh (xs:=x.folders) (i:=(ZaB (inF ow nm) x.folders)) om om
 obtain ⟨bb3,oo3,rfl⟩:=hf.base hw
 obtain ⟨_,⟨qg4,cg4,qm4,cm4,rfl,hg4,hm4,hb4,hb4b⟩,hc4⟩:=hf.elem hw
 have hg4n:=hg4.len
 have hm4n:=hm4.len
 have hm4s:=Z0 hm4
 refine xIx Tryz.underlying24 Zba (h:=yL [_,_,_,_,_] Ze9 hc4 0 (h:=xR Zzk rfl (ZwE _ _ _ _ _ _ _ _ x _ _ _ _ u w _ om2 om2 _ hh hu hg4) (h:=?_)))
 refine xN (h:=xF (h:=Zb rfl (fun g3=>?_) (fun g3=>?_)))
 try simp only [sQ,ne_eq] at g3
 refine Zf (Z2 (same _ _) mo kr ⟨rfl,rfl⟩ (fun _ _=>?_))
 refine aT 0 rfl (Zaj fun D=>Zh rfl rfl ZsT rfl ((hE.row 0 (by decide)) _ 0 _ rfl) r4) (h:=?_)
 refine aA 1 rfl (h:=aA 2 rfl (h:=Zz kr kr ?_))
 refine Zj (Zd (Zo ?_))
 exact ZrG .ret (.inl rfl) [_,_] t2 ⟨(by rw [show Zjr x.users x.folders u ow nm rr=1 from by rw [Zla oz hw,if_pos (by simpa using g3)]];rfl),rfl,rfl⟩
 try simp only [sQ,ne_eq] at g3
 refine wSk (Zf (Za (xM (h:=xM (h:=xM (h:=xNc (h:=xW ZX (h:=Zp (Zh rfl rfl Zck rfl (hh _ 2 _ rfl) (xM (h:=xIx Tryz.underlying24 Zba (h:=yL [_,_,_,_,_] Ze9 hc4 0 (h:=xM (h:=xR Zzk rfl (ZwE _ _ _ _ _ _ _ _ x _ _ _ _ u w _ om2 om2 _ hh hu hg4) (h:=?_)))))))))))))))
 refine xN (h:=Zb rfl (fun g4=>?_) (fun g4=>?_))
 try simp only [sQ,ne_eq] at g4
 refine Zf (Z2 (same _ _) mo kr ⟨rfl,rfl⟩ (fun _ _=>?_))
 refine aT 0 rfl (Zaj fun D=>Zh rfl rfl ZsT rfl ((hE.row 1 (by decide)) _ 0 _ rfl) r4) (h:=?_)
 refine aA 1 rfl (h:=aA 2 rfl (h:=Zz kr kr ?_))
 refine Zj (Zd (Zo ?_))
 exact ZrG .ret (.inl rfl) [_,_] t2 ⟨(by rw [show Zjr x.users x.folders u ow nm rr=2 from by rw [Zla oz hw,if_neg (by simp [g3]),if_pos (by simpa using g4)]];rfl),rfl,rfl⟩
 try simp only [sQ,ne_eq] at g4
 refine wSk (Za (xM (h:=xA (h:=xA (h:=Zd ?_)))))
 exact ZrG .ret (.inl rfl) [_,_] t2 ⟨(by rw [show Zjr x.users x.folders u ow nm rr=0 from by rw [Zla oz hw,if_neg (by simp [g3]),if_neg (by simp [g4])]];rfl),rfl,rfl⟩

theorem Zi4 (q:Option Addr) (cp:Nat) (xs:List DFolder) (B:Kn) (hx:SlK B q cp 5 Ze xs):Zu (pj J) 113 [.slice q xs.length cp] B [] (fun v B' Ls=>B'=B∧∃l a c,Ls=[l]∧v = .slice a xs.length c∧ZcO l a c 40 5 (Za7 93 89) xs):=by
 refine cB 22 Tryz.func113 (h:=?_)
 have hxn:=hx.len
 refine Za (xA (h:=Za (xM (h:=xV Tryz.underlying24 (h:=Zp (ZfM (m:=0) (c:=xs.length) (by_:=88) [.string ⟨#[]⟩,.string ⟨#[]⟩,.slice none 0 0,.int .i64 0,.slice none 0 0] rfl rfl Zjj Zdh rfl rfl ⟨_,_,rfl,by first | omega | (simp;done) | (simp;omega)⟩ ⟨_,_,rfl,by first | omega | (simp;done) | (simp;omega)⟩ om om (fun b1=>?_)))))))
 have hd1:=ZcO.zeros (b:=b1) (T:=40) (R:=(Za7 93 89)) (d:=(⟨[],[],[],0,[]⟩:DFolder)) (m:=0) (c:=xs.length) (zs:=[.string ⟨#[]⟩,.string ⟨#[]⟩,.slice none 0 0,.int .i64 0,.slice none 0 0]) rfl (⟨_,_,_,_,[],[],rfl,rfl,ZZ.nil,ZZ.nil,by simp,by simp,by simp,by simp⟩) om
 refine xA (h:=tL1 (Zf (Za (xM (h:=xV Tryz.underlying24 (h:=xM (h:=Zl (ZO (α:=Gh DFolder) [0,2,9,10] (fun g=>[(3,.slice g.a g.xs.length g.c),(11,.int .i64 g.k)]) [0] (fun g=>[g.l]) (fun g Bx=>Bx=B∧g.k≤xs.length∧g.xs=xs.take g.k∧g.xs.length≤g.k∧ZcO g.l g.a g.c 40 5 (Za7 93 89) g.xs) (fun g=>xs.length - g.k) ⟨0,0,(Zas b1 (zrow [.string ⟨#[]⟩,.string ⟨#[]⟩,.slice none 0 0,.int .i64 0,.slice none 0 0] xs.length) 40),(some ⟨b1,0,none⟩),xs.length,[]⟩ t2 rfl (⟨rfl,Nat.zero_le _,by simp,Nat.le_refl _,hd1⟩) (fun g B2 hle2 hI=>?_)))))))))
 obtain ⟨rfl,hk,hxs,hxl,hv⟩:=hI
 refine ZN [(0,_),(2,_),(3,_),(9,_),(10,_),(11,_)] [_] t6 rfl (Za (Zaa (h:=Zf (Zb rfl (fun g1=>?_) (fun g1=>?_)))))
 try simp only [sQ,ne_eq] at g1
 refine wSk (Zf (Zl (Za ?_)))
 obtain ⟨w,hw⟩:=Zaf (xs:=xs) (i:=g.k) om
 obtain ⟨bb4,oo4,rfl⟩:=hx.base hw
 obtain ⟨_,⟨qg5,cg5,qm5,cm5,rfl,hg5,hm5,hb5,hb5b⟩,hc5⟩:=hx.elem hw
 have hg5n:=hg5.len
 have hm5n:=hm5.len
 have hm5s:=Z0 hm5
 refine xIx Tryz.underlying24 Zba (h:=yL [_,_,_,_,_] Ze9 hc5 0 (h:=xAl [_,_,_,_,_] Zdh (h:=fun b6=>xS [_,_,_,_,_] 1 [_,_,_,_,_] Zba (h:=tL2 (Zc (xM (h:=xL [_,_,_,_,_] Ze9 1 (h:=xC Zzp rfl (Zgz _ _ _ _ w _ hg5 hm5) (h:=?_)))))))))
 rintro _ B7 _ hle7 ⟨rfl,l7,a7,c7,l7b,a7b,c7b,rfl,rfl,hs7,hs7b⟩
 refine xBs [(0,_)] [_,_,_,_,_] Tryz.underlying24 Zba Zdh (h:=fun b8=>Zp (Zus (R:=(Za7 93 89)) (⟨w.owner,w.name,w.grants,w.next,w.mail⟩) 0 [2,3] rfl rfl hv rfl rfl rfl Zjj ZjB rfl rfl (ZaN.box 4 rfl) rfl rfl (l7 ++ l7b) (by simp) (⟨_,_,_,_,_,_,rfl,rfl,(hs7.anyK ZU.any),(hs7b.anyK ZM.any),by first | assumption | omega | (simp;done) | (simp;omega),by first | assumption | omega | (simp;done) | (simp;omega),by first | assumption | omega | (simp;done) | (simp;omega),by first | assumption | omega | (simp;done) | (simp;omega)⟩) om (fun l9 p9 c9 hd9=>?_)))
 refine xA (h:=Zx (Zj (Zc (xD (h:=xM (h:=?_))))))
 exact ZA ⟨g.k+1,0,l9,p9,c9,(g.xs ++ [⟨w.owner,w.name,w.grants,w.next,w.mail⟩])⟩ [0] (by first | omega | (simp only [];omega)) ⟨rfl,by simp only [];omega,by simp only [];rw [Zat hw,hxs],by simp;omega,hd9⟩ ⟨rfl,rfl,rfl,rfl,rfl,rfl,trivial⟩ rfl
 try simp only [sQ,ne_eq] at g1
 have hxe:g.xs=xs:=by rw [hxs];exact List.take_of_length_le oz
 refine ZT (Zab (ZW (ZG (Zj (Za (xM (h:=xA (h:=Zd ?_))))))))
 exact Zav .ret (.inl rfl) [_] [0] rfl ⟨rfl,trivial⟩ ⟨rfl,_,_,_,rfl,by rw [← hxe];rfl,hxe ▸ hv⟩

theorem Zmf (q1 q2 q3:Option Addr) (c1 c2 c3:Nat) (x:DHost) (B:Kn) (hu:SlK B q1 c1 3 Zv x.users) (hf:SlK B q2 c2 5 Ze x.folders) (hi:SlK B q3 c3 4 Zy x.queue.items):Zu (pj J) 70 [.agg #[str x.domain,.slice q1 x.users.length c1,.slice q2 x.folders.length c2,.int .i64 x.queue.next,.slice q3 x.queue.items.length c3]] B [] (fun v B' Ls=>∃q1 c1 q2 c2 q3 c3 l1 l2 l3,Ls=[l1,l2,l3]∧v = .agg #[str x.domain,.slice q1 x.users.length c1,.slice q2 x.folders.length c2,.int .i64 x.queue.next,.slice q3 x.queue.items.length c3]∧ZZ Kn.none l1 q1 c1 50 3 Zv x.users∧ZcO l2 q2 c2 40 5 (Za7 93 89) x.folders∧ZcO l3 q3 c3 117 4 (ZdS 9) x.queue.items):=by
 refine cB 16 Tryz.func70 (h:=?_)
 have hun:=hu.len
 have hfn:=hf.len
 have hin:=hi.len
 refine Za (xBx [_,_,_,_,_] (h:=fun b1=>xAl [_,_,_,_,_] Za1 (h:=fun b2=>tL2 (Zf (Z2 (keeps _ [0] _) mo kr ⟨Kn.le.refl _,Zai.refl _ _⟩ (fun _ _=>?_))))))
 refine aW 0 rfl Zi7 (h:=aT 1 rfl (ZC fun D B L hI=>Zh rfl rfl lk9 rfl (atL 0 (hI.2.1.trans rfl) rfl rfl) r4) (h:=aW 3 rfl ZbX (h:=aT 4 rfl (ZC fun D B L hI=>Zh rfl rfl ZjC rfl (atL 0 (hI.2.1.trans rfl) rfl rfl) r4) (h:=aW 6 rfl ZX (h:=aT 7 rfl (ZC fun D B L hI=>Zh rfl rfl Zck rfl (atL 0 (hI.2.1.trans rfl) rfl rfl) r4) (h:=aW 9 rfl Zcg (h:=aT 10 rfl (ZC fun D B L hI=>Z1 [_,_] rfl rfl ZdP rfl (Z9 0 (hI.2.1.trans rfl) rfl rfl) r4) (h:=Zq 2 kr rfl kr (Zt (parts:=[]) [] rfl rfl Tryz.underlying23 ZeW ZgH rfl rfl rfl rfl rfl (fun b3=>?_))))))))))
 refine ⟨⟨Kn.le.refl _,t1⟩,(Zq 5 kr rfl kr (ZaU (R:=Zv) 2 rfl (ZZ.lit0 (R:=Zv)) rfl rfl rfl Zoz Zn5 rfl rfl rfl hu.rows Zv.one rfl om (fun l4 p4 c4 hv4=>?_)))⟩
 refine ⟨⟨Kn.le.refl _,t1⟩,(Zq 8 kr rfl kr (Zbh rfl rfl ZyV rfl (Zi4 _ _ x.folders _ hf) ?_))⟩
 rintro _ B5 _ hle5 ⟨rfl,l5,a5,c5,rfl,rfl,hs5⟩
 refine ⟨⟨Kn.le.refl _,t1⟩,(Zq 11 kr rfl kr (Zbh rfl rfl ZyU rfl (ZlQ _ _ x.queue _ hi) ?_))⟩
 rintro _ B6 _ hle6 ⟨l6,q6,c6,rfl,rfl,hd6⟩
 replace hv4:=hv4.mono Zv.mono hle6
 refine ⟨⟨hle6,t1⟩,(aT 12 rfl (ZC fun D B L hI=>Zaz (parts:=[(0,_),(1,_),(2,_),(3,_)]) [_,_,_,_,_] [_,_,_,_,_] rfl rfl Zd0 Za1 rfl rfl rfl r4) (h:=ZV 13 kr rfl kr kr kr (ZI [_,_,_,_,_] 1 [_,_,_,_,_] rfl rfl Zaq rfl rfl rfl rfl rfl rfl rfl rfl ?_)))⟩
 refine Zj (tL5 (Zd ?_))
 exact eN [2,3,4] rfl ⟨⟨_,rfl,.inr ⟨[_,_,_,_,_],ZY,Z9 1 rfl rfl rfl,rfl⟩⟩,trivial⟩ ⟨_,_,_,_,_,_,_,_,_,rfl,rfl,hv4.anyK Zv.any,hs5,hd6⟩

theorem Zmd (q1 q2 q3:Option Addr) (c1 c2 c3:Nat) (x:DHost) (ar:Bool) (f:FuncId) (cap:Array Value) (R:DHost) (k:Nat) (hk:k<5) (he:enters Tryz.prog f=true) (hJ:Joins Tryz.prog J) (hd:x.domain.length≤2000000) (a:Nat→Addr) (B:Kn) (hE:ErrsB 267 [0,1,2,3] B a) (hu:SlK B q1 c1 3 Zv x.users) (hf:SlK B q2 c2 5 Ze x.folders) (hi:SlK B q3 c3 4 Zy x.queue.items) (hw:ar=true→Zw x=true→∀(B2:Kn) (b:Nat) (q1 q2 q3:Option Addr) (c1 c2 c3:Nat) (l1 l2 l3:Cells),B.le B2→ZZ Kn.none l1 q1 c1 50 3 Zv x.users→ZcO l2 q2 c2 40 5 (Za7 93 89) x.folders→ZcO l3 q3 c3 117 4 (ZdS 9) x.queue.items→Zu (pj J) f (ptr ⟨b,0,none⟩ :: cap.toList) B2 [Zas b [str x.domain,.slice q1 x.users.length c1,.slice q2 x.folders.length c2,.int .i64 x.queue.next,.slice q3 x.queue.items.length c3] 29,l1,l2,l3] (fun v B' Ls=>∃q1' c1' q2' c2' q3' c3' l1' l2' l3',Ls=[Zas b [str R.domain,.slice q1' R.users.length c1',.slice q2' R.folders.length c2',.int .i64 R.queue.next,.slice q3' R.queue.items.length c3'] 29,l1',l2',l3']∧v=errv 267 a (k)∧ZZ Kn.none l1' q1' c1' 50 3 Zv R.users∧ZcO l2' q2' c2' 40 5 (Za7 93 89) R.folders∧ZcO l3' q3' c3' 117 4 (ZdS 9) R.queue.items)):Zu (pj J) 29 [.agg #[str x.domain,.slice q1 x.users.length c1,.slice q2 x.folders.length c2,.int .i64 x.queue.next,.slice q3 x.queue.items.length c3],.bool ar,.func (.func f) #[] cap] B [] (fun v B' Ls=>∃(Y:DHost) (d:Int),∃q1 c1 q2 c2 q3 c3 l1 l2 l3,(Y,d)=(if ar=true∧Zw x=true then (R,(k:Int)) else (ZaO,5))∧Ls=[l1,l2,l3]∧v = .tuple #[.agg #[str Y.domain,.slice q1 Y.users.length c1,.slice q2 Y.folders.length c2,.int .i64 Y.queue.next,.slice q3 Y.queue.items.length c3],.int .i64 d]∧ZZ Kn.none l1 q1 c1 50 3 Zv Y.users∧ZcO l2 q2 c2 40 5 (Za7 93 89) Y.folders∧ZcO l3 q3 c3 117 4 (ZdS 9) Y.queue.items):=by
 refine cB 25 Tryz.func29 (h:=?_)
 have hun:=hu.len
 have hfn:=hf.len
 have hin:=hi.len
 refine Za (xBx [_,_,_,_,_] (h:=fun b1=>xAl [_,_,_,_,_] Za1 (h:=fun b2=>xA (h:=tL2 (Zf (Za (xM (h:=xN (h:=xM (h:=Zn (d:=12) rfl (fun g1=>?_) (fun g1=>?_)))))))))))
 try simp only [sQ,ne_eq] at g1
 refine xP (h:=xP (h:=xP (h:=xT (h:=Zwd [[],[],[]] rfl (Zb (t:=true) rfl (fun _=>Za (xB [] [_,_,_,_,_] [_,_,_,_,_] Zd0 Za1 (h:=xS [_,_,_,_,_] 1 [_,_,_,_,_] Zaq (h:=xA (h:=tL5 (Zd (Zo ?_))))))) (fun h=>Bool.noConfusion h))))))
 exact Zav .ret (.inl rfl) [_,_] [2,3,4] rfl ⟨⟨_,rfl,.inr ⟨[_,_,_,_,_],ZY,Z9 1 rfl rfl rfl,rfl⟩⟩,rfl,trivial⟩ ⟨ZaO,5,none,0,none,0,none,0,[],[],[],by rw [if_neg (by simp [g1])],rfl,rfl,ZZ.nil,ZcO.nil,ZcO.nil⟩
 try simp only [sQ,ne_eq] at g1
 refine xL [_,_,_,_,_] ZY 0 (h:=xQ Zzv rfl (ZiR hJ _ _ _ _ _ _ x om2 _ hu hf hi) (h:=?_))
 intro vv Bv hlev
 rintro rfl
 obtain ⟨hu,hf,hi⟩:=up3 hlev hu hf hi
 replace hE:=hE.mono hlev
 refine xN (h:=xF (h:=Zb rfl (fun g2=>?_) (fun g2=>?_)))
 try simp only [sQ,ne_eq] at g2
 refine Zwd [[],[],[]] rfl (Za (xB [] [_,_,_,_,_] [_,_,_,_,_] Zd0 Za1 (h:=xS [_,_,_,_,_] 1 [_,_,_,_,_] Zaq (h:=xA (h:=tL5 (Zd (Zo ?_)))))))
 exact Zav .ret (.inl rfl) [_,_] [2,3,4] rfl ⟨⟨_,rfl,.inr ⟨[_,_,_,_,_],ZY,Z9 1 rfl rfl rfl,rfl⟩⟩,rfl,trivial⟩ ⟨ZaO,5,none,0,none,0,none,0,[],[],[],by rw [if_neg (by simp [g2])],rfl,rfl,ZZ.nil,ZcO.nil,ZcO.nil⟩
 try simp only [sQ,ne_eq] at g2
 refine wSk (Za (xL [_,_,_,_,_] ZY 0 (h:=xC ZzZ rfl (Zmf _ _ _ _ _ _ x _ hu hf hi) (h:=?_))))
 rintro _ Bc _ hlec ⟨q1c,c1c,q2c,c2c,q3c,c3c,l1c,l2c,l3c,rfl,rfl,huc,hfc,hic⟩
 replace hE:=hE.mono hlec
 refine Zp (Zal (l:=[_,_,_,_,_]) rfl rfl Za1 rfl (fun b5=>?_))
 refine Zp (ZI [_,_,_,_,_] 5 [_,_,_,_,_] rfl rfl Zaq rfl rfl rfl rfl rfl rfl rfl rfl ?_)
 refine ZgI [_,_,_,_,_,_] rfl ?_
 refine Za ?_
 refine Zp (Zp7 rfl rfl rfl ?_)
 refine Zp (Zur [5,2,3,4] rfl rfl rfl rfl he rfl rfl (hw (by simpa using g1) (by simpa using g2) _ _ _ _ _ _ _ _ _ _ _ (hlev.trans hlec) huc hfc hic) ?_)
 rintro _ B6 _ hle6 ⟨q16,c16,q26,c26,q36,c36,l16,l26,l36,rfl,rfl,hu6,hf6,hi6⟩
 replace hE:=hE.mono hle6
 refine xA (h:=tL6 (Zf (Z2 (keeps _ [5] _) mo kr ⟨Kn.le.refl _,Zai.refl _ _⟩ (fun _ _=>?_))))
 refine aT 0 rfl (ZC fun D B L hI=>Z1 [_,_,_,_,_] rfl rfl ZY rfl (Z9 5 (hI.2.1.trans rfl) rfl rfl) r4) (h:=aM 1 rfl (h:=aT 2 rfl (ZC fun D B L hI=>Za2 rfl rfl ZzY rfl (Zpx k om2 a _ (hE.mono hI.1)) r4) (h:=?_)))
 refine Zbj 3 kr rfl kr kr (ZI [_,_,_,_,_] 1 [_,_,_,_,_] rfl rfl Zaq rfl rfl rfl rfl rfl rfl rfl rfl ?_)
 refine aA 4 rfl (h:=Zz kr kr ?_)
 refine Zj (tL6 (Zd ?_))
 exact Zav .ret (.inl rfl) [_,_] [2,3,4] rfl ⟨⟨_,rfl,.inr ⟨[_,_,_,_,_],ZY,Z9 1 rfl rfl rfl,rfl⟩⟩,rfl,trivial⟩ ⟨R,k,_,_,_,_,_,_,_,_,_,by rw [if_pos ⟨by simpa using g1,by simpa using g2⟩],rfl,rfl,hu6.anyK Zv.any,hf6,hi6⟩

theorem Zpf (b:Nat) (m:DMail) (hm:m.text.length≤2000000) (B:Kn):Zu (pj J) 48 [ptr ⟨b,0,none⟩,.agg #[.int .i64 m.uid,.int .i64 m.flags,str m.text]] B [Zas b [.pointer none,.pointer none,.int .i64 0] 129] (fun v B' Ls=>B'=B∧∃s,Ls=[s]∧MLst 129 131 b ([] ++ [m]) s):=by
 refine cB 35 Tryz.func48 (h:=?_)
 refine Za (xBx [_,_,_] (h:=fun b1=>tL2 (Za (xL [_,_,_] Zpg 1 (h:=xB [(0,_)] [_,_,_,_] [_,_,_,_] Zwy ZvW (h:=xBx [_,_,_,_] (h:=fun b2=>xA (h:=tL3 (Zf (Za (xM (h:=xNc (h:=xW Zjc (h:=x1 Zq2 0 (h:=Zp (ZnZ rfl rfl rfl rfl rfl (ZhY Tryz.underlying127) (Zb rfl (fun g1=>?_) (fun g1=>by cases g1))))))))))))))))))
 refine Zc (xM (h:=xM (h:=xNc (h:=xW Zrw (h:=xS [_] 0 [_,_,_] Zst (h:=Zj (Za (xM (h:=xM (h:=xNc (h:=xW Zjc (h:=xS [_] 0 [_,_,_] Zst (h:=tL3 (Zc (xM (h:=xNc (h:=xW Zjb (h:=x1 lk3 0 (h:=xD (h:=xNc (h:=xW Zjb (h:=xS [_] 0 [_,_,_] sz3 (h:=?_)))))))))))))))))))))))
 exact Zzd .normal (.inr rfl) [] [0,2] rfl trivial ⟨rfl,_,rfl,MLst.one (bn:=b2) hm (List.Perm.refl _)⟩

theorem Zpe (b bl:Nat) (v0:Value) (x:DMail) (rest:Cells) (xs:List DMail) (m:DMail) (hm:m.text.length≤2000000) (hn:xs.length≤2000000) (B:Kn) (hh:Zlj 131 v0 bl x rest xs):Zu (pj J) 48 [ptr ⟨b,0,none⟩,.agg #[.int .i64 m.uid,.int .i64 m.flags,str m.text]] B [Zas b [v0,ptr ⟨bl,0,none⟩,.int .i64 xs.length] 129,Zas bl (ZhD x (.pointer none)) 131,rest] (fun v B' Ls=>B'=B∧∃s,Ls=[s]∧MLst 129 131 b (xs ++ [m]) s):=by
 refine cB 35 Tryz.func48 (h:=?_)
 refine Za (xBx [_,_,_] (h:=fun b1=>tL4 (Za (xL [_,_,_] Zpg 3 (h:=xB [(0,_)] [_,_,_,_] [_,_,_,_] Zwy ZvW (h:=xBx [_,_,_,_] (h:=fun b2=>xA (h:=tL5 (Zf (Za (xM (h:=xNc (h:=xW Zjc (h:=x1 Zq2 0 (h:=Zp (ZnZ rfl rfl rfl rfl rfl (ZhY Tryz.underlying127) (Zb rfl (fun g1=>by cases g1) (fun g1=>?_))))))))))))))))))
 refine Zc (xM (h:=xNc (h:=xW Zjc (h:=x1 Zq2 0 (h:=xM (h:=xNc (h:=xW Zrv (h:=xS [_] 1 [_,_,_,_] Zst (h:=Zj (Za (xM (h:=xM (h:=xNc (h:=xW Zjc (h:=xS [_] 0 [_,_,_] Zst (h:=tL5 (Zc (xM (h:=xNc (h:=xW Zjb (h:=x1 lk3 0 (h:=xD (h:=xNc (h:=xW Zjb (h:=xS [_] 0 [_,_,_] sz3 (h:=?_))))))))))))))))))))))))))
 exact Zzd .normal (.inr rfl) [] [0,4,2,1] rfl trivial ⟨rfl,_,rfl,MLst.add (bn:=b2) hh hm rfl (List.Perm.refl _)⟩

theorem Zl0 (b:Nat) (xs:List DMail) (m:DMail) (s:Cells) (hm:m.text.length≤2000000) (hn:xs.length≤2000000) (B:Kn) (hs:MLst 129 131 b xs s):Zu (pj J) 48 [ptr ⟨b,0,none⟩,.agg #[.int .i64 m.uid,.int .i64 m.flags,str m.text]] B [s] (fun v B' Ls=>B'=B∧∃s',Ls=[s']∧MLst 129 131 b (xs ++ [m]) s'):=by
 rcases hs with ⟨rfl,hp⟩ | ⟨v0,bl,x,rest,hp,hh⟩
 · exact Zu.perm (by simpa using hp) (Zpf b m hm B)
 · exact Zu.perm (by simpa using hp) (Zpe b bl v0 x rest xs m hm hn B hh)

theorem Zpd (q:Option Addr) (cp:Nat) (xs:List DMail) (B:Kn) (hx:SlK B q cp 3 ZM xs):Zu (pj J) 47 [.slice q xs.length cp] B [] (fun v B' Ls=>∃b s,Ls=[s]∧v=ptr ⟨b,0,none⟩∧MLst 129 131 b xs s):=by
 refine cB 19 Tryz.func47 (h:=?_)
 have hxn:=hx.len
 refine Za (xA (h:=Za (xB [] [_,_,_] [_,_,_] ZxZ Zxz (h:=xBx [_,_,_] (h:=fun b1=>xA (h:=tL1 (Zf (Za (xM (h:=xV Tryz.underlying36 (h:=xM (h:=Zl (ZO (α:=Gh DMail) [0,2,3,8,9] (fun g=>[(10,.int .i64 g.k)]) [0] (fun g=>[g.l]) (fun g Bx=>Bx=B∧g.k≤xs.length∧g.xs=xs.take g.k∧g.xs.length≤g.k∧MLst 129 131 b1 g.xs g.l) (fun g=>xs.length - g.k) ⟨0,0,_,none,0,[]⟩ t1 rfl (⟨rfl,Nat.zero_le _,by simp,Nat.le_refl _,MLst.nil⟩) (fun g B2 hle2 hI=>?_))))))))))))))
 obtain ⟨rfl,hk,hxs,hxl,hv⟩:=hI
 refine ZN [(0,_),(2,_),(3,_),(8,_),(9,_),(10,_)] [_] t6 rfl (Za (Zaa (h:=Zf (Zb rfl (fun g1=>?_) (fun g1=>?_)))))
 try simp only [sQ,ne_eq] at g1
 refine wSk (Zf (Zl (Za ?_)))
 obtain ⟨w,hw⟩:=Zaf (xs:=xs) (i:=g.k) om
 obtain ⟨bb4,oo4,rfl⟩:=hx.base hw
 obtain ⟨_,⟨rfl,hb5⟩,hc5⟩:=hx.elem hw
 refine xIx Tryz.underlying36 Zgc (h:=yL [_,_,_] Zpg hc5 0 (h:=xAl [_,_,_] Zlk (h:=fun b6=>xS [_,_,_] 1 [_,_,_] Zgc (h:=tL2 (Zc (xM (h:=xL [_,_,_] Zpg 1 (h:=xK [0] rfl Zzo rfl (Zl0 _ g.xs w _ om2 om2 _ hv) (h:=?_)))))))))
 rintro _ B7 _ hle7 ⟨rfl,s7,rfl,hs7⟩
 refine Zx (Zj (Zc (xD (h:=xM (h:=?_)))))
 exact ZA ⟨g.k+1,0,s7,none,0,(g.xs ++ [w])⟩ [0] so2 ⟨rfl,so,by simp only [];rw [Zat hw,hxs],by simp;omega,hs7⟩ t6 rfl
 try simp only [sQ,ne_eq] at g1
 have hxe:g.xs=xs:=by rw [hxs];exact List.take_of_length_le oz
 refine ZT (Zab (ZW (ZG (Zj (Za (xM (h:=xA (h:=Zd ?_))))))))
 exact eN [0] rfl t1 ⟨_,_,rfl,rfl,hxe ▸ hv⟩

theorem Znh (b:Nat) (xs:List DMail) (s:Cells) (hn:xs.length≤2000000) (B:Kn) (hs:MLst 129 131 b xs s):Zu (pj J) 49 [ptr ⟨b,0,none⟩] B [s] (fun v B' Ls=>B'=B∧∃l a c,Ls=[l]∧v = .slice a xs.length c∧ZZ Kn.none l a c 89 3 ZM xs):=by
 refine cB 28 Tryz.func49 (h:=?_)
 obtain ⟨p,vl,s0,hp,hl⟩:=hs.chain
 refine Zky 0 rfl hp (tL2 (Za (xA (h:=Za (xM (h:=xNc (h:=xW Zjb (h:=x1 lk3 0 (h:=Zp (ZfM (m:=0) (c:=xs.length) (by_:=32) [.int .i64 0,.int .i64 0,.string ⟨#[]⟩] rfl rfl ZvR Zlk rfl rfl ⟨_,_,rfl,by first | omega | (simp;done) | (simp;omega)⟩ ⟨_,_,rfl,by first | omega | (simp;done) | (simp;omega)⟩ om om (fun b1=>?_)))))))))))
 have hv1:=ZZ.zeros (B:=Kn.none) (b:=b1) (T:=89) (R:=ZM) (d:=(⟨0,0,[]⟩:DMail)) (m:=0) (c:=xs.length) (zs:=[.int .i64 0,.int .i64 0,.string ⟨#[]⟩]) rfl (⟨rfl,by simp⟩) om
 refine xA (h:=tL3 (Zf (Za (xM (h:=xNc (h:=xW Zrw (h:=x1 Zq2 0 (h:=xA (h:=Zl (ZO (α:=MOf) [0,2] (fun g=>[(3,.slice g.q g.ys.length g.c),(4,.pointer g.p)]) [1,2] (fun g=>[g.cells,g.l]) (fun g Bx=>Bx=B∧g.ys ++ g.xs=xs∧ZhI 131 (.pointer g.p) g.xs g.cells∧ZZ Kn.none g.l g.q g.c 89 3 ZM g.ys) (fun g=>g.xs.length) ⟨p,[],xs,_,_,_,_⟩ t2 rfl (⟨rfl,rfl,hl,hv1⟩) (fun g B2 hle2 hI=>?_)))))))))))
 obtain ⟨rfl,hxs,hl,hv⟩:=hI
 refine ZN [(0,_),(2,_),(3,_),(4,_)] [_,_,_] t4 rfl (Zf (Za (xM (h:=Zp (ZtZ rfl rfl rfl rfl rfl (ZhY Tryz.underlying127) (Zb rfl (fun g1=>?_) (fun g1=>?_)))))))
 obtain ⟨y,ys,b8,np,rest8,hp8,hrest,hperm,hy8,hl8⟩:=hl.more (by simpa using g1)
 rw [hp8]
 have hlen:=congrArg List.length hxs
 rw [List.length_append,hrest,List.length_cons] at hlen
 replace hlen:g.ys.length+1≤2000000:=by omega
 refine Zky 1 rfl hperm (tL4 (wSk (Zf (Zl (Zc (xM (h:=xM (h:=xNc (h:=xW Zvd (h:=xL [_,_,_] Zpg 1 (h:=xBs [(0,_)] [_,_,_] Tryz.underlying36 Zgc Zlk (h:=fun b3=>Zp (Zbc (z:=⟨y.uid,y.flags,y.text⟩) (R:=ZM) 2 rfl hv rfl rfl rfl ZvR Zwr rfl rfl (ZaN.box 4 rfl) rfl rfl (⟨rfl,by first | assumption | omega | (simp;done) | (simp;omega)⟩) om (fun l4 p4 c4 hv4=>?_))))))))))))))
 refine xA (h:=Zx (Zj (Zc (xM (h:=xNc (h:=xW Zrv (h:=x1 Zq2 1 (h:=xA (h:=?_)))))))))
 exact ZA ⟨np,g.ys ++ [y],ys,l4,p4,c4,rest8⟩ [0,3,2] (by rw [hrest];simp) ⟨rfl,by rw [← hxs,hrest];simp,hl8,hv4⟩ t4 rfl
 rw [hl.done (by simpa using g1),List.append_nil] at hxs
 subst hxs
 refine ZT (Zab (ZW (ZG (Zj (Za (xM (h:=xA (h:=Zd ?_))))))))
 exact eN [2] rfl t1 ⟨rfl,_,_,_,rfl,rfl,hv⟩

theorem ZmB (q:Option Addr) (cp:Nat) (x:DBox) (fl:Int) (t:Str) (hb:Zbf x=true) (hfl:Zae fl=true) (ht:t.length≤20) (B:Kn) (hm:SlK B q cp 3 ZM x.mail):Zu (pj J) 13 [.agg #[.int .i64 x.next,.slice q x.mail.length cp],.int .i64 fl,str t] B [] (fun v B' Ls=>∃l a c,Ls=[l]∧v = .tuple #[.agg #[.int .i64 (ZdQ x fl t).1.next,.slice a (ZdQ x fl t).1.mail.length c],.bool (ZdQ x fl t).2]∧ZZ Kn.none l a c 89 3 ZM (ZdQ x fl t).1.mail):=by
 refine cB 50 Tryz.func13 (h:=?_)
 have hxn:=hm.len
 have hbn:=Zb3 hb
 have hfl2:0≤fl∧fl≤31:=by simpa [Zae] using hfl
 refine Za (xBx [_,_] (h:=fun b1=>xAl [_,_] ZeS (h:=fun b2=>xA (h:=tL2 (Zf (Za (xL [_,_] Zbp 0 (h:=xR Zye rfl (ZiQ _ _ (⟨x.next,x.mail⟩:DBox) _ hm) (h:=xN (h:=xM (h:=Zn (d:=12) rfl (fun g1=>by simp [hb] at g1) (fun g1=>?_))))))))))))
 try simp only [sQ,ne_eq] at g1
 refine xM (h:=xR Zyg rfl (Zf1 _ _) (h:=xN (h:=xF (h:=xM (h:=Zn (d:=17) rfl (fun g2=>by first | (simp [hfl2] at g2;done) | (simp at g2;omega)) (fun g2=>?_))))))
 try simp only [sQ,ne_eq] at g2
 refine xM (h:=xVs Tryz.underlying9 (h:=Zbw (h:=xF (h:=Zb rfl (fun g3=>by first | omega | (simp at g3;omega)) (fun g3=>?_)))))
 try simp only [sQ,ne_eq] at g3
 refine wSk (Zf (Za (xW ZaL (h:=x1 Zfs 0 (h:=xV Tryz.underlying36 (h:=ZF (h:=xM (h:=Zn (d:=27) rfl (fun g4=>?_) (fun g4=>?_)))))))))
 try simp only [sQ,ne_eq] at g4
 refine xP (h:=xP (h:=xP (h:=xT (h:=Zb (t:=true) rfl (fun _=>Za (xL [_,_] Zbp 0 (h:=xC Zyd rfl (Zg6 _ _ (⟨x.next,x.mail⟩:DBox) _ hm) (h:=?_)))) (fun h=>Bool.noConfusion h)))))
 rintro _ B5 _ hle5 ⟨rfl,l5,a5,c5,rfl,rfl,hs5⟩
 refine xS [_,_] 1 [_,_] Zcx (h:=xA (h:=tL3 (Zd (Zo ?_))))
 have hae:=ZgF (fl:=fl) (t:=t) (b:=x) (.inl oz)
 exact Zav .ret (.inl rfl) [_,_] [2] rfl ⟨⟨_,rfl,.inr ⟨[_,_],Zbp,Z9 1 rfl rfl rfl,rfl⟩⟩,rfl,trivial⟩ (by rw [hae];exact ⟨_,_,_,rfl,rfl,hs5.anyK ZM.any⟩)
 try simp only [sQ,ne_eq] at g4
 refine xW ZbW (h:=x1 lk3 0 (h:=Zbw (h:=xF (h:=Zb rfl (fun g5=>?_) (fun g5=>?_)))))
 try simp only [sQ,ne_eq] at g5
 refine Za (xL [_,_] Zbp 0 (h:=xC Zyd rfl (Zg6 _ _ (⟨x.next,x.mail⟩:DBox) _ hm) (h:=?_)))
 rintro _ B6 _ hle6 ⟨rfl,l6,a6,c6,rfl,rfl,hs6⟩
 refine xS [_,_] 1 [_,_] Zcx (h:=xA (h:=tL3 (Zd (Zo ?_))))
 have hae:=ZgF (fl:=fl) (t:=t) (b:=x) (.inr oz)
 exact Zav .ret (.inl rfl) [_,_] [2] rfl ⟨⟨_,rfl,.inr ⟨[_,_],Zbp,Z9 1 rfl rfl rfl,rfl⟩⟩,rfl,trivial⟩ (by rw [hae];exact ⟨_,_,_,rfl,rfl,hs6.anyK ZM.any⟩)
 try simp only [sQ,ne_eq] at g5
 refine wSk (Za (xW ZaL (h:=x1 Zfs 0 (h:=xC ZAd rfl (Zpd _ _ x.mail _ hm) (h:=?_)))))
 rintro _ B7 _ hle7 ⟨b7,s7,rfl,rfl,hs7⟩
 refine xA (h:=tL3 (Za (xM (h:=xW ZbW (h:=x1 lk3 0 (h:=xM (h:=xM (h:=xB [(0,_),(1,_),(2,_)] [_,_,_] [_,_,_] Zzc Zlk (h:=xK [2] rfl Zzo rfl (Zl0 _ x.mail (⟨x.next,fl,t⟩:DMail) _ om2 om2 _ hs7) (h:=?_))))))))))
 rintro _ B8 _ hle8 ⟨rfl,s8,rfl,hs8⟩
 refine tL3 (Zf (Z2 (keeps _ [0] _) mo kr ⟨Kn.le.refl _,Zai.refl _ _⟩ (fun _ _=>?_)))
 refine aW 0 rfl ZbW (h:=aT 1 rfl (ZC fun D B L hI=>Zh rfl rfl lk3 rfl (atL 0 (hI.2.1.trans rfl) rfl rfl) r4) (h:=aD 2 rfl (h:=aM 3 rfl (h:=Zq 4 kr rfl kr (ZaA [2] rfl rfl rfl rfl ZAc rfl (Znh _ (x.mail ++ [(⟨x.next,fl,t⟩:DMail)]) _ om2 _ hs8) ?_)))))
 rintro _ B9 _ hle9 ⟨rfl,l9,a9,c9,rfl,rfl,hv9⟩
 refine ⟨⟨Kn.le.refl _,t1⟩,(aT 5 rfl (ZC fun D B L hI=>Zaz (parts:=[(0,_),(1,_)]) [_,_] [_,_] rfl rfl Znc ZeS rfl rfl rfl r4) (h:=Zbj 6 kr rfl kr kr (ZI [_,_] 1 [_,_] rfl rfl Zcx rfl rfl rfl rfl rfl rfl rfl rfl ?_)))⟩
 refine aA 7 rfl (h:=Zz kr kr ?_)
 refine Zj (tL3 (Zd ?_))
 have hae:=Zr7 (fl:=fl) (t:=t) (b:=x) oz
 exact Zav .ret (.inl rfl) [_,_] [2] rfl ⟨⟨_,rfl,.inr ⟨[_,_],Zbp,Z9 1 rfl rfl rfl,rfl⟩⟩,rfl,trivial⟩ (by rw [hae];exact ⟨_,_,_,rfl,rfl,hv9.anyK ZM.any⟩)

theorem ZpP (b:Nat) (q1 q2 q3:Option Addr) (c1 c2 c3:Nat) (x:DHost) (l1 l2 l3:Cells) (k:Nat) (f:DFolder) (fl:Int) (t:Str) (hfx:x.folders[k]? = some f) (hn1:x.users.length≤2000000) (hn2:x.folders.length≤2000000) (hok:Zw x=true) (hfl:Zae fl=true) (ht:t.length≤20) (a:Nat→Addr) (B:Kn) (hE:ErrsB 267 [0,1,2,3] B a) (hu:ZZ Kn.none l1 q1 c1 50 3 Zv x.users) (hf:ZcO l2 q2 c2 40 5 (Za7 93 89) x.folders) (hi:ZcO l3 q3 c3 117 4 (ZdS 9) x.queue.items):Zu (pj J) 33 [ptr ⟨b,0,none⟩,.int .i64 k,.int .i64 fl,str t] B [Zas b [str x.domain,.slice q1 x.users.length c1,.slice q2 x.folders.length c2,.int .i64 x.queue.next,.slice q3 x.queue.items.length c3] 29,l1,l2,l3] (fun v B' Ls=>∃q1' c1' q2' c2' q3' c3' l1' l2' l3',Ls=[Zas b [str (ZaZ x k fl t).1.domain,.slice q1' (ZaZ x k fl t).1.users.length c1',.slice q2' (ZaZ x k fl t).1.folders.length c2',.int .i64 (ZaZ x k fl t).1.queue.next,.slice q3' (ZaZ x k fl t).1.queue.items.length c3'] 29,l1',l2',l3']∧v=errv 267 a (ZlT x k fl t)∧ZZ Kn.none l1' q1' c1' 50 3 Zv (ZaZ x k fl t).1.users∧ZcO l2' q2' c2' 40 5 (Za7 93 89) (ZaZ x k fl t).1.folders∧ZcO l3' q3' c3' 117 4 (ZdS 9) (ZaZ x k fl t).1.queue.items):=by
 refine ZeM 44 Tryz.func33 rfl rfl rfl (Nat.le_of_ble_eq_true rfl) ?_
 have hfk:=(List.getElem?_eq_some_iff.1 hfx).1
 have hbo:Zbf (⟨f.next,f.mail⟩:DBox)=true:=Zbu (ZaK hok hfx)
 have hol:=ZqJ hok (List.mem_of_getElem? hfx)
 have hbn:f.mail.length≤10:=(Zb3 hbo).2.2
 have hml:(f.withBox (ZdQ f.box fl t).1).mail.length≤2000000:=Nat.le_trans (Zlh f.box fl t) (by show f.mail.length+1≤_;omega)
 have hql:=Zc9 (Zfu hok)
 obtain ⟨bq,_,_,lre,hpq,⟨qg,cg,qm,cm,ia,ib,rfl,rfl,hg,hm,ho,hn,hx,hy⟩,hwq,hqq,hcl,hcr,hkk⟩:=hf.cellA hfx
 refine Za (xA (h:=Za (xM (h:=xNc (h:=xW ZX (h:=x1 Zck 0 (h:=xM (h:=Zp (ZfN hpq rfl rfl Tryz.underlying24 Zba rfl rfl oz oz ?_)))))))))
 refine xA (h:=Zf (Za (xM (h:=xM (h:=xNc (h:=xW Zb5 (h:=Zp (Zh rfl rfl lk9 rfl (hcl _ _ 2 rfl 0 _ rfl) (xM (h:=xVs Tryz.underlying9 (h:=Zp (Zib [0,1,2,3] rfl rfl rfl rfl rfl Zzj rfl (ZaH.borrowL fun hm1=>Zmr _ _ _ _ _ _ _ _ x f.owner ↑t.length om2 om2 om2 _ (ZzB 0 rfl hm1) (hu.lendK Zv.any 1 rfl hm1 om) (hf.lendK Za7.known Ze.mono 2 rfl hm1 om)) ?_))))))))))))
 refine Zb rfl (fun g1=>?_) (fun g1=>?_)
 refine Za (Zp (Zh rfl rfl ZsT rfl ((hE.row 2 (by decide)) _ 0 _ rfl) ?_))
 refine xA (h:=Zd (Zo ?_))
 obtain ⟨e1,e2⟩:=ZqG (fl:=fl) hok hfx g1
 exact eN [0,1,2,3] rfl t1 (by rw [e1,e2];exact ⟨_,_,_,_,_,_,_,_,_,rfl,rfl,hu,hf,hi⟩)
 refine Zky 2 rfl (Zx2 hqq) (wSk (Za (xM (h:=xNc (h:=xW Zby (h:=Zp (Z1 [_,_] rfl rfl Zbp rfl (ZzE (hcr _ _ 2 rfl) 3 rfl rfl) (xM (h:=xM (h:=xK [5] rfl Zzz rfl (Zu.borrow fun hm2=>ZmB _ _ (⟨f.next,f.mail⟩:DBox) fl t (oy) (oy) (oy) _ ((hm.anyK ZM.any).lend ZM.mono hm2 om)) (h:=?_)))))))))))
 rintro _ B2 _ hle2 ⟨BB2,_,rfl,hB2,_,hm2,_,l2,a2,c2,rfl,rfl,hs2⟩
 replace hu:=hu.mono Zv.mono hle2
 replace hg:=hg.mono ZU.mono hle2
 replace hm:=hm.mono ZM.mono hle2
 replace hE:=hE.mono hle2
 refine xM (h:=xE (h:=xE (h:=xAl [_,_] ZeS (h:=fun b3=>xS [_,_] 7 [_,_] Zcx (h:=xA (h:=tL8 (Zqc 2 5 rfl rfl (by decide) ?_)))))))
 refine Zqc 2 4 rfl rfl (by decide) ?_
 have hf9:=hkk f _ ⟨qg,cg,qm,cm,_,_,rfl,rfl,hg,hm,ho,hn,hx,hy⟩
 rw [List.append_assoc,Zwv hfx] at hf9
 refine Zf (Za (xM (h:=xN (h:=tL8 (Zb rfl (fun g2=>?_) (fun g2=>?_))))))
 refine Za (Zp (Zh rfl rfl ZsT rfl ((hE.row 3 (by decide)) _ 0 _ rfl) ?_))
 refine xA (h:=Zd (Zo ?_))
 obtain ⟨e1,e2⟩:=ZsB hok hfx (by simpa using g1) (by simpa [DFolder.box] using g2)
 exact eN [0,1,2,3] rfl t1 (by rw [e1,e2];exact ⟨_,_,_,_,_,_,_,_,_,rfl,rfl,hu,hf9,hi⟩)
 refine wSk (Za (xM (h:=xL [_,_] Zbp 7 (h:=xNc (h:=xW Zby (h:=Zp (Zv1 (R:=(Za7 93 89)) (x0:=f) (f.withBox (ZdQ f.box fl t).1) (us:=[_,_]) (sz:=5) (k:=k) 3 2 [6] rfl rfl hf9 hpq hfx rfl rfl Zcx rfl rfl rfl rfl (Nat.le_of_ble_eq_true rfl) (by rintro _ _ ⟨_,_,_,_,_,_,rfl,rfl,k1,k2,k3,k4,k5,k6⟩;exact ⟨_,_,⟨_,_,_,_,_,_,rfl,rfl,k1,hs2,k3,k4,k5,hml⟩,by simpa [List.append_assoc] using List.Perm.append_left _ List.perm_append_comm⟩) (fun l4 hd4=>?_))))))))
 refine tL8 (Za (xA (h:=Zd ?_)))
 obtain ⟨e1,e2⟩:=ZsC hok hfx (by simpa using g1) (by simpa [DFolder.box] using g2)
 exact eN [0,1,2,3] rfl t1 (by rw [e1,e2];simp only [DHost.withFolders,List.length_set];exact ⟨_,_,_,_,_,_,_,_,_,rfl,rfl,hu,hd4,hi⟩)

theorem Zt5 (b1 b2 b3 b4 b5:Nat) (u o n:Str) (fl:Int) (t:Str) (b:Nat) (q1 q2 q3:Option Addr) (c1 c2 c3:Nat) (x:DHost) (l1 l2 l3:Cells) (hul:u.length≤2000000) (hol:o.length≤2000000) (hnl:n.length≤2000000) (hn1:x.users.length≤2000000) (hn2:x.folders.length≤2000000) (hok:Zw x=true) (hfl:Zae fl=true) (ht:t.length≤20) (a:Nat→Addr) (B:Kn) (hE:ErrsB 267 [0,1,2,3] B a) (hc1:ZaQ B b1 0 [str u]) (hc2:ZaQ B b2 0 [str o]) (hc3:ZaQ B b3 0 [str n]) (hc4:ZaQ B b4 0 [.int .i64 fl]) (hc5:ZaQ B b5 0 [str t]) (hu:ZZ Kn.none l1 q1 c1 50 3 Zv x.users) (hf:ZcO l2 q2 c2 40 5 (Za7 93 89) x.folders) (hi:ZcO l3 q3 c3 117 4 (ZdS 9) x.queue.items):Zu (pj J) 31 [ptr ⟨b,0,none⟩,ptr ⟨b1,0,none⟩,ptr ⟨b2,0,none⟩,ptr ⟨b3,0,none⟩,ptr ⟨b4,0,none⟩,ptr ⟨b5,0,none⟩] B [Zas b [str x.domain,.slice q1 x.users.length c1,.slice q2 x.folders.length c2,.int .i64 x.queue.next,.slice q3 x.queue.items.length c3] 29,l1,l2,l3] (fun v B' Ls=>∃q1' c1' q2' c2' q3' c3' l1' l2' l3',Ls=[Zas b [str (ZfY x u o n fl t).domain,.slice q1' (ZfY x u o n fl t).users.length c1',.slice q2' (ZfY x u o n fl t).folders.length c2',.int .i64 (ZfY x u o n fl t).queue.next,.slice q3' (ZfY x u o n fl t).queue.items.length c3'] 29,l1',l2',l3']∧v=errv 267 a (ZjG x u o n fl t)∧ZZ Kn.none l1' q1' c1' 50 3 Zv (ZfY x u o n fl t).users∧ZcO l2' q2' c2' 40 5 (Za7 93 89) (ZfY x u o n fl t).folders∧ZcO l3' q3' c3' 117 4 (ZdS 9) (ZfY x u o n fl t).queue.items):=by
 refine cB 26 Tryz.func31 (h:=?_)
 have hix:=ZcY (inF o n) x.folders
 have hck:=ZrU x.users x.folders u o n 8
 have hql:=Zc9 (Zfu hok)
 refine Za (xA (h:=Za (xM (h:=y1 lk9 hc1 0 (h:=y1 lk9 hc2 0 (h:=y1 lk9 hc3 0 (h:=Zp (Zib [0,1,2,3] rfl rfl rfl rfl rfl ZAi rfl (ZaH.borrowL fun hm1=>ZvG _ _ _ _ _ _ _ _ x u o n 8 om2 om2 om2 a _ (hE.mono (Kn.le_add _ _)) (ZzB 0 rfl hm1) (hu.lendK Zv.any 1 rfl hm1 om) (hf.lendK Za7.known Ze.mono 2 rfl hm1 om)) ?_))))))))
 refine xM (h:=xE (h:=xE (h:=xA (h:=xA (h:=Zf (Za (xM (h:=Zp (Zv4 (tE:=267) (a:=a) (c:=(Zjr x.users x.folders u o n 8)) rfl rfl Tryz.underlying69 rfl (Zb rfl (fun g1=>?_) (fun g1=>?_)))))))))))
 try simp only [sQ,ne_eq] at g1
 refine Za (xM (h:=xA (h:=Zd (Zo ?_))))
 have hce:Zjr x.users x.folders u o n 8≠0:=by omega
 exact eN [0,1,2,3] rfl t1 (by rw [ZfY,ZjG,if_neg hce,if_neg hce];exact ⟨_,_,_,_,_,_,_,_,_,rfl,rfl,hu,hf,hi⟩)
 try simp only [sQ,ne_eq] at g1
 have hce:Zjr x.users x.folders u o n 8=0:=by omega
 have hk0:=Ztz hce
 obtain ⟨k,hke⟩ :∃k:Nat,ZaB (inF o n) x.folders=(k:Int):=⟨_,(Int.toNat_of_nonneg hk0).symm⟩
 obtain ⟨f,hfx⟩:=Zaf (xs:=x.folders) (i:=k) oz
 rw [if_pos hce,hke]
 refine wSk (Za (xM (h:=xM (h:=y1 lk3 hc4 0 (h:=y1 lk9 hc5 0 (h:=xK [0,1,2,3] rfl ZAh rfl (ZpP b q1 q2 q3 c1 c2 c3 x l1 l2 l3 k f fl t hfx hn1 hn2 hok hfl ht a _ hE hu hf hi) (h:=?_)))))))
 rintro _ B2 _ hle2 ⟨q12,c12,q22,c22,q32,c32,l12,l22,l32,rfl,rfl,hu2,hf2,hi2⟩
 refine xA (h:=tL4 (Zd ?_))
 exact eN [0,1,2,3] rfl t1 (by rw [ZfY,ZjG,if_pos hce,if_pos hce,hke];exact ⟨_,_,_,_,_,_,_,_,_,rfl,rfl,hu2,hf2,hi2⟩)

theorem Zkd (hJ:Joins Tryz.prog J) (q1 q2 q3:Option Addr) (c1 c2 c3:Nat) (x:DHost) (u o n:Str) (fl:Int) (t:Str) (hul:u.length≤2000000) (hol:o.length≤2000000) (hnl:n.length≤2000000) (htl:t.length≤2000000) (hd:x.domain.length≤2000000) (a:Nat→Addr) (B:Kn) (hE:ErrsB 267 [0,1,2,3] B a) (hu:SlK B q1 c1 3 Zv x.users) (hf:SlK B q2 c2 5 Ze x.folders) (hi:SlK B q3 c3 4 Zy x.queue.items):Zu (pj J) 9 [.agg #[str x.domain,.slice q1 x.users.length c1,.slice q2 x.folders.length c2,.int .i64 x.queue.next,.slice q3 x.queue.items.length c3],str u,str o,str n,.int .i64 fl,str t] B [] (fun v B' Ls=>∃q1 c1 q2 c2 q3 c3 l1 l2 l3,Ls=[l1,l2,l3]∧v = .tuple #[.agg #[str (ZcL x u o n fl t).1.domain,.slice q1 (ZcL x u o n fl t).1.users.length c1,.slice q2 (ZcL x u o n fl t).1.folders.length c2,.int .i64 (ZcL x u o n fl t).1.queue.next,.slice q3 (ZcL x u o n fl t).1.queue.items.length c3],.int .i64 (ZcL x u o n fl t).2]∧ZZ Kn.none l1 q1 c1 50 3 Zv (ZcL x u o n fl t).1.users∧ZcO l2 q2 c2 40 5 (Za7 93 89) (ZcL x u o n fl t).1.folders∧ZcO l3 q3 c3 117 4 (ZdS 9) (ZcL x u o n fl t).1.queue.items):=by
 refine cB 26 Tryz.func9 (h:=?_)
 have hun:=hu.len
 have hfn:=hf.len
 have hin:=hi.len
 refine Za (xBx [_,_,_,_,_] (h:=fun b1=>xBx [_] (h:=fun b2=>xBx [_] (h:=fun b3=>xBx [_] (h:=fun b4=>xBx [_] (h:=fun b5=>xBx [_] (h:=fun b6=>xAl [_,_,_,_,_] Za1 (h:=fun b7=>xA (h:=tL7 (Zkz 1 rfl (fun B8 hle8 hpm8=>?_)))))))))))
 have hc8:=Zbr hpm8
 obtain ⟨hu,hf,hi⟩:=up3 hle8 hu hf hi
 replace hE:=hE.mono hle8
 refine Zkz 2 rfl (fun B9 hle9 hpm9=>?_)
 have hc9:=Zbr hpm9
 obtain ⟨hu,hf,hi⟩:=up3 hle9 hu hf hi
 replace hc8:=hc8.mono hle9
 replace hE:=hE.mono hle9
 refine Zkz 3 rfl (fun B10 hle10 hpm10=>?_)
 have hc10:=Zbr hpm10
 obtain ⟨hu,hf,hi⟩:=up3 hle10 hu hf hi
 replace hc8:=hc8.mono hle10
 replace hc9:=hc9.mono hle10
 replace hE:=hE.mono hle10
 refine Zkz 4 rfl (fun B11 hle11 hpm11=>?_)
 have hc11:=Zbr hpm11
 obtain ⟨hu,hf,hi⟩:=up3 hle11 hu hf hi
 replace hc8:=hc8.mono hle11
 replace hc9:=hc9.mono hle11
 replace hc10:=hc10.mono hle11
 replace hE:=hE.mono hle11
 refine Zkz 5 rfl (fun B12 hle12 hpm12=>?_)
 have hc12:=Zbr hpm12
 obtain ⟨hu,hf,hi⟩:=up3 hle12 hu hf hi
 replace hc8:=hc8.mono hle12
 replace hc9:=hc9.mono hle12
 replace hc10:=hc10.mono hle12
 replace hc11:=hc11.mono hle12
 replace hE:=hE.mono hle12
 refine Zf (Z2 (keeps _ [0] _) mo kr ⟨Kn.le.refl _,Zai.refl _ _⟩ (fun _ _=>?_))
 refine aT 0 rfl (ZC fun D B L hI=>Z1 [_,_,_,_,_] rfl rfl ZY rfl (Z9 0 (hI.2.1.trans rfl) rfl rfl) r4) (h:=aT 1 rfl (ZC fun D B L hI=>Zh rfl rfl lk3 rfl ((hc11.mono hI.1) _ 0 _ rfl) r4) (h:=aT 2 rfl (ZC fun D B L hI=>Za2 rfl rfl Zyg rfl (Zf1 _ _) r4) (h:=aM 3 rfl (h:=ZaC (d:=17) rfl (fun g1=>?_) (fun g1=>?_)))))
 refine aT 4 rfl (ZC fun D B L hI=>Zh rfl rfl lk9 rfl ((hc12.mono hI.1) _ 0 _ rfl) r4) (h:=aT 5 rfl (ZC fun D B L hI=>ZnX rfl rfl Tryz.underlying9 rfl r4) (h:=ZtO 6 rfl (h:=aPT 7 rfl (h:=Zq 8 kr rfl kr (Zdu (xs:=[]) (ys:=[_,_,_,_,_]) rfl rfl rfl rfl ?_)))))
 refine ⟨⟨Kn.le.refl _,t1⟩,(Zq 9 kr rfl kr (Zbh rfl rfl Zzr rfl (Zmd _ _ _ _ _ _ x _ 31 _ (ZfY x u o n fl t) (ZjG x u o n fl t) (Zog x u o n fl t) Zzq hJ hd a _ hE hu hf hi (fun har hok B2 b q1 q2 q3 c1 c2 c3 l1 l2 l3 hle k1 k2 k3=>Zt5 _ _ _ _ _ u o n fl t b q1 q2 q3 c1 c2 c3 x l1 l2 l3 hul hol hnl oz oz hok (by simpa [Zae] using g1) (by simp at har;omega) a B2 (hE.mono hle) (hc8.mono hle) (hc9.mono hle) (hc10.mono hle) (hc11.mono hle) (hc12.mono hle) k1 k2 k3)) ?_))⟩
 rintro _ B14 _ hle14 ⟨Y14,d14,q114,c114,q214,c214,q314,c314,l114,l214,l314,hYd14,rfl,rfl,hu14,hf14,hi14⟩
 obtain ⟨hu,hf,hi⟩:=up3 hle14 hu hf hi
 replace hc8:=hc8.mono hle14
 replace hc9:=hc9.mono hle14
 replace hc10:=hc10.mono hle14
 replace hc11:=hc11.mono hle14
 replace hc12:=hc12.mono hle14
 replace hE:=hE.mono hle14
 rw [Zrc (by simp only [Zae,decide_eq_true_eq];simp at g1;constructor <;> (intro hh;simp at hh ⊢;omega))] at hYd14
 refine ⟨⟨hle14,t1⟩,(aE 10 rfl (h:=aE 11 rfl (h:=Zbj 12 kr rfl kr kr (ZI [_,_,_,_,_] 6 [_,_,_,_,_] rfl rfl Zaq rfl rfl rfl rfl rfl rfl rfl rfl ?_))))⟩
 refine aA 13 rfl (h:=Zz kr kr ?_)
 refine Zj (ZxO (Zd ?_))
 have e1:=congrArg Prod.fst hYd14
 have e2:=congrArg Prod.snd hYd14
 dsimp only at e1 e2
 subst e1 e2
 exact Zav .ret (.inl rfl) [_,_] [7,8,9] rfl ⟨⟨_,rfl,.inr ⟨[_,_,_,_,_],ZY,Z9 6 rfl rfl rfl,rfl⟩⟩,rfl,trivial⟩ ⟨_,_,_,_,_,_,_,_,_,rfl,rfl,hu14.anyK Zv.any,hf14,hi14⟩
 refine aZ 4 rfl (h:=aZ 5 rfl (h:=aZ 6 rfl (h:=aPF 7 rfl (h:=Zq 8 kr rfl kr (Zdu (xs:=[]) (ys:=[_,_,_,_,_]) rfl rfl rfl rfl ?_)))))
 refine ⟨⟨Kn.le.refl _,t1⟩,(Zq 9 kr rfl kr (Zbh rfl rfl Zzr rfl (Zmd _ _ _ _ _ _ x _ 31 _ (ZfY x u o n fl t) (ZjG x u o n fl t) (Zog x u o n fl t) Zzq hJ hd a _ hE hu hf hi (fun har hok B2 b q1 q2 q3 c1 c2 c3 l1 l2 l3 hle k1 k2 k3=>Zt5 _ _ _ _ _ u o n fl t b q1 q2 q3 c1 c2 c3 x l1 l2 l3 hul hol hnl oz oz hok (by cases har) (by cases har) a B2 (hE.mono hle) (hc8.mono hle) (hc9.mono hle) (hc10.mono hle) (hc11.mono hle) (hc12.mono hle) k1 k2 k3)) ?_))⟩
 rintro _ B15 _ hle15 ⟨Y15,d15,q115,c115,q215,c215,q315,c315,l115,l215,l315,hYd15,rfl,rfl,hu15,hf15,hi15⟩
 rw [Zrc (by simp at g1;simp [Zae];omega)] at hYd15
 refine ⟨⟨hle15,t1⟩,(aE 10 rfl (h:=aE 11 rfl (h:=Zbj 12 kr rfl kr kr (ZI [_,_,_,_,_] 6 [_,_,_,_,_] rfl rfl Zaq rfl rfl rfl rfl rfl rfl rfl rfl ?_))))⟩
 refine aA 13 rfl (h:=Zz kr kr ?_)
 refine Zj (ZxO (Zd ?_))
 have e1:=congrArg Prod.fst hYd15
 have e2:=congrArg Prod.snd hYd15
 dsimp only at e1 e2
 subst e1 e2
 exact Zav .ret (.inl rfl) [_,_] [7,8,9] rfl ⟨⟨_,rfl,.inr ⟨[_,_,_,_,_],ZY,Z9 6 rfl rfl rfl,rfl⟩⟩,rfl,trivial⟩ ⟨_,_,_,_,_,_,_,_,_,rfl,rfl,hu15.anyK Zv.any,hf15,hi15⟩

theorem ZsK (hJ:Joins Tryz.prog J) (q1 q2 q3:Option Addr) (c1 c2 c3:Nat) (x:DHost) (y:DHost) (p1 p2 p3:Option Addr) (d1 d2 d3:Nat) (o n:Str) (hall :∀g,g∈x.folders→(g.owner≠o∨g.name≠n)→ZH y g.owner g.name=(g,true)) (hd:x.domain.length≤2000000) (hd2:y.domain.length≤2000000) (B:Kn) (hu:SlK B q1 c1 3 Zv x.users) (hf:SlK B q2 c2 5 Ze x.folders) (hi:SlK B q3 c3 4 Zy x.queue.items) (hu2:SlK B p1 d1 3 Zv y.users) (hf2:SlK B p2 d2 5 Ze y.folders) (hi2:SlK B p3 d3 4 Zy y.queue.items):Zu (pj J) 16 [.agg #[str x.domain,.slice q1 x.users.length c1,.slice q2 x.folders.length c2,.int .i64 x.queue.next,.slice q3 x.queue.items.length c3],.agg #[str y.domain,.slice p1 y.users.length d1,.slice p2 y.folders.length d2,.int .i64 y.queue.next,.slice p3 y.queue.items.length d3],str o,str n] B [] (fun v B' Ls=>Ls=[]∧v = .bool true):=by
 refine cB 54 Tryz.func16 (h:=?_)
 have hfn:=hf.len
 have hfn2:=hf2.len
 refine Za (xBx [_,_,_,_,_] (h:=fun b1=>xBx [_,_,_,_,_] (h:=fun b2=>xA (h:=tL2 (Zf (Za (xA (h:=Zl (ZO (α:=Nat) [0,1,2,3,4,5] (fun k=>[(9,.int .i64 k)]) [] (fun k=>[]) (fun k Bx=>k≤x.folders.length) (fun k=>x.folders.length - k) 0 t1 rfl (Nat.zero_le _) (fun k B3 hle3 hI=>?_))))))))))
 have hk:=hI
 obtain ⟨hf,hu2,hf2,hi2⟩:=up4 hle3 hf hu2 hf2 hi2
 refine ZN [(0,_),(1,_),(2,_),(3,_),(4,_),(5,_),(9,_)] [_,_] t7 rfl (Zf (Za (xM (h:=xW ZX (h:=x1 Zck 0 (h:=xV Tryz.underlying24 (h:=Zaa (h:=Zb rfl (fun g1=>?_) (fun g1=>?_)))))))))
 try simp only [sQ,ne_eq] at g1
 refine wSk (Zf (Zl (Za (xW ZX (h:=x1 Zck 0 (h:=xM (h:=?_)))))))
 obtain ⟨w,hw⟩:=Zaf (xs:=x.folders) (i:=k) om
 obtain ⟨bb5,oo5,rfl⟩:=hf.base hw
 obtain ⟨_,⟨qg6,cg6,qm6,cm6,rfl,hg6,hm6,hb6,hb6b⟩,hc6⟩:=hf.elem hw
 have hg6n:=hg6.len
 have hm6n:=hm6.len
 have hm6s:=Z0 hm6
 refine xIx Tryz.underlying24 Zba (h:=yL [_,_,_,_,_] Ze9 hc6 0 (h:=xAl [_,_,_,_,_] Zdh (h:=fun b7=>xS [_,_,_,_,_] 2 [_,_,_,_,_] Zba (h:=tL3 (Za (xL [_,_,_,_,_] ZY 1 (h:=xW Zb5 (h:=x1 lk9 2 (h:=xW Zd5 (h:=x1 lk9 2 (h:=xQ Zxq rfl (Zd4 hJ _ _ _ _ _ _ y w.owner w.name om2 om2 om2 _ hu2 hf2 hi2) (h:=?_))))))))))))
 intro vx Bx hlex
 rintro ⟨qax,cax,qbx,cbx,rfl,hgx,hmx⟩
 replace hg6:=up1 hlex hg6
 replace hm6:=hm6.mono ZM.mono hlex
 have hgxn:=hgx.len
 have hmxn:=hmx.len
 refine xM (h:=xE (h:=xE (h:=xAl [_,_,_,_,_] Zdh (h:=fun b9=>xS [_,_,_,_,_] 3 [_,_,_,_,_] Zba (h:=xA (h:=tL4 (Za (xW Zb5 (h:=x1 lk9 2 (h:=xM (h:=ZfD (h:=xM (h:=Zn (d:=38) rfl (fun g2=>?_) (fun g2=>?_))))))))))))))
 try simp only [sQ,ne_eq] at g2
 refine xP (h:=xP (h:=xP (h:=xP (h:=xT (h:=xM (h:=xM (h:=xN (h:=xM (h:=Zn (d:=47) rfl (fun g4=>by rw [hall w (List.mem_of_getElem? hw) (.inl g2)] at g4;simp at g4) (fun g4=>?_))))))))))
 try simp only [sQ,ne_eq] at g4
 refine xL [_,_,_,_,_] Ze9 2 (h:=xL [_,_,_,_,_] Ze9 3 (h:=xR Zyc rfl (Ze4 _ _ _ _ _ _ _ _ w ((ZH y w.owner w.name).1) _ hg6 hm6 hgx hmx) (h:=xN (h:=xF (h:=xT (h:=Zb rfl (fun g5=>by rw [hall w (List.mem_of_getElem? hw) (.inl g2)] at g5;simp at g5) (fun g5=>?_)))))))
 try simp only [sQ,ne_eq] at g5
 refine ZK (Zx (Zj (Zc (xM (h:=xD (h:=xA (h:=?_)))))))
 exact ZA (k+1) [0,1] so2 oz t7 rfl
 try simp only [sQ,ne_eq] at g2
 refine xW Zd5 (h:=x1 lk9 2 (h:=xM (h:=ZfD (h:=xF (h:=xM (h:=Zn (d:=44) rfl (fun g3=>?_) (fun g3=>?_)))))))
 try simp only [sQ,ne_eq] at g3
 refine xM (h:=xN (h:=xM (h:=Zn (d:=47) rfl (fun g4=>by rw [hall w (List.mem_of_getElem? hw) (.inr g3)] at g4;simp at g4) (fun g4=>?_))))
 try simp only [sQ,ne_eq] at g4
 refine xL [_,_,_,_,_] Ze9 2 (h:=xL [_,_,_,_,_] Ze9 3 (h:=xR Zyc rfl (Ze4 _ _ _ _ _ _ _ _ w ((ZH y w.owner w.name).1) _ hg6 hm6 hgx hmx) (h:=xN (h:=xF (h:=xT (h:=Zb rfl (fun g5=>by rw [hall w (List.mem_of_getElem? hw) (.inr g3)] at g5;simp at g5) (fun g5=>?_)))))))
 try simp only [sQ,ne_eq] at g5
 refine ZK (Zx (Zj (Zc (xM (h:=xD (h:=xA (h:=?_)))))))
 exact ZA (k+1) [0,1] so2 oz t7 rfl
 try simp only [sQ,ne_eq] at g3
 refine xP (h:=xP (h:=xP (h:=xP (h:=xP (h:=xP (h:=xP (h:=xP (h:=xF (h:=Zb (t:=false) rfl (fun h=>Bool.noConfusion h) (fun _=>ZK (Zx (Zj (Zc (xM (h:=xD (h:=xA (h:=?_)))))))))))))))))
 exact ZA (k+1) [0,1] so2 oz t7 rfl
 try simp only [sQ,ne_eq] at g1
 refine ZT (Zab (ZW (ZG (Zj (Za (xA (h:=Zd ?_)))))))
 exact eN [] rfl t1 ⟨rfl,rfl⟩

theorem Zka (b:Nat) (q:Option Addr) (m cp p:Nat) (hp:p≤850000000000) (hm:m≤2000) (B:Kn) (hbm:Zak B q m):Ex1 (pj J) 27 [ptr ⟨b,0,none⟩] B (rd b q m cp p) (fun v s=>∃(z:Int) (k:Nat),v = .int .i64 z∧k≤p+3∧s=rd b q m cp k):=by
 refine cB 13 Tryz.func27 (h:=?_)
 refine Za (xA (h:=Zf (Za (xM (h:=xX 0 rfl Za4 rfl (ZL _ _ _ _ _ _ oz oz oz hm _ hbm) (h:=?_))))))
 rintro _ _ ⟨r1,rfl,r1a,r1b,rfl⟩
 refine ZF (h:=tL1 (Zb rfl (fun g1=>?_) (fun g1=>?_)))
 refine Za (xBs [(0,_),(1,_),(2,_)] [_,_,_] Tryz.underlying110 sz3 zo3 (h:=fun b2=>?_))
 have hvq3:ZZ B (Zas b2 (([(-1),31,32]:List Int).map fun x=>.int .i64 x) 3) (some ⟨b2,0,none⟩) 3 3 1 Zb9 ([(-1),31,32]:List Int):=ZZ.ints
 refine xM (h:=xX 0 rfl Za4 rfl (ZL _ _ _ _ _ _ oz oz oz hm _ hbm) (h:=?_))
 rintro _ _ ⟨r4,rfl,r4a,r4b,rfl⟩
 obtain ⟨e,he⟩:=Zeh (xs:=([(-1),31,32]:List Int)) (i:=r4) om om
 obtain ⟨bb6,_,hp6,rfl,hw6,hc6⟩:=hvq3.row he
 refine xIp hp6 Tryz.underlying110 sz3 (h:=Zp (Zh rfl rfl lk3 rfl (hc6 _ 1 rfl 0 _ rfl) (xA (h:=tL2 (Zd (Zo ?_))))))
 exact e1 0 rfl t1 ⟨rfl,_,rfl,e,_,rfl,oz,rfl⟩
 refine wSk (Za (xM (h:=xX 0 rfl Za4 rfl (ZL _ _ _ _ _ _ oz oz oz hm _ hbm) (h:=?_))))
 rintro _ _ ⟨r7,rfl,r7a,r7b,rfl⟩
 refine xA (h:=tL1 (Zd ?_))
 exact e1 0 rfl t1 ⟨rfl,_,rfl,_,_,rfl,oz,rfl⟩

theorem Zkq (q:Option Addr) (m cp:Nat) (hmc:m≤cp) (B:Kn) (hb:Zak B q m):Zu (pj J) 8 [.slice q m cp] B [] (fun v B' Ls=>Ls=[]∧∃(x:DHost) (p1 p2 p3:Option Addr) (d1 d2 d3:Nat) (u o n:Str) (fl:Int) (t:Str),v = .tuple #[.agg #[str x.domain,.slice p1 x.users.length d1,.slice p2 x.folders.length d2,.int .i64 x.queue.next,.slice p3 x.queue.items.length d3],str u,str o,str n,.int .i64 fl,str t]∧SlK B' p1 d1 3 Zv x.users∧SlK B' p2 d2 5 Ze x.folders∧SlK B' p3 d3 4 Zy x.queue.items∧x.domain.length≤2000000∧u.length≤2000000∧o.length≤2000000∧n.length≤2000000∧t.length≤2000000):=by
 refine cB 39 Tryz.func8 (h:=?_)
 refine Za (xAl [_,_,_,_,_] Za1 (h:=fun b1=>xA (h:=xA (h:=xA (h:=xA (h:=xA (h:=tL1 (Za (xM (h:=Zp (ZtW rfl rfl ZAl rfl (Zs0 _ _ _ oz _ (oy)) ?_)))))))))))
 rintro _ _ ⟨bop,qop,mop,cpop,rfl,rfl,hm,hbm⟩
 refine xA (h:=tL2 (Za (xM (h:=xK [1] rfl ZAk rfl (ZsX _ _ _ _ _ oz hm _ hbm) (h:=?_)))))
 rintro _ Bh _ hleh ⟨xh,p1h,p2h,p3h,d1h,d2h,d3h,kh,rfl,huh,hfh,hih,hdh,hkh,rfl⟩
 replace hbm:=hbm.mono hleh
 have huhn:=huh.len
 have hfhn:=hfh.len
 have hihn:=hih.len
 refine xAl [_,_,_,_,_] Za1 (h:=fun b4=>xS [_,_,_,_,_] 2 [_,_,_,_,_] Zaq (h:=tL3 (Za (xM (h:=xL [_,_,_,_,_] ZY 2 (h:=xX 1 rfl ZAj rfl (ZsW _ _ _ _ _ oz hm _ _ _ _ _ _ _ _ hbm hfh) (h:=?_)))))))
 rintro _ _ ⟨yo,zo,ko,rfl,hyo,hzo,hko,rfl⟩
 refine xM (h:=xE (h:=xE (h:=xA (h:=xA (h:=tL3 (Za (xM (h:=xA (h:=Zf (Za (xM (h:=xX 1 rfl Za4 rfl (ZL _ _ _ _ _ _ oz oz oz hm _ hbm) (h:=?_)))))))))))))
 rintro _ _ ⟨rk,rfl,rka,rkb,rfl⟩
 refine ZF (h:=tL3 (Zb rfl (fun g1=>?_) (fun g1=>?_)))
 refine Zc (xM (h:=xX 1 rfl Zyh rfl (ZiF _ _ _ _ _ oz hm _ hbm) (h:=?_)))
 rintro _ _ ⟨xu,ku,rfl,hxu,hku,rfl⟩
 refine xA (h:=Zj (Za (xM (h:=xX 1 rfl Zzs rfl (Zka _ _ _ _ _ oz hm _ hbm) (h:=?_)))))
 rintro _ _ ⟨zf,kf,rfl,hkf,rfl⟩
 refine xA (h:=tL3 (Zf (Z2 (keeps _ [2] _) mo kr ⟨Kn.le.refl _,Zai.refl _ _⟩ (fun _ _=>?_))))
 refine aT 0 rfl (ZC fun D B L hI=>Z1 [_,_,_,_,_] rfl rfl ZY rfl (Z9 2 (hI.2.1.trans rfl) rfl rfl) r4) (h:=aM 1 rfl (h:=aM 2 rfl (h:=aM 3 rfl (h:=aM 4 rfl (h:=aM 5 rfl (h:=Zq 6 kr rfl kr (Zcm 1 rfl rfl rfl Zvr rfl (ZdG _ _ _ _ _ oz hm _ hbm) ?_)))))))
 rintro _ _ ⟨xt,rfl,hxt,rfl⟩
 refine ⟨⟨Kn.le.refl _,t1⟩,(Zbj 7 kr rfl kr kr (ZI [_,_,_,_,_] 0 [_,_,_,_,_] rfl rfl Zaq rfl rfl rfl rfl rfl rfl rfl rfl ?_))⟩
 refine aA 8 rfl (h:=aA 9 rfl (h:=aA 10 rfl (h:=aA 11 rfl (h:=aA 12 rfl (h:=Zz kr kr ?_)))))
 refine Zj (tL3 (Zd ?_))
 exact Zav .ret (.inl rfl) [_,_,_,_,_,_] [] rfl ⟨⟨_,rfl,.inr ⟨[_,_,_,_,_],ZY,Z9 0 rfl rfl rfl,rfl⟩⟩,rfl,rfl,rfl,rfl,rfl,trivial⟩ ⟨rfl,xh,_,_,_,_,_,_,_,_,_,_,_,rfl,huh,hfh,hih,hdh,oa,oa,oa,oa⟩
 refine wSk (Za (xM (h:=xX 1 rfl Zzs rfl (Zka _ _ _ _ _ oz hm _ hbm) (h:=?_))))
 rintro _ _ ⟨zf,kf,rfl,hkf,rfl⟩
 refine xA (h:=tL3 (Zf (Z2 (keeps _ [2] _) mo kr ⟨Kn.le.refl _,Zai.refl _ _⟩ (fun _ _=>?_))))
 refine aT 0 rfl (ZC fun D B L hI=>Z1 [_,_,_,_,_] rfl rfl ZY rfl (Z9 2 (hI.2.1.trans rfl) rfl rfl) r4) (h:=aM 1 rfl (h:=aM 2 rfl (h:=aM 3 rfl (h:=aM 4 rfl (h:=aM 5 rfl (h:=Zq 6 kr rfl kr (Zcm 1 rfl rfl rfl Zvr rfl (ZdG _ _ _ _ _ oz hm _ hbm) ?_)))))))
 rintro _ _ ⟨xt,rfl,hxt,rfl⟩
 refine ⟨⟨Kn.le.refl _,t1⟩,(Zbj 7 kr rfl kr kr (ZI [_,_,_,_,_] 0 [_,_,_,_,_] rfl rfl Zaq rfl rfl rfl rfl rfl rfl rfl rfl ?_))⟩
 refine aA 8 rfl (h:=aA 9 rfl (h:=aA 10 rfl (h:=aA 11 rfl (h:=aA 12 rfl (h:=Zz kr kr ?_)))))
 refine Zj (tL3 (Zd ?_))
 exact Zav .ret (.inl rfl) [_,_,_,_,_,_] [] rfl ⟨⟨_,rfl,.inr ⟨[_,_,_,_,_],ZY,Z9 0 rfl rfl rfl,rfl⟩⟩,rfl,rfl,rfl,rfl,rfl,trivial⟩ ⟨rfl,xh,_,_,_,_,_,_,_,_,_,_,_,rfl,huh,hfh,hih,hdh,oa,oa,oa,oa⟩

theorem ZpH (q:Option Addr) (m cp:Nat) (hmc:m≤cp) (B:Kn) (hb:Zak B q m) (a:Nat→Addr) (hE:ErrsB 267 [0,1,2,3] B a) :∃code,Tryz.f7.body=some code∧wpS (pj (ZmO Tryz.prog)) 97 code (ZfC (pj (ZmO Tryz.prog)) [.tmp 2] (fun v B' Ls=>v = .bool true)) (Zdn [.slice q m cp] 0) [] B []:=by
 have hJ:=ZiM Tryz.prog
 refine ⟨_,rfl,(Za (xA (h:=Zf (Za (xM (h:=xV Tryz.underlying22 (h:=Zbw (h:=Zb rfl (fun g0=>?_) (fun g0=>?_)))))))))⟩
 refine Za (xA (h:=Zd (Zo ?_)))
 exact eR t1 rfl
 refine wSk (Za (xM (h:=xQ en8 rfl (Zkq _ _ _ oz _ (oy)) (h:=?_))))
 intro vd Bd hled
 rintro ⟨xd,p1d,p2d,p3d,d1d,d2d,d3d,ud,od,nd,fld,td,rfl,hud,hfd,hid,hdd,hwd,hyd,hzd,htd⟩
 replace hE:=hE.mono hled
 have hudn:=hud.len
 have hfdn:=hfd.len
 have hidn:=hid.len
 refine xM (h:=xE (h:=xE (h:=xE (h:=xE (h:=xE (h:=xE (h:=xAl [_,_,_,_,_] Za1 (h:=fun b2=>xS [_,_,_,_,_] 0 [_,_,_,_,_] Zaq (h:=xA (h:=xA (h:=xA (h:=xA (h:=xA (h:=tL1 (Za (xL [_,_,_,_,_] ZY 0 (h:=xM (h:=xM (h:=xM (h:=xM (h:=xM (h:=xC en9 rfl (Zkd hJ _ _ _ _ _ _ xd ud od nd fld td om2 om2 om2 om2 om2 a _ hE hud hfd hid) (h:=?_)))))))))))))))))))))))
 rintro _ B3 _ hle3 ⟨q13,c13,q23,c23,q33,c33,l13,l23,l33,rfl,rfl,hu3,hf3,hi3⟩
 replace hud:=hud.mono Zv.mono hle3
 replace hfd:=hfd.mono Ze.mono hle3
 replace hid:=hid.mono Zy.mono hle3
 refine xM (h:=xE (h:=xE (h:=xAl [_,_,_,_,_] Za1 (h:=fun b4=>xS [_,_,_,_,_] 4 [_,_,_,_,_] Zaq (h:=xA (h:=tL5 (Za (xL [_,_,_,_,_] ZY 0 (h:=xM (h:=xM (h:=xM (h:=xM (h:=xM (h:=xQ Zy8 rfl (Zip _ _ _ _ _ _ xd ud od nd fld td om2 om2 om2 om2 om2 _ hud hfd hid) (h:=?_)))))))))))))))
 intro v5 B5 hle5
 rintro ⟨p15,d15,p25,d25,p35,d35,rfl,hu5,hf5,hi5,hd5⟩
 replace hud:=hud.mono Zv.mono hle5
 replace hfd:=hfd.mono Ze.mono hle5
 replace hid:=hid.mono Zy.mono hle5
 replace hu3:=hu3.mono Zv.mono hle5
 have hu5n:=hu5.len
 have hf5n:=hf5.len
 have hi5n:=hi5.len
 refine xM (h:=xE (h:=xE (h:=xAl [_,_,_,_,_] Za1 (h:=fun b6=>xS [_,_,_,_,_] 5 [_,_,_,_,_] Zaq (h:=xA (h:=tL6 (Zf (Za (xM (h:=xM (h:=ZbC (h:=xM (h:=Zn (d:=51) rfl (fun g1=>by simp at g1) (fun g1=>?_))))))))))))))
 refine xL [_,_,_,_,_] ZY 4 (h:=xL [_,_,_,_,_] ZY 5 (h:=Zp (Zib [1,2,3] rfl rfl rfl rfl rfl Zw4 rfl (ZaH.borrowL fun hm7=>Zej _ _ _ _ _ _ _ _ _ _ _ _ ((ZcL xd ud od nd fld td).1) ((ZcL xd ud od nd fld td).1) _ (hu3.lendK Zv.any 0 rfl hm7 om) (hf3.lendK Za7.known Ze.mono 1 rfl hm7 om) (hi3.lendK ZdS.known Zy.mono 2 rfl hm7 om) (hu5.mono Zv.mono (Kn.le_add _ _)) (hf5.mono Ze.mono (Kn.le_add _ _)) (hi5.mono Zy.mono (Kn.le_add _ _))) ?_)))
 refine xN (h:=xF (h:=xM (h:=Zn (d:=57) rfl (fun g2=>by simp at g2) (fun g2=>?_))))
 refine xM (h:=ZF (h:=xF (h:=xM (h:=Zn (d:=61) rfl (fun g3=>?_) (fun g3=>?_)))))
 refine xP (h:=xP (h:=xT (h:=Zb (t:=true) rfl (fun _=>Za (xM (h:=xM (h:=ZF (h:=xM (h:=Zn (d:=68) rfl (fun g4=>?_) (fun g4=>by simp at g4))))))) (fun h=>Bool.noConfusion h))))
 refine xL [_,_,_,_,_] ZY 4 (h:=xL [_,_,_,_,_] ZY 5 (h:=Zp (Zib [1,2,3] rfl rfl rfl rfl rfl Zw4 rfl (ZaH.borrowL fun hm8=>Zej _ _ _ _ _ _ _ _ _ _ _ _ ((ZcL xd ud od nd fld td).1) ((ZcL xd ud od nd fld td).1) _ (hu3.lendK Zv.any 0 rfl hm8 om) (hf3.lendK Za7.known Ze.mono 1 rfl hm8 om) (hi3.lendK ZdS.known Zy.mono 2 rfl hm8 om) (hu5.mono Zv.mono (Kn.le_add _ _)) (hf5.mono Ze.mono (Kn.le_add _ _)) (hi5.mono Zy.mono (Kn.le_add _ _))) ?_)))
 refine xT (h:=xA (h:=Zd (Zo ?_)))
 exact eR t1 (Zg (by simp))
 refine xM (h:=ZF (h:=xF (h:=Zb rfl (fun g5=>?_) (fun g5=>?_))))
 refine Za (xM (h:=xM (h:=ZF (h:=xM (h:=Zn (d:=68) rfl (fun g6=>?_) (fun g6=>by simp at g6))))))
 refine xL [_,_,_,_,_] ZY 4 (h:=xL [_,_,_,_,_] ZY 5 (h:=Zp (Zib [1,2,3] rfl rfl rfl rfl rfl Zw4 rfl (ZaH.borrowL fun hm9=>Zej _ _ _ _ _ _ _ _ _ _ _ _ ((ZcL xd ud od nd fld td).1) ((ZcL xd ud od nd fld td).1) _ (hu3.lendK Zv.any 0 rfl hm9 om) (hf3.lendK Za7.known Ze.mono 1 rfl hm9 om) (hi3.lendK ZdS.known Zy.mono 2 rfl hm9 om) (hu5.mono Zv.mono (Kn.le_add _ _)) (hf5.mono Ze.mono (Kn.le_add _ _)) (hi5.mono Zy.mono (Kn.le_add _ _))) ?_)))
 refine xT (h:=xA (h:=Zd (Zo ?_)))
 exact eR t1 (Zg (by simp))
 obtain ⟨f,hff,hr1,hr2,ha1,ha8⟩:=Zns (x:=xd) (u:=ud) (o:=od) (n:=nd) (fl:=fld) (t:=td) (by simpa using g3) (by simpa using g5)
 have hab : -1≤Zc2 (ZH xd od nd).1.grants od ud∧Zc2 (ZH xd od nd).1.grants od ud≤63:=by rw [hff];exact ⟨hr1,hr2⟩
 refine wSk (Za (xL [_,_,_,_,_] ZY 0 (h:=xM (h:=xM (h:=xQ Zxq rfl (Zd4 hJ _ _ _ _ _ _ xd od nd om2 om2 om2 _ hud hfd hid) (h:=?_))))))
 intro v10 B10 hle10
 rintro ⟨qa10,ca10,qb10,cb10,rfl,hg10,hm10⟩
 have hg10n:=hg10.len
 have hm10n:=hm10.len
 refine xM (h:=xE (h:=xE (h:=xAl [_,_,_,_,_] Zdh (h:=fun b11=>xS [_,_,_,_,_] 6 [_,_,_,_,_] Zba (h:=xA (h:=tL7 (Za (xW ZcN (h:=x1 Zph 6 (h:=xM (h:=xM (h:=xR Zzu rfl (Zjx _ _ ((ZH xd od nd).1.grants) od ud om2 om2 _ hg10) (h:=?_)))))))))))))
 refine xA (h:=Za (xM (h:=xM (h:=Zn (d:=86) rfl (fun g7=>?_) (fun g7=>by rw [hff] at g7;cases g7)))))
 refine xM (h:=xR Zzt rfl (Zr4 (Zc2 ((ZH xd od nd).1.grants) od ud) 1 om2 om2 om2 om2 _) (h:=?_))
 refine xT (h:=xM (h:=Zn (d:=90) rfl (fun g8=>?_) (fun g8=>by rw [hff] at g8;exact absurd (show Zh3 (Int.toNat 1) (Zc2 (f,true).fst.grants od ud) 1=true from ha1) (by rw [g8];decide))))
 refine xM (h:=xR Zzt rfl (Zr4 (Zc2 ((ZH xd od nd).1.grants) od ud) 8 om2 om2 om2 om2 _) (h:=?_))
 refine xM (h:=ZbC (h:=Zp (ZnZ rfl rfl rfl rfl rfl (Zua Tryz.underlying4) (xT (h:=xA (h:=Zd ?_))))))
 exact eR t1 (Zg (by rw [hff];simp only [];rw [show Int.toNat 8=8 from rfl,ha8];simp))

theorem Zve (q:Option Addr) (m cp:Nat) (hmc:m≤cp) (B:Kn) (hb:Zak B q m) (a:Nat→Addr) (hE:ErrsB 267 [0,1,2,3] B a) :∃code,Tryz.f3.body=some code∧wpS (pj (ZmO Tryz.prog)) 121 code (ZfC (pj (ZmO Tryz.prog)) [.tmp 2] (fun v B' Ls=>v = .bool true)) (Zdn [.slice q m cp] 0) [] B []:=by
 have hJ:=ZiM Tryz.prog
 refine ⟨_,rfl,(Za (xA (h:=Zf (Za (xM (h:=xV Tryz.underlying22 (h:=Zbw (h:=Zb rfl (fun g0=>?_) (fun g0=>?_)))))))))⟩
 refine Za (xA (h:=Zd (Zo ?_)))
 exact eR t1 rfl
 refine wSk (Za (xM (h:=xQ en8 rfl (Zkq _ _ _ oz _ (oy)) (h:=?_))))
 intro vd Bd hled
 rintro ⟨xd,p1d,p2d,p3d,d1d,d2d,d3d,ud,od,nd,fld,td,rfl,hud,hfd,hid,hdd,hwd,hyd,hzd,htd⟩
 replace hE:=hE.mono hled
 have hudn:=hud.len
 have hfdn:=hfd.len
 have hidn:=hid.len
 refine xM (h:=xE (h:=xE (h:=xE (h:=xE (h:=xE (h:=xE (h:=xAl [_,_,_,_,_] Za1 (h:=fun b2=>xS [_,_,_,_,_] 0 [_,_,_,_,_] Zaq (h:=xA (h:=xA (h:=xA (h:=xA (h:=xA (h:=tL1 (Za (xL [_,_,_,_,_] ZY 0 (h:=xM (h:=xM (h:=xM (h:=xM (h:=xM (h:=xC en9 rfl (Zkd hJ _ _ _ _ _ _ xd ud od nd fld td om2 om2 om2 om2 om2 a _ hE hud hfd hid) (h:=?_)))))))))))))))))))))))
 rintro _ B3 _ hle3 ⟨q13,c13,q23,c23,q33,c33,l13,l23,l33,rfl,rfl,hu3,hf3,hi3⟩
 replace hud:=hud.mono Zv.mono hle3
 replace hfd:=hfd.mono Ze.mono hle3
 replace hid:=hid.mono Zy.mono hle3
 refine xM (h:=xE (h:=xE (h:=xAl [_,_,_,_,_] Za1 (h:=fun b4=>xS [_,_,_,_,_] 4 [_,_,_,_,_] Zaq (h:=xA (h:=tL5 (Za (xL [_,_,_,_,_] ZY 0 (h:=xM (h:=xM (h:=xM (h:=xM (h:=xM (h:=xQ Zy8 rfl (Zip _ _ _ _ _ _ xd ud od nd fld td om2 om2 om2 om2 om2 _ hud hfd hid) (h:=?_)))))))))))))))
 intro v5 B5 hle5
 rintro ⟨p15,d15,p25,d25,p35,d35,rfl,hu5,hf5,hi5,hd5⟩
 replace hud:=hud.mono Zv.mono hle5
 replace hfd:=hfd.mono Ze.mono hle5
 replace hid:=hid.mono Zy.mono hle5
 replace hu3:=hu3.mono Zv.mono hle5
 have hu5n:=hu5.len
 have hf5n:=hf5.len
 have hi5n:=hi5.len
 refine xM (h:=xE (h:=xE (h:=xAl [_,_,_,_,_] Za1 (h:=fun b6=>xS [_,_,_,_,_] 5 [_,_,_,_,_] Zaq (h:=xA (h:=tL6 (Zf (Za (xM (h:=xM (h:=ZbC (h:=xM (h:=Zn (d:=54) rfl (fun g1=>by simp at g1) (fun g1=>?_))))))))))))))
 refine xL [_,_,_,_,_] ZY 4 (h:=xL [_,_,_,_,_] ZY 5 (h:=Zp (Zib [1,2,3] rfl rfl rfl rfl rfl Zw4 rfl (ZaH.borrowL fun hm7=>Zej _ _ _ _ _ _ _ _ _ _ _ _ ((ZcL xd ud od nd fld td).1) ((ZcL xd ud od nd fld td).1) _ (hu3.lendK Zv.any 0 rfl hm7 om) (hf3.lendK Za7.known Ze.mono 1 rfl hm7 om) (hi3.lendK ZdS.known Zy.mono 2 rfl hm7 om) (hu5.mono Zv.mono (Kn.le_add _ _)) (hf5.mono Ze.mono (Kn.le_add _ _)) (hi5.mono Zy.mono (Kn.le_add _ _))) ?_)))
 refine xN (h:=xF (h:=xM (h:=Zn (d:=60) rfl (fun g2=>by simp at g2) (fun g2=>?_))))
 refine xM (h:=ZbC (h:=xF (h:=Zb rfl (fun g3=>?_) (fun g3=>?_))))
 refine Za (xM (h:=xM (h:=ZF (h:=xM (h:=Zn (d:=67) rfl (fun g4=>?_) (fun g4=>by simp at g4))))))
 refine xL [_,_,_,_,_] ZY 4 (h:=xL [_,_,_,_,_] ZY 5 (h:=Zp (Zib [1,2,3] rfl rfl rfl rfl rfl Zw4 rfl (ZaH.borrowL fun hm8=>Zej _ _ _ _ _ _ _ _ _ _ _ _ ((ZcL xd ud od nd fld td).1) ((ZcL xd ud od nd fld td).1) _ (hu3.lendK Zv.any 0 rfl hm8 om) (hf3.lendK Za7.known Ze.mono 1 rfl hm8 om) (hi3.lendK ZdS.known Zy.mono 2 rfl hm8 om) (hu5.mono Zv.mono (Kn.le_add _ _)) (hf5.mono Ze.mono (Kn.le_add _ _)) (hi5.mono Zy.mono (Kn.le_add _ _))) ?_)))
 refine xT (h:=xA (h:=Zd (Zo ?_)))
 exact eR t1 (Zg (by simp))
 obtain ⟨f,hoy,hbo,hfl,htl,hf1,hf2,hadd,hoth⟩:=Zps (x:=xd) (u:=ud) (o:=od) (n:=nd) (fl:=fld) (t:=td) (by simpa using g3)
 have hsd:=Zta (u:=ud) (o:=od) (n:=nd) (fl:=fld) (t:=td) hdd
 have hbo2:Zbf (⟨(ZH xd od nd).1.next,(ZH xd od nd).1.mail⟩:DBox)=true:=by rw [hf1];exact hbo
 have hml:(ZH xd od nd).1.mail.length≤10:=(Zb3 hbo2).2.2
 have hal:(ZdQ (⟨(ZH xd od nd).1.next,(ZH xd od nd).1.mail⟩:DBox) fld td).1.mail.length≤(ZH xd od nd).1.mail.length+1:=Zlh _ _ _
 refine wSk (Za (xL [_,_,_,_,_] ZY 0 (h:=xM (h:=xM (h:=xQ Zxq rfl (Zd4 hJ _ _ _ _ _ _ xd od nd om2 om2 om2 _ hud hfd hid) (h:=?_))))))
 intro v9 B9 hle9
 rintro ⟨qa9,ca9,qb9,cb9,rfl,hg9,hm9⟩
 replace hud:=hud.mono Zv.mono hle9
 replace hfd:=hfd.mono Ze.mono hle9
 replace hid:=hid.mono Zy.mono hle9
 replace hu3:=hu3.mono Zv.mono hle9
 have hg9n:=hg9.len
 have hm9n:=hm9.len
 refine xM (h:=xE (h:=xE (h:=xAl [_,_,_,_,_] Zdh (h:=fun b10=>xS [_,_,_,_,_] 6 [_,_,_,_,_] Zba (h:=xA (h:=tL7 (Za (xL [_,_,_,_,_] ZY 4 (h:=Z4 1 rfl hu3 Zv.mono om3 (fun B11 hle11 hr11=>?_))))))))))
 replace hud:=hud.mono Zv.mono hle11
 replace hfd:=hfd.mono Ze.mono hle11
 replace hid:=hid.mono Zy.mono hle11
 replace hg9:=hg9.mono ZU.mono hle11
 replace hm9:=hm9.mono ZM.mono hle11
 have hr11n:=hr11.len
 refine Zt4 2 rfl hf3 Za7.known Ze.mono om (fun B12 hle12 hr12=>?_)
 replace hr11:=hr11.mono Zv.mono hle12
 replace hud:=hud.mono Zv.mono hle12
 replace hfd:=hfd.mono Ze.mono hle12
 replace hid:=hid.mono Zy.mono hle12
 replace hg9:=hg9.mono ZU.mono hle12
 replace hm9:=hm9.mono ZM.mono hle12
 have hr12n:=hr12.len
 refine Zt4 3 rfl hi3 ZdS.known Zy.mono om (fun B13 hle13 hr13=>?_)
 replace hr11:=hr11.mono Zv.mono hle13
 replace hr12:=hr12.mono Ze.mono hle13
 replace hud:=hud.mono Zv.mono hle13
 replace hfd:=hfd.mono Ze.mono hle13
 replace hid:=hid.mono Zy.mono hle13
 replace hg9:=hg9.mono ZU.mono hle13
 replace hm9:=hm9.mono ZM.mono hle13
 have hr13n:=hr13.len
 refine xM (h:=xM (h:=xQ Zxq rfl (Zd4 hJ _ _ _ _ _ _ ((ZcL xd ud od nd fld td).1) od nd om2 om2 om2 _ hr11 hr12 hr13) (h:=?_)))
 intro v14 B14 hle14
 rintro ⟨qa14,ca14,qb14,cb14,rfl,hg14,hm14⟩
 replace hr11:=hr11.mono Zv.mono hle14
 replace hr12:=hr12.mono Ze.mono hle14
 replace hr13:=hr13.mono Zy.mono hle14
 replace hud:=hud.mono Zv.mono hle14
 replace hfd:=hfd.mono Ze.mono hle14
 replace hid:=hid.mono Zy.mono hle14
 replace hg9:=hg9.mono ZU.mono hle14
 replace hm9:=hm9.mono ZM.mono hle14
 have hg14n:=hg14.len
 have hm14n:=hm14.len
 refine xM (h:=xE (h:=xE (h:=xAl [_,_,_,_,_] Zdh (h:=fun b15=>xS [_,_,_,_,_] 7 [_,_,_,_,_] Zba (h:=xA (h:=tL8 (Za (xW Zby (h:=xL [_,_] Zbp 6 (h:=xM (h:=xM (h:=xC Zzz rfl (ZmB _ _ (⟨(ZH xd od nd).1.next,(ZH xd od nd).1.mail⟩:DBox) fld td (oy) (oy) (oy) _ hm9) (h:=?_)))))))))))))
 rintro _ B16 _ hle16 ⟨l16,a16,c16,rfl,rfl,hs16⟩
 replace hud:=hud.mono Zv.mono hle16
 replace hfd:=hfd.mono Ze.mono hle16
 replace hid:=hid.mono Zy.mono hle16
 replace hr11:=hr11.mono Zv.mono hle16
 replace hr12:=hr12.mono Ze.mono hle16
 replace hr13:=hr13.mono Zy.mono hle16
 replace hg9:=hg9.mono ZU.mono hle16
 replace hg14:=hg14.mono ZU.mono hle16
 replace hm14:=hm14.mono ZM.mono hle16
 refine xM (h:=xE (h:=xE (h:=xAl [_,_] ZeS (h:=fun b17=>xS [_,_] 9 [_,_] Zcx (h:=xA (h:=ZxO (Za (xM (h:=xM (h:=Zn (d:=95) rfl (fun g5=>?_) (fun g5=>by rw [hf1] at g5;cases g5)))))))))))
 refine xM (h:=xT (h:=xM (h:=Zn (d:=98) rfl (fun g6=>?_) (fun g6=>by rw [hf2] at g6;cases g6))))
 refine xM (h:=xT (h:=xM (h:=Zn (d:=101) rfl (fun g7=>?_) (fun g7=>by rw [hf1] at g7;rw [show (⟨(f,true).1.next,(f,true).1.mail⟩:DBox)=f.box from rfl,hadd] at g7;cases g7))))
 refine xW Zby (h:=xL [_,_] Zbp 7 (h:=xL [_,_] Zbp 9 (h:=Zp (Zhf 8 rfl rfl rfl Zzy rfl (ZaH.borrow fun hm18=>ZlN _ _ _ _ (⟨(ZH ((ZcL xd ud od nd fld td).1) od nd).1.next,(ZH ((ZcL xd ud od nd fld td).1) od nd).1.mail⟩:DBox) (⟨(ZdQ (⟨(ZH xd od nd).1.next,(ZH xd od nd).1.mail⟩:DBox) fld td).1.next,(ZdQ (⟨(ZH xd od nd).1.next,(ZH xd od nd).1.mail⟩:DBox) fld td).1.mail⟩:DBox) _ (hm14.mono ZM.mono (Kn.le_add _ _)) ((hs16.anyK ZM.any).lend ZM.mono hm18 om)) ?_))))
 refine xT (h:=xM (h:=Zn (d:=107) rfl (fun g8=>?_) (fun g8=>by simp [hf1,hf2] at g8;exact (g8 rfl rfl).elim)))
 refine xW ZcN (h:=x1 Zph 7 (h:=xW ZcN (h:=x1 Zph 6 (h:=xR Zzx rfl (Zhn _ _ _ _ _ _ _ hg14 hg9) (h:=xT (h:=xM (h:=Zn (d:=114) rfl (fun g9=>?_) (fun g9=>by simp [hf1,hf2] at g9;exact absurd rfl g9))))))))
 refine xL [_,_,_,_,_] ZY 0 (h:=xL [_,_,_,_,_] ZY 4 (h:=xM (h:=xM (h:=xQ ZAm rfl (ZsK hJ _ _ _ _ _ _ xd ((ZcL xd ud od nd fld td).1) _ _ _ _ _ _ od nd hoth om2 om2 _ hud hfd hid hr11 hr12 hr13) (h:=?_)))))
 intro v20 B20 hle20
 rintro rfl
 refine xT (h:=xA (h:=Zd ?_))
 exact eR t1 (Zg (rfl))

end Go.Proofs.YtandoilaebgglaaGreatDoor
