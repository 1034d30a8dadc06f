/-
  WHAT THE FUNCTIONS THAT THE LAWS REACH COMPUTE: each function's contract, proved off its printed body (the text is written by program). No condition beyond those that each theorem states.
-/
import Derived.Test.YtikanaeckjcelaaGreatDoorC3
namespace Go.Proofs.YtikanaeckjcelaaGreatDoor
open Go Go.BL
set_option linter.unusedVariables false
set_option linter.unusedSimpArgs false
set_option maxRecDepth 4000
set_option maxHeartbeats 6400000
variable {J : JoinT}
set_option maxHeartbeats 1600000 in
theorem Zs6 (b:Nat) (q:Option Addr) (m cp p:Nat) (hp:p≤800000000000) (hm:m≤2000) (B:Kn) (hbm:Zap B q m):Zv (pj J) 106 [ptr ⟨b,0,none⟩] B [rd b q m cp p] (fun v B' Ls=>∃(q':Option Addr) (cp':Nat) (x:DBox) (k:Nat),v = .agg #[.int .i64 x.next,.slice q' x.mail.length cp']∧SlK B' q' cp' 3 ZN x.mail∧k≤p+300∧Ls=[rd b q m cp k]):=by
 refine ZeX 91 Tryz.func106 rfl rfl rfl (Nat.le_of_ble_eq_true rfl) ?_
 refine Za (xAl [_,_] Ze6 (h:=fun b1=>Zhb [_,_] rfl (Za (xM (h:=xX 0 rfl Za7 rfl (ZK _ _ _ _ _ _ oz oz oz hm _ hbm) (h:=?_))))))
 rintro _ _ ⟨rn0,rfl,rn0a,rn0b,rfl⟩
 refine xD (h:=xBs [] [] Tryz.underlying38 Zgx ZlB (h:=fun b3=>xB [(0,_),(1,_)] [_,_] [_,_] Zns Ze6 (h:=xAl [_,_] Ze6 (h:=fun b4=>xS [_,_] 3 [_,_] ZcE (h:=Zhb [_,_,_,_] rfl (Za (xM (h:=xX 0 rfl Za7 rfl (ZK _ _ _ _ _ _ oz oz oz hm _ hbm) (h:=?_)))))))))
 rintro _ _ ⟨rb0,rfl,rb0a,rb0b,rfl⟩
 refine xA (h:=Zhb [_,_,_,_] rfl (ZlG (α:=Int × Nat) [0,2,3] (fun g=>[(4,.int .i64 g.1)]) [0] (fun g=>[rd b q m cp g.2]) (fun g=>[]) (fun g Bx=>Bx=B∧0≤g.1∧g.1≤14∧g.2≤p+3) ?_ (fun g B6 hle6 hF=>?_)))
 refine Za (xM (h:=xX 0 rfl Za7 rfl (ZK _ _ _ _ _ _ oz oz oz hm _ hbm) (h:=?_)))
 rintro _ _ ⟨rc0,rfl,rc0a,rc0b,rfl⟩
 refine ZE (h:=Zhb [_,_,_,_] rfl (Zb rfl (fun g0=>?_) (fun g0=>?_)))
 try simp only [sQ,ne_eq] at g0
 refine Zc (xA (h:=?_))
 exact ZJ ⟨14,(((p+1)+1)+1)⟩ [0,1,2,3] ⟨rfl,so,so,so⟩ t4 rfl
 try simp only [sQ,ne_eq] at g0
 refine ZL ?_
 exact ZJ ⟨rb0,(((p+1)+1)+1)⟩ [0,1,2,3] ⟨rfl,so,so,so⟩ t4 rfl
 obtain ⟨rfl,hg0,hg1,hgp⟩:=hF
 refine ZM [(0,_),(2,_),(3,_),(4,_)] [_,_,_,_] t4 rfl (Zg (Za (xA (h:=Zl (ZO (α:=GBo) [0,2,3,4] (fun h=>[(5,.int .i64 h.k)]) [0,2,3] (fun h=>[rd b q m cp h.p,h.l,Zah b4 [.int .i64 h.x.next,.slice h.a h.x.mail.length h.c] 40]) (fun h Bx=>h.k≤15∧h.p≤p+4+10*h.k∧0≤h.x.next∧h.x.next≤200∧h.x.mail.length≤20∧ZY Bx h.l h.a h.c 97 3 ZN h.x.mail) (fun h=>15 - h.k) ⟨0,g.2,_,_,_,⟨1+rn0,[]⟩⟩ t1 rfl (⟨Nat.zero_le _,(so),(so),(so),Nat.zero_le _,.lit0⟩) (fun h B8 hle8 hI=>?_))))))
 obtain ⟨hk,hhp,hh0,hh1,hhl,hv⟩:=hI
 replace hbm:=hbm.mono hle8
 refine ZM [(0,_),(2,_),(3,_),(4,_),(5,_)] [_,_,_,_] t5 rfl (Zg (Za (xM (h:=xM (h:=Zaf (h:=Zb rfl (fun g1=>?_) (fun g1=>?_)))))))
 try simp only [sQ,ne_eq] at g1
 refine ZL (Zj (Zg (Zl (Zg (Z0 (keeps _ [3] _) mo kr ⟨Kn.le.refl _,Zad.refl _ _⟩ (fun _ _=>?_))))))
 refine aT 0 rfl (ZB fun D B L hI=>ZT [_,_] rfl rfl ZbA rfl (Z9 3 (hI.2.1.trans rfl) rfl rfl) r4) (h:=aM 1 rfl (h:=aM 3 rfl (h:=Zak [2,9] kr kr kr ⟨?_,?_⟩)))
 refine (ZbD 0 rfl rfl rfl Za7 rfl (ZK _ _ _ _ _ _ oz oz oz hm _ hbm) ?_)
 rintro _ _ ⟨rf,rfl,rfa,rfb,rfl⟩
 refine ⟨⟨Kn.le.refl _,t1⟩,(Zak [4,9] kr kr kr ⟨?_,?_⟩)⟩
 refine (ZbD 0 rfl rfl rfl ZrQ rfl (Zfn _ _ _ _ _ oz hm _ hbm) ?_)
 rintro _ _ ⟨xt,rfl,hxt,rfl⟩
 refine ⟨⟨Kn.le.refl _,t1⟩,(Zak [5,9] kr kr kr ⟨?_,?_⟩)⟩
 refine (Zax [2] rfl rfl rfl rfl Ztw rfl (Zv.borrow fun hma=>Zd3 _ _ (⟨h.x.next,h.x.mail⟩:DBox) rf xt om2 _ (hv.lend ZN.mono hma om)) ?_)
 rintro _ Ba _ hlea ⟨BBa,_,rfl,hBa,_,hma,_,la,aa,ca,rfl,rfl,hsa⟩
 replace hv:=hv.mono ZN.mono hlea
 replace hbm:=hbm.mono hlea
 replace hsa:=hsa.anyK (B':=Ba) ZN.any
 refine ⟨⟨hlea,t1⟩,?_⟩
 have hb1:=Zed (⟨h.x.next,h.x.mail⟩:DBox) rf xt
 refine aM 6 rfl (h:=aE 7 rfl (h:=aE 8 rfl (h:=Zq 9 kr rfl kr (Zai (l:=[_,_]) rfl rfl Ze6 rfl (fun b12=>?_)))))
 refine ⟨⟨hlea,t1⟩,(Za8 10 kr rfl kr kr (ZF [_,_] 5 [_,_] rfl rfl ZcE rfl rfl rfl rfl rfl rfl rfl rfl ?_))⟩
 refine aA 11 rfl (h:=Zz kr kr ?_)
 refine Zj (Zhb [_,_,_,_,_,_] rfl (Zg (Za (xM (h:=Zb rfl (fun g2=>?_) (fun g2=>?_))))))
 try simp only [sQ,ne_eq] at g2
 refine Za (xL [_,_] ZbA 5 (h:=xS [_,_] 3 [_,_] ZcE (h:=Zhb [_,_,_,_,_,_] rfl (Z0 (keeps _ [3] _) mo kr ⟨Kn.le.refl _,Zad.refl _ _⟩ (fun _ _=>?_)))))
 refine aW 0 rfl ZbR (h:=aT 1 rfl (ZB fun D B L hI=>Zf rfl rfl lk3 rfl (atL 3 (hI.2.1.trans rfl) rfl rfl) r4) (h:=aM 2 rfl (h:=Zq 3 kr rfl kr (ZbD 0 rfl rfl rfl Za7 rfl (ZK _ _ _ _ _ _ oz oz oz hm _ hbm) ?_))))
 rintro _ _ ⟨rd,rfl,rda,rdb,rfl⟩
 refine ⟨⟨Kn.le.refl _,t1⟩,(aD 4 rfl (h:=aW 5 rfl ZbR (h:=ZU 6 kr rfl kr kr kr (ZF [_] 3 [_,_] rfl rfl sz3 rfl rfl rfl rfl rfl rfl rfl rfl ?_))))⟩
 refine Zj (Za (xM (h:=xX 0 rfl Za7 rfl (ZK _ _ _ _ _ _ oz oz oz hm _ hbm) (h:=?_))))
 rintro _ _ ⟨re,rfl,rea,reb,rfl⟩
 refine ZE (h:=Zhb [_,_,_,_,_,_] rfl (Zb rfl (fun g3=>?_) (fun g3=>?_)))
 try simp only [sQ,ne_eq] at g3
 refine Zc (xL [_,_] ZbA 3 (h:=Zn (Zax [4] rfl rfl rfl rfl Zlp rfl (Zv.borrow fun hm15=>ZcI _ _ (⟨((ZQ (⟨h.x.next,h.x.mail⟩:DBox) rf xt).1.next+rd),(ZQ (⟨h.x.next,h.x.mail⟩:DBox) rf xt).1.mail⟩:DBox) _ (hsa.lend ZN.mono hm15 om)) ?_)))
 rintro _ B15 _ hle15 ⟨BB15,_,rfl,hB15,_,hm15,_,l15,a15,c15,l15b,a15b,c15b,rfl,rfl,hs15,hs15b⟩
 replace hv:=hv.mono ZN.mono hle15
 replace hsa:=hsa.mono ZN.mono hle15
 replace hbm:=hbm.mono hle15
 replace hs15:=hs15.anyK (B':=B15) ZN.any
 replace hs15b:=hs15b.anyK (B':=B15) Zcf.any
 refine xM (h:=xE (h:=xE (h:=xS [_,_] 3 [_,_] ZcE (h:=ZA (Zj (Zc (xM (h:=xD (h:=xA (h:=?_))))))))))
 exact ZD ⟨h.k+1,((((h.p+1)+2)+1)+1),l15,a15,c15,⟨((expunge (⟨((ZQ (⟨h.x.next,h.x.mail⟩:DBox) rf xt).1.next+rd),(ZQ (⟨h.x.next,h.x.mail⟩:DBox) rf xt).1.mail⟩:DBox)).1.next),((expunge (⟨((ZQ (⟨h.x.next,h.x.mail⟩:DBox) rf xt).1.next+rd),(ZQ (⟨h.x.next,h.x.mail⟩:DBox) rf xt).1.mail⟩:DBox)).1.mail)⟩⟩ [0,1,6,3] so2 ⟨so,so,by first | (simp only [];omega) | exact (ZG _).1,by first | (simp only [];omega) | exact Int.le_trans (ZG _).2.1 (by decide),by first | (simp only [];omega) | exact Nat.le_trans (ZG _).2.2 (by decide),hs15⟩ t5 rfl
 try simp only [sQ,ne_eq] at g3
 refine ZL (ZA (Zj (Zc (xM (h:=xD (h:=xA (h:=?_)))))))
 exact ZD ⟨h.k+1,((((h.p+1)+2)+1)+1),la,aa,ca,⟨((ZQ (⟨h.x.next,h.x.mail⟩:DBox) rf xt).1.next+rd),((ZQ (⟨h.x.next,h.x.mail⟩:DBox) rf xt).1.mail)⟩⟩ [0,1,4,3] so2 ⟨so,so,by first | (simp only [];omega) | exact (ZG _).1,by first | (simp only [];omega) | exact Int.le_trans (ZG _).2.1 (by decide),by first | (simp only [];omega) | exact Nat.le_trans (ZG _).2.2 (by decide),hsa⟩ t5 rfl
 try simp only [sQ,ne_eq] at g2
 refine ZL (Zj (Za (xM (h:=xX 0 rfl Za7 rfl (ZK _ _ _ _ _ _ oz oz oz hm _ hbm) (h:=?_)))))
 rintro _ _ ⟨re,rfl,rea,reb,rfl⟩
 refine ZE (h:=Zhb [_,_,_,_,_,_] rfl (Zb rfl (fun g3=>?_) (fun g3=>?_)))
 try simp only [sQ,ne_eq] at g3
 refine Zc (xL [_,_] ZbA 3 (h:=Zn (Zax [2] rfl rfl rfl rfl Zlp rfl (Zv.borrow fun hm17=>ZcI _ _ (⟨h.x.next,h.x.mail⟩:DBox) _ (hv.lend ZN.mono hm17 om)) ?_)))
 rintro _ B17 _ hle17 ⟨BB17,_,rfl,hB17,_,hm17,_,l17,a17,c17,l17b,a17b,c17b,rfl,rfl,hs17,hs17b⟩
 replace hv:=hv.mono ZN.mono hle17
 replace hsa:=hsa.mono ZN.mono hle17
 replace hbm:=hbm.mono hle17
 replace hs17:=hs17.anyK (B':=B17) ZN.any
 replace hs17b:=hs17b.anyK (B':=B17) Zcf.any
 refine xM (h:=xE (h:=xE (h:=xS [_,_] 3 [_,_] ZcE (h:=ZA (Zj (Zc (xM (h:=xD (h:=xA (h:=?_))))))))))
 exact ZD ⟨h.k+1,(((h.p+1)+2)+1),l17,a17,c17,⟨((expunge (⟨h.x.next,h.x.mail⟩:DBox)).1.next),((expunge (⟨h.x.next,h.x.mail⟩:DBox)).1.mail)⟩⟩ [0,1,6,3] so2 ⟨so,so,by first | (simp only [];omega) | exact (ZG _).1,by first | (simp only [];omega) | exact Int.le_trans (ZG _).2.1 (by decide),by first | (simp only [];omega) | exact Nat.le_trans (ZG _).2.2 (by decide),hs17⟩ t5 rfl
 try simp only [sQ,ne_eq] at g3
 refine ZL (ZA (Zj (Zc (xM (h:=xD (h:=xA (h:=?_)))))))
 exact ZD ⟨h.k+1,(((h.p+1)+2)+1),h.l,h.a,h.c,⟨h.x.next,h.x.mail⟩⟩ [0,1,2,3] so2 ⟨so,so,by first | (simp only [];omega) | exact (ZG _).1,by first | (simp only [];omega) | exact Int.le_trans (ZG _).2.1 (by decide),by first | (simp only [];omega) | exact Nat.le_trans (ZG _).2.2 (by decide),hv⟩ t5 rfl
 refine (Zai (l:=[_,_]) rfl rfl Ze6 rfl (fun b18=>⟨⟨Kn.le.refl _,t1⟩,(Zq 5 kr rfl kr (Zax [2] rfl rfl rfl rfl Ztw rfl (Zv.borrow fun hma=>Zd3 _ _ (⟨h.x.next,h.x.mail⟩:DBox) rf xt om2 _ (hv.lend ZN.mono hma om)) ?_))⟩))
 rintro _ Ba _ hlea ⟨BBa,_,rfl,hBa,_,hma,_,la,aa,ca,rfl,rfl,hsa⟩
 replace hv:=hv.mono ZN.mono hlea
 replace hbm:=hbm.mono hlea
 replace hsa:=hsa.anyK (B':=Ba) ZN.any
 refine ⟨⟨hlea,t1⟩,?_⟩
 have hb1:=Zed (⟨h.x.next,h.x.mail⟩:DBox) rf xt
 refine aM 6 rfl (h:=aE 7 rfl (h:=aE 8 rfl (h:=Za8 10 kr rfl kr kr (ZF [_,_] 4 [_,_] rfl rfl ZcE rfl rfl rfl rfl rfl rfl rfl rfl ?_))))
 refine aA 11 rfl (h:=Zz kr kr ?_)
 refine Zj (Zhb [_,_,_,_,_,_] rfl (Zg (Za (xM (h:=Zb rfl (fun g2=>?_) (fun g2=>?_))))))
 try simp only [sQ,ne_eq] at g2
 refine Za (xL [_,_] ZbA 4 (h:=xS [_,_] 3 [_,_] ZcE (h:=Zhb [_,_,_,_,_,_] rfl (Z0 (keeps _ [3] _) mo kr ⟨Kn.le.refl _,Zad.refl _ _⟩ (fun _ _=>?_)))))
 refine aW 0 rfl ZbR (h:=aT 1 rfl (ZB fun D B L hI=>Zf rfl rfl lk3 rfl (atL 3 (hI.2.1.trans rfl) rfl rfl) r4) (h:=aM 2 rfl (h:=Zq 3 kr rfl kr (ZbD 0 rfl rfl rfl Za7 rfl (ZK _ _ _ _ _ _ oz oz oz hm _ hbm) ?_))))
 rintro _ _ ⟨rd,rfl,rda,rdb,rfl⟩
 refine ⟨⟨Kn.le.refl _,t1⟩,(aD 4 rfl (h:=aW 5 rfl ZbR (h:=ZU 6 kr rfl kr kr kr (ZF [_] 3 [_,_] rfl rfl sz3 rfl rfl rfl rfl rfl rfl rfl rfl ?_))))⟩
 refine Zj (Za (xM (h:=xX 0 rfl Za7 rfl (ZK _ _ _ _ _ _ oz oz oz hm _ hbm) (h:=?_))))
 rintro _ _ ⟨re,rfl,rea,reb,rfl⟩
 refine ZE (h:=Zhb [_,_,_,_,_,_] rfl (Zb rfl (fun g3=>?_) (fun g3=>?_)))
 try simp only [sQ,ne_eq] at g3
 refine Zc (xL [_,_] ZbA 3 (h:=Zn (Zax [5] rfl rfl rfl rfl Zlp rfl (Zv.borrow fun hm22=>ZcI _ _ (⟨((ZQ (⟨h.x.next,h.x.mail⟩:DBox) rf xt).1.next+rd),(ZQ (⟨h.x.next,h.x.mail⟩:DBox) rf xt).1.mail⟩:DBox) _ (hsa.lend ZN.mono hm22 om)) ?_)))
 rintro _ B22 _ hle22 ⟨BB22,_,rfl,hB22,_,hm22,_,l22,a22,c22,l22b,a22b,c22b,rfl,rfl,hs22,hs22b⟩
 replace hv:=hv.mono ZN.mono hle22
 replace hsa:=hsa.mono ZN.mono hle22
 replace hbm:=hbm.mono hle22
 replace hs22:=hs22.anyK (B':=B22) ZN.any
 replace hs22b:=hs22b.anyK (B':=B22) Zcf.any
 refine xM (h:=xE (h:=xE (h:=xS [_,_] 3 [_,_] ZcE (h:=ZA (Zj (Zc (xM (h:=xD (h:=xA (h:=?_))))))))))
 exact ZD ⟨h.k+1,((((h.p+1)+2)+1)+1),l22,a22,c22,⟨((expunge (⟨((ZQ (⟨h.x.next,h.x.mail⟩:DBox) rf xt).1.next+rd),(ZQ (⟨h.x.next,h.x.mail⟩:DBox) rf xt).1.mail⟩:DBox)).1.next),((expunge (⟨((ZQ (⟨h.x.next,h.x.mail⟩:DBox) rf xt).1.next+rd),(ZQ (⟨h.x.next,h.x.mail⟩:DBox) rf xt).1.mail⟩:DBox)).1.mail)⟩⟩ [0,1,6,3] so2 ⟨so,so,by first | (simp only [];omega) | exact (ZG _).1,by first | (simp only [];omega) | exact Int.le_trans (ZG _).2.1 (by decide),by first | (simp only [];omega) | exact Nat.le_trans (ZG _).2.2 (by decide),hs22⟩ t5 rfl
 try simp only [sQ,ne_eq] at g3
 refine ZL (ZA (Zj (Zc (xM (h:=xD (h:=xA (h:=?_)))))))
 exact ZD ⟨h.k+1,((((h.p+1)+2)+1)+1),la,aa,ca,⟨((ZQ (⟨h.x.next,h.x.mail⟩:DBox) rf xt).1.next+rd),((ZQ (⟨h.x.next,h.x.mail⟩:DBox) rf xt).1.mail)⟩⟩ [0,1,5,3] so2 ⟨so,so,by first | (simp only [];omega) | exact (ZG _).1,by first | (simp only [];omega) | exact Int.le_trans (ZG _).2.1 (by decide),by first | (simp only [];omega) | exact Nat.le_trans (ZG _).2.2 (by decide),hsa⟩ t5 rfl
 try simp only [sQ,ne_eq] at g2
 refine ZL (Zj (Za (xM (h:=xX 0 rfl Za7 rfl (ZK _ _ _ _ _ _ oz oz oz hm _ hbm) (h:=?_)))))
 rintro _ _ ⟨re,rfl,rea,reb,rfl⟩
 refine ZE (h:=Zhb [_,_,_,_,_,_] rfl (Zb rfl (fun g3=>?_) (fun g3=>?_)))
 try simp only [sQ,ne_eq] at g3
 refine Zc (xL [_,_] ZbA 3 (h:=Zn (Zax [2] rfl rfl rfl rfl Zlp rfl (Zv.borrow fun hm24=>ZcI _ _ (⟨h.x.next,h.x.mail⟩:DBox) _ (hv.lend ZN.mono hm24 om)) ?_)))
 rintro _ B24 _ hle24 ⟨BB24,_,rfl,hB24,_,hm24,_,l24,a24,c24,l24b,a24b,c24b,rfl,rfl,hs24,hs24b⟩
 replace hv:=hv.mono ZN.mono hle24
 replace hsa:=hsa.mono ZN.mono hle24
 replace hbm:=hbm.mono hle24
 replace hs24:=hs24.anyK (B':=B24) ZN.any
 replace hs24b:=hs24b.anyK (B':=B24) Zcf.any
 refine xM (h:=xE (h:=xE (h:=xS [_,_] 3 [_,_] ZcE (h:=ZA (Zj (Zc (xM (h:=xD (h:=xA (h:=?_))))))))))
 exact ZD ⟨h.k+1,(((h.p+1)+2)+1),l24,a24,c24,⟨((expunge (⟨h.x.next,h.x.mail⟩:DBox)).1.next),((expunge (⟨h.x.next,h.x.mail⟩:DBox)).1.mail)⟩⟩ [0,1,6,3] so2 ⟨so,so,by first | (simp only [];omega) | exact (ZG _).1,by first | (simp only [];omega) | exact Int.le_trans (ZG _).2.1 (by decide),by first | (simp only [];omega) | exact Nat.le_trans (ZG _).2.2 (by decide),hs24⟩ t5 rfl
 try simp only [sQ,ne_eq] at g3
 refine ZL (ZA (Zj (Zc (xM (h:=xD (h:=xA (h:=?_)))))))
 exact ZD ⟨h.k+1,(((h.p+1)+2)+1),h.l,h.a,h.c,⟨h.x.next,h.x.mail⟩⟩ [0,1,2,3] so2 ⟨so,so,by first | (simp only [];omega) | exact (ZG _).1,by first | (simp only [];omega) | exact Int.le_trans (ZG _).2.1 (by decide),by first | (simp only [];omega) | exact Nat.le_trans (ZG _).2.2 (by decide),hv⟩ t5 rfl
 refine (Zai (l:=[_,_]) rfl rfl Ze6 rfl (fun b25=>⟨⟨Kn.le.refl _,t1⟩,(Zq 4 kr rfl kr (ZbD 0 rfl rfl rfl ZrQ rfl (Zfn _ _ _ _ _ oz hm _ hbm) ?_))⟩))
 rintro _ _ ⟨xt,rfl,hxt,rfl⟩
 refine ⟨⟨Kn.le.refl _,t1⟩,(Zq 5 kr rfl kr (Zax [2] rfl rfl rfl rfl Ztw rfl (Zv.borrow fun hma=>Zd3 _ _ (⟨h.x.next,h.x.mail⟩:DBox) rf xt om2 _ (hv.lend ZN.mono hma om)) ?_))⟩
 rintro _ Ba _ hlea ⟨BBa,_,rfl,hBa,_,hma,_,la,aa,ca,rfl,rfl,hsa⟩
 replace hv:=hv.mono ZN.mono hlea
 replace hbm:=hbm.mono hlea
 replace hsa:=hsa.anyK (B':=Ba) ZN.any
 refine ⟨⟨hlea,t1⟩,?_⟩
 have hb1:=Zed (⟨h.x.next,h.x.mail⟩:DBox) rf xt
 refine aM 6 rfl (h:=aE 7 rfl (h:=aE 8 rfl (h:=Za8 10 kr rfl kr kr (ZF [_,_] 4 [_,_] rfl rfl ZcE rfl rfl rfl rfl rfl rfl rfl rfl ?_))))
 refine aA 11 rfl (h:=Zz kr kr ?_)
 refine Zj (Zhb [_,_,_,_,_,_] rfl (Zg (Za (xM (h:=Zb rfl (fun g2=>?_) (fun g2=>?_))))))
 try simp only [sQ,ne_eq] at g2
 refine Za (xL [_,_] ZbA 4 (h:=xS [_,_] 3 [_,_] ZcE (h:=Zhb [_,_,_,_,_,_] rfl (Z0 (keeps _ [3] _) mo kr ⟨Kn.le.refl _,Zad.refl _ _⟩ (fun _ _=>?_)))))
 refine aW 0 rfl ZbR (h:=aT 1 rfl (ZB fun D B L hI=>Zf rfl rfl lk3 rfl (atL 3 (hI.2.1.trans rfl) rfl rfl) r4) (h:=aM 2 rfl (h:=Zq 3 kr rfl kr (ZbD 0 rfl rfl rfl Za7 rfl (ZK _ _ _ _ _ _ oz oz oz hm _ hbm) ?_))))
 rintro _ _ ⟨rd,rfl,rda,rdb,rfl⟩
 refine ⟨⟨Kn.le.refl _,t1⟩,(aD 4 rfl (h:=aW 5 rfl ZbR (h:=ZU 6 kr rfl kr kr kr (ZF [_] 3 [_,_] rfl rfl sz3 rfl rfl rfl rfl rfl rfl rfl rfl ?_))))⟩
 refine Zj (Za (xM (h:=xX 0 rfl Za7 rfl (ZK _ _ _ _ _ _ oz oz oz hm _ hbm) (h:=?_))))
 rintro _ _ ⟨re,rfl,rea,reb,rfl⟩
 refine ZE (h:=Zhb [_,_,_,_,_,_] rfl (Zb rfl (fun g3=>?_) (fun g3=>?_)))
 try simp only [sQ,ne_eq] at g3
 refine Zc (xL [_,_] ZbA 3 (h:=Zn (Zax [5] rfl rfl rfl rfl Zlp rfl (Zv.borrow fun hm30=>ZcI _ _ (⟨((ZQ (⟨h.x.next,h.x.mail⟩:DBox) rf xt).1.next+rd),(ZQ (⟨h.x.next,h.x.mail⟩:DBox) rf xt).1.mail⟩:DBox) _ (hsa.lend ZN.mono hm30 om)) ?_)))
 rintro _ B30 _ hle30 ⟨BB30,_,rfl,hB30,_,hm30,_,l30,a30,c30,l30b,a30b,c30b,rfl,rfl,hs30,hs30b⟩
 replace hv:=hv.mono ZN.mono hle30
 replace hsa:=hsa.mono ZN.mono hle30
 replace hbm:=hbm.mono hle30
 replace hs30:=hs30.anyK (B':=B30) ZN.any
 replace hs30b:=hs30b.anyK (B':=B30) Zcf.any
 refine xM (h:=xE (h:=xE (h:=xS [_,_] 3 [_,_] ZcE (h:=ZA (Zj (Zc (xM (h:=xD (h:=xA (h:=?_))))))))))
 exact ZD ⟨h.k+1,((((h.p+1)+2)+1)+1),l30,a30,c30,⟨((expunge (⟨((ZQ (⟨h.x.next,h.x.mail⟩:DBox) rf xt).1.next+rd),(ZQ (⟨h.x.next,h.x.mail⟩:DBox) rf xt).1.mail⟩:DBox)).1.next),((expunge (⟨((ZQ (⟨h.x.next,h.x.mail⟩:DBox) rf xt).1.next+rd),(ZQ (⟨h.x.next,h.x.mail⟩:DBox) rf xt).1.mail⟩:DBox)).1.mail)⟩⟩ [0,1,6,3] so2 ⟨so,so,by first | (simp only [];omega) | exact (ZG _).1,by first | (simp only [];omega) | exact Int.le_trans (ZG _).2.1 (by decide),by first | (simp only [];omega) | exact Nat.le_trans (ZG _).2.2 (by decide),hs30⟩ t5 rfl
 try simp only [sQ,ne_eq] at g3
 refine ZL (ZA (Zj (Zc (xM (h:=xD (h:=xA (h:=?_)))))))
 exact ZD ⟨h.k+1,((((h.p+1)+2)+1)+1),la,aa,ca,⟨((ZQ (⟨h.x.next,h.x.mail⟩:DBox) rf xt).1.next+rd),((ZQ (⟨h.x.next,h.x.mail⟩:DBox) rf xt).1.mail)⟩⟩ [0,1,5,3] so2 ⟨so,so,by first | (simp only [];omega) | exact (ZG _).1,by first | (simp only [];omega) | exact Int.le_trans (ZG _).2.1 (by decide),by first | (simp only [];omega) | exact Nat.le_trans (ZG _).2.2 (by decide),hsa⟩ t5 rfl
 try simp only [sQ,ne_eq] at g2
 refine ZL (Zj (Za (xM (h:=xX 0 rfl Za7 rfl (ZK _ _ _ _ _ _ oz oz oz hm _ hbm) (h:=?_)))))
 rintro _ _ ⟨re,rfl,rea,reb,rfl⟩
 refine ZE (h:=Zhb [_,_,_,_,_,_] rfl (Zb rfl (fun g3=>?_) (fun g3=>?_)))
 try simp only [sQ,ne_eq] at g3
 refine Zc (xL [_,_] ZbA 3 (h:=Zn (Zax [2] rfl rfl rfl rfl Zlp rfl (Zv.borrow fun hm32=>ZcI _ _ (⟨h.x.next,h.x.mail⟩:DBox) _ (hv.lend ZN.mono hm32 om)) ?_)))
 rintro _ B32 _ hle32 ⟨BB32,_,rfl,hB32,_,hm32,_,l32,a32,c32,l32b,a32b,c32b,rfl,rfl,hs32,hs32b⟩
 replace hv:=hv.mono ZN.mono hle32
 replace hsa:=hsa.mono ZN.mono hle32
 replace hbm:=hbm.mono hle32
 replace hs32:=hs32.anyK (B':=B32) ZN.any
 replace hs32b:=hs32b.anyK (B':=B32) Zcf.any
 refine xM (h:=xE (h:=xE (h:=xS [_,_] 3 [_,_] ZcE (h:=ZA (Zj (Zc (xM (h:=xD (h:=xA (h:=?_))))))))))
 exact ZD ⟨h.k+1,(((h.p+1)+2)+1),l32,a32,c32,⟨((expunge (⟨h.x.next,h.x.mail⟩:DBox)).1.next),((expunge (⟨h.x.next,h.x.mail⟩:DBox)).1.mail)⟩⟩ [0,1,6,3] so2 ⟨so,so,by first | (simp only [];omega) | exact (ZG _).1,by first | (simp only [];omega) | exact Int.le_trans (ZG _).2.1 (by decide),by first | (simp only [];omega) | exact Nat.le_trans (ZG _).2.2 (by decide),hs32⟩ t5 rfl
 try simp only [sQ,ne_eq] at g3
 refine ZL (ZA (Zj (Zc (xM (h:=xD (h:=xA (h:=?_)))))))
 exact ZD ⟨h.k+1,(((h.p+1)+2)+1),h.l,h.a,h.c,⟨h.x.next,h.x.mail⟩⟩ [0,1,2,3] so2 ⟨so,so,by first | (simp only [];omega) | exact (ZG _).1,by first | (simp only [];omega) | exact Int.le_trans (ZG _).2.1 (by decide),by first | (simp only [];omega) | exact Nat.le_trans (ZG _).2.2 (by decide),hv⟩ t5 rfl
 refine (Zai (l:=[_,_]) rfl rfl Ze6 rfl (fun b33=>⟨⟨Kn.le.refl _,t1⟩,(Zq 2 kr rfl kr (ZbD 0 rfl rfl rfl Za7 rfl (ZK _ _ _ _ _ _ oz oz oz hm _ hbm) ?_))⟩))
 rintro _ _ ⟨rf,rfl,rfa,rfb,rfl⟩
 refine ⟨⟨Kn.le.refl _,t1⟩,(Zq 4 kr rfl kr (ZbD 0 rfl rfl rfl ZrQ rfl (Zfn _ _ _ _ _ oz hm _ hbm) ?_))⟩
 rintro _ _ ⟨xt,rfl,hxt,rfl⟩
 refine ⟨⟨Kn.le.refl _,t1⟩,(Zq 5 kr rfl kr (Zax [2] rfl rfl rfl rfl Ztw rfl (Zv.borrow fun hma=>Zd3 _ _ (⟨h.x.next,h.x.mail⟩:DBox) rf xt om2 _ (hv.lend ZN.mono hma om)) ?_))⟩
 rintro _ Ba _ hlea ⟨BBa,_,rfl,hBa,_,hma,_,la,aa,ca,rfl,rfl,hsa⟩
 replace hv:=hv.mono ZN.mono hlea
 replace hbm:=hbm.mono hlea
 replace hsa:=hsa.anyK (B':=Ba) ZN.any
 refine ⟨⟨hlea,t1⟩,?_⟩
 have hb1:=Zed (⟨h.x.next,h.x.mail⟩:DBox) rf xt
 refine aM 6 rfl (h:=aE 7 rfl (h:=aE 8 rfl (h:=Za8 10 kr rfl kr kr (ZF [_,_] 4 [_,_] rfl rfl ZcE rfl rfl rfl rfl rfl rfl rfl rfl ?_))))
 refine aA 11 rfl (h:=Zz kr kr ?_)
 refine Zj (Zhb [_,_,_,_,_,_] rfl (Zg (Za (xM (h:=Zb rfl (fun g2=>?_) (fun g2=>?_))))))
 try simp only [sQ,ne_eq] at g2
 refine Za (xL [_,_] ZbA 4 (h:=xS [_,_] 3 [_,_] ZcE (h:=Zhb [_,_,_,_,_,_] rfl (Z0 (keeps _ [3] _) mo kr ⟨Kn.le.refl _,Zad.refl _ _⟩ (fun _ _=>?_)))))
 refine aW 0 rfl ZbR (h:=aT 1 rfl (ZB fun D B L hI=>Zf rfl rfl lk3 rfl (atL 3 (hI.2.1.trans rfl) rfl rfl) r4) (h:=aM 2 rfl (h:=Zq 3 kr rfl kr (ZbD 0 rfl rfl rfl Za7 rfl (ZK _ _ _ _ _ _ oz oz oz hm _ hbm) ?_))))
 rintro _ _ ⟨rd,rfl,rda,rdb,rfl⟩
 refine ⟨⟨Kn.le.refl _,t1⟩,(aD 4 rfl (h:=aW 5 rfl ZbR (h:=ZU 6 kr rfl kr kr kr (ZF [_] 3 [_,_] rfl rfl sz3 rfl rfl rfl rfl rfl rfl rfl rfl ?_))))⟩
 refine Zj (Za (xM (h:=xX 0 rfl Za7 rfl (ZK _ _ _ _ _ _ oz oz oz hm _ hbm) (h:=?_))))
 rintro _ _ ⟨re,rfl,rea,reb,rfl⟩
 refine ZE (h:=Zhb [_,_,_,_,_,_] rfl (Zb rfl (fun g3=>?_) (fun g3=>?_)))
 try simp only [sQ,ne_eq] at g3
 refine Zc (xL [_,_] ZbA 3 (h:=Zn (Zax [5] rfl rfl rfl rfl Zlp rfl (Zv.borrow fun hm39=>ZcI _ _ (⟨((ZQ (⟨h.x.next,h.x.mail⟩:DBox) rf xt).1.next+rd),(ZQ (⟨h.x.next,h.x.mail⟩:DBox) rf xt).1.mail⟩:DBox) _ (hsa.lend ZN.mono hm39 om)) ?_)))
 rintro _ B39 _ hle39 ⟨BB39,_,rfl,hB39,_,hm39,_,l39,a39,c39,l39b,a39b,c39b,rfl,rfl,hs39,hs39b⟩
 replace hv:=hv.mono ZN.mono hle39
 replace hsa:=hsa.mono ZN.mono hle39
 replace hbm:=hbm.mono hle39
 replace hs39:=hs39.anyK (B':=B39) ZN.any
 replace hs39b:=hs39b.anyK (B':=B39) Zcf.any
 refine xM (h:=xE (h:=xE (h:=xS [_,_] 3 [_,_] ZcE (h:=ZA (Zj (Zc (xM (h:=xD (h:=xA (h:=?_))))))))))
 exact ZD ⟨h.k+1,((((h.p+1)+2)+1)+1),l39,a39,c39,⟨((expunge (⟨((ZQ (⟨h.x.next,h.x.mail⟩:DBox) rf xt).1.next+rd),(ZQ (⟨h.x.next,h.x.mail⟩:DBox) rf xt).1.mail⟩:DBox)).1.next),((expunge (⟨((ZQ (⟨h.x.next,h.x.mail⟩:DBox) rf xt).1.next+rd),(ZQ (⟨h.x.next,h.x.mail⟩:DBox) rf xt).1.mail⟩:DBox)).1.mail)⟩⟩ [0,1,6,3] so2 ⟨so,so,by first | (simp only [];omega) | exact (ZG _).1,by first | (simp only [];omega) | exact Int.le_trans (ZG _).2.1 (by decide),by first | (simp only [];omega) | exact Nat.le_trans (ZG _).2.2 (by decide),hs39⟩ t5 rfl
 try simp only [sQ,ne_eq] at g3
 refine ZL (ZA (Zj (Zc (xM (h:=xD (h:=xA (h:=?_)))))))
 exact ZD ⟨h.k+1,((((h.p+1)+2)+1)+1),la,aa,ca,⟨((ZQ (⟨h.x.next,h.x.mail⟩:DBox) rf xt).1.next+rd),((ZQ (⟨h.x.next,h.x.mail⟩:DBox) rf xt).1.mail)⟩⟩ [0,1,5,3] so2 ⟨so,so,by first | (simp only [];omega) | exact (ZG _).1,by first | (simp only [];omega) | exact Int.le_trans (ZG _).2.1 (by decide),by first | (simp only [];omega) | exact Nat.le_trans (ZG _).2.2 (by decide),hsa⟩ t5 rfl
 try simp only [sQ,ne_eq] at g2
 refine ZL (Zj (Za (xM (h:=xX 0 rfl Za7 rfl (ZK _ _ _ _ _ _ oz oz oz hm _ hbm) (h:=?_)))))
 rintro _ _ ⟨re,rfl,rea,reb,rfl⟩
 refine ZE (h:=Zhb [_,_,_,_,_,_] rfl (Zb rfl (fun g3=>?_) (fun g3=>?_)))
 try simp only [sQ,ne_eq] at g3
 refine Zc (xL [_,_] ZbA 3 (h:=Zn (Zax [2] rfl rfl rfl rfl Zlp rfl (Zv.borrow fun hm41=>ZcI _ _ (⟨h.x.next,h.x.mail⟩:DBox) _ (hv.lend ZN.mono hm41 om)) ?_)))
 rintro _ B41 _ hle41 ⟨BB41,_,rfl,hB41,_,hm41,_,l41,a41,c41,l41b,a41b,c41b,rfl,rfl,hs41,hs41b⟩
 replace hv:=hv.mono ZN.mono hle41
 replace hsa:=hsa.mono ZN.mono hle41
 replace hbm:=hbm.mono hle41
 replace hs41:=hs41.anyK (B':=B41) ZN.any
 replace hs41b:=hs41b.anyK (B':=B41) Zcf.any
 refine xM (h:=xE (h:=xE (h:=xS [_,_] 3 [_,_] ZcE (h:=ZA (Zj (Zc (xM (h:=xD (h:=xA (h:=?_))))))))))
 exact ZD ⟨h.k+1,(((h.p+1)+2)+1),l41,a41,c41,⟨((expunge (⟨h.x.next,h.x.mail⟩:DBox)).1.next),((expunge (⟨h.x.next,h.x.mail⟩:DBox)).1.mail)⟩⟩ [0,1,6,3] so2 ⟨so,so,by first | (simp only [];omega) | exact (ZG _).1,by first | (simp only [];omega) | exact Int.le_trans (ZG _).2.1 (by decide),by first | (simp only [];omega) | exact Nat.le_trans (ZG _).2.2 (by decide),hs41⟩ t5 rfl
 try simp only [sQ,ne_eq] at g3
 refine ZL (ZA (Zj (Zc (xM (h:=xD (h:=xA (h:=?_)))))))
 exact ZD ⟨h.k+1,(((h.p+1)+2)+1),h.l,h.a,h.c,⟨h.x.next,h.x.mail⟩⟩ [0,1,2,3] so2 ⟨so,so,by first | (simp only [];omega) | exact (ZG _).1,by first | (simp only [];omega) | exact Int.le_trans (ZG _).2.1 (by decide),by first | (simp only [];omega) | exact Nat.le_trans (ZG _).2.2 (by decide),hv⟩ t5 rfl
 try simp only [sQ,ne_eq] at g1
 refine ZS (Zae (ZX (ZI (Zj (Zg (Za (xM (h:=xX 0 rfl Za7 rfl (ZK _ _ _ _ _ _ oz oz oz hm _ hbm) (h:=?_)))))))))
 rintro _ _ ⟨rz0,rfl,rz0a,rz0b,rfl⟩
 refine Zhb [_,_,_,_] rfl (Zl (Za (ZE (h:=xA (h:=Zb rfl (fun g4=>?_) (fun g4=>?_))))))
 try simp only [sQ,ne_eq] at g4
 refine Zc (xBs [(0,_),(1,_),(2,_),(3,_)] [_,_,_,_] Tryz.underlying185 sz3 zo3 (h:=fun b43=>xM (h:=xX 0 rfl Za7 rfl (ZK _ _ _ _ _ _ oz oz oz hm _ hbm) (h:=?_))))
 rintro _ _ ⟨rz1,rfl,rz1a,rz1b,rfl⟩
 have hvq45:ZY B8 (Zah b43 (([0,99,100,101]:List Int).map fun x=>.int .i64 x) 3) (some ⟨b43,0,none⟩) 4 3 1 Zcf ([0,99,100,101]:List Int):=ZY.ints
 obtain ⟨e,he⟩:=ZeB (xs:=([0,99,100,101]:List Int)) (i:=rz1) om om
 obtain ⟨bb47,_,hp47,rfl,hw47,hc47⟩:=hvq45.row he
 refine xIp hp47 Tryz.underlying185 sz3 (h:=Zn (Zf rfl rfl lk3 rfl (hc47 _ 4 rfl 0 _ rfl) (xW ZbR (h:=xS [_] 3 [_,_] sz3 (h:=ZA (Zj (Za (xL [_,_] ZbA 3 (h:=Z1 2 rfl hv ZN.mono om3 (fun B48 hle48 hr48=>?_))))))))))
 replace hvq45:=hvq45.mono Zcf.mono hle48
 replace hbm:=hbm.mono hle48
 have hr48n:=hr48.len
 refine xS [_,_] 1 [_,_] ZcE (h:=Zhb [_,_,_,_,_] rfl (Zd ?_))
 exact Zas .ret (.inl rfl) [_] [0] rfl ⟨⟨_,rfl,.inr ⟨[_,_],ZbA,Z9 1 rfl rfl rfl,rfl⟩⟩,trivial⟩ ⟨_,_,⟨e,h.x.mail⟩,_,(ol),hr48,oz,rfl⟩
 try simp only [sQ,ne_eq] at g4
 refine Za (ZE (h:=xA (h:=Zb rfl (fun g5=>?_) (fun g5=>?_))))
 try simp only [sQ,ne_eq] at g5
 refine Za (xW ZaP (h:=x1 Zfl 3 (h:=xV Tryz.underlying38 (h:=Zbp (h:=Zb rfl (fun g6=>?_) (fun g6=>?_))))))
 try simp only [sQ,ne_eq] at g6
 refine Z0 (keeps _ [2,3] _) mo kr ⟨Kn.le.refl _,Zad.refl _ _⟩ (fun _ _=>?_)
 refine aW 0 rfl ZaP (h:=aT 1 rfl (ZB fun D B L hI=>Zf rfl rfl Zfl rfl (atL 3 (hI.2.2.1.trans rfl) rfl rfl) r4) (h:=aM 2 rfl (h:=aW 3 rfl ZaP (h:=aT 4 rfl (ZB fun D B L hI=>Zf rfl rfl Zfl rfl (atL 3 (hI.2.2.1.trans rfl) rfl rfl) r4) (h:=aV 5 rfl Tryz.underlying38 (h:=aM 7 rfl (h:=Zq 6 kr rfl kr (ZbD 0 rfl rfl rfl Za7 rfl (ZK _ _ _ _ _ _ oz oz oz hm _ hbm) ?_))))))))
 rintro _ _ ⟨rz1,rfl,rz1a,rz1b,rfl⟩
 refine ⟨⟨Kn.le.refl _,t2⟩,(Zq 8 kr rfl kr (ZbD 0 rfl rfl rfl Za7 rfl (ZK _ _ _ _ _ _ oz oz oz hm _ hbm) ?_))⟩
 rintro _ _ ⟨rz2,rfl,rz2a,rz2b,rfl⟩
 refine ⟨⟨Kn.le.refl _,t2⟩,?_⟩
 obtain ⟨z,hz⟩:=ZeB (xs:=h.x.mail) (i:=rz1) om om
 obtain ⟨bb52,_,hp52,⟨rfl,hb52⟩,hw52,hc52⟩:=hv.row hz
 refine aT 9 rfl (ZB fun D B L hI=>Zf1 hp52 rfl rfl Tryz.underlying38 Zgx rfl rfl om om r4) (h:=?_)
 refine aW 10 rfl ZhY (h:=ZU 11 kr rfl kr kr kr (ZeJ (k:=(rz1).toNat) (off:=0) (⟨rz2,z.flags,z.text⟩) [_] 2 hv hp52 hz rfl rfl sz3 rfl rfl rfl rfl rfl rfl (by rintro _ ⟨rfl,e1⟩;exact ⟨rfl,e1⟩) (fun l53 hv53=>?_)))
 refine ZA (Zj (Za (xL [_,_] ZbA 3 (h:=Z1 2 rfl hv53 ZN.mono om3 (fun B54 hle54 hr54=>?_)))))
 replace hbm:=hbm.mono hle54
 have hr54n:=hr54.len
 refine xS [_,_] 1 [_,_] ZcE (h:=Zhb [_,_,_,_] rfl (Zd ?_))
 exact Zas .ret (.inl rfl) [_] [0] rfl ⟨⟨_,rfl,.inr ⟨[_,_],ZbA,Z9 1 rfl rfl rfl,rfl⟩⟩,trivial⟩ ⟨_,_,⟨h.x.next,(h.x.mail.set ((rz1).toNat) (⟨rz2,z.flags,z.text⟩))⟩,_,(ol),hr54,oz,rfl⟩
 try simp only [sQ,ne_eq] at g6
 refine ZL (ZA (Zj (Za (xL [_,_] ZbA 3 (h:=Z1 2 rfl hv ZN.mono om3 (fun B55 hle55 hr55=>?_))))))
 replace hbm:=hbm.mono hle55
 have hr55n:=hr55.len
 refine xS [_,_] 1 [_,_] ZcE (h:=Zhb [_,_,_,_] rfl (Zd ?_))
 exact Zas .ret (.inl rfl) [_] [0] rfl ⟨⟨_,rfl,.inr ⟨[_,_],ZbA,Z9 1 rfl rfl rfl,rfl⟩⟩,trivial⟩ ⟨_,_,⟨h.x.next,h.x.mail⟩,_,(ol),hr55,oz,rfl⟩
 try simp only [sQ,ne_eq] at g5
 refine Za (ZE (h:=xA (h:=Zb rfl (fun g7=>?_) (fun g7=>?_))))
 try simp only [sQ,ne_eq] at g7
 refine Za (xW ZaP (h:=x1 Zfl 3 (h:=xV Tryz.underlying38 (h:=Zbp (h:=Zb rfl (fun g8=>?_) (fun g8=>?_))))))
 try simp only [sQ,ne_eq] at g8
 refine Z0 (keeps _ [2,3] _) mo kr ⟨Kn.le.refl _,Zad.refl _ _⟩ (fun _ _=>?_)
 refine aW 0 rfl ZaP (h:=aT 1 rfl (ZB fun D B L hI=>Zf rfl rfl Zfl rfl (atL 3 (hI.2.2.1.trans rfl) rfl rfl) r4) (h:=aM 2 rfl (h:=aW 3 rfl ZaP (h:=aT 4 rfl (ZB fun D B L hI=>Zf rfl rfl Zfl rfl (atL 3 (hI.2.2.1.trans rfl) rfl rfl) r4) (h:=aV 5 rfl Tryz.underlying38 (h:=Zq 6 kr rfl kr (ZbD 0 rfl rfl rfl Za7 rfl (ZK _ _ _ _ _ _ oz oz oz hm _ hbm) ?_)))))))
 rintro _ _ ⟨rz1,rfl,rz1a,rz1b,rfl⟩
 refine ⟨⟨Kn.le.refl _,t2⟩,?_⟩
 obtain ⟨z,hz⟩:=ZeB (xs:=h.x.mail) (i:=rz1) om om
 obtain ⟨bb58,_,hp58,⟨rfl,hb58⟩,hw58,hc58⟩:=hv.row hz
 refine aT 7 rfl (ZB fun D B L hI=>Zf1 hp58 rfl rfl Tryz.underlying38 Zgx rfl rfl om om r4) (h:=?_)
 refine aW 8 rfl Zjt (h:=ZU 9 kr rfl kr kr kr (ZeJ (k:=(rz1).toNat) (off:=1) (⟨z.uid,32,z.text⟩) [_] 2 hv hp58 hz rfl rfl sz3 rfl rfl rfl rfl rfl rfl (by rintro _ ⟨rfl,e1⟩;exact ⟨rfl,e1⟩) (fun l59 hv59=>?_)))
 refine ZA (Zj (Za (xL [_,_] ZbA 3 (h:=Z1 2 rfl hv59 ZN.mono om3 (fun B60 hle60 hr60=>?_)))))
 replace hbm:=hbm.mono hle60
 have hr60n:=hr60.len
 refine xS [_,_] 1 [_,_] ZcE (h:=Zhb [_,_,_,_] rfl (Zd ?_))
 exact Zas .ret (.inl rfl) [_] [0] rfl ⟨⟨_,rfl,.inr ⟨[_,_],ZbA,Z9 1 rfl rfl rfl,rfl⟩⟩,trivial⟩ ⟨_,_,⟨h.x.next,(h.x.mail.set ((rz1).toNat) (⟨z.uid,32,z.text⟩))⟩,_,(ol),hr60,oz,rfl⟩
 try simp only [sQ,ne_eq] at g8
 refine ZL (ZA (Zj (Za (xL [_,_] ZbA 3 (h:=Z1 2 rfl hv ZN.mono om3 (fun B61 hle61 hr61=>?_))))))
 replace hbm:=hbm.mono hle61
 have hr61n:=hr61.len
 refine xS [_,_] 1 [_,_] ZcE (h:=Zhb [_,_,_,_] rfl (Zd ?_))
 exact Zas .ret (.inl rfl) [_] [0] rfl ⟨⟨_,rfl,.inr ⟨[_,_],ZbA,Z9 1 rfl rfl rfl,rfl⟩⟩,trivial⟩ ⟨_,_,⟨h.x.next,h.x.mail⟩,_,(ol),hr61,oz,rfl⟩
 try simp only [sQ,ne_eq] at g7
 refine ZL (ZA (Zj (Za (xL [_,_] ZbA 3 (h:=Z1 2 rfl hv ZN.mono om3 (fun B62 hle62 hr62=>?_))))))
 replace hbm:=hbm.mono hle62
 have hr62n:=hr62.len
 refine xS [_,_] 1 [_,_] ZcE (h:=Zhb [_,_,_,_] rfl (Zd ?_))
 exact Zas .ret (.inl rfl) [_] [0] rfl ⟨⟨_,rfl,.inr ⟨[_,_],ZbA,Z9 1 rfl rfl rfl,rfl⟩⟩,trivial⟩ ⟨_,_,⟨h.x.next,h.x.mail⟩,_,(ol),hr62,oz,rfl⟩

theorem Zmk (b:Nat) (q:Option Addr) (m cp p:Nat) (hp:p≤700000000000) (hm:m≤2000) (B:Kn) (hbm:Zap B q m):Zv (pj J) 63 [ptr ⟨b,0,none⟩] B [rd b q m cp p] (fun v B' Ls=>∃(x:DHost) (p1 p2 p3:Option Addr) (d1 d2 d3 k:Nat),v = .agg #[str x.domain,.slice p1 x.users.length d1,.slice p2 x.folders.length d2,.int .i64 x.queue.next,.slice p3 x.queue.items.length d3]∧SlK B' p1 d1 3 Zs x.users∧SlK B' p2 d2 5 Ze x.folders∧SlK B' p3 d3 4 Zw x.queue.items∧x.domain.length≤2000000∧Zx x=true∧k≤p+6000∧Ls=[rd b q m cp k]):=by
 refine cB 37 Tryz.func63 (h:=?_)
 refine Za (xAl [_,_,_,_,_] Za2 (h:=fun b1=>tL2 (Za (xB [(0,_),(1,_),(2,_)] [_,_,_] [_,_,_] ZsO Zgy (h:=xM (h:=xX 0 rfl Za7 rfl (ZK _ _ _ _ _ _ oz oz oz hm _ hbm) (h:=?_)))))))
 rintro _ _ ⟨ra,rfl,raa,rab,rfl⟩
 refine xD (h:=xB [(0,_),(1,_),(2,_)] [_,_,_] [_,_,_] ZsO Zgy (h:=xM (h:=xX 0 rfl Za7 rfl (ZK _ _ _ _ _ _ oz oz oz hm _ hbm) (h:=?_))))
 rintro _ _ ⟨rb,rfl,rba,rbb,rfl⟩
 refine xD (h:=xB [(0,_),(1,_),(2,_)] [_,_,_] [_,_,_] ZsO Zgy (h:=xBs [(0,_),(1,_),(2,_)] [_,_,_,_,_,_,_,_,_] Tryz.underlying23 Ze3 Zgy (h:=fun b4=>?_)))
 have hdl:(ZfW ra rb).length=3:=rfl
 have hvq:ZY B (Zah b4 [str [97,109,121],str [97,49],int 60,str [98,111,98],str [98,50],int (20+ra),str [99,121,100],str [99,51],int (100+rb)] 53) (some ⟨b4,0,none⟩) 3 53 3 Zs (ZfW ra rb):=ZY.lit (rows:=[[str [97,109,121],str [97,49],int 60],[str [98,111,98],str [98,50],int (20+ra)],[str [99,121,100],str [99,51],int (100+rb)]]) (.cons ⟨rfl,by simp,by simp⟩ (.cons ⟨rfl,by simp,by simp⟩ (.cons ⟨rfl,by simp,by simp⟩ .nil))) (by intro row hr;simp only [List.mem_cons,List.not_mem_nil,or_false] at hr;rcases hr with rfl | rfl | rfl <;> rfl)
 have hdu:=ZrU (a:=ra) (b:=rb) oz oz oz oz
 refine Z1 2 rfl hvq Zs.mono om3 (fun B5 hle5 hr5=>?_)
 replace hbm:=hbm.mono hle5
 have hr5n:=hr5.len
 refine xQ ZyH rfl (ZqG _ _ [104,111,115,116,46,111,114,103] (ZfW ra rb) om2 om2 _ hr5) (h:=?_)
 intro vh Bh hleh
 rintro ⟨q1h,c1h,q2h,c2h,q3h,c3h,rfl,huh,hfh,hih⟩
 replace hbm:=hbm.mono hleh
 have huhn:=huh.len
 have hfhn:=hfh.len
 have hihn:=hih.len
 refine xM (h:=xE (h:=xE (h:=xAl [_,_,_,_,_] Za2 (h:=fun b7=>xS [_,_,_,_,_] 3 [_,_,_,_,_] Zaq (h:=xA (h:=tL4 (Za (xM (h:=xX 0 rfl Za7 rfl (ZK _ _ _ _ _ _ oz oz oz hm _ hbm) (h:=?_))))))))))
 rintro _ _ ⟨rn,rfl,rna,rnb,rfl⟩
 refine xA (h:=tL4 (Zg (Za (xA (h:=Zl (ZO (α:=GHo) [0,2,3,5] (fun g=>[(6,.int .i64 g.k)]) [0,3] (fun g=>[rd b q m cp g.p,Zah b7 [str g.x.domain,.slice g.q1 g.x.users.length g.c1,.slice g.q2 g.x.folders.length g.c2,.int .i64 g.x.queue.next,.slice g.q3 g.x.queue.items.length g.c3] 29]) (fun g Bx=>g.k≤40∧g.p≤p+4+60*g.k∧Zx g.x=true∧g.x.domain.length≤2000000∧SlK Bx g.q1 g.c1 3 Zs g.x.users∧SlK Bx g.q2 g.c2 5 Ze g.x.folders∧SlK Bx g.q3 g.c3 4 Zw g.x.queue.items) (fun g=>40 - g.k) ⟨0,_,(Zcu [104,111,115,116,46,111,114,103] (ZfW ra rb)).1,_,_,_,_,_,_⟩ t1 rfl (⟨Nat.zero_le _,(so),(by rw [hdu.1];exact hdu.2),(by rw [hdu.1];exact (by decide:(8:Nat)≤2000000)),huh,hfh,hih⟩) (fun g B9 hle9 hI=>?_)))))))
 obtain ⟨hk,hgp,hgo,hgd,hgu,hgf,hgi⟩:=hI
 have hgin:=hgi.len
 have hleft:=ZnF hgo
 replace hbm:=hbm.mono hle9
 refine ZM [(0,_),(2,_),(3,_),(5,_),(6,_)] [_,_,_,_] t5 rfl (Zg (Za (xM (h:=xM (h:=Zaf (h:=Zb rfl (fun g1=>?_) (fun g1=>?_)))))))
 try simp only [sQ,ne_eq] at g1
 refine wSk (Zg (Zl (Z0 (keeps _ [3] _) mo kr ⟨Kn.le.refl _,Zad.refl _ _⟩ (fun _ _=>?_))))
 refine aT 0 rfl (ZB fun D B L hI=>ZT [_,_,_,_,_] rfl rfl ZW rfl (Z9 3 (hI.2.1.trans rfl) rfl rfl) r4) (h:=aM 1 rfl (h:=aT 2 rfl (ZB fun D B L hI=>ZT [_,_,_,_,_] rfl rfl ZW rfl (Z9 3 (hI.2.1.trans rfl) rfl rfl) r4) (h:=Zq 3 kr rfl kr (Zax [0] rfl rfl rfl rfl ZyF rfl (Zpv _ _ _ _ _ oz hm _ _ _ _ _ _ g.x (oy) _ hbm hgi) ?_))))
 rintro _ Be _ hlee ⟨ee,ke,rfl,hee1,hee2,hee3,hee4,hee5,hke,rfl⟩
 obtain ⟨hgu,hgf,hgi⟩:=up3 hlee hgu hgf hgi
 refine ⟨⟨hlee,t1⟩,(Zq 4 kr rfl kr (Zef rfl rfl ZyG rfl (ZsB _ _ _ _ _ _ g.x ee om2 om2 om2 om2 om2 om2 _ hgu hgf hgi) ?_))⟩
 intro vy By hley
 rintro ⟨p1y,d1y,p2y,d2y,p3y,d3y,rfl,huy,hfy,hiy,hdy⟩
 obtain ⟨hgu,hgf,hgi⟩:=up3 hley hgu hgf hgi
 have huyn:=huy.len
 have hfyn:=hfy.len
 have hiyn:=hiy.len
 refine ⟨⟨(hlee.trans hley),t1⟩,(aM 5 rfl (h:=aE 6 rfl (h:=aE 7 rfl (h:=Za8 8 kr rfl kr kr (ZF [_,_,_,_,_] 3 [_,_,_,_,_] rfl rfl Zaq rfl rfl rfl rfl rfl rfl rfl rfl ?_)))))⟩
 refine Zz kr kr ?_
 refine ZA (Zj (Zc (xM (h:=xD (h:=xA (h:=?_))))))
 exact ZD ⟨g.k+1,ke,(hDo g.x ee).1,_,_,_,_,_,_⟩ [0,1,2,3] so2 ⟨so,so,ZwC hgo,hdy,huy,hfy,hiy⟩ t5 rfl
 try simp only [sQ,ne_eq] at g1
 refine ZS (Zae (ZX (ZI (Zj (Za (xL [_,_,_,_,_] ZW 3 (h:=xS [_,_,_,_,_] 1 [_,_,_,_,_] Zaq (h:=tL4 (Zd ?_)))))))))
 exact eN [0] rfl ⟨⟨_,rfl,.inr ⟨[_,_,_,_,_],ZW,Z9 1 rfl rfl rfl,rfl⟩⟩,trivial⟩ ⟨_,_,_,_,_,_,_,_,rfl,hgu,hgf,hgi,oy,hgo,so2,rfl⟩

theorem Zps (b:Nat) (q:Option Addr) (m cp p:Nat) (hp:p≤650000000000) (hm:m≤2000) (B:Kn) (hbm:Zap B q m):Zv (pj J) 62 [ptr ⟨b,0,none⟩] B [rd b q m cp p] (fun v B' Ls=>∃(x:DHost) (p1 p2 p3:Option Addr) (d1 d2 d3 k:Nat),v = .agg #[str x.domain,.slice p1 x.users.length d1,.slice p2 x.folders.length d2,.int .i64 x.queue.next,.slice p3 x.queue.items.length d3]∧SlK B' p1 d1 3 Zs x.users∧SlK B' p2 d2 5 Ze x.folders∧SlK B' p3 d3 4 Zw x.queue.items∧x.domain.length≤2000000∧k≤p+8000∧Ls=[rd b q m cp k]):=by
 refine cB 57 Tryz.func62 (h:=?_)
 refine Za (xAl [_,_,_,_,_] Za2 (h:=fun b1=>tL2 (Za (xM (h:=xK [0] rfl Zy4 rfl (Zmk _ _ _ _ _ oz hm _ hbm) (h:=?_))))))
 rintro _ Bh _ hleh ⟨xh,p1h,p2h,p3h,d1h,d2h,d3h,kh,rfl,huh,hfh,hih,hdh,hoh,hkh,rfl⟩
 replace hbm:=hbm.mono hleh
 have huhn:=huh.len
 have hfhn:=hfh.len
 have hihn:=hih.len
 have hpos:=ZpB hoh
 refine xC ZoL rfl (Zbn _ _ _ _ _ _ xh _ huh hfh hih) (h:=?_)
 rintro _ B3 _ hle3 ⟨l3,a3,c3,q13,c13,q33,c33,rfl,rfl,hu3,hs3,hi3⟩
 replace hbm:=hbm.mono hle3
 have hu3n:=hu3.len
 have hi3n:=hi3.len
 refine xAl [_,_,_,_,_] Za2 (h:=fun b4=>xS [_,_,_,_,_] 3 [_,_,_,_,_] Zaq (h:=tL4 (Zg (Za (xM (h:=xX 0 rfl Za7 rfl (ZK _ _ _ _ _ _ oz oz oz hm _ hbm) (h:=?_)))))))
 rintro _ _ ⟨rk,rfl,rka,rkb,rfl⟩
 refine tL4 (Zl (Za (ZE (h:=xA (h:=Zb rfl (fun g0=>?_) (fun g0=>?_))))))
 try simp only [sQ,ne_eq] at g0
 refine Zc (xM (h:=xX 0 rfl ZyM rfl (Zny _ _ _ _ _ oz hm _ hbm) (h:=?_)))
 rintro _ _ ⟨x6,rfl,hx6,rfl⟩
 refine xW Zju (h:=xS [_] 3 [_,_,_,_,_] sz9 (h:=ZA (Zj (Za (xL [_,_,_,_,_] ZW 3 (h:=Z1 2 rfl hs3 Ze.mono om3 (fun B7 hle7 hr7=>?_)))))))
 obtain ⟨hu3,hi3⟩:=up2 hle7 hu3 hi3
 replace hbm:=hbm.mono hle7
 have hr7n:=hr7.len
 refine xS [_,_,_,_,_] 1 [_,_,_,_,_] Zaq (h:=tL4 (Zd ?_))
 exact eN [0] rfl ⟨⟨_,rfl,.inr ⟨[_,_,_,_,_],ZW,Z9 1 rfl rfl rfl,rfl⟩⟩,trivial⟩ ⟨⟨x6,xh.users,xh.folders,⟨xh.queue.next,xh.queue.items⟩⟩,_,_,_,_,_,_,_,(ol),hu3,hr7,hi3,by first | assumption | omega | (simp only [];omega),so2,rfl⟩
 try simp only [sQ,ne_eq] at g0
 refine Za (ZE (h:=xA (h:=Zb rfl (fun g1=>?_) (fun g1=>?_))))
 try simp only [sQ,ne_eq] at g1
 refine Zc (xM (h:=xK [0] rfl ZyL rfl (Zpt _ _ _ _ _ oz hm _ hbm) (h:=?_)))
 rintro _ B8 _ hle8 ⟨q8,cp8,us8,p8,rfl,hu8,hun8,hp8,rfl⟩
 replace hs3:=hs3.mono Ze.mono hle8
 replace hu3:=hu3.mono Zs.mono hle8
 replace hi3:=hi3.mono Zw.mono hle8
 replace hbm:=hbm.mono hle8
 have hu8n:=hu8.len
 refine Zn (ZeN rfl rfl ZbS rfl ?_)
 refine Zn (ZF [_] 3 [_,_,_,_,_] rfl rfl Zzi rfl rfl rfl rfl rfl rfl rfl rfl ?_)
 refine ZA (Zj ?_)
 refine Za ?_
 refine Zn (ZT [_,_,_,_,_] rfl rfl ZW rfl (Z9 3 rfl rfl rfl) ?_)
 refine Z1 2 rfl hs3 Ze.mono (by first | omega | decide | (simp;done) | (simp;omega)) (fun B9 hle9 hr9=>?_)
 obtain ⟨hu8,hi3⟩:=up2 hle9 hu8 hi3
 replace hbm:=hbm.mono hle9
 have hr9n:=hr9.len
 refine xS [_,_,_,_,_] 1 [_,_,_,_,_] Zaq (h:=tL4 (Zd ?_))
 exact eN [0] rfl ⟨⟨_,rfl,.inr ⟨[_,_,_,_,_],ZW,Z9 1 rfl rfl rfl,rfl⟩⟩,trivial⟩ ⟨⟨xh.domain,us8,xh.folders,⟨xh.queue.next,xh.queue.items⟩⟩,_,_,_,_,_,_,_,(ol),hu8,hr9,hi3,by first | assumption | omega | (simp only [];omega),so2,rfl⟩
 try simp only [sQ,ne_eq] at g1
 refine Za (ZE (h:=xA (h:=Zb rfl (fun g2=>?_) (fun g2=>?_))))
 try simp only [sQ,ne_eq] at g2
 refine Zc (xW Z4 (h:=x1 ZcJ 3 (h:=Z1 2 rfl hs3 Ze.mono om3 (fun B10 hle10 hr10=>?_))))
 obtain ⟨hu3,hi3⟩:=up2 hle10 hu3 hi3
 replace hbm:=hbm.mono hle10
 have hr10n:=hr10.len
 obtain ⟨hq11,q11,cp11,hv11,hr11⟩:=hr10.cutE 1 xh.folders.length om om
 have hr11n:=hr11.len
 refine Zn (ZfQ (a:=1) (b:=xh.folders.length) hv11 om hq11 rfl rfl Tryz.underlying24 Zbq rfl ⟨_,_,rfl,by first | omega | (simp;done) | (simp;omega)⟩ rfl ?_)
 refine xW Z4 (h:=xS [_] 3 [_,_,_,_,_] Zsl (h:=ZA (Zj (Za (xL [_,_,_,_,_] ZW 3 (h:=xS [_,_,_,_,_] 1 [_,_,_,_,_] Zaq (h:=tL4 (Zd ?_))))))))
 exact eN [0] rfl ⟨⟨_,rfl,.inr ⟨[_,_,_,_,_],ZW,Z9 1 rfl rfl rfl,rfl⟩⟩,trivial⟩ ⟨⟨xh.domain,xh.users,((xh.folders.take xh.folders.length).drop 1),⟨xh.queue.next,xh.queue.items⟩⟩,_,_,_,_,_,_,_,(ol),hu3,hr11,hi3,by first | assumption | omega | (simp only [];omega),so2,rfl⟩
 try simp only [sQ,ne_eq] at g2
 refine Za (ZE (h:=xA (h:=Zb rfl (fun g3=>?_) (fun g3=>?_))))
 try simp only [sQ,ne_eq] at g3
 refine Z0 (keeps _ [2,3] _) mo kr ⟨Kn.le.refl _,Zad.refl _ _⟩ (fun _ _=>?_)
 refine aW 0 rfl Z4 (h:=aT 1 rfl (ZB fun D B L hI=>Zf rfl rfl ZcJ rfl (atL 3 (hI.2.2.1.trans rfl) rfl rfl) r4) (h:=aM 2 rfl (h:=aW 3 rfl Z4 (h:=aT 4 rfl (ZB fun D B L hI=>Zf rfl rfl ZcJ rfl (atL 3 (hI.2.2.1.trans rfl) rfl rfl) r4) (h:=aV 5 rfl Tryz.underlying24 (h:=aM 7 rfl (h:=Zq 6 kr rfl kr (ZbD 0 rfl rfl rfl Za7 rfl (ZK _ _ _ _ _ _ oz oz oz hm _ hbm) ?_))))))))
 rintro _ _ ⟨rw,rfl,rwa,rwb,rfl⟩
 refine ⟨⟨Kn.le.refl _,t2⟩,(Zq 8 kr rfl kr (Zax [0] rfl rfl rfl rfl ZyK rfl (Zs5 _ _ _ _ _ oz hm _ hbm) ?_))⟩
 rintro _ Ba _ hlea ⟨qa,cpa,gsa,ka,rfl,hga,hka,rfl⟩
 replace hs3:=hs3.mono Ze.mono hlea
 replace hu3:=hu3.mono Zs.mono hlea
 replace hi3:=hi3.mono Zw.mono hlea
 replace hbm:=hbm.mono hlea
 have hgan:=hga.len
 refine ⟨⟨hlea,t2⟩,?_⟩
 obtain ⟨z,hz⟩:=ZeB (xs:=xh.folders) (i:=rw) om om
 obtain ⟨bb15,_,hp15,⟨qg15,cg15,qm15,cm15,rfl,hg15,hm15,hb15,hb15b⟩,hw15,hc15⟩:=hs3.row hz
 have hg15n:=hg15.len
 have hm15n:=hm15.len
 have hm15s:=Z7 hm15
 refine aT 9 rfl (ZB fun D B L hI=>Zf1 hp15 rfl rfl Tryz.underlying24 Zbq rfl rfl om om r4) (h:=?_)
 refine aW 10 rfl Zea (h:=ZU 11 kr rfl kr kr kr (ZeJ (k:=(rw).toNat) (off:=2) (⟨z.owner,z.name,gsa,z.next,z.mail⟩) [_] 2 hs3 hp15 hz rfl rfl Zwi rfl rfl rfl rfl rfl rfl (by rintro _ ⟨_,_,_,_,rfl,_,e2,e3,e4⟩;exact ⟨_,_,_,_,rfl,hga,e2,e3,e4⟩) (fun l16 hv16=>?_)))
 refine ZA (Zj (Za (xL [_,_,_,_,_] ZW 3 (h:=Z1 2 rfl hv16 Ze.mono om3 (fun B17 hle17 hr17=>?_)))))
 obtain ⟨hga,hu3,hi3⟩:=up3 hle17 hga hu3 hi3
 replace hbm:=hbm.mono hle17
 have hr17n:=hr17.len
 refine xS [_,_,_,_,_] 1 [_,_,_,_,_] Zaq (h:=tL4 (Zd ?_))
 exact Zas .ret (.inl rfl) [_] [0] rfl ⟨⟨_,rfl,.inr ⟨[_,_,_,_,_],ZW,Z9 1 rfl rfl rfl,rfl⟩⟩,trivial⟩ ⟨⟨xh.domain,xh.users,(xh.folders.set ((rw).toNat) (⟨z.owner,z.name,gsa,z.next,z.mail⟩)),⟨xh.queue.next,xh.queue.items⟩⟩,_,_,_,_,_,_,_,(by first | rfl | (simp only [List.length_set];rfl)),hu3,hr17,hi3,by first | assumption | omega | (simp only [];omega),by first | omega | (simp only [];omega),rfl⟩
 try simp only [sQ,ne_eq] at g3
 refine Za (ZE (h:=xA (h:=Zb rfl (fun g4=>?_) (fun g4=>?_))))
 try simp only [sQ,ne_eq] at g4
 refine Z0 (keeps _ [2,3] _) mo kr ⟨Kn.le.refl _,Zad.refl _ _⟩ (fun _ _=>?_)
 refine aW 0 rfl Z4 (h:=aT 1 rfl (ZB fun D B L hI=>Zf rfl rfl ZcJ rfl (atL 3 (hI.2.2.1.trans rfl) rfl rfl) r4) (h:=aM 2 rfl (h:=aW 3 rfl Z4 (h:=aT 4 rfl (ZB fun D B L hI=>Zf rfl rfl ZcJ rfl (atL 3 (hI.2.2.1.trans rfl) rfl rfl) r4) (h:=aV 5 rfl Tryz.underlying24 (h:=aM 7 rfl (h:=Zq 6 kr rfl kr (ZbD 0 rfl rfl rfl Za7 rfl (ZK _ _ _ _ _ _ oz oz oz hm _ hbm) ?_))))))))
 rintro _ _ ⟨rw,rfl,rwa,rwb,rfl⟩
 refine ⟨⟨Kn.le.refl _,t2⟩,(Zq 8 kr rfl kr (Zax [0] rfl rfl rfl rfl ZyJ rfl (Zs6 _ _ _ _ _ oz hm _ hbm) ?_))⟩
 rintro _ Ba _ hlea ⟨qa,cpa,xa,ka,rfl,hga,hka,rfl⟩
 replace hs3:=hs3.mono Ze.mono hlea
 replace hu3:=hu3.mono Zs.mono hlea
 replace hi3:=hi3.mono Zw.mono hlea
 replace hbm:=hbm.mono hlea
 have hgan:=hga.len
 refine ⟨⟨hlea,t2⟩,?_⟩
 obtain ⟨z,hz⟩:=ZeB (xs:=xh.folders) (i:=rw) om om
 obtain ⟨bb21,_,hp21,⟨qg21,cg21,qm21,cm21,rfl,hg21,hm21,hb21,hb21b⟩,hw21,hc21⟩:=hs3.row hz
 have hg21n:=hg21.len
 have hm21n:=hm21.len
 have hm21s:=Z7 hm21
 refine aT 9 rfl (ZB fun D B L hI=>Zf1 hp21 rfl rfl Tryz.underlying24 Zbq rfl rfl om om r4) (h:=?_)
 refine aW 10 rfl ZbC (h:=ZU 11 kr rfl kr kr kr (ZeJ (k:=(rw).toNat) (off:=3) (⟨z.owner,z.name,z.grants,xa.next,xa.mail⟩) [_,_] 2 hs3 hp21 hz rfl rfl ZcE rfl rfl rfl rfl rfl rfl (by rintro _ ⟨_,_,_,_,rfl,e1,_,e3,e4⟩;exact ⟨_,_,_,_,rfl,e1,hga,e3,e4⟩) (fun l22 hv22=>?_)))
 refine ZA (Zj (Za (xL [_,_,_,_,_] ZW 3 (h:=Z1 2 rfl hv22 Ze.mono om3 (fun B23 hle23 hr23=>?_)))))
 obtain ⟨hu3,hi3⟩:=up2 hle23 hu3 hi3
 replace hbm:=hbm.mono hle23
 have hr23n:=hr23.len
 refine xS [_,_,_,_,_] 1 [_,_,_,_,_] Zaq (h:=tL4 (Zd ?_))
 exact Zas .ret (.inl rfl) [_] [0] rfl ⟨⟨_,rfl,.inr ⟨[_,_,_,_,_],ZW,Z9 1 rfl rfl rfl,rfl⟩⟩,trivial⟩ ⟨⟨xh.domain,xh.users,(xh.folders.set ((rw).toNat) (⟨z.owner,z.name,z.grants,xa.next,xa.mail⟩)),⟨xh.queue.next,xh.queue.items⟩⟩,_,_,_,_,_,_,_,(by first | rfl | (simp only [List.length_set];rfl)),hu3,hr23,hi3,by first | assumption | omega | (simp only [];omega),by first | omega | (simp only [];omega),rfl⟩
 try simp only [sQ,ne_eq] at g4
 refine Za (ZE (h:=xA (h:=Zb rfl (fun g5=>?_) (fun g5=>?_))))
 try simp only [sQ,ne_eq] at g5
 refine Zc (xM (h:=xK [0] rfl ZyI rfl (Zpu _ _ _ _ _ oz hm _ hbm) (h:=?_)))
 rintro _ B24 _ hle24 ⟨aq24,cq24,qq24,p24,rfl,hq24,hp24,rfl⟩
 replace hs3:=hs3.mono Ze.mono hle24
 replace hu3:=hu3.mono Zs.mono hle24
 replace hi3:=hi3.mono Zw.mono hle24
 have hq24n:=hq24.len
 refine Zn (ZeN rfl rfl ZaU rfl ?_)
 refine Zn (ZF [_,_] 3 [_,_,_,_,_] rfl rfl Zdg rfl rfl rfl rfl rfl rfl rfl rfl ?_)
 refine ZA (Zj ?_)
 refine Za ?_
 refine Zn (ZT [_,_,_,_,_] rfl rfl ZW rfl (Z9 3 rfl rfl rfl) ?_)
 refine Z1 2 rfl hs3 Ze.mono (by first | omega | decide | (simp;done) | (simp;omega)) (fun B25 hle25 hr25=>?_)
 obtain ⟨hq24,hu3⟩:=up2 hle25 hq24 hu3
 have hr25n:=hr25.len
 refine xS [_,_,_,_,_] 1 [_,_,_,_,_] Zaq (h:=tL4 (Zd ?_))
 exact eN [0] rfl ⟨⟨_,rfl,.inr ⟨[_,_,_,_,_],ZW,Z9 1 rfl rfl rfl,rfl⟩⟩,trivial⟩ ⟨⟨xh.domain,xh.users,xh.folders,⟨qq24.next,qq24.items⟩⟩,_,_,_,_,_,_,_,(ol),hu3,hr25,hq24,by first | assumption | omega | (simp only [];omega),so2,rfl⟩
 try simp only [sQ,ne_eq] at g5
 refine ZL (ZA (Zj (Za (xL [_,_,_,_,_] ZW 3 (h:=Z1 2 rfl hs3 Ze.mono om3 (fun B26 hle26 hr26=>?_))))))
 obtain ⟨hu3,hi3⟩:=up2 hle26 hu3 hi3
 have hr26n:=hr26.len
 refine xS [_,_,_,_,_] 1 [_,_,_,_,_] Zaq (h:=tL4 (Zd ?_))
 exact eN [0] rfl ⟨⟨_,rfl,.inr ⟨[_,_,_,_,_],ZW,Z9 1 rfl rfl rfl,rfl⟩⟩,trivial⟩ ⟨⟨xh.domain,xh.users,xh.folders,⟨xh.queue.next,xh.queue.items⟩⟩,_,_,_,_,_,_,_,(ol),hu3,hr26,hi3,by first | assumption | omega | (simp only [];omega),so2,rfl⟩

theorem Zs4 (b:Nat) (q:Option Addr) (m cp p:Nat) (hp:p≤600000000000) (hm:m≤2000) (B:Kn) (hbm:Zap B q m):Zv (pj J) 22 [ptr ⟨b,0,none⟩] B [rd b q m cp p] (fun v B' Ls=>∃(x:DHost) (p1 p2 p3:Option Addr) (d1 d2 d3 k:Nat),v = .agg #[str x.domain,.slice p1 x.users.length d1,.slice p2 x.folders.length d2,.int .i64 x.queue.next,.slice p3 x.queue.items.length d3]∧SlK B' p1 d1 3 Zs x.users∧SlK B' p2 d2 5 Ze x.folders∧SlK B' p3 d3 4 Zw x.queue.items∧x.domain.length≤2000000∧k≤p+9000∧Ls=[rd b q m cp k]):=by
 refine cB 10 Tryz.func22 (h:=?_)
 refine Za (xAl [_,_,_,_,_] Za2 (h:=fun b1=>tL2 (Zg (Za (xM (h:=xX 0 rfl Za7 rfl (ZK _ _ _ _ _ _ oz oz oz hm _ hbm) (h:=?_)))))))
 rintro _ _ ⟨r2,rfl,r2a,r2b,rfl⟩
 refine ZE (h:=tL2 (Zb rfl (fun g0=>?_) (fun g0=>?_)))
 refine Za (xM (h:=xK [0] rfl ZzL rfl (Zps _ _ _ _ _ oz hm _ hbm) (h:=?_)))
 rintro _ Bh _ hleh ⟨xh,p1h,p2h,p3h,d1h,d2h,d3h,kh,rfl,huh,hfh,hih,hdh,hkh,rfl⟩
 replace hbm:=hbm.mono hleh
 have huhn:=huh.len
 have hfhn:=hfh.len
 have hihn:=hih.len
 refine xS [_,_,_,_,_] 1 [_,_,_,_,_] Zaq (h:=tL2 (Zd (Zp ?_)))
 exact eN [0] rfl ⟨⟨_,rfl,.inr ⟨[_,_,_,_,_],ZW,Z9 1 rfl rfl rfl,rfl⟩⟩,trivial⟩ ⟨_,_,_,_,_,_,_,_,rfl,huh,hfh,hih,oy,so2,rfl⟩
 refine wSk (Za (xM (h:=xK [0] rfl Zy4 rfl (Zmk _ _ _ _ _ oz hm _ hbm) (h:=?_))))
 rintro _ Bh _ hleh ⟨xh,p1h,p2h,p3h,d1h,d2h,d3h,kh,rfl,huh,hfh,hih,hdh,hoh,hkh,rfl⟩
 have huhn:=huh.len
 have hfhn:=hfh.len
 have hihn:=hih.len
 refine xS [_,_,_,_,_] 1 [_,_,_,_,_] Zaq (h:=tL2 (Zd ?_))
 exact eN [0] rfl ⟨⟨_,rfl,.inr ⟨[_,_,_,_,_],ZW,Z9 1 rfl rfl rfl,rfl⟩⟩,trivial⟩ ⟨_,_,_,_,_,_,_,_,rfl,huh,hfh,hih,oy,so2,rfl⟩

theorem ZwI (v:Value) (Q:Value→Kn→Cells→Prop) (B:Kn) (L:Cells):hb Tryz.prog (Extern.ReflectliteType.typeOf #[.iface 264 v]) Q B L=Q (.iface 171 (.agg #[.pointer (some ⟨5,264,none⟩)])) B L:=by kernel_rfl

theorem ZwJ (v:Value) (k:Nat) (Q:FuncId × Value→Kn→Cells→Prop) (B:Kn) (L:Cells):hb Tryz.prog (Go.method (k+1) 171 v "Comparable") Q B L=Q (214,v) B L:=by kernel_rfl

theorem ZwK (Q:Value→Kn→Cells→Prop) (B:Kn) (L:Cells):hb Tryz.prog ((Extern.ReflectliteType.method fun t=>do Extern.Rtype.noPackHeld "Comparable" t;pure (.bool (← typeInfo t).comparable)) #[(.agg #[.pointer (some ⟨5,264,none⟩)])]) Q B L=Q (.bool true) B L:=by kernel_rfl

theorem Zvi:Extern.find Tryz.f214=some (Extern.ReflectliteType.method fun t=>do Extern.Rtype.noPackHeld "Comparable" t;pure (.bool (← typeInfo t).comparable)):=by kernel_rfl
theorem Zvh:Extern.find Tryz.f71=some Extern.ReflectliteType.typeOf:=by kernel_rfl

theorem ZxT:Extern.findNext Tryz.f71=none:=by kernel_rfl
theorem ZxU:Extern.findNext Tryz.f214=none:=by kernel_rfl

theorem Zvf (c k:Nat) (hc:c<4) (hk:k<4) (a:Nat→Addr)  (B:Kn) (hE:ErrsB 264 [0,3,1,2] B a):ZaM (pj J) 72 [errv 264 a (c+1),errv 264 a (k+1),.bool true] B (.bool (decide (c+1=k+1))):=by
 refine cB 54 Tryz.func72 (h:=?_)
 refine Za (xA (h:=Zl (ZO (α:=Unit) [1,2] (fun u=>[(0,errv 264 a (c+1))]) [] (fun u=>[]) (fun u Bx=>Bx=B) (fun u=>0) () t1 rfl (rfl) (fun u B1 hle1 hI=>?_))))
 subst hI
 refine ZM [(0,_),(1,_),(2,_)] [] t3 rfl (Zl (Zg (Za (xM (h:=xM (h:=Zo (d:=15) rfl (fun g1=>?_) (fun g1=>by cases g1)))))))
 try simp only [sQ,ne_eq] at g1
 refine xM (h:=xM (h:=Zn (Zql (a:=a) (c:=(c+1)) (k:=k) hE oz oz rfl rfl Tryz.underlying69 Tryz.underlying264 Zzg Zwj rfl rfl ?_)))
 refine xT (h:=Zb rfl (fun g2=>?_) (fun g2=>?_))
 try simp only [sQ,ne_eq] at g2
 refine Za (xA (h:=Zd (Zp (ZH (Z3 (ZH ?_))))))
 exact eR t1 ⟨Zh (decide_eq_true g2).symm,rfl,rfl⟩
 try simp only [sQ,ne_eq] at g2
 refine wSk (Zg (Za (xM (h:=Zn (Ziz rfl rfl Tryz.underlying173 kr Zxn rfl ?_)))))
 refine xM (h:=xE (h:=xE (h:=xA (h:=xA (h:=Za (xM (h:=xM (h:=Zo (d:=26) rfl (fun g3=>by cases g3) (fun g3=>?_)))))))))
 try simp only [sQ,ne_eq] at g3
 refine xP (h:=xP (h:=xP (h:=xF (h:=Zb (t:=false) rfl (fun h=>Bool.noConfusion h) (fun _=>wSk (Za (xM (h:=Zl (Za (Zn (Ziz rfl rfl Tryz.underlying176 kr Zxm rfl ?_)))))))))))
 refine xE (h:=xE (h:=Zb rfl (fun g5=>by cases g5) (fun g5=>?_)))
 try simp only [sQ,ne_eq] at g5
 refine Za (Zn (Ziz rfl rfl Tryz.underlying178 kr Zxl rfl ?_))
 refine xE (h:=xE (h:=Zb rfl (fun g6=>by cases g6) (fun g6=>?_)))
 try simp only [sQ,ne_eq] at g6
 refine Za (xA (h:=Za (xA (h:=Zd (ZH (ZH (Z3 (ZH ?_))))))))
 exact eR t1 ⟨Zh (decide_eq_false g2).symm,rfl,rfl⟩

theorem Zve (c k:Nat) (hc:c<4) (hk:k<4) (a:Nat→Addr)  (B:Kn) (hE:ErrsB 264 [0,3,1,2] B a):ZaM (pj J) 29 [errv 264 a (c+1),errv 264 a (k+1)] B (.bool (decide (c+1=k+1))):=by
 refine cB 22 Tryz.func29 (h:=?_)
 refine Za (xA (h:=Zg (Za (xM (h:=Zn (Ziy (tE:=264) (a:=a) (c:=(c+1)) rfl rfl Tryz.underlying69 rfl (xM (h:=Zo (d:=8) rfl (fun g1=>by simp at g1) (fun g1=>?_)))))))))
 refine xM (h:=Zn (Ziy (tE:=264) (a:=a) (c:=(k+1)) rfl rfl Tryz.underlying69 rfl (xF (h:=Zb rfl (fun g2=>by simp at g2) (fun g2=>?_)))))
 refine wSk (Za (xM (h:=Zn (Zwa (fn:=Tryz.f71) rfl rfl Tryz.func71 rfl rfl ZxT Zvh rfl (ZwI _) (Zn (Zv7 (f:=214) (fn:=Tryz.f214) rfl rfl Tryz.func214 rfl rfl ZxU Zvi rfl (ZwJ _) ZwK (xA (h:=Za (xM (h:=xM (h:=xM (h:=xR ZzG rfl (Zvf c k oz oz a _ hE) (h:=?_)))))))))))))
 refine xA (h:=Zd ?_)
 exact eR t1 ⟨rfl,rfl,rfl⟩

theorem Zvg (k:Nat) (hk:k<4) (a:Nat→Addr)  (B:Kn) (hE:ErrsB 264 [0,3,1,2] B a):ZaM (pj J) 29 [.nilIface,errv 264 a (k+1)] B (.bool (decide (0=k+1))):=by
 refine cB 22 Tryz.func29 (h:=?_)
 refine Za (xA (h:=Zg (Za (xM (h:=Zn (Ziy (tE:=264) (a:=a) (c:=0) rfl rfl Tryz.underlying69 rfl (xM (h:=Zo (d:=8) rfl (fun g1=>?_) (fun g1=>by simp at g1)))))))))
 refine xP (h:=xP (h:=xT (h:=Zb (t:=true) rfl (fun _=>Za (xM (h:=xM (h:=Zn (Zql (a:=a) (c:=0) (k:=k) hE oz oz rfl rfl Tryz.underlying69 Tryz.underlying264 Zzg Zwj rfl rfl ?_))))) (fun h=>Bool.noConfusion h))))
 refine xA (h:=Zd (Zp ?_))
 exact eR t1 ⟨rfl,rfl,rfl⟩

theorem ZjD (c k:Nat) (hc:c<5) (hk:k<4) (a:Nat→Addr)  (B:Kn) (hE:ErrsB 264 [0,3,1,2] B a):ZaM (pj J) 29 [errv 264 a c,errv 264 a (k+1)] B (.bool (decide (c=k+1))):=by
 cases c with
 | zero=>exact Zvg k hk a B hE
 | succ c=>exact Zve c k oz hk a B hE

theorem ZpF (c:Nat) (hc:c<5) (a:Nat→Addr)  (B:Kn) (hE:ErrsB 264 [0,3,1,2] B a):ZaM (pj J) 67 [errv 264 a (c)] B (.int .i64 c):=by
 refine cB 22 Tryz.func67 (h:=?_)
 refine Za (xA (h:=Zg (Zl (Za (xM (h:=Zn (Ziy (tE:=264) (a:=a) (c:=c) rfl rfl Tryz.underlying69 rfl (xA (h:=Zb rfl (fun g0=>?_) (fun g0=>?_))))))))))
 try simp only [sQ,ne_eq] at g0
 refine Za (xA (h:=Zd (ZH (Zp ?_))))
 exact eR t1 ⟨Za1 oz,rfl,rfl⟩
 try simp only [sQ,ne_eq] at g0
 refine Za (xM (h:=Zn (Zf rfl rfl Zp5 rfl ((hE.row 0 (by decide)) _ 0 _ rfl) ?_)))
 refine xR Zvo rfl (ZjD c 0 om2 om2 a _ hE) (h:=?_)
 refine xA (h:=Zb rfl (fun g1=>?_) (fun g1=>?_))
 try simp only [sQ,ne_eq] at g1
 refine Za (xA (h:=Zd (ZH (Zp ?_))))
 exact eR t1 ⟨Za1 oz,rfl,rfl⟩
 try simp only [sQ,ne_eq] at g1
 refine Za (xM (h:=Zn (Zf rfl rfl Zp5 rfl ((hE.row 1 (by decide)) _ 0 _ rfl) ?_)))
 refine xR Zvo rfl (ZjD c 1 om2 om2 a _ hE) (h:=?_)
 refine xA (h:=Zb rfl (fun g2=>?_) (fun g2=>?_))
 try simp only [sQ,ne_eq] at g2
 refine Za (xA (h:=Zd (ZH (Zp ?_))))
 exact eR t1 ⟨Za1 oz,rfl,rfl⟩
 try simp only [sQ,ne_eq] at g2
 refine Za (xM (h:=Zn (Zf rfl rfl Zp5 rfl ((hE.row 2 (by decide)) _ 0 _ rfl) ?_)))
 refine xR Zvo rfl (ZjD c 2 om2 om2 a _ hE) (h:=?_)
 refine xA (h:=Zb rfl (fun g3=>?_) (fun g3=>?_))
 try simp only [sQ,ne_eq] at g3
 refine Za (xA (h:=Zd (ZH (Zp ?_))))
 exact eR t1 ⟨Za1 oz,rfl,rfl⟩
 try simp only [sQ,ne_eq] at g3
 refine Za (xM (h:=Zn (Zf rfl rfl Zp5 rfl ((hE.row 3 (by decide)) _ 0 _ rfl) ?_)))
 refine xR Zvo rfl (ZjD c 3 om2 om2 a _ hE) (h:=?_)
 refine xA (h:=Zb rfl (fun g4=>?_) (fun g4=>?_))
 try simp only [sQ,ne_eq] at g4
 refine Za (xA (h:=Zd (ZH (Zp ?_))))
 exact eR t1 ⟨Za1 oz,rfl,rfl⟩
 try simp only [sQ,ne_eq] at g4
 refine ZL (ZA (Zj (Za (xA (h:=Zd ?_)))))
 exact eR t1 ⟨Za1 oz,rfl,rfl⟩

theorem Zjs (q:Option Addr) (cp:Nat) (xs:List DFolder) (B:Kn) (hx:SlK B q cp 5 Ze xs):Zv (pj J) 111 [.slice q xs.length cp] B [] (fun v B' Ls=>B'=B∧∃l a c,Ls=[l]∧v = .slice a xs.length c∧ZcD l a c 42 5 (Zau 191 97) xs):=by
 refine cB 22 Tryz.func111 (h:=?_)
 have hxn:=hx.len
 refine Za (xA (h:=Za (xM (h:=xV Tryz.underlying24 (h:=Zn (Zf0 (m:=0) (c:=xs.length) (by_:=88) [.string ⟨#[]⟩,.string ⟨#[]⟩,.slice none 0 0,.int .i64 0,.slice none 0 0] rfl rfl ZjF ZdF rfl rfl ⟨_,_,rfl,by first | omega | (simp;done) | (simp;omega)⟩ ⟨_,_,rfl,by first | omega | (simp;done) | (simp;omega)⟩ om om (fun b1=>?_)))))))
 have hd1:=ZcD.zeros (b:=b1) (T:=42) (R:=(Zau 191 97)) (d:=(⟨[],[],[],0,[]⟩:DFolder)) (m:=0) (c:=xs.length) (zs:=[.string ⟨#[]⟩,.string ⟨#[]⟩,.slice none 0 0,.int .i64 0,.slice none 0 0]) rfl (⟨_,_,_,_,[],[],rfl,rfl,ZY.nil,ZY.nil,by simp,by simp,by simp,by simp⟩) om
 refine xA (h:=tL1 (Zg (Za (xM (h:=xV Tryz.underlying24 (h:=xM (h:=Zl (ZO (α:=Gh DFolder) [0,2,9,10] (fun g=>[(3,.slice g.a g.xs.length g.c),(11,.int .i64 g.k)]) [0] (fun g=>[g.l]) (fun g Bx=>Bx=B∧g.k≤xs.length∧g.xs=xs.take g.k∧g.xs.length≤g.k∧ZcD g.l g.a g.c 42 5 (Zau 191 97) g.xs) (fun g=>xs.length - g.k) ⟨0,0,(Zah b1 (zrow [.string ⟨#[]⟩,.string ⟨#[]⟩,.slice none 0 0,.int .i64 0,.slice none 0 0] xs.length) 42),(some ⟨b1,0,none⟩),xs.length,[]⟩ t2 rfl (⟨rfl,Nat.zero_le _,by simp,Nat.le_refl _,hd1⟩) (fun g B2 hle2 hI=>?_)))))))))
 obtain ⟨rfl,hk,hxs,hxl,hv⟩:=hI
 refine ZM [(0,_),(2,_),(3,_),(9,_),(10,_),(11,_)] [_] t6 rfl (Za (Zaf (h:=Zg (Zb rfl (fun g1=>?_) (fun g1=>?_)))))
 try simp only [sQ,ne_eq] at g1
 refine wSk (Zg (Zl (Za ?_)))
 obtain ⟨w,hw⟩:=Zag (xs:=xs) (i:=g.k) om
 obtain ⟨bb4,oo4,rfl⟩:=hx.base hw
 obtain ⟨_,⟨qg5,cg5,qm5,cm5,rfl,hg5,hm5,hb5,hb5b⟩,hc5⟩:=hx.elem hw
 have hg5n:=hg5.len
 have hm5n:=hm5.len
 have hm5s:=Z7 hm5
 refine xIx Tryz.underlying24 Zbq (h:=yL [_,_,_,_,_] ZhQ hc5 0 (h:=xAl [_,_,_,_,_] ZdF (h:=fun b6=>xS [_,_,_,_,_] 1 [_,_,_,_,_] Zbq (h:=tL2 (Zc (xM (h:=xL [_,_,_,_,_] ZhQ 1 (h:=xC Zy9 rfl (Zg0 _ _ _ _ w _ hg5 hm5) (h:=?_)))))))))
 rintro _ B7 _ hle7 ⟨rfl,l7,a7,c7,l7b,a7b,c7b,rfl,rfl,hs7,hs7b⟩
 refine xBs [(0,_)] [_,_,_,_,_] Tryz.underlying24 Zbq ZdF (h:=fun b8=>Zn (Zuq (R:=(Zau 191 97)) (⟨w.owner,w.name,w.grants,w.next,w.mail⟩) 0 [2,3] rfl rfl hv rfl rfl rfl ZjF ZjV rfl rfl (ZaQ.box 4 rfl) rfl rfl (l7 ++ l7b) (by simp) (⟨_,_,_,_,_,_,rfl,rfl,(hs7.anyK ZZ.any),(hs7b.anyK ZN.any),by first | assumption | omega | (simp;done) | (simp;omega),by first | assumption | omega | (simp;done) | (simp;omega),by first | assumption | omega | (simp;done) | (simp;omega),by first | assumption | omega | (simp;done) | (simp;omega)⟩) om (fun l9 p9 c9 hd9=>?_)))
 refine xA (h:=ZA (Zj (Zc (xD (h:=xM (h:=?_))))))
 exact ZD ⟨g.k+1,0,l9,p9,c9,(g.xs ++ [⟨w.owner,w.name,w.grants,w.next,w.mail⟩])⟩ [0] (by first | omega | (simp only [];omega)) ⟨rfl,by simp only [];omega,by simp only [];rw [Zay hw,hxs],by simp;omega,hd9⟩ ⟨rfl,rfl,rfl,rfl,rfl,rfl,trivial⟩ rfl
 try simp only [sQ,ne_eq] at g1
 have hxe:g.xs=xs:=by rw [hxs];exact List.take_of_length_le oz
 refine ZS (Zae (ZX (ZI (Zj (Za (xM (h:=xA (h:=Zd ?_))))))))
 exact Zas .ret (.inl rfl) [_] [0] rfl ⟨rfl,trivial⟩ ⟨rfl,_,_,_,rfl,by rw [← hxe];rfl,hxe ▸ hv⟩

theorem Zmv (q1 q2 q3:Option Addr) (c1 c2 c3:Nat) (x:DHost) (B:Kn) (hu:SlK B q1 c1 3 Zs x.users) (hf:SlK B q2 c2 5 Ze x.folders) (hi:SlK B q3 c3 4 Zw x.queue.items):Zv (pj J) 66 [.agg #[str x.domain,.slice q1 x.users.length c1,.slice q2 x.folders.length c2,.int .i64 x.queue.next,.slice q3 x.queue.items.length c3]] B [] (fun v B' Ls=>∃q1 c1 q2 c2 q3 c3 l1 l2 l3,Ls=[l1,l2,l3]∧v = .agg #[str x.domain,.slice q1 x.users.length c1,.slice q2 x.folders.length c2,.int .i64 x.queue.next,.slice q3 x.queue.items.length c3]∧ZY Kn.none l1 q1 c1 53 3 Zs x.users∧ZcD l2 q2 c2 42 5 (Zau 191 97) x.folders∧ZcD l3 q3 c3 64 4 (Zb3 9) x.queue.items):=by
 refine cB 16 Tryz.func66 (h:=?_)
 have hun:=hu.len
 have hfn:=hf.len
 have hin:=hi.len
 refine Za (xBx [_,_,_,_,_] (h:=fun b1=>xAl [_,_,_,_,_] Za2 (h:=fun b2=>tL2 (Zg (Z0 (keeps _ [0] _) mo kr ⟨Kn.le.refl _,Zad.refl _ _⟩ (fun _ _=>?_))))))
 refine aW 0 rfl Zju (h:=aT 1 rfl (ZB fun D B L hI=>Zf rfl rfl lk9 rfl (atL 0 (hI.2.1.trans rfl) rfl rfl) r4) (h:=aW 3 rfl ZbS (h:=aT 4 rfl (ZB fun D B L hI=>Zf rfl rfl Zi1 rfl (atL 0 (hI.2.1.trans rfl) rfl rfl) r4) (h:=aW 6 rfl Z4 (h:=aT 7 rfl (ZB fun D B L hI=>Zf rfl rfl ZcJ rfl (atL 0 (hI.2.1.trans rfl) rfl rfl) r4) (h:=aW 9 rfl ZaU (h:=aT 10 rfl (ZB fun D B L hI=>ZT [_,_] rfl rfl Zb4 rfl (Z9 0 (hI.2.1.trans rfl) rfl rfl) r4) (h:=Zq 2 kr rfl kr (Zu (parts:=[]) [] rfl rfl Tryz.underlying23 Ze3 Zgy rfl rfl rfl rfl rfl (fun b3=>?_))))))))))
 refine ⟨⟨Kn.le.refl _,t1⟩,(Zq 5 kr rfl kr (ZaY (R:=Zs) 2 rfl (ZY.lit0 (R:=Zs)) rfl rfl rfl ZoJ Zod rfl rfl rfl hu.rows Zs.one rfl om (fun l4 p4 c4 hv4=>?_)))⟩
 refine ⟨⟨Kn.le.refl _,t1⟩,(Zq 8 kr rfl kr (Zbs rfl rfl ZyE rfl (Zjs _ _ x.folders _ hf) ?_))⟩
 rintro _ B5 _ hle5 ⟨rfl,l5,a5,c5,rfl,rfl,hs5⟩
 refine ⟨⟨Kn.le.refl _,t1⟩,(Zq 11 kr rfl kr (Zbs rfl rfl Zx1 rfl (Zfh _ _ x.queue _ hi) ?_))⟩
 rintro _ B6 _ hle6 ⟨l6,q6,c6,rfl,rfl,hd6⟩
 replace hv4:=hv4.mono Zs.mono hle6
 refine ⟨⟨hle6,t1⟩,(aT 12 rfl (ZB fun D B L hI=>ZaG (parts:=[(0,_),(1,_),(2,_),(3,_)]) [_,_,_,_,_] [_,_,_,_,_] rfl rfl Zd6 Za2 rfl rfl rfl r4) (h:=ZU 13 kr rfl kr kr kr (ZF [_,_,_,_,_] 1 [_,_,_,_,_] rfl rfl Zaq rfl rfl rfl rfl rfl rfl rfl rfl ?_)))⟩
 refine Zj (tL5 (Zd ?_))
 exact eN [2,3,4] rfl ⟨⟨_,rfl,.inr ⟨[_,_,_,_,_],ZW,Z9 1 rfl rfl rfl,rfl⟩⟩,trivial⟩ ⟨_,_,_,_,_,_,_,_,_,rfl,rfl,hv4.anyK Zs.any,hs5,hd6⟩

theorem Zrl (q1 q2 q3:Option Addr) (c1 c2 c3:Nat) (x:DHost) (ar:Bool) (f:FuncId) (cap:Array Value) (R:DHost) (k:Nat) (hk:k<5) (he:enters Tryz.prog f=true) (hJ:Joins Tryz.prog J) (hd:x.domain.length≤2000000) (a:Nat→Addr) (B:Kn) (hE:ErrsB 264 [0,3,1,2] B a) (hu:SlK B q1 c1 3 Zs x.users) (hf:SlK B q2 c2 5 Ze x.folders) (hi:SlK B q3 c3 4 Zw x.queue.items) (hw:ar=true→Zx x=true→∀(B2:Kn) (b:Nat) (q1 q2 q3:Option Addr) (c1 c2 c3:Nat) (l1 l2 l3:Cells),B.le B2→ZY Kn.none l1 q1 c1 53 3 Zs x.users→ZcD l2 q2 c2 42 5 (Zau 191 97) x.folders→ZcD l3 q3 c3 64 4 (Zb3 9) x.queue.items→Zv (pj J) f (ptr ⟨b,0,none⟩ :: cap.toList) B2 [Zah b [str x.domain,.slice q1 x.users.length c1,.slice q2 x.folders.length c2,.int .i64 x.queue.next,.slice q3 x.queue.items.length c3] 29,l1,l2,l3] (fun v B' Ls=>∃q1' c1' q2' c2' q3' c3' l1' l2' l3',Ls=[Zah b [str R.domain,.slice q1' R.users.length c1',.slice q2' R.folders.length c2',.int .i64 R.queue.next,.slice q3' R.queue.items.length c3'] 29,l1',l2',l3']∧v=errv 264 a (k)∧ZY Kn.none l1' q1' c1' 53 3 Zs R.users∧ZcD l2' q2' c2' 42 5 (Zau 191 97) R.folders∧ZcD l3' q3' c3' 64 4 (Zb3 9) R.queue.items)):Zv (pj J) 25 [.agg #[str x.domain,.slice q1 x.users.length c1,.slice q2 x.folders.length c2,.int .i64 x.queue.next,.slice q3 x.queue.items.length c3],.bool ar,.func (.func f) #[] cap] B [] (fun v B' Ls=>∃(Y:DHost) (d:Int),∃q1 c1 q2 c2 q3 c3 l1 l2 l3,(Y,d)=(if ar=true∧Zx x=true then (R,(k:Int)) else (ZaT,5))∧Ls=[l1,l2,l3]∧v = .tuple #[.agg #[str Y.domain,.slice q1 Y.users.length c1,.slice q2 Y.folders.length c2,.int .i64 Y.queue.next,.slice q3 Y.queue.items.length c3],.int .i64 d]∧ZY Kn.none l1 q1 c1 53 3 Zs Y.users∧ZcD l2 q2 c2 42 5 (Zau 191 97) Y.folders∧ZcD l3 q3 c3 64 4 (Zb3 9) Y.queue.items):=by
 refine cB 25 Tryz.func25 (h:=?_)
 have hun:=hu.len
 have hfn:=hf.len
 have hin:=hi.len
 refine Za (xBx [_,_,_,_,_] (h:=fun b1=>xAl [_,_,_,_,_] Za2 (h:=fun b2=>xA (h:=tL2 (Zg (Za (xM (h:=xN (h:=xM (h:=Zo (d:=12) rfl (fun g1=>?_) (fun g1=>?_)))))))))))
 try simp only [sQ,ne_eq] at g1
 refine xP (h:=xP (h:=xP (h:=xT (h:=Zwb [[],[],[]] rfl (Zb (t:=true) rfl (fun _=>Za (xB [] [_,_,_,_,_] [_,_,_,_,_] Zd6 Za2 (h:=xS [_,_,_,_,_] 1 [_,_,_,_,_] Zaq (h:=xA (h:=tL5 (Zd (Zp ?_))))))) (fun h=>Bool.noConfusion h))))))
 exact Zas .ret (.inl rfl) [_,_] [2,3,4] rfl ⟨⟨_,rfl,.inr ⟨[_,_,_,_,_],ZW,Z9 1 rfl rfl rfl,rfl⟩⟩,rfl,trivial⟩ ⟨ZaT,5,none,0,none,0,none,0,[],[],[],by rw [if_neg (by simp [g1])],rfl,rfl,ZY.nil,ZcD.nil,ZcD.nil⟩
 try simp only [sQ,ne_eq] at g1
 refine xL [_,_,_,_,_] ZW 0 (h:=xQ Zyp rfl (Zgi hJ _ _ _ _ _ _ x om2 _ hu hf hi) (h:=?_))
 intro vv Bv hlev
 rintro rfl
 obtain ⟨hu,hf,hi⟩:=up3 hlev hu hf hi
 replace hE:=hE.mono hlev
 refine xN (h:=xF (h:=Zb rfl (fun g2=>?_) (fun g2=>?_)))
 try simp only [sQ,ne_eq] at g2
 refine Zwb [[],[],[]] rfl (Za (xB [] [_,_,_,_,_] [_,_,_,_,_] Zd6 Za2 (h:=xS [_,_,_,_,_] 1 [_,_,_,_,_] Zaq (h:=xA (h:=tL5 (Zd (Zp ?_)))))))
 exact Zas .ret (.inl rfl) [_,_] [2,3,4] rfl ⟨⟨_,rfl,.inr ⟨[_,_,_,_,_],ZW,Z9 1 rfl rfl rfl,rfl⟩⟩,rfl,trivial⟩ ⟨ZaT,5,none,0,none,0,none,0,[],[],[],by rw [if_neg (by simp [g2])],rfl,rfl,ZY.nil,ZcD.nil,ZcD.nil⟩
 try simp only [sQ,ne_eq] at g2
 refine wSk (Za (xL [_,_,_,_,_] ZW 0 (h:=xC ZzK rfl (Zmv _ _ _ _ _ _ x _ hu hf hi) (h:=?_))))
 rintro _ Bc _ hlec ⟨q1c,c1c,q2c,c2c,q3c,c3c,l1c,l2c,l3c,rfl,rfl,huc,hfc,hic⟩
 replace hE:=hE.mono hlec
 refine Zn (Zai (l:=[_,_,_,_,_]) rfl rfl Za2 rfl (fun b5=>?_))
 refine Zn (ZF [_,_,_,_,_] 5 [_,_,_,_,_] rfl rfl Zaq rfl rfl rfl rfl rfl rfl rfl rfl ?_)
 refine Zhb [_,_,_,_,_,_] rfl ?_
 refine Za ?_
 refine Zn (Zqh rfl rfl rfl ?_)
 refine Zn (Zup [5,2,3,4] rfl rfl rfl rfl he rfl rfl (hw (by simpa using g1) (by simpa using g2) _ _ _ _ _ _ _ _ _ _ _ (hlev.trans hlec) huc hfc hic) ?_)
 rintro _ B6 _ hle6 ⟨q16,c16,q26,c26,q36,c36,l16,l26,l36,rfl,rfl,hu6,hf6,hi6⟩
 replace hE:=hE.mono hle6
 refine xA (h:=tL6 (Zg (Z0 (keeps _ [5] _) mo kr ⟨Kn.le.refl _,Zad.refl _ _⟩ (fun _ _=>?_))))
 refine aT 0 rfl (ZB fun D B L hI=>ZT [_,_,_,_,_] rfl rfl ZW rfl (Z9 5 (hI.2.1.trans rfl) rfl rfl) r4) (h:=aM 1 rfl (h:=aT 2 rfl (ZB fun D B L hI=>Zbc rfl rfl ZzJ rfl (ZpF k om2 a _ (hE.mono hI.1)) r4) (h:=?_)))
 refine Za8 3 kr rfl kr kr (ZF [_,_,_,_,_] 1 [_,_,_,_,_] rfl rfl Zaq rfl rfl rfl rfl rfl rfl rfl rfl ?_)
 refine aA 4 rfl (h:=Zz kr kr ?_)
 refine Zj (tL6 (Zd ?_))
 exact Zas .ret (.inl rfl) [_,_] [2,3,4] rfl ⟨⟨_,rfl,.inr ⟨[_,_,_,_,_],ZW,Z9 1 rfl rfl rfl,rfl⟩⟩,rfl,trivial⟩ ⟨R,k,_,_,_,_,_,_,_,_,_,by rw [if_pos ⟨by simpa using g1,by simpa using g2⟩],rfl,rfl,hu6.anyK Zs.any,hf6,hi6⟩

theorem Zpm (b:Nat) (m:DMail) (hm:m.text.length≤2000000) (B:Kn):Zv (pj J) 47 [ptr ⟨b,0,none⟩,.agg #[.int .i64 m.uid,.int .i64 m.flags,str m.text]] B [Zah b [.pointer none,.pointer none,.int .i64 0] 136] (fun v B' Ls=>B'=B∧∃s,Ls=[s]∧MLst 136 138 b ([] ++ [m]) s):=by
 refine cB 35 Tryz.func47 (h:=?_)
 refine Za (xBx [_,_,_] (h:=fun b1=>tL2 (Za (xL [_,_,_] Zpn 1 (h:=xB [(0,_)] [_,_,_,_] [_,_,_,_] Zwu ZvV (h:=xBx [_,_,_,_] (h:=fun b2=>xA (h:=tL3 (Zg (Za (xM (h:=xNc (h:=xW Zjx (h:=x1 Zrb 0 (h:=Zn (ZlI rfl rfl rfl rfl rfl (ZeW Tryz.underlying134) (Zb rfl (fun g1=>?_) (fun g1=>by cases g1))))))))))))))))))
 refine Zc (xM (h:=xM (h:=xNc (h:=xW ZrF (h:=xS [_] 0 [_,_,_] Zsz (h:=Zj (Za (xM (h:=xM (h:=xNc (h:=xW Zjx (h:=xS [_] 0 [_,_,_] Zsz (h:=tL3 (Zc (xM (h:=xNc (h:=xW Zjw (h:=x1 lk3 0 (h:=xD (h:=xNc (h:=xW Zjw (h:=xS [_] 0 [_,_,_] sz3 (h:=?_)))))))))))))))))))))))
 exact ZyX .normal (.inr rfl) [] [0,2] rfl trivial ⟨rfl,_,rfl,MLst.one (bn:=b2) hm (List.Perm.refl _)⟩

theorem Zpl (b bl:Nat) (v0:Value) (x:DMail) (rest:Cells) (xs:List DMail) (m:DMail) (hm:m.text.length≤2000000) (hn:xs.length≤2000000) (B:Kn) (hh:Zlz 138 v0 bl x rest xs):Zv (pj J) 47 [ptr ⟨b,0,none⟩,.agg #[.int .i64 m.uid,.int .i64 m.flags,str m.text]] B [Zah b [v0,ptr ⟨bl,0,none⟩,.int .i64 xs.length] 136,Zah bl (Zh3 x (.pointer none)) 138,rest] (fun v B' Ls=>B'=B∧∃s,Ls=[s]∧MLst 136 138 b (xs ++ [m]) s):=by
 refine cB 35 Tryz.func47 (h:=?_)
 refine Za (xBx [_,_,_] (h:=fun b1=>tL4 (Za (xL [_,_,_] Zpn 3 (h:=xB [(0,_)] [_,_,_,_] [_,_,_,_] Zwu ZvV (h:=xBx [_,_,_,_] (h:=fun b2=>xA (h:=tL5 (Zg (Za (xM (h:=xNc (h:=xW Zjx (h:=x1 Zrb 0 (h:=Zn (ZlI rfl rfl rfl rfl rfl (ZeW Tryz.underlying134) (Zb rfl (fun g1=>by cases g1) (fun g1=>?_))))))))))))))))))
 refine Zc (xM (h:=xNc (h:=xW Zjx (h:=x1 Zrb 0 (h:=xM (h:=xNc (h:=xW ZrE (h:=xS [_] 1 [_,_,_,_] Zsz (h:=Zj (Za (xM (h:=xM (h:=xNc (h:=xW Zjx (h:=xS [_] 0 [_,_,_] Zsz (h:=tL5 (Zc (xM (h:=xNc (h:=xW Zjw (h:=x1 lk3 0 (h:=xD (h:=xNc (h:=xW Zjw (h:=xS [_] 0 [_,_,_] sz3 (h:=?_))))))))))))))))))))))))))
 exact ZyX .normal (.inr rfl) [] [0,4,2,1] rfl trivial ⟨rfl,_,rfl,MLst.add (bn:=b2) hh hm rfl (List.Perm.refl _)⟩

theorem Zmh (b:Nat) (xs:List DMail) (m:DMail) (s:Cells) (hm:m.text.length≤2000000) (hn:xs.length≤2000000) (B:Kn) (hs:MLst 136 138 b xs s):Zv (pj J) 47 [ptr ⟨b,0,none⟩,.agg #[.int .i64 m.uid,.int .i64 m.flags,str m.text]] B [s] (fun v B' Ls=>B'=B∧∃s',Ls=[s']∧MLst 136 138 b (xs ++ [m]) s'):=by
 rcases hs with ⟨rfl,hp⟩ | ⟨v0,bl,x,rest,hp,hh⟩
 · exact Zv.perm (by simpa using hp) (Zpm b m hm B)
 · exact Zv.perm (by simpa using hp) (Zpl b bl v0 x rest xs m hm hn B hh)

theorem Zpk (q:Option Addr) (cp:Nat) (xs:List DMail) (B:Kn) (hx:SlK B q cp 3 ZN xs):Zv (pj J) 46 [.slice q xs.length cp] B [] (fun v B' Ls=>∃b s,Ls=[s]∧v=ptr ⟨b,0,none⟩∧MLst 136 138 b xs s):=by
 refine cB 19 Tryz.func46 (h:=?_)
 have hxn:=hx.len
 refine Za (xA (h:=Za (xB [] [_,_,_] [_,_,_] ZxN Zxq (h:=xBx [_,_,_] (h:=fun b1=>xA (h:=tL1 (Zg (Za (xM (h:=xV Tryz.underlying38 (h:=xM (h:=Zl (ZO (α:=Gh DMail) [0,2,3,8,9] (fun g=>[(10,.int .i64 g.k)]) [0] (fun g=>[g.l]) (fun g Bx=>Bx=B∧g.k≤xs.length∧g.xs=xs.take g.k∧g.xs.length≤g.k∧MLst 136 138 b1 g.xs g.l) (fun g=>xs.length - g.k) ⟨0,0,_,none,0,[]⟩ t1 rfl (⟨rfl,Nat.zero_le _,by simp,Nat.le_refl _,MLst.nil⟩) (fun g B2 hle2 hI=>?_))))))))))))))
 obtain ⟨rfl,hk,hxs,hxl,hv⟩:=hI
 refine ZM [(0,_),(2,_),(3,_),(8,_),(9,_),(10,_)] [_] t6 rfl (Za (Zaf (h:=Zg (Zb rfl (fun g1=>?_) (fun g1=>?_)))))
 try simp only [sQ,ne_eq] at g1
 refine wSk (Zg (Zl (Za ?_)))
 obtain ⟨w,hw⟩:=Zag (xs:=xs) (i:=g.k) om
 obtain ⟨bb4,oo4,rfl⟩:=hx.base hw
 obtain ⟨_,⟨rfl,hb5⟩,hc5⟩:=hx.elem hw
 refine xIx Tryz.underlying38 Zgx (h:=yL [_,_,_] Zpn hc5 0 (h:=xAl [_,_,_] ZlB (h:=fun b6=>xS [_,_,_] 1 [_,_,_] Zgx (h:=tL2 (Zc (xM (h:=xL [_,_,_] Zpn 1 (h:=xK [0] rfl Zy7 rfl (Zmh _ g.xs w _ om2 om2 _ hv) (h:=?_)))))))))
 rintro _ B7 _ hle7 ⟨rfl,s7,rfl,hs7⟩
 refine ZA (Zj (Zc (xD (h:=xM (h:=?_)))))
 exact ZD ⟨g.k+1,0,s7,none,0,(g.xs ++ [w])⟩ [0] so2 ⟨rfl,so,by simp only [];rw [Zay hw,hxs],by simp;omega,hs7⟩ t6 rfl
 try simp only [sQ,ne_eq] at g1
 have hxe:g.xs=xs:=by rw [hxs];exact List.take_of_length_le oz
 refine ZS (Zae (ZX (ZI (Zj (Za (xM (h:=xA (h:=Zd ?_))))))))
 exact eN [0] rfl t1 ⟨_,_,rfl,rfl,hxe ▸ hv⟩

theorem Znv (b:Nat) (xs:List DMail) (s:Cells) (hn:xs.length≤2000000) (B:Kn) (hs:MLst 136 138 b xs s):Zv (pj J) 48 [ptr ⟨b,0,none⟩] B [s] (fun v B' Ls=>B'=B∧∃l a c,Ls=[l]∧v = .slice a xs.length c∧ZY Kn.none l a c 97 3 ZN xs):=by
 refine cB 28 Tryz.func48 (h:=?_)
 obtain ⟨p,vl,s0,hp,hl⟩:=hs.chain
 refine ZkT 0 rfl hp (tL2 (Za (xA (h:=Za (xM (h:=xNc (h:=xW Zjw (h:=x1 lk3 0 (h:=Zn (Zf0 (m:=0) (c:=xs.length) (by_:=32) [.int .i64 0,.int .i64 0,.string ⟨#[]⟩] rfl rfl ZvO ZlB rfl rfl ⟨_,_,rfl,by first | omega | (simp;done) | (simp;omega)⟩ ⟨_,_,rfl,by first | omega | (simp;done) | (simp;omega)⟩ om om (fun b1=>?_)))))))))))
 have hv1:=ZY.zeros (B:=Kn.none) (b:=b1) (T:=97) (R:=ZN) (d:=(⟨0,0,[]⟩:DMail)) (m:=0) (c:=xs.length) (zs:=[.int .i64 0,.int .i64 0,.string ⟨#[]⟩]) rfl (⟨rfl,by simp⟩) om
 refine xA (h:=tL3 (Zg (Za (xM (h:=xNc (h:=xW ZrF (h:=x1 Zrb 0 (h:=xA (h:=Zl (ZO (α:=MOf) [0,2] (fun g=>[(3,.slice g.q g.ys.length g.c),(4,.pointer g.p)]) [1,2] (fun g=>[g.cells,g.l]) (fun g Bx=>Bx=B∧g.ys ++ g.xs=xs∧Zh7 138 (.pointer g.p) g.xs g.cells∧ZY Kn.none g.l g.q g.c 97 3 ZN g.ys) (fun g=>g.xs.length) ⟨p,[],xs,_,_,_,_⟩ t2 rfl (⟨rfl,rfl,hl,hv1⟩) (fun g B2 hle2 hI=>?_)))))))))))
 obtain ⟨rfl,hxs,hl,hv⟩:=hI
 refine ZM [(0,_),(2,_),(3,_),(4,_)] [_,_,_] t4 rfl (Zg (Za (xM (h:=Zn (Zqg rfl rfl rfl rfl rfl (ZeW Tryz.underlying134) (Zb rfl (fun g1=>?_) (fun g1=>?_)))))))
 obtain ⟨y,ys,b8,np,rest8,hp8,hrest,hperm,hy8,hl8⟩:=hl.more (by simpa using g1)
 rw [hp8]
 have hlen:=congrArg List.length hxs
 rw [List.length_append,hrest,List.length_cons] at hlen
 replace hlen:g.ys.length+1≤2000000:=by omega
 refine ZkT 1 rfl hperm (tL4 (wSk (Zg (Zl (Zc (xM (h:=xM (h:=xNc (h:=xW Zu9 (h:=xL [_,_,_] Zpn 1 (h:=xBs [(0,_)] [_,_,_] Tryz.underlying38 Zgx ZlB (h:=fun b3=>Zn (Zbg (z:=⟨y.uid,y.flags,y.text⟩) (R:=ZN) 2 rfl hv rfl rfl rfl ZvO Zwn rfl rfl (ZaQ.box 4 rfl) rfl rfl (⟨rfl,by first | assumption | omega | (simp;done) | (simp;omega)⟩) om (fun l4 p4 c4 hv4=>?_))))))))))))))
 refine xA (h:=ZA (Zj (Zc (xM (h:=xNc (h:=xW ZrE (h:=x1 Zrb 1 (h:=xA (h:=?_)))))))))
 exact ZD ⟨np,g.ys ++ [y],ys,l4,p4,c4,rest8⟩ [0,3,2] (by rw [hrest];simp) ⟨rfl,by rw [← hxs,hrest];simp,hl8,hv4⟩ t4 rfl
 rw [hl.done (by simpa using g1),List.append_nil] at hxs
 subst hxs
 refine ZS (Zae (ZX (ZI (Zj (Za (xM (h:=xA (h:=Zd ?_))))))))
 exact eN [2] rfl t1 ⟨rfl,_,_,_,rfl,rfl,hv⟩

theorem Zr3 (q:Option Addr) (cp:Nat) (x:DBox) (fl:Int) (t:Str) (hb:Zbk x=true) (hfl:ZaL fl=true) (ht:t.length≤20) (B:Kn) (hm:SlK B q cp 3 ZN x.mail):Zv (pj J) 13 [.agg #[.int .i64 x.next,.slice q x.mail.length cp],.int .i64 fl,str t] B [] (fun v B' Ls=>∃l a c,Ls=[l]∧v = .tuple #[.agg #[.int .i64 (ZeI x fl t).1.next,.slice a (ZeI x fl t).1.mail.length c],.bool (ZeI x fl t).2]∧ZY Kn.none l a c 97 3 ZN (ZeI x fl t).1.mail):=by
 refine cB 50 Tryz.func13 (h:=?_)
 have hxn:=hm.len
 have hbn:=Zca hb
 have hfl2:0≤fl∧fl≤31:=by simpa [ZaL] using hfl
 refine Za (xBx [_,_] (h:=fun b1=>xAl [_,_] Ze6 (h:=fun b2=>xA (h:=tL2 (Zg (Za (xL [_,_] ZbA 0 (h:=xR ZxZ rfl (Zjd _ _ (⟨x.next,x.mail⟩:DBox) _ hm) (h:=xN (h:=xM (h:=Zo (d:=12) rfl (fun g1=>by simp [hb] at g1) (fun g1=>?_))))))))))))
 try simp only [sQ,ne_eq] at g1
 refine xM (h:=xR Zy8 rfl (Zjc _ _) (h:=xN (h:=xF (h:=xM (h:=Zo (d:=17) rfl (fun g2=>by first | (simp [hfl2] at g2;done) | (simp at g2;omega)) (fun g2=>?_))))))
 try simp only [sQ,ne_eq] at g2
 refine xM (h:=xVs Tryz.underlying9 (h:=Zbp (h:=xF (h:=Zb rfl (fun g3=>by first | omega | (simp at g3;omega)) (fun g3=>?_)))))
 try simp only [sQ,ne_eq] at g3
 refine wSk (Zg (Za (xW ZaP (h:=x1 Zfl 0 (h:=xV Tryz.underlying38 (h:=ZE (h:=xM (h:=Zo (d:=27) rfl (fun g4=>?_) (fun g4=>?_)))))))))
 try simp only [sQ,ne_eq] at g4
 refine xP (h:=xP (h:=xP (h:=xT (h:=Zb (t:=true) rfl (fun _=>Za (xL [_,_] ZbA 0 (h:=xC ZxY rfl (Zhy _ _ (⟨x.next,x.mail⟩:DBox) _ hm) (h:=?_)))) (fun h=>Bool.noConfusion h)))))
 rintro _ B5 _ hle5 ⟨rfl,l5,a5,c5,rfl,rfl,hs5⟩
 refine xS [_,_] 1 [_,_] ZcE (h:=xA (h:=tL3 (Zd (Zp ?_))))
 have hae:=Zg9 (fl:=fl) (t:=t) (b:=x) (.inl oz)
 exact Zas .ret (.inl rfl) [_,_] [2] rfl ⟨⟨_,rfl,.inr ⟨[_,_],ZbA,Z9 1 rfl rfl rfl,rfl⟩⟩,rfl,trivial⟩ (by rw [hae];exact ⟨_,_,_,rfl,rfl,hs5.anyK ZN.any⟩)
 try simp only [sQ,ne_eq] at g4
 refine xW ZbR (h:=x1 lk3 0 (h:=Zbp (h:=xF (h:=Zb rfl (fun g5=>?_) (fun g5=>?_)))))
 try simp only [sQ,ne_eq] at g5
 refine Za (xL [_,_] ZbA 0 (h:=xC ZxY rfl (Zhy _ _ (⟨x.next,x.mail⟩:DBox) _ hm) (h:=?_)))
 rintro _ B6 _ hle6 ⟨rfl,l6,a6,c6,rfl,rfl,hs6⟩
 refine xS [_,_] 1 [_,_] ZcE (h:=xA (h:=tL3 (Zd (Zp ?_))))
 have hae:=Zg9 (fl:=fl) (t:=t) (b:=x) (.inr oz)
 exact Zas .ret (.inl rfl) [_,_] [2] rfl ⟨⟨_,rfl,.inr ⟨[_,_],ZbA,Z9 1 rfl rfl rfl,rfl⟩⟩,rfl,trivial⟩ (by rw [hae];exact ⟨_,_,_,rfl,rfl,hs6.anyK ZN.any⟩)
 try simp only [sQ,ne_eq] at g5
 refine wSk (Za (xW ZaP (h:=x1 Zfl 0 (h:=xC ZzX rfl (Zpk _ _ x.mail _ hm) (h:=?_)))))
 rintro _ B7 _ hle7 ⟨b7,s7,rfl,rfl,hs7⟩
 refine xA (h:=tL3 (Za (xM (h:=xW ZbR (h:=x1 lk3 0 (h:=xM (h:=xM (h:=xB [(0,_),(1,_),(2,_)] [_,_,_] [_,_,_] ZyW ZlB (h:=xK [2] rfl Zy7 rfl (Zmh _ x.mail (⟨x.next,fl,t⟩:DMail) _ om2 om2 _ hs7) (h:=?_))))))))))
 rintro _ B8 _ hle8 ⟨rfl,s8,rfl,hs8⟩
 refine tL3 (Zg (Z0 (keeps _ [0] _) mo kr ⟨Kn.le.refl _,Zad.refl _ _⟩ (fun _ _=>?_)))
 refine aW 0 rfl ZbR (h:=aT 1 rfl (ZB fun D B L hI=>Zf rfl rfl lk3 rfl (atL 0 (hI.2.1.trans rfl) rfl rfl) r4) (h:=aD 2 rfl (h:=aM 3 rfl (h:=Zq 4 kr rfl kr (Zax [2] rfl rfl rfl rfl ZzW rfl (Znv _ (x.mail ++ [(⟨x.next,fl,t⟩:DMail)]) _ om2 _ hs8) ?_)))))
 rintro _ B9 _ hle9 ⟨rfl,l9,a9,c9,rfl,rfl,hv9⟩
 refine ⟨⟨Kn.le.refl _,t1⟩,(aT 5 rfl (ZB fun D B L hI=>ZaG (parts:=[(0,_),(1,_)]) [_,_] [_,_] rfl rfl Zns Ze6 rfl rfl rfl r4) (h:=Za8 6 kr rfl kr kr (ZF [_,_] 1 [_,_] rfl rfl ZcE rfl rfl rfl rfl rfl rfl rfl rfl ?_)))⟩
 refine aA 7 rfl (h:=Zz kr kr ?_)
 refine Zj (tL3 (Zd ?_))
 have hae:=Zsc (fl:=fl) (t:=t) (b:=x) oz
 exact Zas .ret (.inl rfl) [_,_] [2] rfl ⟨⟨_,rfl,.inr ⟨[_,_],ZbA,Z9 1 rfl rfl rfl,rfl⟩⟩,rfl,trivial⟩ (by rw [hae];exact ⟨_,_,_,rfl,rfl,hv9.anyK ZN.any⟩)

theorem ZpZ (b:Nat) (q1 q2 q3:Option Addr) (c1 c2 c3:Nat) (x:DHost) (l1 l2 l3:Cells) (k:Nat) (f:DFolder) (fl:Int) (t:Str) (hfx:x.folders[k]? = some f) (hn1:x.users.length≤2000000) (hn2:x.folders.length≤2000000) (hok:Zx x=true) (hfl:ZaL fl=true) (ht:t.length≤20) (a:Nat→Addr) (B:Kn) (hE:ErrsB 264 [0,3,1,2] B a) (hu:ZY Kn.none l1 q1 c1 53 3 Zs x.users) (hf:ZcD l2 q2 c2 42 5 (Zau 191 97) x.folders) (hi:ZcD l3 q3 c3 64 4 (Zb3 9) x.queue.items):Zv (pj J) 27 [ptr ⟨b,0,none⟩,.int .i64 k,.int .i64 fl,str t] B [Zah b [str x.domain,.slice q1 x.users.length c1,.slice q2 x.folders.length c2,.int .i64 x.queue.next,.slice q3 x.queue.items.length c3] 29,l1,l2,l3] (fun v B' Ls=>∃q1' c1' q2' c2' q3' c3' l1' l2' l3',Ls=[Zah b [str (Zam x k fl t).1.domain,.slice q1' (Zam x k fl t).1.users.length c1',.slice q2' (Zam x k fl t).1.folders.length c2',.int .i64 (Zam x k fl t).1.queue.next,.slice q3' (Zam x k fl t).1.queue.items.length c3'] 29,l1',l2',l3']∧v=errv 264 a (ZfS x k fl t)∧ZY Kn.none l1' q1' c1' 53 3 Zs (Zam x k fl t).1.users∧ZcD l2' q2' c2' 42 5 (Zau 191 97) (Zam x k fl t).1.folders∧ZcD l3' q3' c3' 64 4 (Zb3 9) (Zam x k fl t).1.queue.items):=by
 refine ZeX 44 Tryz.func27 rfl rfl rfl (Nat.le_of_ble_eq_true rfl) ?_
 have hfk:=(List.getElem?_eq_some_iff.1 hfx).1
 have hbo:Zbk (⟨f.next,f.mail⟩:DBox)=true:=Zby (ZaK hok hfx)
 have hol:=ZqR hok (List.mem_of_getElem? hfx)
 have hbn:f.mail.length≤10:=(Zca hbo).2.2
 have hml:(f.withBox (ZeI f.box fl t).1).mail.length≤2000000:=Nat.le_trans (ZoR f.box fl t) (by show f.mail.length+1≤_;omega)
 have hql:=Zcy (Zbt hok)
 obtain ⟨bq,_,_,lre,hpq,⟨qg,cg,qm,cm,ia,ib,rfl,rfl,hg,hm,ho,hn,hx,hy⟩,hwq,hqq,hcl,hcr,hkk⟩:=hf.cellA hfx
 refine Za (xA (h:=Za (xM (h:=xNc (h:=xW Z4 (h:=x1 ZcJ 0 (h:=xM (h:=Zn (Zf1 hpq rfl rfl Tryz.underlying24 Zbq rfl rfl oz oz ?_)))))))))
 refine xA (h:=Zg (Za (xM (h:=xM (h:=xNc (h:=xW Zdc (h:=Zn (Zf rfl rfl lk9 rfl (hcl _ _ 2 rfl 0 _ rfl) (xM (h:=xVs Tryz.underlying9 (h:=Zn (ZdH [0,1,2,3] rfl rfl rfl rfl rfl Zy3 rfl (ZaM.borrowL fun hm1=>ZmI _ _ _ _ _ _ _ _ x f.owner ↑t.length om2 om2 om2 _ (Zxj 0 rfl hm1) (hu.lendK Zs.any 1 rfl hm1 om) (hf.lendK Zau.known Ze.mono 2 rfl hm1 om)) ?_))))))))))))
 refine Zb rfl (fun g1=>?_) (fun g1=>?_)
 refine Za (Zn (Zf rfl rfl Zp5 rfl ((hE.row 2 (by decide)) _ 0 _ rfl) ?_))
 refine xA (h:=Zd (Zp ?_))
 obtain ⟨e1,e2⟩:=ZqP (fl:=fl) hok hfx g1
 exact eN [0,1,2,3] rfl t1 (by rw [e1,e2];exact ⟨_,_,_,_,_,_,_,_,_,rfl,rfl,hu,hf,hi⟩)
 refine ZkT 2 rfl (ZxP hqq) (wSk (Za (xM (h:=xNc (h:=xW ZbC (h:=Zn (ZT [_,_] rfl rfl ZbA rfl (Zzj (hcr _ _ 2 rfl) 3 rfl rfl) (xM (h:=xM (h:=xK [5] rfl Zz6 rfl (Zv.borrow fun hm2=>Zr3 _ _ (⟨f.next,f.mail⟩:DBox) fl t (oy) (oy) (oy) _ ((hm.anyK ZN.any).lend ZN.mono hm2 om)) (h:=?_)))))))))))
 rintro _ B2 _ hle2 ⟨BB2,_,rfl,hB2,_,hm2,_,l2,a2,c2,rfl,rfl,hs2⟩
 replace hu:=hu.mono Zs.mono hle2
 replace hg:=hg.mono ZZ.mono hle2
 replace hm:=hm.mono ZN.mono hle2
 replace hE:=hE.mono hle2
 refine xM (h:=xE (h:=xE (h:=xAl [_,_] Ze6 (h:=fun b3=>xS [_,_] 7 [_,_] ZcE (h:=xA (h:=tL8 (Zqm 2 5 rfl rfl (by decide) ?_)))))))
 refine Zqm 2 4 rfl rfl (by decide) ?_
 have hf9:=hkk f _ ⟨qg,cg,qm,cm,_,_,rfl,rfl,hg,hm,ho,hn,hx,hy⟩
 rw [List.append_assoc,Zwr hfx] at hf9
 refine Zg (Za (xM (h:=xN (h:=tL8 (Zb rfl (fun g2=>?_) (fun g2=>?_))))))
 refine Za (Zn (Zf rfl rfl Zp5 rfl ((hE.row 3 (by decide)) _ 0 _ rfl) ?_))
 refine xA (h:=Zd (Zp ?_))
 obtain ⟨e1,e2⟩:=ZsI hok hfx (by simpa using g1) (by simpa [DFolder.box] using g2)
 exact eN [0,1,2,3] rfl t1 (by rw [e1,e2];exact ⟨_,_,_,_,_,_,_,_,_,rfl,rfl,hu,hf9,hi⟩)
 refine wSk (Za (xM (h:=xL [_,_] ZbA 7 (h:=xNc (h:=xW ZbC (h:=Zn (Zv0 (R:=(Zau 191 97)) (x0:=f) (f.withBox (ZeI f.box fl t).1) (us:=[_,_]) (sz:=5) (k:=k) 3 2 [6] rfl rfl hf9 hpq hfx rfl rfl ZcE rfl rfl rfl rfl (Nat.le_of_ble_eq_true rfl) (by rintro _ _ ⟨_,_,_,_,_,_,rfl,rfl,k1,k2,k3,k4,k5,k6⟩;exact ⟨_,_,⟨_,_,_,_,_,_,rfl,rfl,k1,hs2,k3,k4,k5,hml⟩,by simpa [List.append_assoc] using List.Perm.append_left _ List.perm_append_comm⟩) (fun l4 hd4=>?_))))))))
 refine tL8 (Za (xA (h:=Zd ?_)))
 obtain ⟨e1,e2⟩:=ZsJ hok hfx (by simpa using g1) (by simpa [DFolder.box] using g2)
 exact eN [0,1,2,3] rfl t1 (by rw [e1,e2];simp only [DHost.withFolders,List.length_set];exact ⟨_,_,_,_,_,_,_,_,_,rfl,rfl,hu,hd4,hi⟩)

theorem Zgu (b:Nat) (q1 q2 q3:Option Addr) (c1 c2 c3:Nat) (x:DHost) (l1 l2 l3:Cells) (i:Int) (k:Nat) (hik:i=(k:Int)) (f:DFolder) (fl:Int) (t:Str) (hfx:x.folders[k]? = some f) (hn1:x.users.length≤2000000) (hn2:x.folders.length≤2000000) (hok:Zx x=true) (hfl:ZaL fl=true) (ht:t.length≤20) (a:Nat→Addr) (B:Kn) (hE:ErrsB 264 [0,3,1,2] B a) (hu:ZY Kn.none l1 q1 c1 53 3 Zs x.users) (hf:ZcD l2 q2 c2 42 5 (Zau 191 97) x.folders) (hi:ZcD l3 q3 c3 64 4 (Zb3 9) x.queue.items):Zv (pj J) 27 [ptr ⟨b,0,none⟩,.int .i64 i,.int .i64 fl,str t] B [Zah b [str x.domain,.slice q1 x.users.length c1,.slice q2 x.folders.length c2,.int .i64 x.queue.next,.slice q3 x.queue.items.length c3] 29,l1,l2,l3] (fun v B' Ls=>∃q1' c1' q2' c2' q3' c3' l1' l2' l3',Ls=[Zah b [str (Zam x k fl t).1.domain,.slice q1' (Zam x k fl t).1.users.length c1',.slice q2' (Zam x k fl t).1.folders.length c2',.int .i64 (Zam x k fl t).1.queue.next,.slice q3' (Zam x k fl t).1.queue.items.length c3'] 29,l1',l2',l3']∧v=errv 264 a (ZfS x k fl t)∧ZY Kn.none l1' q1' c1' 53 3 Zs (Zam x k fl t).1.users∧ZcD l2' q2' c2' 42 5 (Zau 191 97) (Zam x k fl t).1.folders∧ZcD l3' q3' c3' 64 4 (Zb3 9) (Zam x k fl t).1.queue.items):=by
 subst hik
 exact ZpZ b q1 q2 q3 c1 c2 c3 x l1 l2 l3 k f fl t hfx hn1 hn2 hok hfl ht a B hE hu hf hi

theorem ZwX (b1 b2:Nat) (id:Int) (u:Str) (b:Nat) (q1 q2 q3:Option Addr) (c1 c2 c3:Nat) (x:DHost) (l1 l2 l3:Cells) (hul:u.length≤2000000) (hn1:x.users.length≤2000000) (hn2:x.folders.length≤2000000) (hok:Zx x=true) (a:Nat→Addr) (B:Kn) (hE:ErrsB 264 [0,3,1,2] B a) (hc1:Zbi B b1 0 [.int .i64 id]) (hc2:Zbi B b2 0 [str u]) (hu:ZY Kn.none l1 q1 c1 53 3 Zs x.users) (hf:ZcD l2 q2 c2 42 5 (Zau 191 97) x.folders) (hi:ZcD l3 q3 c3 64 4 (Zb3 9) x.queue.items):Zv (pj J) 26 [ptr ⟨b,0,none⟩,ptr ⟨b1,0,none⟩,ptr ⟨b2,0,none⟩] B [Zah b [str x.domain,.slice q1 x.users.length c1,.slice q2 x.folders.length c2,.int .i64 x.queue.next,.slice q3 x.queue.items.length c3] 29,l1,l2,l3] (fun v B' Ls=>∃q1' c1' q2' c2' q3' c3' l1' l2' l3',Ls=[Zah b [str (ZlA x id u).domain,.slice q1' (ZlA x id u).users.length c1',.slice q2' (ZlA x id u).folders.length c2',.int .i64 (ZlA x id u).queue.next,.slice q3' (ZlA x id u).queue.items.length c3'] 29,l1',l2',l3']∧v=errv 264 a (ZmL x id u)∧ZY Kn.none l1' q1' c1' 53 3 Zs (ZlA x id u).users∧ZcD l2' q2' c2' 42 5 (Zau 191 97) (ZlA x id u).folders∧ZcD l3' q3' c3' 64 4 (Zb3 9) (ZlA x id u).queue.items):=by
 refine cB 41 Tryz.func26 (h:=?_)
 have hix:=ZcY (inF u inbox) x.folders
 have hql:=Zcy (Zbt hok)
 have htl:(Zac x.queue id u).2.1.length≤20:=by rw [Zc3 (Zbt hok)];exact Zec hok
 refine Za (xA (h:=Zg (Z0 (keeps _ [] _) mo kr ⟨Kn.le.refl _,Zad.refl _ _⟩ (fun _ _=>?_))))
 refine aM 0 rfl (h:=aNc 1 rfl (h:=aW 2 rfl ZaU (h:=aT 4 rfl (ZB fun D B L hI=>Zf rfl rfl lk3 rfl ((hc1.mono hI.1) _ 0 _ rfl) r4) (h:=aT 5 rfl (ZB fun D B L hI=>Zf rfl rfl lk9 rfl ((hc2.mono hI.1) _ 0 _ rfl) r4) (h:=Zak [3,11] kr kr kr ⟨?_,?_⟩)))))
 refine (ZT [_,_] rfl rfl Zb4 rfl (Z9 0 rfl rfl rfl) (⟨⟨Kn.le.refl _,trivial⟩,(Zak [6,11] kr kr kr ⟨?_,?_⟩)⟩))
 refine (Zax [3] rfl rfl rfl rfl ZvR rfl (Zv.borrowK 1 fun hm1=>Zdz _ _ x.queue id u _ (hi.lendK Zb3.known Zw.mono 0 rfl hm1 om)) ?_)
 rintro _ B1 _ hle1 ⟨BB1,_,rfl,hB1,_,hm1,_,lx1,ax1,cx1,rfl,rfl,hd1,ht1⟩
 replace hc2:=hc2.mono hle1
 replace hu:=hu.mono Zs.mono hle1
 replace hE:=hE.mono hle1
 refine ⟨⟨hle1,trivial⟩,(aM 7 rfl (h:=aE 8 rfl (h:=aE 9 rfl (h:=aE 10 rfl (h:=Zq 11 kr rfl kr (Zai (l:=[_,_]) rfl rfl ZfL rfl (fun b2=>?_)))))))⟩
 refine ⟨⟨hle1,trivial⟩,(Za8 12 kr rfl kr kr (ZF [_,_] 5 [_,_] rfl rfl Zdg rfl rfl rfl rfl rfl rfl rfl rfl ?_))⟩
 refine aA 13 rfl (h:=aA 14 rfl (h:=Zz kr kr ?_))
 refine Zj (tL6 (Zg (Za (xM (h:=xN (h:=Zb rfl (fun g1=>?_) (fun g1=>?_)))))))
 try simp only [sQ,ne_eq] at g1
 refine Za (Zn (Zf rfl rfl Zp5 rfl ((hE.row 0 (by decide)) _ 0 _ rfl) ?_))
 refine xA (h:=Zd (Zp ?_))
 obtain ⟨e1,e2⟩:=Zls (x:=x) (id:=id) (u:=u) (by simpa using g1)
 exact eN [0,1,2,3] rfl t1 (by rw [e1,e2];exact ⟨_,_,_,_,_,_,_,_,_,rfl,rfl,hu.anyK Zs.any,hf,hi⟩)
 try simp only [sQ,ne_eq] at g1
 have hqt:(Zac x.queue id u).2.2=true:=by simpa using g1
 have hk0:0≤ZaI (inF u inbox) x.folders:=ZdC hok (by rw [← Zc3 (Zbt hok)];exact hqt)
 obtain ⟨k,hke⟩ :∃k:Nat,ZaI (inF u inbox) x.folders=(k:Int):=⟨_,(Int.toNat_of_nonneg hk0).symm⟩
 obtain ⟨f,hfx⟩:=Zag (xs:=x.folders) (i:=k) oz
 have hpv:=ZgP x k 0 (Zac x.queue id u).2.1
 refine wSk (Za (xM (h:=xM (h:=y1 lk9 hc2 0 (h:=Zn (ZdH [0,1,2,3] rfl rfl rfl rfl rfl ZwN rfl (ZaM.borrowL fun hm3=>ZmG _ _ _ _ _ _ _ _ x u [105,110,98,111,120] om2 om2 _ (Zxj 0 rfl hm3) (hf.lendK Zau.known Ze.mono 2 rfl hm3 om)) ?_))))))
 refine xM (h:=xK [0,1,2,3] rfl Zx2 rfl (Zgu b q1 q2 q3 c1 c2 c3 x l1 l2 l3 _ k hke f 0 (Zac x.queue id u).2.1 hfx hn1 hn2 hok (by decide) htl a _ hE (hu.anyK Zs.any) hf hi) (h:=?_))
 rintro _ B4 _ hle4 ⟨q14,c14,q24,c24,q34,c34,l14,l24,l34,rfl,rfl,hu4,hf4,hi4⟩
 replace hc2:=hc2.mono hle4
 replace hu:=hu.mono Zs.mono hle4
 replace hE:=hE.mono hle4
 refine xA (h:=tL6 (Zg (Za (xM (h:=Zn (Ziy (tE:=264) (a:=a) (c:=(ZfS x k 0 (Zac x.queue id u).2.1)) rfl rfl Tryz.underlying69 rfl (xM (h:=Zo (d:=31) rfl (fun g2=>?_) (fun g2=>?_)))))))))
 try simp only [sQ,ne_eq] at g2
 refine xP (h:=xP (h:=xP (h:=xT (h:=Zb (t:=true) rfl (fun _=>Zc (xM (h:=xL [_,_] Zb4 5 (h:=xNc (h:=xW ZaU (h:=xS [_,_] 0 [_,_,_,_,_] Zdg (h:=Zj (Za (xM (h:=xA (h:=tL6 (Zd ?_)))))))))))) (fun h=>Bool.noConfusion h)))))
 obtain ⟨e1,e2⟩:=ZfI hqt hke oz
 exact eN [0,1,2,4] rfl t1 (by rw [e1,e2];exact ⟨_,_,_,_,_,_,_,_,_,rfl,rfl,hu4.anyK Zs.any,hf4,hd1⟩)
 try simp only [sQ,ne_eq] at g2
 refine xM (h:=Zn (Zf rfl rfl Zp5 rfl ((hE.row 2 (by decide)) _ 0 _ rfl) ?_))
 refine xR Zvo rfl (ZjD (ZfS x k 0 (Zac x.queue id u).2.1) 2 om2 om2 a _ hE) (h:=?_)
 refine xF (h:=Zb rfl (fun g3=>?_) (fun g3=>?_))
 try simp only [sQ,ne_eq] at g3
 refine Zc (xM (h:=xL [_,_] Zb4 5 (h:=xNc (h:=xW ZaU (h:=xS [_,_] 0 [_,_,_,_,_] Zdg (h:=Zj (Za (xM (h:=xA (h:=tL6 (Zd ?_)))))))))))
 obtain ⟨e1,e2⟩:=ZfI hqt hke oz
 exact eN [0,1,2,4] rfl t1 (by rw [e1,e2];exact ⟨_,_,_,_,_,_,_,_,_,rfl,rfl,hu4.anyK Zs.any,hf4,hd1⟩)
 try simp only [sQ,ne_eq] at g3
 refine wSk (Za (xM (h:=xA (h:=Zd ?_))))
 obtain ⟨e1,e2⟩:=Zlt hqt hke oz
 exact eN [0,1,2,3] rfl t1 (by rw [e1,e2];exact ⟨_,_,_,_,_,_,_,_,_,rfl,rfl,hu4.anyK Zs.any,hf4,hi4⟩)
 refine (Zai (l:=[_,_]) rfl rfl ZfL rfl (fun b6=>⟨⟨Kn.le.refl _,trivial⟩,(Zq 6 kr rfl kr (Zax [3] rfl rfl rfl rfl ZvR rfl (Zv.borrowK 1 fun hm7=>Zdz _ _ x.queue id u _ (hi.lendK Zb3.known Zw.mono 0 rfl hm7 om)) ?_))⟩))
 rintro _ B7 _ hle7 ⟨BB7,_,rfl,hB7,_,hm7,_,lx7,ax7,cx7,rfl,rfl,hd7,ht7⟩
 replace hc2:=hc2.mono hle7
 replace hu:=hu.mono Zs.mono hle7
 replace hE:=hE.mono hle7
 refine ⟨⟨hle7,trivial⟩,(aM 7 rfl (h:=aE 8 rfl (h:=aE 9 rfl (h:=aE 10 rfl (h:=Za8 12 kr rfl kr kr (ZF [_,_] 4 [_,_] rfl rfl Zdg rfl rfl rfl rfl rfl rfl rfl rfl ?_))))))⟩
 refine aA 13 rfl (h:=aA 14 rfl (h:=Zz kr kr ?_))
 refine Zj (tL6 (Zg (Za (xM (h:=xN (h:=Zb rfl (fun g1=>?_) (fun g1=>?_)))))))
 try simp only [sQ,ne_eq] at g1
 refine Za (Zn (Zf rfl rfl Zp5 rfl ((hE.row 0 (by decide)) _ 0 _ rfl) ?_))
 refine xA (h:=Zd (Zp ?_))
 obtain ⟨e1,e2⟩:=Zls (x:=x) (id:=id) (u:=u) (by simpa using g1)
 exact eN [0,1,2,3] rfl t1 (by rw [e1,e2];exact ⟨_,_,_,_,_,_,_,_,_,rfl,rfl,hu.anyK Zs.any,hf,hi⟩)
 try simp only [sQ,ne_eq] at g1
 have hqt:(Zac x.queue id u).2.2=true:=by simpa using g1
 have hk0:0≤ZaI (inF u inbox) x.folders:=ZdC hok (by rw [← Zc3 (Zbt hok)];exact hqt)
 obtain ⟨k,hke⟩ :∃k:Nat,ZaI (inF u inbox) x.folders=(k:Int):=⟨_,(Int.toNat_of_nonneg hk0).symm⟩
 obtain ⟨f,hfx⟩:=Zag (xs:=x.folders) (i:=k) oz
 have hpv:=ZgP x k 0 (Zac x.queue id u).2.1
 refine wSk (Za (xM (h:=xM (h:=y1 lk9 hc2 0 (h:=Zn (ZdH [0,1,2,3] rfl rfl rfl rfl rfl ZwN rfl (ZaM.borrowL fun hm8=>ZmG _ _ _ _ _ _ _ _ x u [105,110,98,111,120] om2 om2 _ (Zxj 0 rfl hm8) (hf.lendK Zau.known Ze.mono 2 rfl hm8 om)) ?_))))))
 refine xM (h:=xK [0,1,2,3] rfl Zx2 rfl (Zgu b q1 q2 q3 c1 c2 c3 x l1 l2 l3 _ k hke f 0 (Zac x.queue id u).2.1 hfx hn1 hn2 hok (by decide) htl a _ hE (hu.anyK Zs.any) hf hi) (h:=?_))
 rintro _ B9 _ hle9 ⟨q19,c19,q29,c29,q39,c39,l19,l29,l39,rfl,rfl,hu9,hf9,hi9⟩
 replace hc2:=hc2.mono hle9
 replace hu:=hu.mono Zs.mono hle9
 replace hE:=hE.mono hle9
 refine xA (h:=tL6 (Zg (Za (xM (h:=Zn (Ziy (tE:=264) (a:=a) (c:=(ZfS x k 0 (Zac x.queue id u).2.1)) rfl rfl Tryz.underlying69 rfl (xM (h:=Zo (d:=31) rfl (fun g2=>?_) (fun g2=>?_)))))))))
 try simp only [sQ,ne_eq] at g2
 refine xP (h:=xP (h:=xP (h:=xT (h:=Zb (t:=true) rfl (fun _=>Zc (xM (h:=xL [_,_] Zb4 4 (h:=xNc (h:=xW ZaU (h:=xS [_,_] 0 [_,_,_,_,_] Zdg (h:=Zj (Za (xM (h:=xA (h:=tL6 (Zd ?_)))))))))))) (fun h=>Bool.noConfusion h)))))
 obtain ⟨e1,e2⟩:=ZfI hqt hke oz
 exact eN [0,1,2,5] rfl t1 (by rw [e1,e2];exact ⟨_,_,_,_,_,_,_,_,_,rfl,rfl,hu9.anyK Zs.any,hf9,hd7⟩)
 try simp only [sQ,ne_eq] at g2
 refine xM (h:=Zn (Zf rfl rfl Zp5 rfl ((hE.row 2 (by decide)) _ 0 _ rfl) ?_))
 refine xR Zvo rfl (ZjD (ZfS x k 0 (Zac x.queue id u).2.1) 2 om2 om2 a _ hE) (h:=?_)
 refine xF (h:=Zb rfl (fun g3=>?_) (fun g3=>?_))
 try simp only [sQ,ne_eq] at g3
 refine Zc (xM (h:=xL [_,_] Zb4 4 (h:=xNc (h:=xW ZaU (h:=xS [_,_] 0 [_,_,_,_,_] Zdg (h:=Zj (Za (xM (h:=xA (h:=tL6 (Zd ?_)))))))))))
 obtain ⟨e1,e2⟩:=ZfI hqt hke oz
 exact eN [0,1,2,5] rfl t1 (by rw [e1,e2];exact ⟨_,_,_,_,_,_,_,_,_,rfl,rfl,hu9.anyK Zs.any,hf9,hd7⟩)
 try simp only [sQ,ne_eq] at g3
 refine wSk (Za (xM (h:=xA (h:=Zd ?_))))
 obtain ⟨e1,e2⟩:=Zlt hqt hke oz
 exact eN [0,1,2,3] rfl t1 (by rw [e1,e2];exact ⟨_,_,_,_,_,_,_,_,_,rfl,rfl,hu9.anyK Zs.any,hf9,hi9⟩)
 refine (Zai (l:=[_,_]) rfl rfl ZfL rfl (fun b11=>⟨⟨Kn.le.refl _,trivial⟩,(Zq 3 kr rfl kr (ZT [_,_] rfl rfl Zb4 rfl (Z9 0 rfl rfl rfl) ?_))⟩))
 refine ⟨⟨Kn.le.refl _,trivial⟩,(Zq 6 kr rfl kr (Zax [3] rfl rfl rfl rfl ZvR rfl (Zv.borrowK 1 fun hm12=>Zdz _ _ x.queue id u _ (hi.lendK Zb3.known Zw.mono 0 rfl hm12 om)) ?_))⟩
 rintro _ B12 _ hle12 ⟨BB12,_,rfl,hB12,_,hm12,_,lx12,ax12,cx12,rfl,rfl,hd12,ht12⟩
 replace hc2:=hc2.mono hle12
 replace hu:=hu.mono Zs.mono hle12
 replace hE:=hE.mono hle12
 refine ⟨⟨hle12,trivial⟩,(aM 7 rfl (h:=aE 8 rfl (h:=aE 9 rfl (h:=aE 10 rfl (h:=Za8 12 kr rfl kr kr (ZF [_,_] 4 [_,_] rfl rfl Zdg rfl rfl rfl rfl rfl rfl rfl rfl ?_))))))⟩
 refine aA 13 rfl (h:=aA 14 rfl (h:=Zz kr kr ?_))
 refine Zj (tL6 (Zg (Za (xM (h:=xN (h:=Zb rfl (fun g1=>?_) (fun g1=>?_)))))))
 try simp only [sQ,ne_eq] at g1
 refine Za (Zn (Zf rfl rfl Zp5 rfl ((hE.row 0 (by decide)) _ 0 _ rfl) ?_))
 refine xA (h:=Zd (Zp ?_))
 obtain ⟨e1,e2⟩:=Zls (x:=x) (id:=id) (u:=u) (by simpa using g1)
 exact eN [0,1,2,3] rfl t1 (by rw [e1,e2];exact ⟨_,_,_,_,_,_,_,_,_,rfl,rfl,hu.anyK Zs.any,hf,hi⟩)
 try simp only [sQ,ne_eq] at g1
 have hqt:(Zac x.queue id u).2.2=true:=by simpa using g1
 have hk0:0≤ZaI (inF u inbox) x.folders:=ZdC hok (by rw [← Zc3 (Zbt hok)];exact hqt)
 obtain ⟨k,hke⟩ :∃k:Nat,ZaI (inF u inbox) x.folders=(k:Int):=⟨_,(Int.toNat_of_nonneg hk0).symm⟩
 obtain ⟨f,hfx⟩:=Zag (xs:=x.folders) (i:=k) oz
 have hpv:=ZgP x k 0 (Zac x.queue id u).2.1
 refine wSk (Za (xM (h:=xM (h:=y1 lk9 hc2 0 (h:=Zn (ZdH [0,1,2,3] rfl rfl rfl rfl rfl ZwN rfl (ZaM.borrowL fun hm13=>ZmG _ _ _ _ _ _ _ _ x u [105,110,98,111,120] om2 om2 _ (Zxj 0 rfl hm13) (hf.lendK Zau.known Ze.mono 2 rfl hm13 om)) ?_))))))
 refine xM (h:=xK [0,1,2,3] rfl Zx2 rfl (Zgu b q1 q2 q3 c1 c2 c3 x l1 l2 l3 _ k hke f 0 (Zac x.queue id u).2.1 hfx hn1 hn2 hok (by decide) htl a _ hE (hu.anyK Zs.any) hf hi) (h:=?_))
 rintro _ B14 _ hle14 ⟨q114,c114,q214,c214,q314,c314,l114,l214,l314,rfl,rfl,hu14,hf14,hi14⟩
 replace hE:=hE.mono hle14
 refine xA (h:=tL6 (Zg (Za (xM (h:=Zn (Ziy (tE:=264) (a:=a) (c:=(ZfS x k 0 (Zac x.queue id u).2.1)) rfl rfl Tryz.underlying69 rfl (xM (h:=Zo (d:=31) rfl (fun g2=>?_) (fun g2=>?_)))))))))
 try simp only [sQ,ne_eq] at g2
 refine xP (h:=xP (h:=xP (h:=xT (h:=Zb (t:=true) rfl (fun _=>Zc (xM (h:=xL [_,_] Zb4 4 (h:=xNc (h:=xW ZaU (h:=xS [_,_] 0 [_,_,_,_,_] Zdg (h:=Zj (Za (xM (h:=xA (h:=tL6 (Zd ?_)))))))))))) (fun h=>Bool.noConfusion h)))))
 obtain ⟨e1,e2⟩:=ZfI hqt hke oz
 exact eN [0,1,2,5] rfl t1 (by rw [e1,e2];exact ⟨_,_,_,_,_,_,_,_,_,rfl,rfl,hu14.anyK Zs.any,hf14,hd12⟩)
 try simp only [sQ,ne_eq] at g2
 refine xM (h:=Zn (Zf rfl rfl Zp5 rfl ((hE.row 2 (by decide)) _ 0 _ rfl) ?_))
 refine xR Zvo rfl (ZjD (ZfS x k 0 (Zac x.queue id u).2.1) 2 om2 om2 a _ hE) (h:=?_)
 refine xF (h:=Zb rfl (fun g3=>?_) (fun g3=>?_))
 try simp only [sQ,ne_eq] at g3
 refine Zc (xM (h:=xL [_,_] Zb4 4 (h:=xNc (h:=xW ZaU (h:=xS [_,_] 0 [_,_,_,_,_] Zdg (h:=Zj (Za (xM (h:=xA (h:=tL6 (Zd ?_)))))))))))
 obtain ⟨e1,e2⟩:=ZfI hqt hke oz
 exact eN [0,1,2,5] rfl t1 (by rw [e1,e2];exact ⟨_,_,_,_,_,_,_,_,_,rfl,rfl,hu14.anyK Zs.any,hf14,hd12⟩)
 try simp only [sQ,ne_eq] at g3
 refine wSk (Za (xM (h:=xA (h:=Zd ?_))))
 obtain ⟨e1,e2⟩:=Zlt hqt hke oz
 exact eN [0,1,2,3] rfl t1 (by rw [e1,e2];exact ⟨_,_,_,_,_,_,_,_,_,rfl,rfl,hu14.anyK Zs.any,hf14,hi14⟩)

theorem ZeA (hJ:Joins Tryz.prog J) (q1 q2 q3:Option Addr) (c1 c2 c3:Nat) (x:DHost) (id:Int) (u:Str) (hul:u.length≤2000000) (hd:x.domain.length≤2000000) (a:Nat→Addr) (B:Kn) (hE:ErrsB 264 [0,3,1,2] B a) (hu:SlK B q1 c1 3 Zs x.users) (hf:SlK B q2 c2 5 Ze x.folders) (hi:SlK B q3 c3 4 Zw x.queue.items):Zv (pj J) 8 [.agg #[str x.domain,.slice q1 x.users.length c1,.slice q2 x.folders.length c2,.int .i64 x.queue.next,.slice q3 x.queue.items.length c3],.int .i64 id,str u] B [] (fun v B' Ls=>∃q1 c1 q2 c2 q3 c3 l1 l2 l3,Ls=[l1,l2,l3]∧v = .tuple #[.agg #[str (Zy x id u).1.domain,.slice q1 (Zy x id u).1.users.length c1,.slice q2 (Zy x id u).1.folders.length c2,.int .i64 (Zy x id u).1.queue.next,.slice q3 (Zy x id u).1.queue.items.length c3],.int .i64 (Zy x id u).2]∧ZY Kn.none l1 q1 c1 53 3 Zs (Zy x id u).1.users∧ZcD l2 q2 c2 42 5 (Zau 191 97) (Zy x id u).1.folders∧ZcD l3 q3 c3 64 4 (Zb3 9) (Zy x id u).1.queue.items):=by
 refine cB 13 Tryz.func8 (h:=?_)
 have hun:=hu.len
 have hfn:=hf.len
 have hin:=hi.len
 refine Za (xBx [_,_,_,_,_] (h:=fun b1=>xBx [_] (h:=fun b2=>xBx [_] (h:=fun b3=>xAl [_,_,_,_,_] Za2 (h:=fun b4=>xA (h:=tL4 (Zm6 1 rfl (fun B5 hle5 hpm5=>?_))))))))
 have hc5:=ZbY hpm5
 obtain ⟨hu,hf,hi⟩:=up3 hle5 hu hf hi
 replace hE:=hE.mono hle5
 refine Zm6 2 rfl (fun B6 hle6 hpm6=>?_)
 have hc6:=ZbY hpm6
 obtain ⟨hu,hf,hi⟩:=up3 hle6 hu hf hi
 replace hc5:=hc5.mono hle6
 replace hE:=hE.mono hle6
 refine Za (xL [_,_,_,_,_] ZW 0 (h:=Zn (Zep (xs:=[]) (ys:=[_,_]) rfl rfl rfl rfl (xC Zz1 rfl (Zrl _ _ _ _ _ _ x true 26 _ (ZlA x id u) (ZmL x id u) (Zvz x id u) Zz0 hJ hd a _ hE hu hf hi (fun har hok B2 b q1 q2 q3 c1 c2 c3 l1 l2 l3 hle k1 k2 k3=>ZwX _ _ id u b q1 q2 q3 c1 c2 c3 x l1 l2 l3 hul oz oz hok a B2 (hE.mono hle) (hc5.mono hle) (hc6.mono hle) k1 k2 k3)) (h:=?_)))))
 rintro _ B7 _ hle7 ⟨Y7,d7,q17,c17,q27,c27,q37,c37,l17,l27,l37,hYd7,rfl,rfl,hu7,hf7,hi7⟩
 rw [ZwW] at hYd7
 refine xE (h:=xE (h:=xS [_,_,_,_,_] 3 [_,_,_,_,_] Zaq (h:=xA (h:=tL7 (Zd ?_)))))
 have e1:=congrArg Prod.fst hYd7
 have e2:=congrArg Prod.snd hYd7
 dsimp only at e1 e2
 subst e1 e2
 exact Zas .ret (.inl rfl) [_,_] [4,5,6] rfl ⟨⟨_,rfl,.inr ⟨[_,_,_,_,_],ZW,Z9 3 rfl rfl rfl,rfl⟩⟩,rfl,trivial⟩ ⟨_,_,_,_,_,_,_,_,_,rfl,rfl,hu7.anyK Zs.any,hf7,hi7⟩

theorem Zhw (q:Option Addr) (m cp:Nat) (hmc:m≤cp) (B:Kn) (hb:Zap B q m):Zv (pj J) 7 [.slice q m cp] B [] (fun v B' Ls=>Ls=[]∧∃(x:DHost) (p1 p2 p3:Option Addr) (d1 d2 d3:Nat) (id:Int) (u:Str),v = .tuple #[.agg #[str x.domain,.slice p1 x.users.length d1,.slice p2 x.folders.length d2,.int .i64 x.queue.next,.slice p3 x.queue.items.length d3],.int .i64 id,str u]∧SlK B' p1 d1 3 Zs x.users∧SlK B' p2 d2 5 Ze x.folders∧SlK B' p3 d3 4 Zw x.queue.items∧x.domain.length≤2000000∧u.length≤2000000):=by
 refine cB 54 Tryz.func7 (h:=?_)
 refine Za (xAl [_,_,_,_,_] Za2 (h:=fun b1=>xA (h:=xA (h:=tL1 (Za (xM (h:=Zn (ZtV rfl rfl Zz3 rfl (Zs7 _ _ _ oz _ (oy)) ?_))))))))
 rintro _ _ ⟨bop,qop,mop,cpop,rfl,rfl,hm,hbm⟩
 refine xA (h:=tL2 (Za (xM (h:=xK [1] rfl Zz2 rfl (Zs4 _ _ _ _ _ oz hm _ hbm) (h:=?_)))))
 rintro _ Bh _ hleh ⟨xh,p1h,p2h,p3h,d1h,d2h,d3h,kh,rfl,huh,hfh,hih,hdh,hkh,rfl⟩
 replace hbm:=hbm.mono hleh
 have huhn:=huh.len
 have hfhn:=hfh.len
 have hihn:=hih.len
 refine xAl [_,_,_,_,_] Za2 (h:=fun b4=>xS [_,_,_,_,_] 2 [_,_,_,_,_] Zaq (h:=tL3 (Zg (Za (xW ZaU (h:=xW Zan (h:=x1 Zej 2 (h:=xV Tryz.underlying25 (h:=Zbp (h:=xM (h:=Zo (d:=17) rfl (fun g1=>?_) (fun g1=>?_))))))))))))
 try simp only [sQ,ne_eq] at g1
 refine xM (h:=xX 1 rfl Za7 rfl (ZK _ _ _ _ _ _ oz oz oz hm _ hbm) (h:=?_))
 rintro _ _ ⟨r5,rfl,r5a,r5b,rfl⟩
 refine Zbp (h:=xT (h:=tL3 (Zb rfl (fun g2=>?_) (fun g2=>?_))))
 try simp only [sQ,ne_eq] at g2
 refine Zg (Z0 (keeps _ [2] _) mo kr ⟨Kn.le.refl _,Zad.refl _ _⟩ (fun _ _=>?_))
 refine aW 0 rfl ZaU (h:=aW 1 rfl Zan (h:=aT 2 rfl (ZB fun D B L hI=>Zf rfl rfl Zej rfl (atL 2 (hI.2.1.trans rfl) rfl rfl) r4) (h:=aM 3 rfl (h:=aW 4 rfl ZaU (h:=aW 5 rfl Zan (h:=aT 6 rfl (ZB fun D B L hI=>Zf rfl rfl Zej rfl (atL 2 (hI.2.1.trans rfl) rfl rfl) r4) (h:=aV 7 rfl Tryz.underlying25 (h:=Zak [8,11] kr kr kr ⟨?_,?_⟩))))))))
 refine (ZbD 1 rfl rfl rfl Za7 rfl (ZK _ _ _ _ _ _ oz oz oz hm _ hbm) ?_)
 rintro _ _ ⟨rk,rfl,rka,rkb,rfl⟩
 refine ⟨⟨Kn.le.refl _,t1⟩,?_⟩
 obtain ⟨w,hw⟩:=ZeB (xs:=xh.queue.items) (i:=rk) om om
 obtain ⟨bb8,oo8,rfl⟩:=hih.base hw
 obtain ⟨_,⟨qi9,ci9,rfl,hi9,hb9,hb9b⟩,hc9⟩:=hih.elem hw
 have hi9n:=hi9.len
 refine aIx 9 rfl Tryz.underlying25 Zdf (h:=aT 10 rfl (ZB fun D B L hI=>ZT [_,_,_,_] rfl rfl Zh4 rfl (ZiO (hc9.mono hI.1) 0 rfl rfl) r4) (h:=Zq 11 kr rfl kr (Zai (l:=[_,_,_,_]) rfl rfl Zgw rfl (fun b10=>?_))))
 refine ⟨⟨Kn.le.refl _,t1⟩,(ZU 12 kr rfl kr kr kr (ZF [_,_,_,_] 3 [_,_,_,_] rfl rfl Zdf rfl rfl rfl rfl rfl rfl rfl rfl ?_))⟩
 refine Zj (tL4 (Za (xW ZaO (h:=x1 Ze9 3 (h:=xV Tryz.underlying62 (h:=Zbp (h:=Zb rfl (fun g3=>?_) (fun g3=>?_))))))))
 try simp only [sQ,ne_eq] at g3
 refine Zg (Z0 (keeps _ [2,3] _) mo kr ⟨Kn.le.refl _,Zad.refl _ _⟩ (fun _ _=>?_))
 refine aT 0 rfl (ZB fun D B L hI=>ZT [_,_,_,_,_] rfl rfl ZW rfl (Z9 2 (hI.2.1.trans rfl) rfl rfl) r4) (h:=aW 1 rfl Zdi (h:=aT 2 rfl (ZB fun D B L hI=>Zf rfl rfl lk3 rfl (atL 3 (hI.2.2.1.trans rfl) rfl rfl) r4) (h:=aW 3 rfl ZaO (h:=aT 4 rfl (ZB fun D B L hI=>Zf rfl rfl Ze9 rfl (atL 3 (hI.2.2.1.trans rfl) rfl rfl) r4) (h:=aM 5 rfl (h:=aW 6 rfl ZaO (h:=aT 7 rfl (ZB fun D B L hI=>Zf rfl rfl Ze9 rfl (atL 3 (hI.2.2.1.trans rfl) rfl rfl) r4) (h:=aV 8 rfl Tryz.underlying62 (h:=Zq 9 kr rfl kr (ZbD 1 rfl rfl rfl Za7 rfl (ZK _ _ _ _ _ _ oz oz oz hm _ hbm) ?_))))))))))
 rintro _ _ ⟨rj,rfl,rja,rjb,rfl⟩
 refine ⟨⟨Kn.le.refl _,t2⟩,?_⟩
 obtain ⟨s,hs⟩:=ZeB (xs:=w.left) (i:=rj) om om
 obtain ⟨bb13,oo13,rfl⟩:=hi9.base hs
 obtain ⟨_,⟨rfl,hb14⟩,hc14⟩:=hi9.elem hs
 refine aIx 10 rfl Tryz.underlying62 sz9 (h:=aT 11 rfl (ZB fun D B L hI=>Zf rfl rfl lk9 rfl ((hc14.mono hI.1) _ 0 _ rfl) r4) (h:=Zq 12 kr rfl kr (ZF [_,_,_,_,_] 0 [_,_,_,_,_] rfl rfl Zaq rfl rfl rfl rfl rfl rfl rfl rfl ?_)))
 refine ⟨⟨Kn.le.refl _,t2⟩,(aA 13 rfl (h:=aA 14 rfl (h:=Zz kr kr ?_)))⟩
 refine Zj (tL4 (Zd (Zp ?_)))
 exact Zas .ret (.inl rfl) [_,_,_] [] rfl ⟨⟨_,rfl,.inr ⟨[_,_,_,_,_],ZW,Z9 0 rfl rfl rfl,rfl⟩⟩,rfl,rfl,trivial⟩ ⟨rfl,xh,_,_,_,_,_,_,_,_,rfl,huh,hfh,hih,hdh,oa⟩
 try simp only [sQ,ne_eq] at g3
 refine wSk (Zg (Z0 (keeps _ [2] _) mo kr ⟨Kn.le.refl _,Zad.refl _ _⟩ (fun _ _=>?_)))
 refine aT 0 rfl (ZB fun D B L hI=>ZT [_,_,_,_,_] rfl rfl ZW rfl (Z9 2 (hI.2.1.trans rfl) rfl rfl) r4) (h:=aM 1 rfl (h:=aM 3 rfl (h:=Zq 2 kr rfl kr (ZbD 1 rfl rfl rfl Za7 rfl (ZK _ _ _ _ _ _ oz oz oz hm _ hbm) ?_))))
 rintro _ _ ⟨ri,rfl,ria,rib,rfl⟩
 refine ⟨⟨Kn.le.refl _,t1⟩,(Zq 4 kr rfl kr (ZbD 1 rfl rfl rfl Zxi rfl (ZgU _ _ _ _ _ oz hm _ hbm) ?_))⟩
 rintro _ _ ⟨xu,ku,rfl,hxu,hku,rfl⟩
 refine ⟨⟨Kn.le.refl _,t1⟩,(Za8 5 kr rfl kr kr (ZF [_,_,_,_,_] 0 [_,_,_,_,_] rfl rfl Zaq rfl rfl rfl rfl rfl rfl rfl rfl ?_))⟩
 refine aA 6 rfl (h:=aA 7 rfl (h:=Zz kr kr ?_))
 refine Zj (tL4 (Zd ?_))
 exact Zas .ret (.inl rfl) [_,_,_] [] rfl ⟨⟨_,rfl,.inr ⟨[_,_,_,_,_],ZW,Z9 0 rfl rfl rfl,rfl⟩⟩,rfl,rfl,trivial⟩ ⟨rfl,xh,_,_,_,_,_,_,_,_,rfl,huh,hfh,hih,hdh,oa⟩
 refine (Zai (l:=[_,_,_,_]) rfl rfl Zgw rfl (fun b17=>⟨⟨Kn.le.refl _,t1⟩,(Zq 8 kr rfl kr (ZbD 1 rfl rfl rfl Za7 rfl (ZK _ _ _ _ _ _ oz oz oz hm _ hbm) ?_))⟩))
 rintro _ _ ⟨rk,rfl,rka,rkb,rfl⟩
 refine ⟨⟨Kn.le.refl _,t1⟩,?_⟩
 obtain ⟨w,hw⟩:=ZeB (xs:=xh.queue.items) (i:=rk) om om
 obtain ⟨bb20,oo20,rfl⟩:=hih.base hw
 obtain ⟨_,⟨qi21,ci21,rfl,hi21,hb21,hb21b⟩,hc21⟩:=hih.elem hw
 have hi21n:=hi21.len
 refine aIx 9 rfl Tryz.underlying25 Zdf (h:=aT 10 rfl (ZB fun D B L hI=>ZT [_,_,_,_] rfl rfl Zh4 rfl (ZiO (hc21.mono hI.1) 0 rfl rfl) r4) (h:=ZU 12 kr rfl kr kr kr (ZF [_,_,_,_] 3 [_,_,_,_] rfl rfl Zdf rfl rfl rfl rfl rfl rfl rfl rfl ?_)))
 refine Zj (tL4 (Za (xW ZaO (h:=x1 Ze9 3 (h:=xV Tryz.underlying62 (h:=Zbp (h:=Zb rfl (fun g3=>?_) (fun g3=>?_))))))))
 try simp only [sQ,ne_eq] at g3
 refine Zg (Z0 (keeps _ [2,3] _) mo kr ⟨Kn.le.refl _,Zad.refl _ _⟩ (fun _ _=>?_))
 refine aT 0 rfl (ZB fun D B L hI=>ZT [_,_,_,_,_] rfl rfl ZW rfl (Z9 2 (hI.2.1.trans rfl) rfl rfl) r4) (h:=aW 1 rfl Zdi (h:=aT 2 rfl (ZB fun D B L hI=>Zf rfl rfl lk3 rfl (atL 3 (hI.2.2.1.trans rfl) rfl rfl) r4) (h:=aW 3 rfl ZaO (h:=aT 4 rfl (ZB fun D B L hI=>Zf rfl rfl Ze9 rfl (atL 3 (hI.2.2.1.trans rfl) rfl rfl) r4) (h:=aM 5 rfl (h:=aW 6 rfl ZaO (h:=aT 7 rfl (ZB fun D B L hI=>Zf rfl rfl Ze9 rfl (atL 3 (hI.2.2.1.trans rfl) rfl rfl) r4) (h:=aV 8 rfl Tryz.underlying62 (h:=Zq 9 kr rfl kr (ZbD 1 rfl rfl rfl Za7 rfl (ZK _ _ _ _ _ _ oz oz oz hm _ hbm) ?_))))))))))
 rintro _ _ ⟨rj,rfl,rja,rjb,rfl⟩
 refine ⟨⟨Kn.le.refl _,t2⟩,?_⟩
 obtain ⟨s,hs⟩:=ZeB (xs:=w.left) (i:=rj) om om
 obtain ⟨bb24,oo24,rfl⟩:=hi21.base hs
 obtain ⟨_,⟨rfl,hb25⟩,hc25⟩:=hi21.elem hs
 refine aIx 10 rfl Tryz.underlying62 sz9 (h:=aT 11 rfl (ZB fun D B L hI=>Zf rfl rfl lk9 rfl ((hc25.mono hI.1) _ 0 _ rfl) r4) (h:=Zq 12 kr rfl kr (ZF [_,_,_,_,_] 0 [_,_,_,_,_] rfl rfl Zaq rfl rfl rfl rfl rfl rfl rfl rfl ?_)))
 refine ⟨⟨Kn.le.refl _,t2⟩,(aA 13 rfl (h:=aA 14 rfl (h:=Zz kr kr ?_)))⟩
 refine Zj (tL4 (Zd (Zp ?_)))
 exact Zas .ret (.inl rfl) [_,_,_] [] rfl ⟨⟨_,rfl,.inr ⟨[_,_,_,_,_],ZW,Z9 0 rfl rfl rfl,rfl⟩⟩,rfl,rfl,trivial⟩ ⟨rfl,xh,_,_,_,_,_,_,_,_,rfl,huh,hfh,hih,hdh,oa⟩
 try simp only [sQ,ne_eq] at g3
 refine wSk (Zg (Z0 (keeps _ [2] _) mo kr ⟨Kn.le.refl _,Zad.refl _ _⟩ (fun _ _=>?_)))
 refine aT 0 rfl (ZB fun D B L hI=>ZT [_,_,_,_,_] rfl rfl ZW rfl (Z9 2 (hI.2.1.trans rfl) rfl rfl) r4) (h:=aM 1 rfl (h:=aM 3 rfl (h:=Zq 2 kr rfl kr (ZbD 1 rfl rfl rfl Za7 rfl (ZK _ _ _ _ _ _ oz oz oz hm _ hbm) ?_))))
 rintro _ _ ⟨ri,rfl,ria,rib,rfl⟩
 refine ⟨⟨Kn.le.refl _,t1⟩,(Zq 4 kr rfl kr (ZbD 1 rfl rfl rfl Zxi rfl (ZgU _ _ _ _ _ oz hm _ hbm) ?_))⟩
 rintro _ _ ⟨xu,ku,rfl,hxu,hku,rfl⟩
 refine ⟨⟨Kn.le.refl _,t1⟩,(Za8 5 kr rfl kr kr (ZF [_,_,_,_,_] 0 [_,_,_,_,_] rfl rfl Zaq rfl rfl rfl rfl rfl rfl rfl rfl ?_))⟩
 refine aA 6 rfl (h:=aA 7 rfl (h:=Zz kr kr ?_))
 refine Zj (tL4 (Zd ?_))
 exact Zas .ret (.inl rfl) [_,_,_] [] rfl ⟨⟨_,rfl,.inr ⟨[_,_,_,_,_],ZW,Z9 0 rfl rfl rfl,rfl⟩⟩,rfl,rfl,trivial⟩ ⟨rfl,xh,_,_,_,_,_,_,_,_,rfl,huh,hfh,hih,hdh,oa⟩
 try simp only [sQ,ne_eq] at g2
 refine wSk (Zg (Z0 (keeps _ [2] _) mo kr ⟨Kn.le.refl _,Zad.refl _ _⟩ (fun _ _=>?_)))
 refine aT 0 rfl (ZB fun D B L hI=>ZT [_,_,_,_,_] rfl rfl ZW rfl (Z9 2 (hI.2.1.trans rfl) rfl rfl) r4) (h:=aM 1 rfl (h:=aM 3 rfl (h:=Zq 2 kr rfl kr (ZbD 1 rfl rfl rfl Za7 rfl (ZK _ _ _ _ _ _ oz oz oz hm _ hbm) ?_))))
 rintro _ _ ⟨ri,rfl,ria,rib,rfl⟩
 refine ⟨⟨Kn.le.refl _,t1⟩,(Zq 4 kr rfl kr (ZbD 1 rfl rfl rfl Zxi rfl (ZgU _ _ _ _ _ oz hm _ hbm) ?_))⟩
 rintro _ _ ⟨xu,ku,rfl,hxu,hku,rfl⟩
 refine ⟨⟨Kn.le.refl _,t1⟩,(Za8 5 kr rfl kr kr (ZF [_,_,_,_,_] 0 [_,_,_,_,_] rfl rfl Zaq rfl rfl rfl rfl rfl rfl rfl rfl ?_))⟩
 refine aA 6 rfl (h:=aA 7 rfl (h:=Zz kr kr ?_))
 refine Zj (tL3 (Zd ?_))
 exact Zas .ret (.inl rfl) [_,_,_] [] rfl ⟨⟨_,rfl,.inr ⟨[_,_,_,_,_],ZW,Z9 0 rfl rfl rfl,rfl⟩⟩,rfl,rfl,trivial⟩ ⟨rfl,xh,_,_,_,_,_,_,_,_,rfl,huh,hfh,hih,hdh,oa⟩
 try simp only [sQ,ne_eq] at g1
 refine xP (h:=xP (h:=xP (h:=xF (h:=Zb (t:=false) rfl (fun h=>Bool.noConfusion h) (fun _=>wSk (Zg (Z0 (keeps _ [2] _) mo kr ⟨Kn.le.refl _,Zad.refl _ _⟩ (fun _ _=>?_))))))))
 refine aT 0 rfl (ZB fun D B L hI=>ZT [_,_,_,_,_] rfl rfl ZW rfl (Z9 2 (hI.2.1.trans rfl) rfl rfl) r4) (h:=aM 1 rfl (h:=aM 3 rfl (h:=Zq 2 kr rfl kr (ZbD 1 rfl rfl rfl Za7 rfl (ZK _ _ _ _ _ _ oz oz oz hm _ hbm) ?_))))
 rintro _ _ ⟨ri,rfl,ria,rib,rfl⟩
 refine ⟨⟨Kn.le.refl _,t1⟩,(Zq 4 kr rfl kr (ZbD 1 rfl rfl rfl Zxi rfl (ZgU _ _ _ _ _ oz hm _ hbm) ?_))⟩
 rintro _ _ ⟨xu,ku,rfl,hxu,hku,rfl⟩
 refine ⟨⟨Kn.le.refl _,t1⟩,(Za8 5 kr rfl kr kr (ZF [_,_,_,_,_] 0 [_,_,_,_,_] rfl rfl Zaq rfl rfl rfl rfl rfl rfl rfl rfl ?_))⟩
 refine aA 6 rfl (h:=aA 7 rfl (h:=Zz kr kr ?_))
 refine Zj (tL3 (Zd ?_))
 exact Zas .ret (.inl rfl) [_,_,_] [] rfl ⟨⟨_,rfl,.inr ⟨[_,_,_,_,_],ZW,Z9 0 rfl rfl rfl,rfl⟩⟩,rfl,rfl,trivial⟩ ⟨rfl,xh,_,_,_,_,_,_,_,_,rfl,huh,hfh,hih,hdh,oa⟩

theorem ZpQ (q:Option Addr) (m cp:Nat) (hmc:m≤cp) (B:Kn) (hb:Zap B q m) (a:Nat→Addr) (hE:ErrsB 264 [0,3,1,2] B a) :∃code,Tryz.f6.body=some code∧wpS (pj (Zj7 Tryz.prog)) 86 code (Zfz (pj (Zj7 Tryz.prog)) [.tmp 2] (fun v B' Ls=>v = .bool true)) (Zdd [.slice q m cp] 0) [] B []:=by
 have hJ:=Zgg Tryz.prog
 refine ⟨_,rfl,(Za (xA (h:=Zg (Za (xM (h:=xV Tryz.underlying22 (h:=Zbp (h:=Zb rfl (fun g0=>?_) (fun g0=>?_)))))))))⟩
 refine Za (xA (h:=Zd (Zp ?_)))
 exact eR t1 rfl
 refine wSk (Za (xM (h:=xQ en7 rfl (Zhw _ _ _ oz _ (oy)) (h:=?_))))
 intro vd Bd hled
 rintro ⟨xd,p1d,p2d,p3d,d1d,d2d,d3d,idd,ud,rfl,hud,hfd,hid,hdd,hwd⟩
 replace hE:=hE.mono hled
 have hudn:=hud.len
 have hfdn:=hfd.len
 have hidn:=hid.len
 refine xM (h:=xE (h:=xE (h:=xE (h:=xAl [_,_,_,_,_] Za2 (h:=fun b2=>xS [_,_,_,_,_] 0 [_,_,_,_,_] Zaq (h:=xA (h:=xA (h:=tL1 (Za (xL [_,_,_,_,_] ZW 0 (h:=xM (h:=xM (h:=xC en8 rfl (ZeA hJ _ _ _ _ _ _ xd idd ud om2 om2 a _ hE hud hfd hid) (h:=?_))))))))))))))
 rintro _ B3 _ hle3 ⟨q13,c13,q23,c23,q33,c33,l13,l23,l33,rfl,rfl,hu3,hf3,hi3⟩
 replace hud:=hud.mono Zs.mono hle3
 replace hfd:=hfd.mono Ze.mono hle3
 replace hid:=hid.mono Zw.mono hle3
 refine xM (h:=xE (h:=xE (h:=xAl [_,_,_,_,_] Za2 (h:=fun b4=>xS [_,_,_,_,_] 4 [_,_,_,_,_] Zaq (h:=xA (h:=tL5 (Za (xL [_,_,_,_,_] ZW 0 (h:=xM (h:=xM (h:=xQ en9 rfl (Zdn _ _ _ _ _ _ xd idd ud om2 om2 _ hud hfd hid) (h:=?_))))))))))))
 intro v5 B5 hle5
 rintro ⟨p15,d15,p25,d25,p35,d35,rfl,hu5,hf5,hi5,hd5⟩
 replace hud:=hud.mono Zs.mono hle5
 replace hfd:=hfd.mono Ze.mono hle5
 replace hid:=hid.mono Zw.mono hle5
 replace hu3:=hu3.mono Zs.mono hle5
 have hu5n:=hu5.len
 have hf5n:=hf5.len
 have hi5n:=hi5.len
 refine xM (h:=xE (h:=xE (h:=xAl [_,_,_,_,_] Za2 (h:=fun b6=>xS [_,_,_,_,_] 5 [_,_,_,_,_] Zaq (h:=xA (h:=tL6 (Zg (Za (xM (h:=xM (h:=Zbm (h:=xM (h:=Zo (d:=38) rfl (fun g1=>by simp at g1) (fun g1=>?_))))))))))))))
 refine xL [_,_,_,_,_] ZW 4 (h:=xL [_,_,_,_,_] ZW 5 (h:=Zn (ZdH [1,2,3] rfl rfl rfl rfl rfl Zua rfl (ZaM.borrowL fun hm7=>Zcx _ _ _ _ _ _ _ _ _ _ _ _ ((Zy xd idd ud).1) ((Zy xd idd ud).1) _ (hu3.lendK Zs.any 0 rfl hm7 om) (hf3.lendK Zau.known Ze.mono 1 rfl hm7 om) (hi3.lendK Zb3.known Zw.mono 2 rfl hm7 om) (hu5.mono Zs.mono (Kn.le_add _ _)) (hf5.mono Ze.mono (Kn.le_add _ _)) (hi5.mono Zw.mono (Kn.le_add _ _))) ?_)))
 refine xN (h:=xF (h:=xM (h:=Zo (d:=44) rfl (fun g2=>by simp at g2) (fun g2=>?_))))
 refine xM (h:=Zbm (h:=xM (h:=Zo (d:=47) rfl (fun g3=>?_) (fun g3=>?_))))
 refine xM (h:=Zbm (h:=xT (h:=xF (h:=Zb rfl (fun g3b=>?_) (fun g3b=>?_)))))
 refine Za (xM (h:=xM (h:=ZE (h:=xM (h:=Zo (d:=55) rfl (fun g4=>?_) (fun g4=>by simp at g4))))))
 refine xL [_,_,_,_,_] ZW 4 (h:=xL [_,_,_,_,_] ZW 5 (h:=Zn (ZdH [1,2,3] rfl rfl rfl rfl rfl Zua rfl (ZaM.borrowL fun hm8=>Zcx _ _ _ _ _ _ _ _ _ _ _ _ ((Zy xd idd ud).1) ((Zy xd idd ud).1) _ (hu3.lendK Zs.any 0 rfl hm8 om) (hf3.lendK Zau.known Ze.mono 1 rfl hm8 om) (hi3.lendK Zb3.known Zw.mono 2 rfl hm8 om) (hu5.mono Zs.mono (Kn.le_add _ _)) (hf5.mono Ze.mono (Kn.le_add _ _)) (hi5.mono Zw.mono (Kn.le_add _ _))) ?_)))
 refine xT (h:=xA (h:=Zd (Zp ?_)))
 exact eR t1 (Zh (by simp))
 have h1:(Zy xd idd ud).2=1:=by simpa using g3b
 have hsame:=Zkz (x:=xd) (id:=idd) (u:=ud) (.inr h1)
 refine wSk (Za (xL [_,_,_,_,_] ZW 0 (h:=xM (h:=xQ Zzf rfl (ZhU hJ _ _ _ _ _ _ xd ud [105,110,98,111,120] om2 om2 om2 _ hud hfd hid) (h:=?_)))))
 intro v9 B9 hle9
 rintro ⟨qa9,ca9,qb9,cb9,rfl,hg9,hm9⟩
 replace hud:=hud.mono Zs.mono hle9
 replace hfd:=hfd.mono Ze.mono hle9
 replace hid:=hid.mono Zw.mono hle9
 replace hu3:=hu3.mono Zs.mono hle9
 have hg9n:=hg9.len
 have hm9n:=hm9.len
 refine xM (h:=xE (h:=xE (h:=xAl [_,_,_,_,_] ZdF (h:=fun b10=>xS [_,_,_,_,_] 6 [_,_,_,_,_] Zbq (h:=xA (h:=tL7 (Za (xL [_,_,_,_,_] ZW 4 (h:=xL [_,_,_,_,_] ZW 0 (h:=Zn (ZdH [1,2,3] rfl rfl rfl rfl rfl Zua rfl (ZaM.borrowL fun hm11=>Zcx _ _ _ _ _ _ _ _ _ _ _ _ ((Zy xd idd ud).1) xd _ (hu3.lendK Zs.any 0 rfl hm11 om) (hf3.lendK Zau.known Ze.mono 1 rfl hm11 om) (hi3.lendK Zb3.known Zw.mono 2 rfl hm11 om) (hud.mono Zs.mono (Kn.le_add _ _)) (hfd.mono Ze.mono (Kn.le_add _ _)) (hid.mono Zw.mono (Kn.le_add _ _))) ?_)))))))))))
 refine xM (h:=Zo (d:=69) rfl (fun g5=>?_) (fun g5=>by rw [hsame] at g5;simp at g5))
 refine xM (h:=ZE (h:=xM (h:=Zo (d:=72) rfl (fun g6=>?_) (fun g6=>by exact absurd h1 (by simpa using g6)))))
 refine xP (h:=xP (h:=xP (h:=xP (h:=xP (h:=xT (h:=xM (h:=xP (h:=xP (h:=xP (h:=xP (h:=xT (h:=xT (h:=xA (h:=Zd ?_))))))))))))))
 exact eR t1 (Zh (rfl))
 have h4:(Zy xd idd ud).2=4:=by simpa using g3
 obtain ⟨f,hf0,hbo,hfm⟩:=Zro (x:=xd) (id:=idd) (u:=ud) h4
 replace hf0:Zaw xd ud [105,110,98,111,120]=(f,true):=hf0
 have hsame:=Zkz (x:=xd) (id:=idd) (u:=ud) (.inl h4)
 refine xP (h:=xP (h:=xF (h:=xF (h:=Zb (t:=false) rfl (fun h=>Bool.noConfusion h) (fun _=>wSk (Za (xL [_,_,_,_,_] ZW 0 (h:=xM (h:=xQ Zzf rfl (ZhU hJ _ _ _ _ _ _ xd ud [105,110,98,111,120] om2 om2 om2 _ hud hfd hid) (h:=?_))))))))))
 intro v12 B12 hle12
 rintro ⟨qa12,ca12,qb12,cb12,rfl,hg12,hm12⟩
 replace hud:=hud.mono Zs.mono hle12
 replace hfd:=hfd.mono Ze.mono hle12
 replace hid:=hid.mono Zw.mono hle12
 replace hu3:=hu3.mono Zs.mono hle12
 have hg12n:=hg12.len
 have hm12n:=hm12.len
 refine xM (h:=xE (h:=xE (h:=xAl [_,_,_,_,_] ZdF (h:=fun b13=>xS [_,_,_,_,_] 6 [_,_,_,_,_] Zbq (h:=xA (h:=tL7 (Za (xL [_,_,_,_,_] ZW 4 (h:=xL [_,_,_,_,_] ZW 0 (h:=Zn (ZdH [1,2,3] rfl rfl rfl rfl rfl Zua rfl (ZaM.borrowL fun hm14=>Zcx _ _ _ _ _ _ _ _ _ _ _ _ ((Zy xd idd ud).1) xd _ (hu3.lendK Zs.any 0 rfl hm14 om) (hf3.lendK Zau.known Ze.mono 1 rfl hm14 om) (hi3.lendK Zb3.known Zw.mono 2 rfl hm14 om) (hud.mono Zs.mono (Kn.le_add _ _)) (hfd.mono Ze.mono (Kn.le_add _ _)) (hid.mono Zw.mono (Kn.le_add _ _))) ?_)))))))))))
 refine xM (h:=Zo (d:=69) rfl (fun g5=>?_) (fun g5=>by rw [hsame] at g5;simp at g5))
 refine xM (h:=ZE (h:=xM (h:=Zo (d:=72) rfl (fun g6=>by rw [h4] at g6;simp at g6) (fun g6=>?_))))
 refine xW ZbC (h:=xW ZaP (h:=x1 Zfl 6 (h:=xV Tryz.underlying38 (h:=ZE (h:=xF (h:=xM (h:=Zo (d:=79) rfl (fun g7=>?_) (fun g7=>?_))))))))
 refine xP (h:=xP (h:=xP (h:=xP (h:=xT (h:=xT (h:=xA (h:=Zd ?_)))))))
 exact eR t1 (Zh (rfl))
 refine xW ZbC (h:=xW ZbR (h:=x1 lk3 6 (h:=Zbp (h:=xF (h:=xT (h:=xA (h:=Zd ?_)))))))
 exact eR t1 (Zh (by rw [hf0] at g7 ⊢;exact hfm.elim (fun e=>by exfalso;simp at g7;omega) (fun e=>decide_eq_true e)))

theorem ZpR (q:Option Addr) (m cp:Nat) (hmc:m≤cp) (B:Kn) (hb:Zap B q m) (a:Nat→Addr) (hE:ErrsB 264 [0,3,1,2] B a) :∃code,Tryz.f5.body=some code∧wpS (pj (Zj7 Tryz.prog)) 94 code (Zfz (pj (Zj7 Tryz.prog)) [.tmp 2] (fun v B' Ls=>v = .bool true)) (Zdd [.slice q m cp] 0) [] B []:=by
 have hJ:=Zgg Tryz.prog
 refine ⟨_,rfl,(Za (xA (h:=Zg (Za (xM (h:=xV Tryz.underlying22 (h:=Zbp (h:=Zb rfl (fun g0=>?_) (fun g0=>?_)))))))))⟩
 refine Za (xA (h:=Zd (Zp ?_)))
 exact eR t1 rfl
 refine wSk (Za (xM (h:=xQ en7 rfl (Zhw _ _ _ oz _ (oy)) (h:=?_))))
 intro vd Bd hled
 rintro ⟨xd,p1d,p2d,p3d,d1d,d2d,d3d,idd,ud,rfl,hud,hfd,hid,hdd,hwd⟩
 replace hE:=hE.mono hled
 have hudn:=hud.len
 have hfdn:=hfd.len
 have hidn:=hid.len
 refine xM (h:=xE (h:=xE (h:=xE (h:=xAl [_,_,_,_,_] Za2 (h:=fun b2=>xS [_,_,_,_,_] 0 [_,_,_,_,_] Zaq (h:=xA (h:=xA (h:=tL1 (Za (xL [_,_,_,_,_] ZW 0 (h:=xM (h:=xM (h:=xC en8 rfl (ZeA hJ _ _ _ _ _ _ xd idd ud om2 om2 a _ hE hud hfd hid) (h:=?_))))))))))))))
 rintro _ B3 _ hle3 ⟨q13,c13,q23,c23,q33,c33,l13,l23,l33,rfl,rfl,hu3,hf3,hi3⟩
 replace hud:=hud.mono Zs.mono hle3
 replace hfd:=hfd.mono Ze.mono hle3
 replace hid:=hid.mono Zw.mono hle3
 refine xM (h:=xE (h:=xE (h:=xAl [_,_,_,_,_] Za2 (h:=fun b4=>xS [_,_,_,_,_] 4 [_,_,_,_,_] Zaq (h:=xA (h:=tL5 (Za (xL [_,_,_,_,_] ZW 0 (h:=xM (h:=xM (h:=xQ en9 rfl (Zdn _ _ _ _ _ _ xd idd ud om2 om2 _ hud hfd hid) (h:=?_))))))))))))
 intro v5 B5 hle5
 rintro ⟨p15,d15,p25,d25,p35,d35,rfl,hu5,hf5,hi5,hd5⟩
 replace hud:=hud.mono Zs.mono hle5
 replace hfd:=hfd.mono Ze.mono hle5
 replace hid:=hid.mono Zw.mono hle5
 replace hu3:=hu3.mono Zs.mono hle5
 have hu5n:=hu5.len
 have hf5n:=hf5.len
 have hi5n:=hi5.len
 refine xM (h:=xE (h:=xE (h:=xAl [_,_,_,_,_] Za2 (h:=fun b6=>xS [_,_,_,_,_] 5 [_,_,_,_,_] Zaq (h:=xA (h:=tL6 (Zg (Za (xM (h:=xM (h:=Zbm (h:=xM (h:=Zo (d:=41) rfl (fun g1=>by simp at g1) (fun g1=>?_))))))))))))))
 refine xL [_,_,_,_,_] ZW 4 (h:=xL [_,_,_,_,_] ZW 5 (h:=Zn (ZdH [1,2,3] rfl rfl rfl rfl rfl Zua rfl (ZaM.borrowL fun hm7=>Zcx _ _ _ _ _ _ _ _ _ _ _ _ ((Zy xd idd ud).1) ((Zy xd idd ud).1) _ (hu3.lendK Zs.any 0 rfl hm7 om) (hf3.lendK Zau.known Ze.mono 1 rfl hm7 om) (hi3.lendK Zb3.known Zw.mono 2 rfl hm7 om) (hu5.mono Zs.mono (Kn.le_add _ _)) (hf5.mono Ze.mono (Kn.le_add _ _)) (hi5.mono Zw.mono (Kn.le_add _ _))) ?_)))
 refine xN (h:=xF (h:=xM (h:=Zo (d:=47) rfl (fun g2=>by simp at g2) (fun g2=>?_))))
 refine xM (h:=Zbm (h:=xF (h:=Zb rfl (fun g3=>?_) (fun g3=>?_))))
 refine Za (xM (h:=xM (h:=ZE (h:=xM (h:=Zo (d:=54) rfl (fun g4=>?_) (fun g4=>by simp at g4))))))
 refine xL [_,_,_,_,_] ZW 4 (h:=xL [_,_,_,_,_] ZW 5 (h:=Zn (ZdH [1,2,3] rfl rfl rfl rfl rfl Zua rfl (ZaM.borrowL fun hm8=>Zcx _ _ _ _ _ _ _ _ _ _ _ _ ((Zy xd idd ud).1) ((Zy xd idd ud).1) _ (hu3.lendK Zs.any 0 rfl hm8 om) (hf3.lendK Zau.known Ze.mono 1 rfl hm8 om) (hi3.lendK Zb3.known Zw.mono 2 rfl hm8 om) (hu5.mono Zs.mono (Kn.le_add _ _)) (hf5.mono Ze.mono (Kn.le_add _ _)) (hi5.mono Zw.mono (Kn.le_add _ _))) ?_)))
 refine xT (h:=xA (h:=Zd (Zp ?_)))
 exact eR t1 (Zh (by simp))
 obtain ⟨hok,hf1,hf2,htl,hsame,hiu⟩:=ZpJ (x:=xd) (id:=idd) (u:=ud) (by simpa using g3)
 have huq:=ZhR (u:=ud) hok hiu
 have hub:=Zjg hok ud
 have hqt:=Zc3 (id:=idd) (u:=ud) (Zbt hok)
 rw [← hqt] at hf2 htl
 refine wSk (Za (xW ZaU (h:=xL [_,_] Zb4 0 (h:=xM (h:=xM (h:=xC ZvR rfl (Zdz _ _ xd.queue idd ud _ hid) (h:=?_)))))))
 rintro _ B9 _ hle9 ⟨l9,a9,c9,rfl,rfl,hd9,ht9⟩
 replace hid:=hid.mono Zw.mono hle9
 replace hud:=hud.mono Zs.mono hle9
 replace hfd:=hfd.mono Ze.mono hle9
 refine xM (h:=xE (h:=xE (h:=xE (h:=xAl [_,_] ZfL (h:=fun b10=>xS [_,_] 7 [_,_] Zdg (h:=xA (h:=xA (h:=tL8 (Za (xW ZbS (h:=x1 Zi1 0 (h:=xM (h:=xR Zyb rfl (Zf5 _ _ _ ud om2 _ hud) (h:=?_))))))))))))))
 refine xM (h:=xE (h:=xE (h:=xAl [_,_,_] Zgy (h:=fun b12=>xS [_,_,_] 8 [_,_,_] Ze3 (h:=xA (h:=tL9 (Zg (Z0 (keeps _ [0,4,8] _) mo kr ⟨Kn.le.refl _,Zad.refl _ _⟩ (fun _ _=>?_)))))))))
 refine aM 0 rfl (h:=aM 1 rfl (h:=ZaH (d:=76) rfl (fun g5=>?_) (fun g5=>by rw [hf1] at g5;cases g5)))
 refine aW 2 rfl Z4 (h:=aT 3 rfl (ZB fun D B L hI=>Zf rfl rfl ZcJ rfl (atL 4 (hI.2.2.1.trans rfl) rfl rfl) r4) (h:=aW 4 rfl Z4 (h:=aT 5 rfl (ZB fun D B L hI=>Zf rfl rfl ZcJ rfl (atL 0 (hI.2.1.trans rfl) rfl rfl) r4) (h:=Zq 6 kr rfl kr (ZdH [2] rfl rfl rfl rfl rfl Zze rfl (ZaM.borrowL fun hm13=>ZgM _ _ _ _ _ _ _ (hf3.lendK Zau.known Ze.mono 0 rfl hm13 om) (hfd.mono Ze.mono (Kn.le_add _ _))) ?_)))))
 refine ⟨⟨Kn.le.refl _,t3⟩,(aPT 7 rfl (h:=aM 8 rfl (h:=ZaH (d:=83) rfl (fun g6=>?_) (fun g6=>by rw [hsame] at g6;simp at g6))))⟩
 refine aT 9 rfl (ZB fun D B L hI=>ZT [_,_,_,_,_] rfl rfl ZW rfl (Z9 0 (hI.2.1.trans rfl) rfl rfl) r4) (h:=aM 10 rfl (h:=aM 12 rfl (h:=aT 13 rfl (ZB fun D B L hI=>Zn6 rfl rfl Tryz.underlying9 rfl r4) (h:=aW 15 rfl ZhZ (h:=aT 16 rfl (ZB fun D B L hI=>Zf rfl rfl lk3 rfl (atL 8 (hI.2.2.2.1.trans rfl) rfl rfl) r4) (h:=Zq 11 kr rfl kr (Zef rfl rfl Zz4 rfl (ZpA hJ _ _ _ _ _ _ xd ud om2 om2 _ hud hfd hid) ?_)))))))
 intro v14 B14 hle14
 rintro rfl
 refine ⟨⟨hle14,t3⟩,(aD 14 rfl (h:=Zm3 17 rfl (h:=aPT 18 rfl (h:=aA 19 rfl (h:=Zz kr kr ?_)))))⟩
 refine Zj (Zd ?_)
 exact eR t1 (Zh (by rw [huq];exact decide_eq_true oz))

end Go.Proofs.YtikanaeckjcelaaGreatDoor
