/-
  WHAT THE FUNCTIONS THAT THE LAWS REACH COMPUTE: each function's contract, proved off its printed body (the text is written by program). No condition beyond those that each theorem states.
-/
import Derived.Test.YtnfoidafdcgdbaaGreatDoorC3
namespace Go.Proofs.YtnfoidafdcgdbaaGreatDoor
open Go Go.BL
set_option linter.unusedVariables false
set_option linter.unusedSimpArgs false
set_option maxRecDepth 4000
variable {J : JoinT}
set_option maxHeartbeats 1600000 in
theorem Zrz (b:Nat) (q:Option Addr) (m cp p:Nat) (hp:p≤800000000000) (hm:m≤2000) (B:Kn) (hbm:Zak B q m):ZM (pj J) 51 [ptr ⟨b,0,none⟩] B [rd b q m cp p] (fun v B' Ls=>∃(q':Option Addr) (cp':Nat) (x:DBox) (k:Nat),v = .agg #[.int .i64 x.next,.slice q' x.mail.length cp']∧SlK B' q' cp' 3 ZJ x.mail∧k≤p+300∧Ls=[rd b q m cp k]):=by
 refine Zc 91 Tryz.func51 rfl rfl rfl (Nat.le_of_ble_eq_true rfl) ?_
 refine Za (xAl [_,_] ZeW (h:=fun b1=>Zw [_,_] rfl (Za (xM (h:=xX 0 rfl Za0 rfl (ZL _ _ _ _ _ _ oz oz oz hm _ hbm) (h:=?_))))))
 rintro _ _ ⟨rn0,rfl,rn0a,rn0b,rfl⟩
 refine xD (h:=xBs [] [] Tryz.underlying54 ZcW Zgf (h:=fun b3=>xB [(0,_),(1,_)] [_,_] [_,_] Zm3 ZeW (h:=xAl [_,_] ZeW (h:=fun b4=>xS [_,_] 3 [_,_] ZcC (h:=Zw [_,_,_,_] rfl (Za (xM (h:=xX 0 rfl Za0 rfl (ZL _ _ _ _ _ _ oz oz oz hm _ hbm) (h:=?_)))))))))
 rintro _ _ ⟨rb0,rfl,rb0a,rb0b,rfl⟩
 refine xA (h:=Zw [_,_,_,_] rfl (Zkl (α:=Int × Nat) [0,2,3] (fun g=>[(4,.int .i64 g.1)]) [0] (fun g=>[rd b q m cp g.2]) (fun g=>[]) (fun g Bx=>Bx=B∧0≤g.1∧g.1≤14∧g.2≤p+3) ?_ (fun g B6 hle6 hF=>?_)))
 refine Za (xM (h:=xX 0 rfl Za0 rfl (ZL _ _ _ _ _ _ oz oz oz hm _ hbm) (h:=?_)))
 rintro _ _ ⟨rc0,rfl,rc0a,rc0b,rfl⟩
 refine ZF (h:=Zw [_,_,_,_] rfl (Zd rfl (fun g0=>?_) (fun g0=>?_)))
 try simp only [sQ,ne_eq] at g0
 refine Ze (xA (h:=?_))
 exact ZH ⟨14,(((p+1)+1)+1)⟩ [0,1,2,3] ⟨rfl,so,so,so⟩ t4 rfl
 try simp only [sQ,ne_eq] at g0
 refine Zi ?_
 exact ZH ⟨rb0,(((p+1)+1)+1)⟩ [0,1,2,3] ⟨rfl,so,so,so⟩ t4 rfl
 obtain ⟨rfl,hg0,hg1,hgp⟩:=hF
 refine ZQ [(0,_),(2,_),(3,_),(4,_)] [_,_,_,_] t4 rfl (Zm (Za (xA (h:=Zr (ZU (α:=GBo) [0,2,3,4] (fun h=>[(5,.int .i64 h.k)]) [0,2,3] (fun h=>[rd b q m cp h.p,h.l,ZaY b4 [.int .i64 h.x.next,.slice h.a h.x.mail.length h.c] 56]) (fun h Bx=>h.k≤15∧h.p≤p+4+10*h.k∧0≤h.x.next∧h.x.next≤200∧h.x.mail.length≤20∧Z3 Bx h.l h.a h.c 150 3 ZJ h.x.mail) (fun h=>15 - h.k) ⟨0,g.2,_,_,_,⟨1+rn0,[]⟩⟩ t1 rfl (⟨Nat.zero_le _,(so),(so),(so),Nat.zero_le _,.lit0⟩) (fun h B8 hle8 hI=>?_))))))
 obtain ⟨hk,hhp,hh0,hh1,hhl,hv⟩:=hI
 replace hbm:=hbm.mono hle8
 refine ZQ [(0,_),(2,_),(3,_),(4,_),(5,_)] [_,_,_,_] t5 rfl (Zm (Za (xM (h:=xM (h:=Zai (h:=Zd rfl (fun g1=>?_) (fun g1=>?_)))))))
 try simp only [sQ,ne_eq] at g1
 refine Zi (Zf (Zm (Zr (Zm (Z9 (keeps _ [3] _) mo kr ⟨Kn.le.refl _,Zar.refl _ _⟩ (fun _ _=>?_))))))
 refine aT 0 rfl (ZK fun D B L hI=>Zag [_,_] rfl rfl ZbN rfl (Zad 3 (hI.2.1.trans rfl) rfl rfl) r4) (h:=aM 1 rfl (h:=aM 3 rfl (h:=Zap [2,9] kr kr kr ⟨?_,?_⟩)))
 refine (Zcp 0 rfl rfl rfl Za0 rfl (ZL _ _ _ _ _ _ oz oz oz hm _ hbm) ?_)
 rintro _ _ ⟨rf,rfl,rfa,rfb,rfl⟩
 refine ⟨⟨Kn.le.refl _,t1⟩,(Zap [4,9] kr kr kr ⟨?_,?_⟩)⟩
 refine (Zcp 0 rfl rfl rfl Zu3 rfl (ZeG _ _ _ _ _ oz hm _ hbm) ?_)
 rintro _ _ ⟨xt,rfl,hxt,rfl⟩
 refine ⟨⟨Kn.le.refl _,t1⟩,(Zap [5,9] kr kr kr ⟨?_,?_⟩)⟩
 refine (Z8 [2] rfl rfl rfl rfl Zvv rfl (ZM.borrow fun hma=>ZdD _ _ (⟨h.x.next,h.x.mail⟩:DBox) rf xt om2 _ (hv.lend ZJ.mono hma om)) ?_)
 rintro _ Ba _ hlea ⟨BBa,_,rfl,hBa,_,hma,_,la,aa,ca,rfl,rfl,hsa⟩
 replace hv:=hv.mono ZJ.mono hlea
 replace hbm:=hbm.mono hlea
 replace hsa:=hsa.anyK (B':=Ba) ZJ.any
 refine ⟨⟨hlea,t1⟩,?_⟩
 have hb1:=ZdJ (⟨h.x.next,h.x.mail⟩:DBox) rf xt
 refine aM 6 rfl (h:=aE 7 rfl (h:=aE 8 rfl (h:=Zv 9 kr rfl kr (Zam (l:=[_,_]) rfl rfl ZeW rfl (fun b12=>?_)))))
 refine ⟨⟨hlea,t1⟩,(ZbC 10 kr rfl kr kr (ZO [_,_] 5 [_,_] rfl rfl ZcC rfl rfl rfl rfl rfl rfl rfl rfl ?_))⟩
 refine aA 11 rfl (h:=ZD kr kr ?_)
 refine Zf (Zw [_,_,_,_,_,_] rfl (Zm (Za (xM (h:=Zd rfl (fun g2=>?_) (fun g2=>?_))))))
 try simp only [sQ,ne_eq] at g2
 refine Za (xL [_,_] ZbN 5 (h:=xS [_,_] 3 [_,_] ZcC (h:=Zw [_,_,_,_,_,_] rfl (Z9 (keeps _ [3] _) mo kr ⟨Kn.le.refl _,Zar.refl _ _⟩ (fun _ _=>?_)))))
 refine aW 0 rfl Zcz (h:=aT 1 rfl (ZK fun D B L hI=>Zl rfl rfl lk3 rfl (atL 3 (hI.2.1.trans rfl) rfl rfl) r4) (h:=aM 2 rfl (h:=Zv 3 kr rfl kr (Zcp 0 rfl rfl rfl Za0 rfl (ZL _ _ _ _ _ _ oz oz oz hm _ hbm) ?_))))
 rintro _ _ ⟨rd,rfl,rda,rdb,rfl⟩
 refine ⟨⟨Kn.le.refl _,t1⟩,(aD 4 rfl (h:=aW 5 rfl Zcz (h:=ZV 6 kr rfl kr kr kr (ZO [_] 3 [_,_] rfl rfl sz3 rfl rfl rfl rfl rfl rfl rfl rfl ?_))))⟩
 refine Zf (Za (xM (h:=xX 0 rfl Za0 rfl (ZL _ _ _ _ _ _ oz oz oz hm _ hbm) (h:=?_))))
 rintro _ _ ⟨re,rfl,rea,reb,rfl⟩
 refine ZF (h:=Zw [_,_,_,_,_,_] rfl (Zd rfl (fun g3=>?_) (fun g3=>?_)))
 try simp only [sQ,ne_eq] at g3
 refine Ze (xL [_,_] ZbN 3 (h:=Zn (Z8 [4] rfl rfl rfl rfl ZrY rfl (ZM.borrow fun hm15=>Zcs _ _ (⟨((ZP (⟨h.x.next,h.x.mail⟩:DBox) rf xt).1.next+rd),(ZP (⟨h.x.next,h.x.mail⟩:DBox) rf xt).1.mail⟩:DBox) _ (hsa.lend ZJ.mono hm15 om)) ?_)))
 rintro _ B15 _ hle15 ⟨BB15,_,rfl,hB15,_,hm15,_,l15,a15,c15,l15b,a15b,c15b,rfl,rfl,hs15,hs15b⟩
 replace hv:=hv.mono ZJ.mono hle15
 replace hsa:=hsa.mono ZJ.mono hle15
 replace hbm:=hbm.mono hle15
 replace hs15:=hs15.anyK (B':=B15) ZJ.any
 replace hs15b:=hs15b.anyK (B':=B15) Zbu.any
 refine xM (h:=xE (h:=xE (h:=xS [_,_] 3 [_,_] ZcC (h:=Zz (Zf (Ze (xM (h:=xD (h:=xA (h:=?_))))))))))
 exact ZE ⟨h.k+1,((((h.p+1)+2)+1)+1),l15,a15,c15,⟨((expunge (⟨((ZP (⟨h.x.next,h.x.mail⟩:DBox) rf xt).1.next+rd),(ZP (⟨h.x.next,h.x.mail⟩:DBox) rf xt).1.mail⟩:DBox)).1.next),((expunge (⟨((ZP (⟨h.x.next,h.x.mail⟩:DBox) rf xt).1.next+rd),(ZP (⟨h.x.next,h.x.mail⟩:DBox) rf xt).1.mail⟩:DBox)).1.mail)⟩⟩ [0,1,6,3] so2 ⟨so,so,by first | (simp only [];omega) | exact (ZC _).1,by first | (simp only [];omega) | exact Int.le_trans (ZC _).2.1 (by decide),by first | (simp only [];omega) | exact Nat.le_trans (ZC _).2.2 (by decide),hs15⟩ t5 rfl
 try simp only [sQ,ne_eq] at g3
 refine Zi (Zz (Zf (Ze (xM (h:=xD (h:=xA (h:=?_)))))))
 exact ZE ⟨h.k+1,((((h.p+1)+2)+1)+1),la,aa,ca,⟨((ZP (⟨h.x.next,h.x.mail⟩:DBox) rf xt).1.next+rd),((ZP (⟨h.x.next,h.x.mail⟩:DBox) rf xt).1.mail)⟩⟩ [0,1,4,3] so2 ⟨so,so,by first | (simp only [];omega) | exact (ZC _).1,by first | (simp only [];omega) | exact Int.le_trans (ZC _).2.1 (by decide),by first | (simp only [];omega) | exact Nat.le_trans (ZC _).2.2 (by decide),hsa⟩ t5 rfl
 try simp only [sQ,ne_eq] at g2
 refine Zi (Zf (Za (xM (h:=xX 0 rfl Za0 rfl (ZL _ _ _ _ _ _ oz oz oz hm _ hbm) (h:=?_)))))
 rintro _ _ ⟨re,rfl,rea,reb,rfl⟩
 refine ZF (h:=Zw [_,_,_,_,_,_] rfl (Zd rfl (fun g3=>?_) (fun g3=>?_)))
 try simp only [sQ,ne_eq] at g3
 refine Ze (xL [_,_] ZbN 3 (h:=Zn (Z8 [2] rfl rfl rfl rfl ZrY rfl (ZM.borrow fun hm17=>Zcs _ _ (⟨h.x.next,h.x.mail⟩:DBox) _ (hv.lend ZJ.mono hm17 om)) ?_)))
 rintro _ B17 _ hle17 ⟨BB17,_,rfl,hB17,_,hm17,_,l17,a17,c17,l17b,a17b,c17b,rfl,rfl,hs17,hs17b⟩
 replace hv:=hv.mono ZJ.mono hle17
 replace hsa:=hsa.mono ZJ.mono hle17
 replace hbm:=hbm.mono hle17
 replace hs17:=hs17.anyK (B':=B17) ZJ.any
 replace hs17b:=hs17b.anyK (B':=B17) Zbu.any
 refine xM (h:=xE (h:=xE (h:=xS [_,_] 3 [_,_] ZcC (h:=Zz (Zf (Ze (xM (h:=xD (h:=xA (h:=?_))))))))))
 exact ZE ⟨h.k+1,(((h.p+1)+2)+1),l17,a17,c17,⟨((expunge (⟨h.x.next,h.x.mail⟩:DBox)).1.next),((expunge (⟨h.x.next,h.x.mail⟩:DBox)).1.mail)⟩⟩ [0,1,6,3] so2 ⟨so,so,by first | (simp only [];omega) | exact (ZC _).1,by first | (simp only [];omega) | exact Int.le_trans (ZC _).2.1 (by decide),by first | (simp only [];omega) | exact Nat.le_trans (ZC _).2.2 (by decide),hs17⟩ t5 rfl
 try simp only [sQ,ne_eq] at g3
 refine Zi (Zz (Zf (Ze (xM (h:=xD (h:=xA (h:=?_)))))))
 exact ZE ⟨h.k+1,(((h.p+1)+2)+1),h.l,h.a,h.c,⟨h.x.next,h.x.mail⟩⟩ [0,1,2,3] so2 ⟨so,so,by first | (simp only [];omega) | exact (ZC _).1,by first | (simp only [];omega) | exact Int.le_trans (ZC _).2.1 (by decide),by first | (simp only [];omega) | exact Nat.le_trans (ZC _).2.2 (by decide),hv⟩ t5 rfl
 refine (Zam (l:=[_,_]) rfl rfl ZeW rfl (fun b18=>⟨⟨Kn.le.refl _,t1⟩,(Zv 5 kr rfl kr (Z8 [2] rfl rfl rfl rfl Zvv rfl (ZM.borrow fun hma=>ZdD _ _ (⟨h.x.next,h.x.mail⟩:DBox) rf xt om2 _ (hv.lend ZJ.mono hma om)) ?_))⟩))
 rintro _ Ba _ hlea ⟨BBa,_,rfl,hBa,_,hma,_,la,aa,ca,rfl,rfl,hsa⟩
 replace hv:=hv.mono ZJ.mono hlea
 replace hbm:=hbm.mono hlea
 replace hsa:=hsa.anyK (B':=Ba) ZJ.any
 refine ⟨⟨hlea,t1⟩,?_⟩
 have hb1:=ZdJ (⟨h.x.next,h.x.mail⟩:DBox) rf xt
 refine aM 6 rfl (h:=aE 7 rfl (h:=aE 8 rfl (h:=ZbC 10 kr rfl kr kr (ZO [_,_] 4 [_,_] rfl rfl ZcC rfl rfl rfl rfl rfl rfl rfl rfl ?_))))
 refine aA 11 rfl (h:=ZD kr kr ?_)
 refine Zf (Zw [_,_,_,_,_,_] rfl (Zm (Za (xM (h:=Zd rfl (fun g2=>?_) (fun g2=>?_))))))
 try simp only [sQ,ne_eq] at g2
 refine Za (xL [_,_] ZbN 4 (h:=xS [_,_] 3 [_,_] ZcC (h:=Zw [_,_,_,_,_,_] rfl (Z9 (keeps _ [3] _) mo kr ⟨Kn.le.refl _,Zar.refl _ _⟩ (fun _ _=>?_)))))
 refine aW 0 rfl Zcz (h:=aT 1 rfl (ZK fun D B L hI=>Zl rfl rfl lk3 rfl (atL 3 (hI.2.1.trans rfl) rfl rfl) r4) (h:=aM 2 rfl (h:=Zv 3 kr rfl kr (Zcp 0 rfl rfl rfl Za0 rfl (ZL _ _ _ _ _ _ oz oz oz hm _ hbm) ?_))))
 rintro _ _ ⟨rd,rfl,rda,rdb,rfl⟩
 refine ⟨⟨Kn.le.refl _,t1⟩,(aD 4 rfl (h:=aW 5 rfl Zcz (h:=ZV 6 kr rfl kr kr kr (ZO [_] 3 [_,_] rfl rfl sz3 rfl rfl rfl rfl rfl rfl rfl rfl ?_))))⟩
 refine Zf (Za (xM (h:=xX 0 rfl Za0 rfl (ZL _ _ _ _ _ _ oz oz oz hm _ hbm) (h:=?_))))
 rintro _ _ ⟨re,rfl,rea,reb,rfl⟩
 refine ZF (h:=Zw [_,_,_,_,_,_] rfl (Zd rfl (fun g3=>?_) (fun g3=>?_)))
 try simp only [sQ,ne_eq] at g3
 refine Ze (xL [_,_] ZbN 3 (h:=Zn (Z8 [5] rfl rfl rfl rfl ZrY rfl (ZM.borrow fun hm22=>Zcs _ _ (⟨((ZP (⟨h.x.next,h.x.mail⟩:DBox) rf xt).1.next+rd),(ZP (⟨h.x.next,h.x.mail⟩:DBox) rf xt).1.mail⟩:DBox) _ (hsa.lend ZJ.mono hm22 om)) ?_)))
 rintro _ B22 _ hle22 ⟨BB22,_,rfl,hB22,_,hm22,_,l22,a22,c22,l22b,a22b,c22b,rfl,rfl,hs22,hs22b⟩
 replace hv:=hv.mono ZJ.mono hle22
 replace hsa:=hsa.mono ZJ.mono hle22
 replace hbm:=hbm.mono hle22
 replace hs22:=hs22.anyK (B':=B22) ZJ.any
 replace hs22b:=hs22b.anyK (B':=B22) Zbu.any
 refine xM (h:=xE (h:=xE (h:=xS [_,_] 3 [_,_] ZcC (h:=Zz (Zf (Ze (xM (h:=xD (h:=xA (h:=?_))))))))))
 exact ZE ⟨h.k+1,((((h.p+1)+2)+1)+1),l22,a22,c22,⟨((expunge (⟨((ZP (⟨h.x.next,h.x.mail⟩:DBox) rf xt).1.next+rd),(ZP (⟨h.x.next,h.x.mail⟩:DBox) rf xt).1.mail⟩:DBox)).1.next),((expunge (⟨((ZP (⟨h.x.next,h.x.mail⟩:DBox) rf xt).1.next+rd),(ZP (⟨h.x.next,h.x.mail⟩:DBox) rf xt).1.mail⟩:DBox)).1.mail)⟩⟩ [0,1,6,3] so2 ⟨so,so,by first | (simp only [];omega) | exact (ZC _).1,by first | (simp only [];omega) | exact Int.le_trans (ZC _).2.1 (by decide),by first | (simp only [];omega) | exact Nat.le_trans (ZC _).2.2 (by decide),hs22⟩ t5 rfl
 try simp only [sQ,ne_eq] at g3
 refine Zi (Zz (Zf (Ze (xM (h:=xD (h:=xA (h:=?_)))))))
 exact ZE ⟨h.k+1,((((h.p+1)+2)+1)+1),la,aa,ca,⟨((ZP (⟨h.x.next,h.x.mail⟩:DBox) rf xt).1.next+rd),((ZP (⟨h.x.next,h.x.mail⟩:DBox) rf xt).1.mail)⟩⟩ [0,1,5,3] so2 ⟨so,so,by first | (simp only [];omega) | exact (ZC _).1,by first | (simp only [];omega) | exact Int.le_trans (ZC _).2.1 (by decide),by first | (simp only [];omega) | exact Nat.le_trans (ZC _).2.2 (by decide),hsa⟩ t5 rfl
 try simp only [sQ,ne_eq] at g2
 refine Zi (Zf (Za (xM (h:=xX 0 rfl Za0 rfl (ZL _ _ _ _ _ _ oz oz oz hm _ hbm) (h:=?_)))))
 rintro _ _ ⟨re,rfl,rea,reb,rfl⟩
 refine ZF (h:=Zw [_,_,_,_,_,_] rfl (Zd rfl (fun g3=>?_) (fun g3=>?_)))
 try simp only [sQ,ne_eq] at g3
 refine Ze (xL [_,_] ZbN 3 (h:=Zn (Z8 [2] rfl rfl rfl rfl ZrY rfl (ZM.borrow fun hm24=>Zcs _ _ (⟨h.x.next,h.x.mail⟩:DBox) _ (hv.lend ZJ.mono hm24 om)) ?_)))
 rintro _ B24 _ hle24 ⟨BB24,_,rfl,hB24,_,hm24,_,l24,a24,c24,l24b,a24b,c24b,rfl,rfl,hs24,hs24b⟩
 replace hv:=hv.mono ZJ.mono hle24
 replace hsa:=hsa.mono ZJ.mono hle24
 replace hbm:=hbm.mono hle24
 replace hs24:=hs24.anyK (B':=B24) ZJ.any
 replace hs24b:=hs24b.anyK (B':=B24) Zbu.any
 refine xM (h:=xE (h:=xE (h:=xS [_,_] 3 [_,_] ZcC (h:=Zz (Zf (Ze (xM (h:=xD (h:=xA (h:=?_))))))))))
 exact ZE ⟨h.k+1,(((h.p+1)+2)+1),l24,a24,c24,⟨((expunge (⟨h.x.next,h.x.mail⟩:DBox)).1.next),((expunge (⟨h.x.next,h.x.mail⟩:DBox)).1.mail)⟩⟩ [0,1,6,3] so2 ⟨so,so,by first | (simp only [];omega) | exact (ZC _).1,by first | (simp only [];omega) | exact Int.le_trans (ZC _).2.1 (by decide),by first | (simp only [];omega) | exact Nat.le_trans (ZC _).2.2 (by decide),hs24⟩ t5 rfl
 try simp only [sQ,ne_eq] at g3
 refine Zi (Zz (Zf (Ze (xM (h:=xD (h:=xA (h:=?_)))))))
 exact ZE ⟨h.k+1,(((h.p+1)+2)+1),h.l,h.a,h.c,⟨h.x.next,h.x.mail⟩⟩ [0,1,2,3] so2 ⟨so,so,by first | (simp only [];omega) | exact (ZC _).1,by first | (simp only [];omega) | exact Int.le_trans (ZC _).2.1 (by decide),by first | (simp only [];omega) | exact Nat.le_trans (ZC _).2.2 (by decide),hv⟩ t5 rfl
 refine (Zam (l:=[_,_]) rfl rfl ZeW rfl (fun b25=>⟨⟨Kn.le.refl _,t1⟩,(Zv 4 kr rfl kr (Zcp 0 rfl rfl rfl Zu3 rfl (ZeG _ _ _ _ _ oz hm _ hbm) ?_))⟩))
 rintro _ _ ⟨xt,rfl,hxt,rfl⟩
 refine ⟨⟨Kn.le.refl _,t1⟩,(Zv 5 kr rfl kr (Z8 [2] rfl rfl rfl rfl Zvv rfl (ZM.borrow fun hma=>ZdD _ _ (⟨h.x.next,h.x.mail⟩:DBox) rf xt om2 _ (hv.lend ZJ.mono hma om)) ?_))⟩
 rintro _ Ba _ hlea ⟨BBa,_,rfl,hBa,_,hma,_,la,aa,ca,rfl,rfl,hsa⟩
 replace hv:=hv.mono ZJ.mono hlea
 replace hbm:=hbm.mono hlea
 replace hsa:=hsa.anyK (B':=Ba) ZJ.any
 refine ⟨⟨hlea,t1⟩,?_⟩
 have hb1:=ZdJ (⟨h.x.next,h.x.mail⟩:DBox) rf xt
 refine aM 6 rfl (h:=aE 7 rfl (h:=aE 8 rfl (h:=ZbC 10 kr rfl kr kr (ZO [_,_] 4 [_,_] rfl rfl ZcC rfl rfl rfl rfl rfl rfl rfl rfl ?_))))
 refine aA 11 rfl (h:=ZD kr kr ?_)
 refine Zf (Zw [_,_,_,_,_,_] rfl (Zm (Za (xM (h:=Zd rfl (fun g2=>?_) (fun g2=>?_))))))
 try simp only [sQ,ne_eq] at g2
 refine Za (xL [_,_] ZbN 4 (h:=xS [_,_] 3 [_,_] ZcC (h:=Zw [_,_,_,_,_,_] rfl (Z9 (keeps _ [3] _) mo kr ⟨Kn.le.refl _,Zar.refl _ _⟩ (fun _ _=>?_)))))
 refine aW 0 rfl Zcz (h:=aT 1 rfl (ZK fun D B L hI=>Zl rfl rfl lk3 rfl (atL 3 (hI.2.1.trans rfl) rfl rfl) r4) (h:=aM 2 rfl (h:=Zv 3 kr rfl kr (Zcp 0 rfl rfl rfl Za0 rfl (ZL _ _ _ _ _ _ oz oz oz hm _ hbm) ?_))))
 rintro _ _ ⟨rd,rfl,rda,rdb,rfl⟩
 refine ⟨⟨Kn.le.refl _,t1⟩,(aD 4 rfl (h:=aW 5 rfl Zcz (h:=ZV 6 kr rfl kr kr kr (ZO [_] 3 [_,_] rfl rfl sz3 rfl rfl rfl rfl rfl rfl rfl rfl ?_))))⟩
 refine Zf (Za (xM (h:=xX 0 rfl Za0 rfl (ZL _ _ _ _ _ _ oz oz oz hm _ hbm) (h:=?_))))
 rintro _ _ ⟨re,rfl,rea,reb,rfl⟩
 refine ZF (h:=Zw [_,_,_,_,_,_] rfl (Zd rfl (fun g3=>?_) (fun g3=>?_)))
 try simp only [sQ,ne_eq] at g3
 refine Ze (xL [_,_] ZbN 3 (h:=Zn (Z8 [5] rfl rfl rfl rfl ZrY rfl (ZM.borrow fun hm30=>Zcs _ _ (⟨((ZP (⟨h.x.next,h.x.mail⟩:DBox) rf xt).1.next+rd),(ZP (⟨h.x.next,h.x.mail⟩:DBox) rf xt).1.mail⟩:DBox) _ (hsa.lend ZJ.mono hm30 om)) ?_)))
 rintro _ B30 _ hle30 ⟨BB30,_,rfl,hB30,_,hm30,_,l30,a30,c30,l30b,a30b,c30b,rfl,rfl,hs30,hs30b⟩
 replace hv:=hv.mono ZJ.mono hle30
 replace hsa:=hsa.mono ZJ.mono hle30
 replace hbm:=hbm.mono hle30
 replace hs30:=hs30.anyK (B':=B30) ZJ.any
 replace hs30b:=hs30b.anyK (B':=B30) Zbu.any
 refine xM (h:=xE (h:=xE (h:=xS [_,_] 3 [_,_] ZcC (h:=Zz (Zf (Ze (xM (h:=xD (h:=xA (h:=?_))))))))))
 exact ZE ⟨h.k+1,((((h.p+1)+2)+1)+1),l30,a30,c30,⟨((expunge (⟨((ZP (⟨h.x.next,h.x.mail⟩:DBox) rf xt).1.next+rd),(ZP (⟨h.x.next,h.x.mail⟩:DBox) rf xt).1.mail⟩:DBox)).1.next),((expunge (⟨((ZP (⟨h.x.next,h.x.mail⟩:DBox) rf xt).1.next+rd),(ZP (⟨h.x.next,h.x.mail⟩:DBox) rf xt).1.mail⟩:DBox)).1.mail)⟩⟩ [0,1,6,3] so2 ⟨so,so,by first | (simp only [];omega) | exact (ZC _).1,by first | (simp only [];omega) | exact Int.le_trans (ZC _).2.1 (by decide),by first | (simp only [];omega) | exact Nat.le_trans (ZC _).2.2 (by decide),hs30⟩ t5 rfl
 try simp only [sQ,ne_eq] at g3
 refine Zi (Zz (Zf (Ze (xM (h:=xD (h:=xA (h:=?_)))))))
 exact ZE ⟨h.k+1,((((h.p+1)+2)+1)+1),la,aa,ca,⟨((ZP (⟨h.x.next,h.x.mail⟩:DBox) rf xt).1.next+rd),((ZP (⟨h.x.next,h.x.mail⟩:DBox) rf xt).1.mail)⟩⟩ [0,1,5,3] so2 ⟨so,so,by first | (simp only [];omega) | exact (ZC _).1,by first | (simp only [];omega) | exact Int.le_trans (ZC _).2.1 (by decide),by first | (simp only [];omega) | exact Nat.le_trans (ZC _).2.2 (by decide),hsa⟩ t5 rfl
 try simp only [sQ,ne_eq] at g2
 refine Zi (Zf (Za (xM (h:=xX 0 rfl Za0 rfl (ZL _ _ _ _ _ _ oz oz oz hm _ hbm) (h:=?_)))))
 rintro _ _ ⟨re,rfl,rea,reb,rfl⟩
 refine ZF (h:=Zw [_,_,_,_,_,_] rfl (Zd rfl (fun g3=>?_) (fun g3=>?_)))
 try simp only [sQ,ne_eq] at g3
 refine Ze (xL [_,_] ZbN 3 (h:=Zn (Z8 [2] rfl rfl rfl rfl ZrY rfl (ZM.borrow fun hm32=>Zcs _ _ (⟨h.x.next,h.x.mail⟩:DBox) _ (hv.lend ZJ.mono hm32 om)) ?_)))
 rintro _ B32 _ hle32 ⟨BB32,_,rfl,hB32,_,hm32,_,l32,a32,c32,l32b,a32b,c32b,rfl,rfl,hs32,hs32b⟩
 replace hv:=hv.mono ZJ.mono hle32
 replace hsa:=hsa.mono ZJ.mono hle32
 replace hbm:=hbm.mono hle32
 replace hs32:=hs32.anyK (B':=B32) ZJ.any
 replace hs32b:=hs32b.anyK (B':=B32) Zbu.any
 refine xM (h:=xE (h:=xE (h:=xS [_,_] 3 [_,_] ZcC (h:=Zz (Zf (Ze (xM (h:=xD (h:=xA (h:=?_))))))))))
 exact ZE ⟨h.k+1,(((h.p+1)+2)+1),l32,a32,c32,⟨((expunge (⟨h.x.next,h.x.mail⟩:DBox)).1.next),((expunge (⟨h.x.next,h.x.mail⟩:DBox)).1.mail)⟩⟩ [0,1,6,3] so2 ⟨so,so,by first | (simp only [];omega) | exact (ZC _).1,by first | (simp only [];omega) | exact Int.le_trans (ZC _).2.1 (by decide),by first | (simp only [];omega) | exact Nat.le_trans (ZC _).2.2 (by decide),hs32⟩ t5 rfl
 try simp only [sQ,ne_eq] at g3
 refine Zi (Zz (Zf (Ze (xM (h:=xD (h:=xA (h:=?_)))))))
 exact ZE ⟨h.k+1,(((h.p+1)+2)+1),h.l,h.a,h.c,⟨h.x.next,h.x.mail⟩⟩ [0,1,2,3] so2 ⟨so,so,by first | (simp only [];omega) | exact (ZC _).1,by first | (simp only [];omega) | exact Int.le_trans (ZC _).2.1 (by decide),by first | (simp only [];omega) | exact Nat.le_trans (ZC _).2.2 (by decide),hv⟩ t5 rfl
 refine (Zam (l:=[_,_]) rfl rfl ZeW rfl (fun b33=>⟨⟨Kn.le.refl _,t1⟩,(Zv 2 kr rfl kr (Zcp 0 rfl rfl rfl Za0 rfl (ZL _ _ _ _ _ _ oz oz oz hm _ hbm) ?_))⟩))
 rintro _ _ ⟨rf,rfl,rfa,rfb,rfl⟩
 refine ⟨⟨Kn.le.refl _,t1⟩,(Zv 4 kr rfl kr (Zcp 0 rfl rfl rfl Zu3 rfl (ZeG _ _ _ _ _ oz hm _ hbm) ?_))⟩
 rintro _ _ ⟨xt,rfl,hxt,rfl⟩
 refine ⟨⟨Kn.le.refl _,t1⟩,(Zv 5 kr rfl kr (Z8 [2] rfl rfl rfl rfl Zvv rfl (ZM.borrow fun hma=>ZdD _ _ (⟨h.x.next,h.x.mail⟩:DBox) rf xt om2 _ (hv.lend ZJ.mono hma om)) ?_))⟩
 rintro _ Ba _ hlea ⟨BBa,_,rfl,hBa,_,hma,_,la,aa,ca,rfl,rfl,hsa⟩
 replace hv:=hv.mono ZJ.mono hlea
 replace hbm:=hbm.mono hlea
 replace hsa:=hsa.anyK (B':=Ba) ZJ.any
 refine ⟨⟨hlea,t1⟩,?_⟩
 have hb1:=ZdJ (⟨h.x.next,h.x.mail⟩:DBox) rf xt
 refine aM 6 rfl (h:=aE 7 rfl (h:=aE 8 rfl (h:=ZbC 10 kr rfl kr kr (ZO [_,_] 4 [_,_] rfl rfl ZcC rfl rfl rfl rfl rfl rfl rfl rfl ?_))))
 refine aA 11 rfl (h:=ZD kr kr ?_)
 refine Zf (Zw [_,_,_,_,_,_] rfl (Zm (Za (xM (h:=Zd rfl (fun g2=>?_) (fun g2=>?_))))))
 try simp only [sQ,ne_eq] at g2
 refine Za (xL [_,_] ZbN 4 (h:=xS [_,_] 3 [_,_] ZcC (h:=Zw [_,_,_,_,_,_] rfl (Z9 (keeps _ [3] _) mo kr ⟨Kn.le.refl _,Zar.refl _ _⟩ (fun _ _=>?_)))))
 refine aW 0 rfl Zcz (h:=aT 1 rfl (ZK fun D B L hI=>Zl rfl rfl lk3 rfl (atL 3 (hI.2.1.trans rfl) rfl rfl) r4) (h:=aM 2 rfl (h:=Zv 3 kr rfl kr (Zcp 0 rfl rfl rfl Za0 rfl (ZL _ _ _ _ _ _ oz oz oz hm _ hbm) ?_))))
 rintro _ _ ⟨rd,rfl,rda,rdb,rfl⟩
 refine ⟨⟨Kn.le.refl _,t1⟩,(aD 4 rfl (h:=aW 5 rfl Zcz (h:=ZV 6 kr rfl kr kr kr (ZO [_] 3 [_,_] rfl rfl sz3 rfl rfl rfl rfl rfl rfl rfl rfl ?_))))⟩
 refine Zf (Za (xM (h:=xX 0 rfl Za0 rfl (ZL _ _ _ _ _ _ oz oz oz hm _ hbm) (h:=?_))))
 rintro _ _ ⟨re,rfl,rea,reb,rfl⟩
 refine ZF (h:=Zw [_,_,_,_,_,_] rfl (Zd rfl (fun g3=>?_) (fun g3=>?_)))
 try simp only [sQ,ne_eq] at g3
 refine Ze (xL [_,_] ZbN 3 (h:=Zn (Z8 [5] rfl rfl rfl rfl ZrY rfl (ZM.borrow fun hm39=>Zcs _ _ (⟨((ZP (⟨h.x.next,h.x.mail⟩:DBox) rf xt).1.next+rd),(ZP (⟨h.x.next,h.x.mail⟩:DBox) rf xt).1.mail⟩:DBox) _ (hsa.lend ZJ.mono hm39 om)) ?_)))
 rintro _ B39 _ hle39 ⟨BB39,_,rfl,hB39,_,hm39,_,l39,a39,c39,l39b,a39b,c39b,rfl,rfl,hs39,hs39b⟩
 replace hv:=hv.mono ZJ.mono hle39
 replace hsa:=hsa.mono ZJ.mono hle39
 replace hbm:=hbm.mono hle39
 replace hs39:=hs39.anyK (B':=B39) ZJ.any
 replace hs39b:=hs39b.anyK (B':=B39) Zbu.any
 refine xM (h:=xE (h:=xE (h:=xS [_,_] 3 [_,_] ZcC (h:=Zz (Zf (Ze (xM (h:=xD (h:=xA (h:=?_))))))))))
 exact ZE ⟨h.k+1,((((h.p+1)+2)+1)+1),l39,a39,c39,⟨((expunge (⟨((ZP (⟨h.x.next,h.x.mail⟩:DBox) rf xt).1.next+rd),(ZP (⟨h.x.next,h.x.mail⟩:DBox) rf xt).1.mail⟩:DBox)).1.next),((expunge (⟨((ZP (⟨h.x.next,h.x.mail⟩:DBox) rf xt).1.next+rd),(ZP (⟨h.x.next,h.x.mail⟩:DBox) rf xt).1.mail⟩:DBox)).1.mail)⟩⟩ [0,1,6,3] so2 ⟨so,so,by first | (simp only [];omega) | exact (ZC _).1,by first | (simp only [];omega) | exact Int.le_trans (ZC _).2.1 (by decide),by first | (simp only [];omega) | exact Nat.le_trans (ZC _).2.2 (by decide),hs39⟩ t5 rfl
 try simp only [sQ,ne_eq] at g3
 refine Zi (Zz (Zf (Ze (xM (h:=xD (h:=xA (h:=?_)))))))
 exact ZE ⟨h.k+1,((((h.p+1)+2)+1)+1),la,aa,ca,⟨((ZP (⟨h.x.next,h.x.mail⟩:DBox) rf xt).1.next+rd),((ZP (⟨h.x.next,h.x.mail⟩:DBox) rf xt).1.mail)⟩⟩ [0,1,5,3] so2 ⟨so,so,by first | (simp only [];omega) | exact (ZC _).1,by first | (simp only [];omega) | exact Int.le_trans (ZC _).2.1 (by decide),by first | (simp only [];omega) | exact Nat.le_trans (ZC _).2.2 (by decide),hsa⟩ t5 rfl
 try simp only [sQ,ne_eq] at g2
 refine Zi (Zf (Za (xM (h:=xX 0 rfl Za0 rfl (ZL _ _ _ _ _ _ oz oz oz hm _ hbm) (h:=?_)))))
 rintro _ _ ⟨re,rfl,rea,reb,rfl⟩
 refine ZF (h:=Zw [_,_,_,_,_,_] rfl (Zd rfl (fun g3=>?_) (fun g3=>?_)))
 try simp only [sQ,ne_eq] at g3
 refine Ze (xL [_,_] ZbN 3 (h:=Zn (Z8 [2] rfl rfl rfl rfl ZrY rfl (ZM.borrow fun hm41=>Zcs _ _ (⟨h.x.next,h.x.mail⟩:DBox) _ (hv.lend ZJ.mono hm41 om)) ?_)))
 rintro _ B41 _ hle41 ⟨BB41,_,rfl,hB41,_,hm41,_,l41,a41,c41,l41b,a41b,c41b,rfl,rfl,hs41,hs41b⟩
 replace hv:=hv.mono ZJ.mono hle41
 replace hsa:=hsa.mono ZJ.mono hle41
 replace hbm:=hbm.mono hle41
 replace hs41:=hs41.anyK (B':=B41) ZJ.any
 replace hs41b:=hs41b.anyK (B':=B41) Zbu.any
 refine xM (h:=xE (h:=xE (h:=xS [_,_] 3 [_,_] ZcC (h:=Zz (Zf (Ze (xM (h:=xD (h:=xA (h:=?_))))))))))
 exact ZE ⟨h.k+1,(((h.p+1)+2)+1),l41,a41,c41,⟨((expunge (⟨h.x.next,h.x.mail⟩:DBox)).1.next),((expunge (⟨h.x.next,h.x.mail⟩:DBox)).1.mail)⟩⟩ [0,1,6,3] so2 ⟨so,so,by first | (simp only [];omega) | exact (ZC _).1,by first | (simp only [];omega) | exact Int.le_trans (ZC _).2.1 (by decide),by first | (simp only [];omega) | exact Nat.le_trans (ZC _).2.2 (by decide),hs41⟩ t5 rfl
 try simp only [sQ,ne_eq] at g3
 refine Zi (Zz (Zf (Ze (xM (h:=xD (h:=xA (h:=?_)))))))
 exact ZE ⟨h.k+1,(((h.p+1)+2)+1),h.l,h.a,h.c,⟨h.x.next,h.x.mail⟩⟩ [0,1,2,3] so2 ⟨so,so,by first | (simp only [];omega) | exact (ZC _).1,by first | (simp only [];omega) | exact Int.le_trans (ZC _).2.1 (by decide),by first | (simp only [];omega) | exact Nat.le_trans (ZC _).2.2 (by decide),hv⟩ t5 rfl
 try simp only [sQ,ne_eq] at g1
 refine ZY (Zal (Z6 (ZN (Zf (Zm (Za (xM (h:=xX 0 rfl Za0 rfl (ZL _ _ _ _ _ _ oz oz oz hm _ hbm) (h:=?_)))))))))
 rintro _ _ ⟨rz0,rfl,rz0a,rz0b,rfl⟩
 refine Zw [_,_,_,_] rfl (Zr (Za (ZF (h:=xA (h:=Zd rfl (fun g4=>?_) (fun g4=>?_))))))
 try simp only [sQ,ne_eq] at g4
 refine Ze (xBs [(0,_),(1,_),(2,_),(3,_)] [_,_,_,_] Tryz.underlying142 sz3 zo3 (h:=fun b43=>xM (h:=xX 0 rfl Za0 rfl (ZL _ _ _ _ _ _ oz oz oz hm _ hbm) (h:=?_))))
 rintro _ _ ⟨rz1,rfl,rz1a,rz1b,rfl⟩
 have hvq45:Z3 B8 (ZaY b43 (([0,99,100,101]:List Int).map fun x=>.int .i64 x) 3) (some ⟨b43,0,none⟩) 4 3 1 Zbu ([0,99,100,101]:List Int):=Z3.ints
 obtain ⟨e,he⟩:=Zd7 (xs:=([0,99,100,101]:List Int)) (i:=rz1) om om
 obtain ⟨bb47,_,hp47,rfl,hw47,hc47⟩:=hvq45.row he
 refine xIp hp47 Tryz.underlying142 sz3 (h:=Zn (Zl rfl rfl lk3 rfl (hc47 _ 4 rfl 0 _ rfl) (xW Zcz (h:=xS [_] 3 [_,_] sz3 (h:=Zz (Zf (Za (xL [_,_] ZbN 3 (h:=ZZ 2 rfl hv ZJ.mono om3 (fun B48 hle48 hr48=>?_))))))))))
 replace hvq45:=hvq45.mono Zbu.mono hle48
 replace hbm:=hbm.mono hle48
 have hr48n:=hr48.len
 refine xS [_,_] 1 [_,_] ZcC (h:=Zw [_,_,_,_,_] rfl (Zg ?_))
 exact Zaf .ret (.inl rfl) [_] [0] rfl ⟨⟨_,rfl,.inr ⟨[_,_],ZbN,Zad 1 rfl rfl rfl,rfl⟩⟩,trivial⟩ ⟨_,_,⟨e,h.x.mail⟩,_,(ol),hr48,oz,rfl⟩
 try simp only [sQ,ne_eq] at g4
 refine Za (ZF (h:=xA (h:=Zd rfl (fun g5=>?_) (fun g5=>?_))))
 try simp only [sQ,ne_eq] at g5
 refine Za (xW ZaU (h:=x1 ZfJ 3 (h:=xV Tryz.underlying54 (h:=ZbA (h:=Zd rfl (fun g6=>?_) (fun g6=>?_))))))
 try simp only [sQ,ne_eq] at g6
 refine Z9 (keeps _ [2,3] _) mo kr ⟨Kn.le.refl _,Zar.refl _ _⟩ (fun _ _=>?_)
 refine aW 0 rfl ZaU (h:=aT 1 rfl (ZK fun D B L hI=>Zl rfl rfl ZfJ rfl (atL 3 (hI.2.2.1.trans rfl) rfl rfl) r4) (h:=aM 2 rfl (h:=aW 3 rfl ZaU (h:=aT 4 rfl (ZK fun D B L hI=>Zl rfl rfl ZfJ rfl (atL 3 (hI.2.2.1.trans rfl) rfl rfl) r4) (h:=aV 5 rfl Tryz.underlying54 (h:=aM 7 rfl (h:=Zv 6 kr rfl kr (Zcp 0 rfl rfl rfl Za0 rfl (ZL _ _ _ _ _ _ oz oz oz hm _ hbm) ?_))))))))
 rintro _ _ ⟨rz1,rfl,rz1a,rz1b,rfl⟩
 refine ⟨⟨Kn.le.refl _,t2⟩,(Zv 8 kr rfl kr (Zcp 0 rfl rfl rfl Za0 rfl (ZL _ _ _ _ _ _ oz oz oz hm _ hbm) ?_))⟩
 rintro _ _ ⟨rz2,rfl,rz2a,rz2b,rfl⟩
 refine ⟨⟨Kn.le.refl _,t2⟩,?_⟩
 obtain ⟨z,hz⟩:=Zd7 (xs:=h.x.mail) (i:=rz1) om om
 obtain ⟨bb52,_,hp52,⟨rfl,hb52⟩,hw52,hc52⟩:=hv.row hz
 refine aT 9 rfl (ZK fun D B L hI=>ZfO hp52 rfl rfl Tryz.underlying54 ZcW rfl rfl om om r4) (h:=?_)
 refine aW 10 rfl ZeO (h:=ZV 11 kr rfl kr kr kr (Zd8 (k:=(rz1).toNat) (off:=0) (⟨rz2,z.flags,z.text⟩) [_] 2 hv hp52 hz rfl rfl sz3 rfl rfl rfl rfl rfl rfl (by rintro _ ⟨rfl,e1⟩;exact ⟨rfl,e1⟩) (fun l53 hv53=>?_)))
 refine Zz (Zf (Za (xL [_,_] ZbN 3 (h:=ZZ 2 rfl hv53 ZJ.mono om3 (fun B54 hle54 hr54=>?_)))))
 replace hbm:=hbm.mono hle54
 have hr54n:=hr54.len
 refine xS [_,_] 1 [_,_] ZcC (h:=Zw [_,_,_,_] rfl (Zg ?_))
 exact Zaf .ret (.inl rfl) [_] [0] rfl ⟨⟨_,rfl,.inr ⟨[_,_],ZbN,Zad 1 rfl rfl rfl,rfl⟩⟩,trivial⟩ ⟨_,_,⟨h.x.next,(h.x.mail.set ((rz1).toNat) (⟨rz2,z.flags,z.text⟩))⟩,_,(ol),hr54,oz,rfl⟩
 try simp only [sQ,ne_eq] at g6
 refine Zi (Zz (Zf (Za (xL [_,_] ZbN 3 (h:=ZZ 2 rfl hv ZJ.mono om3 (fun B55 hle55 hr55=>?_))))))
 replace hbm:=hbm.mono hle55
 have hr55n:=hr55.len
 refine xS [_,_] 1 [_,_] ZcC (h:=Zw [_,_,_,_] rfl (Zg ?_))
 exact Zaf .ret (.inl rfl) [_] [0] rfl ⟨⟨_,rfl,.inr ⟨[_,_],ZbN,Zad 1 rfl rfl rfl,rfl⟩⟩,trivial⟩ ⟨_,_,⟨h.x.next,h.x.mail⟩,_,(ol),hr55,oz,rfl⟩
 try simp only [sQ,ne_eq] at g5
 refine Za (ZF (h:=xA (h:=Zd rfl (fun g7=>?_) (fun g7=>?_))))
 try simp only [sQ,ne_eq] at g7
 refine Za (xW ZaU (h:=x1 ZfJ 3 (h:=xV Tryz.underlying54 (h:=ZbA (h:=Zd rfl (fun g8=>?_) (fun g8=>?_))))))
 try simp only [sQ,ne_eq] at g8
 refine Z9 (keeps _ [2,3] _) mo kr ⟨Kn.le.refl _,Zar.refl _ _⟩ (fun _ _=>?_)
 refine aW 0 rfl ZaU (h:=aT 1 rfl (ZK fun D B L hI=>Zl rfl rfl ZfJ rfl (atL 3 (hI.2.2.1.trans rfl) rfl rfl) r4) (h:=aM 2 rfl (h:=aW 3 rfl ZaU (h:=aT 4 rfl (ZK fun D B L hI=>Zl rfl rfl ZfJ rfl (atL 3 (hI.2.2.1.trans rfl) rfl rfl) r4) (h:=aV 5 rfl Tryz.underlying54 (h:=Zv 6 kr rfl kr (Zcp 0 rfl rfl rfl Za0 rfl (ZL _ _ _ _ _ _ oz oz oz hm _ hbm) ?_)))))))
 rintro _ _ ⟨rz1,rfl,rz1a,rz1b,rfl⟩
 refine ⟨⟨Kn.le.refl _,t2⟩,?_⟩
 obtain ⟨z,hz⟩:=Zd7 (xs:=h.x.mail) (i:=rz1) om om
 obtain ⟨bb58,_,hp58,⟨rfl,hb58⟩,hw58,hc58⟩:=hv.row hz
 refine aT 7 rfl (ZK fun D B L hI=>ZfO hp58 rfl rfl Tryz.underlying54 ZcW rfl rfl om om r4) (h:=?_)
 refine aW 8 rfl ZfB (h:=ZV 9 kr rfl kr kr kr (Zd8 (k:=(rz1).toNat) (off:=1) (⟨z.uid,32,z.text⟩) [_] 2 hv hp58 hz rfl rfl sz3 rfl rfl rfl rfl rfl rfl (by rintro _ ⟨rfl,e1⟩;exact ⟨rfl,e1⟩) (fun l59 hv59=>?_)))
 refine Zz (Zf (Za (xL [_,_] ZbN 3 (h:=ZZ 2 rfl hv59 ZJ.mono om3 (fun B60 hle60 hr60=>?_)))))
 replace hbm:=hbm.mono hle60
 have hr60n:=hr60.len
 refine xS [_,_] 1 [_,_] ZcC (h:=Zw [_,_,_,_] rfl (Zg ?_))
 exact Zaf .ret (.inl rfl) [_] [0] rfl ⟨⟨_,rfl,.inr ⟨[_,_],ZbN,Zad 1 rfl rfl rfl,rfl⟩⟩,trivial⟩ ⟨_,_,⟨h.x.next,(h.x.mail.set ((rz1).toNat) (⟨z.uid,32,z.text⟩))⟩,_,(ol),hr60,oz,rfl⟩
 try simp only [sQ,ne_eq] at g8
 refine Zi (Zz (Zf (Za (xL [_,_] ZbN 3 (h:=ZZ 2 rfl hv ZJ.mono om3 (fun B61 hle61 hr61=>?_))))))
 replace hbm:=hbm.mono hle61
 have hr61n:=hr61.len
 refine xS [_,_] 1 [_,_] ZcC (h:=Zw [_,_,_,_] rfl (Zg ?_))
 exact Zaf .ret (.inl rfl) [_] [0] rfl ⟨⟨_,rfl,.inr ⟨[_,_],ZbN,Zad 1 rfl rfl rfl,rfl⟩⟩,trivial⟩ ⟨_,_,⟨h.x.next,h.x.mail⟩,_,(ol),hr61,oz,rfl⟩
 try simp only [sQ,ne_eq] at g7
 refine Zi (Zz (Zf (Za (xL [_,_] ZbN 3 (h:=ZZ 2 rfl hv ZJ.mono om3 (fun B62 hle62 hr62=>?_))))))
 replace hbm:=hbm.mono hle62
 have hr62n:=hr62.len
 refine xS [_,_] 1 [_,_] ZcC (h:=Zw [_,_,_,_] rfl (Zg ?_))
 exact Zaf .ret (.inl rfl) [_] [0] rfl ⟨⟨_,rfl,.inr ⟨[_,_],ZbN,Zad 1 rfl rfl rfl,rfl⟩⟩,trivial⟩ ⟨_,_,⟨h.x.next,h.x.mail⟩,_,(ol),hr62,oz,rfl⟩

set_option maxHeartbeats 800000 in
theorem ZkY (b:Nat) (q:Option Addr) (m cp p:Nat) (hp:p≤700000000000) (hm:m≤2000) (B:Kn) (hbm:Zak B q m):ZM (pj J) 23 [ptr ⟨b,0,none⟩] B [rd b q m cp p] (fun v B' Ls=>∃(x:DHost) (p1 p2 p3:Option Addr) (d1 d2 d3 k:Nat),v = .agg #[str x.domain,.slice p1 x.users.length d1,.slice p2 x.folders.length d2,.int .i64 x.queue.next,.slice p3 x.queue.items.length d3]∧SlK B' p1 d1 3 Zh x.users∧SlK B' p2 d2 5 Zb x.folders∧SlK B' p3 d3 4 Zj x.queue.items∧x.domain.length≤2000000∧ZA x=true∧k≤p+6000∧Ls=[rd b q m cp k]):=by
 refine Zc 37 Tryz.func23 rfl rfl rfl (Nat.le_of_ble_eq_true rfl) ?_
 refine Za (xAl [_,_,_,_,_] Zba (h:=fun b1=>Zw [_,_] rfl (Za (xB [(0,_),(1,_),(2,_)] [_,_,_] [_,_,_] Zrh Zge (h:=xM (h:=xX 0 rfl Za0 rfl (ZL _ _ _ _ _ _ oz oz oz hm _ hbm) (h:=?_)))))))
 rintro _ _ ⟨ra,rfl,raa,rab,rfl⟩
 refine xD (h:=xB [(0,_),(1,_),(2,_)] [_,_,_] [_,_,_] Zrh Zge (h:=xM (h:=xX 0 rfl Za0 rfl (ZL _ _ _ _ _ _ oz oz oz hm _ hbm) (h:=?_))))
 rintro _ _ ⟨rb,rfl,rba,rbb,rfl⟩
 refine xD (h:=xB [(0,_),(1,_),(2,_)] [_,_,_] [_,_,_] Zrh Zge (h:=xBs [(0,_),(1,_),(2,_)] [_,_,_,_,_,_,_,_,_] Tryz.underlying23 ZeY Zge (h:=fun b4=>?_)))
 have hdl:(Zff ra rb).length=3:=rfl
 have hvq:Z3 B (ZaY b4 [str [97,109,121],str [97,49],int 60,str [98,111,98],str [98,50],int (20+ra),str [99,121,100],str [99,51],int (100+rb)] 76) (some ⟨b4,0,none⟩) 3 76 3 Zh (Zff ra rb):=Z3.lit (rows:=[[str [97,109,121],str [97,49],int 60],[str [98,111,98],str [98,50],int (20+ra)],[str [99,121,100],str [99,51],int (100+rb)]]) (.cons ⟨rfl,by simp,by simp⟩ (.cons ⟨rfl,by simp,by simp⟩ (.cons ⟨rfl,by simp,by simp⟩ .nil))) (by intro row hr;simp only [List.mem_cons,List.not_mem_nil,or_false] at hr;rcases hr with rfl | rfl | rfl <;> rfl)
 have hdu:=Zqr (a:=ra) (b:=rb) oz oz oz oz
 refine ZZ 2 rfl hvq Zh.mono om3 (fun B5 hle5 hr5=>?_)
 replace hbm:=hbm.mono hle5
 have hr5n:=hr5.len
 refine Zn (Zav rfl rfl ZxH rfl (Zph _ _ [104,111,115,116,46,111,114,103] (Zff ra rb) om2 om2 _ hr5) ?_)
 intro vh Bh hleh
 rintro ⟨q1h,c1h,q2h,c2h,q3h,c3h,rfl,huh,hfh,hih⟩
 replace hr5:=hr5.mono Zh.mono hleh
 replace hbm:=hbm.mono hleh
 have huhn:=huh.len
 have hfhn:=hfh.len
 have hihn:=hih.len
 refine xM (h:=xE (h:=xE (h:=xAl [_,_,_,_,_] Zba (h:=fun b7=>xS [_,_,_,_,_] 3 [_,_,_,_,_] Zaw (h:=xA (h:=Zw [_,_,_,_] rfl (Za (xM (h:=xX 0 rfl Za0 rfl (ZL _ _ _ _ _ _ oz oz oz hm _ hbm) (h:=?_))))))))))
 rintro _ _ ⟨rn,rfl,rna,rnb,rfl⟩
 refine xA (h:=Zw [_,_,_,_] rfl (Zm (Za (xA (h:=Zr (ZU (α:=GHo) [0,2,3,5] (fun g=>[(6,.int .i64 g.k)]) [0,3] (fun g=>[rd b q m cp g.p,ZaY b7 [str g.x.domain,.slice g.q1 g.x.users.length g.c1,.slice g.q2 g.x.folders.length g.c2,.int .i64 g.x.queue.next,.slice g.q3 g.x.queue.items.length g.c3] 29]) (fun g Bx=>g.k≤40∧g.p≤p+4+60*g.k∧ZA g.x=true∧g.x.domain.length≤2000000∧SlK Bx g.q1 g.c1 3 Zh g.x.users∧SlK Bx g.q2 g.c2 5 Zb g.x.folders∧SlK Bx g.q3 g.c3 4 Zj g.x.queue.items) (fun g=>40 - g.k) ⟨0,_,(Zcd [104,111,115,116,46,111,114,103] (Zff ra rb)).1,_,_,_,_,_,_⟩ t1 rfl (⟨Nat.zero_le _,(so),(by rw [hdu.1];exact hdu.2),(by rw [hdu.1];exact (by decide:(8:Nat)≤2000000)),huh,hfh,hih⟩) (fun g B9 hle9 hI=>?_)))))))
 obtain ⟨hk,hgp,hgo,hgd,hgu,hgf,hgi⟩:=hI
 have hgin:=hgi.len
 have hleft:=Zmp hgo
 replace hbm:=hbm.mono hle9
 refine ZQ [(0,_),(2,_),(3,_),(5,_),(6,_)] [_,_,_,_] t5 rfl (Zm (Za (xM (h:=xM (h:=Zai (h:=Zd rfl (fun g1=>?_) (fun g1=>?_)))))))
 try simp only [sQ,ne_eq] at g1
 refine Zi (Zf (Zm (Zr (Z9 (keeps _ [3] _) mo kr ⟨Kn.le.refl _,Zar.refl _ _⟩ (fun _ _=>?_)))))
 refine aT 0 rfl (ZK fun D B L hI=>Zag [_,_,_,_,_] rfl rfl Z2 rfl (Zad 3 (hI.2.1.trans rfl) rfl rfl) r4) (h:=aM 1 rfl (h:=aT 2 rfl (ZK fun D B L hI=>Zag [_,_,_,_,_] rfl rfl Z2 rfl (Zad 3 (hI.2.1.trans rfl) rfl rfl) r4) (h:=Zv 3 kr rfl kr (Z8 [0] rfl rfl rfl rfl ZxF rfl (Zoa _ _ _ _ _ oz hm _ _ _ _ _ _ g.x (oy) _ hbm hgi) ?_))))
 rintro _ Be _ hlee ⟨ee,ke,rfl,hee1,hee2,hee3,hee4,hee5,hke,rfl⟩
 replace hgu:=hgu.mono Zh.mono hlee
 replace hgf:=hgf.mono Zb.mono hlee
 replace hgi:=hgi.mono Zj.mono hlee
 replace hbm:=hbm.mono hlee
 refine ⟨⟨hlee,t1⟩,(Zv 4 kr rfl kr (Zav rfl rfl ZxG rfl (Zq7 _ _ _ _ _ _ g.x ee om2 om2 om2 om2 om2 om2 _ hgu hgf hgi) ?_))⟩
 intro vy By hley
 rintro ⟨p1y,d1y,p2y,d2y,p3y,d3y,rfl,huy,hfy,hiy,hdy⟩
 replace hgu:=hgu.mono Zh.mono hley
 replace hgf:=hgf.mono Zb.mono hley
 replace hgi:=hgi.mono Zj.mono hley
 replace hbm:=hbm.mono hley
 have huyn:=huy.len
 have hfyn:=hfy.len
 have hiyn:=hiy.len
 refine ⟨⟨(hlee.trans hley),t1⟩,(aM 5 rfl (h:=aE 6 rfl (h:=aE 7 rfl (h:=ZbC 8 kr rfl kr kr (ZO [_,_,_,_,_] 3 [_,_,_,_,_] rfl rfl Zaw rfl rfl rfl rfl rfl rfl rfl rfl ?_)))))⟩
 refine ZD kr kr ?_
 refine Zz (Zf (Ze (xM (h:=xD (h:=xA (h:=?_))))))
 exact ZE ⟨g.k+1,ke,(hDo g.x ee).1,_,_,_,_,_,_⟩ [0,1,2,3] so2 ⟨so,so,ZuQ hgo,hdy,huy,hfy,hiy⟩ t5 rfl
 try simp only [sQ,ne_eq] at g1
 refine ZY (Zal (Z6 (ZN (Zf (Za (xL [_,_,_,_,_] Z2 3 (h:=xS [_,_,_,_,_] 1 [_,_,_,_,_] Zaw (h:=Zw [_,_,_,_] rfl (Zg ?_)))))))))
 exact Zaf .ret (.inl rfl) [_] [0] rfl ⟨⟨_,rfl,.inr ⟨[_,_,_,_,_],Z2,Zad 1 rfl rfl rfl,rfl⟩⟩,trivial⟩ ⟨_,_,_,_,_,_,_,_,rfl,hgu,hgf,hgi,oy,hgo,so2,rfl⟩

set_option maxHeartbeats 800000 in
theorem Zn7 (b:Nat) (q:Option Addr) (m cp p:Nat) (hp:p≤650000000000) (hm:m≤2000) (B:Kn) (hbm:Zak B q m):ZM (pj J) 22 [ptr ⟨b,0,none⟩] B [rd b q m cp p] (fun v B' Ls=>∃(x:DHost) (p1 p2 p3:Option Addr) (d1 d2 d3 k:Nat),v = .agg #[str x.domain,.slice p1 x.users.length d1,.slice p2 x.folders.length d2,.int .i64 x.queue.next,.slice p3 x.queue.items.length d3]∧SlK B' p1 d1 3 Zh x.users∧SlK B' p2 d2 5 Zb x.folders∧SlK B' p3 d3 4 Zj x.queue.items∧x.domain.length≤2000000∧k≤p+8000∧Ls=[rd b q m cp k]):=by
 refine Zc 57 Tryz.func22 rfl rfl rfl (Nat.le_of_ble_eq_true rfl) ?_
 refine Za (xAl [_,_,_,_,_] Zba (h:=fun b1=>Zw [_,_] rfl (Za (xM (h:=Zn (Z8 [0] rfl rfl rfl rfl Zw8 rfl (ZkY _ _ _ _ _ oz hm _ hbm) ?_))))))
 rintro _ Bh _ hleh ⟨xh,p1h,p2h,p3h,d1h,d2h,d3h,kh,rfl,huh,hfh,hih,hdh,hoh,hkh,rfl⟩
 replace hbm:=hbm.mono hleh
 have huhn:=huh.len
 have hfhn:=hfh.len
 have hihn:=hih.len
 have hpos:=Zof hoh
 refine Zn (Zac rfl rfl Znp rfl (Zbd _ _ _ _ _ _ xh _ huh hfh hih) ?_)
 rintro _ B3 _ hle3 ⟨l3,a3,c3,q13,c13,q33,c33,rfl,rfl,hu3,hs3,hi3⟩
 replace huh:=huh.mono Zh.mono hle3
 replace hfh:=hfh.mono Zb.mono hle3
 replace hih:=hih.mono Zj.mono hle3
 replace hbm:=hbm.mono hle3
 have hu3n:=hu3.len
 have hi3n:=hi3.len
 refine xAl [_,_,_,_,_] Zba (h:=fun b4=>xS [_,_,_,_,_] 3 [_,_,_,_,_] Zaw (h:=Zw [_,_,_,_] rfl (Zm (Za (xM (h:=xX 0 rfl Za0 rfl (ZL _ _ _ _ _ _ oz oz oz hm _ hbm) (h:=?_)))))))
 rintro _ _ ⟨rk,rfl,rka,rkb,rfl⟩
 refine Zw [_,_,_,_] rfl (Zr (Za (ZF (h:=xA (h:=Zd rfl (fun g0=>?_) (fun g0=>?_))))))
 try simp only [sQ,ne_eq] at g0
 refine Ze (xM (h:=xX 0 rfl ZxM rfl (Zmf _ _ _ _ _ oz hm _ hbm) (h:=?_)))
 rintro _ _ ⟨x6,rfl,hx6,rfl⟩
 refine xW Znj (h:=xS [_] 3 [_,_,_,_,_] sz9 (h:=Zz (Zf (Za (xL [_,_,_,_,_] Z2 3 (h:=ZZ 2 rfl hs3 Zb.mono om3 (fun B7 hle7 hr7=>?_)))))))
 replace hu3:=hu3.mono Zh.mono hle7
 replace hi3:=hi3.mono Zj.mono hle7
 replace hbm:=hbm.mono hle7
 have hr7n:=hr7.len
 refine xS [_,_,_,_,_] 1 [_,_,_,_,_] Zaw (h:=Zw [_,_,_,_] rfl (Zg ?_))
 exact Zaf .ret (.inl rfl) [_] [0] rfl ⟨⟨_,rfl,.inr ⟨[_,_,_,_,_],Z2,Zad 1 rfl rfl rfl,rfl⟩⟩,trivial⟩ ⟨⟨x6,xh.users,xh.folders,⟨xh.queue.next,xh.queue.items⟩⟩,_,_,_,_,_,_,_,(ol),hu3,hr7,hi3,by first | assumption | omega | (simp only [];omega),so2,rfl⟩
 try simp only [sQ,ne_eq] at g0
 refine Za (ZF (h:=xA (h:=Zd rfl (fun g1=>?_) (fun g1=>?_))))
 try simp only [sQ,ne_eq] at g1
 refine Ze (xM (h:=Zn (Z8 [0] rfl rfl rfl rfl ZxL rfl (Zn8 _ _ _ _ _ oz hm _ hbm) ?_)))
 rintro _ B8 _ hle8 ⟨q8,cp8,us8,p8,rfl,hu8,hun8,hp8,rfl⟩
 replace hs3:=hs3.mono Zb.mono hle8
 replace hu3:=hu3.mono Zh.mono hle8
 replace hi3:=hi3.mono Zj.mono hle8
 replace hbm:=hbm.mono hle8
 have hu8n:=hu8.len
 refine xW Zcn (h:=xS [_] 3 [_,_,_,_,_] Zxe (h:=Zz (Zf (Za (xL [_,_,_,_,_] Z2 3 (h:=ZZ 2 rfl hs3 Zb.mono om3 (fun B9 hle9 hr9=>?_)))))))
 replace hu8:=hu8.mono Zh.mono hle9
 replace hi3:=hi3.mono Zj.mono hle9
 replace hbm:=hbm.mono hle9
 have hr9n:=hr9.len
 refine xS [_,_,_,_,_] 1 [_,_,_,_,_] Zaw (h:=Zw [_,_,_,_] rfl (Zg ?_))
 exact Zaf .ret (.inl rfl) [_] [0] rfl ⟨⟨_,rfl,.inr ⟨[_,_,_,_,_],Z2,Zad 1 rfl rfl rfl,rfl⟩⟩,trivial⟩ ⟨⟨xh.domain,us8,xh.folders,⟨xh.queue.next,xh.queue.items⟩⟩,_,_,_,_,_,_,_,(ol),hu8,hr9,hi3,by first | assumption | omega | (simp only [];omega),so2,rfl⟩
 try simp only [sQ,ne_eq] at g1
 refine Za (ZF (h:=xA (h:=Zd rfl (fun g2=>?_) (fun g2=>?_))))
 try simp only [sQ,ne_eq] at g2
 refine Ze (xW Z0 (h:=x1 Zcy 3 (h:=ZZ 2 rfl hs3 Zb.mono om3 (fun B10 hle10 hr10=>?_))))
 replace hu3:=hu3.mono Zh.mono hle10
 replace hi3:=hi3.mono Zj.mono hle10
 replace hbm:=hbm.mono hle10
 have hr10n:=hr10.len
 obtain ⟨hq11,q11,cp11,hv11,hr11⟩:=hr10.cutE 1 xh.folders.length om om
 have hr11n:=hr11.len
 refine Zn (ZgH (a:=1) (b:=xh.folders.length) hv11 om hq11 rfl rfl Tryz.underlying24 Zbj rfl ⟨_,_,rfl,by first | omega | (simp;done) | (simp;omega)⟩ rfl ?_)
 refine xW Z0 (h:=xS [_] 3 [_,_,_,_,_] ZqU (h:=Zz (Zf (Za (xL [_,_,_,_,_] Z2 3 (h:=xS [_,_,_,_,_] 1 [_,_,_,_,_] Zaw (h:=Zw [_,_,_,_] rfl (Zg ?_))))))))
 exact Zaf .ret (.inl rfl) [_] [0] rfl ⟨⟨_,rfl,.inr ⟨[_,_,_,_,_],Z2,Zad 1 rfl rfl rfl,rfl⟩⟩,trivial⟩ ⟨⟨xh.domain,xh.users,((xh.folders.take xh.folders.length).drop 1),⟨xh.queue.next,xh.queue.items⟩⟩,_,_,_,_,_,_,_,(ol),hu3,hr11,hi3,by first | assumption | omega | (simp only [];omega),so2,rfl⟩
 try simp only [sQ,ne_eq] at g2
 refine Za (ZF (h:=xA (h:=Zd rfl (fun g3=>?_) (fun g3=>?_))))
 try simp only [sQ,ne_eq] at g3
 refine Z9 (keeps _ [2,3] _) mo kr ⟨Kn.le.refl _,Zar.refl _ _⟩ (fun _ _=>?_)
 refine aW 0 rfl Z0 (h:=aT 1 rfl (ZK fun D B L hI=>Zl rfl rfl Zcy rfl (atL 3 (hI.2.2.1.trans rfl) rfl rfl) r4) (h:=aM 2 rfl (h:=aW 3 rfl Z0 (h:=aT 4 rfl (ZK fun D B L hI=>Zl rfl rfl Zcy rfl (atL 3 (hI.2.2.1.trans rfl) rfl rfl) r4) (h:=aV 5 rfl Tryz.underlying24 (h:=aM 7 rfl (h:=Zv 6 kr rfl kr (Zcp 0 rfl rfl rfl Za0 rfl (ZL _ _ _ _ _ _ oz oz oz hm _ hbm) ?_))))))))
 rintro _ _ ⟨rw,rfl,rwa,rwb,rfl⟩
 refine ⟨⟨Kn.le.refl _,t2⟩,(Zv 8 kr rfl kr (Z8 [0] rfl rfl rfl rfl ZxK rfl (Zry _ _ _ _ _ oz hm _ hbm) ?_))⟩
 rintro _ Ba _ hlea ⟨qa,cpa,gsa,ka,rfl,hga,hka,rfl⟩
 replace hs3:=hs3.mono Zb.mono hlea
 replace hu3:=hu3.mono Zh.mono hlea
 replace hi3:=hi3.mono Zj.mono hlea
 replace hbm:=hbm.mono hlea
 have hgan:=hga.len
 refine ⟨⟨hlea,t2⟩,?_⟩
 obtain ⟨z,hz⟩:=Zd7 (xs:=xh.folders) (i:=rw) om om
 obtain ⟨bb15,_,hp15,⟨qg15,cg15,qm15,cm15,rfl,hg15,hm15,hb15,hb15b⟩,hw15,hc15⟩:=hs3.row hz
 have hg15n:=hg15.len
 have hm15n:=hm15.len
 have hm15s:=Z4 hm15
 refine aT 9 rfl (ZK fun D B L hI=>ZfO hp15 rfl rfl Tryz.underlying24 Zbj rfl rfl om om r4) (h:=?_)
 refine aW 10 rfl ZdI (h:=ZV 11 kr rfl kr kr kr (Zd8 (k:=(rw).toNat) (off:=2) (⟨z.owner,z.name,gsa,z.next,z.mail⟩) [_] 2 hs3 hp15 hz rfl rfl Zuv rfl rfl rfl rfl rfl rfl (by rintro _ ⟨_,_,_,_,rfl,_,e2,e3,e4⟩;exact ⟨_,_,_,_,rfl,hga,e2,e3,e4⟩) (fun l16 hv16=>?_)))
 refine Zz (Zf (Za (xL [_,_,_,_,_] Z2 3 (h:=ZZ 2 rfl hv16 Zb.mono om3 (fun B17 hle17 hr17=>?_)))))
 replace hga:=hga.mono ZG.mono hle17
 replace hg15:=hg15.mono ZG.mono hle17
 replace hm15:=hm15.mono ZJ.mono hle17
 replace hu3:=hu3.mono Zh.mono hle17
 replace hi3:=hi3.mono Zj.mono hle17
 replace hbm:=hbm.mono hle17
 have hr17n:=hr17.len
 refine xS [_,_,_,_,_] 1 [_,_,_,_,_] Zaw (h:=Zw [_,_,_,_] rfl (Zg ?_))
 exact Zaf .ret (.inl rfl) [_] [0] rfl ⟨⟨_,rfl,.inr ⟨[_,_,_,_,_],Z2,Zad 1 rfl rfl rfl,rfl⟩⟩,trivial⟩ ⟨⟨xh.domain,xh.users,(xh.folders.set ((rw).toNat) (⟨z.owner,z.name,gsa,z.next,z.mail⟩)),⟨xh.queue.next,xh.queue.items⟩⟩,_,_,_,_,_,_,_,(ol),hu3,hr17,hi3,by first | assumption | omega | (simp only [];omega),so2,rfl⟩
 try simp only [sQ,ne_eq] at g3
 refine Za (ZF (h:=xA (h:=Zd rfl (fun g4=>?_) (fun g4=>?_))))
 try simp only [sQ,ne_eq] at g4
 refine Z9 (keeps _ [2,3] _) mo kr ⟨Kn.le.refl _,Zar.refl _ _⟩ (fun _ _=>?_)
 refine aW 0 rfl Z0 (h:=aT 1 rfl (ZK fun D B L hI=>Zl rfl rfl Zcy rfl (atL 3 (hI.2.2.1.trans rfl) rfl rfl) r4) (h:=aM 2 rfl (h:=aW 3 rfl Z0 (h:=aT 4 rfl (ZK fun D B L hI=>Zl rfl rfl Zcy rfl (atL 3 (hI.2.2.1.trans rfl) rfl rfl) r4) (h:=aV 5 rfl Tryz.underlying24 (h:=aM 7 rfl (h:=Zv 6 kr rfl kr (Zcp 0 rfl rfl rfl Za0 rfl (ZL _ _ _ _ _ _ oz oz oz hm _ hbm) ?_))))))))
 rintro _ _ ⟨rw,rfl,rwa,rwb,rfl⟩
 refine ⟨⟨Kn.le.refl _,t2⟩,(Zv 8 kr rfl kr (Z8 [0] rfl rfl rfl rfl ZxJ rfl (Zrz _ _ _ _ _ oz hm _ hbm) ?_))⟩
 rintro _ Ba _ hlea ⟨qa,cpa,xa,ka,rfl,hga,hka,rfl⟩
 replace hs3:=hs3.mono Zb.mono hlea
 replace hu3:=hu3.mono Zh.mono hlea
 replace hi3:=hi3.mono Zj.mono hlea
 replace hbm:=hbm.mono hlea
 have hgan:=hga.len
 refine ⟨⟨hlea,t2⟩,?_⟩
 obtain ⟨z,hz⟩:=Zd7 (xs:=xh.folders) (i:=rw) om om
 obtain ⟨bb21,_,hp21,⟨qg21,cg21,qm21,cm21,rfl,hg21,hm21,hb21,hb21b⟩,hw21,hc21⟩:=hs3.row hz
 have hg21n:=hg21.len
 have hm21n:=hm21.len
 have hm21s:=Z4 hm21
 refine aT 9 rfl (ZK fun D B L hI=>ZfO hp21 rfl rfl Tryz.underlying24 Zbj rfl rfl om om r4) (h:=?_)
 refine aW 10 rfl Zcm (h:=ZV 11 kr rfl kr kr kr (Zd8 (k:=(rw).toNat) (off:=3) (⟨z.owner,z.name,z.grants,xa.next,xa.mail⟩) [_,_] 2 hs3 hp21 hz rfl rfl ZcC rfl rfl rfl rfl rfl rfl (by rintro _ ⟨_,_,_,_,rfl,e1,_,e3,e4⟩;exact ⟨_,_,_,_,rfl,e1,hga,e3,e4⟩) (fun l22 hv22=>?_)))
 refine Zz (Zf (Za (xL [_,_,_,_,_] Z2 3 (h:=ZZ 2 rfl hv22 Zb.mono om3 (fun B23 hle23 hr23=>?_)))))
 replace hga:=hga.mono ZJ.mono hle23
 replace hg21:=hg21.mono ZG.mono hle23
 replace hm21:=hm21.mono ZJ.mono hle23
 replace hu3:=hu3.mono Zh.mono hle23
 replace hi3:=hi3.mono Zj.mono hle23
 replace hbm:=hbm.mono hle23
 have hr23n:=hr23.len
 refine xS [_,_,_,_,_] 1 [_,_,_,_,_] Zaw (h:=Zw [_,_,_,_] rfl (Zg ?_))
 exact Zaf .ret (.inl rfl) [_] [0] rfl ⟨⟨_,rfl,.inr ⟨[_,_,_,_,_],Z2,Zad 1 rfl rfl rfl,rfl⟩⟩,trivial⟩ ⟨⟨xh.domain,xh.users,(xh.folders.set ((rw).toNat) (⟨z.owner,z.name,z.grants,xa.next,xa.mail⟩)),⟨xh.queue.next,xh.queue.items⟩⟩,_,_,_,_,_,_,_,(ol),hu3,hr23,hi3,by first | assumption | omega | (simp only [];omega),so2,rfl⟩
 try simp only [sQ,ne_eq] at g4
 refine Za (ZF (h:=xA (h:=Zd rfl (fun g5=>?_) (fun g5=>?_))))
 try simp only [sQ,ne_eq] at g5
 refine Ze (xM (h:=Zn (Z8 [0] rfl rfl rfl rfl ZxI rfl (Zn9 _ _ _ _ _ oz hm _ hbm) ?_)))
 rintro _ B24 _ hle24 ⟨aq24,cq24,qq24,p24,rfl,hq24,hp24,rfl⟩
 replace hs3:=hs3.mono Zb.mono hle24
 replace hu3:=hu3.mono Zh.mono hle24
 replace hi3:=hi3.mono Zj.mono hle24
 replace hbm:=hbm.mono hle24
 have hq24n:=hq24.len
 refine xW ZcA (h:=xS [_,_] 3 [_,_,_,_,_] ZfI (h:=Zz (Zf (Za (xL [_,_,_,_,_] Z2 3 (h:=ZZ 2 rfl hs3 Zb.mono om3 (fun B25 hle25 hr25=>?_)))))))
 replace hq24:=hq24.mono Zj.mono hle25
 replace hu3:=hu3.mono Zh.mono hle25
 replace hbm:=hbm.mono hle25
 have hr25n:=hr25.len
 refine xS [_,_,_,_,_] 1 [_,_,_,_,_] Zaw (h:=Zw [_,_,_,_] rfl (Zg ?_))
 exact Zaf .ret (.inl rfl) [_] [0] rfl ⟨⟨_,rfl,.inr ⟨[_,_,_,_,_],Z2,Zad 1 rfl rfl rfl,rfl⟩⟩,trivial⟩ ⟨⟨xh.domain,xh.users,xh.folders,⟨qq24.next,qq24.items⟩⟩,_,_,_,_,_,_,_,(ol),hu3,hr25,hq24,by first | assumption | omega | (simp only [];omega),so2,rfl⟩
 try simp only [sQ,ne_eq] at g5
 refine Zi (Zz (Zf (Za (xL [_,_,_,_,_] Z2 3 (h:=ZZ 2 rfl hs3 Zb.mono om3 (fun B26 hle26 hr26=>?_))))))
 replace hu3:=hu3.mono Zh.mono hle26
 replace hi3:=hi3.mono Zj.mono hle26
 replace hbm:=hbm.mono hle26
 have hr26n:=hr26.len
 refine xS [_,_,_,_,_] 1 [_,_,_,_,_] Zaw (h:=Zw [_,_,_,_] rfl (Zg ?_))
 exact Zaf .ret (.inl rfl) [_] [0] rfl ⟨⟨_,rfl,.inr ⟨[_,_,_,_,_],Z2,Zad 1 rfl rfl rfl,rfl⟩⟩,trivial⟩ ⟨⟨xh.domain,xh.users,xh.folders,⟨xh.queue.next,xh.queue.items⟩⟩,_,_,_,_,_,_,_,(ol),hu3,hr26,hi3,by first | assumption | omega | (simp only [];omega),so2,rfl⟩

set_option maxHeartbeats 400000 in
theorem Zrx (b:Nat) (q:Option Addr) (m cp p:Nat) (hp:p≤600000000000) (hm:m≤2000) (B:Kn) (hbm:Zak B q m):ZM (pj J) 10 [ptr ⟨b,0,none⟩] B [rd b q m cp p] (fun v B' Ls=>∃(x:DHost) (p1 p2 p3:Option Addr) (d1 d2 d3 k:Nat),v = .agg #[str x.domain,.slice p1 x.users.length d1,.slice p2 x.folders.length d2,.int .i64 x.queue.next,.slice p3 x.queue.items.length d3]∧SlK B' p1 d1 3 Zh x.users∧SlK B' p2 d2 5 Zb x.folders∧SlK B' p3 d3 4 Zj x.queue.items∧x.domain.length≤2000000∧k≤p+9000∧Ls=[rd b q m cp k]):=by
 refine Zc 10 Tryz.func10 rfl rfl rfl (Nat.le_of_ble_eq_true rfl) ?_
 refine Za (xAl [_,_,_,_,_] Zba (h:=fun b1=>Zw [_,_] rfl (Zm (Za (xM (h:=xX 0 rfl Za0 rfl (ZL _ _ _ _ _ _ oz oz oz hm _ hbm) (h:=?_)))))))
 rintro _ _ ⟨r2,rfl,r2a,r2b,rfl⟩
 refine ZF (h:=Zw [_,_] rfl (Zd rfl (fun g0=>?_) (fun g0=>?_)))
 try simp only [sQ,ne_eq] at g0
 refine Za (xM (h:=Zn (Z8 [0] rfl rfl rfl rfl ZxX rfl (Zn7 _ _ _ _ _ oz hm _ hbm) ?_)))
 rintro _ Bh _ hleh ⟨xh,p1h,p2h,p3h,d1h,d2h,d3h,kh,rfl,huh,hfh,hih,hdh,hkh,rfl⟩
 replace hbm:=hbm.mono hleh
 have huhn:=huh.len
 have hfhn:=hfh.len
 have hihn:=hih.len
 refine xS [_,_,_,_,_] 1 [_,_,_,_,_] Zaw (h:=Zw [_,_] rfl (Zg (Zs ?_)))
 exact Zaf .ret (.inl rfl) [_] [0] rfl ⟨⟨_,rfl,.inr ⟨[_,_,_,_,_],Z2,Zad 1 rfl rfl rfl,rfl⟩⟩,trivial⟩ ⟨_,_,_,_,_,_,_,_,rfl,huh,hfh,hih,oy,so2,rfl⟩
 try simp only [sQ,ne_eq] at g0
 refine Zi (Zf (Za (xM (h:=Zn (Z8 [0] rfl rfl rfl rfl Zw8 rfl (ZkY _ _ _ _ _ oz hm _ hbm) ?_)))))
 rintro _ Bh _ hleh ⟨xh,p1h,p2h,p3h,d1h,d2h,d3h,kh,rfl,huh,hfh,hih,hdh,hoh,hkh,rfl⟩
 replace hbm:=hbm.mono hleh
 have huhn:=huh.len
 have hfhn:=hfh.len
 have hihn:=hih.len
 refine xS [_,_,_,_,_] 1 [_,_,_,_,_] Zaw (h:=Zw [_,_] rfl (Zg ?_))
 exact Zaf .ret (.inl rfl) [_] [0] rfl ⟨⟨_,rfl,.inr ⟨[_,_,_,_,_],Z2,Zad 1 rfl rfl rfl,rfl⟩⟩,trivial⟩ ⟨_,_,_,_,_,_,_,_,rfl,huh,hfh,hih,oy,so2,rfl⟩

set_option maxHeartbeats 400000 in
theorem ZiB (q:Option Addr) (cp:Nat) (gs:List DGrant) (o u:Str) (ho:o.length≤2000000) (hn:u.length≤2000000) (B:Kn) (hg:SlK B q cp 2 ZG gs):Za1 (pj J) 20 [.slice q gs.length cp,str o,str u] B (.int .i64 (Ze7 gs o u)):=by
 refine Zc 35 Tryz.func20 rfl rfl rfl (Nat.le_of_ble_eq_true rfl) ?_
 refine Za (xA (h:=Za (xM (h:=Zn (Zac rfl rfl Zw2 rfl (Znx _ _ _ _ hg) ?_)))))
 rintro _ Bm _ hlem ⟨mm,lm,rfl,rfl,rfl,hlm⟩
 refine xM (h:=xE (h:=xE (h:=xA (h:=xA (h:=Zw [_] rfl (Zm (Za (xM (h:=xN (h:=xM (h:=Zt (d:=16) rfl (fun g1=>?_) (fun g1=>?_))))))))))))
 try simp only [sQ,ne_eq] at g1
 refine xP (h:=xP (h:=xP (h:=xT (h:=xM (h:=xP (h:=xP (h:=xP (h:=xT (h:=Zd (t:=true) rfl (fun _=>Za (xA (h:=Zg (Zs ?_)))) (fun h=>Bool.noConfusion h))))))))))
 exact ZW .ret (.inl rfl) [_] t1 ⟨ZaA (Zkf (by simp [g1])).symm,rfl,rfl⟩
 try simp only [sQ,ne_eq] at g1
 refine xM (h:=xR ZsH rfl (Zci _ om2 _) (h:=?_))
 refine xN (h:=xF (h:=xM (h:=Zt (d:=21) rfl (fun g2=>?_) (fun g2=>?_))))
 try simp only [sQ,ne_eq] at g2
 refine xP (h:=xP (h:=xP (h:=xT (h:=Zd (t:=true) rfl (fun _=>Za (xA (h:=Zg (Zs ?_)))) (fun h=>Bool.noConfusion h)))))
 exact ZW .ret (.inl rfl) [_] t1 ⟨ZaA (Zkf (by simp [g2])).symm,rfl,rfl⟩
 try simp only [sQ,ne_eq] at g2
 refine xM (h:=xR ZsH rfl (Zci _ om2 _) (h:=?_))
 refine xN (h:=xF (h:=Zd rfl (fun g3=>?_) (fun g3=>?_)))
 try simp only [sQ,ne_eq] at g3
 refine Za (xA (h:=Zg (Zs ?_)))
 exact ZW .ret (.inl rfl) [_] t1 ⟨ZaA (Zkf (by simp [g3])).symm,rfl,rfl⟩
 try simp only [sQ,ne_eq] at g3
 have hce:=Zsk (gs:=gs) (o:=o) (u:=u) g1 g2 (by simpa using g3)
 obtain ⟨bm,hmb,hml⟩:=hlm g1
 subst hmb
 clear hlm
 have hlm:=hml
 refine Zi (Zf (Zm (Za (xM (h:=xM (h:=ZdT (h:=Zd rfl (fun g4=>?_) (fun g4=>?_))))))))
 try simp only [sQ,ne_eq] at g4
 refine Za (xA (h:=Zg (Zs ?_)))
 exact ZW .ret (.inl rfl) [_] t1 ⟨ZaA (by rw [hce,if_pos g4]),rfl,rfl⟩
 try simp only [sQ,ne_eq] at g4
 refine Zi (Zf (Za (xM (h:=xM (h:=Zn (ZmM (k:=u) 0 rfl hlm rfl rfl Tryz.underlying85 Tryz.underlying9 zo3 rfl rfl (xM (h:=Zn (ZmM (k:=[97,110,121,111,110,101]) 0 rfl hlm rfl rfl Tryz.underlying85 Tryz.underlying9 zo3 rfl rfl (Zn (ZvN rfl rfl rfl rfl (xA (h:=Zg ?_)))))))))))))
 exact ZW .ret (.inl rfl) [_] t1 ⟨ZaA (by rw [hce,if_neg g4];rfl),rfl,rfl⟩

set_option maxHeartbeats 400000 in
theorem ZuL (b o:Nat) (q1 q2 q3:Option Addr) (c1 c2 c3:Nat) (x:DHost) (qa qb:Option Addr) (ca cb:Nat) (u:Str) (f:DFolder) (rr:Int) (hn:u.length≤2000000) (ho:f.owner.length≤2000000) (B:Kn) (hh:Za9 B b o [str x.domain,.slice q1 x.users.length c1,.slice q2 x.folders.length c2,.int .i64 x.queue.next,.slice q3 x.queue.items.length c3]) (hu:SlK B q1 c1 3 Zh x.users) (hg:SlK B qa ca 2 ZG f.grants):Za1 (pj J) 34 [ptr ⟨b,o,none⟩,str u,.agg #[str f.owner,str f.name,.slice qa f.grants.length ca,.int .i64 f.next,.slice qb f.mail.length cb],.int .i64 rr] B (.bool (ZpG x.users f u rr)):=by
 refine Zc 29 Tryz.func34 rfl rfl rfl (Nat.le_of_ble_eq_true rfl) ?_
 refine Za (xBx [_,_,_,_,_] (h:=fun b1=>xA (h:=Zw [_] rfl (Za (xW ZdI (h:=x1 Zrt 0 (h:=xW ZcU (h:=x1 lk9 0 (h:=xM (h:=xR Zw9 rfl (ZiB _ _ f.grants f.owner u om2 om2 _ hg) (h:=?_)))))))))))
 refine xA (h:=Za (xM (h:=xM (h:=xR Zvy rfl (Zhe _ _ _ _ _ _ _ _ x u om2 _ hh hu) (h:=?_)))))
 refine xM (h:=Zt (d:=19) rfl (fun g1=>?_) (fun g1=>?_))
 try simp only [sQ,ne_eq] at g1
 refine xM (h:=ZdS (h:=xT (h:=xM (h:=Zt (d:=23) rfl (fun g2=>?_) (fun g2=>?_)))))
 try simp only [sQ,ne_eq] at g2
 refine xM (h:=xM (h:=Zn (Zur rfl rfl rfl rfl (ZcZ (h:=xT (h:=xA (h:=Zg ?_)))))))
 exact ZW .ret (.inl rfl) [_] t1 ⟨Zp (by simp [ZpG,g1,g2]),rfl,rfl⟩
 try simp only [sQ,ne_eq] at g2
 refine xP (h:=xP (h:=xP (h:=xP (h:=xF (h:=xA (h:=Zg ?_))))))
 exact ZW .ret (.inl rfl) [_] t1 ⟨Zp (by simp [ZpG,g1,g2];try omega),rfl,rfl⟩
 try simp only [sQ,ne_eq] at g1
 refine xP (h:=xP (h:=xF (h:=xM (h:=xP (h:=xP (h:=xP (h:=xP (h:=xF (h:=xA (h:=Zg ?_))))))))))
 exact ZW .ret (.inl rfl) [_] t1 ⟨Zp (by simp [ZpG,g1]),rfl,rfl⟩

set_option maxHeartbeats 400000 in
theorem ZqI (a b:Int) (ha0 : -100≤a) (ha1:a≤100) (hb0:0≤b) (hb1:b≤100) (B:Kn):Za1 (pj J) 8 [.int .i64 a,.int .i64 b] B (.bool (Zkd b.toNat a b)):=by
 refine Zc 19 Tryz.func8 rfl rfl rfl (Nat.le_of_ble_eq_true rfl) ?_
 refine Za (xA (h:=Zm (Zr (ZU (α:=Nat × Int × Int) [] (fun g=>[(0,.int .i64 g.2.1),(1,.int .i64 g.2.2)]) [] (fun g=>[]) (fun g Bx=>Bx=B∧0≤g.2.2∧g.2.2≤g.1∧g.2.2≤100∧-100≤g.2.1∧g.2.1≤100∧Zkd b.toNat a b=Zkd g.1 g.2.1 g.2.2) (fun g=>g.2.2.toNat) (b.toNat,a,b) t2 rfl (⟨rfl,hb0,so,hb1,ha0,ha1,rfl⟩) (fun g B1 hle1 hI=>?_)))))
 obtain ⟨rfl,hk0,hk1,hk2,hk3,hk4,hs⟩:=hI
 have hq1:=ZpZ (a:=g.2.1) oz oz
 have hq2:=ZpZ (a:=g.2.2) oz oz
 refine ZQ [(0,_),(1,_)] [] t2 rfl (Zm (Za (xM (h:=ZbA (h:=Zd rfl (fun g1=>?_) (fun g1=>?_))))))
 try simp only [sQ,ne_eq] at g1
 refine Zi (Zf (Zr (Zm (Za (xM (h:=Zn (ZfN rfl rfl rfl rfl oz rfl ?_)))))))
 refine ZF (h:=xM (h:=Zt (d:=10) rfl (fun g2=>?_) (fun g2=>?_)))
 try simp only [sQ,ne_eq] at g2
 refine xM (h:=Zn (ZfN rfl rfl rfl rfl oz rfl ?_))
 refine ZF (h:=xT (h:=Zd rfl (fun g3=>?_) (fun g3=>?_)))
 try simp only [sQ,ne_eq] at g3
 refine Za (xA (h:=Zg (Zs (ZI (Z7 (ZI (Zs ?_)))))))
 exact ZW .ret (.inl rfl) [_] t1 ⟨Zp (by rw [hs];exact (Zsh oz hk1 g2 g3).symm),rfl,rfl⟩
 try simp only [sQ,ne_eq] at g3
 refine Zi (Zf (Za (xM (h:=Zn (Zfj rfl rfl rfl rfl oz (by first | exact ZaK om om | rfl) ?_)))))
 refine xA (h:=Ze (xM (h:=Zn (Zfj rfl rfl rfl rfl oz (by first | exact ZaK om om | rfl) ?_))))
 refine xA (h:=Zz ?_)
 exact ZE (g.1 - 1,Int.tdiv g.2.1 2,Int.tdiv g.2.2 2) [] so2 ⟨rfl,so,so,so,so,so,by rw [hs];exact Zlv oz hk1 (fun hc=>g3 hc.2)⟩ t2 rfl
 try simp only [sQ,ne_eq] at g2
 refine xP (h:=xP (h:=xP (h:=xF (h:=Zd (t:=false) rfl (fun h=>Bool.noConfusion h) (fun _=>Zi (Zf (Za (xM (h:=Zn (Zfj rfl rfl rfl rfl oz (by first | exact ZaK om om | rfl) ?_))))))))))
 refine xA (h:=Ze (xM (h:=Zn (Zfj rfl rfl rfl rfl oz (by first | exact ZaK om om | rfl) ?_))))
 refine xA (h:=Zz ?_)
 exact ZE (g.1 - 1,Int.tdiv g.2.1 2,Int.tdiv g.2.2 2) [] so2 ⟨rfl,so,so,so,so,so,by rw [hs];exact Zlv oz hk1 (fun hc=>g2 hc.1)⟩ t2 rfl
 try simp only [sQ,ne_eq] at g1
 refine ZY (Zal (Z6 (ZN (Zf (Za (xA (h:=Zg ?_)))))))
 exact ZW .ret (.inl rfl) [_] t1 ⟨Zp (by rw [hs,Zsi oz]),rfl,rfl⟩

set_option maxHeartbeats 400000 in
theorem ZkX (b:Nat) (q:Option Addr) (m cp p:Nat) (hp:p≤750000000000) (hm:m≤2000) (q1 q2 q3:Option Addr) (d1 d2 d3:Nat) (x:DHost) (B:Kn) (hbm:Zak B q m) (hf:SlK B q2 d2 5 Zb x.folders):Ex1 (pj J) 11 [ptr ⟨b,0,none⟩,.agg #[str x.domain,.slice q1 x.users.length d1,.slice q2 x.folders.length d2,.int .i64 x.queue.next,.slice q3 x.queue.items.length d3]] B (rd b q m cp p) (fun v s=>∃(w y z:Str) (k:Nat),v = .agg #[str w,str y,str z]∧w.length≤2000000∧y.length≤2000000∧z.length≤2000000∧k≤p+12∧s=rd b q m cp k):=by
 refine Zc 25 Tryz.func11 rfl rfl rfl (Nat.le_of_ble_eq_true rfl) ?_
 refine Za (xBx [_,_,_,_,_] (h:=fun b1=>xAl [_,_,_] Zkg (h:=fun b2=>Zw [_,_,_] rfl (Za (xM (h:=xL [_,_,_,_,_] Z2 1 (h:=xX 0 rfl Zxb rfl (Zna _ _ _ _ _ oz hm _ _ _ _ _ _ _ _ hbm hf) (h:=?_))))))))
 rintro _ _ ⟨yo,zo,ko,rfl,hyo,hzo,hko,rfl⟩
 refine xM (h:=xE (h:=xE (h:=xA (h:=xA (h:=Zw [_,_,_] rfl (Za (xM (h:=xM (h:=xM (h:=xB [(0,_),(1,_),(2,_)] [_,_,_] [_,_,_] Zs6 Zkg (h:=xAl [_,_,_] Zkg (h:=fun b4=>xS [_,_,_] 3 [_,_,_] ZlR (h:=?_)))))))))))))
 refine Zw [_,_,_,_] rfl (Zm (Za (xM (h:=xX 0 rfl Za0 rfl (ZL _ _ _ _ _ _ oz oz oz hm _ hbm) (h:=?_)))))
 rintro _ _ ⟨rn,rfl,rna,rnb,rfl⟩
 refine ZF (h:=Zw [_,_,_,_] rfl (Zd rfl (fun g1=>?_) (fun g1=>?_)))
 try simp only [sQ,ne_eq] at g1
 refine Ze (xM (h:=xX 0 rfl Zwg rfl (ZhQ _ _ _ _ _ oz hm _ hbm) (h:=?_)))
 rintro _ _ ⟨xu,ku,rfl,hxu,hku,rfl⟩
 refine xW Zfc (h:=xS [_] 3 [_,_,_] sz9 (h:=Zf (Za (xL [_,_,_] Zgo 3 (h:=xS [_,_,_] 2 [_,_,_] ZlR (h:=Zw [_,_,_,_] rfl (Zg ?_)))))))
 exact ZfE .ret (.inl rfl) [_] 0 rfl ⟨⟨_,rfl,.inr ⟨[_,_,_],Zgo,Zad 2 rfl rfl rfl,rfl⟩⟩,trivial⟩ ⟨rfl,_,rfl,_,_,_,_,rfl,oz,oa,oa,oz,rfl⟩
 try simp only [sQ,ne_eq] at g1
 refine Zi (Zf (Za (xL [_,_,_] Zgo 3 (h:=xS [_,_,_] 2 [_,_,_] ZlR (h:=Zw [_,_,_,_] rfl (Zg ?_))))))
 exact ZfE .ret (.inl rfl) [_] 0 rfl ⟨⟨_,rfl,.inr ⟨[_,_,_],Zgo,Zad 2 rfl rfl rfl,rfl⟩⟩,trivial⟩ ⟨rfl,_,rfl,_,_,_,_,rfl,oa,oa,oa,oz,rfl⟩

set_option maxHeartbeats 400000 in
theorem ZnP (hJ:Joins Tryz.prog J) (q1 q2 q3:Option Addr) (c1 c2 c3:Nat) (x:DHost) (u o n:Str) (hn:u.length≤2000000) (ho:o.length≤2000000) (hm:n.length≤2000000) (hd:x.domain.length≤2000000) (B:Kn) (hu:SlK B q1 c1 3 Zh x.users) (hf:SlK B q2 c2 5 Zb x.folders) (hi:SlK B q3 c3 4 Zj x.queue.items):ZM (pj J) 7 [.agg #[str x.domain,.slice q1 x.users.length c1,.slice q2 x.folders.length c2,.int .i64 x.queue.next,.slice q3 x.queue.items.length c3],str u,str o,str n] B [] (fun v B' Ls=>Ls=[]∧v = .int .i64 (Zb3 x u o n)):=by
 refine Zc 25 Tryz.func7 rfl rfl rfl (Nat.le_of_ble_eq_true rfl) ?_
 refine Za (xBx [_,_,_,_,_] (h:=fun b1=>xA (h:=Zw [_] rfl (Za (xL [_,_,_,_,_] Z2 0 (h:=xM (h:=xM (h:=Zn (Zav rfl rfl ZxY rfl (Zk8 hJ _ _ _ _ _ _ x o n om2 om2 om2 _ hu hf hi) ?_)))))))))
 intro vf Bf hlef
 rintro ⟨qaf,caf,qbf,cbf,rfl,hgf,hmf⟩
 replace hu:=hu.mono Zh.mono hlef
 replace hf:=hf.mono Zb.mono hlef
 replace hi:=hi.mono Zj.mono hlef
 have hgfn:=hgf.len
 have hmfn:=hmf.len
 refine xM (h:=xE (h:=xE (h:=xAl [_,_,_,_,_] Zdx (h:=fun b3=>xS [_,_,_,_,_] 1 [_,_,_,_,_] Zbj (h:=xA (h:=Zw [_,_] rfl (Zm (Za (xM (h:=xN (h:=Zd rfl (fun g1=>?_) (fun g1=>?_))))))))))))
 try simp only [sQ,ne_eq] at g1
 refine Za (xA (h:=Zg (Zs ?_)))
 exact ZW .ret (.inl rfl) [_] t1 ⟨rfl,ZaA (ZnO (by simpa using g1)).symm⟩
 try simp only [sQ,ne_eq] at g1
 refine Zi (Zf (Za (xW ZdI (h:=x1 Zrt 1 (h:=xM (h:=xM (h:=xR Zw9 rfl (ZiB _ _ ((Zae x o n).1.grants) o u om2 om2 _ hgf) (h:=?_))))))))
 refine xA (h:=Zg ?_)
 exact ZW .ret (.inl rfl) [_] t1 ⟨rfl,ZaA (ZhH (by simpa using g1)).symm⟩

theorem ZuX (v:Value) (Q:Value→Kn→Cells→Prop) (B:Kn) (L:Cells):hb Tryz.prog (Extern.ReflectliteType.typeOf #[.iface 238 v]) Q B L=Q (.iface 186 (.agg #[.pointer (some ⟨5,238,none⟩)])) B L:=by kernel_rfl

theorem ZuY (v:Value) (k:Nat) (Q:FuncId × Value→Kn→Cells→Prop) (B:Kn) (L:Cells):hb Tryz.prog (Go.method (k+1) 186 v "Comparable") Q B L=Q (196,v) B L:=by kernel_rfl

theorem ZuZ (Q:Value→Kn→Cells→Prop) (B:Kn) (L:Cells):hb Tryz.prog ((Extern.ReflectliteType.method fun t=>do Extern.Rtype.noPackHeld "Comparable" t;pure (.bool (← typeInfo t).comparable)) #[(.agg #[.pointer (some ⟨5,238,none⟩)])]) Q B L=Q (.bool true) B L:=by kernel_rfl

theorem ZtI:Extern.find Tryz.f196=some (Extern.ReflectliteType.method fun t=>do Extern.Rtype.noPackHeld "Comparable" t;pure (.bool (← typeInfo t).comparable)):=by kernel_rfl
theorem ZtH:Extern.find Tryz.f74=some Extern.ReflectliteType.typeOf:=by kernel_rfl

theorem Zv6:Extern.findNext Tryz.f74=none:=by kernel_rfl
theorem Zv7:Extern.findNext Tryz.f196=none:=by kernel_rfl

set_option maxHeartbeats 400000 in
theorem ZtF (c k:Nat) (hc:c<4) (hk:k<4) (a:Nat→Addr)  (B:Kn) (hE:ErrsB 238 [0,1,2,3] B a):Za1 (pj J) 75 [errv 238 a (c+1),errv 238 a (k+1),.bool true] B (.bool (decide (c+1=k+1))):=by
 refine Zc 54 Tryz.func75 rfl rfl rfl (Nat.le_of_ble_eq_true rfl) ?_
 refine Za (xA (h:=Zr (ZU (α:=Unit) [1,2] (fun u=>[(0,errv 238 a (c+1))]) [] (fun u=>[]) (fun u Bx=>Bx=B) (fun u=>0) () t1 rfl (rfl) (fun u B1 hle1 hI=>?_))))
 subst hI
 refine ZQ [(0,_),(1,_),(2,_)] [] t3 rfl (Zr (Zm (Za (xM (h:=xM (h:=Zt (d:=15) rfl (fun g1=>?_) (fun g1=>by cases g1)))))))
 try simp only [sQ,ne_eq] at g1
 refine xM (h:=xM (h:=Zn (ZoW (a:=a) (c:=(c+1)) (k:=k) hE oz oz rfl rfl Tryz.underlying47 Tryz.underlying238 Zxc Zuw rfl rfl ?_)))
 refine xT (h:=Zd rfl (fun g2=>?_) (fun g2=>?_))
 try simp only [sQ,ne_eq] at g2
 refine Za (xA (h:=Zg (Zs (ZI (Z7 (ZI ?_))))))
 exact ZW .ret (.inl rfl) [_] t1 ⟨Zp (decide_eq_true g2).symm,rfl,rfl⟩
 try simp only [sQ,ne_eq] at g2
 refine Zi (Zf (Zm (Za (xM (h:=Zn (Zht rfl rfl Tryz.underlying188 kr ZvG rfl ?_))))))
 refine xM (h:=xE (h:=xE (h:=xA (h:=xA (h:=Za (xM (h:=xM (h:=Zt (d:=26) rfl (fun g3=>by cases g3) (fun g3=>?_)))))))))
 try simp only [sQ,ne_eq] at g3
 refine xP (h:=xP (h:=xP (h:=xF (h:=Zd (t:=false) rfl (fun h=>Bool.noConfusion h) (fun _=>Zi (Zf (Za (xM (h:=Zr (Za (Zn (Zht rfl rfl Tryz.underlying191 kr ZvF rfl ?_))))))))))))
 refine xE (h:=xE (h:=Zd rfl (fun g5=>by cases g5) (fun g5=>?_)))
 try simp only [sQ,ne_eq] at g5
 refine Za (Zn (Zht rfl rfl Tryz.underlying193 kr ZvE rfl ?_))
 refine xE (h:=xE (h:=Zd rfl (fun g6=>by cases g6) (fun g6=>?_)))
 try simp only [sQ,ne_eq] at g6
 refine Za (xA (h:=Za (xA (h:=Zg (ZI (ZI (Z7 (ZI ?_))))))))
 exact ZW .ret (.inl rfl) [_] t1 ⟨Zp (decide_eq_false g2).symm,rfl,rfl⟩

set_option maxHeartbeats 400000 in
theorem ZtE (c k:Nat) (hc:c<4) (hk:k<4) (a:Nat→Addr)  (B:Kn) (hE:ErrsB 238 [0,1,2,3] B a):Za1 (pj J) 35 [errv 238 a (c+1),errv 238 a (k+1)] B (.bool (decide (c+1=k+1))):=by
 refine Zc 22 Tryz.func35 rfl rfl rfl (Nat.le_of_ble_eq_true rfl) ?_
 refine Za (xA (h:=Zm (Za (xM (h:=Zn (ZmN (tE:=238) (a:=a) (c:=(c+1)) rfl rfl Tryz.underlying47 rfl (xM (h:=Zt (d:=8) rfl (fun g1=>by simp at g1) (fun g1=>?_)))))))))
 try simp only [sQ,ne_eq] at g1
 refine xM (h:=Zn (ZmN (tE:=238) (a:=a) (c:=(k+1)) rfl rfl Tryz.underlying47 rfl (xF (h:=Zd rfl (fun g2=>by simp at g2) (fun g2=>?_)))))
 try simp only [sQ,ne_eq] at g2
 refine Zi (Zf (Za (xM (h:=Zn (Zuo (fn:=Tryz.f74) rfl rfl Tryz.func74 rfl rfl Zv6 ZtH rfl (ZuX _) (Zn (Zul (f:=196) (fn:=Tryz.f196) rfl rfl Tryz.func196 rfl rfl Zv7 ZtI rfl (ZuY _) ZuZ (xA (h:=Za (xM (h:=xM (h:=xM (h:=xR Zxt rfl (ZtF c k oz oz a _ hE) (h:=?_))))))))))))))
 refine xA (h:=Zg ?_)
 exact ZW .ret (.inl rfl) [_] t1 ⟨rfl,rfl,rfl⟩

set_option maxHeartbeats 400000 in
theorem ZtG (k:Nat) (hk:k<4) (a:Nat→Addr)  (B:Kn) (hE:ErrsB 238 [0,1,2,3] B a):Za1 (pj J) 35 [.nilIface,errv 238 a (k+1)] B (.bool (decide (0=k+1))):=by
 refine Zc 22 Tryz.func35 rfl rfl rfl (Nat.le_of_ble_eq_true rfl) ?_
 refine Za (xA (h:=Zm (Za (xM (h:=Zn (ZmN (tE:=238) (a:=a) (c:=0) rfl rfl Tryz.underlying47 rfl (xM (h:=Zt (d:=8) rfl (fun g1=>?_) (fun g1=>by simp at g1)))))))))
 try simp only [sQ,ne_eq] at g1
 refine xP (h:=xP (h:=xT (h:=Zd (t:=true) rfl (fun _=>Za (xM (h:=xM (h:=Zn (ZoW (a:=a) (c:=0) (k:=k) hE oz oz rfl rfl Tryz.underlying47 Tryz.underlying238 Zxc Zuw rfl rfl ?_))))) (fun h=>Bool.noConfusion h))))
 refine xA (h:=Zg (Zs ?_))
 exact ZW .ret (.inl rfl) [_] t1 ⟨rfl,rfl,rfl⟩

theorem Znn (c k:Nat) (hc:c<5) (hk:k<4) (a:Nat→Addr)  (B:Kn) (hE:ErrsB 238 [0,1,2,3] B a):Za1 (pj J) 35 [errv 238 a c,errv 238 a (k+1)] B (.bool (decide (c=k+1))):=by
 cases c with
 | zero=>exact ZtG k hk a B hE
 | succ c=>exact ZtE c k oz hk a B hE

set_option maxHeartbeats 400000 in
theorem Zoj (c:Nat) (hc:c<5) (a:Nat→Addr)  (B:Kn) (hE:ErrsB 238 [0,1,2,3] B a):Za1 (pj J) 15 [errv 238 a (c)] B (.int .i64 c):=by
 refine Zc 22 Tryz.func15 rfl rfl rfl (Nat.le_of_ble_eq_true rfl) ?_
 refine Za (xA (h:=Zm (Zr (Za (xM (h:=Zn (ZmN (tE:=238) (a:=a) (c:=c) rfl rfl Tryz.underlying47 rfl (xA (h:=Zd rfl (fun g0=>?_) (fun g0=>?_))))))))))
 try simp only [sQ,ne_eq] at g0
 refine Za (xA (h:=Zg (ZI (Zs ?_))))
 exact ZW .ret (.inl rfl) [_] t1 ⟨ZaA oz,rfl,rfl⟩
 try simp only [sQ,ne_eq] at g0
 refine Za (xM (h:=Zn (Zl rfl rfl Ztk rfl ((hE.row 0 (by decide)) _ 0 _ rfl) ?_)))
 refine xR ZvA rfl (Znn c 0 om2 om2 a _ hE) (h:=?_)
 refine xA (h:=Zd rfl (fun g1=>?_) (fun g1=>?_))
 try simp only [sQ,ne_eq] at g1
 refine Za (xA (h:=Zg (ZI (Zs ?_))))
 exact ZW .ret (.inl rfl) [_] t1 ⟨ZaA oz,rfl,rfl⟩
 try simp only [sQ,ne_eq] at g1
 refine Za (xM (h:=Zn (Zl rfl rfl Ztk rfl ((hE.row 1 (by decide)) _ 0 _ rfl) ?_)))
 refine xR ZvA rfl (Znn c 1 om2 om2 a _ hE) (h:=?_)
 refine xA (h:=Zd rfl (fun g2=>?_) (fun g2=>?_))
 try simp only [sQ,ne_eq] at g2
 refine Za (xA (h:=Zg (ZI (Zs ?_))))
 exact ZW .ret (.inl rfl) [_] t1 ⟨ZaA oz,rfl,rfl⟩
 try simp only [sQ,ne_eq] at g2
 refine Za (xM (h:=Zn (Zl rfl rfl Ztk rfl ((hE.row 2 (by decide)) _ 0 _ rfl) ?_)))
 refine xR ZvA rfl (Znn c 2 om2 om2 a _ hE) (h:=?_)
 refine xA (h:=Zd rfl (fun g3=>?_) (fun g3=>?_))
 try simp only [sQ,ne_eq] at g3
 refine Za (xA (h:=Zg (ZI (Zs ?_))))
 exact ZW .ret (.inl rfl) [_] t1 ⟨ZaA oz,rfl,rfl⟩
 try simp only [sQ,ne_eq] at g3
 refine Za (xM (h:=Zn (Zl rfl rfl Ztk rfl ((hE.row 3 (by decide)) _ 0 _ rfl) ?_)))
 refine xR ZvA rfl (Znn c 3 om2 om2 a _ hE) (h:=?_)
 refine xA (h:=Zd rfl (fun g4=>?_) (fun g4=>?_))
 try simp only [sQ,ne_eq] at g4
 refine Za (xA (h:=Zg (ZI (Zs ?_))))
 exact ZW .ret (.inl rfl) [_] t1 ⟨ZaA oz,rfl,rfl⟩
 try simp only [sQ,ne_eq] at g4
 refine Zi (Zz (Zf (Za (xA (h:=Zg ?_)))))
 exact ZW .ret (.inl rfl) [_] t1 ⟨ZaA oz,rfl,rfl⟩

set_option maxHeartbeats 400000 in
theorem ZtY (b o:Nat) (q1 q2 q3:Option Addr) (c1 c2 c3:Nat) (x:DHost) (u ow nm:Str) (rr:Int) (hn:u.length≤2000000) (ho:ow.length≤2000000) (hm:nm.length≤2000000) (a:Nat→Addr)  (B:Kn) (hE:ErrsB 238 [0,1,2,3] B a) (hh:Za9 B b o [str x.domain,.slice q1 x.users.length c1,.slice q2 x.folders.length c2,.int .i64 x.queue.next,.slice q3 x.queue.items.length c3]) (hu:SlK B q1 c1 3 Zh x.users) (hf:SlK B q2 c2 5 Zb x.folders):Za1 (pj J) 14 [ptr ⟨b,o,none⟩,str u,str ow,str nm,.int .i64 rr] B (.tuple #[.int .i64 (if ZlG x.users x.folders u ow nm rr=0 then ZaD (inF ow nm) x.folders else -1),errv 238 a (ZlG x.users x.folders u ow nm rr)]):=by
 refine Zc 47 Tryz.func14 rfl rfl rfl (Nat.le_of_ble_eq_true rfl) ?_
 have hfn:=hf.len
 have hix:=ZcG (inF ow nm) x.folders
 refine Za (xA (h:=xA (h:=Za (xM (h:=xM (h:=xM (h:=xR Zwf rfl (Zqc _ _ _ _ _ _ _ _ x ow nm om2 om2 _ hh hf) (h:=?_))))))))
 refine xA (h:=Zm (Za (xM (h:=Zai (h:=xM (h:=Zt (d:=19) rfl (fun g1=>?_) (fun g1=>?_)))))))
 try simp only [sQ,ne_eq] at g1
 refine xP (h:=xP (h:=xP (h:=xP (h:=xP (h:=xP (h:=xP (h:=xP (h:=xP (h:=xP (h:=xP (h:=xT (h:=Zd (t:=true) rfl (fun _=>?_) (fun h=>Bool.noConfusion h)))))))))))))
 refine Zm (Z9 (same _ _) mo kr ⟨rfl,rfl⟩ (fun _ _=>?_))
 refine aT 0 rfl (Zan fun D=>Zl rfl rfl Ztk rfl ((hE.row 0 (by decide)) _ 0 _ rfl) r4) (h:=?_)
 refine aA 1 rfl (h:=aA 2 rfl (h:=ZD kr kr ?_))
 refine Zf (Zg (Zs ?_))
 exact ZW .ret (.inl rfl) [_,_] t2 ⟨(by rw [show ZlG x.users x.folders u ow nm rr=1 from Zqx (by simpa using g1)];rfl),rfl,rfl⟩
 try simp only [sQ,ne_eq] at g1
 refine xM (h:=xM (h:=xM (h:=xNc (h:=xW Z0 (h:=Zn (Zl rfl rfl Zcy rfl (hh _ 2 _ rfl) (xM (h:=?_))))))))
 obtain ⟨w,hw⟩:=Zd7 (xs:=x.folders) (i:=(ZaD (inF ow nm) x.folders)) om om
 obtain ⟨bb3,oo3,rfl⟩:=hf.base hw
 obtain ⟨_,⟨qg4,cg4,qm4,cm4,rfl,hg4,hm4,hb4,hb4b⟩,hc4⟩:=hf.elem hw
 have hg4n:=hg4.len
 have hm4n:=hm4.len
 have hm4s:=Z4 hm4
 refine xIx Tryz.underlying24 Zbj (h:=yL [_,_,_,_,_] ZgQ hc4 0 (h:=xR Zw6 rfl (ZuL _ _ _ _ _ _ _ _ x _ _ _ _ u w _ om2 om2 _ hh hu hg4) (h:=?_)))
 refine xN (h:=xF (h:=Zd rfl (fun g3=>?_) (fun g3=>?_)))
 try simp only [sQ,ne_eq] at g3
 refine Zm (Z9 (same _ _) mo kr ⟨rfl,rfl⟩ (fun _ _=>?_))
 refine aT 0 rfl (Zan fun D=>Zl rfl rfl Ztk rfl ((hE.row 0 (by decide)) _ 0 _ rfl) r4) (h:=?_)
 refine aA 1 rfl (h:=aA 2 rfl (h:=ZD kr kr ?_))
 refine Zf (Zg (Zs ?_))
 exact ZW .ret (.inl rfl) [_,_] t2 ⟨(by rw [show ZlG x.users x.folders u ow nm rr=1 from by rw [Zj8 oz hw,if_pos (by simpa using g3)]];rfl),rfl,rfl⟩
 try simp only [sQ,ne_eq] at g3
 refine Zi (Zf (Zm (Za (xM (h:=xM (h:=xM (h:=xNc (h:=xW Z0 (h:=Zn (Zl rfl rfl Zcy rfl (hh _ 2 _ rfl) (xM (h:=xIx Tryz.underlying24 Zbj (h:=yL [_,_,_,_,_] ZgQ hc4 0 (h:=?_))))))))))))))
 refine xM (h:=xR Zw6 rfl (ZuL _ _ _ _ _ _ _ _ x _ _ _ _ u w _ om2 om2 _ hh hu hg4) (h:=?_))
 refine xN (h:=Zd rfl (fun g4=>?_) (fun g4=>?_))
 try simp only [sQ,ne_eq] at g4
 refine Zm (Z9 (same _ _) mo kr ⟨rfl,rfl⟩ (fun _ _=>?_))
 refine aT 0 rfl (Zan fun D=>Zl rfl rfl Ztk rfl ((hE.row 1 (by decide)) _ 0 _ rfl) r4) (h:=?_)
 refine aA 1 rfl (h:=aA 2 rfl (h:=ZD kr kr ?_))
 refine Zf (Zg (Zs ?_))
 exact ZW .ret (.inl rfl) [_,_] t2 ⟨(by rw [show ZlG x.users x.folders u ow nm rr=2 from by rw [Zj8 oz hw,if_neg (by simp [g3]),if_pos (by simpa using g4)]];rfl),rfl,rfl⟩
 try simp only [sQ,ne_eq] at g4
 refine Zi (Zf (Za (xM (h:=xA (h:=xA (h:=Zg ?_))))))
 exact ZW .ret (.inl rfl) [_,_] t2 ⟨(by rw [show ZlG x.users x.folders u ow nm rr=0 from by rw [Zj8 oz hw,if_neg (by simp [g3]),if_neg (by simp [g4])]];rfl),rfl,rfl⟩

set_option maxHeartbeats 400000 in
theorem ZuF (hJ:Joins Tryz.prog J) (q1 q2 q3:Option Addr) (c1 c2 c3:Nat) (x:DHost) (z:DSess) (o n:Str) (h1:z.user.length≤2000000) (h2:z.owner.length≤2000000) (h3:z.name.length≤2000000) (ho:o.length≤2000000) (hn:n.length≤2000000) (hd:x.domain.length≤2000000) (a:Nat→Addr)  (B:Kn) (hE:ErrsB 238 [0,1,2,3] B a) (hu:SlK B q1 c1 3 Zh x.users) (hf:SlK B q2 c2 5 Zb x.folders) (hi:SlK B q3 c3 4 Zj x.queue.items):ZM (pj J) 5 [.agg #[str x.domain,.slice q1 x.users.length c1,.slice q2 x.folders.length c2,.int .i64 x.queue.next,.slice q3 x.queue.items.length c3],.agg #[str z.user,str z.owner,str z.name],str o,str n] B [] (fun v B' Ls=>Ls=[]∧v = .tuple #[.agg #[str (ZlE x z o n).1.user,str (ZlE x z o n).1.owner,str (ZlE x z o n).1.name],.int .i64 (ZlE x z o n).2]):=by
 refine Zc 34 Tryz.func5 rfl rfl rfl (Nat.le_of_ble_eq_true rfl) ?_
 have hfn:=hf.len
 refine Za (xBx [_,_,_,_,_] (h:=fun b1=>xBx [_,_,_] (h:=fun b2=>xAl [_,_,_] Zkg (h:=fun b3=>xA (h:=Zw [_,_,_] rfl (ZoP 0 rfl (fun B4 hle4 hpm4=>?_)))))))
 have hc4:=Zdk hpm4
 replace hu:=hu.mono Zh.mono hle4
 replace hf:=hf.mono Zb.mono hle4
 replace hi:=hi.mono Zj.mono hle4
 replace hE:=hE.mono hle4
 refine Zm (Za (yL [_,_,_,_,_] Z2 hc4 0 (h:=Zn (Zav rfl rfl Zxa rfl (Zh0 hJ _ _ _ _ _ _ x om2 _ hu hf hi) ?_))))
 intro v5 B5 hle5
 rintro rfl
 replace hu:=hu.mono Zh.mono hle5
 replace hf:=hf.mono Zb.mono hle5
 replace hi:=hi.mono Zj.mono hle5
 replace hc4:=hc4.mono hle5
 replace hE:=hE.mono hle5
 refine xN (h:=Zw [_,_,_] rfl (Zd rfl (fun g1=>?_) (fun g1=>?_)))
 try simp only [sQ,ne_eq] at g1
 refine Za (xB [] [_,_,_] [_,_,_] Zs6 Zkg (h:=xS [_,_,_] 2 [_,_,_] ZlR (h:=xA (h:=Zw [_,_,_] rfl (Zg (Zs ?_))))))
 exact Zaf .ret (.inl rfl) [_,_] [] rfl ⟨⟨_,rfl,.inr ⟨[_,_,_],Zgo,Zad 2 rfl rfl rfl,rfl⟩⟩,rfl,trivial⟩ ⟨rfl,by rw [ZjF (by simpa using g1)];rfl⟩
 try simp only [sQ,ne_eq] at g1
 have hck:=ZtW x.users x.folders z.user o n 2
 have hce:=Zr7 (u:=z.user) (o:=o) (n:=n) (show ZA x=true by simpa using g1)
 refine Zi (Zf (Zm (Za (xW Zfc (h:=x1 lk9 1 (h:=xM (h:=xM (h:=xR Zx0 rfl (ZtY _ _ _ _ _ _ _ _ x z.user o n 2 om2 om2 om2 a _ hE hc4 hu hf) (h:=?_)))))))))
 refine xM (h:=xE (h:=xE (h:=xA (h:=xA (h:=Za (xM (h:=Zn (Zuf (tE:=238) (a:=a) (c:=(ZlG x.users x.folders z.user o n 2)) rfl rfl Tryz.underlying47 rfl (Zd rfl (fun g2=>?_) (fun g2=>?_))))))))))
 try simp only [sQ,ne_eq] at g2
 refine Zm (Z9 (keeps _ [1] _) mo kr ⟨Kn.le.refl _,Zar.refl _ _⟩ (fun _ _=>?_))
 refine aT 0 rfl (ZK fun D B L hI=>Zag [_,_,_] rfl rfl Zgo rfl (Zad 1 (hI.2.1.trans rfl) rfl rfl) r4) (h:=aM 1 rfl (h:=aT 2 rfl (ZK fun D B L hI=>ZaR rfl rfl ZxZ rfl (Zoj (ZlG x.users x.folders z.user o n 2) om2 a _ (hE.mono hI.1)) r4) (h:=?_)))
 refine ZbC 3 kr rfl kr kr (ZO [_,_,_] 2 [_,_,_] rfl rfl ZlR rfl rfl rfl rfl rfl rfl rfl rfl ?_)
 refine aA 4 rfl (h:=ZD kr kr ?_)
 refine Zf (Zw [_,_,_] rfl (Zg (Zs ?_)))
 exact Zaf .ret (.inl rfl) [_,_] [] rfl ⟨⟨_,rfl,.inr ⟨[_,_,_],Zgo,Zad 2 rfl rfl rfl,rfl⟩⟩,rfl,trivial⟩ ⟨rfl,by rw [Zl0 (by simpa using g1) oz,← hce];rfl⟩
 try simp only [sQ,ne_eq] at g2
 refine Zi (Zf (Za (xW Zfc (h:=x1 lk9 1 (h:=xM (h:=xM (h:=xB [(0,_),(1,_),(2,_)] [_,_,_] [_,_,_] Zs6 Zkg (h:=xS [_,_,_] 2 [_,_,_] ZlR (h:=xA (h:=Zw [_,_,_] rfl (Zg ?_)))))))))))
 exact Zaf .ret (.inl rfl) [_,_] [] rfl ⟨⟨_,rfl,.inr ⟨[_,_,_],Zgo,Zad 2 rfl rfl rfl,rfl⟩⟩,rfl,trivial⟩ ⟨rfl,by rw [ZjE (by simpa using g1) oz];rfl⟩

set_option maxHeartbeats 400000 in
theorem ZuE (q1 q2 q3:Option Addr) (c1 c2 c3:Nat) (x:DHost) (z:DSess) (o n:Str) (h1:z.user.length≤2000000) (h2:z.owner.length≤2000000) (h3:z.name.length≤2000000) (ho:o.length≤2000000) (hn:n.length≤2000000) (hd:x.domain.length≤2000000) (B:Kn) (hu:SlK B q1 c1 3 Zh x.users) (hf:SlK B q2 c2 5 Zb x.folders) (hi:SlK B q3 c3 4 Zj x.queue.items):Za1 (pj J) 6 [.agg #[str x.domain,.slice q1 x.users.length c1,.slice q2 x.folders.length c2,.int .i64 x.queue.next,.slice q3 x.queue.items.length c3],.agg #[str z.user,str z.owner,str z.name],str o,str n] B (.tuple #[.agg #[str (ZlE x z o n).1.user,str (ZlE x z o n).1.owner,str (ZlE x z o n).1.name],.int .i64 (ZlE x z o n).2]):=by
 refine Zc 32 Tryz.func6 rfl rfl rfl (Nat.le_of_ble_eq_true rfl) ?_
 have hfn:=hf.len
 have hix:=ZcG (inF o n) x.folders
 refine Za (xBx [_,_,_,_,_] (h:=fun b1=>xBx [_,_,_] (h:=fun b2=>xAl [_,_,_] Zkg (h:=fun b3=>xA (h:=Zw [_,_,_] rfl (Zm (Za (xL [_,_,_,_,_] Z2 0 (h:=xR Zqn rfl (Zbm _ _ _ _ _ _ x om2 _ hu hf hi) (h:=?_))))))))))
 refine xN (h:=Zd rfl (fun g1=>?_) (fun g1=>?_))
 try simp only [sQ,ne_eq] at g1
 refine Za (xB [] [_,_,_] [_,_,_] Zs6 Zkg (h:=xS [_,_,_] 2 [_,_,_] ZlR (h:=xA (h:=Zw [_,_,_] rfl (Zg (Zs ?_))))))
 exact ZW .ret (.inl rfl) [_,_] ⟨⟨_,rfl,.inr ⟨[_,_,_],Zgo,Zad 2 rfl rfl rfl,rfl⟩⟩,rfl,trivial⟩ ⟨(by rw [ZjF (by simpa using g1)];rfl),rfl,rfl⟩
 try simp only [sQ,ne_eq] at g1
 have hrr:=ZbV (show ZA x=true by simpa using g1)
 refine Zi (Zf (Zm (Z9 (same _ _) mo kr ⟨rfl,rfl⟩ (fun _ _=>?_))))
 refine aT 0 rfl (Zan fun D=>Zag [_,_,_,_,_] rfl rfl Z2 rfl (Zad 0 rfl rfl rfl) r4) (h:=aW 1 rfl Zfc (h:=aT 2 rfl (Zan fun D=>Zl rfl rfl lk9 rfl (atL 1 rfl rfl rfl) r4) (h:=aT 3 rfl (Zan fun D=>Zag [_,_,_,_,_] rfl rfl Z2 rfl (Zad 0 rfl rfl rfl) r4) (h:=aM 4 rfl (h:=aM 5 rfl (h:=aT 6 rfl (Zan fun D=>ZaR rfl rfl ZsJ rfl (ZcR _ _ _ _ _ _ x o n om2 om2 _ hf) r4) (h:=?_)))))))
 refine aT 7 rfl (Zan fun D=>ZaR rfl rfl Zt7 rfl (Zdc _ _ _ _ _ _ x z.user (ZaD (inF o n) x.folders) 2 oz hrr oz _ hu hf) r4) (h:=?_)
 refine aA 8 rfl (h:=ZD kr kr ?_)
 refine Zf (Zm (Za (xM (h:=ZcZ (h:=Zd rfl (fun g2=>?_) (fun g2=>?_))))))
 try simp only [sQ,ne_eq] at g2
 refine Za (xL [_,_,_] Zgo 1 (h:=xM (h:=xS [_,_,_] 2 [_,_,_] ZlR (h:=xA (h:=Zw [_,_,_] rfl (Zg (Zs ?_)))))))
 exact ZW .ret (.inl rfl) [_,_] ⟨⟨_,rfl,.inr ⟨[_,_,_],Zgo,Zad 2 rfl rfl rfl,rfl⟩⟩,rfl,trivial⟩ ⟨(by rw [Zl0 (by simpa using g1) g2];rfl),rfl,rfl⟩
 try simp only [sQ,ne_eq] at g2
 refine Zi (Zf (Za (xW Zfc (h:=x1 lk9 1 (h:=xM (h:=xM (h:=xB [(0,_),(1,_),(2,_)] [_,_,_] [_,_,_] Zs6 Zkg (h:=xS [_,_,_] 2 [_,_,_] ZlR (h:=xA (h:=Zw [_,_,_] rfl (Zg ?_)))))))))))
 exact ZW .ret (.inl rfl) [_,_] ⟨⟨_,rfl,.inr ⟨[_,_,_],Zgo,Zad 2 rfl rfl rfl,rfl⟩⟩,rfl,trivial⟩ ⟨(by rw [ZjE (by simpa using g1) g2];rfl),rfl,rfl⟩

set_option maxHeartbeats 400000 in
theorem Zr2 (q:Option Addr) (m cp:Nat) (hmc:m≤cp) (B:Kn) (hb:Zak B q m):ZM (pj J) 4 [.slice q m cp] B [] (fun v B' Ls=>Ls=[]∧∃(x:DHost) (p1 p2 p3:Option Addr) (d1 d2 d3:Nat) (w y z o n:Str),v = .tuple #[.agg #[str x.domain,.slice p1 x.users.length d1,.slice p2 x.folders.length d2,.int .i64 x.queue.next,.slice p3 x.queue.items.length d3],.agg #[str w,str y,str z],str o,str n]∧SlK B' p1 d1 3 Zh x.users∧SlK B' p2 d2 5 Zb x.folders∧SlK B' p3 d3 4 Zj x.queue.items∧x.domain.length≤2000000∧w.length≤2000000∧y.length≤2000000∧z.length≤2000000∧o.length≤2000000∧n.length≤2000000):=by
 refine Zc 28 Tryz.func4 rfl rfl rfl (Nat.le_of_ble_eq_true rfl) ?_
 refine Za (xAl [_,_,_,_,_] Zba (h:=fun b1=>xAl [_,_,_] Zkg (h:=fun b2=>xA (h:=xA (h:=Zw [_,_] rfl (Za (xM (h:=Zn (Zsv rfl rfl en9 rfl (ZrA _ _ _ oz _ (oy)) ?_)))))))))
 rintro _ _ ⟨bop,qop,mop,cpop,rfl,rfl,hm,hbm⟩
 refine xA (h:=Zw [_,_,_] rfl (Za (xM (h:=Zn (Z8 [2] rfl rfl rfl rfl Zx2 rfl (Zrx _ _ _ _ _ oz hm _ hbm) ?_)))))
 rintro _ Bh _ hleh ⟨xh,p1h,p2h,p3h,d1h,d2h,d3h,kh,rfl,huh,hfh,hih,hdh,hkh,rfl⟩
 replace hbm:=hbm.mono hleh
 have huhn:=huh.len
 have hfhn:=hfh.len
 have hihn:=hih.len
 refine xAl [_,_,_,_,_] Zba (h:=fun b5=>xS [_,_,_,_,_] 3 [_,_,_,_,_] Zaw (h:=Zw [_,_,_,_] rfl (Za (xM (h:=xL [_,_,_,_,_] Z2 3 (h:=xX 2 rfl Zx1 rfl (ZkX _ _ _ _ _ oz hm _ _ _ _ _ _ _ _ hbm hfh) (h:=?_)))))))
 rintro _ _ ⟨ws,ys,zs,ks,rfl,hws,hys,hzs,hks,rfl⟩
 refine xAl [_,_,_] Zkg (h:=fun b7=>xS [_,_,_] 4 [_,_,_] ZlR (h:=Zw [_,_,_,_,_] rfl (Za (xM (h:=xL [_,_,_,_,_] Z2 3 (h:=xX 2 rfl Zxb rfl (Zna _ _ _ _ _ oz hm _ _ _ _ _ _ _ _ hbm hfh) (h:=?_)))))))
 rintro _ _ ⟨yo,zo,ko,rfl,hyo,hzo,hko,rfl⟩
 refine xM (h:=xE (h:=xE (h:=xA (h:=xA (h:=Zw [_,_,_,_,_] rfl (Zm (Z9 (keeps _ [3,4] _) mo kr ⟨Kn.le.refl _,Zar.refl _ _⟩ (fun _ _=>?_))))))))
 refine aT 0 rfl (ZK fun D B L hI=>Zag [_,_,_,_,_] rfl rfl Z2 rfl (Zad 3 (hI.2.1.trans rfl) rfl rfl) r4) (h:=aT 1 rfl (ZK fun D B L hI=>Zag [_,_,_] rfl rfl Zgo rfl (Zad 4 (hI.2.2.1.trans rfl) rfl rfl) r4) (h:=aM 2 rfl (h:=aM 3 rfl (h:=Zv 4 kr rfl kr (ZO [_,_,_,_,_] 0 [_,_,_,_,_] rfl rfl Zaw rfl rfl rfl rfl rfl rfl rfl rfl ?_)))))
 refine ⟨⟨Kn.le.refl _,t2⟩,(ZbC 5 kr rfl kr kr (ZO [_,_,_] 1 [_,_,_] rfl rfl ZlR rfl rfl rfl rfl rfl rfl rfl rfl ?_))⟩
 refine aA 6 rfl (h:=aA 7 rfl (h:=ZD kr kr ?_))
 refine Zf (Zw [_,_,_,_,_] rfl (Zg ?_))
 exact Zaf .ret (.inl rfl) [_,_,_,_] [] rfl ⟨⟨_,rfl,.inr ⟨[_,_,_,_,_],Z2,Zad 0 rfl rfl rfl,rfl⟩⟩,⟨_,rfl,.inr ⟨[_,_,_],Zgo,Zad 1 rfl rfl rfl,rfl⟩⟩,rfl,rfl,trivial⟩ ⟨rfl,xh,_,_,_,_,_,_,_,_,_,_,_,rfl,huh,hfh,hih,hdh,oa,oa,oa,oa,oa⟩

set_option maxHeartbeats 1600000 in
theorem Zor (q:Option Addr) (m cp:Nat) (hmc:m≤cp) (B:Kn) (hb:Zak B q m) (a:Nat→Addr) (hE:ErrsB 238 [0,1,2,3] B a) :∃code,Tryz.f3.body=some code∧wpS (pj (ZoG Tryz.prog)) 79 code (ZiQ (pj (ZoG Tryz.prog)) [.tmp 2] (fun v B' Ls=>v = .bool true)) (Zep [.slice q m cp] 0) [] B []:=by
 have hJ:=Zmj Tryz.prog
 refine ⟨_,rfl,(Za (xA (h:=Zm (Za (xM (h:=xV Tryz.underlying22 (h:=ZbA (h:=Zd rfl (fun g0=>?_) (fun g0=>?_)))))))))⟩
 try simp only [sQ,ne_eq] at g0
 refine Za (xA (h:=Zg (Zs ?_)))
 exact ZW .ret (.inl rfl) [_] t1 rfl
 try simp only [sQ,ne_eq] at g0
 refine Zi (Zf (Za (xM (h:=Zn (Zav rfl rfl en4 rfl (Zr2 _ _ _ oz _ (oy)) ?_)))))
 intro vd Bd hled
 rintro ⟨xd,p1d,p2d,p3d,d1d,d2d,d3d,wd,yd,zd,od,nd,rfl,hud,hfd,hid,hdd,hwd,hyd,hzd,hod,hnd⟩
 replace hE:=hE.mono hled
 have hudn:=hud.len
 have hfdn:=hfd.len
 have hidn:=hid.len
 refine xM (h:=xE (h:=xE (h:=xE (h:=xE (h:=xAl [_,_,_,_,_] Zba (h:=fun b2=>xAl [_,_,_] Zkg (h:=fun b3=>xS [_,_,_,_,_] 0 [_,_,_,_,_] Zaw (h:=xS [_,_,_] 1 [_,_,_] ZlR (h:=xA (h:=xA (h:=Zw [_,_] rfl (Za ?_))))))))))))
 refine xL [_,_,_,_,_] Z2 0 (h:=xL [_,_,_] Zgo 1 (h:=xM (h:=xM (h:=Zn (Zav rfl rfl en5 rfl (ZuF hJ _ _ _ _ _ _ xd (⟨wd,yd,zd⟩:DSess) od nd om2 om2 om2 om2 om2 om2 a _ hE hud hfd hid) ?_)))))
 intro v4 B4 hle4
 rintro rfl
 replace hud:=hud.mono Zh.mono hle4
 replace hfd:=hfd.mono Zb.mono hle4
 replace hid:=hid.mono Zj.mono hle4
 replace hE:=hE.mono hle4
 refine xM (h:=xE (h:=xE (h:=xAl [_,_,_] Zkg (h:=fun b5=>xS [_,_,_] 2 [_,_,_] ZlR (h:=xA (h:=Zw [_,_,_] rfl (Za (xL [_,_,_,_,_] Z2 0 (h:=xL [_,_,_] Zgo 1 (h:=xM (h:=xM (h:=xR en6 rfl (ZuE _ _ _ _ _ _ xd (⟨wd,yd,zd⟩:DSess) od nd om2 om2 om2 om2 om2 om2 _ hud hfd hid) (h:=?_)))))))))))))
 refine xM (h:=xE (h:=xE (h:=xAl [_,_,_] Zkg (h:=fun b7=>xS [_,_,_] 3 [_,_,_] ZlR (h:=xA (h:=Zw [_,_,_,_] rfl (Zm (Za (xM (h:=xM (h:=ZcZ (h:=xM (h:=?_)))))))))))))
 refine Zt (d:=41) rfl (fun g1=>by simp at g1) (fun g1=>?_)
 try simp only [sQ,ne_eq] at g1
 refine xL [_,_,_] Zgo 2 (h:=xL [_,_,_] Zgo 3 (h:=Zn (Zug (rs:=[_,_,_]) rfl rfl rfl rfl Zqb ⟨⟨_,_,rfl,rfl,Zc8 Tryz.underlying9⟩,⟨_,_,rfl,rfl,Zc8 Tryz.underlying9⟩,⟨_,_,rfl,rfl,Zc8 Tryz.underlying9⟩,trivial⟩ (xF (h:=xM (h:=Zt (d:=46) rfl (fun g2=>by simp at g2) (fun g2=>?_)))))))
 try simp only [sQ,ne_eq] at g2
 refine xM (h:=ZcZ (h:=xF (h:=Zd rfl (fun g3=>?_) (fun g3=>?_))))
 try simp only [sQ,ne_eq] at g3
 refine Za (xM (h:=xM (h:=ZF (h:=xM (h:=Zt (d:=53) rfl (fun g4=>?_) (fun g4=>by simp at g4))))))
 try simp only [sQ,ne_eq] at g4
 refine xL [_,_,_] Zgo 2 (h:=xL [_,_,_] Zgo 3 (h:=Zn (ZsC (rs:=[_,_,_]) rfl rfl rfl rfl Zqb ⟨⟨_,_,rfl,rfl,Zc8 Tryz.underlying9⟩,⟨_,_,rfl,rfl,Zc8 Tryz.underlying9⟩,⟨_,_,rfl,rfl,Zc8 Tryz.underlying9⟩,trivial⟩ (xT (h:=xA (h:=Zg (Zs ?_)))))))
 exact ZW .ret (.inl rfl) [_] t1 (Zp (by simp))
 try simp only [sQ,ne_eq] at g3
 obtain ⟨hse,hr1,hr2,hr3,hr4⟩:=Zpj (x:=xd) (s:=⟨wd,yd,zd⟩) (o:=od) (n:=nd) (by simpa using g3)
 replace hr1 : -1≤Zb3 xd wd od nd:=hr1
 replace hr2:Zb3 xd wd od nd≤63:=hr2
 replace hr3:Zkd 1 (Zb3 xd wd od nd) 1=true:=hr3
 replace hr4:Zkd 2 (Zb3 xd wd od nd) 2=true:=hr4
 refine Zi (Zf (Za (xL [_,_,_,_,_] Z2 0 (h:=xW Zfc (h:=x1 lk9 1 (h:=xM (h:=xM (h:=Zn (Zav rfl rfl en7 rfl (ZnP hJ _ _ _ _ _ _ xd wd od nd om2 om2 om2 om2 _ hud hfd hid) ?_)))))))))
 intro v8 B8 hle8
 rintro rfl
 replace hud:=hud.mono Zh.mono hle8
 replace hfd:=hfd.mono Zb.mono hle8
 replace hid:=hid.mono Zj.mono hle8
 replace hE:=hE.mono hle8
 refine xA (h:=Za (xL [_,_,_] Zgo 2 (h:=xW Zfc (h:=x1 lk9 1 (h:=xM (h:=xM (h:=xB [(0,_),(1,_),(2,_)] [_,_,_] [_,_,_] Zs6 Zkg (h:=Zn (ZsC (rs:=[_,_,_]) rfl rfl rfl rfl Zqb ⟨⟨_,_,rfl,rfl,Zc8 Tryz.underlying9⟩,⟨_,_,rfl,rfl,Zc8 Tryz.underlying9⟩,⟨_,_,rfl,rfl,Zc8 Tryz.underlying9⟩,trivial⟩ (xM (h:=Zt (d:=71) rfl (fun g5=>?_) (fun g5=>by rw [hse] at g5;simp at g5))))))))))))
 try simp only [sQ,ne_eq] at g5
 refine xM (h:=xR en8 rfl (ZqI (Zb3 xd wd od nd) 1 om2 om2 om2 om2 _) (h:=?_))
 refine xT (h:=xM (h:=Zt (d:=75) rfl (fun g6=>?_) (fun g6=>by simp [hr3] at g6)))
 try simp only [sQ,ne_eq] at g6
 refine xM (h:=xR en8 rfl (ZqI (Zb3 xd wd od nd) 2 om2 om2 om2 om2 _) (h:=?_))
 refine xT (h:=xA (h:=Zg ?_))
 exact ZW .ret (.inl rfl) [_] t1 (Zp hr4)

end Go.Proofs.YtnfoidafdcgdbaaGreatDoor
