/-
  WHAT THE FUNCTIONS THAT THE LAWS REACH COMPUTE: each function's contract, proved off its printed body (the text is written by program). No condition beyond those that each theorem states.
-/
import Derived.Test.YtpgdailphhongaaGreatDoorC3
namespace Go.Proofs.YtpgdailphhongaaGreatDoor
open Go Go.BL
set_option linter.unusedVariables false
set_option linter.unusedSimpArgs false
set_option maxRecDepth 4000
variable {J : JoinT}
set_option maxHeartbeats 400000 in
theorem ZdN (q:Option Addr) (cp:Nat) (x:DBox) (fl:Int) (t:Str) (ht:t.length≤2000000) (B:Kn) (hm:SlK B q cp 3 ZM x.mail):ZA (pj J) 153 [.agg #[.int .i64 x.next,.slice q x.mail.length cp],.int .i64 fl,str t] B [] (fun v B' Ls=>∃l a c,Ls=[l]∧v = .tuple #[.agg #[.int .i64 (ZR x fl t).1.next,.slice a (ZR x fl t).1.mail.length c],.bool (ZR x fl t).2]∧Z2 B' l a c 196 3 ZM (ZR x fl t).1.mail):=by
 refine Zc 28 Tryz.func153 rfl rfl rfl (Nat.le_of_ble_eq_true rfl) ?_
 have hxn:=hm.len
 refine Za (xBx [_,_] (h:=fun b1=>xAl [_,_] Zfg (h:=fun b2=>xA (h:=Zv [_,_] rfl (Zl (Za (xL [_,_] ZbP 0 (h:=xR Zsk rfl (Zgd _ _ (⟨x.next,x.mail⟩:DBox) _ hm) (h:=xN (h:=xM (h:=Zt (d:=11) rfl (fun g1=>?_) (fun g1=>?_))))))))))))
 try simp only [sQ,ne_eq] at g1
 have he:=Zfc (b:=x) (fl:=fl) (t:=t) (by simp [g1])
 refine xP (h:=xP (h:=xP (h:=xT (h:=xM (h:=xP (h:=xP (h:=xP (h:=xT (h:=Zd (t:=true) rfl (fun _=>Za (xB [] [_,_] [_,_] Znw Zfg (h:=xS [_,_] 1 [_,_] ZcI (h:=?_)))) (fun h=>Bool.noConfusion h))))))))))
 refine xA (h:=Zv [_,_] rfl (Zh (Zs ?_)))
 exact Zsg .ret (.inl rfl) [_,_] ⟨⟨_,rfl,.inr ⟨[_,_],ZbP,Zaf 1 rfl rfl rfl,rfl⟩⟩,rfl,trivial⟩ ⟨_,none,0,rfl,by rw [he];rfl,by rw [he];exact Z2.nil⟩
 try simp only [sQ,ne_eq] at g1
 refine xM (h:=xR ZqF rfl (Ze3 _ _) (h:=xN (h:=xF (h:=xM (h:=Zt (d:=16) rfl (fun g2=>?_) (fun g2=>?_))))))
 try simp only [sQ,ne_eq] at g2
 have he:=Zfc (b:=x) (fl:=fl) (t:=t) (fun h=>by have:=h.2.1;simp only [ZaV,g2] at this;cases this)
 refine xP (h:=xP (h:=xP (h:=xT (h:=Zd (t:=true) rfl (fun _=>Za (xB [] [_,_] [_,_] Znw Zfg (h:=xS [_,_] 1 [_,_] ZcI (h:=xA (h:=Zv [_,_] rfl (Zh (Zs ?_))))))) (fun h=>Bool.noConfusion h)))))
 exact Zsg .ret (.inl rfl) [_,_] ⟨⟨_,rfl,.inr ⟨[_,_],ZbP,Zaf 1 rfl rfl rfl,rfl⟩⟩,rfl,trivial⟩ ⟨_,none,0,rfl,by rw [he];rfl,by rw [he];exact Z2.nil⟩
 try simp only [sQ,ne_eq] at g2
 refine xM (h:=xVs Tryz.underlying9 (h:=ZbM (h:=xF (h:=Zd rfl (fun g3=>?_) (fun g3=>?_)))))
 try simp only [sQ,ne_eq] at g3
 have he:=Zfc (b:=x) (fl:=fl) (t:=t) (by simp;omega)
 refine Za (xB [] [_,_] [_,_] Znw Zfg (h:=xS [_,_] 1 [_,_] ZcI (h:=xA (h:=Zv [_,_] rfl (Zh (Zs ?_))))))
 exact Zsg .ret (.inl rfl) [_,_] ⟨⟨_,rfl,.inr ⟨[_,_],ZbP,Zaf 1 rfl rfl rfl,rfl⟩⟩,rfl,trivial⟩ ⟨_,none,0,rfl,by rw [he];rfl,by rw [he];exact Z2.nil⟩
 try simp only [sQ,ne_eq] at g3
 have hok:Zbm x=true:=by simpa using g1
 rw [ZkF ⟨hok,by simpa only [ZaV,Bool.not_eq_false] using g2,oz⟩]
 refine Zj (Zf (Za (xL [_,_] ZbP 0 (h:=xM (h:=xM (h:=Zo (Zaa rfl rfl Zvx rfl (Ziq _ _ (⟨x.next,x.mail⟩:DBox) fl t oz (oy) _ hm) ?_)))))))
 rintro _ B5 _ hle5 ⟨l5,a5,c5,rfl,rfl,hs5⟩
 replace hm:=hm.mono ZM.mono hle5
 replace hs5:=hs5.anyK (B':=B5) ZM.any
 refine xE (h:=xE (h:=xS [_,_] 1 [_,_] ZcI (h:=xA (h:=Zv [_,_,_] rfl (Zh ?_)))))
 exact Zad .ret (.inl rfl) [_,_] [2] rfl ⟨⟨_,rfl,.inr ⟨[_,_],ZbP,Zaf 1 rfl rfl rfl,rfl⟩⟩,rfl,trivial⟩ ⟨_,_,_,rfl,rfl,hs5⟩

set_option maxHeartbeats 400000 in
theorem ZrP (b:Nat) (q:Option Addr) (m cp p:Nat) (hp:p≤800000000000) (hm:m≤2000) (B:Kn) (hbm:Zat B q m):ZA (pj J) 97 [ptr ⟨b,0,none⟩] B [rd b q m cp p] (fun v B' Ls=>∃(q':Option Addr) (cp':Nat) (gs:List DGrant) (k:Nat),v = .slice q' gs.length cp'∧SlK B' q' cp' 2 ZL gs∧k≤p+60∧Ls=[rd b q m cp k]):=by
 refine Zc 52 Tryz.func97 rfl rfl rfl (Nat.le_of_ble_eq_true rfl) ?_
 refine Za (xA (h:=Za (xBs [] [] Tryz.underlying65 ZbH ZdI (h:=fun b1=>xA (h:=Zv [_,_] rfl (Za (xM (h:=xX 0 rfl Za9 rfl (ZP _ _ _ _ _ _ oz oz oz hm _ hbm) (h:=?_)))))))))
 rintro _ _ ⟨rn,rfl,rna,rnb,rfl⟩
 refine xA (h:=Zv [_,_] rfl (Zl (Za (xA (h:=Zp (ZQ (α:=GAc) [0,2,4] (fun g=>[(3,.slice g.a g.xs.length g.c),(5,.int .i64 g.k)]) [0,1] (fun g=>[rd b q m cp g.p,g.l]) (fun g Bx=>g.k≤4∧g.p≤p+1+5*g.k∧g.xs.length≤4*g.k∧Z2 Bx g.l g.a g.c 162 2 ZL g.xs) (fun g=>4 - g.k) ⟨0,_,_,_,_,[]⟩ t2 rfl (⟨Nat.zero_le _,Nat.le_refl _,Nat.le_refl _,.lit0⟩) (fun g B3 hle3 hI=>?_)))))))
 obtain ⟨hk,hgp,hgl,hv⟩:=hI
 replace hbm:=hbm.mono hle3
 refine ZO [(0,_),(2,_),(3,_),(4,_),(5,_)] [_,_] t5 rfl (Zl (Za (xM (h:=xM (h:=Zag (h:=Zd rfl (fun g1=>?_) (fun g1=>?_)))))))
 try simp only [sQ,ne_eq] at g1
 refine Zj (Zf (Zl (Zp (Za (xM (h:=xM (h:=xBs [(0,_),(1,_),(2,_),(3,_),(4,_)] [_,_,_,_,_] Tryz.underlying39 sz9 zo9 (h:=fun b4=>Zo (Z4 [0,2] rfl rfl rfl rfl ZoP rfl (Zrb _ _ _ _ _ _ ([[97,109,121],[98,111,98],[99,121,100],[97,110,121,111,110,101],[100,97,110]]:List Str) oz (by decide) (by decide) hm _ hbm) ?_)))))))))
 rintro _ Bu _ hleu ⟨rfl,xu,hxu,rfl,rfl⟩
 replace hxu:=(show∀y∈( ([[97,109,121],[98,111,98],[99,121,100],[97,110,121,111,110,101],[100,97,110]]:List Str):List Str),y.length≤40 from by decide) _ hxu
 refine xM (h:=xX 0 rfl Za9 rfl (ZP _ _ _ _ _ _ oz oz oz hm _ hbm) (h:=?_))
 rintro _ _ ⟨re,rfl,rea,reb,rfl⟩
 refine Zo (ZkN (a:=re) (b:=8) rfl rfl rfl rfl (ZaX oz oz) ?_)
 have ht1:=Int.tmod_nonneg 63 (show 0≤re*8 by omega)
 have ht2:=Int.tmod_lt_of_pos (re*8) (show (0:Int)<63 by decide)
 refine Zo (Zhp (a:=(re*8)) (b:=63) (r:=Int.tmod (re*8) 63) rfl rfl rfl rfl (by decide) rfl ?_)
 refine xD (h:=xM (h:=xX 0 rfl Za9 rfl (ZP _ _ _ _ _ _ oz oz oz hm _ hbm) (h:=?_)))
 rintro _ _ ⟨rf,rfl,rfa,rfb,rfl⟩
 refine xD (h:=Zo (Z4 [1] rfl rfl rfl rfl Zuh rfl (ZA.borrow fun hma=>ZeW _ _ g.xs xu ((1+(Int.tmod (re*8) 63))+rf) om2 _ (hv.lend ZL.mono hma om)) ?_))
 rintro _ Ba _ hlea ⟨BBa,_,rfl,hBa,_,hma,_,la,aa,ca,rfl,rfl,hsa⟩
 replace hv:=hv.mono ZL.mono hlea
 replace hbm:=hbm.mono hlea
 have hsan:=hsa.cap
 replace hsa:=hsa.anyK (B':=Ba) ZL.any
 refine xM (h:=xE (h:=xE (h:=xA (h:=xA (h:=Zv [_,_,_,_] rfl (Za (xM (h:=Zd rfl (fun g2=>?_) (fun g2=>?_)))))))))
 try simp only [sQ,ne_eq] at g2
 refine Ze (xM (h:=xA (h:=Zz (Zf (Ze (xM (h:=xD (h:=xA (h:=?_)))))))))
 exact ZB ⟨g.k+1,(((g.p+1)+1)+1),la,aa,ca,((Zb3 g.xs xu ((1+(Int.tmod (re*8) 63))+rf)).1)⟩ [0,3] so2 ⟨so,so,by first | (simp only [];omega) | exact Nat.le_trans (Zfq _ _ _) (so),hsa⟩ t5 rfl
 try simp only [sQ,ne_eq] at g2
 refine Zj (Zz (Zf (Ze (xM (h:=xD (h:=xA (h:=?_)))))))
 exact ZB ⟨g.k+1,(((g.p+1)+1)+1),g.l,g.a,g.c,g.xs⟩ [0,1] so2 ⟨so,so,by first | (simp only [];omega) | exact Nat.le_trans (Zfq _ _ _) (so),hv⟩ t5 rfl
 try simp only [sQ,ne_eq] at g1
 refine ZT (Zah (ZZ (ZH (Zf (Zl (Za (xM (h:=xX 0 rfl Za9 rfl (ZP _ _ _ _ _ _ oz oz oz hm _ hbm) (h:=?_)))))))))
 rintro _ _ ⟨rk2,rfl,rk2a,rk2b,rfl⟩
 refine Zv [_,_] rfl (Zp (Za (ZI (h:=xA (h:=Zd rfl (fun g3=>?_) (fun g3=>?_))))))
 try simp only [sQ,ne_eq] at g3
 refine Ze (xM (h:=xM (h:=xX 0 rfl Zuz rfl (Zeh _ _ _ _ _ oz hm _ hbm) (h:=?_))))
 rintro _ _ ⟨xs,rfl,hxs,rfl⟩
 refine xM (h:=xX 0 rfl Za9 rfl (ZP _ _ _ _ _ _ oz oz oz hm _ hbm) (h:=?_))
 rintro _ _ ⟨ry,rfl,rya,ryb,rfl⟩
 refine xB [(0,_),(1,_)] [_,_] [_,_] Zts ZdI (h:=xBs [(0,_)] [_,_] Tryz.underlying65 ZbH ZdI (h:=fun b12=>Zo (Zba (z:=⟨xs,ry⟩) (R:=ZL) 1 rfl hv rfl rfl rfl ZqC Zpw rfl rfl (ZaM.box 2 rfl) rfl rfl (⟨rfl,by first | assumption | omega | (simp;done) | (simp;omega)⟩) om (fun l13 p13 c13 hv13=>?_))))
 refine xA (h:=Zz (Zf (Za (xM (h:=Z5 1 rfl hv13 ZL.mono om3 (fun B14 hle14 hr14=>?_))))))
 replace hbm:=hbm.mono hle14
 have hr14n:=hr14.len
 refine xA (h:=Zv [_,_,_] rfl (Zh ?_))
 exact Zad .ret (.inl rfl) [_] [0] rfl t1 ⟨_,_,_,_,rfl,hr14,oz,rfl⟩
 try simp only [sQ,ne_eq] at g3
 refine Za (ZI (h:=xA (h:=Zd rfl (fun g4=>?_) (fun g4=>?_))))
 try simp only [sQ,ne_eq] at g4
 refine Ze (xM (h:=xM (h:=Zo (ZuU (R:=ZL) 1 rfl hv rfl rfl rfl ZqC Zpw rfl rfl ZL.one om (fun l15 p15 c15 hv15=>?_)))))
 refine xA (h:=Zz (Zf (Za (xM (h:=Z5 1 rfl hv15 ZL.mono om3 (fun B16 hle16 hr16=>?_))))))
 replace hbm:=hbm.mono hle16
 have hr16n:=hr16.len
 refine xA (h:=Zv [_,_] rfl (Zh ?_))
 exact Zad .ret (.inl rfl) [_] [0] rfl t1 ⟨_,_,_,_,rfl,hr16,oz,rfl⟩
 try simp only [sQ,ne_eq] at g4
 refine Zj (Zz (Zf (Za (xM (h:=Z5 1 rfl hv ZL.mono om3 (fun B17 hle17 hr17=>?_))))))
 replace hbm:=hbm.mono hle17
 have hr17n:=hr17.len
 refine xA (h:=Zv [_,_] rfl (Zh ?_))
 exact Zad .ret (.inl rfl) [_] [0] rfl t1 ⟨_,_,_,_,rfl,hr17,oz,rfl⟩

set_option maxHeartbeats 1600000 in
theorem ZrQ (b:Nat) (q:Option Addr) (m cp p:Nat) (hp:p≤800000000000) (hm:m≤2000) (B:Kn) (hbm:Zat B q m):ZA (pj J) 98 [ptr ⟨b,0,none⟩] B [rd b q m cp p] (fun v B' Ls=>∃(q':Option Addr) (cp':Nat) (x:DBox) (k:Nat),v = .agg #[.int .i64 x.next,.slice q' x.mail.length cp']∧SlK B' q' cp' 3 ZM x.mail∧k≤p+300∧Ls=[rd b q m cp k]):=by
 refine Zc 91 Tryz.func98 rfl rfl rfl (Nat.le_of_ble_eq_true rfl) ?_
 refine Za (xAl [_,_] Zfg (h:=fun b1=>Zv [_,_] rfl (Za (xM (h:=xX 0 rfl Za9 rfl (ZP _ _ _ _ _ _ oz oz oz hm _ hbm) (h:=?_))))))
 rintro _ _ ⟨rn0,rfl,rn0a,rn0b,rfl⟩
 refine xD (h:=xBs [] [] Tryz.underlying66 ZcJ ZgB (h:=fun b3=>xB [(0,_),(1,_)] [_,_] [_,_] Znw Zfg (h:=xAl [_,_] Zfg (h:=fun b4=>xS [_,_] 3 [_,_] ZcI (h:=Zv [_,_,_,_] rfl (Za (xM (h:=xX 0 rfl Za9 rfl (ZP _ _ _ _ _ _ oz oz oz hm _ hbm) (h:=?_)))))))))
 rintro _ _ ⟨rb0,rfl,rb0a,rb0b,rfl⟩
 refine xA (h:=Zv [_,_,_,_] rfl (ZkO (α:=Int × Nat) [0,2,3] (fun g=>[(4,.int .i64 g.1)]) [0] (fun g=>[rd b q m cp g.2]) (fun g=>[]) (fun g Bx=>Bx=B∧0≤g.1∧g.1≤14∧g.2≤p+3) ?_ (fun g B6 hle6 hF=>?_)))
 refine Za (xM (h:=xX 0 rfl Za9 rfl (ZP _ _ _ _ _ _ oz oz oz hm _ hbm) (h:=?_)))
 rintro _ _ ⟨rc0,rfl,rc0a,rc0b,rfl⟩
 refine ZI (h:=Zv [_,_,_,_] rfl (Zd rfl (fun g0=>?_) (fun g0=>?_)))
 try simp only [sQ,ne_eq] at g0
 refine Ze (xA (h:=?_))
 exact ZK ⟨14,(((p+1)+1)+1)⟩ [0,1,2,3] ⟨rfl,so,so,so⟩ t4 rfl
 try simp only [sQ,ne_eq] at g0
 refine Zj ?_
 exact ZK ⟨rb0,(((p+1)+1)+1)⟩ [0,1,2,3] ⟨rfl,so,so,so⟩ t4 rfl
 obtain ⟨rfl,hg0,hg1,hgp⟩:=hF
 refine ZO [(0,_),(2,_),(3,_),(4,_)] [_,_,_,_] t4 rfl (Zl (Za (xA (h:=Zp (ZQ (α:=GBo) [0,2,3,4] (fun h=>[(5,.int .i64 h.k)]) [0,2,3] (fun h=>[rd b q m cp h.p,h.l,ZaE b4 [.int .i64 h.x.next,.slice h.a h.x.mail.length h.c] 68]) (fun h Bx=>h.k≤15∧h.p≤p+4+10*h.k∧0≤h.x.next∧h.x.next≤200∧h.x.mail.length≤20∧Z2 Bx h.l h.a h.c 196 3 ZM h.x.mail) (fun h=>15 - h.k) ⟨0,g.2,_,_,_,⟨1+rn0,[]⟩⟩ t1 rfl (⟨Nat.zero_le _,(so),(so),(so),Nat.zero_le _,.lit0⟩) (fun h B8 hle8 hI=>?_))))))
 obtain ⟨hk,hhp,hh0,hh1,hhl,hv⟩:=hI
 replace hbm:=hbm.mono hle8
 refine ZO [(0,_),(2,_),(3,_),(4,_),(5,_)] [_,_,_,_] t5 rfl (Zl (Za (xM (h:=xM (h:=Zag (h:=Zd rfl (fun g1=>?_) (fun g1=>?_)))))))
 try simp only [sQ,ne_eq] at g1
 refine Zj (Zf (Zl (Zp (Zl (Z8 (keeps _ [3] _) mo kr ⟨Kn.le.refl _,Zam.refl _ _⟩ (fun _ _=>?_))))))
 refine aT 0 rfl (ZG fun D B L hI=>Z6 [_,_] rfl rfl ZbP rfl (Zaf 3 (hI.2.1.trans rfl) rfl rfl) r4) (h:=aM 1 rfl (h:=aM 3 rfl (h:=Zaq [2,9] kr kr kr ⟨?_,?_⟩)))
 refine (ZcH 0 rfl rfl rfl Za9 rfl (ZP _ _ _ _ _ _ oz oz oz hm _ hbm) ?_)
 rintro _ _ ⟨rf,rfl,rfa,rfb,rfl⟩
 refine ⟨⟨Kn.le.refl _,t1⟩,(Zaq [4,9] kr kr kr ⟨?_,?_⟩)⟩
 refine (ZcH 0 rfl rfl rfl Zvt rfl (Ze2 _ _ _ _ _ oz hm _ hbm) ?_)
 rintro _ _ ⟨xt,rfl,hxt,rfl⟩
 refine ⟨⟨Kn.le.refl _,t1⟩,(Zaq [5,9] kr kr kr ⟨?_,?_⟩)⟩
 refine (Z4 [2] rfl rfl rfl rfl Zsj rfl (ZA.borrow fun hma=>ZdN _ _ (⟨h.x.next,h.x.mail⟩:DBox) rf xt om2 _ (hv.lend ZM.mono hma om)) ?_)
 rintro _ Ba _ hlea ⟨BBa,_,rfl,hBa,_,hma,_,la,aa,ca,rfl,rfl,hsa⟩
 replace hv:=hv.mono ZM.mono hlea
 replace hbm:=hbm.mono hlea
 replace hsa:=hsa.anyK (B':=Ba) ZM.any
 refine ⟨⟨hlea,t1⟩,?_⟩
 have hb1:=ZdW (⟨h.x.next,h.x.mail⟩:DBox) rf xt
 refine aM 6 rfl (h:=aE 7 rfl (h:=aE 8 rfl (h:=Zu 9 kr rfl kr (Zao (l:=[_,_]) rfl rfl Zfg rfl (fun b12=>?_)))))
 refine ⟨⟨hlea,t1⟩,(Zbb 10 kr rfl kr kr (ZN [_,_] 5 [_,_] rfl rfl ZcI rfl rfl rfl rfl rfl rfl rfl rfl ?_))⟩
 refine aA 11 rfl (h:=ZC kr kr ?_)
 refine Zf (Zv [_,_,_,_,_,_] rfl (Zl (Za (xM (h:=Zd rfl (fun g2=>?_) (fun g2=>?_))))))
 try simp only [sQ,ne_eq] at g2
 refine Za (xL [_,_] ZbP 5 (h:=xS [_,_] 3 [_,_] ZcI (h:=Zv [_,_,_,_,_,_] rfl (Z8 (keeps _ [3] _) mo kr ⟨Kn.le.refl _,Zam.refl _ _⟩ (fun _ _=>?_)))))
 refine aW 0 rfl Zco (h:=aT 1 rfl (ZG fun D B L hI=>Zn rfl rfl lk3 rfl (atL 3 (hI.2.1.trans rfl) rfl rfl) r4) (h:=aM 2 rfl (h:=Zu 3 kr rfl kr (ZcH 0 rfl rfl rfl Za9 rfl (ZP _ _ _ _ _ _ oz oz oz hm _ hbm) ?_))))
 rintro _ _ ⟨rd,rfl,rda,rdb,rfl⟩
 refine ⟨⟨Kn.le.refl _,t1⟩,(aD 4 rfl (h:=aW 5 rfl Zco (h:=ZV 6 kr rfl kr kr kr (ZN [_] 3 [_,_] rfl rfl sz3 rfl rfl rfl rfl rfl rfl rfl rfl ?_))))⟩
 refine Zf (Za (xM (h:=xX 0 rfl Za9 rfl (ZP _ _ _ _ _ _ oz oz oz hm _ hbm) (h:=?_))))
 rintro _ _ ⟨re,rfl,rea,reb,rfl⟩
 refine ZI (h:=Zv [_,_,_,_,_,_] rfl (Zd rfl (fun g3=>?_) (fun g3=>?_)))
 try simp only [sQ,ne_eq] at g3
 refine Ze (xL [_,_] ZbP 3 (h:=Zo (Z4 [4] rfl rfl rfl rfl ZkC rfl (ZA.borrow fun hm15=>Zcs _ _ (⟨((ZR (⟨h.x.next,h.x.mail⟩:DBox) rf xt).1.next+rd),(ZR (⟨h.x.next,h.x.mail⟩:DBox) rf xt).1.mail⟩:DBox) _ (hsa.lend ZM.mono hm15 om)) ?_)))
 rintro _ B15 _ hle15 ⟨BB15,_,rfl,hB15,_,hm15,_,l15,a15,c15,l15b,a15b,c15b,rfl,rfl,hs15,hs15b⟩
 replace hv:=hv.mono ZM.mono hle15
 replace hsa:=hsa.mono ZM.mono hle15
 replace hbm:=hbm.mono hle15
 replace hs15:=hs15.anyK (B':=B15) ZM.any
 replace hs15b:=hs15b.anyK (B':=B15) Zbz.any
 refine xM (h:=xE (h:=xE (h:=xS [_,_] 3 [_,_] ZcI (h:=Zz (Zf (Ze (xM (h:=xD (h:=xA (h:=?_))))))))))
 exact ZB ⟨h.k+1,((((h.p+1)+2)+1)+1),l15,a15,c15,⟨((expunge (⟨((ZR (⟨h.x.next,h.x.mail⟩:DBox) rf xt).1.next+rd),(ZR (⟨h.x.next,h.x.mail⟩:DBox) rf xt).1.mail⟩:DBox)).1.next),((expunge (⟨((ZR (⟨h.x.next,h.x.mail⟩:DBox) rf xt).1.next+rd),(ZR (⟨h.x.next,h.x.mail⟩:DBox) rf xt).1.mail⟩:DBox)).1.mail)⟩⟩ [0,1,6,3] so2 ⟨so,so,by first | (simp only [];omega) | exact (ZF _).1,by first | (simp only [];omega) | exact Int.le_trans (ZF _).2.1 (by decide),by first | (simp only [];omega) | exact Nat.le_trans (ZF _).2.2 (by decide),hs15⟩ t5 rfl
 try simp only [sQ,ne_eq] at g3
 refine Zj (Zz (Zf (Ze (xM (h:=xD (h:=xA (h:=?_)))))))
 exact ZB ⟨h.k+1,((((h.p+1)+2)+1)+1),la,aa,ca,⟨((ZR (⟨h.x.next,h.x.mail⟩:DBox) rf xt).1.next+rd),((ZR (⟨h.x.next,h.x.mail⟩:DBox) rf xt).1.mail)⟩⟩ [0,1,4,3] so2 ⟨so,so,by first | (simp only [];omega) | exact (ZF _).1,by first | (simp only [];omega) | exact Int.le_trans (ZF _).2.1 (by decide),by first | (simp only [];omega) | exact Nat.le_trans (ZF _).2.2 (by decide),hsa⟩ t5 rfl
 try simp only [sQ,ne_eq] at g2
 refine Zj (Zf (Za (xM (h:=xX 0 rfl Za9 rfl (ZP _ _ _ _ _ _ oz oz oz hm _ hbm) (h:=?_)))))
 rintro _ _ ⟨re,rfl,rea,reb,rfl⟩
 refine ZI (h:=Zv [_,_,_,_,_,_] rfl (Zd rfl (fun g3=>?_) (fun g3=>?_)))
 try simp only [sQ,ne_eq] at g3
 refine Ze (xL [_,_] ZbP 3 (h:=Zo (Z4 [2] rfl rfl rfl rfl ZkC rfl (ZA.borrow fun hm17=>Zcs _ _ (⟨h.x.next,h.x.mail⟩:DBox) _ (hv.lend ZM.mono hm17 om)) ?_)))
 rintro _ B17 _ hle17 ⟨BB17,_,rfl,hB17,_,hm17,_,l17,a17,c17,l17b,a17b,c17b,rfl,rfl,hs17,hs17b⟩
 replace hv:=hv.mono ZM.mono hle17
 replace hsa:=hsa.mono ZM.mono hle17
 replace hbm:=hbm.mono hle17
 replace hs17:=hs17.anyK (B':=B17) ZM.any
 replace hs17b:=hs17b.anyK (B':=B17) Zbz.any
 refine xM (h:=xE (h:=xE (h:=xS [_,_] 3 [_,_] ZcI (h:=Zz (Zf (Ze (xM (h:=xD (h:=xA (h:=?_))))))))))
 exact ZB ⟨h.k+1,(((h.p+1)+2)+1),l17,a17,c17,⟨((expunge (⟨h.x.next,h.x.mail⟩:DBox)).1.next),((expunge (⟨h.x.next,h.x.mail⟩:DBox)).1.mail)⟩⟩ [0,1,6,3] so2 ⟨so,so,by first | (simp only [];omega) | exact (ZF _).1,by first | (simp only [];omega) | exact Int.le_trans (ZF _).2.1 (by decide),by first | (simp only [];omega) | exact Nat.le_trans (ZF _).2.2 (by decide),hs17⟩ t5 rfl
 try simp only [sQ,ne_eq] at g3
 refine Zj (Zz (Zf (Ze (xM (h:=xD (h:=xA (h:=?_)))))))
 exact ZB ⟨h.k+1,(((h.p+1)+2)+1),h.l,h.a,h.c,⟨h.x.next,h.x.mail⟩⟩ [0,1,2,3] so2 ⟨so,so,by first | (simp only [];omega) | exact (ZF _).1,by first | (simp only [];omega) | exact Int.le_trans (ZF _).2.1 (by decide),by first | (simp only [];omega) | exact Nat.le_trans (ZF _).2.2 (by decide),hv⟩ t5 rfl
 refine (Zao (l:=[_,_]) rfl rfl Zfg rfl (fun b18=>⟨⟨Kn.le.refl _,t1⟩,(Zu 5 kr rfl kr (Z4 [2] rfl rfl rfl rfl Zsj rfl (ZA.borrow fun hma=>ZdN _ _ (⟨h.x.next,h.x.mail⟩:DBox) rf xt om2 _ (hv.lend ZM.mono hma om)) ?_))⟩))
 rintro _ Ba _ hlea ⟨BBa,_,rfl,hBa,_,hma,_,la,aa,ca,rfl,rfl,hsa⟩
 replace hv:=hv.mono ZM.mono hlea
 replace hbm:=hbm.mono hlea
 replace hsa:=hsa.anyK (B':=Ba) ZM.any
 refine ⟨⟨hlea,t1⟩,?_⟩
 have hb1:=ZdW (⟨h.x.next,h.x.mail⟩:DBox) rf xt
 refine aM 6 rfl (h:=aE 7 rfl (h:=aE 8 rfl (h:=Zbb 10 kr rfl kr kr (ZN [_,_] 4 [_,_] rfl rfl ZcI rfl rfl rfl rfl rfl rfl rfl rfl ?_))))
 refine aA 11 rfl (h:=ZC kr kr ?_)
 refine Zf (Zv [_,_,_,_,_,_] rfl (Zl (Za (xM (h:=Zd rfl (fun g2=>?_) (fun g2=>?_))))))
 try simp only [sQ,ne_eq] at g2
 refine Za (xL [_,_] ZbP 4 (h:=xS [_,_] 3 [_,_] ZcI (h:=Zv [_,_,_,_,_,_] rfl (Z8 (keeps _ [3] _) mo kr ⟨Kn.le.refl _,Zam.refl _ _⟩ (fun _ _=>?_)))))
 refine aW 0 rfl Zco (h:=aT 1 rfl (ZG fun D B L hI=>Zn rfl rfl lk3 rfl (atL 3 (hI.2.1.trans rfl) rfl rfl) r4) (h:=aM 2 rfl (h:=Zu 3 kr rfl kr (ZcH 0 rfl rfl rfl Za9 rfl (ZP _ _ _ _ _ _ oz oz oz hm _ hbm) ?_))))
 rintro _ _ ⟨rd,rfl,rda,rdb,rfl⟩
 refine ⟨⟨Kn.le.refl _,t1⟩,(aD 4 rfl (h:=aW 5 rfl Zco (h:=ZV 6 kr rfl kr kr kr (ZN [_] 3 [_,_] rfl rfl sz3 rfl rfl rfl rfl rfl rfl rfl rfl ?_))))⟩
 refine Zf (Za (xM (h:=xX 0 rfl Za9 rfl (ZP _ _ _ _ _ _ oz oz oz hm _ hbm) (h:=?_))))
 rintro _ _ ⟨re,rfl,rea,reb,rfl⟩
 refine ZI (h:=Zv [_,_,_,_,_,_] rfl (Zd rfl (fun g3=>?_) (fun g3=>?_)))
 try simp only [sQ,ne_eq] at g3
 refine Ze (xL [_,_] ZbP 3 (h:=Zo (Z4 [5] rfl rfl rfl rfl ZkC rfl (ZA.borrow fun hm22=>Zcs _ _ (⟨((ZR (⟨h.x.next,h.x.mail⟩:DBox) rf xt).1.next+rd),(ZR (⟨h.x.next,h.x.mail⟩:DBox) rf xt).1.mail⟩:DBox) _ (hsa.lend ZM.mono hm22 om)) ?_)))
 rintro _ B22 _ hle22 ⟨BB22,_,rfl,hB22,_,hm22,_,l22,a22,c22,l22b,a22b,c22b,rfl,rfl,hs22,hs22b⟩
 replace hv:=hv.mono ZM.mono hle22
 replace hsa:=hsa.mono ZM.mono hle22
 replace hbm:=hbm.mono hle22
 replace hs22:=hs22.anyK (B':=B22) ZM.any
 replace hs22b:=hs22b.anyK (B':=B22) Zbz.any
 refine xM (h:=xE (h:=xE (h:=xS [_,_] 3 [_,_] ZcI (h:=Zz (Zf (Ze (xM (h:=xD (h:=xA (h:=?_))))))))))
 exact ZB ⟨h.k+1,((((h.p+1)+2)+1)+1),l22,a22,c22,⟨((expunge (⟨((ZR (⟨h.x.next,h.x.mail⟩:DBox) rf xt).1.next+rd),(ZR (⟨h.x.next,h.x.mail⟩:DBox) rf xt).1.mail⟩:DBox)).1.next),((expunge (⟨((ZR (⟨h.x.next,h.x.mail⟩:DBox) rf xt).1.next+rd),(ZR (⟨h.x.next,h.x.mail⟩:DBox) rf xt).1.mail⟩:DBox)).1.mail)⟩⟩ [0,1,6,3] so2 ⟨so,so,by first | (simp only [];omega) | exact (ZF _).1,by first | (simp only [];omega) | exact Int.le_trans (ZF _).2.1 (by decide),by first | (simp only [];omega) | exact Nat.le_trans (ZF _).2.2 (by decide),hs22⟩ t5 rfl
 try simp only [sQ,ne_eq] at g3
 refine Zj (Zz (Zf (Ze (xM (h:=xD (h:=xA (h:=?_)))))))
 exact ZB ⟨h.k+1,((((h.p+1)+2)+1)+1),la,aa,ca,⟨((ZR (⟨h.x.next,h.x.mail⟩:DBox) rf xt).1.next+rd),((ZR (⟨h.x.next,h.x.mail⟩:DBox) rf xt).1.mail)⟩⟩ [0,1,5,3] so2 ⟨so,so,by first | (simp only [];omega) | exact (ZF _).1,by first | (simp only [];omega) | exact Int.le_trans (ZF _).2.1 (by decide),by first | (simp only [];omega) | exact Nat.le_trans (ZF _).2.2 (by decide),hsa⟩ t5 rfl
 try simp only [sQ,ne_eq] at g2
 refine Zj (Zf (Za (xM (h:=xX 0 rfl Za9 rfl (ZP _ _ _ _ _ _ oz oz oz hm _ hbm) (h:=?_)))))
 rintro _ _ ⟨re,rfl,rea,reb,rfl⟩
 refine ZI (h:=Zv [_,_,_,_,_,_] rfl (Zd rfl (fun g3=>?_) (fun g3=>?_)))
 try simp only [sQ,ne_eq] at g3
 refine Ze (xL [_,_] ZbP 3 (h:=Zo (Z4 [2] rfl rfl rfl rfl ZkC rfl (ZA.borrow fun hm24=>Zcs _ _ (⟨h.x.next,h.x.mail⟩:DBox) _ (hv.lend ZM.mono hm24 om)) ?_)))
 rintro _ B24 _ hle24 ⟨BB24,_,rfl,hB24,_,hm24,_,l24,a24,c24,l24b,a24b,c24b,rfl,rfl,hs24,hs24b⟩
 replace hv:=hv.mono ZM.mono hle24
 replace hsa:=hsa.mono ZM.mono hle24
 replace hbm:=hbm.mono hle24
 replace hs24:=hs24.anyK (B':=B24) ZM.any
 replace hs24b:=hs24b.anyK (B':=B24) Zbz.any
 refine xM (h:=xE (h:=xE (h:=xS [_,_] 3 [_,_] ZcI (h:=Zz (Zf (Ze (xM (h:=xD (h:=xA (h:=?_))))))))))
 exact ZB ⟨h.k+1,(((h.p+1)+2)+1),l24,a24,c24,⟨((expunge (⟨h.x.next,h.x.mail⟩:DBox)).1.next),((expunge (⟨h.x.next,h.x.mail⟩:DBox)).1.mail)⟩⟩ [0,1,6,3] so2 ⟨so,so,by first | (simp only [];omega) | exact (ZF _).1,by first | (simp only [];omega) | exact Int.le_trans (ZF _).2.1 (by decide),by first | (simp only [];omega) | exact Nat.le_trans (ZF _).2.2 (by decide),hs24⟩ t5 rfl
 try simp only [sQ,ne_eq] at g3
 refine Zj (Zz (Zf (Ze (xM (h:=xD (h:=xA (h:=?_)))))))
 exact ZB ⟨h.k+1,(((h.p+1)+2)+1),h.l,h.a,h.c,⟨h.x.next,h.x.mail⟩⟩ [0,1,2,3] so2 ⟨so,so,by first | (simp only [];omega) | exact (ZF _).1,by first | (simp only [];omega) | exact Int.le_trans (ZF _).2.1 (by decide),by first | (simp only [];omega) | exact Nat.le_trans (ZF _).2.2 (by decide),hv⟩ t5 rfl
 refine (Zao (l:=[_,_]) rfl rfl Zfg rfl (fun b25=>⟨⟨Kn.le.refl _,t1⟩,(Zu 4 kr rfl kr (ZcH 0 rfl rfl rfl Zvt rfl (Ze2 _ _ _ _ _ oz hm _ hbm) ?_))⟩))
 rintro _ _ ⟨xt,rfl,hxt,rfl⟩
 refine ⟨⟨Kn.le.refl _,t1⟩,(Zu 5 kr rfl kr (Z4 [2] rfl rfl rfl rfl Zsj rfl (ZA.borrow fun hma=>ZdN _ _ (⟨h.x.next,h.x.mail⟩:DBox) rf xt om2 _ (hv.lend ZM.mono hma om)) ?_))⟩
 rintro _ Ba _ hlea ⟨BBa,_,rfl,hBa,_,hma,_,la,aa,ca,rfl,rfl,hsa⟩
 replace hv:=hv.mono ZM.mono hlea
 replace hbm:=hbm.mono hlea
 replace hsa:=hsa.anyK (B':=Ba) ZM.any
 refine ⟨⟨hlea,t1⟩,?_⟩
 have hb1:=ZdW (⟨h.x.next,h.x.mail⟩:DBox) rf xt
 refine aM 6 rfl (h:=aE 7 rfl (h:=aE 8 rfl (h:=Zbb 10 kr rfl kr kr (ZN [_,_] 4 [_,_] rfl rfl ZcI rfl rfl rfl rfl rfl rfl rfl rfl ?_))))
 refine aA 11 rfl (h:=ZC kr kr ?_)
 refine Zf (Zv [_,_,_,_,_,_] rfl (Zl (Za (xM (h:=Zd rfl (fun g2=>?_) (fun g2=>?_))))))
 try simp only [sQ,ne_eq] at g2
 refine Za (xL [_,_] ZbP 4 (h:=xS [_,_] 3 [_,_] ZcI (h:=Zv [_,_,_,_,_,_] rfl (Z8 (keeps _ [3] _) mo kr ⟨Kn.le.refl _,Zam.refl _ _⟩ (fun _ _=>?_)))))
 refine aW 0 rfl Zco (h:=aT 1 rfl (ZG fun D B L hI=>Zn rfl rfl lk3 rfl (atL 3 (hI.2.1.trans rfl) rfl rfl) r4) (h:=aM 2 rfl (h:=Zu 3 kr rfl kr (ZcH 0 rfl rfl rfl Za9 rfl (ZP _ _ _ _ _ _ oz oz oz hm _ hbm) ?_))))
 rintro _ _ ⟨rd,rfl,rda,rdb,rfl⟩
 refine ⟨⟨Kn.le.refl _,t1⟩,(aD 4 rfl (h:=aW 5 rfl Zco (h:=ZV 6 kr rfl kr kr kr (ZN [_] 3 [_,_] rfl rfl sz3 rfl rfl rfl rfl rfl rfl rfl rfl ?_))))⟩
 refine Zf (Za (xM (h:=xX 0 rfl Za9 rfl (ZP _ _ _ _ _ _ oz oz oz hm _ hbm) (h:=?_))))
 rintro _ _ ⟨re,rfl,rea,reb,rfl⟩
 refine ZI (h:=Zv [_,_,_,_,_,_] rfl (Zd rfl (fun g3=>?_) (fun g3=>?_)))
 try simp only [sQ,ne_eq] at g3
 refine Ze (xL [_,_] ZbP 3 (h:=Zo (Z4 [5] rfl rfl rfl rfl ZkC rfl (ZA.borrow fun hm30=>Zcs _ _ (⟨((ZR (⟨h.x.next,h.x.mail⟩:DBox) rf xt).1.next+rd),(ZR (⟨h.x.next,h.x.mail⟩:DBox) rf xt).1.mail⟩:DBox) _ (hsa.lend ZM.mono hm30 om)) ?_)))
 rintro _ B30 _ hle30 ⟨BB30,_,rfl,hB30,_,hm30,_,l30,a30,c30,l30b,a30b,c30b,rfl,rfl,hs30,hs30b⟩
 replace hv:=hv.mono ZM.mono hle30
 replace hsa:=hsa.mono ZM.mono hle30
 replace hbm:=hbm.mono hle30
 replace hs30:=hs30.anyK (B':=B30) ZM.any
 replace hs30b:=hs30b.anyK (B':=B30) Zbz.any
 refine xM (h:=xE (h:=xE (h:=xS [_,_] 3 [_,_] ZcI (h:=Zz (Zf (Ze (xM (h:=xD (h:=xA (h:=?_))))))))))
 exact ZB ⟨h.k+1,((((h.p+1)+2)+1)+1),l30,a30,c30,⟨((expunge (⟨((ZR (⟨h.x.next,h.x.mail⟩:DBox) rf xt).1.next+rd),(ZR (⟨h.x.next,h.x.mail⟩:DBox) rf xt).1.mail⟩:DBox)).1.next),((expunge (⟨((ZR (⟨h.x.next,h.x.mail⟩:DBox) rf xt).1.next+rd),(ZR (⟨h.x.next,h.x.mail⟩:DBox) rf xt).1.mail⟩:DBox)).1.mail)⟩⟩ [0,1,6,3] so2 ⟨so,so,by first | (simp only [];omega) | exact (ZF _).1,by first | (simp only [];omega) | exact Int.le_trans (ZF _).2.1 (by decide),by first | (simp only [];omega) | exact Nat.le_trans (ZF _).2.2 (by decide),hs30⟩ t5 rfl
 try simp only [sQ,ne_eq] at g3
 refine Zj (Zz (Zf (Ze (xM (h:=xD (h:=xA (h:=?_)))))))
 exact ZB ⟨h.k+1,((((h.p+1)+2)+1)+1),la,aa,ca,⟨((ZR (⟨h.x.next,h.x.mail⟩:DBox) rf xt).1.next+rd),((ZR (⟨h.x.next,h.x.mail⟩:DBox) rf xt).1.mail)⟩⟩ [0,1,5,3] so2 ⟨so,so,by first | (simp only [];omega) | exact (ZF _).1,by first | (simp only [];omega) | exact Int.le_trans (ZF _).2.1 (by decide),by first | (simp only [];omega) | exact Nat.le_trans (ZF _).2.2 (by decide),hsa⟩ t5 rfl
 try simp only [sQ,ne_eq] at g2
 refine Zj (Zf (Za (xM (h:=xX 0 rfl Za9 rfl (ZP _ _ _ _ _ _ oz oz oz hm _ hbm) (h:=?_)))))
 rintro _ _ ⟨re,rfl,rea,reb,rfl⟩
 refine ZI (h:=Zv [_,_,_,_,_,_] rfl (Zd rfl (fun g3=>?_) (fun g3=>?_)))
 try simp only [sQ,ne_eq] at g3
 refine Ze (xL [_,_] ZbP 3 (h:=Zo (Z4 [2] rfl rfl rfl rfl ZkC rfl (ZA.borrow fun hm32=>Zcs _ _ (⟨h.x.next,h.x.mail⟩:DBox) _ (hv.lend ZM.mono hm32 om)) ?_)))
 rintro _ B32 _ hle32 ⟨BB32,_,rfl,hB32,_,hm32,_,l32,a32,c32,l32b,a32b,c32b,rfl,rfl,hs32,hs32b⟩
 replace hv:=hv.mono ZM.mono hle32
 replace hsa:=hsa.mono ZM.mono hle32
 replace hbm:=hbm.mono hle32
 replace hs32:=hs32.anyK (B':=B32) ZM.any
 replace hs32b:=hs32b.anyK (B':=B32) Zbz.any
 refine xM (h:=xE (h:=xE (h:=xS [_,_] 3 [_,_] ZcI (h:=Zz (Zf (Ze (xM (h:=xD (h:=xA (h:=?_))))))))))
 exact ZB ⟨h.k+1,(((h.p+1)+2)+1),l32,a32,c32,⟨((expunge (⟨h.x.next,h.x.mail⟩:DBox)).1.next),((expunge (⟨h.x.next,h.x.mail⟩:DBox)).1.mail)⟩⟩ [0,1,6,3] so2 ⟨so,so,by first | (simp only [];omega) | exact (ZF _).1,by first | (simp only [];omega) | exact Int.le_trans (ZF _).2.1 (by decide),by first | (simp only [];omega) | exact Nat.le_trans (ZF _).2.2 (by decide),hs32⟩ t5 rfl
 try simp only [sQ,ne_eq] at g3
 refine Zj (Zz (Zf (Ze (xM (h:=xD (h:=xA (h:=?_)))))))
 exact ZB ⟨h.k+1,(((h.p+1)+2)+1),h.l,h.a,h.c,⟨h.x.next,h.x.mail⟩⟩ [0,1,2,3] so2 ⟨so,so,by first | (simp only [];omega) | exact (ZF _).1,by first | (simp only [];omega) | exact Int.le_trans (ZF _).2.1 (by decide),by first | (simp only [];omega) | exact Nat.le_trans (ZF _).2.2 (by decide),hv⟩ t5 rfl
 refine (Zao (l:=[_,_]) rfl rfl Zfg rfl (fun b33=>⟨⟨Kn.le.refl _,t1⟩,(Zu 2 kr rfl kr (ZcH 0 rfl rfl rfl Za9 rfl (ZP _ _ _ _ _ _ oz oz oz hm _ hbm) ?_))⟩))
 rintro _ _ ⟨rf,rfl,rfa,rfb,rfl⟩
 refine ⟨⟨Kn.le.refl _,t1⟩,(Zu 4 kr rfl kr (ZcH 0 rfl rfl rfl Zvt rfl (Ze2 _ _ _ _ _ oz hm _ hbm) ?_))⟩
 rintro _ _ ⟨xt,rfl,hxt,rfl⟩
 refine ⟨⟨Kn.le.refl _,t1⟩,(Zu 5 kr rfl kr (Z4 [2] rfl rfl rfl rfl Zsj rfl (ZA.borrow fun hma=>ZdN _ _ (⟨h.x.next,h.x.mail⟩:DBox) rf xt om2 _ (hv.lend ZM.mono hma om)) ?_))⟩
 rintro _ Ba _ hlea ⟨BBa,_,rfl,hBa,_,hma,_,la,aa,ca,rfl,rfl,hsa⟩
 replace hv:=hv.mono ZM.mono hlea
 replace hbm:=hbm.mono hlea
 replace hsa:=hsa.anyK (B':=Ba) ZM.any
 refine ⟨⟨hlea,t1⟩,?_⟩
 have hb1:=ZdW (⟨h.x.next,h.x.mail⟩:DBox) rf xt
 refine aM 6 rfl (h:=aE 7 rfl (h:=aE 8 rfl (h:=Zbb 10 kr rfl kr kr (ZN [_,_] 4 [_,_] rfl rfl ZcI rfl rfl rfl rfl rfl rfl rfl rfl ?_))))
 refine aA 11 rfl (h:=ZC kr kr ?_)
 refine Zf (Zv [_,_,_,_,_,_] rfl (Zl (Za (xM (h:=Zd rfl (fun g2=>?_) (fun g2=>?_))))))
 try simp only [sQ,ne_eq] at g2
 refine Za (xL [_,_] ZbP 4 (h:=xS [_,_] 3 [_,_] ZcI (h:=Zv [_,_,_,_,_,_] rfl (Z8 (keeps _ [3] _) mo kr ⟨Kn.le.refl _,Zam.refl _ _⟩ (fun _ _=>?_)))))
 refine aW 0 rfl Zco (h:=aT 1 rfl (ZG fun D B L hI=>Zn rfl rfl lk3 rfl (atL 3 (hI.2.1.trans rfl) rfl rfl) r4) (h:=aM 2 rfl (h:=Zu 3 kr rfl kr (ZcH 0 rfl rfl rfl Za9 rfl (ZP _ _ _ _ _ _ oz oz oz hm _ hbm) ?_))))
 rintro _ _ ⟨rd,rfl,rda,rdb,rfl⟩
 refine ⟨⟨Kn.le.refl _,t1⟩,(aD 4 rfl (h:=aW 5 rfl Zco (h:=ZV 6 kr rfl kr kr kr (ZN [_] 3 [_,_] rfl rfl sz3 rfl rfl rfl rfl rfl rfl rfl rfl ?_))))⟩
 refine Zf (Za (xM (h:=xX 0 rfl Za9 rfl (ZP _ _ _ _ _ _ oz oz oz hm _ hbm) (h:=?_))))
 rintro _ _ ⟨re,rfl,rea,reb,rfl⟩
 refine ZI (h:=Zv [_,_,_,_,_,_] rfl (Zd rfl (fun g3=>?_) (fun g3=>?_)))
 try simp only [sQ,ne_eq] at g3
 refine Ze (xL [_,_] ZbP 3 (h:=Zo (Z4 [5] rfl rfl rfl rfl ZkC rfl (ZA.borrow fun hm39=>Zcs _ _ (⟨((ZR (⟨h.x.next,h.x.mail⟩:DBox) rf xt).1.next+rd),(ZR (⟨h.x.next,h.x.mail⟩:DBox) rf xt).1.mail⟩:DBox) _ (hsa.lend ZM.mono hm39 om)) ?_)))
 rintro _ B39 _ hle39 ⟨BB39,_,rfl,hB39,_,hm39,_,l39,a39,c39,l39b,a39b,c39b,rfl,rfl,hs39,hs39b⟩
 replace hv:=hv.mono ZM.mono hle39
 replace hsa:=hsa.mono ZM.mono hle39
 replace hbm:=hbm.mono hle39
 replace hs39:=hs39.anyK (B':=B39) ZM.any
 replace hs39b:=hs39b.anyK (B':=B39) Zbz.any
 refine xM (h:=xE (h:=xE (h:=xS [_,_] 3 [_,_] ZcI (h:=Zz (Zf (Ze (xM (h:=xD (h:=xA (h:=?_))))))))))
 exact ZB ⟨h.k+1,((((h.p+1)+2)+1)+1),l39,a39,c39,⟨((expunge (⟨((ZR (⟨h.x.next,h.x.mail⟩:DBox) rf xt).1.next+rd),(ZR (⟨h.x.next,h.x.mail⟩:DBox) rf xt).1.mail⟩:DBox)).1.next),((expunge (⟨((ZR (⟨h.x.next,h.x.mail⟩:DBox) rf xt).1.next+rd),(ZR (⟨h.x.next,h.x.mail⟩:DBox) rf xt).1.mail⟩:DBox)).1.mail)⟩⟩ [0,1,6,3] so2 ⟨so,so,by first | (simp only [];omega) | exact (ZF _).1,by first | (simp only [];omega) | exact Int.le_trans (ZF _).2.1 (by decide),by first | (simp only [];omega) | exact Nat.le_trans (ZF _).2.2 (by decide),hs39⟩ t5 rfl
 try simp only [sQ,ne_eq] at g3
 refine Zj (Zz (Zf (Ze (xM (h:=xD (h:=xA (h:=?_)))))))
 exact ZB ⟨h.k+1,((((h.p+1)+2)+1)+1),la,aa,ca,⟨((ZR (⟨h.x.next,h.x.mail⟩:DBox) rf xt).1.next+rd),((ZR (⟨h.x.next,h.x.mail⟩:DBox) rf xt).1.mail)⟩⟩ [0,1,5,3] so2 ⟨so,so,by first | (simp only [];omega) | exact (ZF _).1,by first | (simp only [];omega) | exact Int.le_trans (ZF _).2.1 (by decide),by first | (simp only [];omega) | exact Nat.le_trans (ZF _).2.2 (by decide),hsa⟩ t5 rfl
 try simp only [sQ,ne_eq] at g2
 refine Zj (Zf (Za (xM (h:=xX 0 rfl Za9 rfl (ZP _ _ _ _ _ _ oz oz oz hm _ hbm) (h:=?_)))))
 rintro _ _ ⟨re,rfl,rea,reb,rfl⟩
 refine ZI (h:=Zv [_,_,_,_,_,_] rfl (Zd rfl (fun g3=>?_) (fun g3=>?_)))
 try simp only [sQ,ne_eq] at g3
 refine Ze (xL [_,_] ZbP 3 (h:=Zo (Z4 [2] rfl rfl rfl rfl ZkC rfl (ZA.borrow fun hm41=>Zcs _ _ (⟨h.x.next,h.x.mail⟩:DBox) _ (hv.lend ZM.mono hm41 om)) ?_)))
 rintro _ B41 _ hle41 ⟨BB41,_,rfl,hB41,_,hm41,_,l41,a41,c41,l41b,a41b,c41b,rfl,rfl,hs41,hs41b⟩
 replace hv:=hv.mono ZM.mono hle41
 replace hsa:=hsa.mono ZM.mono hle41
 replace hbm:=hbm.mono hle41
 replace hs41:=hs41.anyK (B':=B41) ZM.any
 replace hs41b:=hs41b.anyK (B':=B41) Zbz.any
 refine xM (h:=xE (h:=xE (h:=xS [_,_] 3 [_,_] ZcI (h:=Zz (Zf (Ze (xM (h:=xD (h:=xA (h:=?_))))))))))
 exact ZB ⟨h.k+1,(((h.p+1)+2)+1),l41,a41,c41,⟨((expunge (⟨h.x.next,h.x.mail⟩:DBox)).1.next),((expunge (⟨h.x.next,h.x.mail⟩:DBox)).1.mail)⟩⟩ [0,1,6,3] so2 ⟨so,so,by first | (simp only [];omega) | exact (ZF _).1,by first | (simp only [];omega) | exact Int.le_trans (ZF _).2.1 (by decide),by first | (simp only [];omega) | exact Nat.le_trans (ZF _).2.2 (by decide),hs41⟩ t5 rfl
 try simp only [sQ,ne_eq] at g3
 refine Zj (Zz (Zf (Ze (xM (h:=xD (h:=xA (h:=?_)))))))
 exact ZB ⟨h.k+1,(((h.p+1)+2)+1),h.l,h.a,h.c,⟨h.x.next,h.x.mail⟩⟩ [0,1,2,3] so2 ⟨so,so,by first | (simp only [];omega) | exact (ZF _).1,by first | (simp only [];omega) | exact Int.le_trans (ZF _).2.1 (by decide),by first | (simp only [];omega) | exact Nat.le_trans (ZF _).2.2 (by decide),hv⟩ t5 rfl
 try simp only [sQ,ne_eq] at g1
 refine ZT (Zah (ZZ (ZH (Zf (Zl (Za (xM (h:=xX 0 rfl Za9 rfl (ZP _ _ _ _ _ _ oz oz oz hm _ hbm) (h:=?_)))))))))
 rintro _ _ ⟨rz0,rfl,rz0a,rz0b,rfl⟩
 refine Zv [_,_,_,_] rfl (Zp (Za (ZI (h:=xA (h:=Zd rfl (fun g4=>?_) (fun g4=>?_))))))
 try simp only [sQ,ne_eq] at g4
 refine Ze (xBs [(0,_),(1,_),(2,_),(3,_)] [_,_,_,_] Tryz.underlying171 sz3 zo3 (h:=fun b43=>xM (h:=xX 0 rfl Za9 rfl (ZP _ _ _ _ _ _ oz oz oz hm _ hbm) (h:=?_))))
 rintro _ _ ⟨rz1,rfl,rz1a,rz1b,rfl⟩
 have hvq45:Z2 B8 (ZaE b43 (([0,99,100,101]:List Int).map fun x=>.int .i64 x) 3) (some ⟨b43,0,none⟩) 4 3 1 Zbz ([0,99,100,101]:List Int):=Z2.ints
 obtain ⟨e,he⟩:=ZeP (xs:=([0,99,100,101]:List Int)) (i:=rz1) om om
 obtain ⟨bb47,_,hp47,rfl,hw47,hc47⟩:=hvq45.row he
 refine xIp hp47 Tryz.underlying171 sz3 (h:=Zo (Zn rfl rfl lk3 rfl (hc47 _ 4 rfl 0 _ rfl) (xW Zco (h:=xS [_] 3 [_,_] sz3 (h:=Zz (Zf (Za (xL [_,_] ZbP 3 (h:=Z5 2 rfl hv ZM.mono om3 (fun B48 hle48 hr48=>?_))))))))))
 replace hvq45:=hvq45.mono Zbz.mono hle48
 replace hbm:=hbm.mono hle48
 have hr48n:=hr48.len
 refine xS [_,_] 1 [_,_] ZcI (h:=Zv [_,_,_,_,_] rfl (Zh ?_))
 exact Zad .ret (.inl rfl) [_] [0] rfl ⟨⟨_,rfl,.inr ⟨[_,_],ZbP,Zaf 1 rfl rfl rfl,rfl⟩⟩,trivial⟩ ⟨_,_,⟨e,h.x.mail⟩,_,(ol),hr48,oz,rfl⟩
 try simp only [sQ,ne_eq] at g4
 refine Za (ZI (h:=xA (h:=Zd rfl (fun g5=>?_) (fun g5=>?_))))
 try simp only [sQ,ne_eq] at g5
 refine Za (xW ZaR (h:=x1 Zfv 3 (h:=xV Tryz.underlying66 (h:=ZbM (h:=Zd rfl (fun g6=>?_) (fun g6=>?_))))))
 try simp only [sQ,ne_eq] at g6
 refine Z8 (keeps _ [2,3] _) mo kr ⟨Kn.le.refl _,Zam.refl _ _⟩ (fun _ _=>?_)
 refine aW 0 rfl ZaR (h:=aT 1 rfl (ZG fun D B L hI=>Zn rfl rfl Zfv rfl (atL 3 (hI.2.2.1.trans rfl) rfl rfl) r4) (h:=aM 2 rfl (h:=aW 3 rfl ZaR (h:=aT 4 rfl (ZG fun D B L hI=>Zn rfl rfl Zfv rfl (atL 3 (hI.2.2.1.trans rfl) rfl rfl) r4) (h:=aV 5 rfl Tryz.underlying66 (h:=aM 7 rfl (h:=Zu 6 kr rfl kr (ZcH 0 rfl rfl rfl Za9 rfl (ZP _ _ _ _ _ _ oz oz oz hm _ hbm) ?_))))))))
 rintro _ _ ⟨rz1,rfl,rz1a,rz1b,rfl⟩
 refine ⟨⟨Kn.le.refl _,t2⟩,(Zu 8 kr rfl kr (ZcH 0 rfl rfl rfl Za9 rfl (ZP _ _ _ _ _ _ oz oz oz hm _ hbm) ?_))⟩
 rintro _ _ ⟨rz2,rfl,rz2a,rz2b,rfl⟩
 refine ⟨⟨Kn.le.refl _,t2⟩,?_⟩
 obtain ⟨z,hz⟩:=ZeP (xs:=h.x.mail) (i:=rz1) om om
 obtain ⟨bb52,_,hp52,⟨rfl,hb52⟩,hw52,hc52⟩:=hv.row hz
 refine aT 9 rfl (ZG fun D B L hI=>Zf8 hp52 rfl rfl Tryz.underlying66 ZcJ rfl rfl om om r4) (h:=?_)
 refine aW 10 rfl Ze8 (h:=ZV 11 kr rfl kr kr kr (Zes (k:=(rz1).toNat) (off:=0) (⟨rz2,z.flags,z.text⟩) [_] 2 hv hp52 hz rfl rfl sz3 rfl rfl rfl rfl rfl rfl (by rintro _ ⟨rfl,e1⟩;exact ⟨rfl,e1⟩) (fun l53 hv53=>?_)))
 refine Zz (Zf (Za (xL [_,_] ZbP 3 (h:=Z5 2 rfl hv53 ZM.mono om3 (fun B54 hle54 hr54=>?_)))))
 replace hbm:=hbm.mono hle54
 have hr54n:=hr54.len
 refine xS [_,_] 1 [_,_] ZcI (h:=Zv [_,_,_,_] rfl (Zh ?_))
 exact Zad .ret (.inl rfl) [_] [0] rfl ⟨⟨_,rfl,.inr ⟨[_,_],ZbP,Zaf 1 rfl rfl rfl,rfl⟩⟩,trivial⟩ ⟨_,_,⟨h.x.next,(h.x.mail.set ((rz1).toNat) (⟨rz2,z.flags,z.text⟩))⟩,_,(ol),hr54,oz,rfl⟩
 try simp only [sQ,ne_eq] at g6
 refine Zj (Zz (Zf (Za (xL [_,_] ZbP 3 (h:=Z5 2 rfl hv ZM.mono om3 (fun B55 hle55 hr55=>?_))))))
 replace hbm:=hbm.mono hle55
 have hr55n:=hr55.len
 refine xS [_,_] 1 [_,_] ZcI (h:=Zv [_,_,_,_] rfl (Zh ?_))
 exact Zad .ret (.inl rfl) [_] [0] rfl ⟨⟨_,rfl,.inr ⟨[_,_],ZbP,Zaf 1 rfl rfl rfl,rfl⟩⟩,trivial⟩ ⟨_,_,⟨h.x.next,h.x.mail⟩,_,(ol),hr55,oz,rfl⟩
 try simp only [sQ,ne_eq] at g5
 refine Za (ZI (h:=xA (h:=Zd rfl (fun g7=>?_) (fun g7=>?_))))
 try simp only [sQ,ne_eq] at g7
 refine Za (xW ZaR (h:=x1 Zfv 3 (h:=xV Tryz.underlying66 (h:=ZbM (h:=Zd rfl (fun g8=>?_) (fun g8=>?_))))))
 try simp only [sQ,ne_eq] at g8
 refine Z8 (keeps _ [2,3] _) mo kr ⟨Kn.le.refl _,Zam.refl _ _⟩ (fun _ _=>?_)
 refine aW 0 rfl ZaR (h:=aT 1 rfl (ZG fun D B L hI=>Zn rfl rfl Zfv rfl (atL 3 (hI.2.2.1.trans rfl) rfl rfl) r4) (h:=aM 2 rfl (h:=aW 3 rfl ZaR (h:=aT 4 rfl (ZG fun D B L hI=>Zn rfl rfl Zfv rfl (atL 3 (hI.2.2.1.trans rfl) rfl rfl) r4) (h:=aV 5 rfl Tryz.underlying66 (h:=Zu 6 kr rfl kr (ZcH 0 rfl rfl rfl Za9 rfl (ZP _ _ _ _ _ _ oz oz oz hm _ hbm) ?_)))))))
 rintro _ _ ⟨rz1,rfl,rz1a,rz1b,rfl⟩
 refine ⟨⟨Kn.le.refl _,t2⟩,?_⟩
 obtain ⟨z,hz⟩:=ZeP (xs:=h.x.mail) (i:=rz1) om om
 obtain ⟨bb58,_,hp58,⟨rfl,hb58⟩,hw58,hc58⟩:=hv.row hz
 refine aT 7 rfl (ZG fun D B L hI=>Zf8 hp58 rfl rfl Tryz.underlying66 ZcJ rfl rfl om om r4) (h:=?_)
 refine aW 8 rfl ZfT (h:=ZV 9 kr rfl kr kr kr (Zes (k:=(rz1).toNat) (off:=1) (⟨z.uid,32,z.text⟩) [_] 2 hv hp58 hz rfl rfl sz3 rfl rfl rfl rfl rfl rfl (by rintro _ ⟨rfl,e1⟩;exact ⟨rfl,e1⟩) (fun l59 hv59=>?_)))
 refine Zz (Zf (Za (xL [_,_] ZbP 3 (h:=Z5 2 rfl hv59 ZM.mono om3 (fun B60 hle60 hr60=>?_)))))
 replace hbm:=hbm.mono hle60
 have hr60n:=hr60.len
 refine xS [_,_] 1 [_,_] ZcI (h:=Zv [_,_,_,_] rfl (Zh ?_))
 exact Zad .ret (.inl rfl) [_] [0] rfl ⟨⟨_,rfl,.inr ⟨[_,_],ZbP,Zaf 1 rfl rfl rfl,rfl⟩⟩,trivial⟩ ⟨_,_,⟨h.x.next,(h.x.mail.set ((rz1).toNat) (⟨z.uid,32,z.text⟩))⟩,_,(ol),hr60,oz,rfl⟩
 try simp only [sQ,ne_eq] at g8
 refine Zj (Zz (Zf (Za (xL [_,_] ZbP 3 (h:=Z5 2 rfl hv ZM.mono om3 (fun B61 hle61 hr61=>?_))))))
 replace hbm:=hbm.mono hle61
 have hr61n:=hr61.len
 refine xS [_,_] 1 [_,_] ZcI (h:=Zv [_,_,_,_] rfl (Zh ?_))
 exact Zad .ret (.inl rfl) [_] [0] rfl ⟨⟨_,rfl,.inr ⟨[_,_],ZbP,Zaf 1 rfl rfl rfl,rfl⟩⟩,trivial⟩ ⟨_,_,⟨h.x.next,h.x.mail⟩,_,(ol),hr61,oz,rfl⟩
 try simp only [sQ,ne_eq] at g7
 refine Zj (Zz (Zf (Za (xL [_,_] ZbP 3 (h:=Z5 2 rfl hv ZM.mono om3 (fun B62 hle62 hr62=>?_))))))
 replace hbm:=hbm.mono hle62
 have hr62n:=hr62.len
 refine xS [_,_] 1 [_,_] ZcI (h:=Zv [_,_,_,_] rfl (Zh ?_))
 exact Zad .ret (.inl rfl) [_] [0] rfl ⟨⟨_,rfl,.inr ⟨[_,_],ZbP,Zaf 1 rfl rfl rfl,rfl⟩⟩,trivial⟩ ⟨_,_,⟨h.x.next,h.x.mail⟩,_,(ol),hr62,oz,rfl⟩

set_option maxHeartbeats 800000 in
theorem Zlr (b:Nat) (q:Option Addr) (m cp p:Nat) (hp:p≤700000000000) (hm:m≤2000) (B:Kn) (hbm:Zat B q m):ZA (pj J) 54 [ptr ⟨b,0,none⟩] B [rd b q m cp p] (fun v B' Ls=>∃(x:DHost) (p1 p2 p3:Option Addr) (d1 d2 d3 k:Nat),v = .agg #[str x.domain,.slice p1 x.users.length d1,.slice p2 x.folders.length d2,.int .i64 x.queue.next,.slice p3 x.queue.items.length d3]∧SlK B' p1 d1 3 Zg x.users∧SlK B' p2 d2 5 Zb x.folders∧SlK B' p3 d3 4 Zi x.queue.items∧x.domain.length≤2000000∧ZJ x=true∧k≤p+6000∧Ls=[rd b q m cp k]):=by
 refine Zc 37 Tryz.func54 rfl rfl rfl (Nat.le_of_ble_eq_true rfl) ?_
 refine Za (xAl [_,_,_,_,_] ZaW (h:=fun b1=>Zv [_,_] rfl (Za (xB [(0,_),(1,_),(2,_)] [_,_,_] [_,_,_] ZrB ZgA (h:=xM (h:=xX 0 rfl Za9 rfl (ZP _ _ _ _ _ _ oz oz oz hm _ hbm) (h:=?_)))))))
 rintro _ _ ⟨ra,rfl,raa,rab,rfl⟩
 refine xD (h:=xB [(0,_),(1,_),(2,_)] [_,_,_] [_,_,_] ZrB ZgA (h:=xM (h:=xX 0 rfl Za9 rfl (ZP _ _ _ _ _ _ oz oz oz hm _ hbm) (h:=?_))))
 rintro _ _ ⟨rb,rfl,rba,rbb,rfl⟩
 refine xD (h:=xB [(0,_),(1,_),(2,_)] [_,_,_] [_,_,_] ZrB ZgA (h:=xBs [(0,_),(1,_),(2,_)] [_,_,_,_,_,_,_,_,_] Tryz.underlying23 ZeK ZgA (h:=fun b4=>?_)))
 have hdl:(Zfz ra rb).length=3:=rfl
 have hvq:Z2 B (ZaE b4 [str [97,109,121],str [97,49],int 60,str [98,111,98],str [98,50],int (20+ra),str [99,121,100],str [99,51],int (100+rb)] 91) (some ⟨b4,0,none⟩) 3 91 3 Zg (Zfz ra rb):=Z2.lit (rows:=[[str [97,109,121],str [97,49],int 60],[str [98,111,98],str [98,50],int (20+ra)],[str [99,121,100],str [99,51],int (100+rb)]]) (.cons ⟨rfl,by simp,by simp⟩ (.cons ⟨rfl,by simp,by simp⟩ (.cons ⟨rfl,by simp,by simp⟩ .nil))) (by intro row hr;simp only [List.mem_cons,List.not_mem_nil,or_false] at hr;rcases hr with rfl | rfl | rfl <;> rfl)
 have hdu:=ZqJ (a:=ra) (b:=rb) oz oz oz oz
 refine Z5 2 rfl hvq Zg.mono om3 (fun B5 hle5 hr5=>?_)
 replace hbm:=hbm.mono hle5
 have hr5n:=hr5.len
 refine Zo (ZaG rfl rfl ZxB rfl (ZpB _ _ [104,111,115,116,46,111,114,103] (Zfz ra rb) om2 om2 _ hr5) ?_)
 intro vh Bh hleh
 rintro ⟨q1h,c1h,q2h,c2h,q3h,c3h,rfl,huh,hfh,hih⟩
 replace hr5:=hr5.mono Zg.mono hleh
 replace hbm:=hbm.mono hleh
 have huhn:=huh.len
 have hfhn:=hfh.len
 have hihn:=hih.len
 refine xM (h:=xE (h:=xE (h:=xAl [_,_,_,_,_] ZaW (h:=fun b7=>xS [_,_,_,_,_] 3 [_,_,_,_,_] Zav (h:=xA (h:=Zv [_,_,_,_] rfl (Za (xM (h:=xX 0 rfl Za9 rfl (ZP _ _ _ _ _ _ oz oz oz hm _ hbm) (h:=?_))))))))))
 rintro _ _ ⟨rn,rfl,rna,rnb,rfl⟩
 refine xA (h:=Zv [_,_,_,_] rfl (Zl (Za (xA (h:=Zp (ZQ (α:=GHo) [0,2,3,5] (fun g=>[(6,.int .i64 g.k)]) [0,3] (fun g=>[rd b q m cp g.p,ZaE b7 [str g.x.domain,.slice g.q1 g.x.users.length g.c1,.slice g.q2 g.x.folders.length g.c2,.int .i64 g.x.queue.next,.slice g.q3 g.x.queue.items.length g.c3] 29]) (fun g Bx=>g.k≤40∧g.p≤p+4+60*g.k∧ZJ g.x=true∧g.x.domain.length≤2000000∧SlK Bx g.q1 g.c1 3 Zg g.x.users∧SlK Bx g.q2 g.c2 5 Zb g.x.folders∧SlK Bx g.q3 g.c3 4 Zi g.x.queue.items) (fun g=>40 - g.k) ⟨0,_,(Zch [104,111,115,116,46,111,114,103] (Zfz ra rb)).1,_,_,_,_,_,_⟩ t1 rfl (⟨Nat.zero_le _,(so),(by rw [hdu.1];exact hdu.2),(by rw [hdu.1];exact (by decide:(8:Nat)≤2000000)),huh,hfh,hih⟩) (fun g B9 hle9 hI=>?_)))))))
 obtain ⟨hk,hgp,hgo,hgd,hgu,hgf,hgi⟩:=hI
 have hgin:=hgi.len
 have hleft:=ZmM hgo
 replace hbm:=hbm.mono hle9
 refine ZO [(0,_),(2,_),(3,_),(5,_),(6,_)] [_,_,_,_] t5 rfl (Zl (Za (xM (h:=xM (h:=Zag (h:=Zd rfl (fun g1=>?_) (fun g1=>?_)))))))
 try simp only [sQ,ne_eq] at g1
 refine Zj (Zf (Zl (Zp (Z8 (keeps _ [3] _) mo kr ⟨Kn.le.refl _,Zam.refl _ _⟩ (fun _ _=>?_)))))
 refine aT 0 rfl (ZG fun D B L hI=>Z6 [_,_,_,_,_] rfl rfl Z1 rfl (Zaf 3 (hI.2.1.trans rfl) rfl rfl) r4) (h:=aM 1 rfl (h:=aT 2 rfl (ZG fun D B L hI=>Z6 [_,_,_,_,_] rfl rfl Z1 rfl (Zaf 3 (hI.2.1.trans rfl) rfl rfl) r4) (h:=Zu 3 kr rfl kr (Z4 [0] rfl rfl rfl rfl Zxz rfl (Zou _ _ _ _ _ oz hm _ _ _ _ _ _ g.x (oy) _ hbm hgi) ?_))))
 rintro _ Be _ hlee ⟨ee,ke,rfl,hee1,hee2,hee3,hee4,hee5,hke,rfl⟩
 replace hgu:=hgu.mono Zg.mono hlee
 replace hgf:=hgf.mono Zb.mono hlee
 replace hgi:=hgi.mono Zi.mono hlee
 replace hbm:=hbm.mono hlee
 refine ⟨⟨hlee,t1⟩,(Zu 4 kr rfl kr (ZaG rfl rfl ZxA rfl (Zrr _ _ _ _ _ _ g.x ee om2 om2 om2 om2 om2 om2 _ hgu hgf hgi) ?_))⟩
 intro vy By hley
 rintro ⟨p1y,d1y,p2y,d2y,p3y,d3y,rfl,huy,hfy,hiy,hdy⟩
 replace hgu:=hgu.mono Zg.mono hley
 replace hgf:=hgf.mono Zb.mono hley
 replace hgi:=hgi.mono Zi.mono hley
 replace hbm:=hbm.mono hley
 have huyn:=huy.len
 have hfyn:=hfy.len
 have hiyn:=hiy.len
 refine ⟨⟨(hlee.trans hley),t1⟩,(aM 5 rfl (h:=aE 6 rfl (h:=aE 7 rfl (h:=Zbb 8 kr rfl kr kr (ZN [_,_,_,_,_] 3 [_,_,_,_,_] rfl rfl Zav rfl rfl rfl rfl rfl rfl rfl rfl ?_)))))⟩
 refine ZC kr kr ?_
 refine Zz (Zf (Ze (xM (h:=xD (h:=xA (h:=?_))))))
 exact ZB ⟨g.k+1,ke,(hDo g.x ee).1,_,_,_,_,_,_⟩ [0,1,2,3] so2 ⟨so,so,Zvg hgo,hdy,huy,hfy,hiy⟩ t5 rfl
 try simp only [sQ,ne_eq] at g1
 refine ZT (Zah (ZZ (ZH (Zf (Za (xL [_,_,_,_,_] Z1 3 (h:=xS [_,_,_,_,_] 1 [_,_,_,_,_] Zav (h:=Zv [_,_,_,_] rfl (Zh ?_)))))))))
 exact Zad .ret (.inl rfl) [_] [0] rfl ⟨⟨_,rfl,.inr ⟨[_,_,_,_,_],Z1,Zaf 1 rfl rfl rfl,rfl⟩⟩,trivial⟩ ⟨_,_,_,_,_,_,_,_,rfl,hgu,hgf,hgi,oy,hgo,so2,rfl⟩

set_option maxHeartbeats 800000 in
theorem Zor (b:Nat) (q:Option Addr) (m cp p:Nat) (hp:p≤650000000000) (hm:m≤2000) (B:Kn) (hbm:Zat B q m):ZA (pj J) 53 [ptr ⟨b,0,none⟩] B [rd b q m cp p] (fun v B' Ls=>∃(x:DHost) (p1 p2 p3:Option Addr) (d1 d2 d3 k:Nat),v = .agg #[str x.domain,.slice p1 x.users.length d1,.slice p2 x.folders.length d2,.int .i64 x.queue.next,.slice p3 x.queue.items.length d3]∧SlK B' p1 d1 3 Zg x.users∧SlK B' p2 d2 5 Zb x.folders∧SlK B' p3 d3 4 Zi x.queue.items∧x.domain.length≤2000000∧k≤p+8000∧Ls=[rd b q m cp k]):=by
 refine Zc 57 Tryz.func53 rfl rfl rfl (Nat.le_of_ble_eq_true rfl) ?_
 refine Za (xAl [_,_,_,_,_] ZaW (h:=fun b1=>Zv [_,_] rfl (Za (xM (h:=Zo (Z4 [0] rfl rfl rfl rfl ZxO rfl (Zlr _ _ _ _ _ oz hm _ hbm) ?_))))))
 rintro _ Bh _ hleh ⟨xh,p1h,p2h,p3h,d1h,d2h,d3h,kh,rfl,huh,hfh,hih,hdh,hoh,hkh,rfl⟩
 replace hbm:=hbm.mono hleh
 have huhn:=huh.len
 have hfhn:=hfh.len
 have hihn:=hih.len
 have hpos:=Zoz hoh
 refine Zo (Zaa rfl rfl ZnQ rfl (Zbe _ _ _ _ _ _ xh _ huh hfh hih) ?_)
 rintro _ B3 _ hle3 ⟨l3,a3,c3,q13,c13,q33,c33,rfl,rfl,hu3,hs3,hi3⟩
 replace huh:=huh.mono Zg.mono hle3
 replace hfh:=hfh.mono Zb.mono hle3
 replace hih:=hih.mono Zi.mono hle3
 replace hbm:=hbm.mono hle3
 have hu3n:=hu3.len
 have hi3n:=hi3.len
 refine xAl [_,_,_,_,_] ZaW (h:=fun b4=>xS [_,_,_,_,_] 3 [_,_,_,_,_] Zav (h:=Zv [_,_,_,_] rfl (Zl (Za (xM (h:=xX 0 rfl Za9 rfl (ZP _ _ _ _ _ _ oz oz oz hm _ hbm) (h:=?_)))))))
 rintro _ _ ⟨rk,rfl,rka,rkb,rfl⟩
 refine Zv [_,_,_,_] rfl (Zp (Za (ZI (h:=xA (h:=Zd rfl (fun g0=>?_) (fun g0=>?_))))))
 try simp only [sQ,ne_eq] at g0
 refine Ze (xM (h:=xX 0 rfl Zyc rfl (ZmE _ _ _ _ _ oz hm _ hbm) (h:=?_)))
 rintro _ _ ⟨x6,rfl,hx6,rfl⟩
 refine xW ZiK (h:=xS [_] 3 [_,_,_,_,_] sz9 (h:=Zz (Zf (Za (xL [_,_,_,_,_] Z1 3 (h:=Z5 2 rfl hs3 Zb.mono om3 (fun B7 hle7 hr7=>?_)))))))
 replace hu3:=hu3.mono Zg.mono hle7
 replace hi3:=hi3.mono Zi.mono hle7
 replace hbm:=hbm.mono hle7
 have hr7n:=hr7.len
 refine xS [_,_,_,_,_] 1 [_,_,_,_,_] Zav (h:=Zv [_,_,_,_] rfl (Zh ?_))
 exact Zad .ret (.inl rfl) [_] [0] rfl ⟨⟨_,rfl,.inr ⟨[_,_,_,_,_],Z1,Zaf 1 rfl rfl rfl,rfl⟩⟩,trivial⟩ ⟨⟨x6,xh.users,xh.folders,⟨xh.queue.next,xh.queue.items⟩⟩,_,_,_,_,_,_,_,(ol),hu3,hr7,hi3,by first | assumption | omega | (simp only [];omega),so2,rfl⟩
 try simp only [sQ,ne_eq] at g0
 refine Za (ZI (h:=xA (h:=Zd rfl (fun g1=>?_) (fun g1=>?_))))
 try simp only [sQ,ne_eq] at g1
 refine Ze (xM (h:=Zo (Z4 [0] rfl rfl rfl rfl Zyb rfl (Zos _ _ _ _ _ oz hm _ hbm) ?_)))
 rintro _ B8 _ hle8 ⟨q8,cp8,us8,p8,rfl,hu8,hun8,hp8,rfl⟩
 replace hs3:=hs3.mono Zb.mono hle8
 replace hu3:=hu3.mono Zg.mono hle8
 replace hi3:=hi3.mono Zi.mono hle8
 replace hbm:=hbm.mono hle8
 have hu8n:=hu8.len
 refine xW ZbD (h:=xS [_] 3 [_,_,_,_,_] Zx1 (h:=Zz (Zf (Za (xL [_,_,_,_,_] Z1 3 (h:=Z5 2 rfl hs3 Zb.mono om3 (fun B9 hle9 hr9=>?_)))))))
 replace hu8:=hu8.mono Zg.mono hle9
 replace hi3:=hi3.mono Zi.mono hle9
 replace hbm:=hbm.mono hle9
 have hr9n:=hr9.len
 refine xS [_,_,_,_,_] 1 [_,_,_,_,_] Zav (h:=Zv [_,_,_,_] rfl (Zh ?_))
 exact Zad .ret (.inl rfl) [_] [0] rfl ⟨⟨_,rfl,.inr ⟨[_,_,_,_,_],Z1,Zaf 1 rfl rfl rfl,rfl⟩⟩,trivial⟩ ⟨⟨xh.domain,us8,xh.folders,⟨xh.queue.next,xh.queue.items⟩⟩,_,_,_,_,_,_,_,(ol),hu8,hr9,hi3,by first | assumption | omega | (simp only [];omega),so2,rfl⟩
 try simp only [sQ,ne_eq] at g1
 refine Za (ZI (h:=xA (h:=Zd rfl (fun g2=>?_) (fun g2=>?_))))
 try simp only [sQ,ne_eq] at g2
 refine Ze (xW Z9 (h:=x1 ZcN 3 (h:=Z5 2 rfl hs3 Zb.mono om3 (fun B10 hle10 hr10=>?_))))
 replace hu3:=hu3.mono Zg.mono hle10
 replace hi3:=hi3.mono Zi.mono hle10
 replace hbm:=hbm.mono hle10
 have hr10n:=hr10.len
 obtain ⟨hq11,q11,cp11,hv11,hr11⟩:=hr10.cutE 1 xh.folders.length om om
 have hr11n:=hr11.len
 refine Zo (Zg4 (a:=1) (b:=xh.folders.length) hv11 om hq11 rfl rfl Tryz.underlying24 Zbw rfl ⟨_,_,rfl,by first | omega | (simp;done) | (simp;omega)⟩ rfl ?_)
 refine xW Z9 (h:=xS [_] 3 [_,_,_,_,_] Zq9 (h:=Zz (Zf (Za (xL [_,_,_,_,_] Z1 3 (h:=xS [_,_,_,_,_] 1 [_,_,_,_,_] Zav (h:=Zv [_,_,_,_] rfl (Zh ?_))))))))
 exact Zad .ret (.inl rfl) [_] [0] rfl ⟨⟨_,rfl,.inr ⟨[_,_,_,_,_],Z1,Zaf 1 rfl rfl rfl,rfl⟩⟩,trivial⟩ ⟨⟨xh.domain,xh.users,((xh.folders.take xh.folders.length).drop 1),⟨xh.queue.next,xh.queue.items⟩⟩,_,_,_,_,_,_,_,(ol),hu3,hr11,hi3,by first | assumption | omega | (simp only [];omega),so2,rfl⟩
 try simp only [sQ,ne_eq] at g2
 refine Za (ZI (h:=xA (h:=Zd rfl (fun g3=>?_) (fun g3=>?_))))
 try simp only [sQ,ne_eq] at g3
 refine Z8 (keeps _ [2,3] _) mo kr ⟨Kn.le.refl _,Zam.refl _ _⟩ (fun _ _=>?_)
 refine aW 0 rfl Z9 (h:=aT 1 rfl (ZG fun D B L hI=>Zn rfl rfl ZcN rfl (atL 3 (hI.2.2.1.trans rfl) rfl rfl) r4) (h:=aM 2 rfl (h:=aW 3 rfl Z9 (h:=aT 4 rfl (ZG fun D B L hI=>Zn rfl rfl ZcN rfl (atL 3 (hI.2.2.1.trans rfl) rfl rfl) r4) (h:=aV 5 rfl Tryz.underlying24 (h:=aM 7 rfl (h:=Zu 6 kr rfl kr (ZcH 0 rfl rfl rfl Za9 rfl (ZP _ _ _ _ _ _ oz oz oz hm _ hbm) ?_))))))))
 rintro _ _ ⟨rw,rfl,rwa,rwb,rfl⟩
 refine ⟨⟨Kn.le.refl _,t2⟩,(Zu 8 kr rfl kr (Z4 [0] rfl rfl rfl rfl Zya rfl (ZrP _ _ _ _ _ oz hm _ hbm) ?_))⟩
 rintro _ Ba _ hlea ⟨qa,cpa,gsa,ka,rfl,hga,hka,rfl⟩
 replace hs3:=hs3.mono Zb.mono hlea
 replace hu3:=hu3.mono Zg.mono hlea
 replace hi3:=hi3.mono Zi.mono hlea
 replace hbm:=hbm.mono hlea
 have hgan:=hga.len
 refine ⟨⟨hlea,t2⟩,?_⟩
 obtain ⟨z,hz⟩:=ZeP (xs:=xh.folders) (i:=rw) om om
 obtain ⟨bb15,_,hp15,⟨qg15,cg15,qm15,cm15,rfl,hg15,hm15,hb15,hb15b⟩,hw15,hc15⟩:=hs3.row hz
 have hg15n:=hg15.len
 have hm15n:=hm15.len
 have hm15s:=Zac hm15
 refine aT 9 rfl (ZG fun D B L hI=>Zf8 hp15 rfl rfl Tryz.underlying24 Zbw rfl rfl om om r4) (h:=?_)
 refine aW 10 rfl ZdV (h:=ZV 11 kr rfl kr kr kr (Zes (k:=(rw).toNat) (off:=2) (⟨z.owner,z.name,gsa,z.next,z.mail⟩) [_] 2 hs3 hp15 hz rfl rfl ZuZ rfl rfl rfl rfl rfl rfl (by rintro _ ⟨_,_,_,_,rfl,_,e2,e3,e4⟩;exact ⟨_,_,_,_,rfl,hga,e2,e3,e4⟩) (fun l16 hv16=>?_)))
 refine Zz (Zf (Za (xL [_,_,_,_,_] Z1 3 (h:=Z5 2 rfl hv16 Zb.mono om3 (fun B17 hle17 hr17=>?_)))))
 replace hga:=hga.mono ZL.mono hle17
 replace hg15:=hg15.mono ZL.mono hle17
 replace hm15:=hm15.mono ZM.mono hle17
 replace hu3:=hu3.mono Zg.mono hle17
 replace hi3:=hi3.mono Zi.mono hle17
 replace hbm:=hbm.mono hle17
 have hr17n:=hr17.len
 refine xS [_,_,_,_,_] 1 [_,_,_,_,_] Zav (h:=Zv [_,_,_,_] rfl (Zh ?_))
 exact Zad .ret (.inl rfl) [_] [0] rfl ⟨⟨_,rfl,.inr ⟨[_,_,_,_,_],Z1,Zaf 1 rfl rfl rfl,rfl⟩⟩,trivial⟩ ⟨⟨xh.domain,xh.users,(xh.folders.set ((rw).toNat) (⟨z.owner,z.name,gsa,z.next,z.mail⟩)),⟨xh.queue.next,xh.queue.items⟩⟩,_,_,_,_,_,_,_,(ol),hu3,hr17,hi3,by first | assumption | omega | (simp only [];omega),so2,rfl⟩
 try simp only [sQ,ne_eq] at g3
 refine Za (ZI (h:=xA (h:=Zd rfl (fun g4=>?_) (fun g4=>?_))))
 try simp only [sQ,ne_eq] at g4
 refine Z8 (keeps _ [2,3] _) mo kr ⟨Kn.le.refl _,Zam.refl _ _⟩ (fun _ _=>?_)
 refine aW 0 rfl Z9 (h:=aT 1 rfl (ZG fun D B L hI=>Zn rfl rfl ZcN rfl (atL 3 (hI.2.2.1.trans rfl) rfl rfl) r4) (h:=aM 2 rfl (h:=aW 3 rfl Z9 (h:=aT 4 rfl (ZG fun D B L hI=>Zn rfl rfl ZcN rfl (atL 3 (hI.2.2.1.trans rfl) rfl rfl) r4) (h:=aV 5 rfl Tryz.underlying24 (h:=aM 7 rfl (h:=Zu 6 kr rfl kr (ZcH 0 rfl rfl rfl Za9 rfl (ZP _ _ _ _ _ _ oz oz oz hm _ hbm) ?_))))))))
 rintro _ _ ⟨rw,rfl,rwa,rwb,rfl⟩
 refine ⟨⟨Kn.le.refl _,t2⟩,(Zu 8 kr rfl kr (Z4 [0] rfl rfl rfl rfl Zx9 rfl (ZrQ _ _ _ _ _ oz hm _ hbm) ?_))⟩
 rintro _ Ba _ hlea ⟨qa,cpa,xa,ka,rfl,hga,hka,rfl⟩
 replace hs3:=hs3.mono Zb.mono hlea
 replace hu3:=hu3.mono Zg.mono hlea
 replace hi3:=hi3.mono Zi.mono hlea
 replace hbm:=hbm.mono hlea
 have hgan:=hga.len
 refine ⟨⟨hlea,t2⟩,?_⟩
 obtain ⟨z,hz⟩:=ZeP (xs:=xh.folders) (i:=rw) om om
 obtain ⟨bb21,_,hp21,⟨qg21,cg21,qm21,cm21,rfl,hg21,hm21,hb21,hb21b⟩,hw21,hc21⟩:=hs3.row hz
 have hg21n:=hg21.len
 have hm21n:=hm21.len
 have hm21s:=Zac hm21
 refine aT 9 rfl (ZG fun D B L hI=>Zf8 hp21 rfl rfl Tryz.underlying24 Zbw rfl rfl om om r4) (h:=?_)
 refine aW 10 rfl Zb2 (h:=ZV 11 kr rfl kr kr kr (Zes (k:=(rw).toNat) (off:=3) (⟨z.owner,z.name,z.grants,xa.next,xa.mail⟩) [_,_] 2 hs3 hp21 hz rfl rfl ZcI rfl rfl rfl rfl rfl rfl (by rintro _ ⟨_,_,_,_,rfl,e1,_,e3,e4⟩;exact ⟨_,_,_,_,rfl,e1,hga,e3,e4⟩) (fun l22 hv22=>?_)))
 refine Zz (Zf (Za (xL [_,_,_,_,_] Z1 3 (h:=Z5 2 rfl hv22 Zb.mono om3 (fun B23 hle23 hr23=>?_)))))
 replace hga:=hga.mono ZM.mono hle23
 replace hg21:=hg21.mono ZL.mono hle23
 replace hm21:=hm21.mono ZM.mono hle23
 replace hu3:=hu3.mono Zg.mono hle23
 replace hi3:=hi3.mono Zi.mono hle23
 replace hbm:=hbm.mono hle23
 have hr23n:=hr23.len
 refine xS [_,_,_,_,_] 1 [_,_,_,_,_] Zav (h:=Zv [_,_,_,_] rfl (Zh ?_))
 exact Zad .ret (.inl rfl) [_] [0] rfl ⟨⟨_,rfl,.inr ⟨[_,_,_,_,_],Z1,Zaf 1 rfl rfl rfl,rfl⟩⟩,trivial⟩ ⟨⟨xh.domain,xh.users,(xh.folders.set ((rw).toNat) (⟨z.owner,z.name,z.grants,xa.next,xa.mail⟩)),⟨xh.queue.next,xh.queue.items⟩⟩,_,_,_,_,_,_,_,(ol),hu3,hr23,hi3,by first | assumption | omega | (simp only [];omega),so2,rfl⟩
 try simp only [sQ,ne_eq] at g4
 refine Za (ZI (h:=xA (h:=Zd rfl (fun g5=>?_) (fun g5=>?_))))
 try simp only [sQ,ne_eq] at g5
 refine Ze (xM (h:=Zo (Z4 [0] rfl rfl rfl rfl Zx8 rfl (Zot _ _ _ _ _ oz hm _ hbm) ?_)))
 rintro _ B24 _ hle24 ⟨aq24,cq24,qq24,p24,rfl,hq24,hp24,rfl⟩
 replace hs3:=hs3.mono Zb.mono hle24
 replace hu3:=hu3.mono Zg.mono hle24
 replace hi3:=hi3.mono Zi.mono hle24
 replace hbm:=hbm.mono hle24
 have hq24n:=hq24.len
 refine xW Zbg (h:=xS [_,_] 3 [_,_,_,_,_] Zdo (h:=Zz (Zf (Za (xL [_,_,_,_,_] Z1 3 (h:=Z5 2 rfl hs3 Zb.mono om3 (fun B25 hle25 hr25=>?_)))))))
 replace hq24:=hq24.mono Zi.mono hle25
 replace hu3:=hu3.mono Zg.mono hle25
 replace hbm:=hbm.mono hle25
 have hr25n:=hr25.len
 refine xS [_,_,_,_,_] 1 [_,_,_,_,_] Zav (h:=Zv [_,_,_,_] rfl (Zh ?_))
 exact Zad .ret (.inl rfl) [_] [0] rfl ⟨⟨_,rfl,.inr ⟨[_,_,_,_,_],Z1,Zaf 1 rfl rfl rfl,rfl⟩⟩,trivial⟩ ⟨⟨xh.domain,xh.users,xh.folders,⟨qq24.next,qq24.items⟩⟩,_,_,_,_,_,_,_,(ol),hu3,hr25,hq24,by first | assumption | omega | (simp only [];omega),so2,rfl⟩
 try simp only [sQ,ne_eq] at g5
 refine Zj (Zz (Zf (Za (xL [_,_,_,_,_] Z1 3 (h:=Z5 2 rfl hs3 Zb.mono om3 (fun B26 hle26 hr26=>?_))))))
 replace hu3:=hu3.mono Zg.mono hle26
 replace hi3:=hi3.mono Zi.mono hle26
 replace hbm:=hbm.mono hle26
 have hr26n:=hr26.len
 refine xS [_,_,_,_,_] 1 [_,_,_,_,_] Zav (h:=Zv [_,_,_,_] rfl (Zh ?_))
 exact Zad .ret (.inl rfl) [_] [0] rfl ⟨⟨_,rfl,.inr ⟨[_,_,_,_,_],Z1,Zaf 1 rfl rfl rfl,rfl⟩⟩,trivial⟩ ⟨⟨xh.domain,xh.users,xh.folders,⟨xh.queue.next,xh.queue.items⟩⟩,_,_,_,_,_,_,_,(ol),hu3,hr26,hi3,by first | assumption | omega | (simp only [];omega),so2,rfl⟩

set_option maxHeartbeats 400000 in
theorem ZrO (b:Nat) (q:Option Addr) (m cp p:Nat) (hp:p≤600000000000) (hm:m≤2000) (B:Kn) (hbm:Zat B q m):ZA (pj J) 20 [ptr ⟨b,0,none⟩] B [rd b q m cp p] (fun v B' Ls=>∃(x:DHost) (p1 p2 p3:Option Addr) (d1 d2 d3 k:Nat),v = .agg #[str x.domain,.slice p1 x.users.length d1,.slice p2 x.folders.length d2,.int .i64 x.queue.next,.slice p3 x.queue.items.length d3]∧SlK B' p1 d1 3 Zg x.users∧SlK B' p2 d2 5 Zb x.folders∧SlK B' p3 d3 4 Zi x.queue.items∧x.domain.length≤2000000∧k≤p+9000∧Ls=[rd b q m cp k]):=by
 refine Zc 10 Tryz.func20 rfl rfl rfl (Nat.le_of_ble_eq_true rfl) ?_
 refine Za (xAl [_,_,_,_,_] ZaW (h:=fun b1=>Zv [_,_] rfl (Zl (Za (xM (h:=xX 0 rfl Za9 rfl (ZP _ _ _ _ _ _ oz oz oz hm _ hbm) (h:=?_)))))))
 rintro _ _ ⟨r2,rfl,r2a,r2b,rfl⟩
 refine ZI (h:=Zv [_,_] rfl (Zd rfl (fun g0=>?_) (fun g0=>?_)))
 try simp only [sQ,ne_eq] at g0
 refine Za (xM (h:=Zo (Z4 [0] rfl rfl rfl rfl Zyz rfl (Zor _ _ _ _ _ oz hm _ hbm) ?_)))
 rintro _ Bh _ hleh ⟨xh,p1h,p2h,p3h,d1h,d2h,d3h,kh,rfl,huh,hfh,hih,hdh,hkh,rfl⟩
 replace hbm:=hbm.mono hleh
 have huhn:=huh.len
 have hfhn:=hfh.len
 have hihn:=hih.len
 refine xS [_,_,_,_,_] 1 [_,_,_,_,_] Zav (h:=Zv [_,_] rfl (Zh (Zs ?_)))
 exact Zad .ret (.inl rfl) [_] [0] rfl ⟨⟨_,rfl,.inr ⟨[_,_,_,_,_],Z1,Zaf 1 rfl rfl rfl,rfl⟩⟩,trivial⟩ ⟨_,_,_,_,_,_,_,_,rfl,huh,hfh,hih,oy,so2,rfl⟩
 try simp only [sQ,ne_eq] at g0
 refine Zj (Zf (Za (xM (h:=Zo (Z4 [0] rfl rfl rfl rfl ZxO rfl (Zlr _ _ _ _ _ oz hm _ hbm) ?_)))))
 rintro _ Bh _ hleh ⟨xh,p1h,p2h,p3h,d1h,d2h,d3h,kh,rfl,huh,hfh,hih,hdh,hoh,hkh,rfl⟩
 replace hbm:=hbm.mono hleh
 have huhn:=huh.len
 have hfhn:=hfh.len
 have hihn:=hih.len
 refine xS [_,_,_,_,_] 1 [_,_,_,_,_] Zav (h:=Zv [_,_] rfl (Zh ?_))
 exact Zad .ret (.inl rfl) [_] [0] rfl ⟨⟨_,rfl,.inr ⟨[_,_,_,_,_],Z1,Zaf 1 rfl rfl rfl,rfl⟩⟩,trivial⟩ ⟨_,_,_,_,_,_,_,_,rfl,huh,hfh,hih,oy,so2,rfl⟩

set_option maxHeartbeats 400000 in
theorem Zp6 (q:Option Addr) (cp:Nat) (us:List DUser) (u:Str) (B:Kn) (hu:SlK B q cp 3 Zg us):ZaL (pj J) 16 [.slice q us.length cp,str u] B (.bool (decide (0≤Zdw us u))):=by
 refine Zc 19 Tryz.func16 rfl rfl rfl (Nat.le_of_ble_eq_true rfl) ?_
 have hun:=hu.len
 refine Za (xA (h:=Zl (Za (xA (h:=Zp (ZQ (α:=Nat) [0,1] (fun k=>[(5,.int .i64 k)]) [] (fun k=>[]) (fun k Bx=>Bx=B∧k≤us.length∧∀z,z∈us.take k→z.name≠u) (fun k=>us.length - k) 0 t1 rfl (⟨rfl,Nat.zero_le _,by simp⟩) (fun k B1 hle1 hI=>?_)))))))
 obtain ⟨rfl,hk,hs⟩:=hI
 refine ZO [(0,_),(1,_),(5,_)] [] t3 rfl (Zl (Za (xM (h:=xM (h:=xV Tryz.underlying23 (h:=Zag (h:=Zd rfl (fun g1=>?_) (fun g1=>?_))))))))
 try simp only [sQ,ne_eq] at g1
 refine Zj (Zf (Zl (Zp (Za (xM (h:=xM (h:=?_)))))))
 obtain ⟨w,hw⟩:=Zaj (xs:=us) (i:=k) om
 obtain ⟨bb3,oo3,rfl⟩:=hu.base hw
 obtain ⟨_,⟨rfl,hb4,hb4b⟩,hc4⟩:=hu.elem hw
 refine xIx Tryz.underlying23 ZeK (h:=xW Zc0 (h:=y1 lk9 hc4 0 (h:=xM (h:=Zc4 (h:=Zd rfl (fun g2=>?_) (fun g2=>?_))))))
 try simp only [sQ,ne_eq] at g2
 refine Za (xA (h:=Zh (ZE (Zs (Z0 (ZE (Zs ?_)))))))
 exact ZY .ret (.inl rfl) [_] t1 ⟨Zk (decide_eq_true (ZbS.2 ⟨w,List.mem_of_getElem? hw,g2⟩)).symm,rfl,rfl⟩
 try simp only [sQ,ne_eq] at g2
 refine Zj (Zz (Zf (Ze (xM (h:=xD (h:=xA (h:=?_)))))))
 exact ZB (k+1) [] so2 ⟨rfl,oz,Ztz (p:=fun z:DUser=>z.name≠u) hw hs g2⟩ t3 rfl
 try simp only [sQ,ne_eq] at g1
 refine ZT (Zah (ZZ (ZH (Zf (Za (xA (h:=Zh ?_)))))))
 exact ZY .ret (.inl rfl) [_] t1 ⟨Zk (decide_eq_false (Zp7 (Zbq oz hs))).symm,rfl,rfl⟩

theorem Zvo (v:Value) (Q:Value→Kn→Cells→Prop) (B:Kn) (L:Cells):hb Tryz.prog (Extern.ReflectliteType.typeOf #[.iface 262 v]) Q B L=Q (.iface 213 (.agg #[.pointer (some ⟨5,262,none⟩)])) B L:=by kernel_rfl

theorem Zvp (v:Value) (k:Nat) (Q:FuncId × Value→Kn→Cells→Prop) (B:Kn) (L:Cells):hb Tryz.prog (Go.method (k+1) 213 v "Comparable") Q B L=Q (221,v) B L:=by kernel_rfl

theorem Zvq (Q:Value→Kn→Cells→Prop) (B:Kn) (L:Cells):hb Tryz.prog ((Extern.ReflectliteType.method fun t=>do Extern.Rtype.noPackHeld "Comparable" t;pure (.bool (← typeInfo t).comparable)) #[(.agg #[.pointer (some ⟨5,262,none⟩)])]) Q B L=Q (.bool true) B L:=by kernel_rfl

theorem Zt6:Extern.find Tryz.f221=some (Extern.ReflectliteType.method fun t=>do Extern.Rtype.noPackHeld "Comparable" t;pure (.bool (← typeInfo t).comparable)):=by kernel_rfl
theorem Zt5:Extern.find Tryz.f105=some Extern.ReflectliteType.typeOf:=by kernel_rfl

theorem ZwF:Extern.findNext Tryz.f105=none:=by kernel_rfl
theorem ZwG:Extern.findNext Tryz.f221=none:=by kernel_rfl

set_option maxHeartbeats 400000 in
theorem Zt3 (c k:Nat) (hc:c<4) (hk:k<4) (a:Nat→Addr)  (B:Kn) (hE:ErrsB 262 [0,2,3,1] B a):ZaL (pj J) 106 [errv 262 a (c+1),errv 262 a (k+1),.bool true] B (.bool (decide (c+1=k+1))):=by
 refine Zc 54 Tryz.func106 rfl rfl rfl (Nat.le_of_ble_eq_true rfl) ?_
 refine Za (xA (h:=Zp (ZQ (α:=Unit) [1,2] (fun u=>[(0,errv 262 a (c+1))]) [] (fun u=>[]) (fun u Bx=>Bx=B) (fun u=>0) () t1 rfl (rfl) (fun u B1 hle1 hI=>?_))))
 subst hI
 refine ZO [(0,_),(1,_),(2,_)] [] t3 rfl (Zp (Zl (Za (xM (h:=xM (h:=Zt (d:=15) rfl (fun g1=>?_) (fun g1=>by cases g1)))))))
 try simp only [sQ,ne_eq] at g1
 refine xM (h:=xM (h:=Zo (Zpg (a:=a) (c:=(c+1)) (k:=k) hE oz oz rfl rfl Tryz.underlying59 Tryz.underlying262 ZxZ Zu0 rfl rfl ?_)))
 refine xT (h:=Zd rfl (fun g2=>?_) (fun g2=>?_))
 try simp only [sQ,ne_eq] at g2
 refine Za (xA (h:=Zh (Zs (ZE (Z0 (ZE ?_))))))
 exact ZY .ret (.inl rfl) [_] t1 ⟨Zk (decide_eq_true g2).symm,rfl,rfl⟩
 try simp only [sQ,ne_eq] at g2
 refine Zj (Zf (Zl (Za (xM (h:=Zo (ZhU rfl rfl Tryz.underlying215 kr Zv9 rfl ?_))))))
 refine xM (h:=xE (h:=xE (h:=xA (h:=xA (h:=Za (xM (h:=xM (h:=Zt (d:=26) rfl (fun g3=>by cases g3) (fun g3=>?_)))))))))
 try simp only [sQ,ne_eq] at g3
 refine xP (h:=xP (h:=xP (h:=xF (h:=Zd (t:=false) rfl (fun h=>Bool.noConfusion h) (fun _=>Zj (Zf (Za (xM (h:=Zp (Za (Zo (ZhU rfl rfl Tryz.underlying218 kr Zv8 rfl ?_))))))))))))
 refine xE (h:=xE (h:=Zd rfl (fun g5=>by cases g5) (fun g5=>?_)))
 try simp only [sQ,ne_eq] at g5
 refine Za (Zo (ZhU rfl rfl Tryz.underlying220 kr Zv7 rfl ?_))
 refine xE (h:=xE (h:=Zd rfl (fun g6=>by cases g6) (fun g6=>?_)))
 try simp only [sQ,ne_eq] at g6
 refine Za (xA (h:=Za (xA (h:=Zh (ZE (ZE (Z0 (ZE ?_))))))))
 exact ZY .ret (.inl rfl) [_] t1 ⟨Zk (decide_eq_false g2).symm,rfl,rfl⟩

set_option maxHeartbeats 400000 in
theorem Zt2 (c k:Nat) (hc:c<4) (hk:k<4) (a:Nat→Addr)  (B:Kn) (hE:ErrsB 262 [0,2,3,1] B a):ZaL (pj J) 59 [errv 262 a (c+1),errv 262 a (k+1)] B (.bool (decide (c+1=k+1))):=by
 refine Zc 22 Tryz.func59 rfl rfl rfl (Nat.le_of_ble_eq_true rfl) ?_
 refine Za (xA (h:=Zl (Za (xM (h:=Zo (Znc (tE:=262) (a:=a) (c:=(c+1)) rfl rfl Tryz.underlying59 rfl (xM (h:=Zt (d:=8) rfl (fun g1=>by simp at g1) (fun g1=>?_)))))))))
 try simp only [sQ,ne_eq] at g1
 refine xM (h:=Zo (Znc (tE:=262) (a:=a) (c:=(k+1)) rfl rfl Tryz.underlying59 rfl (xF (h:=Zd rfl (fun g2=>by simp at g2) (fun g2=>?_)))))
 try simp only [sQ,ne_eq] at g2
 refine Zj (Zf (Za (xM (h:=Zo (ZuQ (fn:=Tryz.f105) rfl rfl Tryz.func105 rfl rfl ZwF Zt5 rfl (Zvo _) (Zo (ZuN (f:=221) (fn:=Tryz.f221) rfl rfl Tryz.func221 rfl rfl ZwG Zt6 rfl (Zvp _) Zvq (xA (h:=Za (xM (h:=xM (h:=xM (h:=xR Zxw rfl (Zt3 c k oz oz a _ hE) (h:=?_))))))))))))))
 refine xA (h:=Zh ?_)
 exact ZY .ret (.inl rfl) [_] t1 ⟨rfl,rfl,rfl⟩

set_option maxHeartbeats 400000 in
theorem Zt4 (k:Nat) (hk:k<4) (a:Nat→Addr)  (B:Kn) (hE:ErrsB 262 [0,2,3,1] B a):ZaL (pj J) 59 [.nilIface,errv 262 a (k+1)] B (.bool (decide (0=k+1))):=by
 refine Zc 22 Tryz.func59 rfl rfl rfl (Nat.le_of_ble_eq_true rfl) ?_
 refine Za (xA (h:=Zl (Za (xM (h:=Zo (Znc (tE:=262) (a:=a) (c:=0) rfl rfl Tryz.underlying59 rfl (xM (h:=Zt (d:=8) rfl (fun g1=>?_) (fun g1=>by simp at g1)))))))))
 try simp only [sQ,ne_eq] at g1
 refine xP (h:=xP (h:=xT (h:=Zd (t:=true) rfl (fun _=>Za (xM (h:=xM (h:=Zo (Zpg (a:=a) (c:=0) (k:=k) hE oz oz rfl rfl Tryz.underlying59 Tryz.underlying262 ZxZ Zu0 rfl rfl ?_))))) (fun h=>Bool.noConfusion h))))
 refine xA (h:=Zh (Zs ?_))
 exact ZY .ret (.inl rfl) [_] t1 ⟨rfl,rfl,rfl⟩

theorem ZnN (c k:Nat) (hc:c<5) (hk:k<4) (a:Nat→Addr)  (B:Kn) (hE:ErrsB 262 [0,2,3,1] B a):ZaL (pj J) 59 [errv 262 a c,errv 262 a (k+1)] B (.bool (decide (c=k+1))):=by
 cases c with
 | zero=>exact Zt4 k hk a B hE
 | succ c=>exact Zt2 c k oz hk a B hE

set_option maxHeartbeats 400000 in
theorem ZoD (c:Nat) (hc:c<5) (a:Nat→Addr)  (B:Kn) (hE:ErrsB 262 [0,2,3,1] B a):ZaL (pj J) 24 [errv 262 a (c)] B (.int .i64 c):=by
 refine Zc 22 Tryz.func24 rfl rfl rfl (Nat.le_of_ble_eq_true rfl) ?_
 refine Za (xA (h:=Zl (Zp (Za (xM (h:=Zo (Znc (tE:=262) (a:=a) (c:=c) rfl rfl Tryz.underlying59 rfl (xA (h:=Zd rfl (fun g0=>?_) (fun g0=>?_))))))))))
 try simp only [sQ,ne_eq] at g0
 refine Za (xA (h:=Zh (ZE (Zs ?_))))
 exact ZY .ret (.inl rfl) [_] t1 ⟨Za3 oz,rfl,rfl⟩
 try simp only [sQ,ne_eq] at g0
 refine Za (xM (h:=Zo (Zn rfl rfl ZsU rfl ((hE.row 0 (by decide)) _ 0 _ rfl) ?_)))
 refine xR Zv1 rfl (ZnN c 0 om2 om2 a _ hE) (h:=?_)
 refine xA (h:=Zd rfl (fun g1=>?_) (fun g1=>?_))
 try simp only [sQ,ne_eq] at g1
 refine Za (xA (h:=Zh (ZE (Zs ?_))))
 exact ZY .ret (.inl rfl) [_] t1 ⟨Za3 oz,rfl,rfl⟩
 try simp only [sQ,ne_eq] at g1
 refine Za (xM (h:=Zo (Zn rfl rfl ZsU rfl ((hE.row 1 (by decide)) _ 0 _ rfl) ?_)))
 refine xR Zv1 rfl (ZnN c 1 om2 om2 a _ hE) (h:=?_)
 refine xA (h:=Zd rfl (fun g2=>?_) (fun g2=>?_))
 try simp only [sQ,ne_eq] at g2
 refine Za (xA (h:=Zh (ZE (Zs ?_))))
 exact ZY .ret (.inl rfl) [_] t1 ⟨Za3 oz,rfl,rfl⟩
 try simp only [sQ,ne_eq] at g2
 refine Za (xM (h:=Zo (Zn rfl rfl ZsU rfl ((hE.row 2 (by decide)) _ 0 _ rfl) ?_)))
 refine xR Zv1 rfl (ZnN c 2 om2 om2 a _ hE) (h:=?_)
 refine xA (h:=Zd rfl (fun g3=>?_) (fun g3=>?_))
 try simp only [sQ,ne_eq] at g3
 refine Za (xA (h:=Zh (ZE (Zs ?_))))
 exact ZY .ret (.inl rfl) [_] t1 ⟨Za3 oz,rfl,rfl⟩
 try simp only [sQ,ne_eq] at g3
 refine Za (xM (h:=Zo (Zn rfl rfl ZsU rfl ((hE.row 3 (by decide)) _ 0 _ rfl) ?_)))
 refine xR Zv1 rfl (ZnN c 3 om2 om2 a _ hE) (h:=?_)
 refine xA (h:=Zd rfl (fun g4=>?_) (fun g4=>?_))
 try simp only [sQ,ne_eq] at g4
 refine Za (xA (h:=Zh (ZE (Zs ?_))))
 exact ZY .ret (.inl rfl) [_] t1 ⟨Za3 oz,rfl,rfl⟩
 try simp only [sQ,ne_eq] at g4
 refine Zj (Zz (Zf (Za (xA (h:=Zh ?_)))))
 exact ZY .ret (.inl rfl) [_] t1 ⟨Za3 oz,rfl,rfl⟩

set_option maxRecDepth 4000 in
set_option maxHeartbeats 400000 in
theorem ZiI (q : Option Addr) (cp : Nat) (xs : List DFolder) (B : Kn) (hx : SlK B q cp 5 Zb xs) : ZA (pj J) 118 [.slice q xs.length cp] B [] (fun v B' Ls => B' = B ∧ ∃ l a c, Ls = [l] ∧ v = .slice a xs.length c ∧ Zc1 l a c 70 5 (Zbn 162 196) xs) := by
  refine Zc 22 Tryz.func118 rfl rfl rfl (Nat.le_of_ble_eq_true rfl) ?_
  have hxn := hx.len
  refine Za (xA (h:=Za (xM (h:=xV Tryz.underlying24 (h:=Zo (ZhS (m := 0) (c := xs.length) (by_ := 88) [.string ⟨#[]⟩, .string ⟨#[]⟩, .slice none 0 0, .int .i64 0, .slice none 0 0] rfl rfl ZiR Zd6 rfl rfl ⟨_, _, rfl, by first | omega | (simp; done) | (simp; omega)⟩ ⟨_, _, rfl, by first | omega | (simp; done) | (simp; omega)⟩ (by first | omega | (simp; done) | (simp; omega)) (by first | omega | (simp; done) | (simp; omega)) (fun b1 => ?_)))))))
  have hd1 := Zc1.zeros (b := b1) (T := 70) (R := (Zbn 162 196)) (d := (⟨[], [], [], 0, []⟩ : DFolder)) (m := 0) (c := xs.length) (zs := [.string ⟨#[]⟩, .string ⟨#[]⟩, .slice none 0 0, .int .i64 0, .slice none 0 0]) rfl (⟨_, _, _, _, [], [], rfl, rfl, Z2.nil, Z2.nil, by simp, by simp, by simp, by simp⟩) (by first | omega | (simp; done) | (simp; omega))
  refine xA (h:=Zv [_] rfl (Zl (Za (xM (h:=xV Tryz.underlying24 (h:=xM (h:=Zp (ZQ (α := Gh DFolder) [0, 2, 9, 10] (fun g => [(3, .slice g.a g.xs.length g.c), (11, .int .i64 g.k)]) [0] (fun g => [g.l]) (fun g Bx => Bx = B ∧ g.k ≤ xs.length ∧ g.xs = xs.take g.k ∧ g.xs.length ≤ g.k ∧ Zc1 g.l g.a g.c 70 5 (Zbn 162 196) g.xs) (fun g => xs.length - g.k) ⟨0, 0, (ZaE b1 (zrow [.string ⟨#[]⟩, .string ⟨#[]⟩, .slice none 0 0, .int .i64 0, .slice none 0 0] xs.length) 70), (some ⟨b1, 0, none⟩), xs.length, []⟩ ⟨rfl, rfl, trivial⟩ rfl (⟨rfl, Nat.zero_le _, by simp, Nat.le_refl _, hd1⟩) (fun g B2 hle2 hI => ?_)))))))))
  obtain ⟨rfl, hk, hxs, hxl, hv⟩ := hI
  refine ZO [(0, _), (2, _), (3, _), (9, _), (10, _), (11, _)] [_] ⟨rfl, rfl, rfl, rfl, rfl, rfl, trivial⟩ rfl (Za (Zag (h:=Zl (Zd rfl (fun g1 => ?_) (fun g1 => ?_)))))
  try simp only [sQ, ne_eq] at g1
  refine Zj (Zf (Zl (Zp (Za ?_))))
  obtain ⟨w, hw⟩ := Zaj (xs := xs) (i := g.k) (by first | omega | (simp; done) | (simp; omega))
  obtain ⟨bb4, oo4, rfl⟩ := hx.base hw
  obtain ⟨_, ⟨qg5, cg5, qm5, cm5, rfl, hg5, hm5, hb5, hb5b⟩, hc5⟩ := hx.elem hw
  have hg5n := hg5.len
  have hm5n := hm5.len
  have hm5s := Zac hm5
  refine xIx Tryz.underlying24 Zbw (h:=yL [_, _, _, _, _] Zja hc5 0 (h:=xAl [_, _, _, _, _] Zd6 (h:=fun b6 => xS [_, _, _, _, _] 1 [_, _, _, _, _] Zbw (h:=Zv [_, _] rfl (Ze (xM (h:=xL [_, _, _, _, _] Zja 1 (h:=Zo (Zaa rfl rfl Zyu rfl (Zky _ _ _ _ w _ hg5 hm5) ?_)))))))))
  rintro _ B7 _ hle7 ⟨rfl, l7, a7, c7, l7b, a7b, c7b, rfl, rfl, hs7, hs7b⟩
  refine xBs [(0, _)] [_, _, _, _, _] Tryz.underlying24 Zbw Zd6 (h:=fun b8 => Zo (Zte (R := (Zbn 162 196)) (⟨w.owner, w.name, w.grants, w.next, w.mail⟩) 0 [2, 3] rfl rfl hv rfl rfl rfl ZiR Zi9 rfl rfl (ZaM.box 4 rfl) rfl rfl (l7 ++ l7b) (by simp) (⟨_, _, _, _, _, _, rfl, rfl, (hs7.anyK ZL.any), (hs7b.anyK ZM.any), by first | assumption | omega | (simp; done) | (simp; omega), by first | assumption | omega | (simp; done) | (simp; omega), by first | assumption | omega | (simp; done) | (simp; omega), by first | assumption | omega | (simp; done) | (simp; omega)⟩) (by first | omega | (simp; done) | (simp; omega)) (fun l9 p9 c9 hd9 => ?_)))
  refine xA (h:=Zz (Zf (Ze (xD (h:=xM (h:=?_))))))
  exact ZB ⟨g.k + 1, 0, l9, p9, c9, (g.xs ++ [⟨w.owner, w.name, w.grants, w.next, w.mail⟩])⟩ [0] (by first | omega | (simp only []; omega)) ⟨rfl, by simp only []; omega, by simp only []; rw [Zaw hw, hxs], by simp; omega, hd9⟩ ⟨rfl, rfl, rfl, rfl, rfl, rfl, trivial⟩ rfl
  try simp only [sQ, ne_eq] at g1
  have hxe : g.xs = xs := by rw [hxs]; exact List.take_of_length_le (by omega)
  refine ZT (Zah (ZZ (ZH (Zf (Za (xM (h:=xA (h:=Zh ?_))))))))
  exact Zad .ret (.inl rfl) [_] [0] rfl ⟨rfl, trivial⟩ ⟨rfl, _, _, _, rfl, by rw [← hxe]; rfl, hxe ▸ hv⟩

set_option maxHeartbeats 400000 in
theorem ZlB (q1 q2 q3:Option Addr) (c1 c2 c3:Nat) (x:DHost) (B:Kn) (hu:SlK B q1 c1 3 Zg x.users) (hf:SlK B q2 c2 5 Zb x.folders) (hi:SlK B q3 c3 4 Zi x.queue.items):ZA (pj J) 72 [.agg #[str x.domain,.slice q1 x.users.length c1,.slice q2 x.folders.length c2,.int .i64 x.queue.next,.slice q3 x.queue.items.length c3]] B [] (fun v B' Ls=>∃q1 c1 q2 c2 q3 c3 l1 l2 l3,Ls=[l1,l2,l3]∧v = .agg #[str x.domain,.slice q1 x.users.length c1,.slice q2 x.folders.length c2,.int .i64 x.queue.next,.slice q3 x.queue.items.length c3]∧Z2 Kn.none l1 q1 c1 91 3 Zg x.users∧Zc1 l2 q2 c2 70 5 (Zbn 162 196) x.folders∧Zc1 l3 q3 c3 88 4 (ZcC 9) x.queue.items):=by
 refine Zc 16 Tryz.func72 rfl rfl rfl (Nat.le_of_ble_eq_true rfl) ?_
 have hun:=hu.len
 have hfn:=hf.len
 have hin:=hi.len
 refine Za (xBx [_,_,_,_,_] (h:=fun b1=>xAl [_,_,_,_,_] ZaW (h:=fun b2=>Zv [_,_] rfl (Zl (Z8 (keeps _ [0] _) mo kr ⟨Kn.le.refl _,Zam.refl _ _⟩ (fun _ _=>?_))))))
 refine aW 0 rfl ZiK (h:=aT 1 rfl (ZG fun D B L hI=>Zn rfl rfl lk9 rfl (atL 0 (hI.2.1.trans rfl) rfl rfl) r4) (h:=aW 3 rfl ZbD (h:=aT 4 rfl (ZG fun D B L hI=>Zn rfl rfl ZhC rfl (atL 0 (hI.2.1.trans rfl) rfl rfl) r4) (h:=aW 6 rfl Z9 (h:=aT 7 rfl (ZG fun D B L hI=>Zn rfl rfl ZcN rfl (atL 0 (hI.2.1.trans rfl) rfl rfl) r4) (h:=aW 9 rfl Zbg (h:=aT 10 rfl (ZG fun D B L hI=>Z6 [_,_] rfl rfl Zb9 rfl (Zaf 0 (hI.2.1.trans rfl) rfl rfl) r4) (h:=Zu 2 kr rfl kr (Zx (parts:=[]) [] rfl rfl Tryz.underlying23 ZeK ZgA rfl rfl rfl rfl rfl (fun b3=>?_))))))))))
 refine ⟨⟨Kn.le.refl _,t1⟩,(Zu 5 kr rfl kr (ZaN (R:=Zg) 2 rfl (Z2.lit0 (R:=Zg)) rfl rfl rfl ZnP Znl rfl rfl rfl hu.rows Zg.one rfl om (fun l4 p4 c4 hv4=>?_)))⟩
 refine ⟨⟨Kn.le.refl _,t1⟩,(Zu 8 kr rfl kr (Zaa rfl rfl Zxp rfl (ZiI _ _ x.folders _ hf) ?_))⟩
 rintro _ B5 _ hle5 ⟨rfl,l5,a5,c5,rfl,rfl,hs5⟩
 refine ⟨⟨Kn.le.refl _,t1⟩,(Zu 11 kr rfl kr (Zaa rfl rfl ZxR rfl (Zha _ _ x.queue _ hi) ?_))⟩
 rintro _ B6 _ hle6 ⟨l6,q6,c6,rfl,rfl,hd6⟩
 replace hu:=hu.mono Zg.mono hle6
 replace hf:=hf.mono Zb.mono hle6
 replace hi:=hi.mono Zi.mono hle6
 replace hv4:=hv4.mono Zg.mono hle6
 refine ⟨⟨hle6,t1⟩,(aT 12 rfl (ZG fun D B L hI=>ZaH (parts:=[(0,_),(1,_),(2,_),(3,_)]) [_,_,_,_,_] [_,_,_,_,_] rfl rfl ZdS ZaW rfl rfl rfl r4) (h:=ZV 13 kr rfl kr kr kr (ZN [_,_,_,_,_] 1 [_,_,_,_,_] rfl rfl Zav rfl rfl rfl rfl rfl rfl rfl rfl ?_)))⟩
 refine Zf (Zv [_,_,_,_,_] rfl (Zh ?_))
 exact Zad .ret (.inl rfl) [_] [2,3,4] rfl ⟨⟨_,rfl,.inr ⟨[_,_,_,_,_],Z1,Zaf 1 rfl rfl rfl,rfl⟩⟩,trivial⟩ ⟨_,_,_,_,_,_,_,_,_,rfl,rfl,hv4.anyK Zg.any,hs5,hd6⟩

set_option maxHeartbeats 400000 in
theorem Zqe (q1 q2 q3:Option Addr) (c1 c2 c3:Nat) (x:DHost) (ar:Bool) (f:FuncId) (cap:Array Value) (R:DHost) (k:Nat) (hk:k<5) (he:enters Tryz.prog f=true) (hJ:Joins Tryz.prog J) (hd:x.domain.length≤2000000) (a:Nat→Addr) (B:Kn) (hE:ErrsB 262 [0,2,3,1] B a) (hu:SlK B q1 c1 3 Zg x.users) (hf:SlK B q2 c2 5 Zb x.folders) (hi:SlK B q3 c3 4 Zi x.queue.items) (hw:ar=true→ZJ x=true→∀(B2:Kn) (b:Nat) (q1 q2 q3:Option Addr) (c1 c2 c3:Nat) (l1 l2 l3:Cells),B.le B2→Z2 Kn.none l1 q1 c1 91 3 Zg x.users→Zc1 l2 q2 c2 70 5 (Zbn 162 196) x.folders→Zc1 l3 q3 c3 88 4 (ZcC 9) x.queue.items→ZA (pj J) f (ptr ⟨b,0,none⟩ :: cap.toList) B2 [ZaE b [str x.domain,.slice q1 x.users.length c1,.slice q2 x.folders.length c2,.int .i64 x.queue.next,.slice q3 x.queue.items.length c3] 29,l1,l2,l3] (fun v B' Ls=>∃q1' c1' q2' c2' q3' c3' l1' l2' l3',Ls=[ZaE b [str R.domain,.slice q1' R.users.length c1',.slice q2' R.folders.length c2',.int .i64 R.queue.next,.slice q3' R.queue.items.length c3'] 29,l1',l2',l3']∧v=errv 262 a (k)∧Z2 Kn.none l1' q1' c1' 91 3 Zg R.users∧Zc1 l2' q2' c2' 70 5 (Zbn 162 196) R.folders∧Zc1 l3' q3' c3' 88 4 (ZcC 9) R.queue.items)):ZA (pj J) 31 [.agg #[str x.domain,.slice q1 x.users.length c1,.slice q2 x.folders.length c2,.int .i64 x.queue.next,.slice q3 x.queue.items.length c3],.bool ar,.func (.func f) #[] cap] B [] (fun v B' Ls=>∃(Y:DHost) (d:Int),∃q1 c1 q2 c2 q3 c3 l1 l2 l3,(Y,d)=(if ar=true∧ZJ x=true then (R,(k:Int)) else (ZaQ,5))∧Ls=[l1,l2,l3]∧v = .tuple #[.agg #[str Y.domain,.slice q1 Y.users.length c1,.slice q2 Y.folders.length c2,.int .i64 Y.queue.next,.slice q3 Y.queue.items.length c3],.int .i64 d]∧Z2 Kn.none l1 q1 c1 91 3 Zg Y.users∧Zc1 l2 q2 c2 70 5 (Zbn 162 196) Y.folders∧Zc1 l3 q3 c3 88 4 (ZcC 9) Y.queue.items):=by
 refine Zc 25 Tryz.func31 rfl rfl rfl (Nat.le_of_ble_eq_true rfl) ?_
 have hun:=hu.len
 have hfn:=hf.len
 have hin:=hi.len
 refine Za ?_
 refine xBx [_,_,_,_,_] (h:=fun b1=>?_)
 refine xAl [_,_,_,_,_] ZaW (h:=fun b2=>?_)
 refine xA (h:=?_)
 refine Zv [_,_] rfl ?_
 refine Zl ?_
 refine Za ?_
 refine xM (h:=?_)
 refine xN (h:=?_)
 refine xM (h:=?_)
 refine Zt (d:=12) rfl (fun g1=>?_) (fun g1=>?_)
 try simp only [sQ,ne_eq] at g1
 refine xP (h:=?_)
 refine xP (h:=?_)
 refine xP (h:=?_)
 refine xT (h:=?_)
 refine ZuS [[],[],[]] rfl ?_
 refine Zd (t:=true) rfl (fun _=>?_) (fun h=>Bool.noConfusion h)
 refine Za ?_
 refine xB [] [_,_,_,_,_] [_,_,_,_,_] ZdS ZaW (h:=?_)
 refine xS [_,_,_,_,_] 1 [_,_,_,_,_] Zav (h:=?_)
 refine xA (h:=?_)
 refine Zv [_,_,_,_,_] rfl ?_
 refine Zh (Zs ?_)
 exact Zad .ret (.inl rfl) [_,_] [2,3,4] rfl ⟨⟨_,rfl,.inr ⟨[_,_,_,_,_],Z1,Zaf 1 rfl rfl rfl,rfl⟩⟩,rfl,trivial⟩ ⟨ZaQ,5,none,0,none,0,none,0,[],[],[],by rw [if_neg (by simp [g1])],rfl,rfl,Z2.nil,Zc1.nil,Zc1.nil⟩
 try simp only [sQ,ne_eq] at g1
 refine xL [_,_,_,_,_] Z1 0 (h:=?_)
 refine Zo (ZaG rfl rfl ZxU rfl (Ziy hJ _ _ _ _ _ _ x om2 _ hu hf hi) ?_)
 intro vv Bv hlev
 rintro rfl
 replace hu:=hu.mono Zg.mono hlev
 replace hf:=hf.mono Zb.mono hlev
 replace hi:=hi.mono Zi.mono hlev
 replace hE:=hE.mono hlev
 refine xN (h:=?_)
 refine xF (h:=?_)
 refine Zd rfl (fun g2=>?_) (fun g2=>?_)
 try simp only [sQ,ne_eq] at g2
 refine ZuS [[],[],[]] rfl ?_
 refine Za ?_
 refine xB [] [_,_,_,_,_] [_,_,_,_,_] ZdS ZaW (h:=?_)
 refine xS [_,_,_,_,_] 1 [_,_,_,_,_] Zav (h:=?_)
 refine xA (h:=?_)
 refine Zv [_,_,_,_,_] rfl ?_
 refine Zh (Zs ?_)
 exact Zad .ret (.inl rfl) [_,_] [2,3,4] rfl ⟨⟨_,rfl,.inr ⟨[_,_,_,_,_],Z1,Zaf 1 rfl rfl rfl,rfl⟩⟩,rfl,trivial⟩ ⟨ZaQ,5,none,0,none,0,none,0,[],[],[],by rw [if_neg (by simp [g2])],rfl,rfl,Z2.nil,Zc1.nil,Zc1.nil⟩
 try simp only [sQ,ne_eq] at g2
 refine Zj ?_
 refine Zf ?_
 refine Za ?_
 refine xL [_,_,_,_,_] Z1 0 (h:=?_)
 refine Zo (Zaa rfl rfl Zyr rfl (ZlB _ _ _ _ _ _ x _ hu hf hi) ?_)
 rintro _ Bc _ hlec ⟨q1c,c1c,q2c,c2c,q3c,c3c,l1c,l2c,l3c,rfl,rfl,huc,hfc,hic⟩
 replace hu:=hu.mono Zg.mono hlec
 replace hf:=hf.mono Zb.mono hlec
 replace hi:=hi.mono Zi.mono hlec
 replace hE:=hE.mono hlec
 refine xAl [_,_,_,_,_] ZaW (h:=fun b5=>?_)
 refine xS [_,_,_,_,_] 5 [_,_,_,_,_] Zav (h:=?_)
 refine Zv [_,_,_,_,_,_] rfl ?_
 refine Za ?_
 refine xM (h:=?_)
 refine Zo (Ztd [5,2,3,4] rfl rfl rfl rfl he rfl rfl (hw (by simpa using g1) (by simpa using g2) _ _ _ _ _ _ _ _ _ _ _ (hlev.trans hlec) huc hfc hic) ?_)
 rintro _ B6 _ hle6 ⟨q16,c16,q26,c26,q36,c36,l16,l26,l36,rfl,rfl,hu6,hf6,hi6⟩
 replace hu:=hu.mono Zg.mono hle6
 replace hf:=hf.mono Zb.mono hle6
 replace hi:=hi.mono Zi.mono hle6
 replace huc:=huc.mono Zg.mono hle6
 replace hE:=hE.mono hle6
 refine xA (h:=?_)
 refine Zv [_,_,_,_,_,_] rfl ?_
 refine Zl ?_
 refine Z8 (keeps _ [5] _) mo kr ⟨Kn.le.refl _,Zam.refl _ _⟩ (fun _ _=>?_)
 refine aT 0 rfl (ZG fun D B L hI=>Z6 [_,_,_,_,_] rfl rfl Z1 rfl (Zaf 5 (hI.2.1.trans rfl) rfl rfl) r4) (h:=?_)
 refine aM 1 rfl (h:=?_)
 refine aT 2 rfl (ZG fun D B L hI=>ZaS rfl rfl ZyK rfl (ZoD k om2 a _ (hE.mono hI.1)) r4) (h:=?_)
 refine Zbb 3 kr rfl kr kr (ZN [_,_,_,_,_] 1 [_,_,_,_,_] rfl rfl Zav rfl rfl rfl rfl rfl rfl rfl rfl ?_)
 refine aA 4 rfl (h:=?_)
 refine ZC kr kr ?_
 refine Zf ?_
 refine Zv [_,_,_,_,_,_] rfl ?_
 refine Zh ?_
 exact Zad .ret (.inl rfl) [_,_] [2,3,4] rfl ⟨⟨_,rfl,.inr ⟨[_,_,_,_,_],Z1,Zaf 1 rfl rfl rfl,rfl⟩⟩,rfl,trivial⟩ ⟨R,k,_,_,_,_,_,_,_,_,_,by rw [if_pos ⟨by simpa using g1,by simpa using g2⟩],rfl,rfl,hu6.anyK Zg.any,hf6,hi6⟩

set_option maxHeartbeats 400000 in
theorem Zu5 (bx:Nat) (qz:Option Addr) (cz:Nat) (z:DLetter) (b:Nat) (q1 q2 q3:Option Addr) (c1 c2 c3:Nat) (x:DHost) (l1 l2 l3:Cells) (h1:z.fr.length≤2000000) (h2:z.text.length≤2000000) (hn1:x.users.length≤2000000) (hn2:x.folders.length≤2000000) (hok:ZJ x=true) (hlz:Zar z=true) (a:Nat→Addr) (B:Kn) (hE:ErrsB 262 [0,2,3,1] B a) (hc0:Za7 B bx 0 [str z.fr,.slice qz z.to_.length cz,str z.text]) (hz:SlK B qz cz 1 Zaz z.to_) (hu:Z2 Kn.none l1 q1 c1 91 3 Zg x.users) (hf:Zc1 l2 q2 c2 70 5 (Zbn 162 196) x.folders) (hi:Zc1 l3 q3 c3 88 4 (ZcC 9) x.queue.items):ZA (pj J) 33 [ptr ⟨b,0,none⟩,ptr ⟨bx,0,none⟩] B [ZaE b [str x.domain,.slice q1 x.users.length c1,.slice q2 x.folders.length c2,.int .i64 x.queue.next,.slice q3 x.queue.items.length c3] 29,l1,l2,l3] (fun v B' Ls=>∃q1' c1' q2' c2' q3' c3' l1' l2' l3',Ls=[ZaE b [str (Znj x z).domain,.slice q1' (Znj x z).users.length c1',.slice q2' (Znj x z).folders.length c2',.int .i64 (Znj x z).queue.next,.slice q3' (Znj x z).queue.items.length c3'] 29,l1',l2',l3']∧v=errv 262 a (ZgE x z)∧Z2 Kn.none l1' q1' c1' 91 3 Zg (Znj x z).users∧Zc1 l2' q2' c2' 70 5 (Zbn 162 196) (Znj x z).folders∧Zc1 l3' q3' c3' 88 4 (ZcC 9) (Znj x z).queue.items):=by
 refine Zc 41 Tryz.func33 rfl rfl rfl (Nat.le_of_ble_eq_true rfl) ?_
 have hzn:=hz.len
 have hql:=ZcW (Zgq hok)
 have hal:=Zfp x.queue z
 have hlt:z.to_.length≤3:=by have h:=hlz;simp only [Zar,Zcu,Bool.and_eq_true,decide_eq_true_eq] at h;omega
 refine Za (xA (h:=Zl (Za (xW Zhk (h:=y1 lk9 hc0 0 (h:=xBs [(0,_)] [_] Tryz.underlying39 sz9 zo9 (h:=fun b1=>xW Zgs (h:=y1 ZfP hc0 1 (h:=Zo (ZaN (R:=Zaz) 4 rfl (Z2.lit (R:=Zaz) (rows:=[[str z.fr]]) (xs:=[z.fr]) (.cons ⟨rfl,h1⟩ .nil) (by intro r hr;simp at hr;subst hr;rfl)) rfl rfl rfl ZnO Znk rfl rfl rfl hz.rows Zaz.one rfl om (fun l2 p2 c2 hv2=>?_)))))))))))
 refine Z5 4 rfl hv2 Zaz.mono om3 (fun B3 hle3 hr3=>?_)
 replace hz:=hz.mono Zaz.mono hle3
 replace hc0:=hc0.mono hle3
 replace hu:=hu.mono Zg.mono hle3
 replace hE:=hE.mono hle3
 have hr3n:=hr3.len
 refine xV Tryz.underlying39 (h:=xM (h:=Zv [_,_,_,_,_] rfl (Zp (ZQ (α:=Nat) [0,1,13,14] (fun k=>[(15,.int .i64 k)]) [] (fun k=>[]) (fun k Bx=>Bx=B3∧k≤([z.fr] ++ z.to_).length∧∀n,n∈([z.fr] ++ z.to_).take k→(Zau x.users n).2=true) (fun k=>([z.fr] ++ z.to_).length - k) 0 t1 rfl (⟨rfl,Nat.zero_le _,by simp⟩) (fun k B4 hle4 hI=>?_)))))
 obtain ⟨rfl,hk,hs⟩:=hI
 refine ZO [(0,_),(1,_),(13,_),(14,_),(15,_)] [_,_,_,_,_] t5 rfl (Za (Zag (h:=Zl (Zd rfl (fun g1=>?_) (fun g1=>?_)))))
 try simp only [sQ,ne_eq] at g1
 refine Zj (Zf (Zl (Zp (Za ?_))))
 obtain ⟨n,hn⟩:=Zaj (xs:=([z.fr] ++ z.to_)) (i:=k) om
 obtain ⟨bb6,oo6,rfl⟩:=hr3.base hn
 obtain ⟨_,⟨rfl,hb7⟩,hc7⟩:=hr3.elem hn
 refine xIx Tryz.underlying39 sz9 (h:=y1 lk9 hc7 0 (h:=xA (h:=Za (xM (h:=xM (h:=Zo (Zf7 [0,1,2,3] rfl rfl rfl rfl rfl Zv3 rfl (ZaL.borrowL fun hm8=>ZhE _ _ _ _ _ _ _ _ x n om2 _ (ZyN 0 rfl hm8) (hu.lendK Zg.any 1 rfl hm8 om)) ?_)))))))
 refine xN (h:=Zd rfl (fun g2=>?_) (fun g2=>?_))
 try simp only [sQ,ne_eq] at g2
 refine Za (Zo (Zn rfl rfl ZsU rfl ((hE.row 0 (by decide)) _ 0 _ rfl) ?_))
 refine xA (h:=Zh (ZE (Zs (Z0 (ZE (Zs ?_))))))
 have hse:ZgE x z=1:=Zpv hn (by simpa using g2)
 exact Zad .ret (.inl rfl) [_] [0,1,2,3] rfl t1 (by rw [ZgD hse,hse];exact ⟨_,_,_,_,_,_,_,_,_,rfl,rfl,hu,hf,hi⟩)
 try simp only [sQ,ne_eq] at g2
 refine Zj (Zz (Zf (Ze (xD (h:=xM (h:=?_))))))
 exact ZB (k+1) [0,1,2,3,4] so2 ⟨rfl,oz,Zbi (p:=fun n=>(Zau x.users n).2=true) hn hs (by simpa using g2)⟩ t5 rfl
 try simp only [sQ,ne_eq] at g1
 have hall:=Zbq oz hs
 refine ZT (Zah (ZZ (ZH (Zf (Zl (Z8 (keeps _ [] _) mo kr ⟨Kn.le.refl _,Zam.refl _ _⟩ (fun _ _=>?_)))))))
 refine aM 0 rfl (h:=aNc 1 rfl (h:=aW 2 rfl Zbg (h:=aT 4 rfl (ZG fun D B L hI=>Z6 [_,_,_] rfl rfl Zmb rfl (Zid (hc0.mono hI.1) 0 rfl rfl) r4) (h:=Zaq [3,9] kr kr kr ⟨?_,?_⟩))))
 refine (Z6 [_,_] rfl rfl Zb9 rfl (Zaf 0 rfl rfl rfl) (⟨⟨Kn.le.refl _,trivial⟩,(Zaq [5,9] kr kr kr ⟨?_,?_⟩)⟩))
 refine (Z4 [3] rfl rfl rfl rfl Zv4 rfl (ZA.borrowK 1 fun hm9=>Zgm _ _ x.queue _ _ z _ (hi.lendK ZcC.known Zi.mono 0 rfl hm9 om) (hz.mono Zaz.mono (Kn.le_add _ _)) (by first | assumption | omega | (simp;omega)) (by first | assumption | omega | (simp;omega))) ?_)
 rintro _ B9 _ hle9 ⟨BB9,_,rfl,hB9,_,hm9,_,l9,a9,c9,rfl,rfl,hd9⟩
 replace hz:=hz.mono Zaz.mono hle9
 replace hc0:=hc0.mono hle9
 replace hr3:=hr3.mono Zaz.mono hle9
 replace hu:=hu.mono Zg.mono hle9
 replace hE:=hE.mono hle9
 refine ⟨⟨hle9,trivial⟩,(aM 6 rfl (h:=aE 7 rfl (h:=aE 8 rfl (h:=Zu 9 kr rfl kr (Zao (l:=[_,_]) rfl rfl Zfr rfl (fun b10=>?_))))))⟩
 refine ⟨⟨hle9,trivial⟩,(Zbb 10 kr rfl kr kr (ZN [_,_] 6 [_,_] rfl rfl Zdo rfl rfl rfl rfl rfl rfl rfl rfl ?_))⟩
 refine aA 11 rfl (h:=ZC kr kr ?_)
 refine Zf (Zv [_,_,_,_,_,_,_] rfl (Zl (Za (xM (h:=xN (h:=Zd rfl (fun g3=>?_) (fun g3=>?_)))))))
 try simp only [sQ,ne_eq] at g3
 refine Za (Zo (Zn rfl rfl ZsU rfl ((hE.row 3 (by decide)) _ 0 _ rfl) ?_))
 refine xA (h:=Zh (Zs ?_))
 have hse:ZgE x z=4:=Zh3 hall (by simpa using g3)
 exact Zad .ret (.inl rfl) [_] [0,1,2,3] rfl t1 (by rw [ZgD hse,hse];exact ⟨_,_,_,_,_,_,_,_,_,rfl,rfl,hu,hf,hi⟩)
 try simp only [sQ,ne_eq] at g3
 refine Zj (Zf (Za (xM (h:=xL [_,_] Zb9 6 (h:=xNc (h:=xW Zbg (h:=xS [_,_] 0 [_,_,_,_,_] Zdo (h:=Zv [_,_,_,_,_,_,_] rfl (Za (xA (h:=Zh ?_)))))))))))
 have hse:ZgE x z=0:=Zh4 hall (by simpa using g3)
 exact Zad .ret (.inl rfl) [_] [0,1,2,5] rfl t1 (by rw [Zht hse,hse];exact ⟨_,_,_,_,_,_,_,_,_,rfl,rfl,hu,hf,hd9⟩)
 refine (Zao (l:=[_,_]) rfl rfl Zfr rfl (fun b11=>⟨⟨Kn.le.refl _,trivial⟩,(Zu 5 kr rfl kr (Z4 [3] rfl rfl rfl rfl Zv4 rfl (ZA.borrowK 1 fun hm12=>Zgm _ _ x.queue _ _ z _ (hi.lendK ZcC.known Zi.mono 0 rfl hm12 om) (hz.mono Zaz.mono (Kn.le_add _ _)) (by first | assumption | omega | (simp;omega)) (by first | assumption | omega | (simp;omega))) ?_))⟩))
 rintro _ B12 _ hle12 ⟨BB12,_,rfl,hB12,_,hm12,_,l12,a12,c12,rfl,rfl,hd12⟩
 replace hz:=hz.mono Zaz.mono hle12
 replace hc0:=hc0.mono hle12
 replace hr3:=hr3.mono Zaz.mono hle12
 replace hu:=hu.mono Zg.mono hle12
 replace hE:=hE.mono hle12
 refine ⟨⟨hle12,trivial⟩,(aM 6 rfl (h:=aE 7 rfl (h:=aE 8 rfl (h:=Zbb 10 kr rfl kr kr (ZN [_,_] 5 [_,_] rfl rfl Zdo rfl rfl rfl rfl rfl rfl rfl rfl ?_)))))⟩
 refine aA 11 rfl (h:=ZC kr kr ?_)
 refine Zf (Zv [_,_,_,_,_,_,_] rfl (Zl (Za (xM (h:=xN (h:=Zd rfl (fun g3=>?_) (fun g3=>?_)))))))
 try simp only [sQ,ne_eq] at g3
 refine Za (Zo (Zn rfl rfl ZsU rfl ((hE.row 3 (by decide)) _ 0 _ rfl) ?_))
 refine xA (h:=Zh (Zs ?_))
 have hse:ZgE x z=4:=Zh3 hall (by simpa using g3)
 exact Zad .ret (.inl rfl) [_] [0,1,2,3] rfl t1 (by rw [ZgD hse,hse];exact ⟨_,_,_,_,_,_,_,_,_,rfl,rfl,hu,hf,hi⟩)
 try simp only [sQ,ne_eq] at g3
 refine Zj (Zf (Za (xM (h:=xL [_,_] Zb9 5 (h:=xNc (h:=xW Zbg (h:=xS [_,_] 0 [_,_,_,_,_] Zdo (h:=Zv [_,_,_,_,_,_,_] rfl (Za (xA (h:=Zh ?_)))))))))))
 have hse:ZgE x z=0:=Zh4 hall (by simpa using g3)
 exact Zad .ret (.inl rfl) [_] [0,1,2,6] rfl t1 (by rw [Zht hse,hse];exact ⟨_,_,_,_,_,_,_,_,_,rfl,rfl,hu,hf,hd12⟩)
 refine (Zao (l:=[_,_]) rfl rfl Zfr rfl (fun b13=>⟨⟨Kn.le.refl _,trivial⟩,(Zu 3 kr rfl kr (Z6 [_,_] rfl rfl Zb9 rfl (Zaf 0 rfl rfl rfl) ?_))⟩))
 refine ⟨⟨Kn.le.refl _,trivial⟩,(Zu 5 kr rfl kr (Z4 [3] rfl rfl rfl rfl Zv4 rfl (ZA.borrowK 1 fun hm14=>Zgm _ _ x.queue _ _ z _ (hi.lendK ZcC.known Zi.mono 0 rfl hm14 om) (hz.mono Zaz.mono (Kn.le_add _ _)) (by first | assumption | omega | (simp;omega)) (by first | assumption | omega | (simp;omega))) ?_))⟩
 rintro _ B14 _ hle14 ⟨BB14,_,rfl,hB14,_,hm14,_,l14,a14,c14,rfl,rfl,hd14⟩
 replace hz:=hz.mono Zaz.mono hle14
 replace hc0:=hc0.mono hle14
 replace hr3:=hr3.mono Zaz.mono hle14
 replace hu:=hu.mono Zg.mono hle14
 replace hE:=hE.mono hle14
 refine ⟨⟨hle14,trivial⟩,(aM 6 rfl (h:=aE 7 rfl (h:=aE 8 rfl (h:=Zbb 10 kr rfl kr kr (ZN [_,_] 5 [_,_] rfl rfl Zdo rfl rfl rfl rfl rfl rfl rfl rfl ?_)))))⟩
 refine aA 11 rfl (h:=ZC kr kr ?_)
 refine Zf (Zv [_,_,_,_,_,_,_] rfl (Zl (Za (xM (h:=xN (h:=Zd rfl (fun g3=>?_) (fun g3=>?_)))))))
 try simp only [sQ,ne_eq] at g3
 refine Za (Zo (Zn rfl rfl ZsU rfl ((hE.row 3 (by decide)) _ 0 _ rfl) ?_))
 refine xA (h:=Zh (Zs ?_))
 have hse:ZgE x z=4:=Zh3 hall (by simpa using g3)
 exact Zad .ret (.inl rfl) [_] [0,1,2,3] rfl t1 (by rw [ZgD hse,hse];exact ⟨_,_,_,_,_,_,_,_,_,rfl,rfl,hu,hf,hi⟩)
 try simp only [sQ,ne_eq] at g3
 refine Zj (Zf (Za (xM (h:=xL [_,_] Zb9 5 (h:=xNc (h:=xW Zbg (h:=xS [_,_] 0 [_,_,_,_,_] Zdo (h:=Zv [_,_,_,_,_,_,_] rfl (Za (xA (h:=Zh ?_)))))))))))
 have hse:ZgE x z=0:=Zh4 hall (by simpa using g3)
 exact Zad .ret (.inl rfl) [_] [0,1,2,6] rfl t1 (by rw [Zht hse,hse];exact ⟨_,_,_,_,_,_,_,_,_,rfl,rfl,hu,hf,hd14⟩)

set_option maxHeartbeats 400000 in
theorem Zgp (hJ:Joins Tryz.prog J) (q1 q2 q3:Option Addr) (c1 c2 c3:Nat) (x:DHost) (qz:Option Addr) (cz:Nat) (z:DLetter) (h1:z.fr.length≤2000000) (h2:z.text.length≤2000000) (hd:x.domain.length≤2000000) (a:Nat→Addr) (B:Kn) (hE:ErrsB 262 [0,2,3,1] B a) (hu:SlK B q1 c1 3 Zg x.users) (hf:SlK B q2 c2 5 Zb x.folders) (hi:SlK B q3 c3 4 Zi x.queue.items) (hz:SlK B qz cz 1 Zaz z.to_):ZA (pj J) 12 [.agg #[str x.domain,.slice q1 x.users.length c1,.slice q2 x.folders.length c2,.int .i64 x.queue.next,.slice q3 x.queue.items.length c3],.agg #[str z.fr,.slice qz z.to_.length cz,str z.text]] B [] (fun v B' Ls=>∃q1 c1 q2 c2 q3 c3 l1 l2 l3,Ls=[l1,l2,l3]∧v = .tuple #[.agg #[str (ZW x z).1.domain,.slice q1 (ZW x z).1.users.length c1,.slice q2 (ZW x z).1.folders.length c2,.int .i64 (ZW x z).1.queue.next,.slice q3 (ZW x z).1.queue.items.length c3],.int .i64 (ZW x z).2]∧Z2 Kn.none l1 q1 c1 91 3 Zg (ZW x z).1.users∧Zc1 l2 q2 c2 70 5 (Zbn 162 196) (ZW x z).1.folders∧Zc1 l3 q3 c3 88 4 (ZcC 9) (ZW x z).1.queue.items):=by
 refine Zc 13 Tryz.func12 rfl rfl rfl (Nat.le_of_ble_eq_true rfl) ?_
 have hun:=hu.len
 have hfn:=hf.len
 have hin:=hi.len
 have hzn:=hz.len
 refine Za (xBx [_,_,_,_,_] (h:=fun b1=>xBx [_,_,_] (h:=fun b2=>xAl [_,_,_,_,_] ZaW (h:=fun b3=>xA (h:=Zv [_,_,_] rfl (Zrh 1 rfl (fun B4 hle4 hpm4=>?_)))))))
 have hc4:=ZcV hpm4
 replace hu:=hu.mono Zg.mono hle4
 replace hf:=hf.mono Zb.mono hle4
 replace hi:=hi.mono Zi.mono hle4
 replace hz:=hz.mono Zaz.mono hle4
 replace hE:=hE.mono hle4
 refine Zl (Z8 (keeps _ [0] _) mo kr ⟨Kn.le.refl _,Zam.refl _ _⟩ (fun _ _=>?_))
 refine aT 0 rfl (ZG fun D B L hI=>Z6 [_,_,_,_,_] rfl rfl Z1 rfl (Zaf 0 (hI.2.1.trans rfl) rfl rfl) r4) (h:=aT 1 rfl (ZG fun D B L hI=>Z6 [_,_,_] rfl rfl Zmb rfl (Zid (hc4.mono hI.1) 0 rfl rfl) r4) (h:=aT 2 rfl (ZG fun D B L hI=>ZaS rfl rfl ZwL rfl (Ze4 _ _ z _ (hz.mono Zaz.mono hI.1) oa oa) r4) (h:=?_)))
 refine Zu 3 kr rfl kr (Zd9 (xs:=[]) (ys:=[_]) rfl rfl rfl rfl ?_)
 refine ⟨⟨Kn.le.refl _,t1⟩,(Zu 4 kr rfl kr (Zaa rfl rfl ZyJ rfl (Zqe _ _ _ _ _ _ x (Zar z) 33 _ (Znj x z) (ZgE x z) (Ztl x z) ZyI hJ hd a _ hE hu hf hi (fun hlz hok B2 b q1 q2 q3 c1 c2 c3 l1 l2 l3 hle k1 k2 k3=>Zu5 _ _ _ z b q1 q2 q3 c1 c2 c3 x l1 l2 l3 h1 h2 oz oz hok hlz a B2 (hE.mono hle) (hc4.mono hle) (hz.mono Zaz.mono hle) k1 k2 k3)) ?_))⟩
 rintro _ B6 _ hle6 ⟨Y6,d6,q16,c16,q26,c26,q36,c36,l16,l26,l36,hYd6,rfl,rfl,hu6,hf6,hi6⟩
 replace hu:=hu.mono Zg.mono hle6
 replace hf:=hf.mono Zb.mono hle6
 replace hi:=hi.mono Zi.mono hle6
 replace hz:=hz.mono Zaz.mono hle6
 replace hc4:=hc4.mono hle6
 replace hE:=hE.mono hle6
 rw [Zu4] at hYd6
 refine ⟨⟨hle6,t1⟩,(aE 5 rfl (h:=aE 6 rfl (h:=Zbb 7 kr rfl kr kr (ZN [_,_,_,_,_] 2 [_,_,_,_,_] rfl rfl Zav rfl rfl rfl rfl rfl rfl rfl rfl ?_))))⟩
 refine aA 8 rfl (h:=ZC kr kr ?_)
 refine Zf (Zv [_,_,_,_,_,_] rfl (Zh ?_))
 have e1:=congrArg Prod.fst hYd6
 have e2:=congrArg Prod.snd hYd6
 dsimp only at e1 e2
 subst e1 e2
 exact Zad .ret (.inl rfl) [_,_] [3,4,5] rfl ⟨⟨_,rfl,.inr ⟨[_,_,_,_,_],Z1,Zaf 2 rfl rfl rfl,rfl⟩⟩,rfl,trivial⟩ ⟨_,_,_,_,_,_,_,_,_,rfl,rfl,hu6.anyK Zg.any,hf6,hi6⟩

set_option maxHeartbeats 400000 in
theorem ZjW (q:Option Addr) (m cp:Nat) (hmc:m≤cp) (B:Kn) (hb:Zat B q m):ZA (pj J) 11 [.slice q m cp] B [] (fun v B' Ls=>Ls=[]∧∃(x:DHost) (p1 p2 p3:Option Addr) (d1 d2 d3:Nat) (qx:Option Addr) (cx:Nat) (z:DLetter),v = .tuple #[.agg #[str x.domain,.slice p1 x.users.length d1,.slice p2 x.folders.length d2,.int .i64 x.queue.next,.slice p3 x.queue.items.length d3],.agg #[str z.fr,.slice qx z.to_.length cx,str z.text]]∧SlK B' p1 d1 3 Zg x.users∧SlK B' p2 d2 5 Zb x.folders∧SlK B' p3 d3 4 Zi x.queue.items∧x.domain.length≤2000000∧SlK B' qx cx 1 Zaz z.to_∧z.fr.length≤2000000∧z.text.length≤2000000):=by
 refine Zc 13 Tryz.func11 rfl rfl rfl (Nat.le_of_ble_eq_true rfl) ?_
 refine Za (xAl [_,_,_,_,_] ZaW (h:=fun b1=>xAl [_,_,_] Zrd (h:=fun b2=>Zv [_,_] rfl (Za (xM (h:=Zo (ZsJ rfl rfl ZyM rfl (ZrR _ _ _ oz _ (oy)) ?_)))))))
 rintro _ _ ⟨bop,qop,mop,cpop,rfl,rfl,hm,hbm⟩
 refine xA (h:=Zv [_,_,_] rfl (Za (xM (h:=Zo (Z4 [2] rfl rfl rfl rfl ZyL rfl (ZrO _ _ _ _ _ oz hm _ hbm) ?_)))))
 rintro _ Bh _ hleh ⟨xh,p1h,p2h,p3h,d1h,d2h,d3h,kh,rfl,huh,hfh,hih,hdh,hkh,rfl⟩
 replace hbm:=hbm.mono hleh
 have huhn:=huh.len
 have hfhn:=hfh.len
 have hihn:=hih.len
 refine xAl [_,_,_,_,_] ZaW (h:=fun b5=>xS [_,_,_,_,_] 3 [_,_,_,_,_] Zav (h:=Zv [_,_,_,_] rfl (Zl (Z8 (keeps _ [3] _) mo kr ⟨Kn.le.refl _,Zam.refl _ _⟩ (fun _ _=>?_)))))
 refine aT 0 rfl (ZG fun D B L hI=>Z6 [_,_,_,_,_] rfl rfl Z1 rfl (Zaf 3 (hI.2.1.trans rfl) rfl rfl) r4) (h:=aM 1 rfl (h:=Zu 2 kr rfl kr (Z4 [2] rfl rfl rfl rfl ZwM rfl (ZfQ _ _ _ _ _ oz hm _ hbm) ?_)))
 rintro _ Bw _ hlew ⟨qxw,cxw,xw,pw,rfl,htw,hfw,hww,htnw,hpw,rfl⟩
 replace huh:=huh.mono Zg.mono hlew
 replace hfh:=hfh.mono Zb.mono hlew
 replace hih:=hih.mono Zi.mono hlew
 replace hbm:=hbm.mono hlew
 refine ⟨⟨hlew,t1⟩,(Zbb 3 kr rfl kr kr (ZN [_,_,_,_,_] 0 [_,_,_,_,_] rfl rfl Zav rfl rfl rfl rfl rfl rfl rfl rfl ?_))⟩
 refine ZV 4 kr rfl kr kr kr (ZN [_,_,_] 1 [_,_,_] rfl rfl Zuv rfl rfl rfl rfl rfl rfl rfl rfl ?_)
 refine Zf (Zv [_,_,_,_] rfl (Zh ?_))
 exact Zad .ret (.inl rfl) [_,_] [] rfl ⟨⟨_,rfl,.inr ⟨[_,_,_,_,_],Z1,Zaf 0 rfl rfl rfl,rfl⟩⟩,⟨_,rfl,.inr ⟨[_,_,_],Zmb,Zaf 1 rfl rfl rfl,rfl⟩⟩,trivial⟩ ⟨rfl,xh,_,_,_,_,_,_,_,_,xw,rfl,huh,hfh,hih,hdh,htw,oz,oz⟩

set_option maxHeartbeats 6400000 in
theorem ZoN (q:Option Addr) (m cp:Nat) (hmc:m≤cp) (B:Kn) (hb:Zat B q m) (a:Nat→Addr) (hE:ErrsB 262 [0,2,3,1] B a) :∃code,Tryz.f4.body=some code∧wpS (pj (Zma Tryz.prog)) 57 code (Zi3 (pj (Zma Tryz.prog)) [.tmp 2] (fun v B' Ls=>v = .bool true)) (ZdE [.slice q m cp] 0) [] B []:=by
 have hJ:=Zis Tryz.prog
 refine ⟨_,rfl,(Za (xA (h:=Zl (Za (xM (h:=xV Tryz.underlying22 (h:=ZbM (h:=Zd rfl (fun g0=>?_) (fun g0=>?_)))))))))⟩
 try simp only [sQ,ne_eq] at g0
 refine Za (xA (h:=Zh (Zs ?_)))
 exact ZY .ret (.inl rfl) [_] t1 rfl
 try simp only [sQ,ne_eq] at g0
 refine Zj (Zf (Za (xM (h:=Zo (ZaG rfl rfl ZxY rfl (ZjW _ _ _ oz _ (oy)) ?_)))))
 intro vd Bd hled
 rintro ⟨xd,p1d,p2d,p3d,d1d,d2d,d3d,qxd,cxd,zd,rfl,hud,hfd,hid,hdd,htd,hwd,hyd⟩
 replace hE:=hE.mono hled
 have hudn:=hud.len
 have hfdn:=hfd.len
 have hidn:=hid.len
 have htdn:=htd.len
 refine xM (h:=xE (h:=xE (h:=xAl [_,_,_,_,_] ZaW (h:=fun b2=>xAl [_,_,_] Zrd (h:=fun b3=>xS [_,_,_,_,_] 0 [_,_,_,_,_] Zav (h:=xS [_,_,_] 1 [_,_,_] Zuv (h:=Zv [_,_] rfl (Za (xL [_,_,_,_,_] Z1 0 (h:=xL [_,_,_] Zmb 1 (h:=Zo (Zaa rfl rfl ZxX rfl (Zgp hJ _ _ _ _ _ _ xd _ _ zd om2 om2 om2 a _ hE hud hfd hid htd) ?_))))))))))))
 rintro _ B4 _ hle4 ⟨q14,c14,q24,c24,q34,c34,l14,l24,l34,rfl,rfl,hu4,hf4,hi4⟩
 replace hud:=hud.mono Zg.mono hle4
 replace hfd:=hfd.mono Zb.mono hle4
 replace hid:=hid.mono Zi.mono hle4
 replace htd:=htd.mono Zaz.mono hle4
 replace hE:=hE.mono hle4
 refine xM (h:=xE (h:=xE (h:=xAl [_,_,_,_,_] ZaW (h:=fun b5=>xS [_,_,_,_,_] 5 [_,_,_,_,_] Zav (h:=xA (h:=Zv [_,_,_,_,_,_] rfl (Za (xL [_,_,_,_,_] Z1 0 (h:=xL [_,_,_] Zmb 1 (h:=Zo (ZaG rfl rfl Zxf rfl (ZeU _ _ _ _ _ _ xd _ _ zd om2 _ hud hfd hid htd om2 om2) ?_)))))))))))
 intro v6 B6 hle6
 rintro ⟨p16,d16,p26,d26,p36,d36,rfl,hu6,hf6,hi6,hd6⟩
 replace hud:=hud.mono Zg.mono hle6
 replace hfd:=hfd.mono Zb.mono hle6
 replace hid:=hid.mono Zi.mono hle6
 replace htd:=htd.mono Zaz.mono hle6
 replace hu4:=hu4.mono Zg.mono hle6
 replace hE:=hE.mono hle6
 have hu6n:=hu6.len
 have hf6n:=hf6.len
 have hi6n:=hi6.len
 refine xM (h:=xE (h:=xE (h:=xAl [_,_,_,_,_] ZaW (h:=fun b7=>xS [_,_,_,_,_] 6 [_,_,_,_,_] Zav (h:=xA (h:=Zv [_,_,_,_,_,_,_] rfl (Zl (Za (xM (h:=xM (h:=ZbR (h:=xM (h:=?_)))))))))))))
 refine Zt (d:=32) rfl (fun g1=>by simp at g1) (fun g1=>?_)
 try simp only [sQ,ne_eq] at g1
 refine xL [_,_,_,_,_] Z1 5 (h:=xL [_,_,_,_,_] Z1 6 (h:=Zo (Zf7 [2,3,4] rfl rfl rfl rfl rfl Zui rfl (ZaL.borrowL fun hm8=>ZcK _ _ _ _ _ _ _ _ _ _ _ _ ((ZW xd zd).1) ((ZW xd zd).1) _ (hu4.lendK Zg.any 0 rfl hm8 om) (hf4.lendK Zbn.known Zb.mono 1 rfl hm8 om) (hi4.lendK ZcC.known Zi.mono 2 rfl hm8 om) (hu6.mono Zg.mono (Kn.le_add _ _)) (hf6.mono Zb.mono (Kn.le_add _ _)) (hi6.mono Zi.mono (Kn.le_add _ _))) ?_)))
 refine xN (h:=xF (h:=xM (h:=Zt (d:=38) rfl (fun g2=>by simp at g2) (fun g2=>?_))))
 try simp only [sQ,ne_eq] at g2
 refine xM (h:=ZI (h:=xF (h:=xM (h:=Zt (d:=42) rfl (fun g3=>?_) (fun g3=>?_)))))
 try simp only [sQ,ne_eq] at g3
 refine xP (h:=xP (h:=xT (h:=Zd (t:=true) rfl (fun _=>Za (xM (h:=xM (h:=ZI (h:=xM (h:=Zt (d:=49) rfl (fun g4=>?_) (fun g4=>by simp at g4))))))) (fun h=>Bool.noConfusion h))))
 try simp only [sQ,ne_eq] at g4
 refine xL [_,_,_,_,_] Z1 5 (h:=xL [_,_,_,_,_] Z1 6 (h:=Zo (Zf7 [2,3,4] rfl rfl rfl rfl rfl Zui rfl (ZaL.borrowL fun hm9=>ZcK _ _ _ _ _ _ _ _ _ _ _ _ ((ZW xd zd).1) ((ZW xd zd).1) _ (hu4.lendK Zg.any 0 rfl hm9 om) (hf4.lendK Zbn.known Zb.mono 1 rfl hm9 om) (hi4.lendK ZcC.known Zi.mono 2 rfl hm9 om) (hu6.mono Zg.mono (Kn.le_add _ _)) (hf6.mono Zb.mono (Kn.le_add _ _)) (hi6.mono Zi.mono (Kn.le_add _ _))) ?_)))
 refine xT (h:=xA (h:=Zh (Zs ?_)))
 exact ZY .ret (.inl rfl) [_] t1 (Zk (by simp))
 try simp only [sQ,ne_eq] at g3
 refine xM (h:=ZI (h:=xF (h:=Zd rfl (fun g5=>?_) (fun g5=>?_))))
 try simp only [sQ,ne_eq] at g5
 refine Za (xM (h:=xM (h:=ZI (h:=xM (h:=Zt (d:=49) rfl (fun g6=>?_) (fun g6=>by simp at g6))))))
 try simp only [sQ,ne_eq] at g6
 refine xL [_,_,_,_,_] Z1 5 (h:=xL [_,_,_,_,_] Z1 6 (h:=Zo (Zf7 [2,3,4] rfl rfl rfl rfl rfl Zui rfl (ZaL.borrowL fun hm10=>ZcK _ _ _ _ _ _ _ _ _ _ _ _ ((ZW xd zd).1) ((ZW xd zd).1) _ (hu4.lendK Zg.any 0 rfl hm10 om) (hf4.lendK Zbn.known Zb.mono 1 rfl hm10 om) (hi4.lendK ZcC.known Zi.mono 2 rfl hm10 om) (hu6.mono Zg.mono (Kn.le_add _ _)) (hf6.mono Zb.mono (Kn.le_add _ _)) (hi6.mono Zi.mono (Kn.le_add _ _))) ?_)))
 refine xT (h:=xA (h:=Zh (Zs ?_)))
 exact ZY .ret (.inl rfl) [_] t1 (Zk (by simp))
 try simp only [sQ,ne_eq] at g5
 refine Zj (Zf (Za (xL [_,_,_,_,_] Z1 5 (h:=xL [_,_,_,_,_] Z1 0 (h:=Zo (Zf7 [2,3,4] rfl rfl rfl rfl rfl Zui rfl (ZaL.borrowL fun hm11=>ZcK _ _ _ _ _ _ _ _ _ _ _ _ ((ZW xd zd).1) xd _ (hu4.lendK Zg.any 0 rfl hm11 om) (hf4.lendK Zbn.known Zb.mono 1 rfl hm11 om) (hi4.lendK ZcC.known Zi.mono 2 rfl hm11 om) (hud.mono Zg.mono (Kn.le_add _ _)) (hfd.mono Zb.mono (Kn.le_add _ _)) (hid.mono Zi.mono (Kn.le_add _ _))) ?_))))))
 refine xA (h:=Zh ?_)
 exact ZY .ret (.inl rfl) [_] t1 (Zk (by rw [Zmk (by simpa using g3) (by simpa using g5)];simp))

set_option maxHeartbeats 6400000 in
theorem ZoM (q:Option Addr) (m cp:Nat) (hmc:m≤cp) (B:Kn) (hb:Zat B q m) (a:Nat→Addr) (hE:ErrsB 262 [0,2,3,1] B a) :∃code,Tryz.f5.body=some code∧wpS (pj (Zma Tryz.prog)) 106 code (Zi3 (pj (Zma Tryz.prog)) [.tmp 2] (fun v B' Ls=>v = .bool true)) (ZdE [.slice q m cp] 0) [] B []:=by
 have hJ:=Zis Tryz.prog
 refine ⟨_,rfl,(Za (xA (h:=Zl (Za (xM (h:=xV Tryz.underlying22 (h:=ZbM (h:=Zd rfl (fun g0=>?_) (fun g0=>?_)))))))))⟩
 try simp only [sQ,ne_eq] at g0
 refine Za (xA (h:=Zh (Zs ?_)))
 exact ZY .ret (.inl rfl) [_] t1 rfl
 try simp only [sQ,ne_eq] at g0
 refine Zj (Zf (Za (xM (h:=Zo (ZaG rfl rfl ZxY rfl (ZjW _ _ _ oz _ (oy)) ?_)))))
 intro vd Bd hled
 rintro ⟨xd,p1d,p2d,p3d,d1d,d2d,d3d,qxd,cxd,zd,rfl,hud,hfd,hid,hdd,htd,hwd,hyd⟩
 replace hE:=hE.mono hled
 have hudn:=hud.len
 have hfdn:=hfd.len
 have hidn:=hid.len
 have htdn:=htd.len
 refine xM (h:=xE (h:=xE (h:=xAl [_,_,_,_,_] ZaW (h:=fun b2=>xAl [_,_,_] Zrd (h:=fun b3=>xS [_,_,_,_,_] 0 [_,_,_,_,_] Zav (h:=xS [_,_,_] 1 [_,_,_] Zuv (h:=Zv [_,_] rfl (Za (xL [_,_,_,_,_] Z1 0 (h:=xL [_,_,_] Zmb 1 (h:=Zo (Zaa rfl rfl ZxX rfl (Zgp hJ _ _ _ _ _ _ xd _ _ zd om2 om2 om2 a _ hE hud hfd hid htd) ?_))))))))))))
 rintro _ B4 _ hle4 ⟨q14,c14,q24,c24,q34,c34,l14,l24,l34,rfl,rfl,hu4,hf4,hi4⟩
 replace hud:=hud.mono Zg.mono hle4
 replace hfd:=hfd.mono Zb.mono hle4
 replace hid:=hid.mono Zi.mono hle4
 replace htd:=htd.mono Zaz.mono hle4
 replace hE:=hE.mono hle4
 refine xM (h:=xE (h:=xE (h:=xAl [_,_,_,_,_] ZaW (h:=fun b5=>xS [_,_,_,_,_] 5 [_,_,_,_,_] Zav (h:=xA (h:=Zv [_,_,_,_,_,_] rfl (Za (xL [_,_,_,_,_] Z1 0 (h:=xL [_,_,_] Zmb 1 (h:=Zo (ZaG rfl rfl Zxf rfl (ZeU _ _ _ _ _ _ xd _ _ zd om2 _ hud hfd hid htd om2 om2) ?_)))))))))))
 intro v6 B6 hle6
 rintro ⟨p16,d16,p26,d26,p36,d36,rfl,hu6,hf6,hi6,hd6⟩
 replace hud:=hud.mono Zg.mono hle6
 replace hfd:=hfd.mono Zb.mono hle6
 replace hid:=hid.mono Zi.mono hle6
 replace htd:=htd.mono Zaz.mono hle6
 replace hu4:=hu4.mono Zg.mono hle6
 replace hE:=hE.mono hle6
 have hu6n:=hu6.len
 have hf6n:=hf6.len
 have hi6n:=hi6.len
 refine xM (h:=xE (h:=xE (h:=xAl [_,_,_,_,_] ZaW (h:=fun b7=>xS [_,_,_,_,_] 6 [_,_,_,_,_] Zav (h:=xA (h:=Zv [_,_,_,_,_,_,_] rfl (Zl (Za (xM (h:=xM (h:=ZbR (h:=xM (h:=?_)))))))))))))
 refine Zt (d:=36) rfl (fun g1=>by simp at g1) (fun g1=>?_)
 try simp only [sQ,ne_eq] at g1
 refine xL [_,_,_,_,_] Z1 5 (h:=xL [_,_,_,_,_] Z1 6 (h:=Zo (Zf7 [2,3,4] rfl rfl rfl rfl rfl Zui rfl (ZaL.borrowL fun hm8=>ZcK _ _ _ _ _ _ _ _ _ _ _ _ ((ZW xd zd).1) ((ZW xd zd).1) _ (hu4.lendK Zg.any 0 rfl hm8 om) (hf4.lendK Zbn.known Zb.mono 1 rfl hm8 om) (hi4.lendK ZcC.known Zi.mono 2 rfl hm8 om) (hu6.mono Zg.mono (Kn.le_add _ _)) (hf6.mono Zb.mono (Kn.le_add _ _)) (hi6.mono Zi.mono (Kn.le_add _ _))) ?_)))
 refine xN (h:=xF (h:=xM (h:=Zt (d:=42) rfl (fun g2=>by simp at g2) (fun g2=>?_))))
 try simp only [sQ,ne_eq] at g2
 refine xM (h:=ZbR (h:=xF (h:=Zd rfl (fun g3=>?_) (fun g3=>?_))))
 try simp only [sQ,ne_eq] at g3
 refine Za (xM (h:=xM (h:=ZI (h:=xM (h:=Zt (d:=49) rfl (fun g4=>?_) (fun g4=>by simp at g4))))))
 try simp only [sQ,ne_eq] at g4
 refine xL [_,_,_,_,_] Z1 5 (h:=xL [_,_,_,_,_] Z1 6 (h:=Zo (Zf7 [2,3,4] rfl rfl rfl rfl rfl Zui rfl (ZaL.borrowL fun hm9=>ZcK _ _ _ _ _ _ _ _ _ _ _ _ ((ZW xd zd).1) ((ZW xd zd).1) _ (hu4.lendK Zg.any 0 rfl hm9 om) (hf4.lendK Zbn.known Zb.mono 1 rfl hm9 om) (hi4.lendK ZcC.known Zi.mono 2 rfl hm9 om) (hu6.mono Zg.mono (Kn.le_add _ _)) (hf6.mono Zb.mono (Kn.le_add _ _)) (hi6.mono Zi.mono (Kn.le_add _ _))) ?_)))
 refine xT (h:=xA (h:=Zh (Zs ?_)))
 exact ZY .ret (.inl rfl) [_] t1 (Zk (by simp))
 try simp only [sQ,ne_eq] at g3
 obtain ⟨hse,hsq,hsf,hst,hsv⟩:=Zrq (x:=xd) (z:=zd) (by simpa using g3)
 have hsd:(ZW xd zd).1.domain.length≤2000000:=by rw [hse];exact hdd
 have hql:=(Zi6 hsq).2.2.2.1
 have hal:=Zfp xd.queue zd
 refine Zj (Zf (Za (xW Zbg (h:=xL [_,_] Zb9 0 (h:=xL [_,_,_] Zmb 1 (h:=Zo (Zaa rfl rfl Zv4 rfl (Zgm _ _ xd.queue _ _ zd _ hid htd (by first | assumption | omega | (simp;omega)) (by first | assumption | omega | (simp;omega))) ?_)))))))
 rintro _ B10 _ hle10 ⟨l10,a10,c10,rfl,rfl,hd10⟩
 replace hid:=hid.mono Zi.mono hle10
 replace htd:=htd.mono Zaz.mono hle10
 replace hud:=hud.mono Zg.mono hle10
 replace hfd:=hfd.mono Zb.mono hle10
 replace hu4:=hu4.mono Zg.mono hle10
 replace hu6:=hu6.mono Zg.mono hle10
 replace hf6:=hf6.mono Zb.mono hle10
 replace hi6:=hi6.mono Zi.mono hle10
 replace hE:=hE.mono hle10
 refine xM (h:=xE (h:=xE (h:=xAl [_,_] Zfr (h:=fun b11=>xS [_,_] 8 [_,_] Zdo (h:=xA (h:=Zv [_,_,_,_,_,_,_,_,_] rfl (Zl (Za (xA (h:=Zp (ZQ (α:=Nat × Bool) [0,2,3,4,5,6,7,8,9,15,45] (fun g=>[(10,.bool g.2),(11,.int .i64 g.1)]) [] (fun g=>[]) (fun g Bx=>Bx=B10∧g.1≤zd.to_.length∧g.2=true) (fun g=>zd.to_.length - g.1) (0,(Zer xd.queue zd).2) t2 rfl (⟨rfl,Nat.zero_le _,hsq⟩) (fun g B12 hle12 hI=>?_))))))))))))
 obtain ⟨rfl,hk,hs⟩:=hI
 refine ZO [(0,_),(2,_),(3,_),(4,_),(5,_),(6,_),(7,_),(8,_),(9,_),(10,_),(11,_),(15,_),(45,_)] [_,_,_,_,_,_,_,_,_] t13 rfl (Zl (Za (xM (h:=xW Zgs (h:=x1 ZfP 1 (h:=xV Tryz.underlying39 (h:=Zag (h:=Zd rfl (fun g4=>?_) (fun g4=>?_)))))))))
 try simp only [sQ,ne_eq] at g4
 refine Zj (Zf (Zl (Zp (Z8 (same _ _) mo kr ⟨rfl,rfl⟩ (fun _ _=>?_)))))
 refine aM 0 rfl (h:=aM 1 rfl (h:=ZaI (d:=69) rfl (fun g5=>?_) (fun g5=>by rw [hs] at g5;cases g5)))
 try simp only [sQ,ne_eq] at g5
 refine aW 2 rfl ZbD (h:=aT 3 rfl (Zan fun D=>Zn rfl rfl ZhC rfl (atL 0 rfl rfl rfl) r4) (h:=aW 4 rfl Zgs (h:=aT 5 rfl (Zan fun D=>Zn rfl rfl ZfP rfl (atL 1 rfl rfl rfl) r4) (h:=aM 6 rfl (h:=?_)))))
 obtain ⟨w,hw⟩:=Zaj (xs:=zd.to_) (i:=g.1) om
 obtain ⟨bb14,oo14,rfl⟩:=htd.base hw
 obtain ⟨_,⟨rfl,hb15⟩,hc15⟩:=htd.elem hw
 refine aIx 7 rfl Tryz.underlying39 sz9 (h:=aT 8 rfl (Zan fun D=>Zn rfl rfl lk9 rfl (hc15 _ 0 _ rfl) r4) (h:=aT 9 rfl (Zan fun D=>ZaS rfl rfl ZxW rfl (Zp6 _ _ xd.users w _ hud) r4) (h:=aPT 10 rfl (h:=aA 11 rfl (h:=ZC kr kr ?_)))))
 refine Zz (Zf (Ze (xM (h:=xD (h:=xA (h:=?_))))))
 exact ZB (g.1+1,decide (0≤Zdw xd.users w)) [0,1,2,3,4,5,6,7,8] so2 ⟨rfl,so,decide_eq_true (hst _ (List.mem_of_getElem? hw))⟩ t13 rfl
 try simp only [sQ,ne_eq] at g4
 refine ZT (Zah (ZZ (ZH (Zf (Za (xL [_,_,_,_,_] Z1 5 (h:=xAl [_,_,_,_,_] ZaW (h:=fun b17=>xS [_,_,_,_,_] 9 [_,_,_,_,_] Zav (h:=Zv [_,_,_,_,_,_,_,_,_,_] rfl (Za (xW Zbg (h:=xL [_,_] Zb9 0 (h:=xW Zbg (h:=xS [_,_] 9 [_,_,_,_,_] Zdo (h:=Zv [_,_,_,_,_,_,_,_,_,_] rfl (Za ?_))))))))))))))))
 refine xM (h:=xM (h:=Zt (d:=84) rfl (fun g6=>?_) (fun g6=>by rw [hs] at g6;cases g6)))
 try simp only [sQ,ne_eq] at g6
 refine xW ZbD (h:=x1 ZhC 0 (h:=xW Zhk (h:=x1 lk9 1 (h:=xR ZxW rfl (Zp6 _ _ xd.users zd.fr _ hud) (h:=xT (h:=xM (h:=Zt (d:=91) rfl (fun g7=>?_) (fun g7=>by simp [hsf] at g7))))))))
 try simp only [sQ,ne_eq] at g7
 refine xW Zbg (h:=xL [_,_] Zb9 5 (h:=xL [_,_] Zb9 8 (h:=Zo (Zf7 [4,7] rfl rfl rfl rfl rfl ZxV rfl (ZaL.borrowL fun hm19=>Zic _ _ (ZW xd zd).1.queue _ _ (Zer xd.queue zd).1 _ (hi4.lendK ZcC.known Zi.mono 0 rfl hm19 om) (hd10.lendK ZcC.known Zi.mono 1 rfl hm19 om)) ?_))))
 refine xT (h:=xM (h:=Zt (d:=97) rfl (fun g8=>?_) (fun g8=>by rw [hse] at g8;simp [DHost.withQueue] at g8)))
 try simp only [sQ,ne_eq] at g8
 refine xL [_,_,_,_,_] Z1 9 (h:=xL [_,_,_,_,_] Z1 0 (h:=Zo (Zf7 [2,3] rfl rfl rfl rfl rfl Zui rfl (ZaL.borrowL fun hm20=>ZcK _ _ _ _ _ _ _ _ _ _ _ _ (⟨(ZW xd zd).1.domain,(ZW xd zd).1.users,(ZW xd zd).1.folders,⟨xd.queue.next,xd.queue.items⟩⟩:DHost) xd _ (hu4.lendK Zg.any 0 rfl hm20 om) (hf4.lendK Zbn.known Zb.mono 1 rfl hm20 om) (hid.mono Zi.mono (Kn.le_add _ _)) (hud.mono Zg.mono (Kn.le_add _ _)) (hfd.mono Zb.mono (Kn.le_add _ _)) (hid.mono Zi.mono (Kn.le_add _ _))) ?_)))
 refine xT (h:=xM (h:=Zt (d:=102) rfl (fun g9=>?_) (fun g9=>by rw [hse] at g9;simp [DHost.withQueue] at g9)))
 try simp only [sQ,ne_eq] at g9
 refine xL [_,_,_,_,_] Z1 5 (h:=Zo (Z4 [2,3,4] rfl rfl rfl rfl ZxU rfl (ZA.borrowK 3 fun hm21=>Ziy hJ _ _ _ _ _ _ (ZW xd zd).1 om2 _ (hu4.lendK Zg.any 0 rfl hm21 om) (hf4.lendK Zbn.known Zb.mono 1 rfl hm21 om) (hi4.lendK ZcC.known Zi.mono 2 rfl hm21 om)) ?_))
 rintro _ B21 _ hle21 ⟨BB21,_,rfl,hB21,_,hm21,_,rfl,rfl⟩
 replace hud:=hud.mono Zg.mono hle21
 replace hid:=hid.mono Zi.mono hle21
 replace hfd:=hfd.mono Zb.mono hle21
 replace htd:=htd.mono Zaz.mono hle21
 replace hu4:=hu4.mono Zg.mono hle21
 replace hu6:=hu6.mono Zg.mono hle21
 replace hf6:=hf6.mono Zb.mono hle21
 replace hi6:=hi6.mono Zi.mono hle21
 replace hE:=hE.mono hle21
 refine xT (h:=xA (h:=Zv [_,_,_,_,_,_,_,_,_,_] rfl (Zh ?_)))
 exact ZY .ret (.inl rfl) [_] t1 (Zk (by rw [hse];exact hsv))

end Go.Proofs.YtpgdailphhongaaGreatDoor
