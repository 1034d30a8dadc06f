/-
  WHAT THE FUNCTIONS THAT THE LAWS REACH COMPUTE: each function's contract, proved off its printed body (the text is written by program). No condition beyond those that each theorem states.
-/
import Derived.Test.YtkiiodddgcdekaaGreatC3
namespace Go.Proofs.YtkiiodddgcdekaaGreat
open Go Go.BL
set_option linter.unusedVariables false
set_option linter.unusedSimpArgs false
set_option maxRecDepth 4000
variable {J : JoinT}
set_option maxHeartbeats 400000 in
theorem ZdN (q:Option Addr) (cp:Nat) (x:DBox) (fl:Int) (t:Str) (ht:t.length≤2000000) (B:Kn) (hm:SlK B q cp 3 ZF x.mail):ZL (pj J) 103 [.agg #[.int .i64 x.next,.slice q x.mail.length cp],.int .i64 fl,str t] B [] (fun v B' Ls=>∃l a c,Ls=[l]∧v = .tuple #[.agg #[.int .i64 (ZQ x fl t).1.next,.slice a (ZQ x fl t).1.mail.length c],.bool (ZQ x fl t).2]∧Zaa B' l a c 67 3 ZF (ZQ x fl t).1.mail):=by
 refine Zc 28 Tryz.func103 rfl rfl rfl (Nat.le_of_ble_eq_true rfl) ?_
 have hxn:=hm.len
 refine Za (xBx [_,_] (h:=fun b1=>xAl [_,_] Zfe (h:=fun b2=>xA (h:=Zu [_,_] rfl (Zk (Za (xL [_,_] ZbL 0 (h:=xR Zu6 rfl (Zgi _ _ (⟨x.next,x.mail⟩:DBox) _ hm) (h:=xN (h:=xM (h:=Zq (d:=11) rfl (fun g1=>?_) (fun g1=>?_))))))))))))
 try simp only [sQ,ne_eq] at g1
 have he:=Zfa (b:=x) (fl:=fl) (t:=t) (by simp [g1])
 refine xP (h:=xP (h:=xP (h:=xT (h:=xM (h:=xP (h:=xP (h:=xP (h:=xT (h:=Zd (t:=true) rfl (fun _=>Za (xB [] [_,_] [_,_] Znn Zfe (h:=xS [_,_] 1 [_,_] ZcJ (h:=?_)))) (fun h=>Bool.noConfusion h))))))))))
 refine xA (h:=Zu [_,_] rfl (Zh (Zs ?_)))
 exact ZtD .ret (.inl rfl) [_,_] ⟨⟨_,rfl,.inr ⟨[_,_],ZbL,Zae 1 rfl rfl rfl,rfl⟩⟩,rfl,trivial⟩ ⟨_,none,0,rfl,by rw [he];rfl,by rw [he];exact Zaa.nil⟩
 try simp only [sQ,ne_eq] at g1
 refine xM (h:=xR Zqx rfl (ZeY _ _) (h:=xN (h:=xF (h:=xM (h:=Zq (d:=16) rfl (fun g2=>?_) (fun g2=>?_))))))
 try simp only [sQ,ne_eq] at g2
 have he:=Zfa (b:=x) (fl:=fl) (t:=t) (fun h=>by have:=h.2.1;simp only [ZaW,g2] at this;cases this)
 refine xP (h:=xP (h:=xP (h:=xT (h:=Zd (t:=true) rfl (fun _=>Za (xB [] [_,_] [_,_] Znn Zfe (h:=xS [_,_] 1 [_,_] ZcJ (h:=xA (h:=Zu [_,_] rfl (Zh (Zs ?_))))))) (fun h=>Bool.noConfusion h)))))
 exact ZtD .ret (.inl rfl) [_,_] ⟨⟨_,rfl,.inr ⟨[_,_],ZbL,Zae 1 rfl rfl rfl,rfl⟩⟩,rfl,trivial⟩ ⟨_,none,0,rfl,by rw [he];rfl,by rw [he];exact Zaa.nil⟩
 try simp only [sQ,ne_eq] at g2
 refine xM (h:=xVs Tryz.underlying9 (h:=Zbf (h:=xF (h:=Zd rfl (fun g3=>?_) (fun g3=>?_)))))
 try simp only [sQ,ne_eq] at g3
 have he:=Zfa (b:=x) (fl:=fl) (t:=t) (by simp;omega)
 refine Za (xB [] [_,_] [_,_] Znn Zfe (h:=xS [_,_] 1 [_,_] ZcJ (h:=xA (h:=Zu [_,_] rfl (Zh (Zs ?_))))))
 exact ZtD .ret (.inl rfl) [_,_] ⟨⟨_,rfl,.inr ⟨[_,_],ZbL,Zae 1 rfl rfl rfl,rfl⟩⟩,rfl,trivial⟩ ⟨_,none,0,rfl,by rw [he];rfl,by rw [he];exact Zaa.nil⟩
 try simp only [sQ,ne_eq] at g3
 have hok:Zbm x=true:=by simpa using g1
 rw [ZkF ⟨hok,by simpa only [ZaW,Bool.not_eq_false] using g2,oz⟩]
 refine Zi (Zf (Za (xL [_,_] ZbL 0 (h:=xM (h:=xM (h:=Zo (Zai rfl rfl ZuG rfl (Zis _ _ (⟨x.next,x.mail⟩:DBox) fl t oz (oy) _ hm) ?_)))))))
 rintro _ B5 _ hle5 ⟨l5,a5,c5,rfl,rfl,hs5⟩
 replace hm:=hm.mono ZF.mono hle5
 replace hs5:=hs5.anyK (B':=B5) ZF.any
 refine xE (h:=xE (h:=xS [_,_] 1 [_,_] ZcJ (h:=xA (h:=Zu [_,_,_] rfl (Zh ?_)))))
 exact Zah .ret (.inl rfl) [_,_] [2] rfl ⟨⟨_,rfl,.inr ⟨[_,_],ZbL,Zae 1 rfl rfl rfl,rfl⟩⟩,rfl,trivial⟩ ⟨_,_,_,rfl,rfl,hs5⟩

set_option maxHeartbeats 400000 in
theorem Zrx (b:Nat) (q:Option Addr) (m cp p:Nat) (hp:p≤800000000000) (hm:m≤2000) (B:Kn) (hbm:Zac B q m):ZL (pj J) 68 [ptr ⟨b,0,none⟩] B [rd b q m cp p] (fun v B' Ls=>∃(q':Option Addr) (cp':Nat) (gs:List DGrant) (k:Nat),v = .slice q' gs.length cp'∧SlK B' q' cp' 2 ZB gs∧k≤p+60∧Ls=[rd b q m cp k]):=by
 refine Zc 52 Tryz.func68 rfl rfl rfl (Nat.le_of_ble_eq_true rfl) ?_
 refine Za (xA (h:=Za (xBs [] [] Tryz.underlying33 ZbG ZdJ (h:=fun b1=>xA (h:=Zu [_,_] rfl (Za (xM (h:=xX 0 rfl Za5 rfl (ZM _ _ _ _ _ _ oz oz oz hm _ hbm) (h:=?_)))))))))
 rintro _ _ ⟨rn,rfl,rna,rnb,rfl⟩
 refine xA (h:=Zu [_,_] rfl (Zk (Za (xA (h:=Zp (ZS (α:=GAc) [0,2,4] (fun g=>[(3,.slice g.a g.xs.length g.c),(5,.int .i64 g.k)]) [0,1] (fun g=>[rd b q m cp g.p,g.l]) (fun g Bx=>g.k≤4∧g.p≤p+1+5*g.k∧g.xs.length≤4*g.k∧Zaa Bx g.l g.a g.c 126 2 ZB g.xs) (fun g=>4 - g.k) ⟨0,_,_,_,_,[]⟩ t2 rfl (⟨Nat.zero_le _,Nat.le_refl _,Nat.le_refl _,.lit0⟩) (fun g B3 hle3 hI=>?_)))))))
 obtain ⟨hk,hgp,hgl,hv⟩:=hI
 replace hbm:=hbm.mono hle3
 refine ZR [(0,_),(2,_),(3,_),(4,_),(5,_)] [_,_] t5 rfl (Zk (Za (xM (h:=xM (h:=Zaf (h:=Zd rfl (fun g1=>?_) (fun g1=>?_)))))))
 try simp only [sQ,ne_eq] at g1
 refine Zi (Zf (Zk (Zp (Za (xM (h:=xM (h:=xBs [(0,_),(1,_),(2,_),(3,_),(4,_)] [_,_,_,_,_] Tryz.underlying75 sz9 zo9 (h:=fun b4=>Zo (Z7 [0,2] rfl rfl rfl rfl Zl7 rfl (Zog _ _ _ _ _ _ ([[97,109,121],[98,111,98],[99,121,100],[97,110,121,111,110,101],[100,97,110]]:List Str) oz (by decide) (by decide) hm _ hbm) ?_)))))))))
 rintro _ _ _ hleu ⟨rfl,xu,hxu,rfl,rfl⟩
 replace hxu:=(show∀y∈( ([[97,109,121],[98,111,98],[99,121,100],[97,110,121,111,110,101],[100,97,110]]:List Str):List Str),y.length≤40 from by decide) _ hxu
 refine xM (h:=xX 0 rfl Za5 rfl (ZM _ _ _ _ _ _ oz oz oz hm _ hbm) (h:=?_))
 rintro _ _ ⟨re,rfl,rea,reb,rfl⟩
 refine Zo (ZkN (a:=re) (b:=8) rfl rfl rfl rfl (ZaY oz oz) ?_)
 have ht1:=Int.tmod_nonneg 63 (show 0≤re*8 by omega)
 have ht2:=Int.tmod_lt_of_pos (re*8) (show (0:Int)<63 by decide)
 refine Zo (Zf9 (a:=(re*8)) (b:=63) (r:=Int.tmod (re*8) 63) rfl rfl rfl rfl (by decide) rfl ?_)
 refine xD (h:=xM (h:=xX 0 rfl Za5 rfl (ZM _ _ _ _ _ _ oz oz oz hm _ hbm) (h:=?_)))
 rintro _ _ ⟨rf,rfl,rfa,rfb,rfl⟩
 refine xD (h:=Zo (Z7 [1] rfl rfl rfl rfl ZtL rfl (ZL.borrow fun hma=>ZeO _ _ g.xs xu ((1+(Int.tmod (re*8) 63))+rf) om2 _ (hv.lend ZB.mono hma om)) ?_))
 rintro _ Ba _ hlea ⟨BBa,_,rfl,hBa,_,hma,_,la,aa,ca,rfl,rfl,hsa⟩
 replace hv:=hv.mono ZB.mono hlea
 replace hbm:=hbm.mono hlea
 have hsan:=hsa.cap
 replace hsa:=hsa.anyK (B':=Ba) ZB.any
 refine xM (h:=xE (h:=xE (h:=xA (h:=xA (h:=Zu [_,_,_,_] rfl (Za (xM (h:=Zd rfl (fun g2=>?_) (fun g2=>?_)))))))))
 try simp only [sQ,ne_eq] at g2
 refine Ze (xM (h:=xA (h:=ZA (Zf (Ze (xM (h:=xD (h:=xA (h:=?_)))))))))
 exact ZC ⟨g.k+1,(((g.p+1)+1)+1),la,aa,ca,((Zb6 g.xs xu ((1+(Int.tmod (re*8) 63))+rf)).1)⟩ [0,3] so2 ⟨so,so,by first | (simp only [];omega) | exact Nat.le_trans (Zfo _ _ _) (so),hsa⟩ t5 rfl
 try simp only [sQ,ne_eq] at g2
 refine Zi (ZA (Zf (Ze (xM (h:=xD (h:=xA (h:=?_)))))))
 exact ZC ⟨g.k+1,(((g.p+1)+1)+1),g.l,g.a,g.c,g.xs⟩ [0,1] so2 ⟨so,so,by first | (simp only [];omega) | exact Nat.le_trans (Zfo _ _ _) (so),hv⟩ t5 rfl
 try simp only [sQ,ne_eq] at g1
 refine Z0 (Zal (Z6 (ZK (Zf (Zk (Za (xM (h:=xX 0 rfl Za5 rfl (ZM _ _ _ _ _ _ oz oz oz hm _ hbm) (h:=?_)))))))))
 rintro _ _ ⟨rk2,rfl,rk2a,rk2b,rfl⟩
 refine Zu [_,_] rfl (Zp (Za (ZI (h:=xA (h:=Zd rfl (fun g3=>?_) (fun g3=>?_))))))
 try simp only [sQ,ne_eq] at g3
 refine Ze (xM (h:=xM (h:=xX 0 rfl ZrX rfl (Zcw _ _ _ _ _ oz hm _ hbm) (h:=?_))))
 rintro _ _ ⟨xs,rfl,hxs,rfl⟩
 refine xM (h:=xX 0 rfl Za5 rfl (ZM _ _ _ _ _ _ oz oz oz hm _ hbm) (h:=?_))
 rintro _ _ ⟨ry,rfl,rya,ryb,rfl⟩
 refine xB [(0,_),(1,_)] [_,_] [_,_] Zs4 ZdJ (h:=xBs [(0,_)] [_,_] Tryz.underlying33 ZbG ZdJ (h:=fun b12=>Zo (Zbe (z:=⟨xs,ry⟩) (R:=ZB) 1 rfl hv rfl rfl rfl Zqt Zpq rfl rfl (ZaZ.box 2 rfl) rfl rfl (⟨rfl,by first | assumption | omega | (simp;done) | (simp;omega)⟩) om (fun l13 p13 c13 hv13=>?_))))
 refine xA (h:=ZA (Zf (Za (xM (h:=Z3 1 rfl hv13 ZB.mono om3 (fun B14 hle14 hr14=>?_))))))
 replace hbm:=hbm.mono hle14
 have hr14n:=hr14.len
 refine xA (h:=Zu [_,_,_] rfl (Zh ?_))
 exact Zah .ret (.inl rfl) [_] [0] rfl t1 ⟨_,_,_,_,rfl,hr14,oz,rfl⟩
 try simp only [sQ,ne_eq] at g3
 refine Za (ZI (h:=xA (h:=Zd rfl (fun g4=>?_) (fun g4=>?_))))
 try simp only [sQ,ne_eq] at g4
 refine Ze (xM (h:=xM (h:=Zo (Zub (R:=ZB) 1 rfl hv rfl rfl rfl Zqt Zpq rfl rfl ZB.one om (fun l15 p15 c15 hv15=>?_)))))
 refine xA (h:=ZA (Zf (Za (xM (h:=Z3 1 rfl hv15 ZB.mono om3 (fun B16 hle16 hr16=>?_))))))
 replace hbm:=hbm.mono hle16
 have hr16n:=hr16.len
 refine xA (h:=Zu [_,_] rfl (Zh ?_))
 exact Zah .ret (.inl rfl) [_] [0] rfl t1 ⟨_,_,_,_,rfl,hr16,oz,rfl⟩
 try simp only [sQ,ne_eq] at g4
 refine Zi (ZA (Zf (Za (xM (h:=Z3 1 rfl hv ZB.mono om3 (fun B17 hle17 hr17=>?_))))))
 replace hbm:=hbm.mono hle17
 have hr17n:=hr17.len
 refine xA (h:=Zu [_,_] rfl (Zh ?_))
 exact Zah .ret (.inl rfl) [_] [0] rfl t1 ⟨_,_,_,_,rfl,hr17,oz,rfl⟩

set_option maxHeartbeats 1600000 in
theorem Zry (b:Nat) (q:Option Addr) (m cp p:Nat) (hp:p≤800000000000) (hm:m≤2000) (B:Kn) (hbm:Zac B q m):ZL (pj J) 69 [ptr ⟨b,0,none⟩] B [rd b q m cp p] (fun v B' Ls=>∃(q':Option Addr) (cp':Nat) (x:DBox) (k:Nat),v = .agg #[.int .i64 x.next,.slice q' x.mail.length cp']∧SlK B' q' cp' 3 ZF x.mail∧k≤p+300∧Ls=[rd b q m cp k]):=by
 refine Zc 91 Tryz.func69 rfl rfl rfl (Nat.le_of_ble_eq_true rfl) ?_
 refine Za (xAl [_,_] Zfe (h:=fun b1=>Zu [_,_] rfl (Za (xM (h:=xX 0 rfl Za5 rfl (ZM _ _ _ _ _ _ oz oz oz hm _ hbm) (h:=?_))))))
 rintro _ _ ⟨rn0,rfl,rn0a,rn0b,rfl⟩
 refine xD (h:=xBs [] [] Tryz.underlying34 ZgE ZnS (h:=fun b3=>xB [(0,_),(1,_)] [_,_] [_,_] Znn Zfe (h:=xAl [_,_] Zfe (h:=fun b4=>xS [_,_] 3 [_,_] ZcJ (h:=Zu [_,_,_,_] rfl (Za (xM (h:=xX 0 rfl Za5 rfl (ZM _ _ _ _ _ _ oz oz oz hm _ hbm) (h:=?_)))))))))
 rintro _ _ ⟨rb0,rfl,rb0a,rb0b,rfl⟩
 refine xA (h:=Zu [_,_,_,_] rfl (ZkO (α:=Int × Nat) [0,2,3] (fun g=>[(4,.int .i64 g.1)]) [0] (fun g=>[rd b q m cp g.2]) (fun g=>[]) (fun g Bx=>Bx=B∧0≤g.1∧g.1≤14∧g.2≤p+3) ?_ (fun g B6 hle6 hF=>?_)))
 refine Za (xM (h:=xX 0 rfl Za5 rfl (ZM _ _ _ _ _ _ oz oz oz hm _ hbm) (h:=?_)))
 rintro _ _ ⟨rc0,rfl,rc0a,rc0b,rfl⟩
 refine ZI (h:=Zu [_,_,_,_] rfl (Zd rfl (fun g0=>?_) (fun g0=>?_)))
 try simp only [sQ,ne_eq] at g0
 refine Ze (xA (h:=?_))
 exact ZJ ⟨14,(((p+1)+1)+1)⟩ [0,1,2,3] ⟨rfl,so,so,so⟩ t4 rfl
 try simp only [sQ,ne_eq] at g0
 refine Zi ?_
 exact ZJ ⟨rb0,(((p+1)+1)+1)⟩ [0,1,2,3] ⟨rfl,so,so,so⟩ t4 rfl
 obtain ⟨rfl,hg0,hg1,hgp⟩:=hF
 refine ZR [(0,_),(2,_),(3,_),(4,_)] [_,_,_,_] t4 rfl (Zk (Za (xA (h:=Zp (ZS (α:=GBo) [0,2,3,4] (fun h=>[(5,.int .i64 h.k)]) [0,2,3] (fun h=>[rd b q m cp h.p,h.l,Zbn b4 [.int .i64 h.x.next,.slice h.a h.x.mail.length h.c] 36]) (fun h Bx=>h.k≤15∧h.p≤p+4+10*h.k∧0≤h.x.next∧h.x.next≤200∧h.x.mail.length≤20∧Zaa Bx h.l h.a h.c 67 3 ZF h.x.mail) (fun h=>15 - h.k) ⟨0,g.2,_,_,_,⟨1+rn0,[]⟩⟩ t1 rfl (⟨Nat.zero_le _,(so),(so),(so),Nat.zero_le _,.lit0⟩) (fun h B8 hle8 hI=>?_))))))
 obtain ⟨hk,hhp,hh0,hh1,hhl,hv⟩:=hI
 replace hbm:=hbm.mono hle8
 refine ZR [(0,_),(2,_),(3,_),(4,_),(5,_)] [_,_,_,_] t5 rfl (Zk (Za (xM (h:=xM (h:=Zaf (h:=Zd rfl (fun g1=>?_) (fun g1=>?_)))))))
 try simp only [sQ,ne_eq] at g1
 refine Zi (Zf (Zk (Zp (Zk (Z9 (keeps _ [3] _) mo kr ⟨Kn.le.refl _,Zaq.refl _ _⟩ (fun _ _=>?_))))))
 refine aT 0 rfl (ZD fun D B L hI=>Z5 [_,_] rfl rfl ZbL rfl (Zae 3 (hI.2.1.trans rfl) rfl rfl) r4) (h:=aM 1 rfl (h:=aM 3 rfl (h:=Zam [2,9] kr kr kr ⟨?_,?_⟩)))
 refine (Zci 0 rfl rfl rfl Za5 rfl (ZM _ _ _ _ _ _ oz oz oz hm _ hbm) ?_)
 rintro _ _ ⟨rf,rfl,rfa,rfb,rfl⟩
 refine ⟨⟨Kn.le.refl _,t1⟩,(Zam [4,9] kr kr kr ⟨?_,?_⟩)⟩
 refine (Zci 0 rfl rfl rfl Zqy rfl (ZeX _ _ _ _ _ oz hm _ hbm) ?_)
 rintro _ _ ⟨xt,rfl,hxt,rfl⟩
 refine ⟨⟨Kn.le.refl _,t1⟩,(Zam [5,9] kr kr kr ⟨?_,?_⟩)⟩
 refine (Z7 [2] rfl rfl rfl rfl Zr1 rfl (ZL.borrow fun hma=>ZdN _ _ (⟨h.x.next,h.x.mail⟩:DBox) rf xt om2 _ (hv.lend ZF.mono hma om)) ?_)
 rintro _ Ba _ hlea ⟨BBa,_,rfl,hBa,_,hma,_,la,aa,ca,rfl,rfl,hsa⟩
 replace hv:=hv.mono ZF.mono hlea
 replace hbm:=hbm.mono hlea
 replace hsa:=hsa.anyK (B':=Ba) ZF.any
 refine ⟨⟨hlea,t1⟩,?_⟩
 have hb1:=ZdT (⟨h.x.next,h.x.mail⟩:DBox) rf xt
 refine aM 6 rfl (h:=aE 7 rfl (h:=aE 8 rfl (h:=Zt 9 kr rfl kr (Zak (l:=[_,_]) rfl rfl Zfe rfl (fun b12=>?_)))))
 refine ⟨⟨hlea,t1⟩,(Zbb 10 kr rfl kr kr (ZN [_,_] 5 [_,_] rfl rfl ZcJ rfl rfl rfl rfl rfl rfl rfl rfl ?_))⟩
 refine aA 11 rfl (h:=Zz kr kr ?_)
 refine Zf (Zu [_,_,_,_,_,_] rfl (Zk (Za (xM (h:=Zd rfl (fun g2=>?_) (fun g2=>?_))))))
 try simp only [sQ,ne_eq] at g2
 refine Za (xL [_,_] ZbL 5 (h:=xS [_,_] 3 [_,_] ZcJ (h:=Zu [_,_,_,_,_,_] rfl (Z9 (keeps _ [3] _) mo kr ⟨Kn.le.refl _,Zaq.refl _ _⟩ (fun _ _=>?_)))))
 refine aW 0 rfl Zcq (h:=aT 1 rfl (ZD fun D B L hI=>Zl rfl rfl lk3 rfl (atL 3 (hI.2.1.trans rfl) rfl rfl) r4) (h:=aM 2 rfl (h:=Zt 3 kr rfl kr (Zci 0 rfl rfl rfl Za5 rfl (ZM _ _ _ _ _ _ oz oz oz hm _ hbm) ?_))))
 rintro _ _ ⟨rd,rfl,rda,rdb,rfl⟩
 refine ⟨⟨Kn.le.refl _,t1⟩,(aD 4 rfl (h:=aW 5 rfl Zcq (h:=ZY 6 kr rfl kr kr kr (ZN [_] 3 [_,_] rfl rfl sz3 rfl rfl rfl rfl rfl rfl rfl rfl ?_))))⟩
 refine Zf (Za (xM (h:=xX 0 rfl Za5 rfl (ZM _ _ _ _ _ _ oz oz oz hm _ hbm) (h:=?_))))
 rintro _ _ ⟨re,rfl,rea,reb,rfl⟩
 refine ZI (h:=Zu [_,_,_,_,_,_] rfl (Zd rfl (fun g3=>?_) (fun g3=>?_)))
 try simp only [sQ,ne_eq] at g3
 refine Ze (xL [_,_] ZbL 3 (h:=Zo (Z7 [4] rfl rfl rfl rfl ZkB rfl (ZL.borrow fun hm15=>Zcu _ _ (⟨((ZQ (⟨h.x.next,h.x.mail⟩:DBox) rf xt).1.next+rd),(ZQ (⟨h.x.next,h.x.mail⟩:DBox) rf xt).1.mail⟩:DBox) _ (hsa.lend ZF.mono hm15 om)) ?_)))
 rintro _ B15 _ hle15 ⟨BB15,_,rfl,hB15,_,hm15,_,l15,a15,c15,l15b,a15b,c15b,rfl,rfl,hs15,hs15b⟩
 replace hv:=hv.mono ZF.mono hle15
 replace hsa:=hsa.mono ZF.mono hle15
 replace hbm:=hbm.mono hle15
 replace hs15:=hs15.anyK (B':=B15) ZF.any
 replace hs15b:=hs15b.anyK (B':=B15) Zbz.any
 refine xM (h:=xE (h:=xE (h:=xS [_,_] 3 [_,_] ZcJ (h:=ZA (Zf (Ze (xM (h:=xD (h:=xA (h:=?_))))))))))
 exact ZC ⟨h.k+1,((((h.p+1)+2)+1)+1),l15,a15,c15,⟨((expunge (⟨((ZQ (⟨h.x.next,h.x.mail⟩:DBox) rf xt).1.next+rd),(ZQ (⟨h.x.next,h.x.mail⟩:DBox) rf xt).1.mail⟩:DBox)).1.next),((expunge (⟨((ZQ (⟨h.x.next,h.x.mail⟩:DBox) rf xt).1.next+rd),(ZQ (⟨h.x.next,h.x.mail⟩:DBox) rf xt).1.mail⟩:DBox)).1.mail)⟩⟩ [0,1,6,3] so2 ⟨so,so,by first | (simp only [];omega) | exact (ZG _).1,by first | (simp only [];omega) | exact Int.le_trans (ZG _).2.1 (by decide),by first | (simp only [];omega) | exact Nat.le_trans (ZG _).2.2 (by decide),hs15⟩ t5 rfl
 try simp only [sQ,ne_eq] at g3
 refine Zi (ZA (Zf (Ze (xM (h:=xD (h:=xA (h:=?_)))))))
 exact ZC ⟨h.k+1,((((h.p+1)+2)+1)+1),la,aa,ca,⟨((ZQ (⟨h.x.next,h.x.mail⟩:DBox) rf xt).1.next+rd),((ZQ (⟨h.x.next,h.x.mail⟩:DBox) rf xt).1.mail)⟩⟩ [0,1,4,3] so2 ⟨so,so,by first | (simp only [];omega) | exact (ZG _).1,by first | (simp only [];omega) | exact Int.le_trans (ZG _).2.1 (by decide),by first | (simp only [];omega) | exact Nat.le_trans (ZG _).2.2 (by decide),hsa⟩ t5 rfl
 try simp only [sQ,ne_eq] at g2
 refine Zi (Zf (Za (xM (h:=xX 0 rfl Za5 rfl (ZM _ _ _ _ _ _ oz oz oz hm _ hbm) (h:=?_)))))
 rintro _ _ ⟨re,rfl,rea,reb,rfl⟩
 refine ZI (h:=Zu [_,_,_,_,_,_] rfl (Zd rfl (fun g3=>?_) (fun g3=>?_)))
 try simp only [sQ,ne_eq] at g3
 refine Ze (xL [_,_] ZbL 3 (h:=Zo (Z7 [2] rfl rfl rfl rfl ZkB rfl (ZL.borrow fun hm17=>Zcu _ _ (⟨h.x.next,h.x.mail⟩:DBox) _ (hv.lend ZF.mono hm17 om)) ?_)))
 rintro _ B17 _ hle17 ⟨BB17,_,rfl,hB17,_,hm17,_,l17,a17,c17,l17b,a17b,c17b,rfl,rfl,hs17,hs17b⟩
 replace hv:=hv.mono ZF.mono hle17
 replace hsa:=hsa.mono ZF.mono hle17
 replace hbm:=hbm.mono hle17
 replace hs17:=hs17.anyK (B':=B17) ZF.any
 replace hs17b:=hs17b.anyK (B':=B17) Zbz.any
 refine xM (h:=xE (h:=xE (h:=xS [_,_] 3 [_,_] ZcJ (h:=ZA (Zf (Ze (xM (h:=xD (h:=xA (h:=?_))))))))))
 exact ZC ⟨h.k+1,(((h.p+1)+2)+1),l17,a17,c17,⟨((expunge (⟨h.x.next,h.x.mail⟩:DBox)).1.next),((expunge (⟨h.x.next,h.x.mail⟩:DBox)).1.mail)⟩⟩ [0,1,6,3] so2 ⟨so,so,by first | (simp only [];omega) | exact (ZG _).1,by first | (simp only [];omega) | exact Int.le_trans (ZG _).2.1 (by decide),by first | (simp only [];omega) | exact Nat.le_trans (ZG _).2.2 (by decide),hs17⟩ t5 rfl
 try simp only [sQ,ne_eq] at g3
 refine Zi (ZA (Zf (Ze (xM (h:=xD (h:=xA (h:=?_)))))))
 exact ZC ⟨h.k+1,(((h.p+1)+2)+1),h.l,h.a,h.c,⟨h.x.next,h.x.mail⟩⟩ [0,1,2,3] so2 ⟨so,so,by first | (simp only [];omega) | exact (ZG _).1,by first | (simp only [];omega) | exact Int.le_trans (ZG _).2.1 (by decide),by first | (simp only [];omega) | exact Nat.le_trans (ZG _).2.2 (by decide),hv⟩ t5 rfl
 refine (Zak (l:=[_,_]) rfl rfl Zfe rfl (fun b18=>⟨⟨Kn.le.refl _,t1⟩,(Zt 5 kr rfl kr (Z7 [2] rfl rfl rfl rfl Zr1 rfl (ZL.borrow fun hma=>ZdN _ _ (⟨h.x.next,h.x.mail⟩:DBox) rf xt om2 _ (hv.lend ZF.mono hma om)) ?_))⟩))
 rintro _ Ba _ hlea ⟨BBa,_,rfl,hBa,_,hma,_,la,aa,ca,rfl,rfl,hsa⟩
 replace hv:=hv.mono ZF.mono hlea
 replace hbm:=hbm.mono hlea
 replace hsa:=hsa.anyK (B':=Ba) ZF.any
 refine ⟨⟨hlea,t1⟩,?_⟩
 have hb1:=ZdT (⟨h.x.next,h.x.mail⟩:DBox) rf xt
 refine aM 6 rfl (h:=aE 7 rfl (h:=aE 8 rfl (h:=Zbb 10 kr rfl kr kr (ZN [_,_] 4 [_,_] rfl rfl ZcJ rfl rfl rfl rfl rfl rfl rfl rfl ?_))))
 refine aA 11 rfl (h:=Zz kr kr ?_)
 refine Zf (Zu [_,_,_,_,_,_] rfl (Zk (Za (xM (h:=Zd rfl (fun g2=>?_) (fun g2=>?_))))))
 try simp only [sQ,ne_eq] at g2
 refine Za (xL [_,_] ZbL 4 (h:=xS [_,_] 3 [_,_] ZcJ (h:=Zu [_,_,_,_,_,_] rfl (Z9 (keeps _ [3] _) mo kr ⟨Kn.le.refl _,Zaq.refl _ _⟩ (fun _ _=>?_)))))
 refine aW 0 rfl Zcq (h:=aT 1 rfl (ZD fun D B L hI=>Zl rfl rfl lk3 rfl (atL 3 (hI.2.1.trans rfl) rfl rfl) r4) (h:=aM 2 rfl (h:=Zt 3 kr rfl kr (Zci 0 rfl rfl rfl Za5 rfl (ZM _ _ _ _ _ _ oz oz oz hm _ hbm) ?_))))
 rintro _ _ ⟨rd,rfl,rda,rdb,rfl⟩
 refine ⟨⟨Kn.le.refl _,t1⟩,(aD 4 rfl (h:=aW 5 rfl Zcq (h:=ZY 6 kr rfl kr kr kr (ZN [_] 3 [_,_] rfl rfl sz3 rfl rfl rfl rfl rfl rfl rfl rfl ?_))))⟩
 refine Zf (Za (xM (h:=xX 0 rfl Za5 rfl (ZM _ _ _ _ _ _ oz oz oz hm _ hbm) (h:=?_))))
 rintro _ _ ⟨re,rfl,rea,reb,rfl⟩
 refine ZI (h:=Zu [_,_,_,_,_,_] rfl (Zd rfl (fun g3=>?_) (fun g3=>?_)))
 try simp only [sQ,ne_eq] at g3
 refine Ze (xL [_,_] ZbL 3 (h:=Zo (Z7 [5] rfl rfl rfl rfl ZkB rfl (ZL.borrow fun hm22=>Zcu _ _ (⟨((ZQ (⟨h.x.next,h.x.mail⟩:DBox) rf xt).1.next+rd),(ZQ (⟨h.x.next,h.x.mail⟩:DBox) rf xt).1.mail⟩:DBox) _ (hsa.lend ZF.mono hm22 om)) ?_)))
 rintro _ B22 _ hle22 ⟨BB22,_,rfl,hB22,_,hm22,_,l22,a22,c22,l22b,a22b,c22b,rfl,rfl,hs22,hs22b⟩
 replace hv:=hv.mono ZF.mono hle22
 replace hsa:=hsa.mono ZF.mono hle22
 replace hbm:=hbm.mono hle22
 replace hs22:=hs22.anyK (B':=B22) ZF.any
 replace hs22b:=hs22b.anyK (B':=B22) Zbz.any
 refine xM (h:=xE (h:=xE (h:=xS [_,_] 3 [_,_] ZcJ (h:=ZA (Zf (Ze (xM (h:=xD (h:=xA (h:=?_))))))))))
 exact ZC ⟨h.k+1,((((h.p+1)+2)+1)+1),l22,a22,c22,⟨((expunge (⟨((ZQ (⟨h.x.next,h.x.mail⟩:DBox) rf xt).1.next+rd),(ZQ (⟨h.x.next,h.x.mail⟩:DBox) rf xt).1.mail⟩:DBox)).1.next),((expunge (⟨((ZQ (⟨h.x.next,h.x.mail⟩:DBox) rf xt).1.next+rd),(ZQ (⟨h.x.next,h.x.mail⟩:DBox) rf xt).1.mail⟩:DBox)).1.mail)⟩⟩ [0,1,6,3] so2 ⟨so,so,by first | (simp only [];omega) | exact (ZG _).1,by first | (simp only [];omega) | exact Int.le_trans (ZG _).2.1 (by decide),by first | (simp only [];omega) | exact Nat.le_trans (ZG _).2.2 (by decide),hs22⟩ t5 rfl
 try simp only [sQ,ne_eq] at g3
 refine Zi (ZA (Zf (Ze (xM (h:=xD (h:=xA (h:=?_)))))))
 exact ZC ⟨h.k+1,((((h.p+1)+2)+1)+1),la,aa,ca,⟨((ZQ (⟨h.x.next,h.x.mail⟩:DBox) rf xt).1.next+rd),((ZQ (⟨h.x.next,h.x.mail⟩:DBox) rf xt).1.mail)⟩⟩ [0,1,5,3] so2 ⟨so,so,by first | (simp only [];omega) | exact (ZG _).1,by first | (simp only [];omega) | exact Int.le_trans (ZG _).2.1 (by decide),by first | (simp only [];omega) | exact Nat.le_trans (ZG _).2.2 (by decide),hsa⟩ t5 rfl
 try simp only [sQ,ne_eq] at g2
 refine Zi (Zf (Za (xM (h:=xX 0 rfl Za5 rfl (ZM _ _ _ _ _ _ oz oz oz hm _ hbm) (h:=?_)))))
 rintro _ _ ⟨re,rfl,rea,reb,rfl⟩
 refine ZI (h:=Zu [_,_,_,_,_,_] rfl (Zd rfl (fun g3=>?_) (fun g3=>?_)))
 try simp only [sQ,ne_eq] at g3
 refine Ze (xL [_,_] ZbL 3 (h:=Zo (Z7 [2] rfl rfl rfl rfl ZkB rfl (ZL.borrow fun hm24=>Zcu _ _ (⟨h.x.next,h.x.mail⟩:DBox) _ (hv.lend ZF.mono hm24 om)) ?_)))
 rintro _ B24 _ hle24 ⟨BB24,_,rfl,hB24,_,hm24,_,l24,a24,c24,l24b,a24b,c24b,rfl,rfl,hs24,hs24b⟩
 replace hv:=hv.mono ZF.mono hle24
 replace hsa:=hsa.mono ZF.mono hle24
 replace hbm:=hbm.mono hle24
 replace hs24:=hs24.anyK (B':=B24) ZF.any
 replace hs24b:=hs24b.anyK (B':=B24) Zbz.any
 refine xM (h:=xE (h:=xE (h:=xS [_,_] 3 [_,_] ZcJ (h:=ZA (Zf (Ze (xM (h:=xD (h:=xA (h:=?_))))))))))
 exact ZC ⟨h.k+1,(((h.p+1)+2)+1),l24,a24,c24,⟨((expunge (⟨h.x.next,h.x.mail⟩:DBox)).1.next),((expunge (⟨h.x.next,h.x.mail⟩:DBox)).1.mail)⟩⟩ [0,1,6,3] so2 ⟨so,so,by first | (simp only [];omega) | exact (ZG _).1,by first | (simp only [];omega) | exact Int.le_trans (ZG _).2.1 (by decide),by first | (simp only [];omega) | exact Nat.le_trans (ZG _).2.2 (by decide),hs24⟩ t5 rfl
 try simp only [sQ,ne_eq] at g3
 refine Zi (ZA (Zf (Ze (xM (h:=xD (h:=xA (h:=?_)))))))
 exact ZC ⟨h.k+1,(((h.p+1)+2)+1),h.l,h.a,h.c,⟨h.x.next,h.x.mail⟩⟩ [0,1,2,3] so2 ⟨so,so,by first | (simp only [];omega) | exact (ZG _).1,by first | (simp only [];omega) | exact Int.le_trans (ZG _).2.1 (by decide),by first | (simp only [];omega) | exact Nat.le_trans (ZG _).2.2 (by decide),hv⟩ t5 rfl
 refine (Zak (l:=[_,_]) rfl rfl Zfe rfl (fun b25=>⟨⟨Kn.le.refl _,t1⟩,(Zt 4 kr rfl kr (Zci 0 rfl rfl rfl Zqy rfl (ZeX _ _ _ _ _ oz hm _ hbm) ?_))⟩))
 rintro _ _ ⟨xt,rfl,hxt,rfl⟩
 refine ⟨⟨Kn.le.refl _,t1⟩,(Zt 5 kr rfl kr (Z7 [2] rfl rfl rfl rfl Zr1 rfl (ZL.borrow fun hma=>ZdN _ _ (⟨h.x.next,h.x.mail⟩:DBox) rf xt om2 _ (hv.lend ZF.mono hma om)) ?_))⟩
 rintro _ Ba _ hlea ⟨BBa,_,rfl,hBa,_,hma,_,la,aa,ca,rfl,rfl,hsa⟩
 replace hv:=hv.mono ZF.mono hlea
 replace hbm:=hbm.mono hlea
 replace hsa:=hsa.anyK (B':=Ba) ZF.any
 refine ⟨⟨hlea,t1⟩,?_⟩
 have hb1:=ZdT (⟨h.x.next,h.x.mail⟩:DBox) rf xt
 refine aM 6 rfl (h:=aE 7 rfl (h:=aE 8 rfl (h:=Zbb 10 kr rfl kr kr (ZN [_,_] 4 [_,_] rfl rfl ZcJ rfl rfl rfl rfl rfl rfl rfl rfl ?_))))
 refine aA 11 rfl (h:=Zz kr kr ?_)
 refine Zf (Zu [_,_,_,_,_,_] rfl (Zk (Za (xM (h:=Zd rfl (fun g2=>?_) (fun g2=>?_))))))
 try simp only [sQ,ne_eq] at g2
 refine Za (xL [_,_] ZbL 4 (h:=xS [_,_] 3 [_,_] ZcJ (h:=Zu [_,_,_,_,_,_] rfl (Z9 (keeps _ [3] _) mo kr ⟨Kn.le.refl _,Zaq.refl _ _⟩ (fun _ _=>?_)))))
 refine aW 0 rfl Zcq (h:=aT 1 rfl (ZD fun D B L hI=>Zl rfl rfl lk3 rfl (atL 3 (hI.2.1.trans rfl) rfl rfl) r4) (h:=aM 2 rfl (h:=Zt 3 kr rfl kr (Zci 0 rfl rfl rfl Za5 rfl (ZM _ _ _ _ _ _ oz oz oz hm _ hbm) ?_))))
 rintro _ _ ⟨rd,rfl,rda,rdb,rfl⟩
 refine ⟨⟨Kn.le.refl _,t1⟩,(aD 4 rfl (h:=aW 5 rfl Zcq (h:=ZY 6 kr rfl kr kr kr (ZN [_] 3 [_,_] rfl rfl sz3 rfl rfl rfl rfl rfl rfl rfl rfl ?_))))⟩
 refine Zf (Za (xM (h:=xX 0 rfl Za5 rfl (ZM _ _ _ _ _ _ oz oz oz hm _ hbm) (h:=?_))))
 rintro _ _ ⟨re,rfl,rea,reb,rfl⟩
 refine ZI (h:=Zu [_,_,_,_,_,_] rfl (Zd rfl (fun g3=>?_) (fun g3=>?_)))
 try simp only [sQ,ne_eq] at g3
 refine Ze (xL [_,_] ZbL 3 (h:=Zo (Z7 [5] rfl rfl rfl rfl ZkB rfl (ZL.borrow fun hm30=>Zcu _ _ (⟨((ZQ (⟨h.x.next,h.x.mail⟩:DBox) rf xt).1.next+rd),(ZQ (⟨h.x.next,h.x.mail⟩:DBox) rf xt).1.mail⟩:DBox) _ (hsa.lend ZF.mono hm30 om)) ?_)))
 rintro _ B30 _ hle30 ⟨BB30,_,rfl,hB30,_,hm30,_,l30,a30,c30,l30b,a30b,c30b,rfl,rfl,hs30,hs30b⟩
 replace hv:=hv.mono ZF.mono hle30
 replace hsa:=hsa.mono ZF.mono hle30
 replace hbm:=hbm.mono hle30
 replace hs30:=hs30.anyK (B':=B30) ZF.any
 replace hs30b:=hs30b.anyK (B':=B30) Zbz.any
 refine xM (h:=xE (h:=xE (h:=xS [_,_] 3 [_,_] ZcJ (h:=ZA (Zf (Ze (xM (h:=xD (h:=xA (h:=?_))))))))))
 exact ZC ⟨h.k+1,((((h.p+1)+2)+1)+1),l30,a30,c30,⟨((expunge (⟨((ZQ (⟨h.x.next,h.x.mail⟩:DBox) rf xt).1.next+rd),(ZQ (⟨h.x.next,h.x.mail⟩:DBox) rf xt).1.mail⟩:DBox)).1.next),((expunge (⟨((ZQ (⟨h.x.next,h.x.mail⟩:DBox) rf xt).1.next+rd),(ZQ (⟨h.x.next,h.x.mail⟩:DBox) rf xt).1.mail⟩:DBox)).1.mail)⟩⟩ [0,1,6,3] so2 ⟨so,so,by first | (simp only [];omega) | exact (ZG _).1,by first | (simp only [];omega) | exact Int.le_trans (ZG _).2.1 (by decide),by first | (simp only [];omega) | exact Nat.le_trans (ZG _).2.2 (by decide),hs30⟩ t5 rfl
 try simp only [sQ,ne_eq] at g3
 refine Zi (ZA (Zf (Ze (xM (h:=xD (h:=xA (h:=?_)))))))
 exact ZC ⟨h.k+1,((((h.p+1)+2)+1)+1),la,aa,ca,⟨((ZQ (⟨h.x.next,h.x.mail⟩:DBox) rf xt).1.next+rd),((ZQ (⟨h.x.next,h.x.mail⟩:DBox) rf xt).1.mail)⟩⟩ [0,1,5,3] so2 ⟨so,so,by first | (simp only [];omega) | exact (ZG _).1,by first | (simp only [];omega) | exact Int.le_trans (ZG _).2.1 (by decide),by first | (simp only [];omega) | exact Nat.le_trans (ZG _).2.2 (by decide),hsa⟩ t5 rfl
 try simp only [sQ,ne_eq] at g2
 refine Zi (Zf (Za (xM (h:=xX 0 rfl Za5 rfl (ZM _ _ _ _ _ _ oz oz oz hm _ hbm) (h:=?_)))))
 rintro _ _ ⟨re,rfl,rea,reb,rfl⟩
 refine ZI (h:=Zu [_,_,_,_,_,_] rfl (Zd rfl (fun g3=>?_) (fun g3=>?_)))
 try simp only [sQ,ne_eq] at g3
 refine Ze (xL [_,_] ZbL 3 (h:=Zo (Z7 [2] rfl rfl rfl rfl ZkB rfl (ZL.borrow fun hm32=>Zcu _ _ (⟨h.x.next,h.x.mail⟩:DBox) _ (hv.lend ZF.mono hm32 om)) ?_)))
 rintro _ B32 _ hle32 ⟨BB32,_,rfl,hB32,_,hm32,_,l32,a32,c32,l32b,a32b,c32b,rfl,rfl,hs32,hs32b⟩
 replace hv:=hv.mono ZF.mono hle32
 replace hsa:=hsa.mono ZF.mono hle32
 replace hbm:=hbm.mono hle32
 replace hs32:=hs32.anyK (B':=B32) ZF.any
 replace hs32b:=hs32b.anyK (B':=B32) Zbz.any
 refine xM (h:=xE (h:=xE (h:=xS [_,_] 3 [_,_] ZcJ (h:=ZA (Zf (Ze (xM (h:=xD (h:=xA (h:=?_))))))))))
 exact ZC ⟨h.k+1,(((h.p+1)+2)+1),l32,a32,c32,⟨((expunge (⟨h.x.next,h.x.mail⟩:DBox)).1.next),((expunge (⟨h.x.next,h.x.mail⟩:DBox)).1.mail)⟩⟩ [0,1,6,3] so2 ⟨so,so,by first | (simp only [];omega) | exact (ZG _).1,by first | (simp only [];omega) | exact Int.le_trans (ZG _).2.1 (by decide),by first | (simp only [];omega) | exact Nat.le_trans (ZG _).2.2 (by decide),hs32⟩ t5 rfl
 try simp only [sQ,ne_eq] at g3
 refine Zi (ZA (Zf (Ze (xM (h:=xD (h:=xA (h:=?_)))))))
 exact ZC ⟨h.k+1,(((h.p+1)+2)+1),h.l,h.a,h.c,⟨h.x.next,h.x.mail⟩⟩ [0,1,2,3] so2 ⟨so,so,by first | (simp only [];omega) | exact (ZG _).1,by first | (simp only [];omega) | exact Int.le_trans (ZG _).2.1 (by decide),by first | (simp only [];omega) | exact Nat.le_trans (ZG _).2.2 (by decide),hv⟩ t5 rfl
 refine (Zak (l:=[_,_]) rfl rfl Zfe rfl (fun b33=>⟨⟨Kn.le.refl _,t1⟩,(Zt 2 kr rfl kr (Zci 0 rfl rfl rfl Za5 rfl (ZM _ _ _ _ _ _ oz oz oz hm _ hbm) ?_))⟩))
 rintro _ _ ⟨rf,rfl,rfa,rfb,rfl⟩
 refine ⟨⟨Kn.le.refl _,t1⟩,(Zt 4 kr rfl kr (Zci 0 rfl rfl rfl Zqy rfl (ZeX _ _ _ _ _ oz hm _ hbm) ?_))⟩
 rintro _ _ ⟨xt,rfl,hxt,rfl⟩
 refine ⟨⟨Kn.le.refl _,t1⟩,(Zt 5 kr rfl kr (Z7 [2] rfl rfl rfl rfl Zr1 rfl (ZL.borrow fun hma=>ZdN _ _ (⟨h.x.next,h.x.mail⟩:DBox) rf xt om2 _ (hv.lend ZF.mono hma om)) ?_))⟩
 rintro _ Ba _ hlea ⟨BBa,_,rfl,hBa,_,hma,_,la,aa,ca,rfl,rfl,hsa⟩
 replace hv:=hv.mono ZF.mono hlea
 replace hbm:=hbm.mono hlea
 replace hsa:=hsa.anyK (B':=Ba) ZF.any
 refine ⟨⟨hlea,t1⟩,?_⟩
 have hb1:=ZdT (⟨h.x.next,h.x.mail⟩:DBox) rf xt
 refine aM 6 rfl (h:=aE 7 rfl (h:=aE 8 rfl (h:=Zbb 10 kr rfl kr kr (ZN [_,_] 4 [_,_] rfl rfl ZcJ rfl rfl rfl rfl rfl rfl rfl rfl ?_))))
 refine aA 11 rfl (h:=Zz kr kr ?_)
 refine Zf (Zu [_,_,_,_,_,_] rfl (Zk (Za (xM (h:=Zd rfl (fun g2=>?_) (fun g2=>?_))))))
 try simp only [sQ,ne_eq] at g2
 refine Za (xL [_,_] ZbL 4 (h:=xS [_,_] 3 [_,_] ZcJ (h:=Zu [_,_,_,_,_,_] rfl (Z9 (keeps _ [3] _) mo kr ⟨Kn.le.refl _,Zaq.refl _ _⟩ (fun _ _=>?_)))))
 refine aW 0 rfl Zcq (h:=aT 1 rfl (ZD fun D B L hI=>Zl rfl rfl lk3 rfl (atL 3 (hI.2.1.trans rfl) rfl rfl) r4) (h:=aM 2 rfl (h:=Zt 3 kr rfl kr (Zci 0 rfl rfl rfl Za5 rfl (ZM _ _ _ _ _ _ oz oz oz hm _ hbm) ?_))))
 rintro _ _ ⟨rd,rfl,rda,rdb,rfl⟩
 refine ⟨⟨Kn.le.refl _,t1⟩,(aD 4 rfl (h:=aW 5 rfl Zcq (h:=ZY 6 kr rfl kr kr kr (ZN [_] 3 [_,_] rfl rfl sz3 rfl rfl rfl rfl rfl rfl rfl rfl ?_))))⟩
 refine Zf (Za (xM (h:=xX 0 rfl Za5 rfl (ZM _ _ _ _ _ _ oz oz oz hm _ hbm) (h:=?_))))
 rintro _ _ ⟨re,rfl,rea,reb,rfl⟩
 refine ZI (h:=Zu [_,_,_,_,_,_] rfl (Zd rfl (fun g3=>?_) (fun g3=>?_)))
 try simp only [sQ,ne_eq] at g3
 refine Ze (xL [_,_] ZbL 3 (h:=Zo (Z7 [5] rfl rfl rfl rfl ZkB rfl (ZL.borrow fun hm39=>Zcu _ _ (⟨((ZQ (⟨h.x.next,h.x.mail⟩:DBox) rf xt).1.next+rd),(ZQ (⟨h.x.next,h.x.mail⟩:DBox) rf xt).1.mail⟩:DBox) _ (hsa.lend ZF.mono hm39 om)) ?_)))
 rintro _ B39 _ hle39 ⟨BB39,_,rfl,hB39,_,hm39,_,l39,a39,c39,l39b,a39b,c39b,rfl,rfl,hs39,hs39b⟩
 replace hv:=hv.mono ZF.mono hle39
 replace hsa:=hsa.mono ZF.mono hle39
 replace hbm:=hbm.mono hle39
 replace hs39:=hs39.anyK (B':=B39) ZF.any
 replace hs39b:=hs39b.anyK (B':=B39) Zbz.any
 refine xM (h:=xE (h:=xE (h:=xS [_,_] 3 [_,_] ZcJ (h:=ZA (Zf (Ze (xM (h:=xD (h:=xA (h:=?_))))))))))
 exact ZC ⟨h.k+1,((((h.p+1)+2)+1)+1),l39,a39,c39,⟨((expunge (⟨((ZQ (⟨h.x.next,h.x.mail⟩:DBox) rf xt).1.next+rd),(ZQ (⟨h.x.next,h.x.mail⟩:DBox) rf xt).1.mail⟩:DBox)).1.next),((expunge (⟨((ZQ (⟨h.x.next,h.x.mail⟩:DBox) rf xt).1.next+rd),(ZQ (⟨h.x.next,h.x.mail⟩:DBox) rf xt).1.mail⟩:DBox)).1.mail)⟩⟩ [0,1,6,3] so2 ⟨so,so,by first | (simp only [];omega) | exact (ZG _).1,by first | (simp only [];omega) | exact Int.le_trans (ZG _).2.1 (by decide),by first | (simp only [];omega) | exact Nat.le_trans (ZG _).2.2 (by decide),hs39⟩ t5 rfl
 try simp only [sQ,ne_eq] at g3
 refine Zi (ZA (Zf (Ze (xM (h:=xD (h:=xA (h:=?_)))))))
 exact ZC ⟨h.k+1,((((h.p+1)+2)+1)+1),la,aa,ca,⟨((ZQ (⟨h.x.next,h.x.mail⟩:DBox) rf xt).1.next+rd),((ZQ (⟨h.x.next,h.x.mail⟩:DBox) rf xt).1.mail)⟩⟩ [0,1,5,3] so2 ⟨so,so,by first | (simp only [];omega) | exact (ZG _).1,by first | (simp only [];omega) | exact Int.le_trans (ZG _).2.1 (by decide),by first | (simp only [];omega) | exact Nat.le_trans (ZG _).2.2 (by decide),hsa⟩ t5 rfl
 try simp only [sQ,ne_eq] at g2
 refine Zi (Zf (Za (xM (h:=xX 0 rfl Za5 rfl (ZM _ _ _ _ _ _ oz oz oz hm _ hbm) (h:=?_)))))
 rintro _ _ ⟨re,rfl,rea,reb,rfl⟩
 refine ZI (h:=Zu [_,_,_,_,_,_] rfl (Zd rfl (fun g3=>?_) (fun g3=>?_)))
 try simp only [sQ,ne_eq] at g3
 refine Ze (xL [_,_] ZbL 3 (h:=Zo (Z7 [2] rfl rfl rfl rfl ZkB rfl (ZL.borrow fun hm41=>Zcu _ _ (⟨h.x.next,h.x.mail⟩:DBox) _ (hv.lend ZF.mono hm41 om)) ?_)))
 rintro _ B41 _ hle41 ⟨BB41,_,rfl,hB41,_,hm41,_,l41,a41,c41,l41b,a41b,c41b,rfl,rfl,hs41,hs41b⟩
 replace hv:=hv.mono ZF.mono hle41
 replace hsa:=hsa.mono ZF.mono hle41
 replace hbm:=hbm.mono hle41
 replace hs41:=hs41.anyK (B':=B41) ZF.any
 replace hs41b:=hs41b.anyK (B':=B41) Zbz.any
 refine xM (h:=xE (h:=xE (h:=xS [_,_] 3 [_,_] ZcJ (h:=ZA (Zf (Ze (xM (h:=xD (h:=xA (h:=?_))))))))))
 exact ZC ⟨h.k+1,(((h.p+1)+2)+1),l41,a41,c41,⟨((expunge (⟨h.x.next,h.x.mail⟩:DBox)).1.next),((expunge (⟨h.x.next,h.x.mail⟩:DBox)).1.mail)⟩⟩ [0,1,6,3] so2 ⟨so,so,by first | (simp only [];omega) | exact (ZG _).1,by first | (simp only [];omega) | exact Int.le_trans (ZG _).2.1 (by decide),by first | (simp only [];omega) | exact Nat.le_trans (ZG _).2.2 (by decide),hs41⟩ t5 rfl
 try simp only [sQ,ne_eq] at g3
 refine Zi (ZA (Zf (Ze (xM (h:=xD (h:=xA (h:=?_)))))))
 exact ZC ⟨h.k+1,(((h.p+1)+2)+1),h.l,h.a,h.c,⟨h.x.next,h.x.mail⟩⟩ [0,1,2,3] so2 ⟨so,so,by first | (simp only [];omega) | exact (ZG _).1,by first | (simp only [];omega) | exact Int.le_trans (ZG _).2.1 (by decide),by first | (simp only [];omega) | exact Nat.le_trans (ZG _).2.2 (by decide),hv⟩ t5 rfl
 try simp only [sQ,ne_eq] at g1
 refine Z0 (Zal (Z6 (ZK (Zf (Zk (Za (xM (h:=xX 0 rfl Za5 rfl (ZM _ _ _ _ _ _ oz oz oz hm _ hbm) (h:=?_)))))))))
 rintro _ _ ⟨rz0,rfl,rz0a,rz0b,rfl⟩
 refine Zu [_,_,_,_] rfl (Zp (Za (ZI (h:=xA (h:=Zd rfl (fun g4=>?_) (fun g4=>?_))))))
 try simp only [sQ,ne_eq] at g4
 refine Ze (xBs [(0,_),(1,_),(2,_),(3,_)] [_,_,_,_] Tryz.underlying137 sz3 zo3 (h:=fun b43=>xM (h:=xX 0 rfl Za5 rfl (ZM _ _ _ _ _ _ oz oz oz hm _ hbm) (h:=?_))))
 rintro _ _ ⟨rz1,rfl,rz1a,rz1b,rfl⟩
 have hvq45:Zaa B8 (Zbn b43 (([0,99,100,101]:List Int).map fun x=>.int .i64 x) 3) (some ⟨b43,0,none⟩) 4 3 1 Zbz ([0,99,100,101]:List Int):=Zaa.ints
 obtain ⟨e,he⟩:=Zec (xs:=([0,99,100,101]:List Int)) (i:=rz1) om om
 obtain ⟨bb47,_,hp47,rfl,hw47,hc47⟩:=hvq45.row he
 refine xIp hp47 Tryz.underlying137 sz3 (h:=Zo (Zl rfl rfl lk3 rfl (hc47 _ 4 rfl 0 _ rfl) (xW Zcq (h:=xS [_] 3 [_,_] sz3 (h:=ZA (Zf (Za (xL [_,_] ZbL 3 (h:=Z3 2 rfl hv ZF.mono om3 (fun B48 hle48 hr48=>?_))))))))))
 replace hvq45:=hvq45.mono Zbz.mono hle48
 replace hbm:=hbm.mono hle48
 have hr48n:=hr48.len
 refine xS [_,_] 1 [_,_] ZcJ (h:=Zu [_,_,_,_,_] rfl (Zh ?_))
 exact Zah .ret (.inl rfl) [_] [0] rfl ⟨⟨_,rfl,.inr ⟨[_,_],ZbL,Zae 1 rfl rfl rfl,rfl⟩⟩,trivial⟩ ⟨_,_,⟨e,h.x.mail⟩,_,(ol),hr48,oz,rfl⟩
 try simp only [sQ,ne_eq] at g4
 refine Za (ZI (h:=xA (h:=Zd rfl (fun g5=>?_) (fun g5=>?_))))
 try simp only [sQ,ne_eq] at g5
 refine Za (xW ZaQ (h:=x1 Zfw 3 (h:=xV Tryz.underlying34 (h:=Zbf (h:=Zd rfl (fun g6=>?_) (fun g6=>?_))))))
 try simp only [sQ,ne_eq] at g6
 refine Z9 (keeps _ [2,3] _) mo kr ⟨Kn.le.refl _,Zaq.refl _ _⟩ (fun _ _=>?_)
 refine aW 0 rfl ZaQ (h:=aT 1 rfl (ZD fun D B L hI=>Zl rfl rfl Zfw rfl (atL 3 (hI.2.2.1.trans rfl) rfl rfl) r4) (h:=aM 2 rfl (h:=aW 3 rfl ZaQ (h:=aT 4 rfl (ZD fun D B L hI=>Zl rfl rfl Zfw rfl (atL 3 (hI.2.2.1.trans rfl) rfl rfl) r4) (h:=aV 5 rfl Tryz.underlying34 (h:=aM 7 rfl (h:=Zt 6 kr rfl kr (Zci 0 rfl rfl rfl Za5 rfl (ZM _ _ _ _ _ _ oz oz oz hm _ hbm) ?_))))))))
 rintro _ _ ⟨rz1,rfl,rz1a,rz1b,rfl⟩
 refine ⟨⟨Kn.le.refl _,t2⟩,(Zt 8 kr rfl kr (Zci 0 rfl rfl rfl Za5 rfl (ZM _ _ _ _ _ _ oz oz oz hm _ hbm) ?_))⟩
 rintro _ _ ⟨rz2,rfl,rz2a,rz2b,rfl⟩
 refine ⟨⟨Kn.le.refl _,t2⟩,?_⟩
 obtain ⟨z,hz⟩:=Zec (xs:=h.x.mail) (i:=rz1) om om
 obtain ⟨bb52,_,hp52,⟨rfl,hb52⟩,hw52,hc52⟩:=hv.row hz
 refine aT 9 rfl (ZD fun D B L hI=>Zga hp52 rfl rfl Tryz.underlying34 ZgE rfl rfl om om r4) (h:=?_)
 refine aW 10 rfl Zhm (h:=ZY 11 kr rfl kr kr kr (ZdU (k:=(rz1).toNat) (off:=0) (⟨rz2,z.flags,z.text⟩) [_] 2 hv hp52 hz rfl rfl sz3 rfl rfl rfl rfl rfl rfl (by rintro _ ⟨rfl,e1⟩;exact ⟨rfl,e1⟩) (fun l53 hv53=>?_)))
 refine ZA (Zf (Za (xL [_,_] ZbL 3 (h:=Z3 2 rfl hv53 ZF.mono om3 (fun B54 hle54 hr54=>?_)))))
 replace hbm:=hbm.mono hle54
 have hr54n:=hr54.len
 refine xS [_,_] 1 [_,_] ZcJ (h:=Zu [_,_,_,_] rfl (Zh ?_))
 exact Zah .ret (.inl rfl) [_] [0] rfl ⟨⟨_,rfl,.inr ⟨[_,_],ZbL,Zae 1 rfl rfl rfl,rfl⟩⟩,trivial⟩ ⟨_,_,⟨h.x.next,(h.x.mail.set ((rz1).toNat) (⟨rz2,z.flags,z.text⟩))⟩,_,(ol),hr54,oz,rfl⟩
 try simp only [sQ,ne_eq] at g6
 refine Zi (ZA (Zf (Za (xL [_,_] ZbL 3 (h:=Z3 2 rfl hv ZF.mono om3 (fun B55 hle55 hr55=>?_))))))
 replace hbm:=hbm.mono hle55
 have hr55n:=hr55.len
 refine xS [_,_] 1 [_,_] ZcJ (h:=Zu [_,_,_,_] rfl (Zh ?_))
 exact Zah .ret (.inl rfl) [_] [0] rfl ⟨⟨_,rfl,.inr ⟨[_,_],ZbL,Zae 1 rfl rfl rfl,rfl⟩⟩,trivial⟩ ⟨_,_,⟨h.x.next,h.x.mail⟩,_,(ol),hr55,oz,rfl⟩
 try simp only [sQ,ne_eq] at g5
 refine Za (ZI (h:=xA (h:=Zd rfl (fun g7=>?_) (fun g7=>?_))))
 try simp only [sQ,ne_eq] at g7
 refine Za (xW ZaQ (h:=x1 Zfw 3 (h:=xV Tryz.underlying34 (h:=Zbf (h:=Zd rfl (fun g8=>?_) (fun g8=>?_))))))
 try simp only [sQ,ne_eq] at g8
 refine Z9 (keeps _ [2,3] _) mo kr ⟨Kn.le.refl _,Zaq.refl _ _⟩ (fun _ _=>?_)
 refine aW 0 rfl ZaQ (h:=aT 1 rfl (ZD fun D B L hI=>Zl rfl rfl Zfw rfl (atL 3 (hI.2.2.1.trans rfl) rfl rfl) r4) (h:=aM 2 rfl (h:=aW 3 rfl ZaQ (h:=aT 4 rfl (ZD fun D B L hI=>Zl rfl rfl Zfw rfl (atL 3 (hI.2.2.1.trans rfl) rfl rfl) r4) (h:=aV 5 rfl Tryz.underlying34 (h:=Zt 6 kr rfl kr (Zci 0 rfl rfl rfl Za5 rfl (ZM _ _ _ _ _ _ oz oz oz hm _ hbm) ?_)))))))
 rintro _ _ ⟨rz1,rfl,rz1a,rz1b,rfl⟩
 refine ⟨⟨Kn.le.refl _,t2⟩,?_⟩
 obtain ⟨z,hz⟩:=Zec (xs:=h.x.mail) (i:=rz1) om om
 obtain ⟨bb58,_,hp58,⟨rfl,hb58⟩,hw58,hc58⟩:=hv.row hz
 refine aT 7 rfl (ZD fun D B L hI=>Zga hp58 rfl rfl Tryz.underlying34 ZgE rfl rfl om om r4) (h:=?_)
 refine aW 8 rfl ZiG (h:=ZY 9 kr rfl kr kr kr (ZdU (k:=(rz1).toNat) (off:=1) (⟨z.uid,32,z.text⟩) [_] 2 hv hp58 hz rfl rfl sz3 rfl rfl rfl rfl rfl rfl (by rintro _ ⟨rfl,e1⟩;exact ⟨rfl,e1⟩) (fun l59 hv59=>?_)))
 refine ZA (Zf (Za (xL [_,_] ZbL 3 (h:=Z3 2 rfl hv59 ZF.mono om3 (fun B60 hle60 hr60=>?_)))))
 replace hbm:=hbm.mono hle60
 have hr60n:=hr60.len
 refine xS [_,_] 1 [_,_] ZcJ (h:=Zu [_,_,_,_] rfl (Zh ?_))
 exact Zah .ret (.inl rfl) [_] [0] rfl ⟨⟨_,rfl,.inr ⟨[_,_],ZbL,Zae 1 rfl rfl rfl,rfl⟩⟩,trivial⟩ ⟨_,_,⟨h.x.next,(h.x.mail.set ((rz1).toNat) (⟨z.uid,32,z.text⟩))⟩,_,(ol),hr60,oz,rfl⟩
 try simp only [sQ,ne_eq] at g8
 refine Zi (ZA (Zf (Za (xL [_,_] ZbL 3 (h:=Z3 2 rfl hv ZF.mono om3 (fun B61 hle61 hr61=>?_))))))
 replace hbm:=hbm.mono hle61
 have hr61n:=hr61.len
 refine xS [_,_] 1 [_,_] ZcJ (h:=Zu [_,_,_,_] rfl (Zh ?_))
 exact Zah .ret (.inl rfl) [_] [0] rfl ⟨⟨_,rfl,.inr ⟨[_,_],ZbL,Zae 1 rfl rfl rfl,rfl⟩⟩,trivial⟩ ⟨_,_,⟨h.x.next,h.x.mail⟩,_,(ol),hr61,oz,rfl⟩
 try simp only [sQ,ne_eq] at g7
 refine Zi (ZA (Zf (Za (xL [_,_] ZbL 3 (h:=Z3 2 rfl hv ZF.mono om3 (fun B62 hle62 hr62=>?_))))))
 replace hbm:=hbm.mono hle62
 have hr62n:=hr62.len
 refine xS [_,_] 1 [_,_] ZcJ (h:=Zu [_,_,_,_] rfl (Zh ?_))
 exact Zah .ret (.inl rfl) [_] [0] rfl ⟨⟨_,rfl,.inr ⟨[_,_],ZbL,Zae 1 rfl rfl rfl,rfl⟩⟩,trivial⟩ ⟨_,_,⟨h.x.next,h.x.mail⟩,_,(ol),hr62,oz,rfl⟩

set_option maxHeartbeats 800000 in
theorem Zlq (b:Nat) (q:Option Addr) (m cp p:Nat) (hp:p≤700000000000) (hm:m≤2000) (B:Kn) (hbm:Zac B q m):ZL (pj J) 59 [ptr ⟨b,0,none⟩] B [rd b q m cp p] (fun v B' Ls=>∃(x:DHost) (p1 p2 p3:Option Addr) (d1 d2 d3 k:Nat),v = .agg #[str x.domain,.slice p1 x.users.length d1,.slice p2 x.folders.length d2,.int .i64 x.queue.next,.slice p3 x.queue.items.length d3]∧SlK B' p1 d1 3 Zg x.users∧SlK B' p2 d2 5 Zb x.folders∧SlK B' p3 d3 4 Zj x.queue.items∧x.domain.length≤2000000∧Zx x=true∧k≤p+6000∧Ls=[rd b q m cp k]):=by
 refine Zc 37 Tryz.func59 rfl rfl rfl (Nat.le_of_ble_eq_true rfl) ?_
 refine Za (xAl [_,_,_,_,_] ZaR (h:=fun b1=>Zu [_,_] rfl (Za (xB [(0,_),(1,_),(2,_)] [_,_,_] [_,_,_] ZpI ZeJ (h:=xM (h:=xX 0 rfl Za5 rfl (ZM _ _ _ _ _ _ oz oz oz hm _ hbm) (h:=?_)))))))
 rintro _ _ ⟨ra,rfl,raa,rab,rfl⟩
 refine xD (h:=xB [(0,_),(1,_),(2,_)] [_,_,_] [_,_,_] ZpI ZeJ (h:=xM (h:=xX 0 rfl Za5 rfl (ZM _ _ _ _ _ _ oz oz oz hm _ hbm) (h:=?_))))
 rintro _ _ ⟨rb,rfl,rba,rbb,rfl⟩
 refine xD (h:=xB [(0,_),(1,_),(2,_)] [_,_,_] [_,_,_] ZpI ZeJ (h:=xBs [(0,_),(1,_),(2,_)] [_,_,_,_,_,_,_,_,_] Tryz.underlying23 Zdi ZeJ (h:=fun b4=>?_)))
 have hdl:(ZfE ra rb).length=3:=rfl
 have hvq:Zaa B (Zbn b4 [str [97,109,121],str [97,49],int 60,str [98,111,98],str [98,50],int (20+ra),str [99,121,100],str [99,51],int (100+rb)] 41) (some ⟨b4,0,none⟩) 3 41 3 Zg (ZfE ra rb):=Zaa.lit (rows:=[[str [97,109,121],str [97,49],int 60],[str [98,111,98],str [98,50],int (20+ra)],[str [99,121,100],str [99,51],int (100+rb)]]) (.cons ⟨rfl,by simp,by simp⟩ (.cons ⟨rfl,by simp,by simp⟩ (.cons ⟨rfl,by simp,by simp⟩ .nil))) (by intro row hr;simp only [List.mem_cons,List.not_mem_nil,or_false] at hr;rcases hr with rfl | rfl | rfl <;> rfl)
 have hdu:=ZqB (a:=ra) (b:=rb) oz oz oz oz
 refine Z3 2 rfl hvq Zg.mono om3 (fun B5 hle5 hr5=>?_)
 replace hbm:=hbm.mono hle5
 have hr5n:=hr5.len
 refine Zo (Z2 rfl rfl ZwQ rfl (Zpx _ _ [104,111,115,116,46,111,114,103] (ZfE ra rb) om2 om2 _ hr5) ?_)
 intro vh Bh hleh
 rintro ⟨q1h,c1h,q2h,c2h,q3h,c3h,rfl,huh,hfh,hih⟩
 replace hr5:=hr5.mono Zg.mono hleh
 replace hbm:=hbm.mono hleh
 have huhn:=huh.len
 have hfhn:=hfh.len
 have hihn:=hih.len
 refine xM (h:=xE (h:=xE (h:=xAl [_,_,_,_,_] ZaR (h:=fun b7=>xS [_,_,_,_,_] 3 [_,_,_,_,_] Zav (h:=xA (h:=Zu [_,_,_,_] rfl (Za (xM (h:=xX 0 rfl Za5 rfl (ZM _ _ _ _ _ _ oz oz oz hm _ hbm) (h:=?_))))))))))
 rintro _ _ ⟨rn,rfl,rna,rnb,rfl⟩
 refine xA (h:=Zu [_,_,_,_] rfl (Zk (Za (xA (h:=Zp (ZS (α:=GHo) [0,2,3,5] (fun g=>[(6,.int .i64 g.k)]) [0,3] (fun g=>[rd b q m cp g.p,Zbn b7 [str g.x.domain,.slice g.q1 g.x.users.length g.c1,.slice g.q2 g.x.folders.length g.c2,.int .i64 g.x.queue.next,.slice g.q3 g.x.queue.items.length g.c3] 29]) (fun g Bx=>g.k≤40∧g.p≤p+4+60*g.k∧Zx g.x=true∧g.x.domain.length≤2000000∧SlK Bx g.q1 g.c1 3 Zg g.x.users∧SlK Bx g.q2 g.c2 5 Zb g.x.folders∧SlK Bx g.q3 g.c3 4 Zj g.x.queue.items) (fun g=>40 - g.k) ⟨0,_,(Zcl [104,111,115,116,46,111,114,103] (ZfE ra rb)).1,_,_,_,_,_,_⟩ t1 rfl (⟨Nat.zero_le _,(so),(by rw [hdu.1];exact hdu.2),(by rw [hdu.1];exact (by decide:(8:Nat)≤2000000)),huh,hfh,hih⟩) (fun g B9 hle9 hI=>?_)))))))
 obtain ⟨hk,hgp,hgo,hgd,hgu,hgf,hgi⟩:=hI
 have hgin:=hgi.len
 have hleft:=ZmJ hgo
 replace hbm:=hbm.mono hle9
 refine ZR [(0,_),(2,_),(3,_),(5,_),(6,_)] [_,_,_,_] t5 rfl (Zk (Za (xM (h:=xM (h:=Zaf (h:=Zd rfl (fun g1=>?_) (fun g1=>?_)))))))
 try simp only [sQ,ne_eq] at g1
 refine Zi (Zf (Zk (Zp (Z9 (keeps _ [3] _) mo kr ⟨Kn.le.refl _,Zaq.refl _ _⟩ (fun _ _=>?_)))))
 refine aT 0 rfl (ZD fun D B L hI=>Z5 [_,_,_,_,_] rfl rfl ZZ rfl (Zae 3 (hI.2.1.trans rfl) rfl rfl) r4) (h:=aM 1 rfl (h:=aT 2 rfl (ZD fun D B L hI=>Z5 [_,_,_,_,_] rfl rfl ZZ rfl (Zae 3 (hI.2.1.trans rfl) rfl rfl) r4) (h:=Zt 3 kr rfl kr (Z7 [0] rfl rfl rfl rfl ZwO rfl (Zor _ _ _ _ _ oz hm _ _ _ _ _ _ g.x (oy) _ hbm hgi) ?_))))
 rintro _ Be _ hlee ⟨ee,ke,rfl,hee1,hee2,hee3,hee4,hee5,hke,rfl⟩
 replace hgu:=hgu.mono Zg.mono hlee
 replace hgf:=hgf.mono Zb.mono hlee
 replace hgi:=hgi.mono Zj.mono hlee
 replace hbm:=hbm.mono hlee
 refine ⟨⟨hlee,t1⟩,(Zt 4 kr rfl kr (Z2 rfl rfl ZwP rfl (Zq9 _ _ _ _ _ _ g.x ee om2 om2 om2 om2 om2 om2 _ hgu hgf hgi) ?_))⟩
 intro vy By hley
 rintro ⟨p1y,d1y,p2y,d2y,p3y,d3y,rfl,huy,hfy,hiy,hdy⟩
 replace hgu:=hgu.mono Zg.mono hley
 replace hgf:=hgf.mono Zb.mono hley
 replace hgi:=hgi.mono Zj.mono hley
 replace hbm:=hbm.mono hley
 have huyn:=huy.len
 have hfyn:=hfy.len
 have hiyn:=hiy.len
 refine ⟨⟨(hlee.trans hley),t1⟩,(aM 5 rfl (h:=aE 6 rfl (h:=aE 7 rfl (h:=Zbb 8 kr rfl kr kr (ZN [_,_,_,_,_] 3 [_,_,_,_,_] rfl rfl Zav rfl rfl rfl rfl rfl rfl rfl rfl ?_)))))⟩
 refine Zz kr kr ?_
 refine ZA (Zf (Ze (xM (h:=xD (h:=xA (h:=?_))))))
 exact ZC ⟨g.k+1,ke,(hDo g.x ee).1,_,_,_,_,_,_⟩ [0,1,2,3] so2 ⟨so,so,Zur hgo,hdy,huy,hfy,hiy⟩ t5 rfl
 try simp only [sQ,ne_eq] at g1
 refine Z0 (Zal (Z6 (ZK (Zf (Za (xL [_,_,_,_,_] ZZ 3 (h:=xS [_,_,_,_,_] 1 [_,_,_,_,_] Zav (h:=Zu [_,_,_,_] rfl (Zh ?_)))))))))
 exact Zah .ret (.inl rfl) [_] [0] rfl ⟨⟨_,rfl,.inr ⟨[_,_,_,_,_],ZZ,Zae 1 rfl rfl rfl,rfl⟩⟩,trivial⟩ ⟨_,_,_,_,_,_,_,_,rfl,hgu,hgf,hgi,oy,hgo,so2,rfl⟩

set_option maxHeartbeats 800000 in
theorem ZjI (b:Nat) (q:Option Addr) (m cp p:Nat) (hp:p≤650000000000) (hm:m≤2000) (B:Kn) (hbm:Zac B q m):ZL (pj J) 37 [ptr ⟨b,0,none⟩] B [rd b q m cp p] (fun v B' Ls=>∃(x:DHost) (p1 p2 p3:Option Addr) (d1 d2 d3 k:Nat),v = .agg #[str x.domain,.slice p1 x.users.length d1,.slice p2 x.folders.length d2,.int .i64 x.queue.next,.slice p3 x.queue.items.length d3]∧SlK B' p1 d1 3 Zg x.users∧SlK B' p2 d2 5 Zb x.folders∧SlK B' p3 d3 4 Zj x.queue.items∧x.domain.length≤2000000∧k≤p+8000∧Ls=[rd b q m cp k]):=by
 refine Zc 57 Tryz.func37 rfl rfl rfl (Nat.le_of_ble_eq_true rfl) ?_
 refine Za (xAl [_,_,_,_,_] ZaR (h:=fun b1=>Zu [_,_] rfl (Za (xM (h:=Zo (Z7 [0] rfl rfl rfl rfl Zwu rfl (Zlq _ _ _ _ _ oz hm _ hbm) ?_))))))
 rintro _ Bh _ hleh ⟨xh,p1h,p2h,p3h,d1h,d2h,d3h,kh,rfl,huh,hfh,hih,hdh,hoh,hkh,rfl⟩
 replace hbm:=hbm.mono hleh
 have huhn:=huh.len
 have hfhn:=hfh.len
 have hihn:=hih.len
 have hpos:=ZgM hoh
 refine Zo (Zai rfl rfl ZnK rfl (Zbi _ _ _ _ _ _ xh _ huh hfh hih) ?_)
 rintro _ B3 _ hle3 ⟨l3,a3,c3,q13,c13,q33,c33,rfl,rfl,hu3,hs3,hi3⟩
 replace huh:=huh.mono Zg.mono hle3
 replace hfh:=hfh.mono Zb.mono hle3
 replace hih:=hih.mono Zj.mono hle3
 replace hbm:=hbm.mono hle3
 have hu3n:=hu3.len
 have hi3n:=hi3.len
 refine xAl [_,_,_,_,_] ZaR (h:=fun b4=>xS [_,_,_,_,_] 3 [_,_,_,_,_] Zav (h:=Zu [_,_,_,_] rfl (Zk (Za (xM (h:=xX 0 rfl Za5 rfl (ZM _ _ _ _ _ _ oz oz oz hm _ hbm) (h:=?_)))))))
 rintro _ _ ⟨rk,rfl,rka,rkb,rfl⟩
 refine Zu [_,_,_,_] rfl (Zp (Za (ZI (h:=xA (h:=Zd rfl (fun g0=>?_) (fun g0=>?_))))))
 try simp only [sQ,ne_eq] at g0
 refine Ze (xM (h:=xX 0 rfl Zw9 rfl (ZmC _ _ _ _ _ oz hm _ hbm) (h:=?_)))
 rintro _ _ ⟨x6,rfl,hx6,rfl⟩
 refine xW ZnE (h:=xS [_] 3 [_,_,_,_,_] sz9 (h:=ZA (Zf (Za (xL [_,_,_,_,_] ZZ 3 (h:=Z3 2 rfl hs3 Zb.mono om3 (fun B7 hle7 hr7=>?_)))))))
 replace hu3:=hu3.mono Zg.mono hle7
 replace hi3:=hi3.mono Zj.mono hle7
 replace hbm:=hbm.mono hle7
 have hr7n:=hr7.len
 refine xS [_,_,_,_,_] 1 [_,_,_,_,_] Zav (h:=Zu [_,_,_,_] rfl (Zh ?_))
 exact Zah .ret (.inl rfl) [_] [0] rfl ⟨⟨_,rfl,.inr ⟨[_,_,_,_,_],ZZ,Zae 1 rfl rfl rfl,rfl⟩⟩,trivial⟩ ⟨⟨x6,xh.users,xh.folders,⟨xh.queue.next,xh.queue.items⟩⟩,_,_,_,_,_,_,_,(ol),hu3,hr7,hi3,by first | assumption | omega | (simp only [];omega),so2,rfl⟩
 try simp only [sQ,ne_eq] at g0
 refine Za (ZI (h:=xA (h:=Zd rfl (fun g1=>?_) (fun g1=>?_))))
 try simp only [sQ,ne_eq] at g1
 refine Ze (xM (h:=Zo (Z7 [0] rfl rfl rfl rfl Zw8 rfl (Zop _ _ _ _ _ oz hm _ hbm) ?_)))
 rintro _ B8 _ hle8 ⟨q8,cp8,us8,p8,rfl,hu8,hun8,hp8,rfl⟩
 replace hs3:=hs3.mono Zb.mono hle8
 replace hu3:=hu3.mono Zg.mono hle8
 replace hi3:=hi3.mono Zj.mono hle8
 replace hbm:=hbm.mono hle8
 have hu8n:=hu8.len
 refine xW ZaK (h:=xS [_] 3 [_,_,_,_,_] Zvt (h:=ZA (Zf (Za (xL [_,_,_,_,_] ZZ 3 (h:=Z3 2 rfl hs3 Zb.mono om3 (fun B9 hle9 hr9=>?_)))))))
 replace hu8:=hu8.mono Zg.mono hle9
 replace hi3:=hi3.mono Zj.mono hle9
 replace hbm:=hbm.mono hle9
 have hr9n:=hr9.len
 refine xS [_,_,_,_,_] 1 [_,_,_,_,_] Zav (h:=Zu [_,_,_,_] rfl (Zh ?_))
 exact Zah .ret (.inl rfl) [_] [0] rfl ⟨⟨_,rfl,.inr ⟨[_,_,_,_,_],ZZ,Zae 1 rfl rfl rfl,rfl⟩⟩,trivial⟩ ⟨⟨xh.domain,us8,xh.folders,⟨xh.queue.next,xh.queue.items⟩⟩,_,_,_,_,_,_,_,(ol),hu8,hr9,hi3,by first | assumption | omega | (simp only [];omega),so2,rfl⟩
 try simp only [sQ,ne_eq] at g1
 refine Za (ZI (h:=xA (h:=Zd rfl (fun g2=>?_) (fun g2=>?_))))
 try simp only [sQ,ne_eq] at g2
 refine Ze (xW ZT (h:=x1 ZbV 3 (h:=Z3 2 rfl hs3 Zb.mono om3 (fun B10 hle10 hr10=>?_))))
 replace hu3:=hu3.mono Zg.mono hle10
 replace hi3:=hi3.mono Zj.mono hle10
 replace hbm:=hbm.mono hle10
 have hr10n:=hr10.len
 obtain ⟨hq11,q11,cp11,hv11,hr11⟩:=hr10.cutE 1 xh.folders.length om om
 have hr11n:=hr11.len
 refine Zo (Zft (a:=1) (b:=xh.folders.length) hv11 om hq11 rfl rfl Tryz.underlying24 ZaT rfl ⟨_,_,rfl,by first | omega | (simp;done) | (simp;omega)⟩ rfl ?_)
 refine xW ZT (h:=xS [_] 3 [_,_,_,_,_] Zpn (h:=ZA (Zf (Za (xL [_,_,_,_,_] ZZ 3 (h:=xS [_,_,_,_,_] 1 [_,_,_,_,_] Zav (h:=Zu [_,_,_,_] rfl (Zh ?_))))))))
 exact Zah .ret (.inl rfl) [_] [0] rfl ⟨⟨_,rfl,.inr ⟨[_,_,_,_,_],ZZ,Zae 1 rfl rfl rfl,rfl⟩⟩,trivial⟩ ⟨⟨xh.domain,xh.users,((xh.folders.take xh.folders.length).drop 1),⟨xh.queue.next,xh.queue.items⟩⟩,_,_,_,_,_,_,_,(ol),hu3,hr11,hi3,by first | assumption | omega | (simp only [];omega),so2,rfl⟩
 try simp only [sQ,ne_eq] at g2
 refine Za (ZI (h:=xA (h:=Zd rfl (fun g3=>?_) (fun g3=>?_))))
 try simp only [sQ,ne_eq] at g3
 refine Z9 (keeps _ [2,3] _) mo kr ⟨Kn.le.refl _,Zaq.refl _ _⟩ (fun _ _=>?_)
 refine aW 0 rfl ZT (h:=aT 1 rfl (ZD fun D B L hI=>Zl rfl rfl ZbV rfl (atL 3 (hI.2.2.1.trans rfl) rfl rfl) r4) (h:=aM 2 rfl (h:=aW 3 rfl ZT (h:=aT 4 rfl (ZD fun D B L hI=>Zl rfl rfl ZbV rfl (atL 3 (hI.2.2.1.trans rfl) rfl rfl) r4) (h:=aV 5 rfl Tryz.underlying24 (h:=aM 7 rfl (h:=Zt 6 kr rfl kr (Zci 0 rfl rfl rfl Za5 rfl (ZM _ _ _ _ _ _ oz oz oz hm _ hbm) ?_))))))))
 rintro _ _ ⟨rw,rfl,rwa,rwb,rfl⟩
 refine ⟨⟨Kn.le.refl _,t2⟩,(Zt 8 kr rfl kr (Z7 [0] rfl rfl rfl rfl Zw7 rfl (Zrx _ _ _ _ _ oz hm _ hbm) ?_))⟩
 rintro _ Ba _ hlea ⟨qa,cpa,gsa,ka,rfl,hga,hka,rfl⟩
 replace hs3:=hs3.mono Zb.mono hlea
 replace hu3:=hu3.mono Zg.mono hlea
 replace hi3:=hi3.mono Zj.mono hlea
 replace hbm:=hbm.mono hlea
 have hgan:=hga.len
 refine ⟨⟨hlea,t2⟩,?_⟩
 obtain ⟨z,hz⟩:=Zec (xs:=xh.folders) (i:=rw) om om
 obtain ⟨bb15,_,hp15,⟨qg15,cg15,qm15,cm15,rfl,hg15,hm15,hb15,hb15b⟩,hw15,hc15⟩:=hs3.row hz
 have hg15n:=hg15.len
 have hm15n:=hm15.len
 have hm15s:=ZX hm15
 refine aT 9 rfl (ZD fun D B L hI=>Zga hp15 rfl rfl Tryz.underlying24 ZaT rfl rfl om om r4) (h:=?_)
 refine aW 10 rfl ZdS (h:=ZY 11 kr rfl kr kr kr (ZdU (k:=(rw).toNat) (off:=2) (⟨z.owner,z.name,gsa,z.next,z.mail⟩) [_] 2 hs3 hp15 hz rfl rfl Zue rfl rfl rfl rfl rfl rfl (by rintro _ ⟨_,_,_,_,rfl,_,e2,e3,e4⟩;exact ⟨_,_,_,_,rfl,hga,e2,e3,e4⟩) (fun l16 hv16=>?_)))
 refine ZA (Zf (Za (xL [_,_,_,_,_] ZZ 3 (h:=Z3 2 rfl hv16 Zb.mono om3 (fun B17 hle17 hr17=>?_)))))
 replace hga:=hga.mono ZB.mono hle17
 replace hg15:=hg15.mono ZB.mono hle17
 replace hm15:=hm15.mono ZF.mono hle17
 replace hu3:=hu3.mono Zg.mono hle17
 replace hi3:=hi3.mono Zj.mono hle17
 replace hbm:=hbm.mono hle17
 have hr17n:=hr17.len
 refine xS [_,_,_,_,_] 1 [_,_,_,_,_] Zav (h:=Zu [_,_,_,_] rfl (Zh ?_))
 exact Zah .ret (.inl rfl) [_] [0] rfl ⟨⟨_,rfl,.inr ⟨[_,_,_,_,_],ZZ,Zae 1 rfl rfl rfl,rfl⟩⟩,trivial⟩ ⟨⟨xh.domain,xh.users,(xh.folders.set ((rw).toNat) (⟨z.owner,z.name,gsa,z.next,z.mail⟩)),⟨xh.queue.next,xh.queue.items⟩⟩,_,_,_,_,_,_,_,(ol),hu3,hr17,hi3,by first | assumption | omega | (simp only [];omega),so2,rfl⟩
 try simp only [sQ,ne_eq] at g3
 refine Za (ZI (h:=xA (h:=Zd rfl (fun g4=>?_) (fun g4=>?_))))
 try simp only [sQ,ne_eq] at g4
 refine Z9 (keeps _ [2,3] _) mo kr ⟨Kn.le.refl _,Zaq.refl _ _⟩ (fun _ _=>?_)
 refine aW 0 rfl ZT (h:=aT 1 rfl (ZD fun D B L hI=>Zl rfl rfl ZbV rfl (atL 3 (hI.2.2.1.trans rfl) rfl rfl) r4) (h:=aM 2 rfl (h:=aW 3 rfl ZT (h:=aT 4 rfl (ZD fun D B L hI=>Zl rfl rfl ZbV rfl (atL 3 (hI.2.2.1.trans rfl) rfl rfl) r4) (h:=aV 5 rfl Tryz.underlying24 (h:=aM 7 rfl (h:=Zt 6 kr rfl kr (Zci 0 rfl rfl rfl Za5 rfl (ZM _ _ _ _ _ _ oz oz oz hm _ hbm) ?_))))))))
 rintro _ _ ⟨rw,rfl,rwa,rwb,rfl⟩
 refine ⟨⟨Kn.le.refl _,t2⟩,(Zt 8 kr rfl kr (Z7 [0] rfl rfl rfl rfl Zw6 rfl (Zry _ _ _ _ _ oz hm _ hbm) ?_))⟩
 rintro _ Ba _ hlea ⟨qa,cpa,xa,ka,rfl,hga,hka,rfl⟩
 replace hs3:=hs3.mono Zb.mono hlea
 replace hu3:=hu3.mono Zg.mono hlea
 replace hi3:=hi3.mono Zj.mono hlea
 replace hbm:=hbm.mono hlea
 have hgan:=hga.len
 refine ⟨⟨hlea,t2⟩,?_⟩
 obtain ⟨z,hz⟩:=Zec (xs:=xh.folders) (i:=rw) om om
 obtain ⟨bb21,_,hp21,⟨qg21,cg21,qm21,cm21,rfl,hg21,hm21,hb21,hb21b⟩,hw21,hc21⟩:=hs3.row hz
 have hg21n:=hg21.len
 have hm21n:=hm21.len
 have hm21s:=ZX hm21
 refine aT 9 rfl (ZD fun D B L hI=>Zga hp21 rfl rfl Tryz.underlying24 ZaT rfl rfl om om r4) (h:=?_)
 refine aW 10 rfl ZbY (h:=ZY 11 kr rfl kr kr kr (ZdU (k:=(rw).toNat) (off:=3) (⟨z.owner,z.name,z.grants,xa.next,xa.mail⟩) [_,_] 2 hs3 hp21 hz rfl rfl ZcJ rfl rfl rfl rfl rfl rfl (by rintro _ ⟨_,_,_,_,rfl,e1,_,e3,e4⟩;exact ⟨_,_,_,_,rfl,e1,hga,e3,e4⟩) (fun l22 hv22=>?_)))
 refine ZA (Zf (Za (xL [_,_,_,_,_] ZZ 3 (h:=Z3 2 rfl hv22 Zb.mono om3 (fun B23 hle23 hr23=>?_)))))
 replace hga:=hga.mono ZF.mono hle23
 replace hg21:=hg21.mono ZB.mono hle23
 replace hm21:=hm21.mono ZF.mono hle23
 replace hu3:=hu3.mono Zg.mono hle23
 replace hi3:=hi3.mono Zj.mono hle23
 replace hbm:=hbm.mono hle23
 have hr23n:=hr23.len
 refine xS [_,_,_,_,_] 1 [_,_,_,_,_] Zav (h:=Zu [_,_,_,_] rfl (Zh ?_))
 exact Zah .ret (.inl rfl) [_] [0] rfl ⟨⟨_,rfl,.inr ⟨[_,_,_,_,_],ZZ,Zae 1 rfl rfl rfl,rfl⟩⟩,trivial⟩ ⟨⟨xh.domain,xh.users,(xh.folders.set ((rw).toNat) (⟨z.owner,z.name,z.grants,xa.next,xa.mail⟩)),⟨xh.queue.next,xh.queue.items⟩⟩,_,_,_,_,_,_,_,(ol),hu3,hr23,hi3,by first | assumption | omega | (simp only [];omega),so2,rfl⟩
 try simp only [sQ,ne_eq] at g4
 refine Za (ZI (h:=xA (h:=Zd rfl (fun g5=>?_) (fun g5=>?_))))
 try simp only [sQ,ne_eq] at g5
 refine Ze (xM (h:=Zo (Z7 [0] rfl rfl rfl rfl Zw5 rfl (Zoq _ _ _ _ _ oz hm _ hbm) ?_)))
 rintro _ B24 _ hle24 ⟨aq24,cq24,qq24,p24,rfl,hq24,hp24,rfl⟩
 replace hs3:=hs3.mono Zb.mono hle24
 replace hu3:=hu3.mono Zg.mono hle24
 replace hi3:=hi3.mono Zj.mono hle24
 replace hbm:=hbm.mono hle24
 have hq24n:=hq24.len
 refine xW ZcD (h:=xS [_,_] 3 [_,_,_,_,_] ZfL (h:=ZA (Zf (Za (xL [_,_,_,_,_] ZZ 3 (h:=Z3 2 rfl hs3 Zb.mono om3 (fun B25 hle25 hr25=>?_)))))))
 replace hq24:=hq24.mono Zj.mono hle25
 replace hu3:=hu3.mono Zg.mono hle25
 replace hbm:=hbm.mono hle25
 have hr25n:=hr25.len
 refine xS [_,_,_,_,_] 1 [_,_,_,_,_] Zav (h:=Zu [_,_,_,_] rfl (Zh ?_))
 exact Zah .ret (.inl rfl) [_] [0] rfl ⟨⟨_,rfl,.inr ⟨[_,_,_,_,_],ZZ,Zae 1 rfl rfl rfl,rfl⟩⟩,trivial⟩ ⟨⟨xh.domain,xh.users,xh.folders,⟨qq24.next,qq24.items⟩⟩,_,_,_,_,_,_,_,(ol),hu3,hr25,hq24,by first | assumption | omega | (simp only [];omega),so2,rfl⟩
 try simp only [sQ,ne_eq] at g5
 refine Zi (ZA (Zf (Za (xL [_,_,_,_,_] ZZ 3 (h:=Z3 2 rfl hs3 Zb.mono om3 (fun B26 hle26 hr26=>?_))))))
 replace hu3:=hu3.mono Zg.mono hle26
 replace hi3:=hi3.mono Zj.mono hle26
 replace hbm:=hbm.mono hle26
 have hr26n:=hr26.len
 refine xS [_,_,_,_,_] 1 [_,_,_,_,_] Zav (h:=Zu [_,_,_,_] rfl (Zh ?_))
 exact Zah .ret (.inl rfl) [_] [0] rfl ⟨⟨_,rfl,.inr ⟨[_,_,_,_,_],ZZ,Zae 1 rfl rfl rfl,rfl⟩⟩,trivial⟩ ⟨⟨xh.domain,xh.users,xh.folders,⟨xh.queue.next,xh.queue.items⟩⟩,_,_,_,_,_,_,_,(ol),hu3,hr26,hi3,by first | assumption | omega | (simp only [];omega),so2,rfl⟩

set_option maxHeartbeats 400000 in
theorem Zkh (b:Nat) (q:Option Addr) (m cp p:Nat) (hp:p≤600000000000) (hm:m≤2000) (B:Kn) (hbm:Zac B q m):ZL (pj J) 27 [ptr ⟨b,0,none⟩] B [rd b q m cp p] (fun v B' Ls=>∃(x:DHost) (p1 p2 p3:Option Addr) (d1 d2 d3 k:Nat),v = .agg #[str x.domain,.slice p1 x.users.length d1,.slice p2 x.folders.length d2,.int .i64 x.queue.next,.slice p3 x.queue.items.length d3]∧SlK B' p1 d1 3 Zg x.users∧SlK B' p2 d2 5 Zb x.folders∧SlK B' p3 d3 4 Zj x.queue.items∧x.domain.length≤2000000∧k≤p+9000∧Ls=[rd b q m cp k]):=by
 refine Zc 10 Tryz.func27 rfl rfl rfl (Nat.le_of_ble_eq_true rfl) ?_
 refine Za (xAl [_,_,_,_,_] ZaR (h:=fun b1=>Zu [_,_] rfl (Zk (Za (xM (h:=xX 0 rfl Za5 rfl (ZM _ _ _ _ _ _ oz oz oz hm _ hbm) (h:=?_)))))))
 rintro _ _ ⟨r2,rfl,r2a,r2b,rfl⟩
 refine ZI (h:=Zu [_,_] rfl (Zd rfl (fun g0=>?_) (fun g0=>?_)))
 try simp only [sQ,ne_eq] at g0
 refine Za (xM (h:=Zo (Z7 [0] rfl rfl rfl rfl Zwz rfl (ZjI _ _ _ _ _ oz hm _ hbm) ?_)))
 rintro _ Bh _ hleh ⟨xh,p1h,p2h,p3h,d1h,d2h,d3h,kh,rfl,huh,hfh,hih,hdh,hkh,rfl⟩
 replace hbm:=hbm.mono hleh
 have huhn:=huh.len
 have hfhn:=hfh.len
 have hihn:=hih.len
 refine xS [_,_,_,_,_] 1 [_,_,_,_,_] Zav (h:=Zu [_,_] rfl (Zh (Zs ?_)))
 exact Zah .ret (.inl rfl) [_] [0] rfl ⟨⟨_,rfl,.inr ⟨[_,_,_,_,_],ZZ,Zae 1 rfl rfl rfl,rfl⟩⟩,trivial⟩ ⟨_,_,_,_,_,_,_,_,rfl,huh,hfh,hih,oy,so2,rfl⟩
 try simp only [sQ,ne_eq] at g0
 refine Zi (Zf (Za (xM (h:=Zo (Z7 [0] rfl rfl rfl rfl Zwu rfl (Zlq _ _ _ _ _ oz hm _ hbm) ?_)))))
 rintro _ Bh _ hleh ⟨xh,p1h,p2h,p3h,d1h,d2h,d3h,kh,rfl,huh,hfh,hih,hdh,hoh,hkh,rfl⟩
 replace hbm:=hbm.mono hleh
 have huhn:=huh.len
 have hfhn:=hfh.len
 have hihn:=hih.len
 refine xS [_,_,_,_,_] 1 [_,_,_,_,_] Zav (h:=Zu [_,_] rfl (Zh ?_))
 exact Zah .ret (.inl rfl) [_] [0] rfl ⟨⟨_,rfl,.inr ⟨[_,_,_,_,_],ZZ,Zae 1 rfl rfl rfl,rfl⟩⟩,trivial⟩ ⟨_,_,_,_,_,_,_,_,rfl,huh,hfh,hih,oy,so2,rfl⟩

set_option maxHeartbeats 400000 in
theorem ZkD (q:Option Addr) (m cp:Nat) (hmc:m≤cp) (B:Kn) (hb:Zac B q m):ZL (pj J) 15 [.slice q m cp] B [] (fun v B' Ls=>Ls=[]∧∃(x:DHost) (p1 p2 p3:Option Addr) (d1 d2 d3:Nat),v = .agg #[str x.domain,.slice p1 x.users.length d1,.slice p2 x.folders.length d2,.int .i64 x.queue.next,.slice p3 x.queue.items.length d3]∧SlK B' p1 d1 3 Zg x.users∧SlK B' p2 d2 5 Zb x.folders∧SlK B' p3 d3 4 Zj x.queue.items∧x.domain.length≤2000000):=by
 refine Zc 6 Tryz.func15 rfl rfl rfl (Nat.le_of_ble_eq_true rfl) ?_
 refine Za (xAl [_,_,_,_,_] ZaR (h:=fun b1=>Zu [_] rfl (Za (xM (h:=Zo (ZkM rfl rfl Zvb rfl (ZhF _ _ _ oz _ (oy)) ?_))))))
 rintro _ _ ⟨bop,qop,mop,cpop,rfl,rfl,hm,hbm⟩
 refine Zo (Z7 [1] rfl rfl rfl rfl Zwz rfl (ZjI _ _ _ _ _ oz hm _ hbm) ?_)
 rintro _ Bh _ hleh ⟨xh,p1h,p2h,p3h,d1h,d2h,d3h,kh,rfl,huh,hfh,hih,hdh,hkh,rfl⟩
 replace hbm:=hbm.mono hleh
 have huhn:=huh.len
 have hfhn:=hfh.len
 have hihn:=hih.len
 refine xS [_,_,_,_,_] 0 [_,_,_,_,_] Zav (h:=Zu [_,_] rfl (Zh ?_))
 exact Zah .ret (.inl rfl) [_] [] rfl ⟨⟨_,rfl,.inr ⟨[_,_,_,_,_],ZZ,Zae 0 rfl rfl rfl,rfl⟩⟩,trivial⟩ ⟨rfl,xh,_,_,_,_,_,_,rfl,huh,hfh,hih,hdh⟩

set_option maxHeartbeats 400000 in
theorem Zr2 (q:Option Addr) (m cp:Nat) (hmc:m≤cp) (B:Kn) (hb:Zac B q m):ZL (pj J) 10 [.slice q m cp] B [] (fun v B' Ls=>Ls=[]∧∃(x:DHost) (p1 p2 p3:Option Addr) (d1 d2 d3:Nat) (w:Str),v = .tuple #[.agg #[str x.domain,.slice p1 x.users.length d1,.slice p2 x.folders.length d2,.int .i64 x.queue.next,.slice p3 x.queue.items.length d3],str w]∧SlK B' p1 d1 3 Zg x.users∧SlK B' p2 d2 5 Zb x.folders∧SlK B' p3 d3 4 Zj x.queue.items∧x.domain.length≤2000000∧w.length≤2000000):=by
 refine Zc 13 Tryz.func10 rfl rfl rfl (Nat.le_of_ble_eq_true rfl) ?_
 refine Za (xAl [_,_,_,_,_] ZaR (h:=fun b1=>xA (h:=Zu [_] rfl (Za (xM (h:=Zo (ZkM rfl rfl Zvb rfl (ZhF _ _ _ oz _ (oy)) ?_)))))))
 rintro _ _ ⟨bop,qop,mop,cpop,rfl,rfl,hm,hbm⟩
 refine xA (h:=Zu [_,_] rfl (Za (xM (h:=Zo (Z7 [1] rfl rfl rfl rfl ZvK rfl (Zkh _ _ _ _ _ oz hm _ hbm) ?_)))))
 rintro _ Bh _ hleh ⟨xh,p1h,p2h,p3h,d1h,d2h,d3h,kh,rfl,huh,hfh,hih,hdh,hkh,rfl⟩
 replace hbm:=hbm.mono hleh
 have huhn:=huh.len
 have hfhn:=hfh.len
 have hihn:=hih.len
 refine xAl [_,_,_,_,_] ZaR (h:=fun b4=>xS [_,_,_,_,_] 2 [_,_,_,_,_] Zav (h:=Zu [_,_,_] rfl (Zk (Z9 (keeps _ [2] _) mo kr ⟨Kn.le.refl _,Zaq.refl _ _⟩ (fun _ _=>?_)))))
 refine aT 0 rfl (ZD fun D B L hI=>Z5 [_,_,_,_,_] rfl rfl ZZ rfl (Zae 2 (hI.2.1.trans rfl) rfl rfl) r4) (h:=aM 1 rfl (h:=Zt 2 kr rfl kr (Zci 1 rfl rfl rfl Zva rfl (Zgr _ _ _ _ _ oz hm _ hbm) ?_)))
 rintro _ _ ⟨x5,k5,rfl,hx5,hk5,rfl⟩
 refine ⟨⟨Kn.le.refl _,t1⟩,(Zbb 3 kr rfl kr kr (ZN [_,_,_,_,_] 0 [_,_,_,_,_] rfl rfl Zav rfl rfl rfl rfl rfl rfl rfl rfl ?_))⟩
 refine aA 4 rfl (h:=Zz kr kr ?_)
 refine Zf (Zu [_,_,_] rfl (Zh ?_))
 exact Zah .ret (.inl rfl) [_,_] [] rfl ⟨⟨_,rfl,.inr ⟨[_,_,_,_,_],ZZ,Zae 0 rfl rfl rfl,rfl⟩⟩,rfl,trivial⟩ ⟨rfl,xh,_,_,_,_,_,_,_,rfl,huh,hfh,hih,hdh,oa⟩

set_option maxHeartbeats 400000 in
theorem Zr3 (q:Option Addr) (m cp:Nat) (hmc:m≤cp) (B:Kn) (hb:Zac B q m):ZL (pj J) 20 [.slice q m cp] B [] (fun v B' Ls=>Ls=[]∧∃(x:DHost) (p1 p2 p3:Option Addr) (d1 d2 d3:Nat) (y z:Str),v = .tuple #[.agg #[str x.domain,.slice p1 x.users.length d1,.slice p2 x.folders.length d2,.int .i64 x.queue.next,.slice p3 x.queue.items.length d3],str y,str z]∧SlK B' p1 d1 3 Zg x.users∧SlK B' p2 d2 5 Zb x.folders∧SlK B' p3 d3 4 Zj x.queue.items∧x.domain.length≤2000000∧y.length≤2000000∧z.length≤2000000):=by
 refine Zc 22 Tryz.func20 rfl rfl rfl (Nat.le_of_ble_eq_true rfl) ?_
 refine Za (xAl [_,_,_,_,_] ZaR (h:=fun b1=>xA (h:=xA (h:=Zu [_] rfl (Za (xM (h:=Zo (ZkM rfl rfl Zvb rfl (ZhF _ _ _ oz _ (oy)) ?_))))))))
 rintro _ _ ⟨bop,qop,mop,cpop,rfl,rfl,hm,hbm⟩
 refine xA (h:=Zu [_,_] rfl (Za (xM (h:=Zo (Z7 [1] rfl rfl rfl rfl ZvK rfl (Zkh _ _ _ _ _ oz hm _ hbm) ?_)))))
 rintro _ Bh _ hleh ⟨xh,p1h,p2h,p3h,d1h,d2h,d3h,kh,rfl,huh,hfh,hih,hdh,hkh,rfl⟩
 replace hbm:=hbm.mono hleh
 have huhn:=huh.len
 have hfhn:=hfh.len
 have hihn:=hih.len
 refine xAl [_,_,_,_,_] ZaR (h:=fun b4=>xS [_,_,_,_,_] 2 [_,_,_,_,_] Zav (h:=Zu [_,_,_] rfl (Za (xM (h:=xL [_,_,_,_,_] ZZ 2 (h:=xX 1 rfl Zxf rfl (Zrw _ _ _ _ _ oz hm _ _ _ _ _ _ _ _ hbm hfh) (h:=?_)))))))
 rintro _ _ ⟨y5,z5,k5,rfl,hy5,hz5,hk5,rfl⟩
 refine xM (h:=xE (h:=xE (h:=xA (h:=xA (h:=Zu [_,_,_] rfl (Za (xL [_,_,_,_,_] ZZ 2 (h:=xM (h:=xM (h:=xS [_,_,_,_,_] 0 [_,_,_,_,_] Zav (h:=xA (h:=xA (h:=?_)))))))))))))
 refine Zu [_,_,_] rfl (Zh ?_)
 exact Zah .ret (.inl rfl) [_,_,_] [] rfl ⟨⟨_,rfl,.inr ⟨[_,_,_,_,_],ZZ,Zae 0 rfl rfl rfl,rfl⟩⟩,rfl,rfl,trivial⟩ ⟨rfl,xh,_,_,_,_,_,_,_,_,rfl,huh,hfh,hih,hdh,oa,oa⟩

set_option maxHeartbeats 400000 in
theorem ZnL (q:Option Addr) (m cp:Nat) (hmc:m≤cp) (B:Kn) (hb:Zac B q m):ZL (pj J) 22 [.slice q m cp] B [] (fun v B' Ls=>Ls=[]∧∃(x:DHost) (p1 p2 p3:Option Addr) (d1 d2 d3:Nat) (y z:Str),v = .tuple #[.agg #[str x.domain,.slice p1 x.users.length d1,.slice p2 x.folders.length d2,.int .i64 x.queue.next,.slice p3 x.queue.items.length d3],str y,str z]∧SlK B' p1 d1 3 Zg x.users∧SlK B' p2 d2 5 Zb x.folders∧SlK B' p3 d3 4 Zj x.queue.items∧x.domain.length≤2000000∧y.length≤2000000∧z.length≤2000000):=by
 refine Zc 21 Tryz.func22 rfl rfl rfl (Nat.le_of_ble_eq_true rfl) ?_
 refine Za (xAl [_,_,_,_,_] ZaR (h:=fun b1=>xA (h:=xA (h:=Zu [_] rfl (Za (xM (h:=Zo (ZkM rfl rfl Zvb rfl (ZhF _ _ _ oz _ (oy)) ?_))))))))
 rintro _ _ ⟨bop,qop,mop,cpop,rfl,rfl,hm,hbm⟩
 refine xA (h:=Zu [_,_] rfl (Za (xM (h:=Zo (Z7 [1] rfl rfl rfl rfl ZvK rfl (Zkh _ _ _ _ _ oz hm _ hbm) ?_)))))
 rintro _ Bh _ hleh ⟨xh,p1h,p2h,p3h,d1h,d2h,d3h,kh,rfl,huh,hfh,hih,hdh,hkh,rfl⟩
 replace hbm:=hbm.mono hleh
 have huhn:=huh.len
 have hfhn:=hfh.len
 have hihn:=hih.len
 refine xAl [_,_,_,_,_] ZaR (h:=fun b4=>xS [_,_,_,_,_] 2 [_,_,_,_,_] Zav (h:=Zu [_,_,_] rfl (Za (xM (h:=xX 1 rfl Zva rfl (Zgr _ _ _ _ _ oz hm _ hbm) (h:=?_))))))
 rintro _ _ ⟨x5,k5,rfl,hx5,hk5,rfl⟩
 refine xA (h:=Zu [_,_,_] rfl (Zk (Z9 (keeps _ [2] _) mo kr ⟨Kn.le.refl _,Zaq.refl _ _⟩ (fun _ _=>?_))))
 refine aT 0 rfl (ZD fun D B L hI=>Z5 [_,_,_,_,_] rfl rfl ZZ rfl (Zae 2 (hI.2.1.trans rfl) rfl rfl) r4) (h:=aM 1 rfl (h:=aM 2 rfl (h:=aW 3 rfl ZaK (h:=aT 4 rfl (ZD fun D B L hI=>Zl rfl rfl Zfj rfl (atL 2 (hI.2.1.trans rfl) rfl rfl) r4) (h:=aM 5 rfl (h:=Zt 6 kr rfl kr (Zci 1 rfl rfl rfl Zxe rfl (Zp0 _ _ _ _ _ oz hm _ _ _ _ _ hbm huh) ?_)))))))
 rintro _ _ ⟨x6,k6,rfl,hx6,hk6,rfl⟩
 refine ⟨⟨Kn.le.refl _,t1⟩,(Zbb 7 kr rfl kr kr (ZN [_,_,_,_,_] 0 [_,_,_,_,_] rfl rfl Zav rfl rfl rfl rfl rfl rfl rfl rfl ?_))⟩
 refine aA 8 rfl (h:=aA 9 rfl (h:=Zz kr kr ?_))
 refine Zf (Zu [_,_,_] rfl (Zh ?_))
 exact Zah .ret (.inl rfl) [_,_,_] [] rfl ⟨⟨_,rfl,.inr ⟨[_,_,_,_,_],ZZ,Zae 0 rfl rfl rfl,rfl⟩⟩,rfl,rfl,trivial⟩ ⟨rfl,xh,_,_,_,_,_,_,_,_,rfl,huh,hfh,hih,hdh,oa,oa⟩

set_option maxHeartbeats 400000 in
theorem Zk7 (q1 q2 q3:Option Addr) (c1 c2 c3:Nat) (x:DHost) (o n:Str) (ho:o.length≤2000000) (hn:n.length≤2000000) (hd:x.domain.length≤2000000) (B:Kn) (hu:SlK B q1 c1 3 Zg x.users) (hf:SlK B q2 c2 5 Zb x.folders) (hi:SlK B q3 c3 4 Zj x.queue.items):ZL (pj J) 21 [.agg #[str x.domain,.slice q1 x.users.length c1,.slice q2 x.folders.length c2,.int .i64 x.queue.next,.slice q3 x.queue.items.length c3],str o,str n] B [] (fun v B' Ls=>Ls=[]∧∃qa ca qb cb,v = .tuple #[.agg #[str (ZP x o n).1.owner,str (ZP x o n).1.name,.slice qa (ZP x o n).1.grants.length ca,.int .i64 (ZP x o n).1.next,.slice qb (ZP x o n).1.mail.length cb],.bool (ZP x o n).2]∧SlK B' qa ca 2 ZB (ZP x o n).1.grants∧SlK B' qb cb 3 ZF (ZP x o n).1.mail):=by
 refine Zc 28 Tryz.func21 rfl rfl rfl (Nat.le_of_ble_eq_true rfl) ?_
 have hfn:=hf.len
 have hix:=Zdw (inF o n) x.folders
 refine Za (xBx [_,_,_,_,_] (h:=fun b1=>xAl [_,_,_,_,_] ZcS (h:=fun b2=>xA (h:=Zu [_,_] rfl (Zk (Za (xL [_,_,_,_,_] ZZ 0 (h:=xR Zl8 rfl (ZaG _ _ _ _ _ _ x om2 _ hu hf hi) (h:=?_)))))))))
 refine xN (h:=xM (h:=Zq (d:=11) rfl (fun g1=>?_) (fun g1=>?_)))
 try simp only [sQ,ne_eq] at g1
 rw [Zfz (x:=x) (o:=o) (n:=n) (by simpa using g1)]
 refine xP (h:=xP (h:=xP (h:=xP (h:=xP (h:=xT (h:=Zd (t:=true) rfl (fun _=>Za (xB [] [_,_,_,_,_] [_,_,_,_,_] Zs3 ZcS (h:=xS [_,_,_,_,_] 1 [_,_,_,_,_] ZaT (h:=xA (h:=Zu [_,_] rfl (Zh (Zs ?_))))))) (fun h=>Bool.noConfusion h)))))))
 exact Zah .ret (.inl rfl) [_,_] [] rfl ⟨⟨_,rfl,.inr ⟨[_,_,_,_,_],ZeC,Zae 1 rfl rfl rfl,rfl⟩⟩,rfl,trivial⟩ ⟨rfl,none,0,none,0,rfl,SlK.nil,SlK.nil⟩
 try simp only [sQ,ne_eq] at g1
 refine xL [_,_,_,_,_] ZZ 0 (h:=xM (h:=xM (h:=xR ZrY rfl (Zcx _ _ _ _ _ _ x o n om2 om2 _ hf) (h:=?_))))
 refine Zaf (h:=xF (h:=Zd rfl (fun g2=>?_) (fun g2=>?_)))
 try simp only [sQ,ne_eq] at g2
 rw [Ze3 (x:=x) (o:=o) (n:=n) oz]
 refine Za (xB [] [_,_,_,_,_] [_,_,_,_,_] Zs3 ZcS (h:=xS [_,_,_,_,_] 1 [_,_,_,_,_] ZaT (h:=xA (h:=Zu [_,_] rfl (Zh (Zs ?_))))))
 exact Zah .ret (.inl rfl) [_,_] [] rfl ⟨⟨_,rfl,.inr ⟨[_,_,_,_,_],ZeC,Zae 1 rfl rfl rfl,rfl⟩⟩,rfl,trivial⟩ ⟨rfl,none,0,none,0,rfl,SlK.nil,SlK.nil⟩
 try simp only [sQ,ne_eq] at g2
 refine Zi (Zf (Zk (Z9 (keeps _ [0] _) mo kr ⟨Kn.le.refl _,Zaq.refl _ _⟩ (fun _ _=>?_))))
 refine aW 0 rfl ZT (h:=aT 1 rfl (ZD fun D B L hI=>Zl rfl rfl ZbV rfl (atL 0 (hI.2.1.trans rfl) rfl rfl) r4) (h:=aT 2 rfl (ZD fun D B L hI=>Z5 [_,_,_,_,_] rfl rfl ZZ rfl (Zae 0 (hI.2.1.trans rfl) rfl rfl) r4) (h:=aM 3 rfl (h:=aM 4 rfl (h:=aT 5 rfl (ZD fun D B L hI=>ZaS rfl rfl ZrY rfl (Zcx _ _ _ _ _ _ x o n om2 om2 _ (hf.mono Zb.mono hI.1)) r4) (h:=?_))))))
 obtain ⟨w,hw⟩:=Zec (xs:=x.folders) (i:=(Za0 (inF o n) x.folders)) om om
 obtain ⟨bb7,oo7,rfl⟩:=hf.base hw
 obtain ⟨_,⟨qg8,cg8,qm8,cm8,rfl,hg8,hm8,hb8,hb8b⟩,hc8⟩:=hf.elem hw
 have hg8n:=hg8.len
 have hm8n:=hm8.len
 have hm8s:=ZX hm8
 refine aIx 6 rfl Tryz.underlying24 ZaT (h:=aT 7 rfl (ZD fun D B L hI=>Z5 [_,_,_,_,_] rfl rfl ZeC rfl (Zic (hc8.mono hI.1) 0 rfl rfl) r4) (h:=Zt 8 kr rfl kr (Zai rfl rfl Zwv rfl (Zip _ _ _ _ w _ hg8 hm8) ?_)))
 rintro _ _ _ hle9 ⟨rfl,l9,a9,c9,l9b,a9b,c9b,rfl,rfl,hs9,hs9b⟩
 refine ⟨⟨Kn.le.refl _,t1⟩,(ZaF 2 rfl hs9 ZB.mono om3 (fun B' hle'=>⟨hle',t1⟩) (fun B10 hle10 hr10=>?_))⟩
 replace hu:=hu.mono Zg.mono hle10
 replace hf:=hf.mono Zb.mono hle10
 replace hi:=hi.mono Zj.mono hle10
 replace hg8:=hg8.mono ZB.mono hle10
 replace hm8:=hm8.mono ZF.mono hle10
 replace hc8:=hc8.mono hle10
 replace hs9b:=hs9b.mono ZF.mono hle10
 have hr10n:=hr10.len
 refine ZaF 3 rfl hs9b ZF.mono om3 (fun B' hle'=>⟨hle10.trans hle',t1⟩) (fun B11 hle11 hr11=>?_)
 replace hu:=hu.mono Zg.mono hle11
 replace hf:=hf.mono Zb.mono hle11
 replace hi:=hi.mono Zj.mono hle11
 replace hg8:=hg8.mono ZB.mono hle11
 replace hm8:=hm8.mono ZF.mono hle11
 replace hc8:=hc8.mono hle11
 replace hr10:=hr10.mono ZB.mono hle11
 have hr11n:=hr11.len
 refine Zbb 9 kr rfl kr kr (ZN [_,_,_,_,_] 1 [_,_,_,_,_] rfl rfl ZaT rfl rfl rfl rfl rfl rfl rfl rfl ?_)
 refine aA 10 rfl (h:=Zz kr kr ?_)
 refine Zf (Zu [_,_,_,_] rfl (Zh ?_))
 exact Zah .ret (.inl rfl) [_,_] [] rfl ⟨⟨_,rfl,.inr ⟨[_,_,_,_,_],ZeC,Zae 1 rfl rfl rfl,rfl⟩⟩,rfl,trivial⟩ (by rw [Ze2 (x:=x) (o:=o) (n:=n) (by simpa using g1) oz hw];exact ⟨rfl,_,_,_,_,rfl,hr10,hr11⟩)

set_option maxHeartbeats 1600000 in
theorem ZrT (q:Option Addr) (m cp:Nat) (hmc:m≤cp) (B:Kn) (hb:Zac B q m) :∃code,Tryz.f3.body=some code∧wpS (pj (ZeI Tryz.prog)) 78 code (Zfr (pj (ZeI Tryz.prog)) [.tmp 2] (fun v B' Ls=>v = .bool true)) (ZcI [.slice q m cp] 0) [] B []:=by
 have hJ:=Zck Tryz.prog
 refine ⟨_,rfl,(Za (xA (h:=Zk (Za (xM (h:=xV Tryz.underlying22 (h:=Zbf (h:=Zd rfl (fun g0=>?_) (fun g0=>?_)))))))))⟩
 try simp only [sQ,ne_eq] at g0
 refine Za (xA (h:=Zh (Zs ?_)))
 exact ZW .ret (.inl rfl) [_] t1 rfl
 try simp only [sQ,ne_eq] at g0
 refine Zi (Zf (Za (xM (h:=Zo (Z2 rfl rfl Zxw rfl (Zr2 _ _ _ oz _ (oy)) ?_)))))
 intro va Ba hlea
 rintro ⟨xa,p1a,p2a,p3a,d1a,d2a,d3a,wa,rfl,hua,hfa,hia,hda,hwa⟩
 have huan:=hua.len
 have hfan:=hfa.len
 have hian:=hia.len
 refine xM (h:=xE (h:=xE (h:=xAl [_,_,_,_,_] ZaR (h:=fun b2=>xS [_,_,_,_,_] 0 [_,_,_,_,_] Zav (h:=xA (h:=Zu [_] rfl (Za (xL [_,_,_,_,_] ZZ 0 (h:=xM (h:=Zo (Z2 rfl rfl ZwH rfl (ZjL hJ _ _ _ _ _ _ xa wa om2 om2 _ hua hfa hia) ?_)))))))))))
 intro v3 B3 hle3
 rintro rfl
 replace hua:=hua.mono Zg.mono hle3
 replace hfa:=hfa.mono Zb.mono hle3
 replace hia:=hia.mono Zj.mono hle3
 refine xA (h:=Za (xL [_,_,_,_,_] ZZ 0 (h:=xM (h:=xR Zxv rfl (Zn1 _ _ _ _ _ _ xa wa om2 _ hua hfa hia) (h:=?_)))))
 refine xA (h:=Zk (Za (xM (h:=xM (h:=Zdq (h:=xM (h:=Zq (d:=28) rfl (fun g1=>by simp at g1) (fun g1=>?_))))))))
 try simp only [sQ,ne_eq] at g1
 refine xM (h:=Zaf (h:=xF (h:=Zd rfl (fun g2=>?_) (fun g2=>?_))))
 try simp only [sQ,ne_eq] at g2
 refine Za (xM (h:=xM (h:=ZI (h:=xA (h:=Zh (Zs ?_))))))
 exact ZW .ret (.inl rfl) [_] t1 (Zm (by simp))
 try simp only [sQ,ne_eq] at g2
 obtain ⟨hok,hiu,hue⟩:=Zlz (x:=xa) (u:=wa) oz
 have huq:=ZnV hok hiu
 have hui:=Zhi hok wa
 have hub:=ZfZ hok wa
 refine Zi (Zf (Za (xA (h:=Zk (Za (xA (h:=Zp (ZS (α:=Nat × Int) [0,2,3,4,5,6,13,31] (fun g=>[(7,.int .i64 g.2),(8,.int .i64 g.1)]) [] (fun g=>[]) (fun g Bx=>Bx=B3∧g.1≤xa.folders.length∧g.2=ZeE (xa.folders.take g.1) wa∧-1*g.1≤g.2∧g.2≤g.1*200) (fun g=>xa.folders.length - g.1) (0,0) t2 rfl (⟨rfl,Nat.zero_le _,by simp [ZeE],by simp,by simp⟩) (fun g B5 hle5 hI=>?_)))))))))
 obtain ⟨rfl,hk,hs,hl0,hl1⟩:=hI
 refine ZR [(0,_),(2,_),(3,_),(4,_),(5,_),(6,_),(7,_),(8,_),(13,_),(31,_)] [_] t10 rfl (Zk (Za (xM (h:=xW ZT (h:=x1 ZbV 0 (h:=xV Tryz.underlying24 (h:=Zaf (h:=Zd rfl (fun g3=>?_) (fun g3=>?_)))))))))
 try simp only [sQ,ne_eq] at g3
 refine Zi (Zf (Zk (Zp (Za (xW ZT (h:=x1 ZbV 0 (h:=xM (h:=?_))))))))
 obtain ⟨m,hm⟩:=Zar (xs:=xa.folders) (i:=g.1) om
 obtain ⟨bb7,oo7,rfl⟩:=hfa.base hm
 obtain ⟨_,⟨qg8,cg8,qm8,cm8,rfl,hg8,hm8,hb8,hb8b⟩,hc8⟩:=hfa.elem hm
 have hg8n:=hg8.len
 have hm8n:=hm8.len
 have hm8s:=ZX hm8
 refine xIx Tryz.underlying24 ZaT (h:=xW Zce (h:=y1 lk9 hc8 0 (h:=xM (h:=Zcs (h:=Zd rfl (fun g4=>?_) (fun g4=>?_))))))
 try simp only [sQ,ne_eq] at g4
 have hbs:=ZgT (⟨m.next,m.mail⟩:DBox)
 refine Ze (xM (h:=xW ZT (h:=x1 ZbV 0 (h:=xM (h:=xIx Tryz.underlying24 ZaT (h:=xW ZbY (h:=yL [_,_] ZbL hc8 3 (h:=xR ZwG rfl (ZlR _ _ (⟨m.next,m.mail⟩:DBox) _ hm8) (h:=xD (h:=xA (h:=ZA (Zf (Ze ?_)))))))))))))
 refine xM (h:=xD (h:=xA (h:=?_)))
 exact ZC (g.1+1,g.2+ZdC ⟨m.next,m.mail⟩) [0] so2 ⟨rfl,so,by rw [Zfg hm,← hs,if_pos g4],so,so⟩ t10 rfl
 try simp only [sQ,ne_eq] at g4
 refine Zi (ZA (Zf (Ze (xM (h:=xD (h:=xA (h:=?_)))))))
 exact ZC (g.1+1,g.2) [0] so2 ⟨rfl,so,by rw [Zfg hm,← hs,if_neg g4,Int.add_zero],so,so⟩ t10 rfl
 try simp only [sQ,ne_eq] at g3
 have hse:=Zk0 hs oz
 refine Z0 (Zal (Z6 (ZK (Zf (Za (xW ZaK (h:=x1 Zfj 0 (h:=xM (h:=xR Zvc rfl (Zem _ _ _ wa om2 _ hua) (h:=?_))))))))))
 refine xM (h:=xE (h:=xE (h:=xAl [_,_,_] ZeJ (h:=fun b11=>xS [_,_,_] 1 [_,_,_] Zdi (h:=xA (h:=Zu [_,_] rfl (Za (xM (h:=xM (h:=Zq (d:=67) rfl (fun g5=>?_) (fun g5=>by rw [huq.1] at g5;cases g5)))))))))))
 try simp only [sQ,ne_eq] at g5
 refine xM (h:=xM (h:=ZI (h:=xT (h:=xM (h:=Zq (d:=72) rfl (fun g6=>?_) (fun g6=>by exact absurd (hse.trans (hui.trans hue.symm)) (of_decide_eq_false g6)))))))
 try simp only [sQ,ne_eq] at g6
 refine xM (h:=xW ZfA (h:=x1 lk3 1 (h:=ZcF (h:=xT (h:=xA (h:=Zh ?_))))))
 exact ZW .ret (.inl rfl) [_] t1 (Zm (decide_eq_true (by rw [hse,hui];exact huq.2)))

set_option maxHeartbeats 1600000 in
theorem ZrU (q:Option Addr) (m cp:Nat) (hmc:m≤cp) (B:Kn) (hb:Zac B q m) :∃code,Tryz.f8.body=some code∧wpS (pj (ZeI Tryz.prog)) 65 code (Zfr (pj (ZeI Tryz.prog)) [.tmp 2] (fun v B' Ls=>v = .bool true)) (ZcI [.slice q m cp] 0) [] B []:=by
 have hJ:=Zck Tryz.prog
 refine ⟨_,rfl,(Za (xA (h:=Zk (Za (xM (h:=xV Tryz.underlying22 (h:=Zbf (h:=Zd rfl (fun g0=>?_) (fun g0=>?_)))))))))⟩
 try simp only [sQ,ne_eq] at g0
 refine Za (xA (h:=Zh (Zs ?_)))
 exact ZW .ret (.inl rfl) [_] t1 rfl
 try simp only [sQ,ne_eq] at g0
 refine Zi (Zf (Za (xM (h:=Zo (Z2 rfl rfl ZwF rfl (ZnL _ _ _ oz _ (oy)) ?_)))))
 intro va Ba hlea
 rintro ⟨xa,p1a,p2a,p3a,d1a,d2a,d3a,ya,za,rfl,hua,hfa,hia,hda,hya,hza⟩
 have huan:=hua.len
 have hfan:=hfa.len
 have hian:=hia.len
 refine xM (h:=xE (h:=xE (h:=xE (h:=xAl [_,_,_,_,_] ZaR (h:=fun b2=>xS [_,_,_,_,_] 0 [_,_,_,_,_] Zav (h:=xA (h:=xA (h:=Zu [_] rfl (Za (xL [_,_,_,_,_] ZZ 0 (h:=xM (h:=xM (h:=?_)))))))))))))
 refine Zo (Z2 rfl rfl ZwE rfl (ZjM hJ _ _ _ _ _ _ xa ya za om2 om2 om2 _ hua hfa hia) ?_)
 intro v3 B3 hle3
 rintro rfl
 replace hua:=hua.mono Zg.mono hle3
 replace hfa:=hfa.mono Zb.mono hle3
 replace hia:=hia.mono Zj.mono hle3
 refine xM (h:=xE (h:=xE (h:=xAl [_,_,_] Zl9 (h:=fun b4=>xS [_,_,_] 1 [_,_,_] Zpm (h:=xA (h:=Zu [_,_] rfl (Za (xL [_,_,_,_,_] ZZ 0 (h:=xM (h:=xM (h:=xR ZwD rfl (Zjr _ _ _ _ _ _ xa ya za om2 om2 om2 _ hua hfa hia) (h:=?_))))))))))))
 refine xM (h:=xE (h:=xE (h:=xAl [_,_,_] Zl9 (h:=fun b6=>xS [_,_,_] 2 [_,_,_] Zpm (h:=xA (h:=Zu [_,_,_] rfl (Zk (Za (xM (h:=xM (h:=Zo (Zjk rfl rfl rfl rfl rfl (Zc7 Tryz.underlying4) (xM (h:=?_))))))))))))))
 refine Zq (d:=36) rfl (fun g1=>by simp at g1) (fun g1=>?_)
 try simp only [sQ,ne_eq] at g1
 refine xL [_,_,_] Zkf 1 (h:=xL [_,_,_] Zkf 2 (h:=Zo (Zm8 (rs:=[_,_,_]) rfl rfl rfl rfl ZnF ⟨⟨_,_,rfl,rfl,ZbN Tryz.underlying9⟩,⟨_,_,rfl,rfl,ZbN Tryz.underlying9⟩,⟨_,_,rfl,rfl,ZbN Tryz.underlying9⟩,trivial⟩ (xF (h:=xM (h:=Zq (d:=41) rfl (fun g2=>by simp at g2) (fun g2=>?_)))))))
 try simp only [sQ,ne_eq] at g2
 refine xM (h:=xN (h:=xF (h:=Zd rfl (fun g3=>?_) (fun g3=>?_))))
 try simp only [sQ,ne_eq] at g3
 refine Za (xM (h:=xM (h:=Zo (Zfs rfl rfl rfl rfl rfl (Zc7 Tryz.underlying4) (xM (h:=Zq (d:=48) rfl (fun g4=>?_) (fun g4=>by simp at g4)))))))
 try simp only [sQ,ne_eq] at g4
 refine xL [_,_,_] Zkf 1 (h:=xL [_,_,_] Zkf 2 (h:=Zo (Zsx (rs:=[_,_,_]) rfl rfl rfl rfl ZnF ⟨⟨_,_,rfl,rfl,ZbN Tryz.underlying9⟩,⟨_,_,rfl,rfl,ZbN Tryz.underlying9⟩,⟨_,_,rfl,rfl,ZbN Tryz.underlying9⟩,trivial⟩ (xT (h:=xA (h:=Zh (Zs ?_)))))))
 exact ZW .ret (.inl rfl) [_] t1 (Zm (by simp))
 try simp only [sQ,ne_eq] at g3
 obtain ⟨hok,hpr,hse⟩:=Zlc (by simpa using g3)
 refine Zi (Zf (Za (xL [_,_,_] Zkf 1 (h:=xM (h:=xM (h:=xB [(0,_),(1,_),(2,_)] [_,_,_] [_,_,_] Zsz Zl9 (h:=Zo (Zsx (rs:=[_,_,_]) rfl rfl rfl rfl ZnF ⟨⟨_,_,rfl,rfl,ZbN Tryz.underlying9⟩,⟨_,_,rfl,rfl,ZbN Tryz.underlying9⟩,⟨_,_,rfl,rfl,ZbN Tryz.underlying9⟩,trivial⟩ (xM (h:=Zq (d:=58) rfl (fun g5=>?_) (fun g5=>by rw [hse] at g5;simp [inbox] at g5)))))))))))
 try simp only [sQ,ne_eq] at g5
 refine xW ZaK (h:=x1 Zfj 0 (h:=xM (h:=xM (h:=xR ZvL rfl (ZfY _ _ xa.users ya om2 za om2 _ hua) (h:=?_)))))
 refine xT (h:=xA (h:=Zh ?_))
 exact ZW .ret (.inl rfl) [_] t1 (Zm hpr)

set_option maxHeartbeats 1600000 in
theorem Zkx (q:Option Addr) (m cp:Nat) (hmc:m≤cp) (B:Kn) (hb:Zac B q m) :∃code,Tryz.f9.body=some code∧wpS (pj (ZeI Tryz.prog)) 52 code (Zfr (pj (ZeI Tryz.prog)) [.tmp 2] (fun v B' Ls=>v = .bool true)) (ZcI [.slice q m cp] 0) [] B []:=by
 have hJ:=Zck Tryz.prog
 refine ⟨_,rfl,(Za (xA (h:=Zk (Za (xM (h:=xV Tryz.underlying22 (h:=Zbf (h:=Zd rfl (fun g0=>?_) (fun g0=>?_)))))))))⟩
 try simp only [sQ,ne_eq] at g0
 refine Za (xA (h:=Zh (Zs ?_)))
 exact ZW .ret (.inl rfl) [_] t1 rfl
 try simp only [sQ,ne_eq] at g0
 refine Zi (Zf (Za (xM (h:=Zo (Z2 rfl rfl ZwF rfl (ZnL _ _ _ oz _ (oy)) ?_)))))
 intro va Ba hlea
 rintro ⟨xa,p1a,p2a,p3a,d1a,d2a,d3a,ya,za,rfl,hua,hfa,hia,hda,hya,hza⟩
 have huan:=hua.len
 have hfan:=hfa.len
 have hian:=hia.len
 refine xM (h:=xE (h:=xE (h:=xE (h:=xAl [_,_,_,_,_] ZaR (h:=fun b2=>xS [_,_,_,_,_] 0 [_,_,_,_,_] Zav (h:=xA (h:=xA (h:=Zu [_] rfl (Za (xL [_,_,_,_,_] ZZ 0 (h:=xM (h:=xM (h:=?_)))))))))))))
 refine Zo (Z2 rfl rfl ZwE rfl (ZjM hJ _ _ _ _ _ _ xa ya za om2 om2 om2 _ hua hfa hia) ?_)
 intro v3 B3 hle3
 rintro rfl
 replace hua:=hua.mono Zg.mono hle3
 replace hfa:=hfa.mono Zb.mono hle3
 replace hia:=hia.mono Zj.mono hle3
 refine xM (h:=xE (h:=xE (h:=xAl [_,_,_] Zl9 (h:=fun b4=>xS [_,_,_] 1 [_,_,_] Zpm (h:=xA (h:=Zu [_,_] rfl (Za (xL [_,_,_,_,_] ZZ 0 (h:=xM (h:=xM (h:=xR ZwD rfl (Zjr _ _ _ _ _ _ xa ya za om2 om2 om2 _ hua hfa hia) (h:=?_))))))))))))
 refine xM (h:=xE (h:=xE (h:=xAl [_,_,_] Zl9 (h:=fun b6=>xS [_,_,_] 2 [_,_,_] Zpm (h:=xA (h:=Zu [_,_,_] rfl (Zk (Za (xM (h:=xM (h:=Zo (Zjk rfl rfl rfl rfl rfl (Zc7 Tryz.underlying4) (xM (h:=?_))))))))))))))
 refine Zq (d:=36) rfl (fun g1=>by simp at g1) (fun g1=>?_)
 try simp only [sQ,ne_eq] at g1
 refine xL [_,_,_] Zkf 1 (h:=xL [_,_,_] Zkf 2 (h:=Zo (Zm8 (rs:=[_,_,_]) rfl rfl rfl rfl ZnF ⟨⟨_,_,rfl,rfl,ZbN Tryz.underlying9⟩,⟨_,_,rfl,rfl,ZbN Tryz.underlying9⟩,⟨_,_,rfl,rfl,ZbN Tryz.underlying9⟩,trivial⟩ (xF (h:=Zd rfl (fun g2=>by simp at g2) (fun g2=>?_))))))
 try simp only [sQ,ne_eq] at g2
 refine Zi (Zf (Za (xM (h:=xL [_,_,_,_,_] ZZ 0 (h:=Zo (Z2 rfl rfl ZoI rfl (ZaV hJ _ _ _ _ _ _ xa om2 _ hua hfa hia) ?_))))))
 intro v7 B7 hle7
 rintro rfl
 replace hua:=hua.mono Zg.mono hle7
 replace hfa:=hfa.mono Zb.mono hle7
 replace hia:=hia.mono Zj.mono hle7
 refine xM (h:=Zq (d:=44) rfl (fun g3=>?_) (fun g3=>?_))
 try simp only [sQ,ne_eq] at g3
 refine xW ZaK (h:=x1 Zfj 0 (h:=xM (h:=xM (h:=xR ZvL rfl (ZfY _ _ xa.users ya om2 za om2 _ hua) (h:=?_)))))
 refine xT (h:=Zo (Zfs rfl rfl rfl rfl rfl (Zc7 Tryz.underlying4) (xA (h:=Zh ?_))))
 exact ZW .ret (.inl rfl) [_] t1 (Zm (by rw [Zha,g3];simp))
 try simp only [sQ,ne_eq] at g3
 refine xP (h:=xP (h:=xP (h:=xP (h:=xP (h:=xF (h:=Zo (Zfs rfl rfl rfl rfl rfl (Zc7 Tryz.underlying4) (xA (h:=Zh ?_)))))))))
 exact ZW .ret (.inl rfl) [_] t1 (Zm (by rw [Zha,g3];simp))

set_option maxHeartbeats 1600000 in
theorem ZoH (q:Option Addr) (m cp:Nat) (hmc:m≤cp) (B:Kn) (hb:Zac B q m) :∃code,Tryz.f7.body=some code∧wpS (pj (ZeI Tryz.prog)) 86 code (Zfr (pj (ZeI Tryz.prog)) [.tmp 2] (fun v B' Ls=>v = .bool true)) (ZcI [.slice q m cp] 0) [] B []:=by
 have hJ:=Zck Tryz.prog
 refine ⟨_,rfl,(Za (xA (h:=Zk (Za (xM (h:=xV Tryz.underlying22 (h:=Zbf (h:=Zd rfl (fun g0=>?_) (fun g0=>?_)))))))))⟩
 try simp only [sQ,ne_eq] at g0
 refine Za (xA (h:=Zh (Zs ?_)))
 exact ZW .ret (.inl rfl) [_] t1 rfl
 try simp only [sQ,ne_eq] at g0
 refine Zi (Zf (Za (xM (h:=Zo (Z2 rfl rfl Zxu rfl (Zr3 _ _ _ oz _ (oy)) ?_)))))
 intro va Ba hlea
 rintro ⟨xa,p1a,p2a,p3a,d1a,d2a,d3a,ya,za,rfl,hua,hfa,hia,hda,hya,hza⟩
 have huan:=hua.len
 have hfan:=hfa.len
 have hian:=hia.len
 refine xM (h:=xE (h:=xE (h:=xE (h:=xAl [_,_,_,_,_] ZaR (h:=fun b2=>xS [_,_,_,_,_] 0 [_,_,_,_,_] Zav (h:=xA (h:=xA (h:=Zu [_] rfl (Za (xL [_,_,_,_,_] ZZ 0 (h:=xM (h:=xM (h:=?_)))))))))))))
 refine Zo (Z2 rfl rfl ZuC rfl (Zc1 hJ _ _ _ _ _ _ xa ya za om2 om2 om2 _ hua hfa hia) ?_)
 intro v3 B3 hle3
 rintro ⟨qa3,ca3,qb3,cb3,rfl,hg3,hm3⟩
 replace hua:=hua.mono Zg.mono hle3
 replace hfa:=hfa.mono Zb.mono hle3
 replace hia:=hia.mono Zj.mono hle3
 have hg3n:=hg3.len
 have hm3n:=hm3.len
 refine xM (h:=xE (h:=xE (h:=xAl [_,_,_,_,_] ZcS (h:=fun b4=>xS [_,_,_,_,_] 1 [_,_,_,_,_] ZaT (h:=xA (h:=Zu [_,_] rfl (Za (xL [_,_,_,_,_] ZZ 0 (h:=xM (h:=xM (h:=Zo (Z2 rfl rfl Zxt rfl (Zk7 _ _ _ _ _ _ xa ya za om2 om2 om2 _ hua hfa hia) ?_))))))))))))
 intro v5 B5 hle5
 rintro ⟨qa5,ca5,qb5,cb5,rfl,hg5,hm5⟩
 replace hua:=hua.mono Zg.mono hle5
 replace hfa:=hfa.mono Zb.mono hle5
 replace hia:=hia.mono Zj.mono hle5
 replace hg3:=hg3.mono ZB.mono hle5
 replace hm3:=hm3.mono ZF.mono hle5
 have hg5n:=hg5.len
 have hm5n:=hm5.len
 refine xM (h:=xE (h:=xE (h:=xAl [_,_,_,_,_] ZcS (h:=fun b6=>xS [_,_,_,_,_] 2 [_,_,_,_,_] ZaT (h:=xA (h:=Zu [_,_,_] rfl (Zk (Za (xM (h:=xM (h:=Zo (Zjk rfl rfl rfl rfl rfl (Zc7 Tryz.underlying4) (xM (h:=?_))))))))))))))
 refine Zq (d:=38) rfl (fun g1=>by simp at g1) (fun g1=>?_)
 try simp only [sQ,ne_eq] at g1
 refine xL [_,_,_,_,_] ZeC 1 (h:=xL [_,_,_,_,_] ZeC 2 (h:=xR ZuB rfl (ZcY _ _ _ _ _ _ _ _ ((ZP xa ya za).1) ((ZP xa ya za).1) _ hg3 hm3 hg5 hm5) (h:=xN (h:=xF (h:=xM (h:=Zq (d:=44) rfl (fun g2=>by simp at g2) (fun g2=>?_)))))))
 try simp only [sQ,ne_eq] at g2
 refine xM (h:=xN (h:=xF (h:=Zd rfl (fun g3=>?_) (fun g3=>?_))))
 try simp only [sQ,ne_eq] at g3
 refine Za (xM (h:=xM (h:=Zo (Zfs rfl rfl rfl rfl rfl (Zc7 Tryz.underlying4) (xM (h:=Zq (d:=51) rfl (fun g4=>?_) (fun g4=>by simp at g4)))))))
 try simp only [sQ,ne_eq] at g4
 refine xL [_,_,_,_,_] ZeC 1 (h:=xL [_,_,_,_,_] ZeC 2 (h:=xR ZuB rfl (ZcY _ _ _ _ _ _ _ _ ((ZP xa ya za).1) ((ZP xa ya za).1) _ hg3 hm3 hg5 hm5) (h:=xT (h:=xA (h:=Zh (Zs ?_))))))
 exact ZW .ret (.inl rfl) [_] t1 (Zm (by simp))
 try simp only [sQ,ne_eq] at g3
 obtain ⟨hok,hmem,hfo,hfn⟩:=Zja (by simpa using g3)
 refine Zi (Zf (Za (xA (h:=Zk (Za (xA (h:=Zp (ZS (α:=Nat × Bool) [0,2,3,4,5,6,7,8,9,14,47] (fun g=>[(10,.bool g.2),(11,.int .i64 g.1)]) [] (fun g=>[]) (fun g Bx=>Bx=B5∧g.1≤xa.folders.length∧g.2=(xa.folders.take g.1).any (fun y=>decide (y=(ZP xa ya za).1))) (fun g=>xa.folders.length - g.1) (0,false) t2 rfl (⟨rfl,Nat.zero_le _,rfl⟩) (fun g B9 hle9 hI=>?_)))))))))
 obtain ⟨rfl,hk,hs⟩:=hI
 refine ZR [(0,_),(2,_),(3,_),(4,_),(5,_),(6,_),(7,_),(8,_),(9,_),(10,_),(11,_),(14,_),(47,_)] [_,_,_] t13 rfl (Zk (Za (xM (h:=xW ZT (h:=x1 ZbV 0 (h:=xV Tryz.underlying24 (h:=Zaf (h:=Zd rfl (fun g5=>?_) (fun g5=>?_)))))))))
 try simp only [sQ,ne_eq] at g5
 obtain ⟨w,hw⟩:=Zar (xs:=xa.folders) (i:=g.1) oz
 refine Zi (Zf (Zk (Zp (Z9 (same _ _) mo kr ⟨rfl,rfl⟩ (fun _ _=>?_)))))
 refine aM 0 rfl (h:=aM 1 rfl (h:=Zaw (d:=64) rfl (fun g6=>?_) (fun g6=>?_)))
 try simp only [sQ,ne_eq] at g6
 refine aZ 2 rfl (h:=aZ 3 rfl (h:=aZ 4 rfl (h:=aZ 5 rfl (h:=aZ 6 rfl (h:=aZ 7 rfl (h:=aZ 8 rfl (h:=aPT 9 rfl (h:=aA 10 rfl (h:=Zz kr kr ?_)))))))))
 refine ZA (Zf (Ze (xM (h:=xD (h:=xA (h:=?_))))))
 exact ZC (g.1+1,true) [0,1,2] so2 ⟨rfl,so,by simp only [];rw [ZcV hw,← hs,g6];rfl⟩ t13 rfl
 try simp only [sQ,ne_eq] at g6
 refine aW 2 rfl ZT (h:=aT 3 rfl (Zap fun D=>Zl rfl rfl ZbV rfl (atL 0 rfl rfl rfl) r4) (h:=aM 4 rfl (h:=?_)))
 obtain ⟨bb10,oo10,rfl⟩:=hfa.base hw
 obtain ⟨_,⟨qg11,cg11,qm11,cm11,rfl,hg11,hm11,hb11,hb11b⟩,hc11⟩:=hfa.elem hw
 have hg11n:=hg11.len
 have hm11n:=hm11.len
 have hm11s:=ZX hm11
 refine aIx 5 rfl Tryz.underlying24 ZaT (h:=aT 6 rfl (Zap fun D=>Z5 [_,_,_,_,_] rfl rfl ZeC rfl (Zic hc11 0 rfl rfl) r4) (h:=aT 7 rfl (Zap fun D=>Z5 [_,_,_,_,_] rfl rfl ZeC rfl (Zae 1 rfl rfl rfl) r4) (h:=aT 8 rfl (Zap fun D=>ZaS rfl rfl ZuB rfl (ZcY _ _ _ _ _ _ _ _ w ((ZP xa ya za).1) _ hg11 hm11 hg3 hm3) r4) (h:=aPF 9 rfl (h:=aA 10 rfl (h:=Zz kr kr ?_))))))
 refine ZA (Zf (Ze (xM (h:=xD (h:=xA (h:=?_))))))
 exact ZC (g.1+1,_) [0,1,2] so2 ⟨rfl,so,by simp only [];rw [ZcV hw,← hs,g6];rfl⟩ t13 rfl
 try simp only [sQ,ne_eq] at g5
 have hse:=Zm3 hs oz
 have hst:g.2=true:=by rw [hse,List.any_eq_true];exact ⟨_,hmem,by simp⟩
 refine Z0 (Zal (Z6 (ZK (Zf (Za (xM (h:=xM (h:=Zq (d:=74) rfl (fun g7=>?_) (fun g7=>by rw [hst] at g7;cases g7)))))))))
 try simp only [sQ,ne_eq] at g7
 refine xW Zce (h:=x1 lk9 1 (h:=xM (h:=Zcs (h:=xT (h:=xM (h:=Zq (d:=80) rfl (fun g8=>?_) (fun g8=>by rw [hfo] at g8;simp at g8)))))))
 try simp only [sQ,ne_eq] at g8
 refine xW ZdA (h:=x1 lk9 1 (h:=xM (h:=Zcs (h:=xT (h:=xA (h:=Zh ?_))))))
 exact ZW .ret (.inl rfl) [_] t1 (Zm (by rw [hfn];simp))

set_option maxHeartbeats 1600000 in
theorem Zkz (q:Option Addr) (m cp:Nat) (hmc:m≤cp) (B:Kn) (hb:Zac B q m) :∃code,Tryz.f6.body=some code∧wpS (pj (ZeI Tryz.prog)) 87 code (Zfr (pj (ZeI Tryz.prog)) [.tmp 2] (fun v B' Ls=>v = .bool true)) (ZcI [.slice q m cp] 0) [] B []:=by
 have hJ:=Zck Tryz.prog
 refine ⟨_,rfl,(Za (xA (h:=Zk (Za (xM (h:=xV Tryz.underlying22 (h:=Zbf (h:=Zd rfl (fun g0=>?_) (fun g0=>?_)))))))))⟩
 try simp only [sQ,ne_eq] at g0
 refine Za (xA (h:=Zh (Zs ?_)))
 exact ZW .ret (.inl rfl) [_] t1 rfl
 try simp only [sQ,ne_eq] at g0
 refine Zi (Zf (Za (xM (h:=Zo (Z2 rfl rfl Zv4 rfl (ZkD _ _ _ oz _ (oy)) ?_)))))
 intro va Ba hlea
 rintro ⟨xa,p1a,p2a,p3a,d1a,d2a,d3a,rfl,hua,hfa,hia,hda⟩
 have huan:=hua.len
 have hfan:=hfa.len
 have hian:=hia.len
 refine xAl [_,_,_,_,_] ZaR (h:=fun b2=>xS [_,_,_,_,_] 0 [_,_,_,_,_] Zav (h:=Zu [_] rfl (Za (xL [_,_,_,_,_] ZZ 0 (h:=Zo (Z2 rfl rfl ZoI rfl (ZaV hJ _ _ _ _ _ _ xa om2 _ hua hfa hia) ?_))))))
 intro v3 B3 hle3
 rintro rfl
 replace hua:=hua.mono Zg.mono hle3
 replace hfa:=hfa.mono Zb.mono hle3
 replace hia:=hia.mono Zj.mono hle3
 refine xA (h:=Za (xL [_,_,_,_,_] ZZ 0 (h:=xR Zl8 rfl (ZaG _ _ _ _ _ _ xa om2 _ hua hfa hia) (h:=?_))))
 refine xA (h:=Zk (Za (xM (h:=xM (h:=Zo (Zjk rfl rfl rfl rfl rfl (Zc7 Tryz.underlying4) (xM (h:=Zq (d:=24) rfl (fun g1=>by simp at g1) (fun g1=>?_)))))))))
 try simp only [sQ,ne_eq] at g1
 refine xM (h:=xN (h:=xF (h:=Zd rfl (fun g2=>?_) (fun g2=>?_))))
 try simp only [sQ,ne_eq] at g2
 refine Za (xM (h:=xM (h:=Zo (Zfs rfl rfl rfl rfl rfl (Zc7 Tryz.underlying4) (xA (h:=Zh (Zs ?_)))))))
 exact ZW .ret (.inl rfl) [_] t1 (Zm (by simp))
 try simp only [sQ,ne_eq] at g2
 have hok:Zx xa=true:=by simpa using g2
 refine Zi (Zf (Zk (Za (xA (h:=Zp (ZS (α:=Nat) [0,3,4,5,14,27] (fun k=>[(6,.int .i64 k)]) [] (fun k=>[]) (fun k Bx=>k≤xa.folders.length) (fun k=>xa.folders.length - k) 0 t1 rfl (Nat.zero_le _) (fun k B5 hle5 hI=>?_)))))))
 have hk:=hI
 replace hua:=hua.mono Zg.mono hle5
 replace hfa:=hfa.mono Zb.mono hle5
 replace hia:=hia.mono Zj.mono hle5
 refine ZR [(0,_),(3,_),(4,_),(5,_),(6,_),(14,_),(27,_)] [_] t7 rfl (Zk (Za (xM (h:=xW ZT (h:=x1 ZbV 0 (h:=xV Tryz.underlying24 (h:=Zaf (h:=Zd rfl (fun g3=>?_) (fun g3=>?_)))))))))
 try simp only [sQ,ne_eq] at g3
 refine Zi (Zf (Zk (Zp (Zk (Z9 (keeps _ [0] _) mo kr ⟨Kn.le.refl _,Zaq.refl _ _⟩ (fun _ _=>?_))))))
 refine aT 0 rfl (ZD fun D B L hI=>Z5 [_,_,_,_,_] rfl rfl ZZ rfl (Zae 0 (hI.2.1.trans rfl) rfl rfl) r4) (h:=aW 1 rfl ZT (h:=aT 2 rfl (ZD fun D B L hI=>Zl rfl rfl ZbV rfl (atL 0 (hI.2.1.trans rfl) rfl rfl) r4) (h:=aM 3 rfl (h:=?_))))
 obtain ⟨w,hw⟩:=Zar (xs:=xa.folders) (i:=k) om
 obtain ⟨bb7,oo7,rfl⟩:=hfa.base hw
 obtain ⟨_,⟨qg8,cg8,qm8,cm8,rfl,hg8,hm8,hb8,hb8b⟩,hc8⟩:=hfa.elem hw
 have hg8n:=hg8.len
 have hm8n:=hm8.len
 have hm8s:=ZX hm8
 refine aIx 4 rfl Tryz.underlying24 ZaT (h:=?_)
 have hfw:=Zfy hok (List.mem_of_getElem? hw)
 refine aW 5 rfl Zce (h:=aT 6 rfl (ZD fun D B L hI=>Zl rfl rfl lk9 rfl ((hc8.mono hI.1) _ 0 _ rfl) r4) (h:=aW 7 rfl ZT (h:=aT 8 rfl (ZD fun D B L hI=>Zl rfl rfl ZbV rfl (atL 0 (hI.2.1.trans rfl) rfl rfl) r4) (h:=aM 9 rfl (h:=aIx 10 rfl Tryz.underlying24 ZaT (h:=aW 11 rfl ZdA (h:=aT 12 rfl (ZD fun D B L hI=>Zl rfl rfl lk9 rfl ((hc8.mono hI.1) _ 1 _ rfl) r4) (h:=Zam [13,17] kr kr kr ⟨?_,?_⟩))))))))
 refine (Z2 rfl rfl ZuC rfl (Zc1 hJ _ _ _ _ _ _ xa w.owner w.name om2 om2 om2 _ hua hfa hia) ?_)
 intro v9 B9 hle9
 rintro ⟨qa9,ca9,qb9,cb9,rfl,hg9,hm9⟩
 replace hua:=hua.mono Zg.mono hle9
 replace hfa:=hfa.mono Zb.mono hle9
 replace hia:=hia.mono Zj.mono hle9
 replace hg8:=hg8.mono ZB.mono hle9
 replace hm8:=hm8.mono ZF.mono hle9
 replace hc8:=hc8.mono hle9
 have hg9n:=hg9.len
 have hm9n:=hm9.len
 refine ⟨⟨hle9,t1⟩,(aM 14 rfl (h:=aE 15 rfl (h:=aE 16 rfl (h:=Zt 17 kr rfl kr (Zak (l:=[_,_,_,_,_]) rfl rfl ZcS rfl (fun b10=>?_))))))⟩
 refine ⟨⟨hle9,t1⟩,(Zbb 18 kr rfl kr kr (ZN [_,_,_,_,_] 1 [_,_,_,_,_] rfl rfl ZaT rfl rfl rfl rfl rfl rfl rfl rfl ?_))⟩
 refine aA 19 rfl (h:=Zz kr kr ?_)
 refine Zf (Zu [_,_] rfl (Zk (Z9 (same _ _) mo kr ⟨rfl,rfl⟩ (fun _ _=>?_))))
 refine aM 0 rfl (h:=aN 1 rfl (h:=aM 2 rfl (h:=Zaw (d:=57) rfl (fun g4=>by rw [hfw] at g4;simp at g4) (fun g4=>?_))))
 try simp only [sQ,ne_eq] at g4
 refine aT 3 rfl (Zap fun D=>Z5 [_,_,_,_,_] rfl rfl ZeC rfl (Zae 1 rfl rfl rfl) r4) (h:=aW 4 rfl ZT (h:=aT 5 rfl (Zap fun D=>Zl rfl rfl ZbV rfl (atL 0 rfl rfl rfl) r4) (h:=aM 6 rfl (h:=?_))))
 obtain ⟨_,⟨qg11,cg11,qm11,cm11,rfl,hg11,hm11,hb11,hb11b⟩,hc11⟩:=hfa.elem hw
 have hg11n:=hg11.len
 have hm11n:=hm11.len
 have hm11s:=ZX hm11
 refine aIx 7 rfl Tryz.underlying24 ZaT (h:=aT 8 rfl (Zap fun D=>Z5 [_,_,_,_,_] rfl rfl ZeC rfl (Zic hc11 0 rfl rfl) r4) (h:=aT 9 rfl (Zap fun D=>ZaS rfl rfl ZuB rfl (ZcY _ _ _ _ _ _ _ _ ((ZP xa w.owner w.name).1) w _ hg9 hm9 hg11 hm11) r4) (h:=aN 10 rfl (h:=aPF 11 rfl (h:=Zz kr kr ?_)))))
 refine Zf (Zd rfl (fun g5=>by rw [hfw] at g5;simp at g5) (fun g5=>?_))
 try simp only [sQ,ne_eq] at g5
 refine Zi (ZA (Zf (Ze (xM (h:=xD (h:=xA (h:=?_)))))))
 exact ZC (k+1) [0] so2 oz t7 rfl
 refine (Zak (l:=[_,_,_,_,_]) rfl rfl ZcS rfl (fun b13=>⟨⟨Kn.le.refl _,t1⟩,(Zt 13 kr rfl kr (Z2 rfl rfl ZuC rfl (Zc1 hJ _ _ _ _ _ _ xa w.owner w.name om2 om2 om2 _ hua hfa hia) ?_))⟩))
 intro v14 B14 hle14
 rintro ⟨qa14,ca14,qb14,cb14,rfl,hg14,hm14⟩
 replace hua:=hua.mono Zg.mono hle14
 replace hfa:=hfa.mono Zb.mono hle14
 replace hia:=hia.mono Zj.mono hle14
 replace hg8:=hg8.mono ZB.mono hle14
 replace hm8:=hm8.mono ZF.mono hle14
 replace hc8:=hc8.mono hle14
 have hg14n:=hg14.len
 have hm14n:=hm14.len
 refine ⟨⟨hle14,t1⟩,(aM 14 rfl (h:=aE 15 rfl (h:=aE 16 rfl (h:=Zbb 18 kr rfl kr kr (ZN [_,_,_,_,_] 1 [_,_,_,_,_] rfl rfl ZaT rfl rfl rfl rfl rfl rfl rfl rfl ?_)))))⟩
 refine aA 19 rfl (h:=Zz kr kr ?_)
 refine Zf (Zu [_,_] rfl (Zk (Z9 (same _ _) mo kr ⟨rfl,rfl⟩ (fun _ _=>?_))))
 refine aM 0 rfl (h:=aN 1 rfl (h:=aM 2 rfl (h:=Zaw (d:=57) rfl (fun g4=>by rw [hfw] at g4;simp at g4) (fun g4=>?_))))
 try simp only [sQ,ne_eq] at g4
 refine aT 3 rfl (Zap fun D=>Z5 [_,_,_,_,_] rfl rfl ZeC rfl (Zae 1 rfl rfl rfl) r4) (h:=aW 4 rfl ZT (h:=aT 5 rfl (Zap fun D=>Zl rfl rfl ZbV rfl (atL 0 rfl rfl rfl) r4) (h:=aM 6 rfl (h:=?_))))
 obtain ⟨_,⟨qg15,cg15,qm15,cm15,rfl,hg15,hm15,hb15,hb15b⟩,hc15⟩:=hfa.elem hw
 have hg15n:=hg15.len
 have hm15n:=hm15.len
 have hm15s:=ZX hm15
 refine aIx 7 rfl Tryz.underlying24 ZaT (h:=aT 8 rfl (Zap fun D=>Z5 [_,_,_,_,_] rfl rfl ZeC rfl (Zic hc15 0 rfl rfl) r4) (h:=aT 9 rfl (Zap fun D=>ZaS rfl rfl ZuB rfl (ZcY _ _ _ _ _ _ _ _ ((ZP xa w.owner w.name).1) w _ hg14 hm14 hg15 hm15) r4) (h:=aN 10 rfl (h:=aPF 11 rfl (h:=Zz kr kr ?_)))))
 refine Zf (Zd rfl (fun g5=>by rw [hfw] at g5;simp at g5) (fun g5=>?_))
 try simp only [sQ,ne_eq] at g5
 refine Zi (ZA (Zf (Ze (xM (h:=xD (h:=xA (h:=?_)))))))
 exact ZC (k+1) [0] so2 oz t7 rfl
 try simp only [sQ,ne_eq] at g3
 refine Z0 (Zal (Z6 (ZK (Zf (Zk (Za (xA (h:=Zp (ZS (α:=Nat) [0,3,4,5,6,14,27,35] (fun k=>[(9,.int .i64 k)]) [] (fun k=>[]) (fun k Bx=>k≤xa.users.length) (fun k=>xa.users.length - k) 0 t1 rfl (Nat.zero_le _) (fun k B17 hle17 hI=>?_))))))))))
 have hk:=hI
 replace hua:=hua.mono Zg.mono hle17
 replace hfa:=hfa.mono Zb.mono hle17
 replace hia:=hia.mono Zj.mono hle17
 refine ZR [(0,_),(3,_),(4,_),(5,_),(6,_),(9,_),(14,_),(27,_),(35,_)] [_] t9 rfl (Zk (Za (xM (h:=xW ZaK (h:=x1 Zfj 0 (h:=xV Tryz.underlying23 (h:=Zaf (h:=Zd rfl (fun g6=>?_) (fun g6=>?_)))))))))
 try simp only [sQ,ne_eq] at g6
 refine Zi (Zf (Zk (Zp (Zk (Z9 (keeps _ [0] _) mo kr ⟨Kn.le.refl _,Zaq.refl _ _⟩ (fun _ _=>?_))))))
 refine aT 0 rfl (ZD fun D B L hI=>Z5 [_,_,_,_,_] rfl rfl ZZ rfl (Zae 0 (hI.2.1.trans rfl) rfl rfl) r4) (h:=aW 1 rfl ZaK (h:=aT 2 rfl (ZD fun D B L hI=>Zl rfl rfl Zfj rfl (atL 0 (hI.2.1.trans rfl) rfl rfl) r4) (h:=aM 3 rfl (h:=?_))))
 obtain ⟨u,hu⟩:=Zar (xs:=xa.users) (i:=k) om
 obtain ⟨bb19,oo19,rfl⟩:=hua.base hu
 obtain ⟨_,⟨rfl,hb20,hb20b⟩,hc20⟩:=hua.elem hu
 refine aIx 4 rfl Tryz.underlying23 Zdi (h:=?_)
 have hfi:(ZP xa u.name [105,110,98,111,120]).2=true:=Zht hok (List.mem_of_getElem? hu)
 refine aW 5 rfl ZcH (h:=aT 6 rfl (ZD fun D B L hI=>Zl rfl rfl lk9 rfl ((hc20.mono hI.1) _ 0 _ rfl) r4) (h:=Zam [7,11] kr kr kr ⟨?_,?_⟩))
 refine (Z2 rfl rfl ZuC rfl (Zc1 hJ _ _ _ _ _ _ xa u.name [105,110,98,111,120] om2 om2 om2 _ hua hfa hia) ?_)
 intro v21 B21 hle21
 rintro ⟨qa21,ca21,qb21,cb21,rfl,hg21,hm21⟩
 replace hua:=hua.mono Zg.mono hle21
 replace hfa:=hfa.mono Zb.mono hle21
 replace hia:=hia.mono Zj.mono hle21
 replace hc20:=hc20.mono hle21
 have hg21n:=hg21.len
 have hm21n:=hm21.len
 refine ⟨⟨hle21,t1⟩,(aM 8 rfl (h:=aE 9 rfl (h:=aE 10 rfl (h:=Zt 11 kr rfl kr (Zak (l:=[_,_,_,_,_]) rfl rfl ZcS rfl (fun b22=>?_))))))⟩
 refine ⟨⟨hle21,t1⟩,(Zbb 12 kr rfl kr kr (ZN [_,_,_,_,_] 1 [_,_,_,_,_] rfl rfl ZaT rfl rfl rfl rfl rfl rfl rfl rfl ?_))⟩
 refine aA 13 rfl (h:=Zz kr kr ?_)
 refine Zf (Zu [_,_] rfl (Za (xM (h:=xN (h:=Zd rfl (fun g7=>by rw [hfi] at g7;simp at g7) (fun g7=>?_))))))
 try simp only [sQ,ne_eq] at g7
 refine Zi (ZA (Zf (Ze (xM (h:=xD (h:=xA (h:=?_)))))))
 exact ZC (k+1) [0] so2 oz t9 rfl
 refine (Zak (l:=[_,_,_,_,_]) rfl rfl ZcS rfl (fun b23=>⟨⟨Kn.le.refl _,t1⟩,(Zt 7 kr rfl kr (Z2 rfl rfl ZuC rfl (Zc1 hJ _ _ _ _ _ _ xa u.name [105,110,98,111,120] om2 om2 om2 _ hua hfa hia) ?_))⟩))
 intro v24 B24 hle24
 rintro ⟨qa24,ca24,qb24,cb24,rfl,hg24,hm24⟩
 replace hua:=hua.mono Zg.mono hle24
 replace hfa:=hfa.mono Zb.mono hle24
 replace hia:=hia.mono Zj.mono hle24
 replace hc20:=hc20.mono hle24
 have hg24n:=hg24.len
 have hm24n:=hm24.len
 refine ⟨⟨hle24,t1⟩,(aM 8 rfl (h:=aE 9 rfl (h:=aE 10 rfl (h:=Zbb 12 kr rfl kr kr (ZN [_,_,_,_,_] 1 [_,_,_,_,_] rfl rfl ZaT rfl rfl rfl rfl rfl rfl rfl rfl ?_)))))⟩
 refine aA 13 rfl (h:=Zz kr kr ?_)
 refine Zf (Zu [_,_] rfl (Za (xM (h:=xN (h:=Zd rfl (fun g7=>by rw [hfi] at g7;simp at g7) (fun g7=>?_))))))
 try simp only [sQ,ne_eq] at g7
 refine Zi (ZA (Zf (Ze (xM (h:=xD (h:=xA (h:=?_)))))))
 exact ZC (k+1) [0] so2 oz t9 rfl
 try simp only [sQ,ne_eq] at g6
 refine Z0 (Zal (Z6 (ZK (Zf (Za (xA (h:=Zh ?_)))))))
 exact ZW .ret (.inl rfl) [_] t1 rfl

theorem Zhe (hJ:Joins Tryz.prog J) (q1 q2 q3:Option Addr) (c1 c2 c3:Nat) (x:DHost) (n1:Nat) (hn1:n1=x.users.length) (hd:x.domain.length≤2000000) (B:Kn) (hu:SlK B q1 c1 3 Zg x.users) (hf:SlK B q2 c2 5 Zb x.folders) (hi:SlK B q3 c3 4 Zj x.queue.items):ZL (pj J) 16 [.agg #[str x.domain,.slice q1 n1 c1,.slice q2 x.folders.length c2,.int .i64 x.queue.next,.slice q3 x.queue.items.length c3]] B [] (fun v B' Ls=>Ls=[]∧v = .bool (Zx x)):=by
 subst hn1
 exact ZaV hJ _ _ _ _ _ _ x hd B hu hf hi

set_option maxHeartbeats 1600000 in
theorem ZlF (q q2:Option Addr) (m cp m2 cp2:Nat) (hmc:m≤cp) (hmc2:m2≤cp2) (B:Kn) (hb:Zac B q m) (hb2:Zac B q2 m2) :∃code,Tryz.f4.body=some code∧wpS (pj (ZeI Tryz.prog)) 72 code (Zfr (pj (ZeI Tryz.prog)) [.tmp 4] (fun v B' Ls=>v = .bool true)) (ZcI [.slice q m cp,.slice q2 m2 cp2] 0) [] B []:=by
 have hJ:=Zck Tryz.prog
 refine ⟨_,rfl,(Za (xA (h:=Zk (Za (xM (h:=xV Tryz.underlying22 (h:=Zbf (h:=xM (h:=Zq (d:=14) rfl (fun g0=>?_) (fun g0=>?_))))))))))⟩
 try simp only [sQ,ne_eq] at g0
 refine xP (h:=xP (h:=xP (h:=xT (h:=Zd (t:=true) rfl (fun _=>Za (xA (h:=Zh (Zs ?_)))) (fun h=>Bool.noConfusion h)))))
 exact ZW .ret (.inl rfl) [_] t1 rfl
 try simp only [sQ,ne_eq] at g0
 refine xM (h:=xV Tryz.underlying22 (h:=Zbf (h:=xF (h:=Zd rfl (fun g0b=>?_) (fun g0b=>?_)))))
 try simp only [sQ,ne_eq] at g0b
 refine Za (xA (h:=Zh (Zs ?_)))
 exact ZW .ret (.inl rfl) [_] t1 rfl
 try simp only [sQ,ne_eq] at g0b
 refine Zi (Zf (Za (xM (h:=Zo (Z2 rfl rfl Zv4 rfl (ZkD _ _ _ oz _ (oy)) ?_)))))
 intro va Ba hlea
 rintro ⟨xa,p1a,p2a,p3a,d1a,d2a,d3a,rfl,hua,hfa,hia,hda⟩
 have huan:=hua.len
 have hfan:=hfa.len
 have hian:=hia.len
 refine xAl [_,_,_,_,_] ZaR (h:=fun b2=>xS [_,_,_,_,_] 0 [_,_,_,_,_] Zav (h:=Zu [_] rfl (Za (xL [_,_,_,_,_] ZZ 0 (h:=Zo (Z2 rfl rfl ZoI rfl (ZaV hJ _ _ _ _ _ _ xa om2 _ hua hfa hia) ?_))))))
 intro v3 B3 hle3
 rintro rfl
 replace hua:=hua.mono Zg.mono hle3
 replace hfa:=hfa.mono Zb.mono hle3
 replace hia:=hia.mono Zj.mono hle3
 refine xA (h:=Za (xL [_,_,_,_,_] ZZ 0 (h:=xR Zl8 rfl (ZaG _ _ _ _ _ _ xa om2 _ hua hfa hia) (h:=?_))))
 refine xA (h:=Zk (Za (xM (h:=xM (h:=Zo (Zjk rfl rfl rfl rfl rfl (Zc7 Tryz.underlying4) (xM (h:=Zq (d:=28) rfl (fun g1=>by simp at g1) (fun g1=>?_)))))))))
 try simp only [sQ,ne_eq] at g1
 refine xM (h:=xN (h:=xF (h:=Zd rfl (fun g2=>?_) (fun g2=>?_))))
 try simp only [sQ,ne_eq] at g2
 refine Za (xM (h:=xM (h:=Zo (Zfs rfl rfl rfl rfl rfl (Zc7 Tryz.underlying4) (xA (h:=Zh (Zs ?_)))))))
 exact ZW .ret (.inl rfl) [_] t1 (Zm (by simp))
 try simp only [sQ,ne_eq] at g2
 have hok:Zx xa=true:=by simpa using g2
 have hpos:=ZgM hok
 have hkl:=Nat.mod_lt m2 hpos.1
 refine Zi (Zf (Za (xM (h:=xV Tryz.underlying22 (h:=xW ZT (h:=x1 ZbV 0 (h:=xV Tryz.underlying24 (h:=Zo (Zf9 (a:=(m2:Int)) (b:=(xa.folders.length:Int)) (r:=((m2 % xa.folders.length:Nat):Int)) rfl rfl rfl rfl oz rfl ?_)))))))))
 refine xA (h:=Za (xL [_,_,_,_,_] ZZ 0 (h:=xAl [_,_,_,_,_] ZaR (h:=fun b5=>xS [_,_,_,_,_] 1 [_,_,_,_,_] Zav (h:=Zu [_,_] rfl (Zk (Z9 (keeps _ [0] _) mo kr ⟨Kn.le.refl _,Zaq.refl _ _⟩ (fun _ _=>?_))))))))
 refine aW 1 rfl ZT (h:=aT 2 rfl (ZD fun D B L hI=>Zl rfl rfl ZbV rfl (atL 0 (hI.2.1.trans rfl) rfl rfl) r4) (h:=aM 3 rfl (h:=?_)))
 obtain ⟨hq6,q6,cp6,hv6,hr6⟩:=hfa.cutE 0 (m2 % xa.folders.length) om om
 have hr6n:=hr6.len
 refine aT 4 rfl (ZD fun D B L hI=>Zft (a:=0) (b:=(m2 % xa.folders.length)) hv6 om hq6 rfl rfl Tryz.underlying24 ZaT rfl rfl ⟨_,_,rfl,by first | omega | (simp;done) | (simp;omega)⟩ r4) (h:=?_)
 refine aW 6 rfl ZT (h:=aT 7 rfl (ZD fun D B L hI=>Zl rfl rfl ZbV rfl (atL 0 (hI.2.1.trans rfl) rfl rfl) r4) (h:=aM 8 rfl (h:=aD 9 rfl (h:=?_))))
 obtain ⟨hq7,q7,cp7,hv7,hr7⟩:=hfa.cutE ((m2 % xa.folders.length)+1) xa.folders.length om om
 have hr7n:=hr7.len
 refine aT 10 rfl (ZD fun D B L hI=>Zft (a:=((m2 % xa.folders.length)+1)) (b:=xa.folders.length) hv7 om hq7 rfl rfl Tryz.underlying24 ZaT rfl ⟨_,_,rfl,by first | omega | (simp;done) | (simp;omega)⟩ rfl r4) (h:=?_)
 refine Zt 0 kr rfl kr (Zw (parts:=[]) [] rfl rfl Tryz.underlying24 ZaT ZcS rfl rfl rfl rfl rfl (fun b8=>?_))
 refine ⟨⟨Kn.le.refl _,t1⟩,(Zt 5 kr rfl kr (ZaJ (R:=Zb) 2 rfl (Zaa.lit0 (R:=Zb)) rfl rfl rfl ZiN Zh3 rfl rfl rfl hr6.rows Zb.one rfl om (fun l9 p9 c9 hv9=>?_)))⟩
 refine ⟨⟨Kn.le.refl _,t1⟩,(Zt 11 kr rfl kr (ZaJ (R:=Zb) 2 rfl hv9 rfl rfl rfl ZiN Zh3 rfl rfl rfl hr7.rows Zb.one rfl om (fun l10 p10 c10 hv10=>?_)))⟩
 refine ⟨⟨Kn.le.refl _,t1⟩,(aW 12 rfl ZT (h:=ZY 13 kr rfl kr kr kr (ZN [_] 1 [_,_,_,_,_] rfl rfl Zpn rfl rfl rfl rfl rfl rfl rfl rfl ?_)))⟩
 refine Zf (Zu [_,_,_] rfl (Za (xL [_,_,_,_,_] ZZ 0 (h:=xAl [_,_,_,_,_] ZaR (h:=fun b11=>xS [_,_,_,_,_] 3 [_,_,_,_,_] Zav (h:=Zu [_,_,_,_] rfl (Za (xB [(0,_)] [_,_] [_,_] ZsA Zi3 (h:=xW ZcD (h:=xS [_,_] 3 [_,_,_,_,_] ZfL (h:=Zu [_,_,_,_] rfl (Zk ?_))))))))))))
 refine Z9 (keeps _ [0,1,3] _) mo kr ⟨Kn.le.refl _,Zaq.refl _ _⟩ (fun _ _=>?_)
 refine aT 0 rfl (ZD fun D B L hI=>Z5 [_,_,_,_,_] rfl rfl ZZ rfl (Zae 1 (hI.2.2.1.trans rfl) rfl rfl) r4) (h:=ZaF 2 rfl hv10 Zb.mono om3 (fun B' hle'=>⟨hle',t3⟩) (fun B12 hle12 hr12=>?_))
 replace hua:=hua.mono Zg.mono hle12
 replace hia:=hia.mono Zj.mono hle12
 replace hfa:=hfa.mono Zb.mono hle12
 have hr12n:=hr12.len
 refine aW 2 rfl ZT (h:=aT 3 rfl (ZD fun D B L hI=>Zl rfl rfl ZbV rfl (atL 0 (hI.2.1.trans rfl) rfl rfl) r4) (h:=aM 4 rfl (h:=?_)))
 obtain ⟨f,hf⟩:=Zar (xs:=xa.folders) (i:=(m2 % xa.folders.length)) om
 obtain ⟨bb14,oo14,rfl⟩:=hfa.base hf
 obtain ⟨_,⟨qg15,cg15,qm15,cm15,rfl,hg15,hm15,hb15,hb15b⟩,hc15⟩:=hfa.elem hf
 have hg15n:=hg15.len
 have hm15n:=hm15.len
 have hm15s:=ZX hm15
 refine aIx 5 rfl Tryz.underlying24 ZaT (h:=?_)
 have hpt:=Zs7 hok hf
 refine aW 6 rfl ZdA (h:=Zam [1,7] kr kr kr ⟨?_,?_⟩)
 refine (Z2 rfl rfl ZoI rfl (ZaV hJ _ _ _ _ _ _ (⟨xa.domain,xa.users,(((xa.folders.take (m2 % xa.folders.length)).drop 0) ++ ((xa.folders.take xa.folders.length).drop ((m2 % xa.folders.length)+1))),⟨xa.queue.next,xa.queue.items⟩⟩:DHost) om2 _ hua hr12 hia) ?_)
 intro v16 B16 hle16
 rintro rfl
 replace hua:=hua.mono Zg.mono hle16
 replace hr12:=hr12.mono Zb.mono hle16
 replace hia:=hia.mono Zj.mono hle16
 replace hfa:=hfa.mono Zb.mono hle16
 replace hg15:=hg15.mono ZB.mono hle16
 replace hm15:=hm15.mono ZF.mono hle16
 replace hc15:=hc15.mono hle16
 refine ⟨⟨(hle12.trans hle16),t3⟩,(Zt 7 kr rfl kr (Zl rfl rfl lk9 rfl (hc15 _ 1 _ rfl) ?_))⟩
 refine ⟨⟨(hle12.trans hle16),t3⟩,(ZsM 8 rfl (h:=aT 9 rfl (ZD fun D B L hI=>Zfs rfl rfl rfl rfl rfl (Zc7 Tryz.underlying4) r4) (h:=aM 10 rfl (h:=Zaw (d:=68) rfl (fun g4=>?_) (fun g4=>by exact absurd hpt (of_decide_eq_false g4))))))⟩
 try simp only [sQ,ne_eq] at g4
 refine aT 11 rfl (ZD fun D B L hI=>Z5 [_,_,_,_,_] rfl rfl ZZ rfl (Zae 3 (hI.2.2.2.1.trans rfl) rfl rfl) r4) (h:=Zt 12 kr rfl kr (Z2 rfl rfl ZoI rfl (ZaV hJ _ _ _ _ _ _ (⟨xa.domain,xa.users,xa.folders,⟨1,[]⟩⟩:DHost) om2 _ hua hfa SlK.nil) ?_))
 intro v17 B17 hle17
 rintro rfl
 replace hua:=hua.mono Zg.mono hle17
 replace hr12:=hr12.mono Zb.mono hle17
 replace hia:=hia.mono Zj.mono hle17
 replace hfa:=hfa.mono Zb.mono hle17
 replace hg15:=hg15.mono ZB.mono hle17
 replace hm15:=hm15.mono ZF.mono hle17
 replace hc15:=hc15.mono hle17
 refine ⟨⟨((hle12.trans hle16).trans hle17),t3⟩,(aPT 13 rfl (h:=aA 14 rfl (h:=Zz kr kr ?_)))⟩
 refine Zf (Zu [_,_,_,_] rfl (Zh ?_))
 exact ZW .ret (.inl rfl) [_] t1 (Zm (ZjC hok))
 refine (Zl rfl rfl lk9 rfl (hc15 _ 1 _ rfl) (⟨⟨hle12,t3⟩,(ZsM 8 rfl (h:=Zt 1 kr rfl kr (Z2 rfl rfl ZoI rfl (ZaV hJ _ _ _ _ _ _ (⟨xa.domain,xa.users,(((xa.folders.take (m2 % xa.folders.length)).drop 0) ++ ((xa.folders.take xa.folders.length).drop ((m2 % xa.folders.length)+1))),⟨xa.queue.next,xa.queue.items⟩⟩:DHost) om2 _ hua hr12 hia) ?_)))⟩))
 intro v18 B18 hle18
 rintro rfl
 replace hua:=hua.mono Zg.mono hle18
 replace hr12:=hr12.mono Zb.mono hle18
 replace hia:=hia.mono Zj.mono hle18
 replace hfa:=hfa.mono Zb.mono hle18
 replace hg15:=hg15.mono ZB.mono hle18
 replace hm15:=hm15.mono ZF.mono hle18
 replace hc15:=hc15.mono hle18
 refine ⟨⟨(hle12.trans hle18),t3⟩,(aT 9 rfl (ZD fun D B L hI=>Zfs rfl rfl rfl rfl rfl (Zc7 Tryz.underlying4) r4) (h:=aM 10 rfl (h:=Zaw (d:=68) rfl (fun g4=>?_) (fun g4=>by exact absurd hpt (of_decide_eq_false g4)))))⟩
 try simp only [sQ,ne_eq] at g4
 refine aT 11 rfl (ZD fun D B L hI=>Z5 [_,_,_,_,_] rfl rfl ZZ rfl (Zae 3 (hI.2.2.2.1.trans rfl) rfl rfl) r4) (h:=Zt 12 kr rfl kr (Z2 rfl rfl ZoI rfl (ZaV hJ _ _ _ _ _ _ (⟨xa.domain,xa.users,xa.folders,⟨1,[]⟩⟩:DHost) om2 _ hua hfa SlK.nil) ?_))
 intro v19 B19 hle19
 rintro rfl
 replace hua:=hua.mono Zg.mono hle19
 replace hr12:=hr12.mono Zb.mono hle19
 replace hia:=hia.mono Zj.mono hle19
 replace hfa:=hfa.mono Zb.mono hle19
 replace hg15:=hg15.mono ZB.mono hle19
 replace hm15:=hm15.mono ZF.mono hle19
 replace hc15:=hc15.mono hle19
 refine ⟨⟨((hle12.trans hle18).trans hle19),t3⟩,(aPT 13 rfl (h:=aA 14 rfl (h:=Zz kr kr ?_)))⟩
 refine Zf (Zu [_,_,_,_] rfl (Zh ?_))
 exact ZW .ret (.inl rfl) [_] t1 (Zm (ZjC hok))

set_option maxHeartbeats 1600000 in
theorem Zky (q q2:Option Addr) (m cp m2 cp2:Nat) (hmc:m≤cp) (hmc2:m2≤cp2) (B:Kn) (hb:Zac B q m) (hb2:Zac B q2 m2) :∃code,Tryz.f5.body=some code∧wpS (pj (ZeI Tryz.prog)) 82 code (Zfr (pj (ZeI Tryz.prog)) [.tmp 4] (fun v B' Ls=>v = .bool true)) (ZcI [.slice q m cp,.slice q2 m2 cp2] 0) [] B []:=by
 have hJ:=Zck Tryz.prog
 refine ⟨_,rfl,(Za (xA (h:=Zk (Za (xM (h:=xV Tryz.underlying22 (h:=Zbf (h:=xM (h:=Zq (d:=15) rfl (fun g0=>?_) (fun g0=>?_))))))))))⟩
 try simp only [sQ,ne_eq] at g0
 refine xP (h:=xP (h:=xP (h:=xT (h:=Zd (t:=true) rfl (fun _=>Za (xA (h:=Zh (Zs ?_)))) (fun h=>Bool.noConfusion h)))))
 exact ZW .ret (.inl rfl) [_] t1 rfl
 try simp only [sQ,ne_eq] at g0
 refine xM (h:=xV Tryz.underlying22 (h:=Zbf (h:=xF (h:=Zd rfl (fun g0b=>?_) (fun g0b=>?_)))))
 try simp only [sQ,ne_eq] at g0b
 refine Za (xA (h:=Zh (Zs ?_)))
 exact ZW .ret (.inl rfl) [_] t1 rfl
 try simp only [sQ,ne_eq] at g0b
 refine Zi (Zf (Za (xM (h:=Zo (Z2 rfl rfl Zv4 rfl (ZkD _ _ _ oz _ (oy)) ?_)))))
 intro va Ba hlea
 rintro ⟨xa,p1a,p2a,p3a,d1a,d2a,d3a,rfl,hua,hfa,hia,hda⟩
 have huan:=hua.len
 have hfan:=hfa.len
 have hian:=hia.len
 refine xAl [_,_,_,_,_] ZaR (h:=fun b2=>xS [_,_,_,_,_] 0 [_,_,_,_,_] Zav (h:=Zu [_] rfl (Za (xL [_,_,_,_,_] ZZ 0 (h:=Zo (Z2 rfl rfl ZoI rfl (ZaV hJ _ _ _ _ _ _ xa om2 _ hua hfa hia) ?_))))))
 intro v3 B3 hle3
 rintro rfl
 replace hua:=hua.mono Zg.mono hle3
 replace hfa:=hfa.mono Zb.mono hle3
 replace hia:=hia.mono Zj.mono hle3
 refine xA (h:=Za (xL [_,_,_,_,_] ZZ 0 (h:=xR Zl8 rfl (ZaG _ _ _ _ _ _ xa om2 _ hua hfa hia) (h:=?_))))
 refine xA (h:=Zk (Za (xM (h:=xM (h:=Zo (Zjk rfl rfl rfl rfl rfl (Zc7 Tryz.underlying4) (xM (h:=Zq (d:=29) rfl (fun g1=>by simp at g1) (fun g1=>?_)))))))))
 try simp only [sQ,ne_eq] at g1
 refine xM (h:=xN (h:=xF (h:=Zd rfl (fun g2=>?_) (fun g2=>?_))))
 try simp only [sQ,ne_eq] at g2
 refine Za (xM (h:=xM (h:=Zo (Zfs rfl rfl rfl rfl rfl (Zc7 Tryz.underlying4) (xA (h:=Zh (Zs ?_)))))))
 exact ZW .ret (.inl rfl) [_] t1 (Zm (by simp))
 try simp only [sQ,ne_eq] at g2
 have hok:Zx xa=true:=by simpa using g2
 have hpos:=ZgM hok
 have hkl:=Nat.mod_lt m2 hpos.2
 refine Zi (Zf (Za (xM (h:=xV Tryz.underlying22 (h:=xW ZaK (h:=x1 Zfj 0 (h:=xV Tryz.underlying23 (h:=Zo (Zf9 (a:=(m2:Int)) (b:=(xa.users.length:Int)) (r:=((m2 % xa.users.length:Nat):Int)) rfl rfl rfl rfl oz rfl ?_)))))))))
 refine xA (h:=Zk (Z9 (keeps _ [0] _) mo kr ⟨Kn.le.refl _,Zaq.refl _ _⟩ (fun _ _=>?_)))
 refine aT 0 rfl (ZD fun D B L hI=>Z5 [_,_,_,_,_] rfl rfl ZZ rfl (Zae 0 (hI.2.1.trans rfl) rfl rfl) r4) (h:=aW 1 rfl ZaK (h:=aT 2 rfl (ZD fun D B L hI=>Zl rfl rfl Zfj rfl (atL 0 (hI.2.1.trans rfl) rfl rfl) r4) (h:=aM 3 rfl (h:=?_))))
 obtain ⟨w,hw⟩:=Zar (xs:=xa.users) (i:=(m2 % xa.users.length)) om
 obtain ⟨bb6,oo6,rfl⟩:=hua.base hw
 obtain ⟨_,⟨rfl,hb7,hb7b⟩,hc7⟩:=hua.elem hw
 refine aIx 4 rfl Tryz.underlying23 Zdi (h:=?_)
 have hue:Zbo xa w.name=ZaC xa.folders w.name:=Ze0 hok (Zby.2 ⟨w,List.mem_of_getElem? hw,rfl⟩)
 have hub:=ZfZ hok w.name
 refine aW 5 rfl ZcH (h:=aT 6 rfl (ZD fun D B L hI=>Zl rfl rfl lk9 rfl ((hc7.mono hI.1) _ 0 _ rfl) r4) (h:=Zt 7 kr rfl kr (Z2 rfl rfl ZwH rfl (ZjL hJ _ _ _ _ _ _ xa w.name om2 om2 _ hua hfa hia) ?_)))
 intro v8 B8 hle8
 rintro rfl
 replace hua:=hua.mono Zg.mono hle8
 replace hfa:=hfa.mono Zb.mono hle8
 replace hia:=hia.mono Zj.mono hle8
 replace hc7:=hc7.mono hle8
 refine ⟨⟨hle8,t1⟩,(aA 8 rfl (h:=Zz kr kr ?_))⟩
 refine Zf (Za (xL [_,_,_,_,_] ZZ 0 (h:=xAl [_,_,_,_,_] ZaR (h:=fun b9=>xS [_,_,_,_,_] 1 [_,_,_,_,_] Zav (h:=Zu [_,_] rfl (Za (xBs [] [] Tryz.underlying23 Zdi ZeJ (h:=fun b10=>xW ZaK (h:=x1 Zfj 0 (h:=Zo (ZaJ (R:=Zg) 2 rfl (Zaa.lit0 (R:=Zg)) rfl rfl rfl ZmS Zmj rfl rfl rfl hua.rows Zg.one rfl om (fun l11 p11 c11 hv11=>?_))))))))))))
 refine xW ZaK (h:=xS [_] 1 [_,_,_,_,_] Zvt (h:=Zu [_,_,_] rfl (Za (xW ZaK (h:=x1 Zfj 1 (h:=xM (h:=xM (h:=?_))))))))
 obtain ⟨bb12,_,hp12,⟨rfl,hb12,hb12b⟩,hw12,hc12⟩:=hv11.row hw
 refine xIp hp12 Tryz.underlying23 Zdi (h:=xW ZfA (h:=Zo (ZdU (k:=(m2 % xa.users.length)) (off:=2) (⟨w.name,w.pass,Zbo xa w.name⟩) [_] 2 hv11 hp12 hw rfl rfl sz3 rfl rfl rfl rfl rfl rfl (by rintro _ ⟨rfl,e1,e2⟩;exact ⟨rfl,e1,e2⟩) (fun l13 hv13=>?_))))
 refine Zu [_,_,_] rfl (Za (xL [_,_,_,_,_] ZZ 0 (h:=xAl [_,_,_,_,_] ZaR (h:=fun b14=>xS [_,_,_,_,_] 3 [_,_,_,_,_] Zav (h:=Zu [_,_,_,_] rfl (Za (xBs [] [] Tryz.underlying23 Zdi ZeJ (h:=fun b15=>xW ZaK (h:=x1 Zfj 0 (h:=Zo (ZaJ (R:=Zg) 4 rfl (Zaa.lit0 (R:=Zg)) rfl rfl rfl ZmS Zmj rfl rfl rfl hua.rows Zg.one rfl om (fun l16 p16 c16 hv16=>?_))))))))))))
 refine xW ZaK (h:=xS [_] 3 [_,_,_,_,_] Zvt (h:=Zu [_,_,_,_,_] rfl (Za (xW ZaK (h:=x1 Zfj 3 (h:=xM (h:=xM (h:=xU (h:=?_)))))))))
 obtain ⟨bb17,_,hp17,⟨rfl,hb17,hb17b⟩,hw17,hc17⟩:=hv16.row hw
 refine xIp hp17 Tryz.underlying23 Zdi (h:=xW ZfA (h:=Zo (ZdU (k:=(m2 % xa.users.length)) (off:=2) (⟨w.name,w.pass,Zbo xa w.name - 1⟩) [_] 4 hv16 hp17 hw rfl rfl sz3 rfl rfl rfl rfl rfl rfl (by rintro _ ⟨rfl,e1,e2⟩;exact ⟨rfl,e1,e2⟩) (fun l18 hv18=>?_))))
 refine Zu [_,_,_,_,_] rfl (Za (xL [_,_,_,_,_] ZZ 1 (h:=Z3 2 rfl hv13 Zg.mono om3 (fun B19 hle19 hr19=>?_))))
 replace hfa:=hfa.mono Zb.mono hle19
 replace hia:=hia.mono Zj.mono hle19
 replace hua:=hua.mono Zg.mono hle19
 replace hv18:=hv18.mono Zg.mono hle19
 have hr19n:=hr19.len
 refine Zo (Z2 rfl rfl ZoI rfl (Zhe hJ _ _ _ _ _ _ (⟨xa.domain,(xa.users.set (m2 % xa.users.length) (⟨w.name,w.pass,Zbo xa w.name⟩)),xa.folders,⟨xa.queue.next,xa.queue.items⟩⟩:DHost) _ (by simp) om2 _ hr19 hfa hia) ?_)
 intro v20 B20 hle20
 rintro rfl
 replace hr19:=hr19.mono Zg.mono hle20
 replace hfa:=hfa.mono Zb.mono hle20
 replace hia:=hia.mono Zj.mono hle20
 replace hua:=hua.mono Zg.mono hle20
 replace hv18:=hv18.mono Zg.mono hle20
 refine xM (h:=Zq (d:=77) rfl (fun g4=>?_) (fun g4=>by rw [ZpG hok hw hue] at g4;cases g4))
 try simp only [sQ,ne_eq] at g4
 refine xL [_,_,_,_,_] ZZ 3 (h:=Z3 4 rfl hv18 Zg.mono om3 (fun B21 hle21 hr21=>?_))
 replace hr19:=hr19.mono Zg.mono hle21
 replace hfa:=hfa.mono Zb.mono hle21
 replace hia:=hia.mono Zj.mono hle21
 replace hua:=hua.mono Zg.mono hle21
 have hr21n:=hr21.len
 refine Zo (Z2 rfl rfl ZoI rfl (Zhe hJ _ _ _ _ _ _ (⟨xa.domain,(xa.users.set (m2 % xa.users.length) (⟨w.name,w.pass,Zbo xa w.name - 1⟩)),xa.folders,⟨xa.queue.next,xa.queue.items⟩⟩:DHost) _ (by simp) om2 _ hr21 hfa hia) ?_)
 intro v22 B22 hle22
 rintro rfl
 replace hr19:=hr19.mono Zg.mono hle22
 replace hfa:=hfa.mono Zb.mono hle22
 replace hia:=hia.mono Zj.mono hle22
 replace hr21:=hr21.mono Zg.mono hle22
 replace hua:=hua.mono Zg.mono hle22
 refine xN (h:=xT (h:=xA (h:=Zu [_,_,_,_,_] rfl (Zh ?_))))
 exact ZW .ret (.inl rfl) [_] t1 (Zm (by rw [Zre hw hue];rfl))

end Go.Proofs.YtkiiodddgcdekaaGreat
