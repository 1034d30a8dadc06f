/-
  WHAT THE FUNCTIONS THAT THE LAWS REACH COMPUTE: each function's contract, proved off its printed body (the text is written by program). No condition beyond those that each theorem states.
-/
import Derived.Test.YtbebcagblefhcaaGreatDoorC3
namespace Go.Proofs.YtbebcagblefhcaaGreatDoor
open Go Go.BL
set_option linter.unusedVariables false
set_option linter.unusedSimpArgs false
set_option maxRecDepth 4000
set_option maxHeartbeats 6400000
variable {J : JoinT}
theorem Zwz (Q:Value→Kn→Cells→Prop) (B:Kn) (L:Cells):hb Tryz.prog ((Extern.ReflectliteType.method fun t=>do Extern.Rtype.noPackHeld "Comparable" t;pure (.bool (← typeInfo t).comparable)) #[(.agg #[.pointer (some ⟨5,372,none⟩)])]) Q B L=Q (.bool true) B L:=by kernel_rfl

theorem Zu8:Extern.find Tryz.f313=some (Extern.ReflectliteType.method fun t=>do Extern.Rtype.noPackHeld "Comparable" t;pure (.bool (← typeInfo t).comparable)):=by kernel_rfl
theorem Zu7:Extern.find Tryz.f187=some Extern.ReflectliteType.typeOf:=by kernel_rfl

theorem ZxU:Extern.findNext Tryz.f187=none:=by kernel_rfl
theorem ZxV:Extern.findNext Tryz.f313=none:=by kernel_rfl

theorem Zu5 (c k:Nat) (hc:c<4) (hk:k<4) (a:Nat→Addr)  (B:Kn) (hE:ErrsB 372 [0,1,2,3] B a):ZaX (pj J) 188 [errv 372 a (c+1),errv 372 a (k+1),.bool true] B (.bool (decide (c+1=k+1))):=by
 refine cB 54 Tryz.func188 (h:=?_)
 refine Za (xA (h:=Zn (ZQ (α:=Unit) [1,2] (fun u=>[(0,errv 372 a (c+1))]) [] (fun u=>[]) (fun u Bx=>Bx=B) (fun u=>0) () t1 rfl (rfl) (fun u B1 hle1 hI=>?_))))
 subst hI
 refine ZN [(0,_),(1,_),(2,_)] [] t3 rfl (Zn (Zh (Za (xM (h:=xM (h:=Zq (d:=15) rfl (fun g1=>?_) (fun g1=>by cases g1)))))))
 try simp only [sQ,ne_eq] at g1
 refine xM (h:=xM (h:=Zm (ZpS (a:=a) (c:=(c+1)) (k:=k) hE oz oz rfl rfl Tryz.underlying100 Tryz.underlying372 Zzz Zv9 rfl rfl ?_)))
 refine xT (h:=Zb rfl (fun g2=>?_) (fun g2=>?_))
 try simp only [sQ,ne_eq] at g2
 refine Za (xA (h:=Zd (Zp (ZI (Z7 (ZI ?_))))))
 exact eR t1 ⟨Zk (decide_eq_true g2).symm,rfl,rfl⟩
 try simp only [sQ,ne_eq] at g2
 refine wSk (Zh (Za (xM (h:=Zm (Zid rfl rfl Tryz.underlying319 kr Zxk rfl ?_)))))
 refine xM (h:=xE (h:=xE (h:=xA (h:=xA (h:=Za (xM (h:=xM (h:=Zq (d:=26) rfl (fun g3=>by cases g3) (fun g3=>?_)))))))))
 try simp only [sQ,ne_eq] at g3
 refine xP (h:=xP (h:=xP (h:=xF (h:=Zb (t:=false) rfl (fun h=>Bool.noConfusion h) (fun _=>wSk (Za (xM (h:=Zn (Za (Zm (Zid rfl rfl Tryz.underlying322 kr Zxj rfl ?_)))))))))))
 refine xE (h:=xE (h:=Zb rfl (fun g5=>by cases g5) (fun g5=>?_)))
 try simp only [sQ,ne_eq] at g5
 refine Za (Zm (Zid rfl rfl Tryz.underlying324 kr Zxi rfl ?_))
 refine xE (h:=xE (h:=Zb rfl (fun g6=>by cases g6) (fun g6=>?_)))
 try simp only [sQ,ne_eq] at g6
 refine Za (xA (h:=Za (xA (h:=Zd (ZI (ZI (Z7 (ZI ?_))))))))
 exact eR t1 ⟨Zk (decide_eq_false g2).symm,rfl,rfl⟩

theorem Zu4 (c k:Nat) (hc:c<4) (hk:k<4) (a:Nat→Addr)  (B:Kn) (hE:ErrsB 372 [0,1,2,3] B a):ZaX (pj J) 129 [errv 372 a (c+1),errv 372 a (k+1)] B (.bool (decide (c+1=k+1))):=by
 refine cB 22 Tryz.func129 (h:=?_)
 refine Za (xA (h:=Zh (Za (xM (h:=Zm (ZnL (tE:=372) (a:=a) (c:=(c+1)) rfl rfl Tryz.underlying100 rfl (xM (h:=Zq (d:=8) rfl (fun g1=>by simp at g1) (fun g1=>?_)))))))))
 refine xM (h:=Zm (ZnL (tE:=372) (a:=a) (c:=(k+1)) rfl rfl Tryz.underlying100 rfl (xF (h:=Zb rfl (fun g2=>by simp at g2) (fun g2=>?_)))))
 refine wSk (Za (xM (h:=Zm (ZvV (fn:=Tryz.f187) rfl rfl Tryz.func187 rfl rfl ZxU Zu7 rfl (Zwx _) (Zm (ZvS (f:=313) (fn:=Tryz.f313) rfl rfl Tryz.func313 rfl rfl ZxV Zu8 rfl (Zwy _) Zwz (xA (h:=Za (xM (h:=xM (h:=xM (h:=xR ZyJ rfl (Zu5 c k oz oz a _ hE) (h:=?_)))))))))))))
 refine xA (h:=Zd ?_)
 exact eR t1 ⟨rfl,rfl,rfl⟩

theorem Zu6 (k:Nat) (hk:k<4) (a:Nat→Addr)  (B:Kn) (hE:ErrsB 372 [0,1,2,3] B a):ZaX (pj J) 129 [.nilIface,errv 372 a (k+1)] B (.bool (decide (0=k+1))):=by
 refine cB 22 Tryz.func129 (h:=?_)
 refine Za (xA (h:=Zh (Za (xM (h:=Zm (ZnL (tE:=372) (a:=a) (c:=0) rfl rfl Tryz.underlying100 rfl (xM (h:=Zq (d:=8) rfl (fun g1=>?_) (fun g1=>by simp at g1)))))))))
 refine xP (h:=xP (h:=xT (h:=Zb (t:=true) rfl (fun _=>Za (xM (h:=xM (h:=Zm (ZpS (a:=a) (c:=0) (k:=k) hE oz oz rfl rfl Tryz.underlying100 Tryz.underlying372 Zzz Zv9 rfl rfl ?_))))) (fun h=>Bool.noConfusion h))))
 refine xA (h:=Zd (Zp ?_))
 exact eR t1 ⟨rfl,rfl,rfl⟩

theorem Zoh (c k:Nat) (hc:c<5) (hk:k<4) (a:Nat→Addr)  (B:Kn) (hE:ErrsB 372 [0,1,2,3] B a):ZaX (pj J) 129 [errv 372 a c,errv 372 a (k+1)] B (.bool (decide (c=k+1))):=by
 cases c with
 | zero=>exact Zu6 k hk a B hE
 | succ c=>exact Zu4 c k oz hk a B hE

theorem Zfu (c:Nat) (hc:c<5) (a:Nat→Addr)  (B:Kn) (hE:ErrsB 372 [0,1,2,3] B a):ZaX (pj J) 75 [errv 372 a (c)] B (.int .i64 c):=by
 refine cB 22 Tryz.func75 (h:=?_)
 refine Za (xA (h:=Zh (Zn (Za (xM (h:=Zm (ZnL (tE:=372) (a:=a) (c:=c) rfl rfl Tryz.underlying100 rfl (xA (h:=Zb rfl (fun g0=>?_) (fun g0=>?_))))))))))
 try simp only [sQ,ne_eq] at g0
 refine Za (xA (h:=Zd (ZI (Zp ?_))))
 exact eR t1 ⟨ZaH oz,rfl,rfl⟩
 try simp only [sQ,ne_eq] at g0
 refine Za (xM (h:=Zm (Ze rfl rfl Zm1 rfl ((hE.row 0 (by decide)) _ 0 _ rfl) ?_)))
 refine xR Ztj rfl (Zoh c 0 om2 om2 a _ hE) (h:=?_)
 refine xA (h:=Zb rfl (fun g1=>?_) (fun g1=>?_))
 try simp only [sQ,ne_eq] at g1
 refine Za (xA (h:=Zd (ZI (Zp ?_))))
 exact eR t1 ⟨ZaH oz,rfl,rfl⟩
 try simp only [sQ,ne_eq] at g1
 refine Za (xM (h:=Zm (Ze rfl rfl Zm1 rfl ((hE.row 1 (by decide)) _ 0 _ rfl) ?_)))
 refine xR Ztj rfl (Zoh c 1 om2 om2 a _ hE) (h:=?_)
 refine xA (h:=Zb rfl (fun g2=>?_) (fun g2=>?_))
 try simp only [sQ,ne_eq] at g2
 refine Za (xA (h:=Zd (ZI (Zp ?_))))
 exact eR t1 ⟨ZaH oz,rfl,rfl⟩
 try simp only [sQ,ne_eq] at g2
 refine Za (xM (h:=Zm (Ze rfl rfl Zm1 rfl ((hE.row 2 (by decide)) _ 0 _ rfl) ?_)))
 refine xR Ztj rfl (Zoh c 2 om2 om2 a _ hE) (h:=?_)
 refine xA (h:=Zb rfl (fun g3=>?_) (fun g3=>?_))
 try simp only [sQ,ne_eq] at g3
 refine Za (xA (h:=Zd (ZI (Zp ?_))))
 exact eR t1 ⟨ZaH oz,rfl,rfl⟩
 try simp only [sQ,ne_eq] at g3
 refine Za (xM (h:=Zm (Ze rfl rfl Zm1 rfl ((hE.row 3 (by decide)) _ 0 _ rfl) ?_)))
 refine xR Ztj rfl (Zoh c 3 om2 om2 a _ hE) (h:=?_)
 refine xA (h:=Zb rfl (fun g4=>?_) (fun g4=>?_))
 try simp only [sQ,ne_eq] at g4
 refine Za (xA (h:=Zd (ZI (Zp ?_))))
 exact eR t1 ⟨ZaH oz,rfl,rfl⟩
 try simp only [sQ,ne_eq] at g4
 refine ZL (Zw (Zj (Za (xA (h:=Zd ?_)))))
 exact eR t1 ⟨ZaH oz,rfl,rfl⟩

theorem Znx (b o:Nat) (q1 q2 q3:Option Addr) (c1 c2 c3:Nat) (x:DHost) (u ow nm:Str) (rr:Int) (hn:u.length≤2000000) (ho:ow.length≤2000000) (hm:nm.length≤2000000) (a:Nat→Addr)  (B:Kn) (hE:ErrsB 372 [0,1,2,3] B a) (hh:ZaI B b o [str x.domain,.slice q1 x.users.length c1,.slice q2 x.folders.length c2,.int .i64 x.queue.next,.slice q3 x.queue.items.length c3]) (hu:SlK B q1 c1 3 ZA x.users) (hf:SlK B q2 c2 5 Zf x.folders):ZaX (pj J) 68 [ptr ⟨b,o,none⟩,str u,str ow,str nm,.int .i64 rr] B (.tuple #[.int .i64 (if Zd3 x.users x.folders u ow nm rr=0 then ZaJ (inF ow nm) x.folders else -1),errv 372 a (Zd3 x.users x.folders u ow nm rr)]):=by
 refine cB 47 Tryz.func68 (h:=?_)
 have hfn:=hf.len
 have hix:=Zdb (inF ow nm) x.folders
 refine Za (xA (h:=xA (h:=Za (xM (h:=xM (h:=xM (h:=xR ZwP rfl (ZtY _ _ _ _ _ _ _ _ x ow nm om2 om2 _ hh hf) (h:=?_))))))))
 refine xA (h:=Zh (Za (xM (h:=Zag (h:=xM (h:=Zq (d:=19) rfl (fun g1=>?_) (fun g1=>?_)))))))
 try simp only [sQ,ne_eq] at g1
 refine xP (h:=xP (h:=xP (h:=xP (h:=xP (h:=xP (h:=xP (h:=xP (h:=xP (h:=xP (h:=xP (h:=xT (h:=Zb (t:=true) rfl (fun _=>Zh (ZV (same _ _) mo kr ⟨rfl,rfl⟩ (fun _ _=>?_))) (fun h=>Bool.noConfusion h)))))))))))))
 refine aT 0 rfl (Zaj fun D=>Ze rfl rfl Zm1 rfl ((hE.row 0 (by decide)) _ 0 _ rfl) r4) (h:=?_)
 refine aA 1 rfl (h:=aA 2 rfl (h:=Zv kr kr ?_))
 refine Zj (Zd (Zp ?_))
 exact Zok .ret (.inl rfl) [_,_] t2 ⟨(by rw [show Zd3 x.users x.folders u ow nm rr=1 from Zrz (by simpa using g1)];rfl),rfl,rfl⟩
 try simp only [sQ,ne_eq] at g1
 refine xM (h:=xM (h:=xM (h:=xNc (h:=xW Z1 (h:=Zm (Ze rfl rfl ZcM rfl (hh _ 2 _ rfl) (xM (h:=?_))))))))
 obtain ⟨w,hw⟩:=Zey (xs:=x.folders) (i:=(ZaJ (inF ow nm) x.folders)) om om
 obtain ⟨bb3,oo3,rfl⟩:=hf.base hw
 obtain ⟨_,⟨qg4,cg4,qm4,cm4,rfl,hg4,hm4,hb4,hb4b⟩,hc4⟩:=hf.elem hw
 have hg4n:=hg4.len
 have hm4n:=hm4.len
 have hm4s:=Z5 hm4
 refine xIx Tryz.underlying39 Zbo (h:=yL [_,_,_,_,_] ZhP hc4 0 (h:=xR ZwO rfl (Zwm _ _ _ _ _ _ _ _ x _ _ _ _ u w _ om2 om2 _ hh hu hg4) (h:=?_)))
 refine xN (h:=xF (h:=Zb rfl (fun g3=>?_) (fun g3=>?_)))
 try simp only [sQ,ne_eq] at g3
 refine Zh (ZV (same _ _) mo kr ⟨rfl,rfl⟩ (fun _ _=>?_))
 refine aT 0 rfl (Zaj fun D=>Ze rfl rfl Zm1 rfl ((hE.row 0 (by decide)) _ 0 _ rfl) r4) (h:=?_)
 refine aA 1 rfl (h:=aA 2 rfl (h:=Zv kr kr ?_))
 refine Zj (Zd (Zp ?_))
 exact Zok .ret (.inl rfl) [_,_] t2 ⟨(by rw [show Zd3 x.users x.folders u ow nm rr=1 from by rw [ZkO oz hw,if_pos (by simpa using g3)]];rfl),rfl,rfl⟩
 try simp only [sQ,ne_eq] at g3
 refine wSk (Zh (Za (xM (h:=xM (h:=xM (h:=xNc (h:=xW Z1 (h:=Zm (Ze rfl rfl ZcM rfl (hh _ 2 _ rfl) (xM (h:=xIx Tryz.underlying39 Zbo (h:=yL [_,_,_,_,_] ZhP hc4 0 (h:=xM (h:=xR ZwO rfl (Zwm _ _ _ _ _ _ _ _ x _ _ _ _ u w _ om2 om2 _ hh hu hg4) (h:=?_)))))))))))))))
 refine xN (h:=Zb rfl (fun g4=>?_) (fun g4=>?_))
 try simp only [sQ,ne_eq] at g4
 refine Zh (ZV (same _ _) mo kr ⟨rfl,rfl⟩ (fun _ _=>?_))
 refine aT 0 rfl (Zaj fun D=>Ze rfl rfl Zm1 rfl ((hE.row 1 (by decide)) _ 0 _ rfl) r4) (h:=?_)
 refine aA 1 rfl (h:=aA 2 rfl (h:=Zv kr kr ?_))
 refine Zj (Zd (Zp ?_))
 exact Zok .ret (.inl rfl) [_,_] t2 ⟨(by rw [show Zd3 x.users x.folders u ow nm rr=2 from by rw [ZkO oz hw,if_neg (by simp [g3]),if_pos (by simpa using g4)]];rfl),rfl,rfl⟩
 try simp only [sQ,ne_eq] at g4
 refine wSk (Za (xM (h:=xA (h:=xA (h:=Zd ?_)))))
 exact Zok .ret (.inl rfl) [_,_] t2 ⟨(by rw [show Zd3 x.users x.folders u ow nm rr=0 from by rw [ZkO oz hw,if_neg (by simp [g3]),if_neg (by simp [g4])]];rfl),rfl,rfl⟩

theorem Zwf (hJ:Joins Tryz.prog J) (q1 q2 q3:Option Addr) (c1 c2 c3:Nat) (x:DHost) (z:DSess) (o n:Str) (h1:z.user.length≤2000000) (h2:z.owner.length≤2000000) (h3:z.name.length≤2000000) (ho:o.length≤2000000) (hn:n.length≤2000000) (hd:x.domain.length≤2000000) (a:Nat→Addr)  (B:Kn) (hE:ErrsB 372 [0,1,2,3] B a) (hu:SlK B q1 c1 3 ZA x.users) (hf:SlK B q2 c2 5 Zf x.folders) (hi:SlK B q3 c3 4 ZC x.queue.items):Zu (pj J) 31 [.agg #[str x.domain,.slice q1 x.users.length c1,.slice q2 x.folders.length c2,.int .i64 x.queue.next,.slice q3 x.queue.items.length c3],.agg #[str z.user,str z.owner,str z.name],str o,str n] B [] (fun v B' Ls=>Ls=[]∧v = .tuple #[.agg #[str (Zls x z o n).1.user,str (Zls x z o n).1.owner,str (Zls x z o n).1.name],.int .i64 (Zls x z o n).2]):=by
 refine cB 34 Tryz.func31 (h:=?_)
 have hfn:=hf.len
 refine Za (xBx [_,_,_,_,_] (h:=fun b1=>xBx [_,_,_] (h:=fun b2=>xAl [_,_,_] ZkW (h:=fun b3=>xA (h:=tL3 (Zmu 0 rfl (fun B4 hle4 hpm4=>?_)))))))
 have hc4:=ZbR hpm4
 obtain ⟨hu,hf,hi⟩:=up3 hle4 hu hf hi
 replace hE:=hE.mono hle4
 refine Zh (Za (yL [_,_,_,_,_] ZY hc4 0 (h:=xQ Zzx rfl (ZiJ hJ _ _ _ _ _ _ x om2 _ hu hf hi) (h:=?_))))
 intro v5 B5 hle5
 rintro rfl
 obtain ⟨hu,hf⟩:=up2 hle5 hu hf
 replace hc4:=hc4.mono hle5
 replace hE:=hE.mono hle5
 refine xN (h:=tL3 (Zb rfl (fun g1=>?_) (fun g1=>?_)))
 try simp only [sQ,ne_eq] at g1
 refine Za (xB [] [_,_,_] [_,_,_] Zuu ZkW (h:=xS [_,_,_] 2 [_,_,_] ZmD (h:=xA (h:=tL3 (Zd (Zp ?_))))))
 exact Zat .ret (.inl rfl) [_,_] [] rfl ⟨⟨_,rfl,.inr ⟨[_,_,_],ZfZ,Zaa 2 rfl rfl rfl,rfl⟩⟩,rfl,trivial⟩ ⟨rfl,by rw [Zkb (by simpa using g1)];rfl⟩
 try simp only [sQ,ne_eq] at g1
 have hck:=Znw x.users x.folders z.user o n 2
 have hce:=Zop (u:=z.user) (o:=o) (n:=n) (show Zz x=true by simpa using g1)
 refine wSk (Zh (Za (xW ZfI (h:=x1 lk9 1 (h:=xM (h:=xM (h:=xR Zx2 rfl (Znx _ _ _ _ _ _ _ _ x z.user o n 2 om2 om2 om2 a _ hE hc4 hu hf) (h:=?_))))))))
 refine xM (h:=xE (h:=xE (h:=xA (h:=xA (h:=Za (xM (h:=Zm (ZpL (tE:=372) (a:=a) (c:=(Zd3 x.users x.folders z.user o n 2)) rfl rfl Tryz.underlying100 rfl (Zb rfl (fun g2=>?_) (fun g2=>?_))))))))))
 try simp only [sQ,ne_eq] at g2
 refine Zh (ZV (keeps _ [1] _) mo kr ⟨Kn.le.refl _,Zae.refl _ _⟩ (fun _ _=>?_))
 refine aT 0 rfl (Zx fun D B L hI=>ZX [_,_,_] rfl rfl ZfZ rfl (Zaa 1 (hI.2.1.trans rfl) rfl rfl) r4) (h:=aM 1 rfl (h:=aT 2 rfl (Zx fun D B L hI=>ZaF rfl rfl Zxe rfl (Zfu (Zd3 x.users x.folders z.user o n 2) om2 a _ (hE.mono hI.1)) r4) (h:=?_)))
 refine Za4 3 kr rfl kr kr (ZE [_,_,_] 2 [_,_,_] rfl rfl ZmD rfl rfl rfl rfl rfl rfl rfl rfl ?_)
 refine aA 4 rfl (h:=Zv kr kr ?_)
 refine Zj (tL3 (Zd (Zp ?_)))
 exact Zat .ret (.inl rfl) [_,_] [] rfl ⟨⟨_,rfl,.inr ⟨[_,_,_],ZfZ,Zaa 2 rfl rfl rfl,rfl⟩⟩,rfl,trivial⟩ ⟨rfl,by rw [ZmM (by simpa using g1) oz,← hce];rfl⟩
 try simp only [sQ,ne_eq] at g2
 refine wSk (Za (xW ZfI (h:=x1 lk9 1 (h:=xM (h:=xM (h:=xB [(0,_),(1,_),(2,_)] [_,_,_] [_,_,_] Zuu ZkW (h:=xS [_,_,_] 2 [_,_,_] ZmD (h:=xA (h:=tL3 (Zd ?_))))))))))
 exact Zat .ret (.inl rfl) [_,_] [] rfl ⟨⟨_,rfl,.inr ⟨[_,_,_],ZfZ,Zaa 2 rfl rfl rfl,rfl⟩⟩,rfl,trivial⟩ ⟨rfl,by rw [Zka (by simpa using g1) oz];rfl⟩

theorem Zwe (q1 q2 q3:Option Addr) (c1 c2 c3:Nat) (x:DHost) (z:DSess) (o n:Str) (h1:z.user.length≤2000000) (h2:z.owner.length≤2000000) (h3:z.name.length≤2000000) (ho:o.length≤2000000) (hn:n.length≤2000000) (hd:x.domain.length≤2000000) (B:Kn) (hu:SlK B q1 c1 3 ZA x.users) (hf:SlK B q2 c2 5 Zf x.folders) (hi:SlK B q3 c3 4 ZC x.queue.items):ZaX (pj J) 32 [.agg #[str x.domain,.slice q1 x.users.length c1,.slice q2 x.folders.length c2,.int .i64 x.queue.next,.slice q3 x.queue.items.length c3],.agg #[str z.user,str z.owner,str z.name],str o,str n] B (.tuple #[.agg #[str (Zls x z o n).1.user,str (Zls x z o n).1.owner,str (Zls x z o n).1.name],.int .i64 (Zls x z o n).2]):=by
 refine cB 32 Tryz.func32 (h:=?_)
 have hfn:=hf.len
 have hix:=Zdb (inF o n) x.folders
 refine Za (xBx [_,_,_,_,_] (h:=fun b1=>xBx [_,_,_] (h:=fun b2=>xAl [_,_,_] ZkW (h:=fun b3=>xA (h:=tL3 (Zh (Za (xL [_,_,_,_,_] ZY 0 (h:=xR Zrl rfl (Zbp _ _ _ _ _ _ x om2 _ hu hf hi) (h:=?_))))))))))
 refine xN (h:=Zb rfl (fun g1=>?_) (fun g1=>?_))
 try simp only [sQ,ne_eq] at g1
 refine Za (xB [] [_,_,_] [_,_,_] Zuu ZkW (h:=xS [_,_,_] 2 [_,_,_] ZmD (h:=xA (h:=tL3 (Zd (Zp ?_))))))
 exact Zok .ret (.inl rfl) [_,_] ⟨⟨_,rfl,.inr ⟨[_,_,_],ZfZ,Zaa 2 rfl rfl rfl,rfl⟩⟩,rfl,trivial⟩ ⟨(by rw [Zkb (by simpa using g1)];rfl),rfl,rfl⟩
 try simp only [sQ,ne_eq] at g1
 have hrr:=Zb0 (show Zz x=true by simpa using g1)
 refine wSk (Zh (ZV (same _ _) mo kr ⟨rfl,rfl⟩ (fun _ _=>?_)))
 refine aT 0 rfl (Zaj fun D=>ZX [_,_,_,_,_] rfl rfl ZY rfl (Zaa 0 rfl rfl rfl) r4) (h:=aW 1 rfl ZfI (h:=aT 2 rfl (Zaj fun D=>Ze rfl rfl lk9 rfl (atL 1 rfl rfl rfl) r4) (h:=aT 3 rfl (Zaj fun D=>ZX [_,_,_,_,_] rfl rfl ZY rfl (Zaa 0 rfl rfl rfl) r4) (h:=aM 4 rfl (h:=aM 5 rfl (h:=aT 6 rfl (Zaj fun D=>ZaF rfl rfl Zt0 rfl (Zc5 _ _ _ _ _ _ x o n om2 om2 _ hf) r4) (h:=?_)))))))
 refine aT 7 rfl (Zaj fun D=>ZaF rfl rfl ZvB rfl (Zdo _ _ _ _ _ _ x z.user (ZaJ (inF o n) x.folders) 2 oz hrr oz _ hu hf) r4) (h:=?_)
 refine aA 8 rfl (h:=Zv kr kr ?_)
 refine Zj (Zh (Za (xM (h:=Zdt (h:=Zb rfl (fun g2=>?_) (fun g2=>?_))))))
 try simp only [sQ,ne_eq] at g2
 refine Za (xL [_,_,_] ZfZ 1 (h:=xM (h:=xS [_,_,_] 2 [_,_,_] ZmD (h:=xA (h:=tL3 (Zd (Zp ?_)))))))
 exact Zok .ret (.inl rfl) [_,_] ⟨⟨_,rfl,.inr ⟨[_,_,_],ZfZ,Zaa 2 rfl rfl rfl,rfl⟩⟩,rfl,trivial⟩ ⟨(by rw [ZmM (by simpa using g1) g2];rfl),rfl,rfl⟩
 try simp only [sQ,ne_eq] at g2
 refine wSk (Za (xW ZfI (h:=x1 lk9 1 (h:=xM (h:=xM (h:=xB [(0,_),(1,_),(2,_)] [_,_,_] [_,_,_] Zuu ZkW (h:=xS [_,_,_] 2 [_,_,_] ZmD (h:=xA (h:=tL3 (Zd ?_))))))))))
 exact Zok .ret (.inl rfl) [_,_] ⟨⟨_,rfl,.inr ⟨[_,_,_],ZfZ,Zaa 2 rfl rfl rfl,rfl⟩⟩,rfl,trivial⟩ ⟨(by rw [Zka (by simpa using g1) g2];rfl),rfl,rfl⟩

theorem Ztl (q:Option Addr) (m cp:Nat) (hmc:m≤cp) (B:Kn) (hb:Zan B q m):Zu (pj J) 30 [.slice q m cp] B [] (fun v B' Ls=>Ls=[]∧∃(x:DHost) (p1 p2 p3:Option Addr) (d1 d2 d3:Nat) (w y z o n:Str),v = .tuple #[.agg #[str x.domain,.slice p1 x.users.length d1,.slice p2 x.folders.length d2,.int .i64 x.queue.next,.slice p3 x.queue.items.length d3],.agg #[str w,str y,str z],str o,str n]∧SlK B' p1 d1 3 ZA x.users∧SlK B' p2 d2 5 Zf x.folders∧SlK B' p3 d3 4 ZC x.queue.items∧x.domain.length≤2000000∧w.length≤2000000∧y.length≤2000000∧z.length≤2000000∧o.length≤2000000∧n.length≤2000000):=by
 refine cB 28 Tryz.func30 (h:=?_)
 refine Za (xAl [_,_,_,_,_] Za6 (h:=fun b1=>xAl [_,_,_] ZkW (h:=fun b2=>xA (h:=xA (h:=tL2 (Za (xM (h:=Zm (ZtJ rfl rfl ZzV rfl (ZsN _ _ _ oz _ (oy)) ?_)))))))))
 rintro _ _ ⟨bop,qop,mop,cpop,rfl,rfl,hm,hbm⟩
 refine xA (h:=tL3 (Za (xM (h:=xK [2] rfl ZzU rfl (ZsK _ _ _ _ _ oz hm _ hbm) (h:=?_)))))
 rintro _ Bh _ hleh ⟨xh,p1h,p2h,p3h,d1h,d2h,d3h,kh,rfl,huh,hfh,hih,hdh,hkh,rfl⟩
 replace hbm:=hbm.mono hleh
 have huhn:=huh.len
 have hfhn:=hfh.len
 have hihn:=hih.len
 refine xAl [_,_,_,_,_] Za6 (h:=fun b5=>xS [_,_,_,_,_] 3 [_,_,_,_,_] Zau (h:=tL4 (Za (xM (h:=xL [_,_,_,_,_] ZY 3 (h:=xX 2 rfl ZzT rfl (ZlI _ _ _ _ _ oz hm _ _ _ _ _ _ _ _ hbm hfh) (h:=?_)))))))
 rintro _ _ ⟨ws,ys,zs,ks,rfl,hws,hys,hzs,hks,rfl⟩
 refine xAl [_,_,_] ZkW (h:=fun b7=>xS [_,_,_] 4 [_,_,_] ZmD (h:=tL5 (Za (xM (h:=xL [_,_,_,_,_] ZY 3 (h:=xX 2 rfl Zzy rfl (Zn8 _ _ _ _ _ oz hm _ _ _ _ _ _ _ _ hbm hfh) (h:=?_)))))))
 rintro _ _ ⟨yo,zo,ko,rfl,hyo,hzo,hko,rfl⟩
 refine xM (h:=xE (h:=xE (h:=xA (h:=xA (h:=tL5 (Zh (ZV (keeps _ [3,4] _) mo kr ⟨Kn.le.refl _,Zae.refl _ _⟩ (fun _ _=>?_))))))))
 refine aT 0 rfl (Zx fun D B L hI=>ZX [_,_,_,_,_] rfl rfl ZY rfl (Zaa 3 (hI.2.1.trans rfl) rfl rfl) r4) (h:=aT 1 rfl (Zx fun D B L hI=>ZX [_,_,_] rfl rfl ZfZ rfl (Zaa 4 (hI.2.2.1.trans rfl) rfl rfl) r4) (h:=aM 2 rfl (h:=aM 3 rfl (h:=Zo 4 kr rfl kr (ZE [_,_,_,_,_] 0 [_,_,_,_,_] rfl rfl Zau rfl rfl rfl rfl rfl rfl rfl rfl ?_)))))
 refine ⟨⟨Kn.le.refl _,t2⟩,(Za4 5 kr rfl kr kr (ZE [_,_,_] 1 [_,_,_] rfl rfl ZmD rfl rfl rfl rfl rfl rfl rfl rfl ?_))⟩
 refine aA 6 rfl (h:=aA 7 rfl (h:=Zv kr kr ?_))
 refine Zj (tL5 (Zd ?_))
 exact Zat .ret (.inl rfl) [_,_,_,_] [] rfl ⟨⟨_,rfl,.inr ⟨[_,_,_,_,_],ZY,Zaa 0 rfl rfl rfl,rfl⟩⟩,⟨_,rfl,.inr ⟨[_,_,_],ZfZ,Zaa 1 rfl rfl rfl,rfl⟩⟩,rfl,rfl,trivial⟩ ⟨rfl,xh,_,_,_,_,_,_,_,_,_,_,_,rfl,huh,hfh,hih,hdh,oa,oa,oa,oa,oa⟩

theorem ZiU (q:Option Addr) (cp:Nat) (xs:List DFolder) (B:Kn) (hx:SlK B q cp 5 Zf xs):Zu (pj J) 143 [.slice q xs.length cp] B [] (fun v B' Ls=>B'=B∧∃l a c,Ls=[l]∧v = .slice a xs.length c∧Zd7 l a c 87 5 (Zb8 224 89) xs):=by
 refine cB 22 Tryz.func143 (h:=?_)
 have hxn:=hx.len
 refine Za (xA (h:=Za (xM (h:=xV Tryz.underlying39 (h:=Zm (Zib (m:=0) (c:=xs.length) (by_:=88) [.string ⟨#[]⟩,.string ⟨#[]⟩,.slice none 0 0,.int .i64 0,.slice none 0 0] rfl rfl Zi2 ZdQ rfl rfl ⟨_,_,rfl,by first | omega | (simp;done) | (simp;omega)⟩ ⟨_,_,rfl,by first | omega | (simp;done) | (simp;omega)⟩ om om (fun b1=>?_)))))))
 have hd1:=Zd7.zeros (b:=b1) (T:=87) (R:=(Zb8 224 89)) (d:=(⟨[],[],[],0,[]⟩:DFolder)) (m:=0) (c:=xs.length) (zs:=[.string ⟨#[]⟩,.string ⟨#[]⟩,.slice none 0 0,.int .i64 0,.slice none 0 0]) rfl (⟨_,_,_,_,[],[],rfl,rfl,ZT.nil,ZT.nil,by simp,by simp,by simp,by simp⟩) om
 refine xA (h:=tL1 (Zh (Za (xM (h:=xV Tryz.underlying39 (h:=xM (h:=Zn (ZQ (α:=Gh DFolder) [0,2,9,10] (fun g=>[(3,.slice g.a g.xs.length g.c),(11,.int .i64 g.k)]) [0] (fun g=>[g.l]) (fun g Bx=>Bx=B∧g.k≤xs.length∧g.xs=xs.take g.k∧g.xs.length≤g.k∧Zd7 g.l g.a g.c 87 5 (Zb8 224 89) g.xs) (fun g=>xs.length - g.k) ⟨0,0,(Z8 b1 (zrow [.string ⟨#[]⟩,.string ⟨#[]⟩,.slice none 0 0,.int .i64 0,.slice none 0 0] xs.length) 87),(some ⟨b1,0,none⟩),xs.length,[]⟩ t2 rfl (⟨rfl,Nat.zero_le _,by simp,Nat.le_refl _,hd1⟩) (fun g B2 hle2 hI=>?_)))))))))
 obtain ⟨rfl,hk,hxs,hxl,hv⟩:=hI
 refine ZN [(0,_),(2,_),(3,_),(9,_),(10,_),(11,_)] [_] t6 rfl (Za (Zag (h:=Zh (Zb rfl (fun g1=>?_) (fun g1=>?_)))))
 try simp only [sQ,ne_eq] at g1
 refine wSk (Zh (Zn (Za ?_)))
 obtain ⟨w,hw⟩:=ZaA (xs:=xs) (i:=g.k) om
 obtain ⟨bb4,oo4,rfl⟩:=hx.base hw
 obtain ⟨_,⟨qg5,cg5,qm5,cm5,rfl,hg5,hm5,hb5,hb5b⟩,hc5⟩:=hx.elem hw
 have hg5n:=hg5.len
 have hm5n:=hm5.len
 have hm5s:=Z5 hm5
 refine xIx Tryz.underlying39 Zbo (h:=yL [_,_,_,_,_] ZhP hc5 0 (h:=xAl [_,_,_,_,_] ZdQ (h:=fun b6=>xS [_,_,_,_,_] 1 [_,_,_,_,_] Zbo (h:=tL2 (Zc (xM (h:=xL [_,_,_,_,_] ZhP 1 (h:=xC ZyH rfl (ZkC _ _ _ _ w _ hg5 hm5) (h:=?_)))))))))
 rintro _ B7 _ hle7 ⟨rfl,l7,a7,c7,l7b,a7b,c7b,rfl,rfl,hs7,hs7b⟩
 refine xBs [(0,_)] [_,_,_,_,_] Tryz.underlying39 Zbo ZdQ (h:=fun b8=>Zm (Zug (R:=(Zb8 224 89)) (⟨w.owner,w.name,w.grants,w.next,w.mail⟩) 0 [2,3] rfl rfl hv rfl rfl rfl Zi2 Zji rfl rfl (ZaO.box 4 rfl) rfl rfl (l7 ++ l7b) (by simp) (⟨_,_,_,_,_,_,rfl,rfl,(hs7.anyK Z0.any),(hs7b.anyK ZS.any),by first | assumption | omega | (simp;done) | (simp;omega),by first | assumption | omega | (simp;done) | (simp;omega),by first | assumption | omega | (simp;done) | (simp;omega),by first | assumption | omega | (simp;done) | (simp;omega)⟩) om (fun l9 p9 c9 hd9=>?_)))
 refine xA (h:=Zw (Zj (Zc (xD (h:=xM (h:=?_))))))
 exact ZD ⟨g.k+1,0,l9,p9,c9,(g.xs ++ [⟨w.owner,w.name,w.grants,w.next,w.mail⟩])⟩ [0] (by first | omega | (simp only [];omega)) ⟨rfl,by simp only [];omega,by simp only [];rw [Zaw hw,hxs],by simp;omega,hd9⟩ ⟨rfl,rfl,rfl,rfl,rfl,rfl,trivial⟩ rfl
 try simp only [sQ,ne_eq] at g1
 have hxe:g.xs=xs:=by rw [hxs];exact List.take_of_length_le oz
 refine ZU (Zak (Z3 (ZK (Zj (Za (xM (h:=xA (h:=Zd ?_))))))))
 exact Zat .ret (.inl rfl) [_] [0] rfl ⟨rfl,trivial⟩ ⟨rfl,_,_,_,rfl,by rw [← hxe];rfl,hxe ▸ hv⟩

theorem Zhs (q1 q2 q3:Option Addr) (c1 c2 c3:Nat) (x:DHost) (B:Kn) (hu:SlK B q1 c1 3 ZA x.users) (hf:SlK B q2 c2 5 Zf x.folders) (hi:SlK B q3 c3 4 ZC x.queue.items):Zu (pj J) 91 [.agg #[str x.domain,.slice q1 x.users.length c1,.slice q2 x.folders.length c2,.int .i64 x.queue.next,.slice q3 x.queue.items.length c3]] B [] (fun v B' Ls=>∃q1 c1 q2 c2 q3 c3 l1 l2 l3,Ls=[l1,l2,l3]∧v = .agg #[str x.domain,.slice q1 x.users.length c1,.slice q2 x.folders.length c2,.int .i64 x.queue.next,.slice q3 x.queue.items.length c3]∧ZT Kn.none l1 q1 c1 142 3 ZA x.users∧Zd7 l2 q2 c2 87 5 (Zb8 224 89) x.folders∧Zd7 l3 q3 c3 146 4 (Zg8 9) x.queue.items):=by
 refine cB 16 Tryz.func91 (h:=?_)
 have hun:=hu.len
 have hfn:=hf.len
 have hin:=hi.len
 refine Za (xBx [_,_,_,_,_] (h:=fun b1=>xAl [_,_,_,_,_] Za6 (h:=fun b2=>tL2 (Zh (ZV (keeps _ [0] _) mo kr ⟨Kn.le.refl _,Zae.refl _ _⟩ (fun _ _=>?_))))))
 refine aW 0 rfl Zl0 (h:=aT 1 rfl (Zx fun D B L hI=>Ze rfl rfl lk9 rfl (atL 0 (hI.2.1.trans rfl) rfl rfl) r4) (h:=aW 3 rfl Zcg (h:=aT 4 rfl (Zx fun D B L hI=>Ze rfl rfl ZjM rfl (atL 0 (hI.2.1.trans rfl) rfl rfl) r4) (h:=aW 6 rfl Z1 (h:=aT 7 rfl (Zx fun D B L hI=>Ze rfl rfl ZcM rfl (atL 0 (hI.2.1.trans rfl) rfl rfl) r4) (h:=aW 9 rfl ZcK (h:=aT 10 rfl (Zx fun D B L hI=>ZX [_,_] rfl rfl Zd1 rfl (Zaa 0 (hI.2.1.trans rfl) rfl rfl) r4) (h:=Zo 2 kr rfl kr (Zs (parts:=[]) [] rfl rfl Tryz.underlying38 ZbQ ZcN rfl rfl rfl rfl rfl (fun b3=>?_))))))))))
 refine ⟨⟨Kn.le.refl _,t1⟩,(Zo 5 kr rfl kr (ZaP (R:=ZA) 2 rfl (ZT.lit0 (R:=ZA)) rfl rfl rfl Zoi ZnR rfl rfl rfl hu.rows ZA.one rfl om (fun l4 p4 c4 hv4=>?_)))⟩
 refine ⟨⟨Kn.le.refl _,t1⟩,(Zo 8 kr rfl kr (Zbd rfl rfl Zzb rfl (ZiU _ _ x.folders _ hf) ?_))⟩
 rintro _ B5 _ hle5 ⟨rfl,l5,a5,c5,rfl,rfl,hs5⟩
 refine ⟨⟨Kn.le.refl _,t1⟩,(Zo 11 kr rfl kr (Zbd rfl rfl Zza rfl (Zlx _ _ x.queue _ hi) ?_))⟩
 rintro _ B6 _ hle6 ⟨l6,q6,c6,rfl,rfl,hd6⟩
 replace hv4:=hv4.mono ZA.mono hle6
 refine ⟨⟨hle6,t1⟩,(aT 12 rfl (Zx fun D B L hI=>Zam (parts:=[(0,_),(1,_),(2,_),(3,_)]) [_,_,_,_,_] [_,_,_,_,_] rfl rfl ZdY Za6 rfl rfl rfl r4) (h:=ZO 13 kr rfl kr kr kr (ZE [_,_,_,_,_] 1 [_,_,_,_,_] rfl rfl Zau rfl rfl rfl rfl rfl rfl rfl rfl ?_)))⟩
 refine Zj (tL5 (Zd ?_))
 exact eN [2,3,4] rfl ⟨⟨_,rfl,.inr ⟨[_,_,_,_,_],ZY,Zaa 1 rfl rfl rfl,rfl⟩⟩,trivial⟩ ⟨_,_,_,_,_,_,_,_,_,rfl,rfl,hv4.anyK ZA.any,hs5,hd6⟩

theorem Zqg (n:Int) (B:Kn):ZaX (pj J) 93 [.int .i64 n] B (.bool (decide (0≤n) && decide (n≤99))):=by
 refine cB 9 Tryz.func93 (h:=?_)
 refine Za (xA (h:=Za (xM (h:=ZdN (h:=xM (h:=Zq (d:=5) rfl (fun g1=>?_) (fun g1=>?_)))))))
 try simp only [sQ,ne_eq] at g1
 refine xM (h:=ZcO (h:=xT (h:=xA (h:=Zd ?_))))
 exact eR t1 ⟨Zk (by rw [Bool.eq_iff_iff];simp;try omega),rfl,rfl⟩
 try simp only [sQ,ne_eq] at g1
 refine xP (h:=xP (h:=xF (h:=xA (h:=Zd ?_))))
 exact eR t1 ⟨Zk (by rw [Bool.eq_iff_iff];simp;try omega),rfl,rfl⟩

theorem ZqP (q:Option Addr) (cp:Nat) (xs:List DSpan) (B:Kn) (hs:SlK B q cp 2 ZfC xs):ZaX (pj J) 45 [.slice q xs.length cp] B (.bool (ZeI xs)):=by
 refine cB 30 Tryz.func45 (h:=?_)
 have hsn:=hs.len
 refine Za (xA (h:=Zh (Za (xM (h:=xV Tryz.underlying48 (h:=Zag (h:=xM (h:=Zq (d:=8) rfl (fun g1=>?_) (fun g1=>?_)))))))))
 try simp only [sQ,ne_eq] at g1
 refine xP (h:=xP (h:=xP (h:=xT (h:=Zb (t:=true) rfl (fun _=>Za (xA (h:=Zd (Zp ?_)))) (fun h=>Bool.noConfusion h)))))
 exact eR t1 ⟨Zk (by simp only [ZeI];rw [show (decide (1≤xs.length) && decide (xs.length≤6))=false by simp;omega,Bool.and_false]),rfl,rfl⟩
 try simp only [sQ,ne_eq] at g1
 refine xM (h:=xV Tryz.underlying48 (h:=ZbG (h:=xF (h:=Zb rfl (fun g2=>?_) (fun g2=>?_)))))
 try simp only [sQ,ne_eq] at g2
 refine Za (xA (h:=Zd (Zp ?_)))
 exact eR t1 ⟨Zk (by simp only [ZeI];rw [show (decide (1≤xs.length) && decide (xs.length≤6))=false by simp;omega,Bool.and_false]),rfl,rfl⟩
 try simp only [sQ,ne_eq] at g2
 refine wSk (Zh (Za (xM (h:=xV Tryz.underlying48 (h:=xM (h:=Zn (ZQ (α:=Nat) [0,12,13,14] (fun k=>[(15,.int .i64 k)]) [] (fun k=>[]) (fun k Bx=>Bx=B∧k≤xs.length∧∀y,y∈xs.take k→Zgn y=true) (fun k=>xs.length - k) 0 t1 rfl (⟨rfl,Nat.zero_le _,by simp⟩) (fun k B1 hle1 hI=>?_))))))))
 obtain ⟨rfl,hk,hall⟩:=hI
 refine ZN [(0,_),(12,_),(13,_),(14,_),(15,_)] [] t5 rfl (Za (Zag (h:=Zh (Zb rfl (fun g3=>?_) (fun g3=>?_)))))
 try simp only [sQ,ne_eq] at g3
 refine wSk (Zh (Zn (Za ?_)))
 obtain ⟨m,hm⟩:=ZaA (xs:=xs) (i:=k) om
 obtain ⟨bb3,oo3,rfl⟩:=hs.base hm
 obtain ⟨_,rfl,hc4⟩:=hs.elem hm
 refine xIx Tryz.underlying48 ZtO (h:=yL [_,_] ZzM hc4 0 (h:=xAl [_,_] ZvC (h:=fun b5=>xS [_,_] 0 [_,_] ZtO (h:=tL1 (Za (xW Zq7 (h:=x1 lk3 0 (h:=xR Zzt rfl (Zqg m.low _) (h:=xN (h:=xM (h:=Zq (d:=23) rfl (fun g4=>?_) (fun g4=>?_))))))))))))
 try simp only [sQ,ne_eq] at g4
 refine xP (h:=xP (h:=xP (h:=xP (h:=xT (h:=Zb (t:=true) rfl (fun _=>Za (xA (h:=Zd (ZI (Zp (Z7 (ZI (Zp ?_)))))))) (fun h=>Bool.noConfusion h))))))
 exact eR t1 ⟨Zk (by rw [ZeI,Zcl hm (by simp only [Zgn];rw [show (decide (0≤m.low) && decide (m.low≤99))=false by simpa using g4,Bool.false_and]),Bool.false_and]),rfl,rfl⟩
 try simp only [sQ,ne_eq] at g4
 refine xW Zq6 (h:=x1 lk3 0 (h:=xR Zzt rfl (Zqg m.high _) (h:=xN (h:=xF (h:=Zb rfl (fun g5=>?_) (fun g5=>?_))))))
 try simp only [sQ,ne_eq] at g5
 refine Za (xA (h:=Zd (ZI (Zp (Z7 (ZI (Zp ?_)))))))
 exact eR t1 ⟨Zk (by rw [ZeI,Zcl hm (by simp only [Zgn];rw [show (decide (0≤m.high) && decide (m.high≤99))=false by simpa using g5,Bool.and_false]),Bool.false_and]),rfl,rfl⟩
 try simp only [sQ,ne_eq] at g5
 refine ZL (Zw (Zj (Zc (xD (h:=xM (h:=?_))))))
 exact ZD (k+1) [] so2 ⟨rfl,oz,Zbk hm hall (by simp only [Zgn];rw [show (decide (0≤m.low) && decide (m.low≤99))=true by simpa using g4,show (decide (0≤m.high) && decide (m.high≤99))=true by simpa using g5];rfl)⟩ t5 rfl
 try simp only [sQ,ne_eq] at g3
 refine ZU (Zak (Z3 (ZK (Zj (Za (xA (h:=Zd ?_)))))))
 exact eR t1 ⟨Zk (by rw [ZeI,Zd6 (Zby oz hall),Bool.true_and,Bool.eq_iff_iff];simp;omega),rfl,rfl⟩

theorem ZpX (hJ:Joins Tryz.prog J) (ba b:Nat) (q1 q2 q3:Option Addr) (c1 c2 c3:Nat) (x:DHost) (l1 l2 l3:Cells) (u o n:Str) (r:Int) (f:FuncId) (cap:Array Value) (R:DHost) (kk:Nat) (he:enters Tryz.prog f=true) (hul:u.length≤2000000) (hol:o.length≤2000000) (hnl:n.length≤2000000) (hn1:x.users.length≤2000000) (hn2:x.folders.length≤2000000) (be:Nat) (qe:Option Addr) (ce:Nat) (le:Cells) (ys YS:List DLine) (hyl:ys.length≤2000000) (a:Nat→Addr) (B:Kn) (hE:ErrsB 372 [0,1,2,3] B a) (hc1:ZaI B ba 0 [str o,str n,str u,ptr ⟨b,0,none⟩]) (hu:ZT Kn.none l1 q1 c1 142 3 ZA x.users) (hf:Zd7 l2 q2 c2 87 5 (Zb8 224 89) x.folders) (hi:Zd7 l3 q3 c3 146 4 (Zg8 9) x.queue.items) (hy:ZT Kn.none le qe ce 91 4 Zfm ys) (hw:Zd3 x.users x.folders u o n 2=0→Zd3 x.users x.folders u o n r=0→∀(B2:Kn),B.le B2→Zu (pj J) f (ptr ⟨b,2,none⟩ :: .int .i64 (if Zd3 x.users x.folders u o n r=0 then ZaJ (inF o n) x.folders else -1) :: cap.toList) B2 [Z8 b [.int .i32 1,.int .u32 0,str x.domain,.slice q1 x.users.length c1,.slice q2 x.folders.length c2,.int .i64 x.queue.next,.slice q3 x.queue.items.length c3] 164,l1,l2,l3,Z8 be [.slice qe ys.length ce] 35,le] (fun v B' Ls=>∃q1' c1' q2' c2' q3' c3' l1' l2' l3' qe' ce' le',Ls=[Z8 b [.int .i32 1,.int .u32 0,str R.domain,.slice q1' R.users.length c1',.slice q2' R.folders.length c2',.int .i64 R.queue.next,.slice q3' R.queue.items.length c3'] 164,l1',l2',l3',Z8 be [.slice qe' (YS).length ce'] 35,le']∧v=errv 372 a (kk)∧ZT Kn.none l1' q1' c1' 142 3 ZA R.users∧Zd7 l2' q2' c2' 87 5 (Zb8 224 89) R.folders∧Zd7 l3' q3' c3' 146 4 (Zg8 9) R.queue.items∧ZT Kn.none le' qe' ce' 91 4 Zfm (YS))):Zu (pj J) 92 [ptr ⟨ba,0,none⟩,.int .i64 r,.func (.func f) #[] cap] B [Z8 b [.int .i32 0,.int .u32 0,str x.domain,.slice q1 x.users.length c1,.slice q2 x.folders.length c2,.int .i64 x.queue.next,.slice q3 x.queue.items.length c3] 164,l1,l2,l3,Z8 be [.slice qe ys.length ce] 35,le] (fun v B' Ls=>∃q1' c1' q2' c2' q3' c3' l1' l2' l3' qe' ce' le',Ls=[Z8 b [.int .i32 0,.int .u32 0,str (usX x u o n r R x).domain,.slice q1' (usX x u o n r R x).users.length c1',.slice q2' (usX x u o n r R x).folders.length c2',.int .i64 (usX x u o n r R x).queue.next,.slice q3' (usX x u o n r R x).queue.items.length c3'] 164,l1',l2',l3',Z8 be [.slice qe' (usX x u o n r YS ys).length ce'] 35,le']∧v=errv 372 a (usN x u o n r kk)∧ZT Kn.none l1' q1' c1' 142 3 ZA (usX x u o n r R x).users∧Zd7 l2' q2' c2' 87 5 (Zb8 224 89) (usX x u o n r R x).folders∧Zd7 l3' q3' c3' 146 4 (Zg8 9) (usX x u o n r R x).queue.items∧ZT Kn.none le' qe' ce' 91 4 Zfm (usX x u o n r YS ys)):=by
 refine ZhV (P:=pj J) 88 Tryz.func92 rfl rfl (Nat.le_of_ble_eq_true rfl) ?_
 intro X kind c cs F T0 hk hke hA hn0 hT0
 let CC:Cx (pj J):=⟨X,fb 92 kind,c :: cs,F,hke⟩
 show CC.X.R (Go.Conc.G (fat CC.b T0 [] _) CC.cs) B (List.flatten [Z8 b [.int .i32 0,.int .u32 0,str x.domain,.slice q1 x.users.length c1,.slice q2 x.folders.length c2,.int .i64 x.queue.next,.slice q3 x.queue.items.length c3] 164,l1,l2,l3,Z8 be [.slice qe ys.length ce] 35,le] ++ CC.F)
 refine ZbE (C:=CC) (ZaS (C:=CC) (Zcz (C:=CC) (i:=0) (todo:=[]) rfl hn0 hT0 (Zm (ZhI rfl rfl rfl (fun T1 hn1 hT1=>Zab (C:=CC) (ZbE (C:=CC) (ZaS (C:=CC) (Zcz (C:=CC) (i:=0) (todo:=[1,2,3,4,5,6]) rfl hn1 hT1 (Zm (Zdu rfl rfl rfl (fun T2 hn2 hT2=>Zcz (C:=CC) (i:=1) (todo:=[2,3,4,5,6]) rfl hn2 hT2 (Zm (Za7 rfl rfl rfl (fun T3 hn3 hT3=>Zcz (C:=CC) (i:=2) (todo:=[3,4,5,6]) rfl hn3 hT3 (Zm (Zav rfl rfl Zfg rfl (fun T4 hn4 hT4=>Zcz (C:=CC) (i:=3) (todo:=[4,5,6]) rfl hn4 hT4 (Zm (Ze rfl rfl ZlF rfl (hc1 _ 3 _ rfl) (fun T5 hn5 hT5=>Zcz (C:=CC) (i:=4) (todo:=[5,6]) rfl hn5 hT5 (Zm (Za7 rfl rfl rfl (fun T6 hn6 hT6=>Zcz (C:=CC) (i:=5) (todo:=[6]) rfl hn6 hT6 (Zm (Zav rfl rfl Zra rfl (fun T7 hn7 hT7=>Zcz (C:=CC) (i:=6) (todo:=[]) rfl hn7 hT7 (Zm (Zao [0] rfl rfl rfl rfl Zy9 rfl (ZxO hJ ZsD ZkG ZkF ZyE) ?_))))))))))))))))))))))))))))
 rintro _ B1 _ hle1 ⟨rfl,rfl,rfl⟩
 intro T8 hn8 hT8
 refine Zab (C:=CC) (Zz3 (C:=CC) [_,_,_,_,_,_] rfl (ZbE (C:=CC) (ZaS (C:=CC) (Zcz (C:=CC) (i:=0) (todo:=[1,2,3,4,5,6]) rfl hn8 hT8 (Zm (Zdu rfl rfl rfl (fun T9 hn9 hT9=>Zcz (C:=CC) (i:=1) (todo:=[2,3,4,5,6]) rfl hn9 hT9 (Zm (Za7 rfl rfl rfl (fun T10 hn10 hT10=>Zcz (C:=CC) (i:=2) (todo:=[3,4,5,6]) rfl hn10 hT10 (Zm (Zav rfl rfl Zfg rfl (fun T11 hn11 hT11=>Zcz (C:=CC) (i:=3) (todo:=[4,5,6]) rfl hn11 hT11 (Zm (Ze rfl rfl ZlF rfl (hc1 _ 3 _ rfl) (fun T12 hn12 hT12=>Zcz (C:=CC) (i:=4) (todo:=[5,6]) rfl hn12 hT12 (Zm (Za7 rfl rfl rfl (fun T13 hn13 hT13=>Zcz (C:=CC) (i:=5) (todo:=[6]) rfl hn13 hT13 (Zm (Zav rfl rfl Zra rfl (fun T14 hn14 hT14=>Zpq hke rfl hT14 rfl (Zab (C:=CC) (Zl6 (X:=X) (av:=[ptr ⟨b,0,none⟩]) (Post:=(fun v B' Ls=>∃q1' c1' q2' c2' q3' c3' l1' l2' l3' qe' ce' le',Ls=[Z8 b [.int .i32 0,.int .u32 0,str (usX x u o n r R x).domain,.slice q1' (usX x u o n r R x).users.length c1',.slice q2' (usX x u o n r R x).folders.length c2',.int .i64 (usX x u o n r R x).queue.next,.slice q3' (usX x u o n r R x).queue.items.length c3'] 164,l1',l2',l3',Z8 be [.slice qe' (usX x u o n r YS ys).length ce'] 35,le']∧v=errv 372 a (usN x u o n r kk)∧ZT Kn.none l1' q1' c1' 142 3 ZA (usX x u o n r R x).users∧Zd7 l2' q2' c2' 87 5 (Zb8 224 89) (usX x u o n r R x).folders∧Zd7 l3' q3' c3' 146 4 (Zg8 9) (usX x u o n r R x).queue.items∧ZT Kn.none le' qe' ce' 91 4 Zfm (usX x u o n r YS ys))) Tryz.func92 hk hke Tryz.func146 kr rfl hn14 hT14 hA ?_))))))))))))))))))))))))
 refine Zh (Zh (ZV (same _ _) mo kr ⟨rfl,rfl⟩ (fun _ _=>?_)))
 refine aM 0 rfl (h:=aNc 1 rfl (h:=aW 2 rfl Zfg (h:=aT 3 rfl (Zaj fun D=>Ze rfl rfl ZlF rfl (hc1 _ 3 _ rfl) r4) (h:=aNc 4 rfl (h:=aW 5 rfl ZgV (h:=aM 6 rfl (h:=aNc 7 rfl (h:=aW 8 rfl Zq9 (h:=aT 9 rfl (Zaj fun D=>Ze rfl rfl lk9 rfl (hc1 _ 2 _ rfl) r4) (h:=aM 10 rfl (h:=aNc 11 rfl (h:=aW 12 rfl ZkE (h:=aW 13 rfl Zrc (h:=aT 14 rfl (Zaj fun D=>Ze rfl rfl lk9 rfl (hc1 _ 0 _ rfl) r4) (h:=aM 15 rfl (h:=aNc 16 rfl (h:=aW 17 rfl ZkE (h:=aW 18 rfl Zrb (h:=aT 19 rfl (Zaj fun D=>Ze rfl rfl lk9 rfl (hc1 _ 1 _ rfl) r4) (h:=aT 20 rfl (Zaj fun D=>ZtH [0,1,2,3] rfl rfl rfl rfl rfl Zx2 rfl (ZaX.borrowL fun hm2=>Znx _ _ _ _ _ _ _ _ x u o n 2 om2 om2 om2 a _ (hE.mono (Kn.le_add _ _)) (ZaI.drop2 (ZzA 0 rfl hm2)) (hu.lendK ZA.any 1 rfl hm2 om) (hf.lendK Zb8.known Zf.mono 2 rfl hm2 om)) r4) (h:=?_)))))))))))))))))))))
 refine aM 21 rfl (h:=aE 22 rfl (h:=aE 23 rfl (h:=aA 24 rfl (h:=aA 25 rfl (h:=Zv kr kr ?_)))))
 refine Zj (tL6 (Za (xM (h:=Zm (ZpL (tE:=372) (a:=a) (c:=(Zd3 x.users x.folders u o n 2)) rfl rfl Tryz.underlying100 rfl (Zb rfl (fun g1=>?_) (fun g1=>?_)))))))
 try simp only [sQ,ne_eq] at g1
 refine Za (xM (h:=xA (h:=Zd (Zp ?_))))
 obtain ⟨e1,e2⟩:=ZfD (x:=x) (u:=u) (o:=o) (n:=n) (r:=r) oz kk
 show _∧_
 refine ZxZ (.inl rfl) [_] [0,1,2,3,4,5] rfl (fun _ _=>t1) ((ZmB hJ ZsD ZkG ZxR ZkF Zvh).frame1.mono ?_)
 rintro _ _ _ _ ⟨_,⟨rfl,_,rfl⟩,rfl⟩
 rw [e1,e2,e2]
 exact ⟨_,_,_,_,_,_,_,_,_,_,_,_,rfl,rfl,hu,hf,hi,hy⟩
 try simp only [sQ,ne_eq] at g1
 have h2:Zd3 x.users x.folders u o n 2=0:=by omega
 refine wSk (Zh (ZV (same _ _) mo kr ⟨rfl,rfl⟩ (fun _ _=>?_)))
 refine aM 0 rfl (h:=aNc 1 rfl (h:=aW 2 rfl Zfg (h:=aT 3 rfl (Zaj fun D=>Ze rfl rfl ZlF rfl (hc1 _ 3 _ rfl) r4) (h:=aNc 4 rfl (h:=aW 5 rfl ZgV (h:=aM 6 rfl (h:=aNc 7 rfl (h:=aW 8 rfl Zq9 (h:=aT 9 rfl (Zaj fun D=>Ze rfl rfl lk9 rfl (hc1 _ 2 _ rfl) r4) (h:=aM 10 rfl (h:=aNc 11 rfl (h:=aW 12 rfl ZkE (h:=aW 13 rfl Zrc (h:=aT 14 rfl (Zaj fun D=>Ze rfl rfl lk9 rfl (hc1 _ 0 _ rfl) r4) (h:=aM 15 rfl (h:=aNc 16 rfl (h:=aW 17 rfl ZkE (h:=aW 18 rfl Zrb (h:=aT 19 rfl (Zaj fun D=>Ze rfl rfl lk9 rfl (hc1 _ 1 _ rfl) r4) (h:=aM 20 rfl (h:=aT 21 rfl (Zaj fun D=>ZtH [0,1,2,3] rfl rfl rfl rfl rfl Zx2 rfl (ZaX.borrowL fun hm3=>Znx _ _ _ _ _ _ _ _ x u o n r om2 om2 om2 a _ (hE.mono (Kn.le_add _ _)) (ZaI.drop2 (ZzA 0 rfl hm3)) (hu.lendK ZA.any 1 rfl hm3 om) (hf.lendK Zb8.known Zf.mono 2 rfl hm3 om)) r4) (h:=?_))))))))))))))))))))))
 refine aM 22 rfl (h:=aE 23 rfl (h:=aE 24 rfl (h:=aA 25 rfl (h:=aA 26 rfl (h:=Zv kr kr ?_)))))
 refine Zj (Zh (Za (xM (h:=Zm (ZpL (tE:=372) (a:=a) (c:=(Zd3 x.users x.folders u o n r)) rfl rfl Tryz.underlying100 rfl (Zb rfl (fun g2=>?_) (fun g2=>?_)))))))
 try simp only [sQ,ne_eq] at g2
 refine Za (xM (h:=xA (h:=Zd (Zp ?_))))
 obtain ⟨e1,e2⟩:=Zv3 (x:=x) (u:=u) (o:=o) (n:=n) (r:=r) h2 oz kk
 show _∧_
 refine ZxZ (.inl rfl) [_] [0,1,2,3,4,5] rfl (fun _ _=>t1) ((ZmB hJ ZsD ZkG ZxR ZkF Zvh).frame1.mono ?_)
 rintro _ _ _ _ ⟨_,⟨rfl,_,rfl⟩,rfl⟩
 rw [e1,e2,e2]
 exact ⟨_,_,_,_,_,_,_,_,_,_,_,_,rfl,rfl,hu,hf,hi,hy⟩
 try simp only [sQ,ne_eq] at g2
 have hr:Zd3 x.users x.folders u o n r=0:=by omega
 refine ZL ?_
 refine Zj ?_
 refine Za ?_
 refine Zm (Zdu rfl rfl rfl ?_)
 refine Zm (Zdu rfl rfl rfl ?_)
 refine Zm (Za7 rfl rfl rfl ?_)
 refine Zm (Zav rfl rfl Zfg rfl ?_)
 refine Zm (Ze rfl rfl ZlF rfl (hc1 _ 3 _ rfl) ?_)
 refine Zm (Za7 rfl rfl rfl ?_)
 refine Zm (Zav rfl rfl ZgV rfl ?_)
 refine Zm (Zdu rfl rfl rfl ?_)
 refine Zm (Zuf [0,1,2,3,4,5] rfl rfl rfl rfl he rfl rfl (hw h2 hr _ (Kn.le.refl _)) ?_)
 rintro _ B4 _ hle4 ⟨q14,c14,q24,c24,q34,c34,l14,l24,l34,qe4,ce4,le4,rfl,rfl,hu4,hf4,hi4,hy4⟩
 refine xA (h:=tL6 (Zd ?_))
 obtain ⟨e1,e2⟩:=Zv2 (x:=x) (u:=u) (o:=o) (n:=n) (r:=r) h2 hr kk
 show _∧_
 refine ZxZ (.inl rfl) [_] [0,1,2,3,4,5] rfl (fun _ _=>t1) ((ZmB hJ ZsD ZkG ZxR ZkF Zvh).frame1.mono ?_)
 rintro _ _ _ _ ⟨_,⟨rfl,_,rfl⟩,rfl⟩
 rw [e1,e2,e2]
 exact ⟨_,_,_,_,_,_,_,_,_,_,_,_,rfl,rfl,hu4,hf4,hi4,hy4⟩

theorem ZmH (q1 q2 q3:Option Addr) (c1 c2 c3:Nat) (x:DHost) (u o n:Str) (hul:u.length≤2000000) (hol:o.length≤2000000) (hnl:n.length≤2000000) (ar:Bool) (r:Int) (f:FuncId) (cap:Array Value) (R:DHost) (kk:Nat) (hk:kk<5) (he:enters Tryz.prog f=true) (hJ:Joins Tryz.prog J) (be:Nat) (qe:Option Addr) (ce:Nat) (le:Cells) (ys YS:List DLine) (hyl:ys.length≤2000000) (hd:x.domain.length≤2000000) (a:Nat→Addr) (B:Kn) (hE:ErrsB 372 [0,1,2,3] B a) (hu:SlK B q1 c1 3 ZA x.users) (hf:SlK B q2 c2 5 Zf x.folders) (hi:SlK B q3 c3 4 ZC x.queue.items) (hy:ZT Kn.none le qe ce 91 4 Zfm ys) (hw:ar=true→Zz x=true→Zd3 x.users x.folders u o n 2=0→Zd3 x.users x.folders u o n r=0→∀(B2:Kn) (b:Nat) (q1 q2 q3:Option Addr) (c1 c2 c3:Nat) (l1 l2 l3:Cells),B.le B2→ZT Kn.none l1 q1 c1 142 3 ZA x.users→Zd7 l2 q2 c2 87 5 (Zb8 224 89) x.folders→Zd7 l3 q3 c3 146 4 (Zg8 9) x.queue.items→Zu (pj J) f (ptr ⟨b,2,none⟩ :: .int .i64 (if Zd3 x.users x.folders u o n r=0 then ZaJ (inF o n) x.folders else -1) :: cap.toList) B2 [Z8 b [.int .i32 1,.int .u32 0,str x.domain,.slice q1 x.users.length c1,.slice q2 x.folders.length c2,.int .i64 x.queue.next,.slice q3 x.queue.items.length c3] 164,l1,l2,l3,Z8 be [.slice qe ys.length ce] 35,le] (fun v B' Ls=>∃q1' c1' q2' c2' q3' c3' l1' l2' l3' qe' ce' le',Ls=[Z8 b [.int .i32 1,.int .u32 0,str R.domain,.slice q1' R.users.length c1',.slice q2' R.folders.length c2',.int .i64 R.queue.next,.slice q3' R.queue.items.length c3'] 164,l1',l2',l3',Z8 be [.slice qe' (YS).length ce'] 35,le']∧v=errv 372 a (kk)∧ZT Kn.none l1' q1' c1' 142 3 ZA R.users∧Zd7 l2' q2' c2' 87 5 (Zb8 224 89) R.folders∧Zd7 l3' q3' c3' 146 4 (Zg8 9) R.queue.items∧ZT Kn.none le' qe' ce' 91 4 Zfm (YS))):Zu (pj J) 44 [.agg #[str x.domain,.slice q1 x.users.length c1,.slice q2 x.folders.length c2,.int .i64 x.queue.next,.slice q3 x.queue.items.length c3],.agg #[str u,str o,str n],.bool ar,.int .i64 r,.func (.func f) #[] cap] B [Z8 be [.slice qe ys.length ce] 35,le] (fun v B' Ls=>∃(Y:DHost) (d:Int) (YY:List DLine),∃q1 c1 q2 c2 q3 c3 l1 l2 l3 qe' ce' le',(Y,d,YY)=(if ar=true∧Zz x=true then (usX x u o n r R x,(usN x u o n r kk:Int),usX x u o n r YS ys) else (ZaU,5,ys))∧Ls=[Z8 be [.slice qe' YY.length ce'] 35,le',l1,l2,l3]∧v = .tuple #[.agg #[str Y.domain,.slice q1 Y.users.length c1,.slice q2 Y.folders.length c2,.int .i64 Y.queue.next,.slice q3 Y.queue.items.length c3],.int .i64 d]∧ZT Kn.none l1 q1 c1 142 3 ZA Y.users∧Zd7 l2 q2 c2 87 5 (Zb8 224 89) Y.folders∧Zd7 l3 q3 c3 146 4 (Zg8 9) Y.queue.items∧ZT Kn.none le' qe' ce' 91 4 Zfm YY):=by
 refine ZcX 44 Tryz.func44 rfl rfl rfl (Nat.le_of_ble_eq_true rfl) ?_
 have hun:=hu.len
 have hfn:=hf.len
 have hin:=hi.len
 have hus:=Zv4 (x:=x) (u:=u) (o:=o) (n:=n) (r:=r) hk
 refine Za (xBx [_,_,_,_,_] (h:=fun b1=>xBx [_,_,_] (h:=fun b2=>xAl [_,_,_,_,_] Za6 (h:=fun b3=>xA (h:=tL5 (Zh (Za (xM (h:=xN (h:=xM (h:=Zq (d:=16) rfl (fun g1=>?_) (fun g1=>?_))))))))))))
 try simp only [sQ,ne_eq] at g1
 refine xP (h:=xP (h:=xP (h:=xT (h:=ZvX [[],[],[]] rfl (Zb (t:=true) rfl (fun _=>Za (xB [] [_,_,_,_,_] [_,_,_,_,_] ZdY Za6 (h:=xS [_,_,_,_,_] 4 [_,_,_,_,_] Zau (h:=xA (h:=tL8 (Zd (Zp ?_))))))) (fun h=>Bool.noConfusion h))))))
 exact Zat .ret (.inl rfl) [_,_] [0,1,5,6,7] rfl ⟨⟨_,rfl,.inr ⟨[_,_,_,_,_],ZY,Zaa 4 rfl rfl rfl,rfl⟩⟩,rfl,trivial⟩ ⟨ZaU,5,ys,none,0,none,0,none,0,[],[],[],qe,ce,le,by rw [if_neg (by simp [g1])],rfl,rfl,ZT.nil,Zd7.nil,Zd7.nil,hy⟩
 try simp only [sQ,ne_eq] at g1
 refine xL [_,_,_,_,_] ZY 2 (h:=xQ Zzx rfl (ZiJ hJ _ _ _ _ _ _ x om2 _ hu hf hi) (h:=?_))
 intro vv Bv hlev
 rintro rfl
 replace hu:=hu.mono ZA.mono hlev
 replace hf:=hf.mono Zf.mono hlev
 replace hi:=hi.mono ZC.mono hlev
 replace hy:=hy.mono Zfm.mono hlev
 replace hE:=hE.mono hlev
 refine xN (h:=xF (h:=Zb rfl (fun g2=>?_) (fun g2=>?_)))
 try simp only [sQ,ne_eq] at g2
 refine ZvX [[],[],[]] rfl (Za (xB [] [_,_,_,_,_] [_,_,_,_,_] ZdY Za6 (h:=xS [_,_,_,_,_] 4 [_,_,_,_,_] Zau (h:=xA (h:=tL8 (Zd (Zp ?_)))))))
 exact Zat .ret (.inl rfl) [_,_] [0,1,5,6,7] rfl ⟨⟨_,rfl,.inr ⟨[_,_,_,_,_],ZY,Zaa 4 rfl rfl rfl,rfl⟩⟩,rfl,trivial⟩ ⟨ZaU,5,ys,none,0,none,0,none,0,[],[],[],qe,ce,le,by rw [if_neg (by simp [g2])],rfl,rfl,ZT.nil,Zd7.nil,Zd7.nil,hy⟩
 try simp only [sQ,ne_eq] at g2
 refine wSk (Zh (ZV (keeps _ [2,3] _) mo kr ⟨Kn.le.refl _,Zae.refl _ _⟩ (fun _ _=>?_)))
 refine aW 0 rfl ZtX (h:=aT 1 rfl (Zx fun D B L hI=>Ze rfl rfl lk9 rfl (atL 3 (hI.2.2.1.trans rfl) rfl rfl) r4) (h:=aW 2 rfl ZtW (h:=aT 3 rfl (Zx fun D B L hI=>Ze rfl rfl lk9 rfl (atL 3 (hI.2.2.1.trans rfl) rfl rfl) r4) (h:=aT 4 rfl (Zx fun D B L hI=>Zam (parts:=[(0,_),(1,_)]) [_,_] [_,_] rfl rfl ZxK Zxo rfl rfl rfl r4) (h:=aW 5 rfl ZfI (h:=aT 6 rfl (Zx fun D B L hI=>Ze rfl rfl lk9 rfl (atL 3 (hI.2.2.1.trans rfl) rfl rfl) r4) (h:=aT 7 rfl (Zx fun D B L hI=>ZX [_,_,_,_,_] rfl rfl ZY rfl (Zaa 2 (hI.2.1.trans rfl) rfl rfl) r4) (h:=Zaf [8,12] kr kr kr ⟨?_,?_⟩))))))))
 refine (Zbd rfl rfl Zzu rfl (Zhs _ _ _ _ _ _ x _ hu hf hi) ?_)
 rintro _ Bc _ hlec ⟨q1c,c1c,q2c,c2c,q3c,c3c,l1c,l2c,l3c,rfl,rfl,huc,hfc,hic⟩
 replace hu:=hu.mono ZA.mono hlec
 replace hf:=hf.mono Zf.mono hlec
 replace hi:=hi.mono ZC.mono hlec
 replace hy:=hy.mono Zfm.mono hlec
 replace hE:=hE.mono hlec
 refine ⟨⟨hlec,t2⟩,(aT 9 rfl (Zx fun D B L hI=>Zam (parts:=[(1,_)]) [_,_,_,_,_,_,_] [_,_,_,_,_,_,_] rfl rfl Zwi ZvE rfl rfl rfl r4) (h:=Zaf [10,12] kr kr kr ⟨?_,?_⟩))⟩
 refine (ZpU (l:=[_,_,_,_,_,_,_]) rfl rfl rfl rfl (fun b6=>⟨⟨hlec,t2⟩,(aT 11 rfl (Zx fun D B L hI=>Zam (parts:=[(0,_),(1,_),(2,_)]) [_,_,_,_] [_,_,_,_] rfl rfl Zuw Zow rfl rfl rfl r4) (h:=Zo 12 kr rfl kr (Zac (l:=[_,_,_,_]) rfl rfl Zow rfl (fun b7=>?_))))⟩))
 refine ⟨⟨hlec,t2⟩,(ZO 13 kr rfl kr kr kr (ZE [_,_,_,_] 9 [_,_,_,_] rfl rfl Zun rfl rfl rfl rfl rfl rfl rfl rfl ?_))⟩
 refine Zj (Zsh (Zmu 9 rfl (fun B8 hle8 hpm8=>?_)))
 have hc8:=ZbR hpm8
 replace hu:=hu.mono ZA.mono hle8
 replace hf:=hf.mono Zf.mono hle8
 replace hi:=hi.mono ZC.mono hle8
 replace hy:=hy.mono Zfm.mono hle8
 replace huc:=huc.mono ZA.mono hle8
 replace hE:=hE.mono hle8
 refine Za (xM (h:=xM (h:=xK [8,5,6,7,0,1] rfl Zx0 rfl (ZpX hJ _ _ _ _ _ _ _ _ x _ _ _ u o n r f cap R kk he hul hol hnl om2 om2 be _ _ _ ys YS hyl a _ hE hc8 huc hfc hic hy (fun h2 hr B2 hle=>hw (by simpa using g1) (by simpa using g2) h2 hr B2 _ _ _ _ _ _ _ _ _ _ (hlev.trans (hlec.trans (hle8.trans hle))) huc hfc hic)) (h:=?_))))
 rintro _ B9 _ hle9 ⟨q19,c19,q29,c29,q39,c39,l19,l29,l39,qe9,ce9,le9,rfl,rfl,hu9,hf9,hi9,hy9⟩
 replace hu:=hu.mono ZA.mono hle9
 replace hf:=hf.mono Zf.mono hle9
 replace hi:=hi.mono ZC.mono hle9
 replace hc8:=hc8.mono hle9
 replace hy:=hy.mono Zfm.mono hle9
 replace huc:=huc.mono ZA.mono hle9
 replace hE:=hE.mono hle9
 refine xA (h:=Zsh (Zh (ZV (keeps _ [] _) mo kr ⟨Kn.le.refl _,Zae.refl _ _⟩ (fun _ _=>?_))))
 refine aW 0 rfl Zfg (h:=aT 1 rfl (Zx fun D B L hI=>Ze rfl rfl ZlF rfl ((hc8.mono hI.1) _ 3 _ rfl) r4) (h:=aNc 2 rfl (h:=aW 3 rfl ZgV (h:=aM 5 rfl (h:=aT 6 rfl (Zx fun D B L hI=>ZaF rfl rfl Zxe rfl (Zfu (usN x u o n r kk) om2 a _ (hE.mono hI.1)) r4) (h:=?_))))))
 refine Zo 4 kr rfl kr (ZX [_,_,_,_,_] rfl rfl ZY rfl (Zaa 8 rfl rfl rfl) ?_)
 refine ⟨⟨Kn.le.refl _,trivial⟩,(Za4 7 kr rfl kr kr (ZE [_,_,_,_,_] 4 [_,_,_,_,_] rfl rfl Zau rfl rfl rfl rfl rfl rfl rfl rfl ?_))⟩
 refine aA 8 rfl (h:=Zv kr kr ?_)
 refine Zj (Zsh (Zd ?_))
 exact Zat .ret (.inl rfl) [_,_] [0,1,5,6,7] rfl ⟨⟨_,rfl,.inr ⟨[_,_,_,_,_],ZY,Zaa 4 rfl rfl rfl,rfl⟩⟩,rfl,trivial⟩ ⟨(usX x u o n r R x),_,usX x u o n r YS ys,_,_,_,_,_,_,_,_,_,_,_,_,by rw [if_pos ⟨by simpa using g1,by simpa using g2⟩],rfl,rfl,hu9,hf9,hi9,hy9⟩
 refine (Zac (l:=[_,_,_,_]) rfl rfl Zow rfl (fun b11=>⟨⟨hlec,t2⟩,(Zo 10 kr rfl kr (ZpU (l:=[_,_,_,_,_,_,_]) rfl rfl rfl rfl (fun b12=>?_)))⟩))
 refine ⟨⟨hlec,t2⟩,(aT 11 rfl (Zx fun D B L hI=>Zam (parts:=[(0,_),(1,_),(2,_)]) [_,_,_,_] [_,_,_,_] rfl rfl Zuw Zow rfl rfl rfl r4) (h:=ZO 13 kr rfl kr kr kr (ZE [_,_,_,_] 8 [_,_,_,_] rfl rfl Zun rfl rfl rfl rfl rfl rfl rfl rfl ?_)))⟩
 refine Zj (Zsh (Zmu 8 rfl (fun B13 hle13 hpm13=>?_)))
 have hc13:=ZbR hpm13
 replace hu:=hu.mono ZA.mono hle13
 replace hf:=hf.mono Zf.mono hle13
 replace hi:=hi.mono ZC.mono hle13
 replace hy:=hy.mono Zfm.mono hle13
 replace huc:=huc.mono ZA.mono hle13
 replace hE:=hE.mono hle13
 refine Za (xM (h:=xM (h:=xK [9,5,6,7,0,1] rfl Zx0 rfl (ZpX hJ _ _ _ _ _ _ _ _ x _ _ _ u o n r f cap R kk he hul hol hnl om2 om2 be _ _ _ ys YS hyl a _ hE hc13 huc hfc hic hy (fun h2 hr B2 hle=>hw (by simpa using g1) (by simpa using g2) h2 hr B2 _ _ _ _ _ _ _ _ _ _ (hlev.trans (hlec.trans (hle13.trans hle))) huc hfc hic)) (h:=?_))))
 rintro _ B14 _ hle14 ⟨q114,c114,q214,c214,q314,c314,l114,l214,l314,qe14,ce14,le14,rfl,rfl,hu14,hf14,hi14,hy14⟩
 replace hu:=hu.mono ZA.mono hle14
 replace hf:=hf.mono Zf.mono hle14
 replace hi:=hi.mono ZC.mono hle14
 replace hc13:=hc13.mono hle14
 replace hy:=hy.mono Zfm.mono hle14
 replace huc:=huc.mono ZA.mono hle14
 replace hE:=hE.mono hle14
 refine xA (h:=Zsh (Zh (ZV (keeps _ [] _) mo kr ⟨Kn.le.refl _,Zae.refl _ _⟩ (fun _ _=>?_))))
 refine aW 0 rfl Zfg (h:=aT 1 rfl (Zx fun D B L hI=>Ze rfl rfl ZlF rfl ((hc13.mono hI.1) _ 3 _ rfl) r4) (h:=aNc 2 rfl (h:=aW 3 rfl ZgV (h:=aM 5 rfl (h:=aT 6 rfl (Zx fun D B L hI=>ZaF rfl rfl Zxe rfl (Zfu (usN x u o n r kk) om2 a _ (hE.mono hI.1)) r4) (h:=?_))))))
 refine Zo 4 kr rfl kr (ZX [_,_,_,_,_] rfl rfl ZY rfl (Zaa 9 rfl rfl rfl) ?_)
 refine ⟨⟨Kn.le.refl _,trivial⟩,(Za4 7 kr rfl kr kr (ZE [_,_,_,_,_] 4 [_,_,_,_,_] rfl rfl Zau rfl rfl rfl rfl rfl rfl rfl rfl ?_))⟩
 refine aA 8 rfl (h:=Zv kr kr ?_)
 refine Zj (Zsh (Zd ?_))
 exact Zat .ret (.inl rfl) [_,_] [0,1,5,6,7] rfl ⟨⟨_,rfl,.inr ⟨[_,_,_,_,_],ZY,Zaa 4 rfl rfl rfl,rfl⟩⟩,rfl,trivial⟩ ⟨(usX x u o n r R x),_,usX x u o n r YS ys,_,_,_,_,_,_,_,_,_,_,_,_,by rw [if_pos ⟨by simpa using g1,by simpa using g2⟩],rfl,rfl,hu14,hf14,hi14,hy14⟩
 refine (Zac (l:=[_,_,_,_]) rfl rfl Zow rfl (fun b16=>⟨⟨Kn.le.refl _,t2⟩,(Zo 8 kr rfl kr (Zbd rfl rfl Zzu rfl (Zhs _ _ _ _ _ _ x _ hu hf hi) ?_))⟩))
 rintro _ Bc _ hlec ⟨q1c,c1c,q2c,c2c,q3c,c3c,l1c,l2c,l3c,rfl,rfl,huc,hfc,hic⟩
 replace hy:=hy.mono Zfm.mono hlec
 replace hE:=hE.mono hlec
 refine ⟨⟨hlec,t2⟩,(aT 9 rfl (Zx fun D B L hI=>Zam (parts:=[(1,_)]) [_,_,_,_,_,_,_] [_,_,_,_,_,_,_] rfl rfl Zwi ZvE rfl rfl rfl r4) (h:=Zo 10 kr rfl kr (ZpU (l:=[_,_,_,_,_,_,_]) rfl rfl rfl rfl (fun b18=>?_))))⟩
 refine ⟨⟨hlec,t2⟩,(aT 11 rfl (Zx fun D B L hI=>Zam (parts:=[(0,_),(1,_),(2,_)]) [_,_,_,_] [_,_,_,_] rfl rfl Zuw Zow rfl rfl rfl r4) (h:=ZO 13 kr rfl kr kr kr (ZE [_,_,_,_] 5 [_,_,_,_] rfl rfl Zun rfl rfl rfl rfl rfl rfl rfl rfl ?_)))⟩
 refine Zj (Zsh (Zmu 5 rfl (fun B19 hle19 hpm19=>?_)))
 have hc19:=ZbR hpm19
 replace hy:=hy.mono Zfm.mono hle19
 replace huc:=huc.mono ZA.mono hle19
 replace hE:=hE.mono hle19
 refine Za (xM (h:=xM (h:=xK [9,6,7,8,0,1] rfl Zx0 rfl (ZpX hJ _ _ _ _ _ _ _ _ x _ _ _ u o n r f cap R kk he hul hol hnl om2 om2 be _ _ _ ys YS hyl a _ hE hc19 huc hfc hic hy (fun h2 hr B2 hle=>hw (by simpa using g1) (by simpa using g2) h2 hr B2 _ _ _ _ _ _ _ _ _ _ (hlev.trans (hlec.trans (hle19.trans hle))) huc hfc hic)) (h:=?_))))
 rintro _ B20 _ hle20 ⟨q120,c120,q220,c220,q320,c320,l120,l220,l320,qe20,ce20,le20,rfl,rfl,hu20,hf20,hi20,hy20⟩
 replace hc19:=hc19.mono hle20
 replace hE:=hE.mono hle20
 refine xA (h:=Zsh (Zh (ZV (keeps _ [] _) mo kr ⟨Kn.le.refl _,Zae.refl _ _⟩ (fun _ _=>?_))))
 refine aW 0 rfl Zfg (h:=aT 1 rfl (Zx fun D B L hI=>Ze rfl rfl ZlF rfl ((hc19.mono hI.1) _ 3 _ rfl) r4) (h:=aNc 2 rfl (h:=aW 3 rfl ZgV (h:=aM 5 rfl (h:=aT 6 rfl (Zx fun D B L hI=>ZaF rfl rfl Zxe rfl (Zfu (usN x u o n r kk) om2 a _ (hE.mono hI.1)) r4) (h:=?_))))))
 refine Zo 4 kr rfl kr (ZX [_,_,_,_,_] rfl rfl ZY rfl (Zaa 9 rfl rfl rfl) ?_)
 refine ⟨⟨Kn.le.refl _,trivial⟩,(Za4 7 kr rfl kr kr (ZE [_,_,_,_,_] 4 [_,_,_,_,_] rfl rfl Zau rfl rfl rfl rfl rfl rfl rfl rfl ?_))⟩
 refine aA 8 rfl (h:=Zv kr kr ?_)
 refine Zj (Zsh (Zd ?_))
 exact Zat .ret (.inl rfl) [_,_] [0,1,6,7,8] rfl ⟨⟨_,rfl,.inr ⟨[_,_,_,_,_],ZY,Zaa 4 rfl rfl rfl,rfl⟩⟩,rfl,trivial⟩ ⟨(usX x u o n r R x),_,usX x u o n r YS ys,_,_,_,_,_,_,_,_,_,_,_,_,by rw [if_pos ⟨by simpa using g1,by simpa using g2⟩],rfl,rfl,hu20,hf20,hi20,hy20⟩

theorem Zpo (hJ:Joins Tryz.prog J) (q1 q2 q3:Option Addr) (c1 c2 c3:Nat) (x:DHost) (u o n:Str) (hul:u.length≤2000000) (hol:o.length≤2000000) (hnl:n.length≤2000000) (q4:Option Addr) (c4:Nat) (set:List DSpan) (hset:ZeI set=true) (hok:Zz x=true) (href:Zd3 x.users x.folders u o n 2≠0) (hd:x.domain.length≤2000000) (a:Nat→Addr) (B:Kn) (hE:ErrsB 372 [0,1,2,3] B a) (hu:SlK B q1 c1 3 ZA x.users) (hf:SlK B q2 c2 5 Zf x.folders) (hi:SlK B q3 c3 4 ZC x.queue.items) (hs:SlK B q4 c4 2 ZfC set):Zu (pj J) 14 [.agg #[str x.domain,.slice q1 x.users.length c1,.slice q2 x.folders.length c2,.int .i64 x.queue.next,.slice q3 x.queue.items.length c3],.agg #[str u,str o,str n],.slice q4 set.length c4] B [] (fun v B' Ls=>Ls=[]∧∃q c',v = .tuple #[.slice q 0 c',.int .i64 (Zd3 x.users x.folders u o n 2:Nat)]):=by
 refine cB 23 Tryz.func14 (h:=?_)
 have hun:=hu.len
 have hfn:=hf.len
 have hin:=hi.len
 have hsn:=hs.len
 refine Za (xBx [_,_,_,_,_] (h:=fun b1=>xBx [_,_,_] (h:=fun b2=>xBx [_] (h:=fun b3=>xA (h:=xA (h:=tL3 (Za (xBs [] [] Tryz.underlying35 ZzE ZzC (h:=fun b4=>xAl [_] ZzD (h:=fun b5=>xS [_] 4 [_] ZzG (h:=tL5 (Zh (ZV (keeps _ [0,1,2] _) mo kr ⟨Kn.le.refl _,Zae.refl _ _⟩ (fun _ _=>?_))))))))))))))
 refine aT 0 rfl (Zx fun D B L hI=>ZX [_,_,_,_,_] rfl rfl ZY rfl (Zaa 0 (hI.2.1.trans rfl) rfl rfl) r4) (h:=aT 1 rfl (Zx fun D B L hI=>ZX [_,_,_] rfl rfl ZfZ rfl (Zaa 1 (hI.2.2.1.trans rfl) rfl rfl) r4) (h:=aT 2 rfl (Zx fun D B L hI=>Ze rfl rfl ZzN rfl (atL 2 (hI.2.2.2.1.trans rfl) rfl rfl) r4) (h:=aT 3 rfl (Zx fun D B L hI=>ZaF rfl rfl ZzW rfl (ZqP _ _ set _ (hs.mono ZfC.mono hI.1)) r4) (h:=Zaf [4,9] kr kr kr ⟨?_,?_⟩))))
 refine (Zdm (xs:=[]) (ys:=[_,_]) rfl rfl rfl rfl (⟨⟨Kn.le.refl _,t3⟩,(Zaf [5,9] kr kr kr ⟨?_,?_⟩)⟩))
 refine (Zao [4,3] rfl rfl rfl rfl Zx4 rfl (ZmH _ _ _ _ _ _ x u o n hul hol hnl _ 2 46 _ x 0 (by decide) Zx3 hJ _ _ _ _ [] [] (by simp) hd a _ hE hu hf hi ZT.lit0 (fun _ _ h2=>absurd h2 href)) ?_)
 rintro _ B7 _ hle7 ⟨Y7,d7,YY7,q17,c17,q27,c27,q37,c37,l17,l27,l37,qe7,ce7,le7,hYd7,rfl,rfl,hu7,hf7,hi7,hy7⟩
 obtain ⟨hu,hf,hi⟩:=up3 hle7 hu hf hi
 replace hE:=hE.mono hle7
 rw [if_pos ⟨hset,hok⟩,(ZfD href 0).1,(ZfD href 0).2,(ZfD href 0).2] at hYd7
 simp only [Prod.mk.injEq] at hYd7
 obtain ⟨rfl,rfl,rfl⟩:=hYd7
 refine ⟨⟨hle7,t3⟩,(aM 6 rfl (h:=aE 7 rfl (h:=aE 8 rfl (h:=Zo 9 kr rfl kr (Zac (l:=[_,_,_,_,_]) rfl rfl Za6 rfl (fun b8=>?_))))))⟩
 refine ⟨⟨hle7,t3⟩,(Za4 10 kr rfl kr kr (ZE [_,_,_,_,_] 8 [_,_,_,_,_] rfl rfl Zau rfl rfl rfl rfl rfl rfl rfl rfl ?_))⟩
 refine aA 11 rfl (h:=Zv kr kr ?_)
 refine Zj (tL9 (Za (x1 ZxQ 4 (h:=xM (h:=xA (h:=xA (h:=Zd ?_)))))))
 exact Zat .ret (.inl rfl) [_,_] [] rfl t2 ⟨rfl,_,_,rfl⟩
 refine (Zac (l:=[_,_,_,_,_]) rfl rfl Za6 rfl (fun b9=>⟨⟨Kn.le.refl _,t3⟩,(Zo 5 kr rfl kr (Zao [4,3] rfl rfl rfl rfl Zx4 rfl (ZmH _ _ _ _ _ _ x u o n hul hol hnl _ 2 46 _ x 0 (by decide) Zx3 hJ _ _ _ _ [] [] (by simp) hd a _ hE hu hf hi ZT.lit0 (fun _ _ h2=>absurd h2 href)) ?_))⟩))
 rintro _ B10 _ hle10 ⟨Y10,d10,YY10,q110,c110,q210,c210,q310,c310,l110,l210,l310,qe10,ce10,le10,hYd10,rfl,rfl,hu10,hf10,hi10,hy10⟩
 obtain ⟨hu,hf,hi⟩:=up3 hle10 hu hf hi
 replace hE:=hE.mono hle10
 rw [if_pos ⟨hset,hok⟩,(ZfD href 0).1,(ZfD href 0).2,(ZfD href 0).2] at hYd10
 simp only [Prod.mk.injEq] at hYd10
 obtain ⟨rfl,rfl,rfl⟩:=hYd10
 refine ⟨⟨hle10,t3⟩,(aM 6 rfl (h:=aE 7 rfl (h:=aE 8 rfl (h:=Za4 10 kr rfl kr kr (ZE [_,_,_,_,_] 5 [_,_,_,_,_] rfl rfl Zau rfl rfl rfl rfl rfl rfl rfl rfl ?_)))))⟩
 refine aA 11 rfl (h:=Zv kr kr ?_)
 refine Zj (tL9 (Za (x1 ZxQ 4 (h:=xM (h:=xA (h:=xA (h:=Zd ?_)))))))
 exact Zat .ret (.inl rfl) [_,_] [] rfl t2 ⟨rfl,_,_,rfl⟩
 refine (Zac (l:=[_,_,_,_,_]) rfl rfl Za6 rfl (fun b11=>⟨⟨Kn.le.refl _,t3⟩,(Zo 4 kr rfl kr (Zdm (xs:=[]) (ys:=[_,_]) rfl rfl rfl rfl ?_))⟩))
 refine ⟨⟨Kn.le.refl _,t3⟩,(Zo 5 kr rfl kr (Zao [4,3] rfl rfl rfl rfl Zx4 rfl (ZmH _ _ _ _ _ _ x u o n hul hol hnl _ 2 46 _ x 0 (by decide) Zx3 hJ _ _ _ _ [] [] (by simp) hd a _ hE hu hf hi ZT.lit0 (fun _ _ h2=>absurd h2 href)) ?_))⟩
 rintro _ B12 _ hle12 ⟨Y12,d12,YY12,q112,c112,q212,c212,q312,c312,l112,l212,l312,qe12,ce12,le12,hYd12,rfl,rfl,hu12,hf12,hi12,hy12⟩
 rw [if_pos ⟨hset,hok⟩,(ZfD href 0).1,(ZfD href 0).2,(ZfD href 0).2] at hYd12
 simp only [Prod.mk.injEq] at hYd12
 obtain ⟨rfl,rfl,rfl⟩:=hYd12
 refine ⟨⟨hle12,t3⟩,(aM 6 rfl (h:=aE 7 rfl (h:=aE 8 rfl (h:=Za4 10 kr rfl kr kr (ZE [_,_,_,_,_] 5 [_,_,_,_,_] rfl rfl Zau rfl rfl rfl rfl rfl rfl rfl rfl ?_)))))⟩
 refine aA 11 rfl (h:=Zv kr kr ?_)
 refine Zj (tL9 (Za (x1 ZxQ 4 (h:=xM (h:=xA (h:=xA (h:=Zd ?_)))))))
 exact Zat .ret (.inl rfl) [_,_] [] rfl t2 ⟨rfl,_,_,rfl⟩

theorem Zpm (q:Option Addr) (m cp:Nat) (hmc:m≤cp) (B:Kn) (hb:Zan B q m) (a:Nat→Addr) (hE:ErrsB 372 [0,1,2,3] B a) :∃code,Tryz.f6.body=some code∧wpS (pj (ZpB Tryz.prog)) 83 code (ZgC (pj (ZpB Tryz.prog)) [.tmp 2] (fun v B' Ls=>v = .bool true)) (ZdJ [.slice q m cp] 0) [] B []:=by
 have hJ:=Zm7 Tryz.prog
 refine ⟨_,rfl,(Za (xA (h:=Zh (Za (xM (h:=xV Tryz.underlying66 (h:=ZbG (h:=Zb rfl (fun g0=>?_) (fun g0=>?_)))))))))⟩
 refine Za (xA (h:=Zd (Zp ?_)))
 exact eR t1 rfl
 refine wSk (Za (xM (h:=xQ ZzZ rfl (Ztl _ _ _ oz _ (oy)) (h:=?_))))
 intro vd Bd hled
 rintro ⟨xd,p1d,p2d,p3d,d1d,d2d,d3d,wd,yd,zd,od,nd,rfl,hud,hfd,hid,hdd,hwd,hyd,hzd,hod,hnd⟩
 replace hE:=hE.mono hled
 have hudn:=hud.len
 have hfdn:=hfd.len
 have hidn:=hid.len
 refine xM (h:=xE (h:=xE (h:=xE (h:=xE (h:=xAl [_,_,_,_,_] Za6 (h:=fun b2=>xAl [_,_,_] ZkW (h:=fun b3=>xS [_,_,_,_,_] 0 [_,_,_,_,_] Zau (h:=xS [_,_,_] 1 [_,_,_] ZmD (h:=xA (h:=xA (h:=tL2 (Za (xL [_,_,_,_,_] ZY 0 (h:=xL [_,_,_] ZfZ 1 (h:=xM (h:=xM (h:=xQ ZzY rfl (Zwf hJ _ _ _ _ _ _ xd (⟨wd,yd,zd⟩:DSess) od nd om2 om2 om2 om2 om2 om2 a _ hE hud hfd hid) (h:=?_))))))))))))))))))
 intro v4 B4 hle4
 rintro rfl
 obtain ⟨hud,hfd,hid⟩:=up3 hle4 hud hfd hid
 replace hE:=hE.mono hle4
 refine xM (h:=xE (h:=xE (h:=xAl [_,_,_] ZkW (h:=fun b5=>xS [_,_,_] 2 [_,_,_] ZmD (h:=xA (h:=tL3 (Za (xL [_,_,_,_,_] ZY 0 (h:=xL [_,_,_] ZfZ 1 (h:=xM (h:=xM (h:=xR ZzX rfl (Zwe _ _ _ _ _ _ xd (⟨wd,yd,zd⟩:DSess) od nd om2 om2 om2 om2 om2 om2 _ hud hfd hid) (h:=?_)))))))))))))
 refine xM (h:=xE (h:=xE (h:=xAl [_,_,_] ZkW (h:=fun b7=>xS [_,_,_] 3 [_,_,_] ZmD (h:=xA (h:=tL4 (Zh (Za (xM (h:=xM (h:=Zdt (h:=xM (h:=Zq (d:=42) rfl (fun g1=>by simp at g1) (fun g1=>?_))))))))))))))
 refine xL [_,_,_] ZfZ 2 (h:=xL [_,_,_] ZfZ 3 (h:=Zm (ZvM (rs:=[_,_,_]) rfl rfl rfl rfl Zof ⟨⟨_,_,rfl,rfl,Zck Tryz.underlying9⟩,⟨_,_,rfl,rfl,Zck Tryz.underlying9⟩,⟨_,_,rfl,rfl,Zck Tryz.underlying9⟩,trivial⟩ (xF (h:=xM (h:=Zq (d:=47) rfl (fun g2=>by simp at g2) (fun g2=>?_)))))))
 refine xM (h:=ZG (h:=xF (h:=xM (h:=Zq (d:=51) rfl (fun g3=>?_) (fun g3=>?_)))))
 refine xP (h:=xP (h:=xT (h:=Zb (t:=true) rfl (fun _=>Za (xM (h:=xM (h:=ZG (h:=xM (h:=Zq (d:=58) rfl (fun g4=>?_) (fun g4=>by simp at g4))))))) (fun h=>Bool.noConfusion h))))
 refine xL [_,_,_] ZfZ 2 (h:=xL [_,_,_] ZfZ 3 (h:=Zm (ZpR (rs:=[_,_,_]) rfl rfl rfl rfl Zof ⟨⟨_,_,rfl,rfl,Zck Tryz.underlying9⟩,⟨_,_,rfl,rfl,Zck Tryz.underlying9⟩,⟨_,_,rfl,rfl,Zck Tryz.underlying9⟩,trivial⟩ (xT (h:=xA (h:=Zd (Zp ?_)))))))
 exact eR t1 (Zk (by simp))
 refine xM (h:=ZG (h:=xF (h:=Zb rfl (fun g5=>?_) (fun g5=>?_))))
 refine Za (xM (h:=xM (h:=ZG (h:=xM (h:=Zq (d:=58) rfl (fun g6=>?_) (fun g6=>by simp at g6))))))
 refine xL [_,_,_] ZfZ 2 (h:=xL [_,_,_] ZfZ 3 (h:=Zm (ZpR (rs:=[_,_,_]) rfl rfl rfl rfl Zof ⟨⟨_,_,rfl,rfl,Zck Tryz.underlying9⟩,⟨_,_,rfl,rfl,Zck Tryz.underlying9⟩,⟨_,_,rfl,rfl,Zck Tryz.underlying9⟩,trivial⟩ (xT (h:=xA (h:=Zd (Zp ?_)))))))
 exact eR t1 (Zk (by simp))
 obtain ⟨hok,hre,hse⟩:=Zsm (x:=xd) (s:=⟨wd,yd,zd⟩) (o:=od) (n:=nd) (by simpa using g3) (by simpa using g5)
 replace hre:Zd3 xd.users xd.folders wd od nd 2≠0:=hre
 have href:=hre
 have hset:ZeI [⟨0,0⟩]=true:=rfl
 refine wSk (Za (xL [_,_,_,_,_] ZY 0 (h:=xW ZfI (h:=x1 lk9 1 (h:=xM (h:=xM (h:=xB [(0,_),(1,_),(2,_)] [_,_,_] [_,_,_] Zuu ZkW (h:=xB [] [_,_] [_,_] Zzr ZvC (h:=xBs [(0,_)] [_,_] Tryz.underlying48 ZtO ZvC (h:=fun b8=>ZZ 4 rfl (ZT.lit (R:=ZfC) (rows:=[[.int .i64 0,.int .i64 0]]) (xs:=[⟨0,0⟩]) (.cons (rfl) .nil) (by intro r hr;simp at hr;subst hr;rfl)) ZfC.mono om3 (fun B9 hle9 hr9=>?_)))))))))))
 obtain ⟨hud,hfd,hid⟩:=up3 hle9 hud hfd hid
 replace hE:=hE.mono hle9
 have hr9n:=hr9.len
 refine xQ Zz2 rfl (Zpo hJ _ _ _ _ _ _ xd wd od nd om2 om2 om2 _ _ _ hset hok href om2 a _ hE hud hfd hid hr9) (h:=?_)
 intro v10 B10 hle10
 rintro ⟨qz10,cz10,rfl⟩
 refine xM (h:=xE (h:=xE (h:=xA (h:=xA (h:=tL5 (Za (xL [_,_,_] ZfZ 2 (h:=xL [_,_,_] ZfZ 1 (h:=Zm (ZpR (rs:=[_,_,_]) rfl rfl rfl rfl Zof ⟨⟨_,_,rfl,rfl,Zck Tryz.underlying9⟩,⟨_,_,rfl,rfl,Zck Tryz.underlying9⟩,⟨_,_,rfl,rfl,Zck Tryz.underlying9⟩,trivial⟩ (xM (h:=Zq (d:=78) rfl (fun g7=>?_) (fun g7=>by simp [hse] at g7)))))))))))))
 refine xM (h:=xM (h:=ZG (h:=xT (h:=xA (h:=Zd ?_)))))
 exact eR t1 (Zk (by rw [hse];simp))

end Go.Proofs.YtbebcagblefhcaaGreatDoor
