/-
  WHAT THE FUNCTIONS THAT THE LAWS REACH COMPUTE: each function's contract, proved off its printed body (the text is written by program). No condition beyond those that each theorem states.
-/
import Derived.Test.YthgggppcgbglkaaGreatDoorC1
namespace Go.Proofs.YthgggppcgbglkaaGreatDoor
open Go Go.BL
set_option linter.unusedVariables false
set_option linter.unusedSimpArgs false
set_option maxRecDepth 4000
variable {J : JoinT}
set_option maxHeartbeats 400000 in
theorem ZrK (q1:Option Addr) (cp1:Nat) (q2:Option Addr) (cp2:Nat) (a b:DBox) (B:Kn) (h1:SlK B q1 cp1 3 Zaw a.mail) (h2:SlK B q2 cp2 3 Zaw b.mail):Z8 (pj J) 161 [.agg #[.int .i64 a.next,.slice q1 a.mail.length cp1],.agg #[.int .i64 b.next,.slice q2 b.mail.length cp2]] B (.bool (decide (a=b))):=by
 refine Zd 16 Tryz.func161 rfl rfl rfl (Nat.le_of_ble_eq_true rfl) ?_
 refine Za (xBx [_,_] (h:=fun b1=>xBx [_,_] (h:=fun b2=>xA (h:=ZI [_,_] rfl (Zh (Za (xW Zfy (h:=x1 lk3 0 (h:=xW Zfy (h:=x1 lk3 1 (h:=Z4 (h:=Ze rfl (fun g1=>?_) (fun g1=>?_)))))))))))))
 try simp only [sQ,ne_eq] at g1
 refine Za (xA (h:=Zj (Zt ?_)))
 exact ZK .ret (.inl rfl) [_] t1 ⟨Zk (by symm;rw [decide_eq_false_iff_not];rintro rfl;exact g1 rfl),rfl,rfl⟩
 try simp only [sQ,ne_eq] at g1
 refine Zg (Zf (Zh (Za (xW Zb8 (h:=x1 ZjN 0 (h:=xW Zb8 (h:=x1 ZjN 1 (h:=xR ZuJ rfl (Zol _ _ _ _ _ _ _ h1 h2) (h:=xN (h:=Ze rfl (fun g2=>?_) (fun g2=>?_)))))))))))
 try simp only [sQ,ne_eq] at g2
 refine Za (xA (h:=Zj (Zt ?_)))
 exact ZK .ret (.inl rfl) [_] t1 ⟨Zk (by symm;rw [decide_eq_false_iff_not];rintro rfl;exact g2 rfl),rfl,rfl⟩
 try simp only [sQ,ne_eq] at g2
 refine Zg (Zf (Za (xA (h:=Zj ?_))))
 exact ZK .ret (.inl rfl) [_] t1 ⟨Zk (by symm;rw [decide_eq_true_eq];cases a;cases b;simp_all),rfl,rfl⟩

set_option maxHeartbeats 400000 in
theorem Zmk (qa1 qb1:Option Addr) (ca1 cb1:Nat) (qa2 qb2:Option Addr) (ca2 cb2:Nat) (a b:DFolder) (B:Kn) (hg1:SlK B qa1 ca1 2 Zah a.grants) (hm1:SlK B qb1 cb1 3 Zaw a.mail) (hg2:SlK B qa2 ca2 2 Zah b.grants) (hm2:SlK B qb2 cb2 3 Zaw b.mail):Z8 (pj J) 106 [.agg #[str a.owner,str a.name,.slice qa1 a.grants.length ca1,.int .i64 a.next,.slice qb1 a.mail.length cb1],.agg #[str b.owner,str b.name,.slice qa2 b.grants.length ca2,.int .i64 b.next,.slice qb2 b.mail.length cb2]] B (.bool (decide (a=b))):=by
 refine Zd 27 Tryz.func106 rfl rfl rfl (Nat.le_of_ble_eq_true rfl) ?_
 refine Za (xBx [_,_,_,_,_] (h:=fun b1=>xBx [_,_,_,_,_] (h:=fun b2=>xA (h:=ZI [_,_] rfl (Zh (Za (xW Zcv (h:=x1 lk9 0 (h:=xW Zcv (h:=x1 lk9 1 (h:=Zd1 (h:=Ze rfl (fun g1=>?_) (fun g1=>?_)))))))))))))
 try simp only [sQ,ne_eq] at g1
 refine Za (xA (h:=Zj (Zt ?_)))
 exact ZK .ret (.inl rfl) [_] t1 ⟨Zk (by symm;rw [decide_eq_false_iff_not];rintro rfl;exact g1 rfl),rfl,rfl⟩
 try simp only [sQ,ne_eq] at g1
 refine Zg (Zf (Zh (Za (xW Zdy (h:=x1 lk9 0 (h:=xW Zdy (h:=x1 lk9 1 (h:=Zd1 (h:=Ze rfl (fun g2=>?_) (fun g2=>?_))))))))))
 try simp only [sQ,ne_eq] at g2
 refine Za (xA (h:=Zj (Zt ?_)))
 exact ZK .ret (.inl rfl) [_] t1 ⟨Zk (by symm;rw [decide_eq_false_iff_not];rintro rfl;exact g2 rfl),rfl,rfl⟩
 try simp only [sQ,ne_eq] at g2
 refine Zg (Zf (Zh (Za (xW Zen (h:=x1 Zqr 0 (h:=xW Zen (h:=x1 Zqr 1 (h:=xR Zu7 rfl (Zmj _ _ _ _ _ _ _ hg1 hg2) (h:=xN (h:=Ze rfl (fun g3=>?_) (fun g3=>?_)))))))))))
 try simp only [sQ,ne_eq] at g3
 refine Za (xA (h:=Zj (Zt ?_)))
 exact ZK .ret (.inl rfl) [_] t1 ⟨Zk (by symm;rw [decide_eq_false_iff_not];rintro rfl;exact g3 rfl),rfl,rfl⟩
 try simp only [sQ,ne_eq] at g3
 refine Zg (Zf (Zh (Za (xW ZcX (h:=xL [_,_] Zlh 0 (h:=xW ZcX (h:=xL [_,_] Zlh 1 (h:=xR Zu6 rfl (ZrK _ _ _ _ (⟨a.next,a.mail⟩:DBox) (⟨b.next,b.mail⟩:DBox) _ hm1 hm2) (h:=xN (h:=Ze rfl (fun g4=>?_) (fun g4=>?_)))))))))))
 try simp only [sQ,ne_eq] at g4
 refine Za (xA (h:=Zj (Zt ?_)))
 exact ZK .ret (.inl rfl) [_] t1 ⟨Zk (by symm;rw [decide_eq_false_iff_not];rintro rfl;exact g4 rfl),rfl,rfl⟩
 try simp only [sQ,ne_eq] at g4
 refine Zg (Zf (Za (xA (h:=Zj ?_))))
 exact ZK .ret (.inl rfl) [_] t1 ⟨Zk (by symm;rw [decide_eq_true_eq];cases a;cases b;simp_all),rfl,rfl⟩

set_option maxHeartbeats 400000 in
theorem ZkB (q q':Option Addr) (cp cp':Nat) (xs ys:List DFolder) (B:Kn) (ha:SlK B q cp 5 Zb xs) (hb:SlK B q' cp' 5 Zb ys):Z8 (pj J) 47 [.slice q xs.length cp,.slice q' ys.length cp'] B (.bool (decide (xs=ys))):=by
 refine Zd 27 Tryz.func47 rfl rfl rfl (Nat.le_of_ble_eq_true rfl) ?_
 have han:=ha.len
 have hbn:=hb.len
 refine Za (xA (h:=Zh (Za (xM (h:=xV Tryz.underlying31 (h:=xM (h:=xV Tryz.underlying31 (h:=Z4 (h:=Ze rfl (fun g1=>?_) (fun g1=>?_))))))))))
 try simp only [sQ,ne_eq] at g1
 refine Za (xA (h:=Zj (Zt ?_)))
 exact ZK .ret (.inl rfl) [_] t1 ⟨Zk (Zf0 g1),rfl,rfl⟩
 try simp only [sQ,ne_eq] at g1
 refine Zg (Zf (Zh (Za (xA (h:=Zm (ZO (α:=Nat) [0,1,10] (fun k=>[(5,.int .i64 k)]) [] (fun k=>[]) (fun k Bx=>Bx=B∧k≤xs.length∧xs.take k=ys.take k) (fun k=>xs.length - k) 0 t1 rfl (⟨rfl,Nat.zero_le _,by simp⟩) (fun k B1 hle1 hI=>?_)))))))
 obtain ⟨rfl,hk,he⟩:=hI
 refine ZR [(0,_),(1,_),(5,_),(10,_)] [] t4 rfl (Zh (Za (xM (h:=xM (h:=xV Tryz.underlying31 (h:=ZM (h:=Ze rfl (fun g2=>?_) (fun g2=>?_))))))))
 try simp only [sQ,ne_eq] at g2
 refine Zg (Zf (Zh (Zm (Zh (Zac (same _ _) mo kr ⟨rfl,rfl⟩ (fun _ _=>?_))))))
 refine aM 0 rfl (h:=aM 1 rfl (h:=?_))
 obtain ⟨x,hx⟩:=Zae (xs:=xs) (i:=k) om
 obtain ⟨bb3,oo3,rfl⟩:=ha.base hx
 obtain ⟨_,⟨qg4,cg4,qm4,cm4,rfl,hg4,hm4,hb4,hb4b⟩,hc4⟩:=ha.elem hx
 have hg4n:=hg4.len
 have hm4n:=hm4.len
 have hm4s:=ZaT hm4
 refine aIx 2 rfl Tryz.underlying31 Zcr (h:=aT 3 rfl (ZaA fun D=>ZV [_,_,_,_,_] rfl rfl ZhP rfl (ZjM hc4 0 rfl rfl) r4) (h:=aM 4 rfl (h:=aM 5 rfl (h:=?_))))
 obtain ⟨y,hy⟩:=Zae (xs:=ys) (i:=k) om
 obtain ⟨bb6,oo6,rfl⟩:=hb.base hy
 obtain ⟨_,⟨qg7,cg7,qm7,cm7,rfl,hg7,hm7,hb7,hb7b⟩,hc7⟩:=hb.elem hy
 have hg7n:=hg7.len
 have hm7n:=hm7.len
 have hm7s:=ZaT hm7
 refine aIx 6 rfl Tryz.underlying31 Zcr (h:=aT 7 rfl (ZaA fun D=>ZV [_,_,_,_,_] rfl rfl ZhP rfl (ZjM hc7 0 rfl rfl) r4) (h:=aT 8 rfl (ZaA fun D=>Zay rfl rfl ZvG rfl (Zmk _ _ _ _ _ _ _ _ x y _ hg4 hm4 hg7 hm7) r4) (h:=aN 9 rfl (h:=ZB kr kr ?_))))
 refine Zf (Ze rfl (fun g3=>?_) (fun g3=>?_))
 try simp only [sQ,ne_eq] at g3
 refine Za (xA (h:=Zj (ZN (Zt (Z2 (ZN (Zt ?_)))))))
 exact ZK .ret (.inl rfl) [_] t1 ⟨Zk (ZeG hx hy g3),rfl,rfl⟩
 try simp only [sQ,ne_eq] at g3
 refine Zg (Z7 (Zf (Zn (xM (h:=xD (h:=xA (h:=?_)))))))
 exact ZU (k+1) [] so2 ⟨rfl,oz,ZbR hx hy g3 he⟩ t4 rfl
 try simp only [sQ,ne_eq] at g2
 refine ZS (Zaf (ZW (ZG (Zf (Za (xA (h:=Zj ?_)))))))
 exact ZK .ret (.inl rfl) [_] t1 ⟨Zk (eqT oz oz he),rfl,rfl⟩

set_option maxHeartbeats 400000 in
theorem Zak (qa1 qb1 qc1:Option Addr) (ca1 cb1 cc1:Nat) (qa2 qb2 qc2:Option Addr) (ca2 cb2 cc2:Nat) (a b:DHost) (B:Kn) (hu1:SlK B qa1 ca1 3 Zc a.users) (hf1:SlK B qb1 cb1 5 Zb a.folders) (hi1:SlK B qc1 cc1 4 Zi a.queue.items) (hu2:SlK B qa2 ca2 3 Zc b.users) (hf2:SlK B qb2 cb2 5 Zb b.folders) (hi2:SlK B qc2 cc2 4 Zi b.queue.items):Z8 (pj J) 12 [.agg #[str a.domain,.slice qa1 a.users.length ca1,.slice qb1 a.folders.length cb1,.int .i64 a.queue.next,.slice qc1 a.queue.items.length cc1],.agg #[str b.domain,.slice qa2 b.users.length ca2,.slice qb2 b.folders.length cb2,.int .i64 b.queue.next,.slice qc2 b.queue.items.length cc2]] B (.bool (decide (a=b))):=by
 refine Zd 28 Tryz.func12 rfl rfl rfl (Nat.le_of_ble_eq_true rfl) ?_
 refine Za (xBx [_,_,_,_,_] (h:=fun b1=>xBx [_,_,_,_,_] (h:=fun b2=>xA (h:=ZI [_,_] rfl (Zh (Za (xW Zha (h:=x1 lk9 0 (h:=xW Zha (h:=x1 lk9 1 (h:=Zd1 (h:=Ze rfl (fun g1=>?_) (fun g1=>?_)))))))))))))
 try simp only [sQ,ne_eq] at g1
 refine Za (xA (h:=Zj (Zt ?_)))
 exact ZK .ret (.inl rfl) [_] t1 ⟨Zk (by symm;rw [decide_eq_false_iff_not];rintro rfl;exact g1 rfl),rfl,rfl⟩
 try simp only [sQ,ne_eq] at g1
 refine Zg (Zf (Zh (Za (xW ZbW (h:=x1 Zio 0 (h:=xW ZbW (h:=x1 Zio 1 (h:=xR ZwI rfl (Zoj _ _ _ _ _ _ _ hu1 hu2) (h:=xN (h:=Ze rfl (fun g2=>?_) (fun g2=>?_)))))))))))
 try simp only [sQ,ne_eq] at g2
 refine Za (xA (h:=Zj (Zt ?_)))
 exact ZK .ret (.inl rfl) [_] t1 ⟨Zk (by symm;rw [decide_eq_false_iff_not];rintro rfl;exact g2 rfl),rfl,rfl⟩
 try simp only [sQ,ne_eq] at g2
 refine Zg (Zf (Zh (Za (xW Za5 (h:=x1 Zgf 0 (h:=xW Za5 (h:=x1 Zgf 1 (h:=xR ZwH rfl (ZkB _ _ _ _ _ _ _ hf1 hf2) (h:=xN (h:=Ze rfl (fun g3=>?_) (fun g3=>?_)))))))))))
 try simp only [sQ,ne_eq] at g3
 refine Za (xA (h:=Zj (Zt ?_)))
 exact ZK .ret (.inl rfl) [_] t1 ⟨Zk (by symm;rw [decide_eq_false_iff_not];rintro rfl;exact g3 rfl),rfl,rfl⟩
 try simp only [sQ,ne_eq] at g3
 refine Zg (Zf (Zh (Za (xW Zb9 (h:=xL [_,_] Zdg 0 (h:=xW Zb9 (h:=xL [_,_] Zdg 1 (h:=xR ZwG rfl (Zok _ _ _ _ a.queue b.queue _ hi1 hi2) (h:=xN (h:=Ze rfl (fun g4=>?_) (fun g4=>?_)))))))))))
 try simp only [sQ,ne_eq] at g4
 refine Za (xA (h:=Zj (Zt ?_)))
 exact ZK .ret (.inl rfl) [_] t1 ⟨Zk (by symm;rw [decide_eq_false_iff_not];rintro rfl;exact g4 rfl),rfl,rfl⟩
 try simp only [sQ,ne_eq] at g4
 refine Zg (Zf (Za (xA (h:=Zj ?_))))
 exact ZK .ret (.inl rfl) [_] t1 ⟨Zk (by symm;rw [decide_eq_true_eq];cases a;cases b;simp_all),rfl,rfl⟩

set_option maxHeartbeats 400000 in
theorem Zmo (q:Option Addr) (cp:Nat) (x:DBox) (B:Kn) (hm:SlK B q cp 3 Zaw x.mail):ZL (pj J) 168 [.agg #[.int .i64 x.next,.slice q x.mail.length cp]] B [] (fun v B' Ls=>B'=B∧∃l a c,Ls=[l]∧v = .agg #[.int .i64 x.next,.slice a x.mail.length c]∧Zaa B l a c 205 3 Zaw x.mail):=by
 refine Zd 10 Tryz.func168 rfl rfl rfl (Nat.le_of_ble_eq_true rfl) ?_
 have hxn:=hm.len
 refine Za (xBx [_,_] (h:=fun b1=>xAl [_,_] Zr4 (h:=fun b2=>ZI [_,_] rfl (Zh (Zac (keeps _ [0] _) mo kr ⟨Kn.le.refl _,ZaM.refl _ _⟩ (fun _ _=>?_))))))
 refine aW 0 rfl Zfy (h:=aT 1 rfl (ZZ fun D B L hI=>Zx rfl rfl lk3 rfl (atL 0 (hI.2.1.trans rfl) rfl rfl) r4) (h:=aW 3 rfl Zb8 (h:=aT 4 rfl (ZZ fun D B L hI=>Zx rfl rfl ZjN rfl (atL 0 (hI.2.1.trans rfl) rfl rfl) r4) (h:=Zw 2 kr rfl kr (ZP (parts:=[]) [] rfl rfl Tryz.underlying71 Zdf ZjO rfl rfl rfl rfl rfl (fun b3=>?_))))))
 refine ⟨⟨Kn.le.refl _,t1⟩,(Zw 5 kr rfl kr (ZbQ (R:=Zaw) 2 rfl (Zaa.lit0 (R:=Zaw)) rfl rfl rfl Zuo ZvP rfl rfl rfl hm.rows Zaw.one rfl om (fun l4 p4 c4 hv4=>?_)))⟩
 refine ⟨⟨Kn.le.refl _,t1⟩,(aT 6 rfl (ZZ fun D B L hI=>ZaK (parts:=[(0,_),(1,_)]) [_,_] [_,_] rfl rfl Zwa Zr4 rfl rfl rfl r4) (h:=Zav 7 kr rfl kr kr kr (ZT [_,_] 1 [_,_] rfl rfl ZrZ rfl rfl rfl rfl rfl rfl rfl rfl ?_)))⟩
 refine Zf (ZI [_,_,_] rfl (Zj ?_))
 exact Zbw .ret (.inl rfl) [_] [2] rfl ⟨⟨_,rfl,.inr ⟨[_,_],Zlh,Za9 1 rfl rfl rfl,rfl⟩⟩,trivial⟩ ⟨rfl,_,_,_,rfl,rfl,hv4⟩

set_option maxHeartbeats 400000 in
theorem ZiB (qa qb:Option Addr) (ca cb:Nat) (x:DFolder) (B:Kn) (hg:SlK B qa ca 2 Zah x.grants) (hm:SlK B qb cb 3 Zaw x.mail):ZL (pj J) 190 [.agg #[str x.owner,str x.name,.slice qa x.grants.length ca,.int .i64 x.next,.slice qb x.mail.length cb]] B [] (fun v B' Ls=>B'=B∧∃l a c l' a' c',Ls=[l,l']∧v = .agg #[str x.owner,str x.name,.slice a x.grants.length c,.int .i64 x.next,.slice a' x.mail.length c']∧Zaa B l a c 133 2 Zah x.grants∧Zaa B l' a' c' 205 3 Zaw x.mail):=by
 refine Zd 13 Tryz.func190 rfl rfl rfl (Nat.le_of_ble_eq_true rfl) ?_
 have hgn:=hg.len
 have hmn:=hm.len
 refine Za (xBx [_,_,_,_,_] (h:=fun b1=>xAl [_,_,_,_,_] ZfG (h:=fun b2=>ZI [_,_] rfl (Za (xBs [] [] Tryz.underlying68 Zec ZlB (h:=fun b3=>xW Zen (h:=x1 Zqr 0 (h:=Zq (ZbQ (R:=Zah) 2 rfl (Zaa.lit0 (R:=Zah)) rfl rfl rfl Zup ZvQ rfl rfl rfl hg.rows Zah.one rfl om (fun l4 p4 c4 hv4=>?_))))))))))
 refine xW Zen (h:=xS [_] 0 [_,_,_,_,_] Zua (h:=ZI [_,_,_] rfl (Za (xW ZcX (h:=xL [_,_] Zlh 0 (h:=Zq (ZF rfl rfl Zu0 rfl (Zmo _ _ (⟨x.next,x.mail⟩:DBox) _ hm) ?_)))))))
 rintro _ B5 _ hle5 ⟨rfl,l5,a5,c5,rfl,rfl,hs5⟩
 refine xW ZcX (h:=xS [_,_] 0 [_,_,_,_,_] ZrZ (h:=ZI [_,_,_,_] rfl (Za (xL [_,_,_,_,_] ZhP 0 (h:=xS [_,_,_,_,_] 1 [_,_,_,_,_] Zcr (h:=ZI [_,_,_,_] rfl (Zj ?_)))))))
 exact Zbw .ret (.inl rfl) [_] [2,3] rfl ⟨⟨_,rfl,.inr ⟨[_,_,_,_,_],ZhP,Za9 1 rfl rfl rfl,rfl⟩⟩,trivial⟩ ⟨rfl,_,_,_,_,_,_,rfl,rfl,hv4,hs5⟩

set_option maxHeartbeats 400000 in
theorem Zap (k:Nat) (hk:k≤1000000000000000) (B:Kn):Z8 (pj J) 108 [.int .i64 k] B (str (Z5 k)):=by
 refine Zd 20 Tryz.func108 rfl rfl rfl (Nat.le_of_ble_eq_true rfl) ?_
 refine Za (xA (h:=Zh (Za (xM (h:=Zca (h:=Ze rfl (fun g1=>?_) (fun g1=>?_)))))))
 try simp only [sQ,ne_eq] at g1
 refine Za (xA (h:=Zj (Zt ?_)))
 exact ZK .ret (.inl rfl) [_] t1 ⟨Zqn (by rw [Z5,if_pos oz]),rfl,rfl⟩
 try simp only [sQ,ne_eq] at g1
 refine Zg (Zf (Za (xA (h:=Zh (Zm (ZO (α:=Nat × Str) [2,5] (fun g=>[(0,.int .i64 g.1),(3,str g.2)]) [] (fun g=>[]) (fun g Bx=>Bx=B∧g.1≤k∧digs k=digs g.1 ++ g.2) (fun g=>g.1) (k,[]) t2 rfl (⟨rfl,Nat.le_refl _,by simp⟩) (fun g B1 hle1 hI=>?_)))))))
 obtain ⟨rfl,hl,hs⟩:=hI
 have hgl:=ZrQ hk hs
 refine ZR [(0,_),(2,_),(3,_),(5,_)] [] t4 rfl (Zh (Za (xM (h:=Zd8 (h:=Ze rfl (fun g2=>?_) (fun g2=>?_))))))
 try simp only [sQ,ne_eq] at g2
 refine Zg (Zf (Zm (Za (xM (h:=Zq (ZtZ (a:=(g.1:Int)) (b:=10) (r:=((g.1 % 10:Nat):Int)) rfl rfl rfl rfl (by decide) rfl ?_))))))
 refine xD (h:=Zq (ZqN rfl rfl Tryz.underlying3 Tryz.underlying5 rfl (by first | exact Zcp om om | rfl) ?_))
 refine xBs [(0,_)] [_] Tryz.underlying203 sz5 zo5 (h:=fun b2=>Zq (ZmM rfl rfl Tryz.underlying203 Tryz.underlying9 Tryz.underlying5 rfl (Zcm.box 0 rfl) (xM (h:=Zq (Zsp (a:=dig g.1) (b:=g.2) rfl rfl rfl rfl (by simp [dig];omega) ?_)))))
 refine xA (h:=ZI [_] rfl (Zn (xM (h:=Zq (Zr8 (a:=(g.1:Int)) (b:=10) (r:=((g.1 / 10:Nat):Int)) rfl rfl rfl rfl (by decide) (by rw [show Int.tdiv (g.1:Int) 10=((g.1 / 10:Nat):Int) from rfl];exact Zcp oz oz) ?_)))))
 refine xA (h:=Z7 ?_)
 exact ZU (g.1 / 10,dig g.1 ++ g.2) [] so2 ⟨rfl,so,Zou hs oz⟩ t4 rfl
 try simp only [sQ,ne_eq] at g2
 refine ZS (Zaf (ZW (ZG (Zf (Za (xM (h:=Zq (Zsp rfl rfl rfl rfl (by first | omega | (simp;omega)) ?_))))))))
 refine xA (h:=Zj ?_)
 exact ZK .ret (.inl rfl) [_] t1 ⟨Zqn (by rw [Z5,if_neg oz,hs,show g.1=0 from by omega,Zjx];rfl),rfl,rfl⟩

set_option maxHeartbeats 400000 in
theorem Zkf (q:Option Addr) (cp:Nat) (xs:List DMail) (l:Cells) (k:Nat) (hk:k≤900000000000000) (hn:xs.length≤2000000) (B:Kn) (hv:Zaa B l q cp 205 3 Zaw xs):ZL (pj J) 110 [.slice q xs.length cp,.int .i64 k] B [l] (fun v B' Ls=>B'=B∧∃l',Ls=[l']∧v = .int .i64 ((k+3*xs.length:Nat):Int)∧Zaa B l' q cp 205 3 Zaw (ZbO k xs.length)):=by
 refine Zd 35 Tryz.func110 rfl rfl rfl (Nat.le_of_ble_eq_true rfl) ?_
 have hvc:=hv.cap
 refine Za (xA (h:=Zh (Za (xA (h:=Zm (ZO (α:=Nat × Cells × List DMail) [4] (fun g=>[(0,.slice q xs.length cp),(1,.int .i64 ((k+3*g.1:Nat):Int)),(5,.int .i64 g.1)]) [0] (fun g=>[g.2.1]) (fun g Bx=>Bx=B∧g.1≤xs.length∧g.2.2.length=xs.length∧g.2.2.take g.1=ZbO k g.1∧Zaa Bx g.2.1 q cp 205 3 Zaw g.2.2) (fun g=>xs.length - g.1) (0,l,xs) t3 rfl (⟨rfl,Nat.zero_le _,rfl,rfl,hv⟩) (fun g B1 hle1 hI=>?_)))))))
 obtain ⟨rfl,hi,hle,ht,hw⟩:=hI
 refine ZR [(0,_),(1,_),(4,_),(5,_)] [_] t4 rfl (Zh (Za (xM (h:=xM (h:=xV Tryz.underlying71 (h:=ZM (h:=Ze rfl (fun g1=>?_) (fun g1=>?_))))))))
 try simp only [sQ,ne_eq] at g1
 refine Zg (Zf (Zh (Zm (Za (xM (h:=xM (h:=xM (h:=?_))))))))
 obtain ⟨z1,hz1⟩:=Zae (xs:=g.2.2) (i:=g.1) om
 obtain ⟨bb3,_,hp3,⟨rfl,hb3⟩,hw3,hc3⟩:=hw.row hz1
 refine xIp hp3 Tryz.underlying71 Zdf (h:=xW ZcA (h:=Zq (Zgz (k:=g.1) (off:=0) (⟨((k+3*g.1:Nat):Int),z1.flags,z1.text⟩) [_] 0 hw hp3 hz1 rfl rfl sz3 rfl rfl rfl rfl rfl rfl (by rintro _ ⟨rfl,e1⟩;exact ⟨rfl,e1⟩) (fun l4 hv4=>?_))))
 refine ZI [_] rfl (Za (xM (h:=xD (h:=xA (h:=Za (xM (h:=xM (h:=xM (h:=?_)))))))))
 obtain ⟨z2,hz2⟩:=Zae (xs:=(g.2.2.set g.1 (⟨((k+3*g.1:Nat):Int),z1.flags,z1.text⟩))) (i:=g.1) om
 obtain ⟨bb6,_,hp6,⟨rfl,hb6⟩,hw6,hc6⟩:=hv4.row hz2
 refine xIp hp6 Tryz.underlying71 Zdf (h:=xW Ze7 (h:=Zq (Zgz (k:=g.1) (off:=1) (⟨z2.uid,((k+3*g.1+1:Nat):Int),z2.text⟩) [_] 0 hv4 hp6 hz2 rfl rfl sz3 rfl rfl rfl rfl rfl rfl (by rintro _ ⟨rfl,e1⟩;exact ⟨rfl,e1⟩) (fun l7 hv7=>?_))))
 refine ZI [_] rfl (Za (xM (h:=xD (h:=xA (h:=Za (xM (h:=xM (h:=xM (h:=xR Zd7 rfl (Zap (((k+3*g.1)+1)+1) oz _) (h:=?_))))))))))
 obtain ⟨z3,hz3⟩:=Zae (xs:=((g.2.2.set g.1 (⟨((k+3*g.1:Nat):Int),z1.flags,z1.text⟩)).set g.1 (⟨z2.uid,((k+3*g.1+1:Nat):Int),z2.text⟩))) (i:=g.1) om
 obtain ⟨bb10,_,hp10,⟨rfl,hb10⟩,hw10,hc10⟩:=hv7.row hz3
 refine xIp hp10 Tryz.underlying71 Zdf (h:=xW ZdU (h:=Zq (Zgz (k:=g.1) (off:=2) (⟨z3.uid,z3.flags,Z5 (k+3*g.1+1+1)⟩) [_] 0 hv7 hp10 hz3 rfl rfl sz9 rfl rfl rfl rfl rfl rfl (by rintro _ ⟨rfl,e1⟩;exact ⟨rfl,show (Z5 (k+3*g.1+1+1)).length≤2000000 from Nat.le_trans (Zb4 (k:=k+3*g.1+1+1) oz) (by decide)⟩) (fun l11 hv11=>?_))))
 refine ZI [_] rfl (Zn (xM (h:=xD (h:=xA (h:=Z7 (Zf (Zn (xM (h:=xD (h:=xA (h:=?_)))))))))))
 exact ZU (g.1+1,l11,(((g.2.2.set g.1 (⟨((k+3*g.1:Nat):Int),z1.flags,z1.text⟩)).set g.1 (⟨z2.uid,((k+3*g.1+1:Nat):Int),z2.text⟩)).set g.1 (⟨z3.uid,z3.flags,Z5 (k+3*g.1+1+1)⟩))) [0] so2 ⟨rfl,so,by simp only [List.length_set];exact hle,Zja ht hz1 hz2 hz3,hv11⟩ t4 rfl
 try simp only [sQ,ne_eq] at g1
 have he:=Zle ht oz
 have hgi:g.1=xs.length:=by omega
 rw [hgi] at he
 refine ZS (Zaf (ZW (ZG (Zf (Za (xM (h:=xA (h:=Zj ?_))))))))
 exact Zbw .ret (.inl rfl) [_] [0] rfl t1 ⟨rfl,_,rfl,by rw [hgi];rfl,by rw [← he];exact hw⟩

set_option maxHeartbeats 400000 in
theorem Zje (q:Option Addr) (cp:Nat) (xs:List DGrant) (l:Cells) (k:Nat) (hk:k≤900000000000000) (hn:xs.length≤2000000) (B:Kn) (hv:Zaa B l q cp 133 2 Zah xs):ZL (pj J) 109 [.slice q xs.length cp,.int .i64 k] B [l] (fun v B' Ls=>B'=B∧∃l',Ls=[l']∧v = .int .i64 ((k+2*xs.length:Nat):Int)∧Zaa B l' q cp 133 2 Zah (ZaH k xs.length)):=by
 refine Zd 28 Tryz.func109 rfl rfl rfl (Nat.le_of_ble_eq_true rfl) ?_
 have hvc:=hv.cap
 refine Za (xA (h:=Zh (Za (xA (h:=Zm (ZO (α:=Nat × Cells × List DGrant) [4] (fun g=>[(0,.slice q xs.length cp),(1,.int .i64 ((k+2*g.1:Nat):Int)),(5,.int .i64 g.1)]) [0] (fun g=>[g.2.1]) (fun g Bx=>Bx=B∧g.1≤xs.length∧g.2.2.length=xs.length∧g.2.2.take g.1=ZaH k g.1∧Zaa Bx g.2.1 q cp 133 2 Zah g.2.2) (fun g=>xs.length - g.1) (0,l,xs) t3 rfl (⟨rfl,Nat.zero_le _,rfl,rfl,hv⟩) (fun g B1 hle1 hI=>?_)))))))
 obtain ⟨rfl,hi,hle,ht,hw⟩:=hI
 refine ZR [(0,_),(1,_),(4,_),(5,_)] [_] t4 rfl (Zh (Za (xM (h:=xM (h:=xV Tryz.underlying68 (h:=ZM (h:=Ze rfl (fun g1=>?_) (fun g1=>?_))))))))
 try simp only [sQ,ne_eq] at g1
 refine Zg (Zf (Zh (Zm (Za (xM (h:=xM (h:=xM (h:=xR Zd7 rfl (Zap (k+2*g.1) oz _) (h:=?_)))))))))
 obtain ⟨z1,hz1⟩:=Zae (xs:=g.2.2) (i:=g.1) om
 obtain ⟨bb4,_,hp4,⟨rfl,hb4⟩,hw4,hc4⟩:=hw.row hz1
 refine xIp hp4 Tryz.underlying68 Zec (h:=xW ZcB (h:=Zq (Zgz (k:=g.1) (off:=0) (⟨Z5 (k+2*g.1),z1.rights⟩) [_] 0 hw hp4 hz1 rfl rfl sz9 rfl rfl rfl rfl rfl rfl (by rintro _ ⟨rfl,e1⟩;exact ⟨rfl,show (Z5 (k+2*g.1)).length≤2000000 from Nat.le_trans (Zb4 (k:=k+2*g.1) oz) (by decide)⟩) (fun l5 hv5=>?_))))
 refine ZI [_] rfl (Za (xM (h:=xD (h:=xA (h:=Za (xM (h:=xM (h:=xM (h:=?_)))))))))
 obtain ⟨z2,hz2⟩:=Zae (xs:=(g.2.2.set g.1 (⟨Z5 (k+2*g.1),z1.rights⟩))) (i:=g.1) om
 obtain ⟨bb7,_,hp7,⟨rfl,hb7⟩,hw7,hc7⟩:=hv5.row hz2
 refine xIp hp7 Tryz.underlying68 Zec (h:=xW ZdV (h:=Zq (Zgz (k:=g.1) (off:=1) (⟨z2.user,((k+2*g.1+1:Nat):Int)⟩) [_] 0 hv5 hp7 hz2 rfl rfl sz3 rfl rfl rfl rfl rfl rfl (by rintro _ ⟨rfl,e1⟩;exact ⟨rfl,e1⟩) (fun l8 hv8=>?_))))
 refine ZI [_] rfl (Zn (xM (h:=xD (h:=xA (h:=Z7 (Zf (Zn (xM (h:=xD (h:=xA (h:=?_)))))))))))
 exact ZU (g.1+1,l8,((g.2.2.set g.1 (⟨Z5 (k+2*g.1),z1.rights⟩)).set g.1 (⟨z2.user,((k+2*g.1+1:Nat):Int)⟩))) [0] so2 ⟨rfl,so,by simp only [List.length_set];exact hle,Zim ht hz1 hz2,hv8⟩ t4 rfl
 try simp only [sQ,ne_eq] at g1
 have he:=Zle ht oz
 have hgi:g.1=xs.length:=by omega
 rw [hgi] at he
 refine ZS (Zaf (ZW (ZG (Zf (Za (xM (h:=xA (h:=Zj ?_))))))))
 exact Zbw .ret (.inl rfl) [_] [0] rfl t1 ⟨rfl,_,rfl,by rw [hgi];rfl,by rw [← he];exact hw⟩

set_option maxHeartbeats 400000 in
theorem Zkd (q:Option Addr) (cp:Nat) (xs:List DUser) (l:Cells) (k:Nat) (hk:k≤900000000000000) (hn:xs.length≤2000000) (B:Kn) (hv:Zaa B l q cp 123 3 Zc xs):ZL (pj J) 49 [.slice q xs.length cp,.int .i64 k] B [l] (fun v B' Ls=>B'=B∧∃l',Ls=[l']∧v = .int .i64 ((k+3*xs.length:Nat):Int)∧Zaa B l' q cp 123 3 Zc (Zci k xs.length)):=by
 refine Zd 36 Tryz.func49 rfl rfl rfl (Nat.le_of_ble_eq_true rfl) ?_
 have hvc:=hv.cap
 refine Za (xA (h:=Zh (Za (xA (h:=Zm (ZO (α:=Nat × Cells × List DUser) [4] (fun g=>[(0,.slice q xs.length cp),(1,.int .i64 ((k+3*g.1:Nat):Int)),(5,.int .i64 g.1)]) [0] (fun g=>[g.2.1]) (fun g Bx=>Bx=B∧g.1≤xs.length∧g.2.2.length=xs.length∧g.2.2.take g.1=Zci k g.1∧Zaa Bx g.2.1 q cp 123 3 Zc g.2.2) (fun g=>xs.length - g.1) (0,l,xs) t3 rfl (⟨rfl,Nat.zero_le _,rfl,rfl,hv⟩) (fun g B1 hle1 hI=>?_)))))))
 obtain ⟨rfl,hi,hle,ht,hw⟩:=hI
 refine ZR [(0,_),(1,_),(4,_),(5,_)] [_] t4 rfl (Zh (Za (xM (h:=xM (h:=xV Tryz.underlying30 (h:=ZM (h:=Ze rfl (fun g1=>?_) (fun g1=>?_))))))))
 try simp only [sQ,ne_eq] at g1
 refine Zg (Zf (Zh (Zm (Za (xM (h:=xM (h:=xM (h:=xR Zd7 rfl (Zap (k+3*g.1) oz _) (h:=?_)))))))))
 obtain ⟨z1,hz1⟩:=Zae (xs:=g.2.2) (i:=g.1) om
 obtain ⟨bb4,_,hp4,⟨rfl,hb4,hb4b⟩,hw4,hc4⟩:=hw.row hz1
 refine xIp hp4 Tryz.underlying30 Zbs (h:=xW Zbe (h:=Zq (Zgz (k:=g.1) (off:=0) (⟨Z5 (k+3*g.1),z1.pass,z1.quota⟩) [_] 0 hw hp4 hz1 rfl rfl sz9 rfl rfl rfl rfl rfl rfl (by rintro _ ⟨rfl,e1,e2⟩;exact ⟨rfl,show (Z5 (k+3*g.1)).length≤2000000 from Nat.le_trans (Zb4 (k:=k+3*g.1) oz) (by decide),e2⟩) (fun l5 hv5=>?_))))
 refine ZI [_] rfl (Za (xM (h:=xD (h:=xA (h:=Za (xM (h:=xM (h:=xM (h:=xR Zd7 rfl (Zap ((k+3*g.1)+1) oz _) (h:=?_))))))))))
 obtain ⟨z2,hz2⟩:=Zae (xs:=(g.2.2.set g.1 (⟨Z5 (k+3*g.1),z1.pass,z1.quota⟩))) (i:=g.1) om
 obtain ⟨bb8,_,hp8,⟨rfl,hb8,hb8b⟩,hw8,hc8⟩:=hv5.row hz2
 refine xIp hp8 Tryz.underlying30 Zbs (h:=xW Ze9 (h:=Zq (Zgz (k:=g.1) (off:=1) (⟨z2.name,Z5 (k+3*g.1+1),z2.quota⟩) [_] 0 hv5 hp8 hz2 rfl rfl sz9 rfl rfl rfl rfl rfl rfl (by rintro _ ⟨rfl,e1,e2⟩;exact ⟨rfl,e1,show (Z5 (k+3*g.1+1)).length≤2000000 from Nat.le_trans (Zb4 (k:=k+3*g.1+1) oz) (by decide)⟩) (fun l9 hv9=>?_))))
 refine ZI [_] rfl (Za (xM (h:=xD (h:=xA (h:=Za (xM (h:=xM (h:=xM (h:=?_)))))))))
 obtain ⟨z3,hz3⟩:=Zae (xs:=((g.2.2.set g.1 (⟨Z5 (k+3*g.1),z1.pass,z1.quota⟩)).set g.1 (⟨z2.name,Z5 (k+3*g.1+1),z2.quota⟩))) (i:=g.1) om
 obtain ⟨bb11,_,hp11,⟨rfl,hb11,hb11b⟩,hw11,hc11⟩:=hv9.row hz3
 refine xIp hp11 Tryz.underlying30 Zbs (h:=xW Zdi (h:=Zq (Zgz (k:=g.1) (off:=2) (⟨z3.name,z3.pass,((k+3*g.1+1+1:Nat):Int)⟩) [_] 0 hv9 hp11 hz3 rfl rfl sz3 rfl rfl rfl rfl rfl rfl (by rintro _ ⟨rfl,e1,e2⟩;exact ⟨rfl,e1,e2⟩) (fun l12 hv12=>?_))))
 refine ZI [_] rfl (Zn (xM (h:=xD (h:=xA (h:=Z7 (Zf (Zn (xM (h:=xD (h:=xA (h:=?_)))))))))))
 exact ZU (g.1+1,l12,(((g.2.2.set g.1 (⟨Z5 (k+3*g.1),z1.pass,z1.quota⟩)).set g.1 (⟨z2.name,Z5 (k+3*g.1+1),z2.quota⟩)).set g.1 (⟨z3.name,z3.pass,((k+3*g.1+1+1:Nat):Int)⟩))) [0] so2 ⟨rfl,so,by simp only [List.length_set];exact hle,Zi9 ht hz1 hz2 hz3,hv12⟩ t4 rfl
 try simp only [sQ,ne_eq] at g1
 have he:=Zle ht oz
 have hgi:g.1=xs.length:=by omega
 rw [hgi] at he
 refine ZS (Zaf (ZW (ZG (Zf (Za (xM (h:=xA (h:=Zj ?_))))))))
 exact Zbw .ret (.inl rfl) [_] [0] rfl t1 ⟨rfl,_,rfl,by rw [hgi];rfl,by rw [← he];exact hw⟩

set_option maxHeartbeats 400000 in
theorem Zfr (q:Option Addr) (cp:Nat) (xs:List Str) (l:Cells) (k:Nat) (hk:k≤900000000000000) (hn:xs.length≤2000000) (B:Kn) (hv:Zaa B l q cp 9 1 ZJ xs):ZL (pj J) 64 [.slice q xs.length cp,.int .i64 k] B [l] (fun v B' Ls=>B'=B∧∃l',Ls=[l']∧v = .int .i64 ((k+1*xs.length:Nat):Int)∧Zaa B l' q cp 9 1 ZJ (ZcE k xs.length)):=by
 refine Zd 20 Tryz.func64 rfl rfl rfl (Nat.le_of_ble_eq_true rfl) ?_
 have hvc:=hv.cap
 refine Za (xA (h:=Zh (Za (xA (h:=Zm (ZO (α:=Nat × Cells × List Str) [4] (fun g=>[(0,.slice q xs.length cp),(1,.int .i64 ((k+1*g.1:Nat):Int)),(5,.int .i64 g.1)]) [0] (fun g=>[g.2.1]) (fun g Bx=>Bx=B∧g.1≤xs.length∧g.2.2.length=xs.length∧g.2.2.take g.1=ZcE k g.1∧Zaa Bx g.2.1 q cp 9 1 ZJ g.2.2) (fun g=>xs.length - g.1) (0,l,xs) t3 rfl (⟨rfl,Nat.zero_le _,rfl,rfl,hv⟩) (fun g B1 hle1 hI=>?_)))))))
 obtain ⟨rfl,hi,hle,ht,hw⟩:=hI
 refine ZR [(0,_),(1,_),(4,_),(5,_)] [_] t4 rfl (Zh (Za (xM (h:=xM (h:=xV Tryz.underlying43 (h:=ZM (h:=Ze rfl (fun g1=>?_) (fun g1=>?_))))))))
 try simp only [sQ,ne_eq] at g1
 refine Zg (Zf (Zh (Zm (Za (xM (h:=xM (h:=xM (h:=xR Zd7 rfl (Zap (k+1*g.1) oz _) (h:=?_)))))))))
 obtain ⟨z1,hz1⟩:=Zae (xs:=g.2.2) (i:=g.1) om
 obtain ⟨bb4,_,hp4,⟨rfl,hb4⟩,hw4,hc4⟩:=hw.row hz1
 refine xIp hp4 Tryz.underlying43 sz9 (h:=Zq (Zgz (k:=g.1) (off:=0) (Z5 (k+1*g.1)) [_] 0 hw hp4 hz1 rfl rfl sz9 rfl rfl rfl rfl rfl rfl (by rintro _ ⟨rfl,e1⟩;exact ⟨rfl,show (Z5 (k+1*g.1)).length≤2000000 from Nat.le_trans (Zb4 (k:=k+1*g.1) oz) (by decide)⟩) (fun l5 hv5=>?_)))
 refine ZI [_] rfl (Zn (xM (h:=xD (h:=xA (h:=Z7 (Zf (Zn (xM (h:=xD (h:=xA (h:=?_)))))))))))
 exact ZU (g.1+1,l5,(g.2.2.set g.1 (Z5 (k+1*g.1)))) [0] so2 ⟨rfl,so,by simp only [List.length_set];exact hle,Zj9 ht hz1,hv5⟩ t4 rfl
 try simp only [sQ,ne_eq] at g1
 have he:=Zle ht oz
 have hgi:g.1=xs.length:=by omega
 rw [hgi] at he
 refine ZS (Zaf (ZW (ZG (Zf (Za (xM (h:=xA (h:=Zj ?_))))))))
 exact Zbw .ret (.inl rfl) [_] [0] rfl t1 ⟨rfl,_,rfl,by rw [hgi];rfl,by rw [← he];exact hw⟩

set_option maxHeartbeats 400000 in
theorem ZnM (q:Option Addr) (cp:Nat) (x:DBox) (B:Kn) (hm:SlK B q cp 3 Zaw x.mail):ZL (pj J) 144 [.agg #[.int .i64 x.next,.slice q x.mail.length cp]] B [] (fun v B' Ls=>B'=B∧∃l a c,Ls=[l]∧v = .agg #[.int .i64 x.next,.slice a x.mail.length c]∧Zaa B l a c 205 3 Zaw x.mail):=by
 refine Zd 9 Tryz.func144 rfl rfl rfl (Nat.le_of_ble_eq_true rfl) ?_
 have hxn:=hm.len
 refine Za (xBx [_,_] (h:=fun b1=>xAl [_,_] Zr4 (h:=fun b2=>ZI [_,_] rfl (Za (xBs [] [] Tryz.underlying71 Zdf ZjO (h:=fun b3=>xW Zb8 (h:=x1 ZjN 0 (h:=Zq (ZbQ (R:=Zaw) 2 rfl (Zaa.lit0 (R:=Zaw)) rfl rfl rfl Zuo ZvP rfl rfl rfl hm.rows Zaw.one rfl om (fun l4 p4 c4 hv4=>?_))))))))))
 refine xW Zb8 (h:=xS [_] 0 [_,_] ZvN (h:=ZI [_,_,_] rfl (Za (xL [_,_] Zlh 0 (h:=xS [_,_] 1 [_,_] ZrZ (h:=ZI [_,_,_] rfl (Zj ?_)))))))
 exact Zbw .ret (.inl rfl) [_] [2] rfl ⟨⟨_,rfl,.inr ⟨[_,_],Zlh,Za9 1 rfl rfl rfl,rfl⟩⟩,trivial⟩ ⟨rfl,_,_,_,rfl,rfl,hv4⟩

set_option maxHeartbeats 400000 in
theorem Zkj (qa qb:Option Addr) (ca cb:Nat) (x:DFolder) (B:Kn) (hg:SlK B qa ca 2 Zah x.grants) (hm:SlK B qb cb 3 Zaw x.mail):ZL (pj J) 92 [.agg #[str x.owner,str x.name,.slice qa x.grants.length ca,.int .i64 x.next,.slice qb x.mail.length cb]] B [] (fun v B' Ls=>B'=B∧∃l a c l' a' c',Ls=[l,l']∧v = .agg #[str x.owner,str x.name,.slice a x.grants.length c,.int .i64 x.next,.slice a' x.mail.length c']∧Zaa B l a c 133 2 Zah x.grants∧Zaa B l' a' c' 205 3 Zaw x.mail):=by
 refine Zd 13 Tryz.func92 rfl rfl rfl (Nat.le_of_ble_eq_true rfl) ?_
 have hgn:=hg.len
 have hmn:=hm.len
 refine Za (xBx [_,_,_,_,_] (h:=fun b1=>xAl [_,_,_,_,_] ZfG (h:=fun b2=>ZI [_,_] rfl (Za (xBs [] [] Tryz.underlying68 Zec ZlB (h:=fun b3=>xW Zen (h:=x1 Zqr 0 (h:=Zq (ZbQ (R:=Zah) 2 rfl (Zaa.lit0 (R:=Zah)) rfl rfl rfl Zup ZvQ rfl rfl rfl hg.rows Zah.one rfl om (fun l4 p4 c4 hv4=>?_))))))))))
 refine xW Zen (h:=xS [_] 0 [_,_,_,_,_] Zua (h:=ZI [_,_,_] rfl (Za (xW ZcX (h:=xL [_,_] Zlh 0 (h:=Zq (ZF rfl rfl Zvi rfl (ZnM _ _ (⟨x.next,x.mail⟩:DBox) _ hm) ?_)))))))
 rintro _ B5 _ hle5 ⟨hB5,l5,a5,c5,rfl,rfl,hs5⟩
 have hB5:=hB5.symm
 subst hB5
 refine xW ZcX (h:=xS [_,_] 0 [_,_,_,_,_] ZrZ (h:=ZI [_,_,_,_] rfl (Za (xL [_,_,_,_,_] ZhP 0 (h:=xS [_,_,_,_,_] 1 [_,_,_,_,_] Zcr (h:=ZI [_,_,_,_] rfl (Zj ?_)))))))
 exact Zbw .ret (.inl rfl) [_] [2,3] rfl ⟨⟨_,rfl,.inr ⟨[_,_,_,_,_],ZhP,Za9 1 rfl rfl rfl,rfl⟩⟩,trivial⟩ ⟨rfl,_,_,_,_,_,_,rfl,rfl,hv4,hs5⟩

set_option maxHeartbeats 400000 in
theorem ZnJ (q1 q2 q3:Option Addr) (c1 c2 c3:Nat) (x:DHost) (B:Kn) (hu:SlK B q1 c1 3 Zc x.users) (hf:SlK B q2 c2 5 Zb x.folders) (hi:SlK B q3 c3 4 Zi x.queue.items):ZL (pj J) 32 [.agg #[str x.domain,.slice q1 x.users.length c1,.slice q2 x.folders.length c2,.int .i64 x.queue.next,.slice q3 x.queue.items.length c3]] B [] (fun v B' Ls=>∃l a c p1 d1 p3 d3,Ls=[l]∧v = .agg #[str x.domain,.slice p1 x.users.length d1,.slice a x.folders.length c,.int .i64 x.queue.next,.slice p3 x.queue.items.length d3]∧SlK B' p1 d1 3 Zc x.users∧Zaa B' l a c 75 5 Zb x.folders∧SlK B' p3 d3 4 Zi x.queue.items):=by
 refine Zd 35 Tryz.func32 rfl rfl rfl (Nat.le_of_ble_eq_true rfl) ?_
 have hun:=hu.len
 have hfn:=hf.len
 have hin:=hi.len
 refine Za (xBx [_,_,_,_,_] (h:=fun b1=>xAl [_,_,_,_,_] Zbj (h:=fun b2=>ZI [_,_] rfl (Zsd (α:=GHC × Gh DFolder) [0,1,2] (fun o=>[(3,ptr ⟨o.1.b,0,none⟩)]) (fun o=>[ZaE b1 [str x.domain,.slice q1 x.users.length c1,.slice q2 x.folders.length c2,.int .i64 x.queue.next,.slice q3 x.queue.items.length c3] 36,ZaE b2 [str [],.slice none 0 0,.slice none 0 0,.int .i64 0,.slice none 0 0] 36,o.2.l,ZaE o.1.b [str x.domain,.slice o.1.q1 x.users.length o.1.c1,.slice o.2.a o.2.xs.length o.2.c,.int .i64 x.queue.next,.slice o.1.q3 x.queue.items.length o.1.c3] 36]) (fun o Bx=>SlK Bx o.1.q1 o.1.c1 3 Zc x.users∧o.2.xs=[]∧Zaa Bx o.2.l o.2.a o.2.c 75 5 Zb o.2.xs∧SlK Bx o.1.q3 o.1.c3 4 Zi x.queue.items) ?_ (fun o B3 hle3 hF=>?_)))))
 refine Zac (keeps _ [0] _) mo kr ⟨Kn.le.refl _,ZaM.refl _ _⟩ (fun _ _=>?_)
 refine aW 0 rfl Zha (h:=aT 1 rfl (ZZ fun D B L hI=>Zx rfl rfl lk9 rfl (atL 0 (hI.2.1.trans rfl) rfl rfl) r4) (h:=aW 3 rfl ZbW (h:=aT 4 rfl (ZZ fun D B L hI=>Zx rfl rfl Zio rfl (atL 0 (hI.2.1.trans rfl) rfl rfl) r4) (h:=aW 7 rfl Zb9 (h:=aT 8 rfl (ZZ fun D B L hI=>ZV [_,_] rfl rfl Zdg rfl (Za9 0 (hI.2.1.trans rfl) rfl rfl) r4) (h:=Zan [2,6,11] kr kr kr ⟨?_,?_,?_⟩))))))
 refine (ZP (parts:=[]) [] rfl rfl Tryz.underlying30 Zbs ZdF rfl rfl rfl rfl rfl (fun b4=>⟨⟨Kn.le.refl _,t1⟩,(Zan [5,6,11] kr kr kr ⟨?_,?_,?_⟩)⟩))
 refine (ZbQ (R:=Zc) 2 rfl (Zaa.lit0 (R:=Zc)) rfl rfl rfl Zml Zmx rfl rfl rfl hu.rows Zc.one rfl om (fun l5 p5 c5 hv5=>?_))
 refine ⟨⟨Kn.le.refl _,t1⟩,(ZaR 2 rfl hv5 Zc.mono om3 (fun B' hle'=>⟨hle',t1⟩) (fun B6 hle6 hr6=>?_))⟩
 replace hu:=hu.mono Zc.mono hle6
 replace hf:=hf.mono Zb.mono hle6
 replace hi:=hi.mono Zi.mono hle6
 have hr6n:=hr6.len
 refine Zan [6,9,11] kr kr kr ⟨?_,?_,?_⟩
 refine (ZP (parts:=[]) [] rfl rfl Tryz.underlying31 Zcr ZfG rfl rfl rfl rfl rfl (fun b7=>⟨⟨hle6,t1⟩,(Zan [9,11] kr kr kr ⟨?_,?_⟩)⟩))
 refine (ZF rfl rfl ZhZ rfl (Zas _ _ x.queue _ hi) ?_)
 rintro _ B8 _ hle8 ⟨l8,a8,c8,rfl,rfl,hv8⟩
 replace hu:=hu.mono Zc.mono hle8
 replace hf:=hf.mono Zb.mono hle8
 replace hi:=hi.mono Zi.mono hle8
 replace hr6:=hr6.mono Zc.mono hle8
 replace hv8:=hv8.mono Zi.mono Kn.less_le
 refine ⟨⟨(hle6.trans hle8),t1⟩,(ZaR 4 rfl hv8 Zi.mono om3 (fun B' hle'=>⟨(hle6.trans hle8).trans hle',t1⟩) (fun B9 hle9 hr9=>?_))⟩
 replace hu:=hu.mono Zc.mono hle9
 replace hf:=hf.mono Zb.mono hle9
 replace hi:=hi.mono Zi.mono hle9
 replace hr6:=hr6.mono Zc.mono hle9
 have hr9n:=hr9.len
 refine aT 10 rfl (ZZ fun D B L hI=>ZaK (parts:=[(0,_),(1,_),(2,_),(3,_)]) [_,_,_,_,_] [_,_,_,_,_] rfl rfl Zgm Zbj rfl rfl rfl r4) (h:=Zw 11 kr rfl kr (Zag (l:=[_,_,_,_,_]) rfl rfl Zbj rfl (fun b10=>?_)))
 refine ⟨⟨((hle6.trans hle8).trans hle9),t1⟩,(Zav 12 kr rfl kr kr kr (ZT [_,_,_,_,_] 5 [_,_,_,_,_] rfl rfl ZbN rfl rfl rfl rfl rfl rfl rfl rfl ?_))⟩
 exact ZaI ⟨⟨_,_,_,_,_⟩,⟨0,0,_,_,_,[]⟩⟩ [0,1,3,5] ⟨hr6,rfl,Zaa.lit0,hr9⟩ t4 rfl
 refine (Zag (l:=[_,_,_,_,_]) rfl rfl Zbj rfl (fun b11=>⟨⟨hle6,t1⟩,(Zw 9 kr rfl kr (ZF rfl rfl ZhZ rfl (Zas _ _ x.queue _ hi) ?_))⟩))
 rintro _ B12 _ hle12 ⟨l12,a12,c12,rfl,rfl,hv12⟩
 replace hu:=hu.mono Zc.mono hle12
 replace hf:=hf.mono Zb.mono hle12
 replace hi:=hi.mono Zi.mono hle12
 replace hr6:=hr6.mono Zc.mono hle12
 replace hv12:=hv12.mono Zi.mono Kn.less_le
 refine ⟨⟨(hle6.trans hle12),t1⟩,(ZaR 5 rfl hv12 Zi.mono om3 (fun B' hle'=>⟨(hle6.trans hle12).trans hle',t1⟩) (fun B13 hle13 hr13=>?_))⟩
 replace hu:=hu.mono Zc.mono hle13
 replace hf:=hf.mono Zb.mono hle13
 replace hi:=hi.mono Zi.mono hle13
 replace hr6:=hr6.mono Zc.mono hle13
 have hr13n:=hr13.len
 refine aT 10 rfl (ZZ fun D B L hI=>ZaK (parts:=[(0,_),(1,_),(2,_),(3,_)]) [_,_,_,_,_] [_,_,_,_,_] rfl rfl Zgm Zbj rfl rfl rfl r4) (h:=Zav 12 kr rfl kr kr kr (ZT [_,_,_,_,_] 4 [_,_,_,_,_] rfl rfl ZbN rfl rfl rfl rfl rfl rfl rfl rfl ?_))
 exact ZaI ⟨⟨_,_,_,_,_⟩,⟨0,0,_,_,_,[]⟩⟩ [0,1,3,4] ⟨hr6,rfl,Zaa.lit0,hr13⟩ t4 rfl
 refine (ZF rfl rfl ZhZ rfl (Zas _ _ x.queue _ hi) ?_)
 rintro _ B14 _ hle14 ⟨l14,a14,c14,rfl,rfl,hv14⟩
 replace hu:=hu.mono Zc.mono hle14
 replace hf:=hf.mono Zb.mono hle14
 replace hi:=hi.mono Zi.mono hle14
 replace hr6:=hr6.mono Zc.mono hle14
 replace hv14:=hv14.mono Zi.mono Kn.less_le
 refine ⟨⟨(hle6.trans hle14),t1⟩,(ZaR 3 rfl hv14 Zi.mono om3 (fun B' hle'=>⟨(hle6.trans hle14).trans hle',t1⟩) (fun B15 hle15 hr15=>?_))⟩
 replace hu:=hu.mono Zc.mono hle15
 replace hf:=hf.mono Zb.mono hle15
 replace hi:=hi.mono Zi.mono hle15
 replace hr6:=hr6.mono Zc.mono hle15
 have hr15n:=hr15.len
 refine Zan [6,11] kr kr kr ⟨?_,?_⟩
 refine (ZP (parts:=[]) [] rfl rfl Tryz.underlying31 Zcr ZfG rfl rfl rfl rfl rfl (fun b16=>⟨⟨((hle6.trans hle14).trans hle15),t1⟩,(aT 10 rfl (ZZ fun D B L hI=>ZaK (parts:=[(0,_),(1,_),(2,_),(3,_)]) [_,_,_,_,_] [_,_,_,_,_] rfl rfl Zgm Zbj rfl rfl rfl r4) (h:=Zw 11 kr rfl kr (Zag (l:=[_,_,_,_,_]) rfl rfl Zbj rfl (fun b17=>?_))))⟩))
 refine ⟨⟨((hle6.trans hle14).trans hle15),t1⟩,(Zav 12 kr rfl kr kr kr (ZT [_,_,_,_,_] 5 [_,_,_,_,_] rfl rfl ZbN rfl rfl rfl rfl rfl rfl rfl rfl ?_))⟩
 exact ZaI ⟨⟨_,_,_,_,_⟩,⟨0,0,_,_,_,[]⟩⟩ [0,1,4,5] ⟨hr6,rfl,Zaa.lit0,hr15⟩ t4 rfl
 refine (Zag (l:=[_,_,_,_,_]) rfl rfl Zbj rfl (fun b18=>⟨⟨((hle6.trans hle14).trans hle15),t1⟩,(Zw 6 kr rfl kr (ZP (parts:=[]) [] rfl rfl Tryz.underlying31 Zcr ZfG rfl rfl rfl rfl rfl (fun b19=>?_)))⟩))
 refine ⟨⟨((hle6.trans hle14).trans hle15),t1⟩,(aT 10 rfl (ZZ fun D B L hI=>ZaK (parts:=[(0,_),(1,_),(2,_),(3,_)]) [_,_,_,_,_] [_,_,_,_,_] rfl rfl Zgm Zbj rfl rfl rfl r4) (h:=Zav 12 kr rfl kr kr kr (ZT [_,_,_,_,_] 4 [_,_,_,_,_] rfl rfl ZbN rfl rfl rfl rfl rfl rfl rfl rfl ?_)))⟩
 exact ZaI ⟨⟨_,_,_,_,_⟩,⟨0,0,_,_,_,[]⟩⟩ [0,1,5,4] ⟨hr6,rfl,Zaa.lit0,hr15⟩ t4 rfl
 refine (Zag (l:=[_,_,_,_,_]) rfl rfl Zbj rfl (fun b20=>⟨⟨hle6,t1⟩,(Zan [6,9] kr kr kr ⟨?_,?_⟩)⟩))
 refine (ZP (parts:=[]) [] rfl rfl Tryz.underlying31 Zcr ZfG rfl rfl rfl rfl rfl (fun b21=>⟨⟨hle6,t1⟩,(Zw 9 kr rfl kr (ZF rfl rfl ZhZ rfl (Zas _ _ x.queue _ hi) ?_))⟩))
 rintro _ B22 _ hle22 ⟨l22,a22,c22,rfl,rfl,hv22⟩
 replace hu:=hu.mono Zc.mono hle22
 replace hf:=hf.mono Zb.mono hle22
 replace hi:=hi.mono Zi.mono hle22
 replace hr6:=hr6.mono Zc.mono hle22
 replace hv22:=hv22.mono Zi.mono Kn.less_le
 refine ⟨⟨(hle6.trans hle22),t1⟩,(ZaR 5 rfl hv22 Zi.mono om3 (fun B' hle'=>⟨(hle6.trans hle22).trans hle',t1⟩) (fun B23 hle23 hr23=>?_))⟩
 replace hu:=hu.mono Zc.mono hle23
 replace hf:=hf.mono Zb.mono hle23
 replace hi:=hi.mono Zi.mono hle23
 replace hr6:=hr6.mono Zc.mono hle23
 have hr23n:=hr23.len
 refine aT 10 rfl (ZZ fun D B L hI=>ZaK (parts:=[(0,_),(1,_),(2,_),(3,_)]) [_,_,_,_,_] [_,_,_,_,_] rfl rfl Zgm Zbj rfl rfl rfl r4) (h:=Zav 12 kr rfl kr kr kr (ZT [_,_,_,_,_] 3 [_,_,_,_,_] rfl rfl ZbN rfl rfl rfl rfl rfl rfl rfl rfl ?_))
 exact ZaI ⟨⟨_,_,_,_,_⟩,⟨0,0,_,_,_,[]⟩⟩ [0,1,4,3] ⟨hr6,rfl,Zaa.lit0,hr23⟩ t4 rfl
 refine (ZF rfl rfl ZhZ rfl (Zas _ _ x.queue _ hi) ?_)
 rintro _ B24 _ hle24 ⟨l24,a24,c24,rfl,rfl,hv24⟩
 replace hu:=hu.mono Zc.mono hle24
 replace hf:=hf.mono Zb.mono hle24
 replace hi:=hi.mono Zi.mono hle24
 replace hr6:=hr6.mono Zc.mono hle24
 replace hv24:=hv24.mono Zi.mono Kn.less_le
 refine ⟨⟨(hle6.trans hle24),t1⟩,(ZaR 4 rfl hv24 Zi.mono om3 (fun B' hle'=>⟨(hle6.trans hle24).trans hle',t1⟩) (fun B25 hle25 hr25=>?_))⟩
 replace hu:=hu.mono Zc.mono hle25
 replace hf:=hf.mono Zb.mono hle25
 replace hi:=hi.mono Zi.mono hle25
 replace hr6:=hr6.mono Zc.mono hle25
 have hr25n:=hr25.len
 refine Zw 6 kr rfl kr (ZP (parts:=[]) [] rfl rfl Tryz.underlying31 Zcr ZfG rfl rfl rfl rfl rfl (fun b26=>?_))
 refine ⟨⟨((hle6.trans hle24).trans hle25),t1⟩,(aT 10 rfl (ZZ fun D B L hI=>ZaK (parts:=[(0,_),(1,_),(2,_),(3,_)]) [_,_,_,_,_] [_,_,_,_,_] rfl rfl Zgm Zbj rfl rfl rfl r4) (h:=Zav 12 kr rfl kr kr kr (ZT [_,_,_,_,_] 3 [_,_,_,_,_] rfl rfl ZbN rfl rfl rfl rfl rfl rfl rfl rfl ?_)))⟩
 exact ZaI ⟨⟨_,_,_,_,_⟩,⟨0,0,_,_,_,[]⟩⟩ [0,1,5,3] ⟨hr6,rfl,Zaa.lit0,hr25⟩ t4 rfl
 refine (ZP (parts:=[]) [] rfl rfl Tryz.underlying31 Zcr ZfG rfl rfl rfl rfl rfl (fun b27=>⟨⟨Kn.le.refl _,t1⟩,(Zan [5,11] kr kr kr ⟨?_,?_⟩)⟩))
 refine (ZbQ (R:=Zc) 2 rfl (Zaa.lit0 (R:=Zc)) rfl rfl rfl Zml Zmx rfl rfl rfl hu.rows Zc.one rfl om (fun l28 p28 c28 hv28=>?_))
 refine ⟨⟨Kn.le.refl _,t1⟩,(ZaR 2 rfl hv28 Zc.mono om3 (fun B' hle'=>⟨hle',t1⟩) (fun B29 hle29 hr29=>?_))⟩
 replace hu:=hu.mono Zc.mono hle29
 replace hf:=hf.mono Zb.mono hle29
 replace hi:=hi.mono Zi.mono hle29
 have hr29n:=hr29.len
 refine Zan [9,11] kr kr kr ⟨?_,?_⟩
 refine (ZF rfl rfl ZhZ rfl (Zas _ _ x.queue _ hi) ?_)
 rintro _ B30 _ hle30 ⟨l30,a30,c30,rfl,rfl,hv30⟩
 replace hu:=hu.mono Zc.mono hle30
 replace hf:=hf.mono Zb.mono hle30
 replace hi:=hi.mono Zi.mono hle30
 replace hr29:=hr29.mono Zc.mono hle30
 replace hv30:=hv30.mono Zi.mono Kn.less_le
 refine ⟨⟨(hle29.trans hle30),t1⟩,(ZaR 4 rfl hv30 Zi.mono om3 (fun B' hle'=>⟨(hle29.trans hle30).trans hle',t1⟩) (fun B31 hle31 hr31=>?_))⟩
 replace hu:=hu.mono Zc.mono hle31
 replace hf:=hf.mono Zb.mono hle31
 replace hi:=hi.mono Zi.mono hle31
 replace hr29:=hr29.mono Zc.mono hle31
 have hr31n:=hr31.len
 refine aT 10 rfl (ZZ fun D B L hI=>ZaK (parts:=[(0,_),(1,_),(2,_),(3,_)]) [_,_,_,_,_] [_,_,_,_,_] rfl rfl Zgm Zbj rfl rfl rfl r4) (h:=Zw 11 kr rfl kr (Zag (l:=[_,_,_,_,_]) rfl rfl Zbj rfl (fun b32=>?_)))
 refine ⟨⟨((hle29.trans hle30).trans hle31),t1⟩,(Zav 12 kr rfl kr kr kr (ZT [_,_,_,_,_] 5 [_,_,_,_,_] rfl rfl ZbN rfl rfl rfl rfl rfl rfl rfl rfl ?_))⟩
 exact ZaI ⟨⟨_,_,_,_,_⟩,⟨0,0,_,_,_,[]⟩⟩ [0,1,3,5] ⟨hr29,rfl,Zaa.lit0,hr31⟩ t4 rfl
 refine (Zag (l:=[_,_,_,_,_]) rfl rfl Zbj rfl (fun b33=>⟨⟨hle29,t1⟩,(Zw 9 kr rfl kr (ZF rfl rfl ZhZ rfl (Zas _ _ x.queue _ hi) ?_))⟩))
 rintro _ B34 _ hle34 ⟨l34,a34,c34,rfl,rfl,hv34⟩
 replace hu:=hu.mono Zc.mono hle34
 replace hf:=hf.mono Zb.mono hle34
 replace hi:=hi.mono Zi.mono hle34
 replace hr29:=hr29.mono Zc.mono hle34
 replace hv34:=hv34.mono Zi.mono Kn.less_le
 refine ⟨⟨(hle29.trans hle34),t1⟩,(ZaR 5 rfl hv34 Zi.mono om3 (fun B' hle'=>⟨(hle29.trans hle34).trans hle',t1⟩) (fun B35 hle35 hr35=>?_))⟩
 replace hu:=hu.mono Zc.mono hle35
 replace hf:=hf.mono Zb.mono hle35
 replace hi:=hi.mono Zi.mono hle35
 replace hr29:=hr29.mono Zc.mono hle35
 have hr35n:=hr35.len
 refine aT 10 rfl (ZZ fun D B L hI=>ZaK (parts:=[(0,_),(1,_),(2,_),(3,_)]) [_,_,_,_,_] [_,_,_,_,_] rfl rfl Zgm Zbj rfl rfl rfl r4) (h:=Zav 12 kr rfl kr kr kr (ZT [_,_,_,_,_] 4 [_,_,_,_,_] rfl rfl ZbN rfl rfl rfl rfl rfl rfl rfl rfl ?_))
 exact ZaI ⟨⟨_,_,_,_,_⟩,⟨0,0,_,_,_,[]⟩⟩ [0,1,3,4] ⟨hr29,rfl,Zaa.lit0,hr35⟩ t4 rfl
 refine (Zag (l:=[_,_,_,_,_]) rfl rfl Zbj rfl (fun b36=>⟨⟨Kn.le.refl _,t1⟩,(Zw 5 kr rfl kr (ZbQ (R:=Zc) 2 rfl (Zaa.lit0 (R:=Zc)) rfl rfl rfl Zml Zmx rfl rfl rfl hu.rows Zc.one rfl om (fun l37 p37 c37 hv37=>?_)))⟩))
 refine ⟨⟨Kn.le.refl _,t1⟩,(ZaR 2 rfl hv37 Zc.mono om3 (fun B' hle'=>⟨hle',t1⟩) (fun B38 hle38 hr38=>?_))⟩
 replace hu:=hu.mono Zc.mono hle38
 replace hf:=hf.mono Zb.mono hle38
 replace hi:=hi.mono Zi.mono hle38
 have hr38n:=hr38.len
 refine Zw 9 kr rfl kr (ZF rfl rfl ZhZ rfl (Zas _ _ x.queue _ hi) ?_)
 rintro _ B39 _ hle39 ⟨l39,a39,c39,rfl,rfl,hv39⟩
 replace hu:=hu.mono Zc.mono hle39
 replace hf:=hf.mono Zb.mono hle39
 replace hi:=hi.mono Zi.mono hle39
 replace hr38:=hr38.mono Zc.mono hle39
 replace hv39:=hv39.mono Zi.mono Kn.less_le
 refine ⟨⟨(hle38.trans hle39),t1⟩,(ZaR 5 rfl hv39 Zi.mono om3 (fun B' hle'=>⟨(hle38.trans hle39).trans hle',t1⟩) (fun B40 hle40 hr40=>?_))⟩
 replace hu:=hu.mono Zc.mono hle40
 replace hf:=hf.mono Zb.mono hle40
 replace hi:=hi.mono Zi.mono hle40
 replace hr38:=hr38.mono Zc.mono hle40
 have hr40n:=hr40.len
 refine aT 10 rfl (ZZ fun D B L hI=>ZaK (parts:=[(0,_),(1,_),(2,_),(3,_)]) [_,_,_,_,_] [_,_,_,_,_] rfl rfl Zgm Zbj rfl rfl rfl r4) (h:=Zav 12 kr rfl kr kr kr (ZT [_,_,_,_,_] 4 [_,_,_,_,_] rfl rfl ZbN rfl rfl rfl rfl rfl rfl rfl rfl ?_))
 exact ZaI ⟨⟨_,_,_,_,_⟩,⟨0,0,_,_,_,[]⟩⟩ [0,1,3,4] ⟨hr38,rfl,Zaa.lit0,hr40⟩ t4 rfl
 refine (Zag (l:=[_,_,_,_,_]) rfl rfl Zbj rfl (fun b41=>⟨⟨Kn.le.refl _,t1⟩,(Zan [5,6] kr kr kr ⟨?_,?_⟩)⟩))
 refine (ZbQ (R:=Zc) 2 rfl (Zaa.lit0 (R:=Zc)) rfl rfl rfl Zml Zmx rfl rfl rfl hu.rows Zc.one rfl om (fun l42 p42 c42 hv42=>?_))
 refine ⟨⟨Kn.le.refl _,t1⟩,(ZaR 2 rfl hv42 Zc.mono om3 (fun B' hle'=>⟨hle',t1⟩) (fun B43 hle43 hr43=>?_))⟩
 replace hu:=hu.mono Zc.mono hle43
 replace hf:=hf.mono Zb.mono hle43
 replace hi:=hi.mono Zi.mono hle43
 have hr43n:=hr43.len
 refine Zan [6,9] kr kr kr ⟨?_,?_⟩
 refine (ZP (parts:=[]) [] rfl rfl Tryz.underlying31 Zcr ZfG rfl rfl rfl rfl rfl (fun b44=>⟨⟨hle43,t1⟩,(Zw 9 kr rfl kr (ZF rfl rfl ZhZ rfl (Zas _ _ x.queue _ hi) ?_))⟩))
 rintro _ B45 _ hle45 ⟨l45,a45,c45,rfl,rfl,hv45⟩
 replace hu:=hu.mono Zc.mono hle45
 replace hf:=hf.mono Zb.mono hle45
 replace hi:=hi.mono Zi.mono hle45
 replace hr43:=hr43.mono Zc.mono hle45
 replace hv45:=hv45.mono Zi.mono Kn.less_le
 refine ⟨⟨(hle43.trans hle45),t1⟩,(ZaR 5 rfl hv45 Zi.mono om3 (fun B' hle'=>⟨(hle43.trans hle45).trans hle',t1⟩) (fun B46 hle46 hr46=>?_))⟩
 replace hu:=hu.mono Zc.mono hle46
 replace hf:=hf.mono Zb.mono hle46
 replace hi:=hi.mono Zi.mono hle46
 replace hr43:=hr43.mono Zc.mono hle46
 have hr46n:=hr46.len
 refine aT 10 rfl (ZZ fun D B L hI=>ZaK (parts:=[(0,_),(1,_),(2,_),(3,_)]) [_,_,_,_,_] [_,_,_,_,_] rfl rfl Zgm Zbj rfl rfl rfl r4) (h:=Zav 12 kr rfl kr kr kr (ZT [_,_,_,_,_] 3 [_,_,_,_,_] rfl rfl ZbN rfl rfl rfl rfl rfl rfl rfl rfl ?_))
 exact ZaI ⟨⟨_,_,_,_,_⟩,⟨0,0,_,_,_,[]⟩⟩ [0,1,4,3] ⟨hr43,rfl,Zaa.lit0,hr46⟩ t4 rfl
 refine (ZF rfl rfl ZhZ rfl (Zas _ _ x.queue _ hi) ?_)
 rintro _ B47 _ hle47 ⟨l47,a47,c47,rfl,rfl,hv47⟩
 replace hu:=hu.mono Zc.mono hle47
 replace hf:=hf.mono Zb.mono hle47
 replace hi:=hi.mono Zi.mono hle47
 replace hr43:=hr43.mono Zc.mono hle47
 replace hv47:=hv47.mono Zi.mono Kn.less_le
 refine ⟨⟨(hle43.trans hle47),t1⟩,(ZaR 4 rfl hv47 Zi.mono om3 (fun B' hle'=>⟨(hle43.trans hle47).trans hle',t1⟩) (fun B48 hle48 hr48=>?_))⟩
 replace hu:=hu.mono Zc.mono hle48
 replace hf:=hf.mono Zb.mono hle48
 replace hi:=hi.mono Zi.mono hle48
 replace hr43:=hr43.mono Zc.mono hle48
 have hr48n:=hr48.len
 refine Zw 6 kr rfl kr (ZP (parts:=[]) [] rfl rfl Tryz.underlying31 Zcr ZfG rfl rfl rfl rfl rfl (fun b49=>?_))
 refine ⟨⟨((hle43.trans hle47).trans hle48),t1⟩,(aT 10 rfl (ZZ fun D B L hI=>ZaK (parts:=[(0,_),(1,_),(2,_),(3,_)]) [_,_,_,_,_] [_,_,_,_,_] rfl rfl Zgm Zbj rfl rfl rfl r4) (h:=Zav 12 kr rfl kr kr kr (ZT [_,_,_,_,_] 3 [_,_,_,_,_] rfl rfl ZbN rfl rfl rfl rfl rfl rfl rfl rfl ?_)))⟩
 exact ZaI ⟨⟨_,_,_,_,_⟩,⟨0,0,_,_,_,[]⟩⟩ [0,1,5,3] ⟨hr43,rfl,Zaa.lit0,hr48⟩ t4 rfl
 refine (ZP (parts:=[]) [] rfl rfl Tryz.underlying31 Zcr ZfG rfl rfl rfl rfl rfl (fun b50=>⟨⟨Kn.le.refl _,t1⟩,(Zw 5 kr rfl kr (ZbQ (R:=Zc) 2 rfl (Zaa.lit0 (R:=Zc)) rfl rfl rfl Zml Zmx rfl rfl rfl hu.rows Zc.one rfl om (fun l51 p51 c51 hv51=>?_)))⟩))
 refine ⟨⟨Kn.le.refl _,t1⟩,(ZaR 2 rfl hv51 Zc.mono om3 (fun B' hle'=>⟨hle',t1⟩) (fun B52 hle52 hr52=>?_))⟩
 replace hu:=hu.mono Zc.mono hle52
 replace hf:=hf.mono Zb.mono hle52
 replace hi:=hi.mono Zi.mono hle52
 have hr52n:=hr52.len
 refine Zw 9 kr rfl kr (ZF rfl rfl ZhZ rfl (Zas _ _ x.queue _ hi) ?_)
 rintro _ B53 _ hle53 ⟨l53,a53,c53,rfl,rfl,hv53⟩
 replace hu:=hu.mono Zc.mono hle53
 replace hf:=hf.mono Zb.mono hle53
 replace hi:=hi.mono Zi.mono hle53
 replace hr52:=hr52.mono Zc.mono hle53
 replace hv53:=hv53.mono Zi.mono Kn.less_le
 refine ⟨⟨(hle52.trans hle53),t1⟩,(ZaR 5 rfl hv53 Zi.mono om3 (fun B' hle'=>⟨(hle52.trans hle53).trans hle',t1⟩) (fun B54 hle54 hr54=>?_))⟩
 replace hu:=hu.mono Zc.mono hle54
 replace hf:=hf.mono Zb.mono hle54
 replace hi:=hi.mono Zi.mono hle54
 replace hr52:=hr52.mono Zc.mono hle54
 have hr54n:=hr54.len
 refine aT 10 rfl (ZZ fun D B L hI=>ZaK (parts:=[(0,_),(1,_),(2,_),(3,_)]) [_,_,_,_,_] [_,_,_,_,_] rfl rfl Zgm Zbj rfl rfl rfl r4) (h:=Zav 12 kr rfl kr kr kr (ZT [_,_,_,_,_] 3 [_,_,_,_,_] rfl rfl ZbN rfl rfl rfl rfl rfl rfl rfl rfl ?_))
 exact ZaI ⟨⟨_,_,_,_,_⟩,⟨0,0,_,_,_,[]⟩⟩ [0,1,4,3] ⟨hr52,rfl,Zaa.lit0,hr54⟩ t4 rfl
 refine (ZP (parts:=[]) [] rfl rfl Tryz.underlying31 Zcr ZfG rfl rfl rfl rfl rfl (fun b55=>⟨⟨Kn.le.refl _,t1⟩,(Zan [2,11] kr kr kr ⟨?_,?_⟩)⟩))
 refine (ZP (parts:=[]) [] rfl rfl Tryz.underlying30 Zbs ZdF rfl rfl rfl rfl rfl (fun b56=>⟨⟨Kn.le.refl _,t1⟩,(Zan [5,11] kr kr kr ⟨?_,?_⟩)⟩))
 refine (ZbQ (R:=Zc) 3 rfl (Zaa.lit0 (R:=Zc)) rfl rfl rfl Zml Zmx rfl rfl rfl hu.rows Zc.one rfl om (fun l57 p57 c57 hv57=>?_))
 refine ⟨⟨Kn.le.refl _,t1⟩,(ZaR 3 rfl hv57 Zc.mono om3 (fun B' hle'=>⟨hle',t1⟩) (fun B58 hle58 hr58=>?_))⟩
 replace hu:=hu.mono Zc.mono hle58
 replace hf:=hf.mono Zb.mono hle58
 replace hi:=hi.mono Zi.mono hle58
 have hr58n:=hr58.len
 refine Zan [9,11] kr kr kr ⟨?_,?_⟩
 refine (ZF rfl rfl ZhZ rfl (Zas _ _ x.queue _ hi) ?_)
 rintro _ B59 _ hle59 ⟨l59,a59,c59,rfl,rfl,hv59⟩
 replace hu:=hu.mono Zc.mono hle59
 replace hf:=hf.mono Zb.mono hle59
 replace hi:=hi.mono Zi.mono hle59
 replace hr58:=hr58.mono Zc.mono hle59
 replace hv59:=hv59.mono Zi.mono Kn.less_le
 refine ⟨⟨(hle58.trans hle59),t1⟩,(ZaR 4 rfl hv59 Zi.mono om3 (fun B' hle'=>⟨(hle58.trans hle59).trans hle',t1⟩) (fun B60 hle60 hr60=>?_))⟩
 replace hu:=hu.mono Zc.mono hle60
 replace hf:=hf.mono Zb.mono hle60
 replace hi:=hi.mono Zi.mono hle60
 replace hr58:=hr58.mono Zc.mono hle60
 have hr60n:=hr60.len
 refine aT 10 rfl (ZZ fun D B L hI=>ZaK (parts:=[(0,_),(1,_),(2,_),(3,_)]) [_,_,_,_,_] [_,_,_,_,_] rfl rfl Zgm Zbj rfl rfl rfl r4) (h:=Zw 11 kr rfl kr (Zag (l:=[_,_,_,_,_]) rfl rfl Zbj rfl (fun b61=>?_)))
 refine ⟨⟨((hle58.trans hle59).trans hle60),t1⟩,(Zav 12 kr rfl kr kr kr (ZT [_,_,_,_,_] 5 [_,_,_,_,_] rfl rfl ZbN rfl rfl rfl rfl rfl rfl rfl rfl ?_))⟩
 exact ZaI ⟨⟨_,_,_,_,_⟩,⟨0,0,_,_,_,[]⟩⟩ [0,1,2,5] ⟨hr58,rfl,Zaa.lit0,hr60⟩ t4 rfl
 refine (Zag (l:=[_,_,_,_,_]) rfl rfl Zbj rfl (fun b62=>⟨⟨hle58,t1⟩,(Zw 9 kr rfl kr (ZF rfl rfl ZhZ rfl (Zas _ _ x.queue _ hi) ?_))⟩))
 rintro _ B63 _ hle63 ⟨l63,a63,c63,rfl,rfl,hv63⟩
 replace hu:=hu.mono Zc.mono hle63
 replace hf:=hf.mono Zb.mono hle63
 replace hi:=hi.mono Zi.mono hle63
 replace hr58:=hr58.mono Zc.mono hle63
 replace hv63:=hv63.mono Zi.mono Kn.less_le
 refine ⟨⟨(hle58.trans hle63),t1⟩,(ZaR 5 rfl hv63 Zi.mono om3 (fun B' hle'=>⟨(hle58.trans hle63).trans hle',t1⟩) (fun B64 hle64 hr64=>?_))⟩
 replace hu:=hu.mono Zc.mono hle64
 replace hf:=hf.mono Zb.mono hle64
 replace hi:=hi.mono Zi.mono hle64
 replace hr58:=hr58.mono Zc.mono hle64
 have hr64n:=hr64.len
 refine aT 10 rfl (ZZ fun D B L hI=>ZaK (parts:=[(0,_),(1,_),(2,_),(3,_)]) [_,_,_,_,_] [_,_,_,_,_] rfl rfl Zgm Zbj rfl rfl rfl r4) (h:=Zav 12 kr rfl kr kr kr (ZT [_,_,_,_,_] 4 [_,_,_,_,_] rfl rfl ZbN rfl rfl rfl rfl rfl rfl rfl rfl ?_))
 exact ZaI ⟨⟨_,_,_,_,_⟩,⟨0,0,_,_,_,[]⟩⟩ [0,1,2,4] ⟨hr58,rfl,Zaa.lit0,hr64⟩ t4 rfl
 refine (Zag (l:=[_,_,_,_,_]) rfl rfl Zbj rfl (fun b65=>⟨⟨Kn.le.refl _,t1⟩,(Zw 5 kr rfl kr (ZbQ (R:=Zc) 3 rfl (Zaa.lit0 (R:=Zc)) rfl rfl rfl Zml Zmx rfl rfl rfl hu.rows Zc.one rfl om (fun l66 p66 c66 hv66=>?_)))⟩))
 refine ⟨⟨Kn.le.refl _,t1⟩,(ZaR 3 rfl hv66 Zc.mono om3 (fun B' hle'=>⟨hle',t1⟩) (fun B67 hle67 hr67=>?_))⟩
 replace hu:=hu.mono Zc.mono hle67
 replace hf:=hf.mono Zb.mono hle67
 replace hi:=hi.mono Zi.mono hle67
 have hr67n:=hr67.len
 refine Zw 9 kr rfl kr (ZF rfl rfl ZhZ rfl (Zas _ _ x.queue _ hi) ?_)
 rintro _ B68 _ hle68 ⟨l68,a68,c68,rfl,rfl,hv68⟩
 replace hu:=hu.mono Zc.mono hle68
 replace hf:=hf.mono Zb.mono hle68
 replace hi:=hi.mono Zi.mono hle68
 replace hr67:=hr67.mono Zc.mono hle68
 replace hv68:=hv68.mono Zi.mono Kn.less_le
 refine ⟨⟨(hle67.trans hle68),t1⟩,(ZaR 5 rfl hv68 Zi.mono om3 (fun B' hle'=>⟨(hle67.trans hle68).trans hle',t1⟩) (fun B69 hle69 hr69=>?_))⟩
 replace hu:=hu.mono Zc.mono hle69
 replace hf:=hf.mono Zb.mono hle69
 replace hi:=hi.mono Zi.mono hle69
 replace hr67:=hr67.mono Zc.mono hle69
 have hr69n:=hr69.len
 refine aT 10 rfl (ZZ fun D B L hI=>ZaK (parts:=[(0,_),(1,_),(2,_),(3,_)]) [_,_,_,_,_] [_,_,_,_,_] rfl rfl Zgm Zbj rfl rfl rfl r4) (h:=Zav 12 kr rfl kr kr kr (ZT [_,_,_,_,_] 4 [_,_,_,_,_] rfl rfl ZbN rfl rfl rfl rfl rfl rfl rfl rfl ?_))
 exact ZaI ⟨⟨_,_,_,_,_⟩,⟨0,0,_,_,_,[]⟩⟩ [0,1,2,4] ⟨hr67,rfl,Zaa.lit0,hr69⟩ t4 rfl
 refine (Zag (l:=[_,_,_,_,_]) rfl rfl Zbj rfl (fun b70=>⟨⟨Kn.le.refl _,t1⟩,(Zw 2 kr rfl kr (ZP (parts:=[]) [] rfl rfl Tryz.underlying30 Zbs ZdF rfl rfl rfl rfl rfl (fun b71=>?_)))⟩))
 refine ⟨⟨Kn.le.refl _,t1⟩,(Zw 5 kr rfl kr (ZbQ (R:=Zc) 4 rfl (Zaa.lit0 (R:=Zc)) rfl rfl rfl Zml Zmx rfl rfl rfl hu.rows Zc.one rfl om (fun l72 p72 c72 hv72=>?_)))⟩
 refine ⟨⟨Kn.le.refl _,t1⟩,(ZaR 4 rfl hv72 Zc.mono om3 (fun B' hle'=>⟨hle',t1⟩) (fun B73 hle73 hr73=>?_))⟩
 replace hu:=hu.mono Zc.mono hle73
 replace hf:=hf.mono Zb.mono hle73
 replace hi:=hi.mono Zi.mono hle73
 have hr73n:=hr73.len
 refine Zw 9 kr rfl kr (ZF rfl rfl ZhZ rfl (Zas _ _ x.queue _ hi) ?_)
 rintro _ B74 _ hle74 ⟨l74,a74,c74,rfl,rfl,hv74⟩
 replace hu:=hu.mono Zc.mono hle74
 replace hf:=hf.mono Zb.mono hle74
 replace hi:=hi.mono Zi.mono hle74
 replace hr73:=hr73.mono Zc.mono hle74
 replace hv74:=hv74.mono Zi.mono Kn.less_le
 refine ⟨⟨(hle73.trans hle74),t1⟩,(ZaR 5 rfl hv74 Zi.mono om3 (fun B' hle'=>⟨(hle73.trans hle74).trans hle',t1⟩) (fun B75 hle75 hr75=>?_))⟩
 replace hu:=hu.mono Zc.mono hle75
 replace hf:=hf.mono Zb.mono hle75
 replace hi:=hi.mono Zi.mono hle75
 replace hr73:=hr73.mono Zc.mono hle75
 have hr75n:=hr75.len
 refine aT 10 rfl (ZZ fun D B L hI=>ZaK (parts:=[(0,_),(1,_),(2,_),(3,_)]) [_,_,_,_,_] [_,_,_,_,_] rfl rfl Zgm Zbj rfl rfl rfl r4) (h:=Zav 12 kr rfl kr kr kr (ZT [_,_,_,_,_] 3 [_,_,_,_,_] rfl rfl ZbN rfl rfl rfl rfl rfl rfl rfl rfl ?_))
 exact ZaI ⟨⟨_,_,_,_,_⟩,⟨0,0,_,_,_,[]⟩⟩ [0,1,2,3] ⟨hr73,rfl,Zaa.lit0,hr75⟩ t4 rfl
 refine (Zag (l:=[_,_,_,_,_]) rfl rfl Zbj rfl (fun b76=>⟨⟨Kn.le.refl _,t1⟩,(Zan [2,6] kr kr kr ⟨?_,?_⟩)⟩))
 refine (ZP (parts:=[]) [] rfl rfl Tryz.underlying30 Zbs ZdF rfl rfl rfl rfl rfl (fun b77=>⟨⟨Kn.le.refl _,t1⟩,(Zan [5,6] kr kr kr ⟨?_,?_⟩)⟩))
 refine (ZbQ (R:=Zc) 3 rfl (Zaa.lit0 (R:=Zc)) rfl rfl rfl Zml Zmx rfl rfl rfl hu.rows Zc.one rfl om (fun l78 p78 c78 hv78=>?_))
 refine ⟨⟨Kn.le.refl _,t1⟩,(ZaR 3 rfl hv78 Zc.mono om3 (fun B' hle'=>⟨hle',t1⟩) (fun B79 hle79 hr79=>?_))⟩
 replace hu:=hu.mono Zc.mono hle79
 replace hf:=hf.mono Zb.mono hle79
 replace hi:=hi.mono Zi.mono hle79
 have hr79n:=hr79.len
 refine Zan [6,9] kr kr kr ⟨?_,?_⟩
 refine (ZP (parts:=[]) [] rfl rfl Tryz.underlying31 Zcr ZfG rfl rfl rfl rfl rfl (fun b80=>⟨⟨hle79,t1⟩,(Zw 9 kr rfl kr (ZF rfl rfl ZhZ rfl (Zas _ _ x.queue _ hi) ?_))⟩))
 rintro _ B81 _ hle81 ⟨l81,a81,c81,rfl,rfl,hv81⟩
 replace hu:=hu.mono Zc.mono hle81
 replace hf:=hf.mono Zb.mono hle81
 replace hi:=hi.mono Zi.mono hle81
 replace hr79:=hr79.mono Zc.mono hle81
 replace hv81:=hv81.mono Zi.mono Kn.less_le
 refine ⟨⟨(hle79.trans hle81),t1⟩,(ZaR 5 rfl hv81 Zi.mono om3 (fun B' hle'=>⟨(hle79.trans hle81).trans hle',t1⟩) (fun B82 hle82 hr82=>?_))⟩
 replace hu:=hu.mono Zc.mono hle82
 replace hf:=hf.mono Zb.mono hle82
 replace hi:=hi.mono Zi.mono hle82
 replace hr79:=hr79.mono Zc.mono hle82
 have hr82n:=hr82.len
 refine aT 10 rfl (ZZ fun D B L hI=>ZaK (parts:=[(0,_),(1,_),(2,_),(3,_)]) [_,_,_,_,_] [_,_,_,_,_] rfl rfl Zgm Zbj rfl rfl rfl r4) (h:=Zav 12 kr rfl kr kr kr (ZT [_,_,_,_,_] 2 [_,_,_,_,_] rfl rfl ZbN rfl rfl rfl rfl rfl rfl rfl rfl ?_))
 exact ZaI ⟨⟨_,_,_,_,_⟩,⟨0,0,_,_,_,[]⟩⟩ [0,1,4,2] ⟨hr79,rfl,Zaa.lit0,hr82⟩ t4 rfl
 refine (ZF rfl rfl ZhZ rfl (Zas _ _ x.queue _ hi) ?_)
 rintro _ B83 _ hle83 ⟨l83,a83,c83,rfl,rfl,hv83⟩
 replace hu:=hu.mono Zc.mono hle83
 replace hf:=hf.mono Zb.mono hle83
 replace hi:=hi.mono Zi.mono hle83
 replace hr79:=hr79.mono Zc.mono hle83
 replace hv83:=hv83.mono Zi.mono Kn.less_le
 refine ⟨⟨(hle79.trans hle83),t1⟩,(ZaR 4 rfl hv83 Zi.mono om3 (fun B' hle'=>⟨(hle79.trans hle83).trans hle',t1⟩) (fun B84 hle84 hr84=>?_))⟩
 replace hu:=hu.mono Zc.mono hle84
 replace hf:=hf.mono Zb.mono hle84
 replace hi:=hi.mono Zi.mono hle84
 replace hr79:=hr79.mono Zc.mono hle84
 have hr84n:=hr84.len
 refine Zw 6 kr rfl kr (ZP (parts:=[]) [] rfl rfl Tryz.underlying31 Zcr ZfG rfl rfl rfl rfl rfl (fun b85=>?_))
 refine ⟨⟨((hle79.trans hle83).trans hle84),t1⟩,(aT 10 rfl (ZZ fun D B L hI=>ZaK (parts:=[(0,_),(1,_),(2,_),(3,_)]) [_,_,_,_,_] [_,_,_,_,_] rfl rfl Zgm Zbj rfl rfl rfl r4) (h:=Zav 12 kr rfl kr kr kr (ZT [_,_,_,_,_] 2 [_,_,_,_,_] rfl rfl ZbN rfl rfl rfl rfl rfl rfl rfl rfl ?_)))⟩
 exact ZaI ⟨⟨_,_,_,_,_⟩,⟨0,0,_,_,_,[]⟩⟩ [0,1,5,2] ⟨hr79,rfl,Zaa.lit0,hr84⟩ t4 rfl
 refine (ZP (parts:=[]) [] rfl rfl Tryz.underlying31 Zcr ZfG rfl rfl rfl rfl rfl (fun b86=>⟨⟨Kn.le.refl _,t1⟩,(Zw 5 kr rfl kr (ZbQ (R:=Zc) 3 rfl (Zaa.lit0 (R:=Zc)) rfl rfl rfl Zml Zmx rfl rfl rfl hu.rows Zc.one rfl om (fun l87 p87 c87 hv87=>?_)))⟩))
 refine ⟨⟨Kn.le.refl _,t1⟩,(ZaR 3 rfl hv87 Zc.mono om3 (fun B' hle'=>⟨hle',t1⟩) (fun B88 hle88 hr88=>?_))⟩
 replace hu:=hu.mono Zc.mono hle88
 replace hf:=hf.mono Zb.mono hle88
 replace hi:=hi.mono Zi.mono hle88
 have hr88n:=hr88.len
 refine Zw 9 kr rfl kr (ZF rfl rfl ZhZ rfl (Zas _ _ x.queue _ hi) ?_)
 rintro _ B89 _ hle89 ⟨l89,a89,c89,rfl,rfl,hv89⟩
 replace hu:=hu.mono Zc.mono hle89
 replace hf:=hf.mono Zb.mono hle89
 replace hi:=hi.mono Zi.mono hle89
 replace hr88:=hr88.mono Zc.mono hle89
 replace hv89:=hv89.mono Zi.mono Kn.less_le
 refine ⟨⟨(hle88.trans hle89),t1⟩,(ZaR 5 rfl hv89 Zi.mono om3 (fun B' hle'=>⟨(hle88.trans hle89).trans hle',t1⟩) (fun B90 hle90 hr90=>?_))⟩
 replace hu:=hu.mono Zc.mono hle90
 replace hf:=hf.mono Zb.mono hle90
 replace hi:=hi.mono Zi.mono hle90
 replace hr88:=hr88.mono Zc.mono hle90
 have hr90n:=hr90.len
 refine aT 10 rfl (ZZ fun D B L hI=>ZaK (parts:=[(0,_),(1,_),(2,_),(3,_)]) [_,_,_,_,_] [_,_,_,_,_] rfl rfl Zgm Zbj rfl rfl rfl r4) (h:=Zav 12 kr rfl kr kr kr (ZT [_,_,_,_,_] 2 [_,_,_,_,_] rfl rfl ZbN rfl rfl rfl rfl rfl rfl rfl rfl ?_))
 exact ZaI ⟨⟨_,_,_,_,_⟩,⟨0,0,_,_,_,[]⟩⟩ [0,1,4,2] ⟨hr88,rfl,Zaa.lit0,hr90⟩ t4 rfl
 refine (ZP (parts:=[]) [] rfl rfl Tryz.underlying31 Zcr ZfG rfl rfl rfl rfl rfl (fun b91=>⟨⟨Kn.le.refl _,t1⟩,(Zw 2 kr rfl kr (ZP (parts:=[]) [] rfl rfl Tryz.underlying30 Zbs ZdF rfl rfl rfl rfl rfl (fun b92=>?_)))⟩))
 refine ⟨⟨Kn.le.refl _,t1⟩,(Zw 5 kr rfl kr (ZbQ (R:=Zc) 4 rfl (Zaa.lit0 (R:=Zc)) rfl rfl rfl Zml Zmx rfl rfl rfl hu.rows Zc.one rfl om (fun l93 p93 c93 hv93=>?_)))⟩
 refine ⟨⟨Kn.le.refl _,t1⟩,(ZaR 4 rfl hv93 Zc.mono om3 (fun B' hle'=>⟨hle',t1⟩) (fun B94 hle94 hr94=>?_))⟩
 replace hu:=hu.mono Zc.mono hle94
 replace hf:=hf.mono Zb.mono hle94
 replace hi:=hi.mono Zi.mono hle94
 have hr94n:=hr94.len
 refine Zw 9 kr rfl kr (ZF rfl rfl ZhZ rfl (Zas _ _ x.queue _ hi) ?_)
 rintro _ B95 _ hle95 ⟨l95,a95,c95,rfl,rfl,hv95⟩
 replace hu:=hu.mono Zc.mono hle95
 replace hf:=hf.mono Zb.mono hle95
 replace hi:=hi.mono Zi.mono hle95
 replace hr94:=hr94.mono Zc.mono hle95
 replace hv95:=hv95.mono Zi.mono Kn.less_le
 refine ⟨⟨(hle94.trans hle95),t1⟩,(ZaR 5 rfl hv95 Zi.mono om3 (fun B' hle'=>⟨(hle94.trans hle95).trans hle',t1⟩) (fun B96 hle96 hr96=>?_))⟩
 replace hu:=hu.mono Zc.mono hle96
 replace hf:=hf.mono Zb.mono hle96
 replace hi:=hi.mono Zi.mono hle96
 replace hr94:=hr94.mono Zc.mono hle96
 have hr96n:=hr96.len
 refine aT 10 rfl (ZZ fun D B L hI=>ZaK (parts:=[(0,_),(1,_),(2,_),(3,_)]) [_,_,_,_,_] [_,_,_,_,_] rfl rfl Zgm Zbj rfl rfl rfl r4) (h:=Zav 12 kr rfl kr kr kr (ZT [_,_,_,_,_] 2 [_,_,_,_,_] rfl rfl ZbN rfl rfl rfl rfl rfl rfl rfl rfl ?_))
 exact ZaI ⟨⟨_,_,_,_,_⟩,⟨0,0,_,_,_,[]⟩⟩ [0,1,3,2] ⟨hr94,rfl,Zaa.lit0,hr96⟩ t4 rfl
 obtain ⟨hou,hoe,hv0,hoi⟩:=hF
 replace hu:=hu.mono Zc.mono hle3
 replace hf:=hf.mono Zb.mono hle3
 replace hi:=hi.mono Zi.mono hle3
 refine ZR [(0,_),(1,_),(2,_),(3,_)] [_,_,_,_] t4 rfl (Zh (Za (xA (h:=Zm (ZO (α:=Gh DFolder) [0,1,2,3] (fun g=>[(4,.int .i64 g.k)]) [2,3] (fun g=>[g.l,ZaE o.1.b [str x.domain,.slice o.1.q1 x.users.length o.1.c1,.slice g.a g.xs.length g.c,.int .i64 x.queue.next,.slice o.1.q3 x.queue.items.length o.1.c3] 36]) (fun g Bx=>g.k≤x.folders.length∧g.xs=x.folders.take g.k∧Zaa Bx g.l g.a g.c 75 5 Zb g.xs) (fun g=>x.folders.length - g.k) ⟨0,0,_,_,_,_⟩ t1 rfl (⟨Nat.zero_le _,by rw [hoe];rfl,hv0⟩) (fun g B97 hle97 hI=>?_))))))
 obtain ⟨hk,hxs,hv⟩:=hI
 have hxn:=congrArg List.length hxs
 rw [List.length_take] at hxn
 replace hu:=hu.mono Zc.mono hle97
 replace hf:=hf.mono Zb.mono hle97
 replace hi:=hi.mono Zi.mono hle97
 replace hou:=hou.mono Zc.mono hle97
 replace hoi:=hoi.mono Zi.mono hle97
 refine ZR [(0,_),(1,_),(2,_),(3,_),(4,_)] [_,_,_,_] t5 rfl (Zh (Za (xM (h:=xW Za5 (h:=x1 Zgf 0 (h:=xV Tryz.underlying31 (h:=ZM (h:=Ze rfl (fun g1=>?_) (fun g1=>?_)))))))))
 try simp only [sQ,ne_eq] at g1
 refine Zg (Zf (Zh (Zm (Zac (keeps _ [0,3] _) mo kr ⟨Kn.le.refl _,ZaM.refl _ _⟩ (fun _ _=>?_)))))
 refine aW 0 rfl Za5 (h:=aT 1 rfl (ZZ fun D B L hI=>Zx rfl rfl Zgf rfl (atL 3 (hI.2.2.1.trans rfl) rfl rfl) r4) (h:=aW 2 rfl Za5 (h:=aT 3 rfl (ZZ fun D B L hI=>Zx rfl rfl Zgf rfl (atL 0 (hI.2.1.trans rfl) rfl rfl) r4) (h:=aM 4 rfl (h:=?_)))))
 obtain ⟨w,hw⟩:=Zae (xs:=x.folders) (i:=g.k) om
 obtain ⟨bb99,oo99,rfl⟩:=hf.base hw
 obtain ⟨_,⟨qg100,cg100,qm100,cm100,rfl,hg100,hm100,hb100,hb100b⟩,hc100⟩:=hf.elem hw
 have hg100n:=hg100.len
 have hm100n:=hm100.len
 have hm100s:=ZaT hm100
 refine aIx 5 rfl Tryz.underlying31 Zcr (h:=aT 6 rfl (ZZ fun D B L hI=>ZV [_,_,_,_,_] rfl rfl ZhP rfl (ZjM (hc100.mono hI.1) 0 rfl rfl) r4) (h:=Zw 7 kr rfl kr (ZF rfl rfl Zwl rfl (Zkj _ _ _ _ w _ hg100 hm100) ?_)))
 rintro _ B101 _ hle101 ⟨rfl,l101,a101,c101,l101b,a101b,c101b,rfl,rfl,hs101,hs101b⟩
 refine ⟨⟨Kn.le.refl _,t2⟩,(ZaR 4 rfl hs101 Zah.mono om3 (fun B' hle'=>⟨hle',t2⟩) (fun B102 hle102 hr102=>?_))⟩
 replace hu:=hu.mono Zc.mono hle102
 replace hf:=hf.mono Zb.mono hle102
 replace hi:=hi.mono Zi.mono hle102
 replace hg100:=hg100.mono Zah.mono hle102
 replace hm100:=hm100.mono Zaw.mono hle102
 replace hc100:=hc100.mono hle102
 replace hv:=hv.mono Zb.mono hle102
 replace hou:=hou.mono Zc.mono hle102
 replace hoi:=hoi.mono Zi.mono hle102
 replace hs101b:=hs101b.mono Zaw.mono hle102
 have hr102n:=hr102.len
 refine ZaR 5 rfl hs101b Zaw.mono om3 (fun B' hle'=>⟨hle102.trans hle',t2⟩) (fun B103 hle103 hr103=>?_)
 replace hu:=hu.mono Zc.mono hle103
 replace hf:=hf.mono Zb.mono hle103
 replace hi:=hi.mono Zi.mono hle103
 replace hg100:=hg100.mono Zah.mono hle103
 replace hm100:=hm100.mono Zaw.mono hle103
 replace hc100:=hc100.mono hle103
 replace hr102:=hr102.mono Zah.mono hle103
 replace hv:=hv.mono Zb.mono hle103
 replace hou:=hou.mono Zc.mono hle103
 replace hoi:=hoi.mono Zi.mono hle103
 have hr103n:=hr103.len
 refine Zw 8 kr rfl kr (ZP (parts:=[(0,_)]) [_,_,_,_,_] rfl rfl Tryz.underlying31 Zcr ZfG rfl rfl rfl rfl rfl (fun b104=>?_))
 refine ⟨⟨(hle102.trans hle103),t2⟩,(Zw 9 kr rfl kr (ZkT (z:=⟨w.owner,w.name,w.grants,w.next,w.mail⟩) (R:=Zb) 2 rfl hv rfl rfl rfl ZtH ZvR rfl rfl (Zcm.box 6 rfl) rfl rfl (⟨_,_,_,_,rfl,hr102,hr103,by first | assumption | omega | (simp;done) | (simp;omega),by first | assumption | omega | (simp;done) | (simp;omega)⟩) om (fun l105 p105 c105 hv105=>?_)))⟩
 refine ⟨⟨(hle102.trans hle103),t2⟩,(aW 10 rfl Za5 (h:=Zav 11 kr rfl kr kr kr (ZT [_] 3 [_,_,_,_,_] rfl rfl ZvO rfl rfl rfl rfl rfl rfl rfl rfl ?_)))⟩
 refine Z7 (Zf (Zn (xM (h:=xD (h:=xA (h:=?_))))))
 exact ZU ⟨g.k+1,0,l105,p105,c105,(g.xs ++ [⟨w.owner,w.name,w.grants,w.next,w.mail⟩])⟩ [0,1,2,3] so2 ⟨so,by simp only [];rw [Zcq hw,hxs],hv105⟩ t5 rfl
 try simp only [sQ,ne_eq] at g1
 have hxe:g.xs=x.folders:=by rw [hxs];exact List.take_of_length_le oz
 refine ZS (Zaf (ZW (ZG (Zf (Za (xL [_,_,_,_,_] Zaz 3 (h:=xS [_,_,_,_,_] 1 [_,_,_,_,_] ZbN (h:=ZI [_,_,_,_] rfl (Zj ?_)))))))))
 exact Zbw .ret (.inl rfl) [_] [2] rfl ⟨⟨_,rfl,.inr ⟨[_,_,_,_,_],Zaz,Za9 1 rfl rfl rfl,rfl⟩⟩,trivial⟩ ⟨_,_,_,_,_,_,_,rfl,by rw [← hxe];rfl,hou,hxe ▸ hv,hoi⟩

set_option maxHeartbeats 400000 in
theorem Zc7 (q1 q2 q3:Option Addr) (c1 c2 c3:Nat) (x:DHost) (qx:Option Addr) (cx:Nat) (l:DLetter) (hd:x.domain.length≤2000000) (B:Kn) (hu:SlK B q1 c1 3 Zc x.users) (hf:SlK B q2 c2 5 Zb x.folders) (hi:SlK B q3 c3 4 Zi x.queue.items) (hx:SlK B qx cx 1 ZJ l.to_) (h1:l.fr.length≤2000000) (h2:l.text.length≤2000000):ZL (pj J) 16 [.agg #[str x.domain,.slice q1 x.users.length c1,.slice q2 x.folders.length c2,.int .i64 x.queue.next,.slice q3 x.queue.items.length c3],.agg #[str l.fr,.slice qx l.to_.length cx,str l.text]] B [] (fun v B' Ls=>Ls=[]∧∃p1 d1 p2 d2 p3 d3,v = .tuple #[.agg #[str (ZA x l).1.domain,.slice p1 (ZA x l).1.users.length d1,.slice p2 (ZA x l).1.folders.length d2,.int .i64 (ZA x l).1.queue.next,.slice p3 (ZA x l).1.queue.items.length d3],.int .i64 (ZA x l).2]∧SlK B' p1 d1 3 Zc (ZA x l).1.users∧SlK B' p2 d2 5 Zb (ZA x l).1.folders∧SlK B' p3 d3 4 Zi (ZA x l).1.queue.items∧(ZA x l).1.domain.length≤2000000):=by
 refine Zd 47 Tryz.func16 rfl rfl rfl (Nat.le_of_ble_eq_true rfl) ?_
 have hun:=hu.len
 have hfn:=hf.len
 have hin:=hi.len
 have hxn:=hx.len
 refine Za (xBx [_,_,_,_,_] (h:=fun b1=>xBx [_,_,_] (h:=fun b2=>xAl [_,_,_,_,_] Zbj (h:=fun b3=>xA (h:=ZI [_,_,_] rfl (Zh (Za (xL [_,_,_,_,_] Zaz 0 (h:=xR ZwQ rfl (ZlP _ _ _ _ _ _ x om2 _ hu hf hi) (h:=?_))))))))))
 refine xN (h:=xM (h:=ZC (d:=12) rfl (fun g1=>?_) (fun g1=>?_)))
 try simp only [sQ,ne_eq] at g1
 rw [ZA,if_pos (by simp [g1])]
 refine xP (h:=xP (h:=xP (h:=xT (h:=Ze (t:=true) rfl (fun _=>Za (xB [] [_,_,_,_,_] [_,_,_,_,_] Zgm Zbj (h:=xS [_,_,_,_,_] 2 [_,_,_,_,_] ZbN (h:=xA (h:=ZI [_,_,_] rfl (Zj (Zt ?_))))))) (fun h=>Bool.noConfusion h)))))
 exact Zbw .ret (.inl rfl) [_,_] [] rfl ⟨⟨_,rfl,.inr ⟨[_,_,_,_,_],Zaz,Za9 2 rfl rfl rfl,rfl⟩⟩,rfl,trivial⟩ ⟨rfl,none,0,none,0,none,0,rfl,SlK.nil,SlK.nil,SlK.nil,by simp [Zgc]⟩
 try simp only [sQ,ne_eq] at g1
 refine xL [_,_,_] ZhQ 1 (h:=xR Zuu rfl (Zed _ _ l _ hx oa oa) (h:=?_))
 refine xN (h:=xF (h:=Ze rfl (fun g2=>?_) (fun g2=>?_)))
 try simp only [sQ,ne_eq] at g2
 rw [ZA,if_pos (by simp [g2])]
 refine Za (xB [] [_,_,_,_,_] [_,_,_,_,_] Zgm Zbj (h:=xS [_,_,_,_,_] 2 [_,_,_,_,_] ZbN (h:=xA (h:=ZI [_,_,_] rfl (Zj (Zt ?_))))))
 exact Zbw .ret (.inl rfl) [_,_] [] rfl ⟨⟨_,rfl,.inr ⟨[_,_,_,_,_],Zaz,Za9 2 rfl rfl rfl,rfl⟩⟩,rfl,trivial⟩ ⟨rfl,none,0,none,0,none,0,rfl,SlK.nil,SlK.nil,SlK.nil,by simp [Zgc]⟩
 try simp only [sQ,ne_eq] at g2
 have hok:Za3 x=true:=by simpa using g1
 have hnn : ¬ ¬ (Za3 x=true∧ZaJ l=true):=fun h=>h ⟨hok,by simpa using g2⟩
 have hql:=Zct (Zln hok)
 have hal:=ZiI x.queue l
 refine Zg (Zf (Za (xL [_,_,_,_,_] Zaz 0 (h:=Zq (ZF rfl rfl ZwP rfl (ZnJ _ _ _ _ _ _ x _ hu hf hi) ?_)))))
 rintro _ B6 _ hle6 ⟨l6,a6,c6,q16,c16,q36,c36,rfl,rfl,hu6,hs6,hi6⟩
 replace hu:=hu.mono Zc.mono hle6
 replace hf:=hf.mono Zb.mono hle6
 replace hi:=hi.mono Zi.mono hle6
 replace hx:=hx.mono ZJ.mono hle6
 have hu6n:=hu6.len
 have hi6n:=hi6.len
 refine Zni 3 rfl hs6 Zb.mono om3 (fun B7 hle7 hr7=>?_)
 replace hu:=hu.mono Zc.mono hle7
 replace hf:=hf.mono Zb.mono hle7
 replace hi:=hi.mono Zi.mono hle7
 replace hx:=hx.mono ZJ.mono hle7
 replace hu6:=hu6.mono Zc.mono hle7
 replace hi6:=hi6.mono Zi.mono hle7
 have hr7n:=hr7.len
 refine xAl [_,_,_,_,_] Zbj (h:=fun b8=>xS [_,_,_,_,_] 4 [_,_,_,_,_] ZbN (h:=ZI [_,_,_,_,_] rfl (Zh (Za (xW ZbW (h:=x1 Zio 0 (h:=xW Zfz (h:=x1 lk9 1 (h:=xR ZtK rfl (Zfu _ _ _ _ _ hu) (h:=ZM (h:=xM (h:=ZC (d:=26) rfl (fun g3=>?_) (fun g3=>?_)))))))))))))
 try simp only [sQ,ne_eq] at g3
 rw [ZA,if_neg hnn,if_pos (.inl g3)]
 refine xP (h:=xP (h:=xP (h:=xP (h:=xP (h:=xT (h:=Ze (t:=true) rfl (fun _=>Za (xL [_,_,_,_,_] Zaz 4 (h:=xS [_,_,_,_,_] 2 [_,_,_,_,_] ZbN (h:=xA (h:=ZI [_,_,_,_,_] rfl (Zj (Zt ?_))))))) (fun h=>Bool.noConfusion h)))))))
 exact Zbw .ret (.inl rfl) [_,_] [] rfl ⟨⟨_,rfl,.inr ⟨[_,_,_,_,_],Zaz,Za9 2 rfl rfl rfl,rfl⟩⟩,rfl,trivial⟩ ⟨rfl,_,_,_,_,_,_,(by first | rfl | (simp only [DHost.withFolders,List.length_set];rfl)),hu6,hr7,hi6,by first | assumption | (rw [Zex.2.2.1];assumption)⟩
 try simp only [sQ,ne_eq] at g3
 refine xL [_,_,_,_,_] Zaz 0 (h:=xW Zeo (h:=x1 Zgs 1 (h:=xR Zv2 rfl (ZhR _ _ _ _ _ _ x _ _ l.to_ _ hu hx) (h:=xN (h:=xF (h:=Ze rfl (fun g4=>?_) (fun g4=>?_)))))))
 try simp only [sQ,ne_eq] at g4
 rw [ZA,if_neg hnn,if_pos (.inr g4)]
 refine Za (xL [_,_,_,_,_] Zaz 4 (h:=xS [_,_,_,_,_] 2 [_,_,_,_,_] ZbN (h:=xA (h:=ZI [_,_,_,_,_] rfl (Zj (Zt ?_))))))
 exact Zbw .ret (.inl rfl) [_,_] [] rfl ⟨⟨_,rfl,.inr ⟨[_,_,_,_,_],Zaz,Za9 2 rfl rfl rfl,rfl⟩⟩,rfl,trivial⟩ ⟨rfl,_,_,_,_,_,_,(by first | rfl | (simp only [DHost.withFolders,List.length_set];rfl)),hu6,hr7,hi6,by first | assumption | (rw [Zex.2.2.1];assumption)⟩
 try simp only [sQ,ne_eq] at g4
 have hn2 : ¬ (ZhT x.users l.fr<0∨Zeh x.users l.to_=false):=fun h=>h.elim oz (by simpa using g4)
 refine Zg (Zf (Za (xW Zb9 (h:=xL [_,_] Zdg 0 (h:=xL [_,_,_] ZhQ 1 (h:=Zq (ZF rfl rfl Zwz rfl (Zna _ _ x.queue _ _ l _ hi hx (by first | assumption | omega | (simp;omega)) (by first | assumption | omega | (simp;omega))) ?_)))))))
 rintro _ B11 _ hle11 ⟨l11,a11,c11,rfl,rfl,hv11⟩
 replace hu:=hu.mono Zc.mono hle11
 replace hf:=hf.mono Zb.mono hle11
 replace hi:=hi.mono Zi.mono hle11
 replace hx:=hx.mono ZJ.mono hle11
 replace hu6:=hu6.mono Zc.mono hle11
 replace hr7:=hr7.mono Zb.mono hle11
 replace hi6:=hi6.mono Zi.mono hle11
 replace hv11:=hv11.mono Zi.mono Kn.less_le
 refine xM (h:=xE (h:=Zni 5 rfl hv11 Zi.mono om3 (fun B12 hle12 hr12=>?_)))
 replace hu:=hu.mono Zc.mono hle12
 replace hf:=hf.mono Zb.mono hle12
 replace hi:=hi.mono Zi.mono hle12
 replace hx:=hx.mono ZJ.mono hle12
 replace hu6:=hu6.mono Zc.mono hle12
 replace hr7:=hr7.mono Zb.mono hle12
 replace hi6:=hi6.mono Zi.mono hle12
 have hr12n:=hr12.len
 refine xE (h:=xAl [_,_] Zhp (h:=fun b13=>xS [_,_] 6 [_,_] ZfM (h:=xA (h:=ZI [_,_,_,_,_,_,_] rfl (Zh (Za (xM (h:=xN (h:=Ze rfl (fun g5=>?_) (fun g5=>?_))))))))))
 try simp only [sQ,ne_eq] at g5
 rw [ZA,if_neg hnn,if_neg hn2,if_neg (by rw [g5];exact Bool.false_ne_true)]
 refine Za (xL [_,_,_,_,_] Zaz 4 (h:=xS [_,_,_,_,_] 2 [_,_,_,_,_] ZbN (h:=xA (h:=ZI [_,_,_,_,_,_,_] rfl (Zj (Zt ?_))))))
 exact Zbw .ret (.inl rfl) [_,_] [] rfl ⟨⟨_,rfl,.inr ⟨[_,_,_,_,_],Zaz,Za9 2 rfl rfl rfl,rfl⟩⟩,rfl,trivial⟩ ⟨rfl,_,_,_,_,_,_,(by first | rfl | (simp only [DHost.withFolders,List.length_set];rfl)),hu6,hr7,hi6,by first | assumption | (rw [Zex.2.2.1];assumption)⟩
 try simp only [sQ,ne_eq] at g5
 rw [ZA,if_neg hnn,if_neg hn2,if_pos (by simpa using g5)]
 refine Zg (Zf (Za (xL [_,_] Zdg 6 (h:=xW Zb9 (h:=xS [_,_] 4 [_,_,_,_,_] ZfM (h:=ZI [_,_,_,_,_,_,_] rfl (Za (xL [_,_,_,_,_] Zaz 4 (h:=xS [_,_,_,_,_] 2 [_,_,_,_,_] ZbN (h:=xA (h:=ZI [_,_,_,_,_,_,_] rfl (Zj ?_))))))))))))
 exact Zbw .ret (.inl rfl) [_,_] [] rfl ⟨⟨_,rfl,.inr ⟨[_,_,_,_,_],Zaz,Za9 2 rfl rfl rfl,rfl⟩⟩,rfl,trivial⟩ ⟨rfl,_,_,_,_,_,_,(by first | rfl | (simp only [DHost.withFolders,List.length_set];rfl)),hu6,hr7,hr12,by first | assumption | (rw [Zex.2.2.1];assumption)⟩

set_option maxHeartbeats 400000 in
theorem ZlJ (q:Option Addr) (cp:Nat) (x:DLetter) (h1:x.fr.length≤140737488355328) (h2:x.text.length≤140737488355328) (left:Int) (hl0:0≤left) (hl1:left≤1048576) (B:Kn) (hx:SlB B q cp 1 Zgj x.to_):Z8 (pj J) 15 [.agg #[str x.fr,.slice q x.to_.length cp,str x.text],.int .i64 left] B (.int .i64 (szI left (Zbx x))):=by
 refine Zd 26 Tryz.func15 rfl rfl rfl (Nat.le_of_ble_eq_true rfl) ?_
 have hxn:=hx.len
 refine Za (xBx [_,_,_] (h:=fun b1=>xA (h:=ZI [_] rfl (Za (xM (h:=xW Zqw (h:=x1 lk9 0 (h:=xVs Tryz.underlying9 (h:=xU (h:=xA (h:=Zh (Za ?_))))))))))))
 refine xM (h:=ZM (h:=Ze rfl (fun g1=>?_) (fun g1=>?_)))
 try simp only [sQ,ne_eq] at g1
 refine Za (xA (h:=Zj (Zt ?_)))
 exact ZK .ret (.inl rfl) [_] t1 ⟨ZX (by rw [Zbk (by unfold Zbx;omega)]),rfl,rfl⟩
 try simp only [sQ,ne_eq] at g1
 refine Zg (Zf (Za (xW Zqv (h:=x1 Zgs 0 (h:=xM (h:=?_))))))
 have hq2:=ZkZ (J:=J) _ _ x.to_ (left - ↑x.fr.length) om om _ hx
 refine xR Zv3 rfl hq2 (h:=xA (h:=Zh (Za (xM (h:=ZM (h:=Ze rfl (fun g2=>?_) (fun g2=>?_)))))))
 try simp only [sQ,ne_eq] at g2
 have g2x:=(ZbZ oz).1 g2
 refine Za (xA (h:=Zj (Zt ?_)))
 exact ZK .ret (.inl rfl) [_] t1 ⟨ZX (by rw [Zbk (by unfold Zbx ZbY;omega)]),rfl,rfl⟩
 try simp only [sQ,ne_eq] at g2
 have g2x:=ZbM oz g2
 refine Zg (Zf (Za (xM (h:=xW Zqu (h:=x1 lk9 0 (h:=xVs Tryz.underlying9 (h:=xU (h:=xA (h:=Zh (Za (xM (h:=ZM (h:=?_)))))))))))))
 refine Ze rfl (fun g3=>?_) (fun g3=>?_)
 try simp only [sQ,ne_eq] at g3
 refine Za (xA (h:=Zj (Zt ?_)))
 exact ZK .ret (.inl rfl) [_] t1 ⟨ZX (by (try dsimp only at *);rw [Zbk (by unfold Zbx ZbY;omega)]),rfl,rfl⟩
 try simp only [sQ,ne_eq] at g3
 refine Zg (Zf (Za (xM (h:=xA (h:=Zj ?_)))))
 exact ZK .ret (.inl rfl) [_] t1 ⟨ZX (by (try dsimp only at *);rw [ZiW (left:=left) (s:=Zbx x) (by unfold Zbx ZbY;omega)];unfold Zbx ZbY;omega),rfl,rfl⟩

set_option maxHeartbeats 400000 in
theorem Zad (q:Option Addr) (cp:Nat) (x:DLetter) (B:Kn) (hx:SlK B q cp 1 ZJ x.to_) (hl:ZbY x.to_≤1048576):ZL (pj J) 17 [.agg #[str x.fr,.slice q x.to_.length cp,str x.text]] B [] (fun v B' Ls=>∃q0 c0 l0,v = .agg #[str x.fr,.slice q0 x.to_.length c0,str x.text]∧B'=B∧Ls=[l0]∧Zaa Kn.none l0 q0 c0 9 1 ZJ x.to_):=by
 refine Zd 15 Tryz.func17 rfl rfl rfl (Nat.le_of_ble_eq_true rfl) ?_
 refine Za (xBx [_,_,_] (h:=fun b1=>xAl [_,_,_] Zp9 (h:=fun b2=>ZI [_,_] rfl (Za (xAl [_,_,_] Zp9 (h:=fun b3=>ZI [_,_,_] rfl (Za (xW Zqw (h:=x1 lk9 0 (h:=xW Zfz (h:=xS [_] 2 [_,_,_] sz9 (h:=ZI [_,_,_] rfl ?_))))))))))))
 refine Za (xW Zqv (h:=x1 Zgs 0 (h:=Zq (ZF rfl rfl Zv1 rfl (ZkX _ _ x.to_ om2 _ hx) ?_))))
 rintro _ B4 _ hle4 ⟨q4,c4,l4,rfl,rfl,rfl,hv4⟩
 refine xW Zeo (h:=xS [_] 2 [_,_,_] ZtC (h:=ZI [_,_,_,_] rfl (Za (xW Zqu (h:=x1 lk9 0 (h:=xW Zg9 (h:=xS [_] 2 [_,_,_] sz9 (h:=ZI [_,_,_,_] rfl (Za (xL [_,_,_] ZhQ 2 (h:=xS [_,_,_] 1 [_,_,_] Zsv (h:=ZI [_,_,_,_] rfl ?_))))))))))))
 refine Zj ?_
 exact Zbw .ret (.inl rfl) [_] [3] rfl ⟨⟨_,rfl,.inr ⟨[_,_,_],ZhQ,Za9 1 rfl rfl rfl,rfl⟩⟩,trivial⟩ ⟨_,_,_,rfl,rfl,rfl,hv4⟩

set_option maxHeartbeats 400000 in
theorem ZeF (q1:Option Addr) (cp1:Nat) (q2:Option Addr) (cp2:Nat) (a b:DLetter) (B:Kn) (h1:SlK B q1 cp1 1 ZJ a.to_) (h2:SlK B q2 cp2 1 ZJ b.to_):Z8 (pj J) 19 [.agg #[str a.fr,.slice q1 a.to_.length cp1,str a.text],.agg #[str b.fr,.slice q2 b.to_.length cp2,str b.text]] B (.bool (decide (a=b))):=by
 refine Zd 21 Tryz.func19 rfl rfl rfl (Nat.le_of_ble_eq_true rfl) ?_
 refine Za (xBx [_,_,_] (h:=fun b1=>xBx [_,_,_] (h:=fun b2=>xA (h:=ZI [_,_] rfl (Zh (Za (xW Zfz (h:=x1 lk9 0 (h:=xW Zfz (h:=x1 lk9 1 (h:=Zd1 (h:=Ze rfl (fun g1=>?_) (fun g1=>?_)))))))))))))
 try simp only [sQ,ne_eq] at g1
 refine Za (xA (h:=Zj (Zt ?_)))
 exact ZK .ret (.inl rfl) [_] t1 ⟨Zk (by symm;rw [decide_eq_false_iff_not];rintro rfl;exact g1 rfl),rfl,rfl⟩
 try simp only [sQ,ne_eq] at g1
 refine Zg (Zf (Zh (Za (xW Zeo (h:=x1 Zgs 0 (h:=xW Zeo (h:=x1 Zgs 1 (h:=xR Zv0 rfl (Zhe _ _ _ _ _ _ _ h1 h2) (h:=xN (h:=Ze rfl (fun g2=>?_) (fun g2=>?_)))))))))))
 try simp only [sQ,ne_eq] at g2
 refine Za (xA (h:=Zj (Zt ?_)))
 exact ZK .ret (.inl rfl) [_] t1 ⟨Zk (by symm;rw [decide_eq_false_iff_not];rintro rfl;exact g2 rfl),rfl,rfl⟩
 try simp only [sQ,ne_eq] at g2
 refine Zg (Zf (Zh (Za (xW Zg9 (h:=x1 lk9 0 (h:=xW Zg9 (h:=x1 lk9 1 (h:=Zd1 (h:=Ze rfl (fun g3=>?_) (fun g3=>?_))))))))))
 try simp only [sQ,ne_eq] at g3
 refine Za (xA (h:=Zj (Zt ?_)))
 exact ZK .ret (.inl rfl) [_] t1 ⟨Zk (by symm;rw [decide_eq_false_iff_not];rintro rfl;exact g3 rfl),rfl,rfl⟩
 try simp only [sQ,ne_eq] at g3
 refine Zg (Zf (Za (xA (h:=Zj ?_))))
 exact ZK .ret (.inl rfl) [_] t1 ⟨Zk (by symm;rw [decide_eq_true_eq];cases a;cases b;simp_all),rfl,rfl⟩

set_option maxHeartbeats 400000 in
theorem Zc9 (q1:Option Addr) (c1:Nat) (x:DLetter) (l1:Cells) (k:Nat) (hk:k≤850000000000000) (hn:x.to_.length≤2000000) (B:Kn) (hv:Zaa Kn.none l1 q1 c1 9 1 ZJ x.to_):ZL (pj J) 20 [.agg #[str x.fr,.slice q1 x.to_.length c1,str x.text],.int .i64 k] B [l1] (fun v B' Ls=>B'=B∧∃l',Ls=[l']∧v = .int .i64 ((k+1*x.to_.length:Nat):Int)∧Zaa Kn.none l' q1 c1 9 1 ZJ (ZcE k x.to_.length)):=by
 refine Zd 10 Tryz.func20 rfl rfl rfl (Nat.le_of_ble_eq_true rfl) ?_
 refine Za (xBx [_,_,_] (h:=fun b1=>xA (h:=ZI [_,_] rfl (Za (xW Zeo (h:=x1 Zgs 1 (h:=xM (h:=Zq (Zam [0] rfl rfl rfl rfl ZvZ rfl (Zfr _ _ x.to_ _ k oz oz _ (hv.anyK ZJ.any)) ?_)))))))))
 rintro _ B2 _ hle2 ⟨rfl,l2,rfl,rfl,hs2⟩
 refine xA (h:=ZI [_,_] rfl (Za (xM (h:=xA (h:=Zj ?_)))))
 exact Zbw .ret (.inl rfl) [_] [0] rfl t1 ⟨rfl,_,rfl,rfl,hs2.anyK ZJ.any⟩

set_option maxHeartbeats 400000 in
theorem Zku (q:Option Addr) (cp:Nat) (xs:List DMail) (k m n:Nat) (hmn:m=n) (he:xs=ZbO k n) (hk:k+3*n≤900000000000000) (B:Kn) (hx0:SlK B q cp 3 Zaw xs):Z8 (pj J) 113 [.slice q m cp,.int .i64 k] B (.int .i64 ((k+3*n:Nat):Int)):=by
 refine Zd 41 Tryz.func113 rfl rfl rfl (Nat.le_of_ble_eq_true rfl) ?_
 have hxn:=hx0.len
 have hxl:xs.length=n:=by rw [he];exact Zs _ _
 refine Za (xA (h:=Zh (Za (xA (h:=Zm (ZO (α:=Nat) [0] (fun g=>[(1,.int .i64 ((k+3*g:Nat):Int)),(5,.int .i64 g)]) [] (fun g=>[]) (fun g Bx=>Bx=B∧g≤n) (fun g=>n - g) 0 t2 rfl (⟨rfl,Nat.zero_le _⟩) (fun g B1 hle1 hI=>?_)))))))
 obtain ⟨rfl,hi⟩:=hI
 refine ZR [(0,_),(1,_),(5,_)] [] t3 rfl (Zh (Za (xM (h:=xM (h:=xV Tryz.underlying71 (h:=ZM (h:=Ze rfl (fun g1=>?_) (fun g1=>?_))))))))
 try simp only [sQ,ne_eq] at g1
 have hx:xs[g]? = some (⟨((k+3*g:Nat):Int),((k+3*g+1:Nat):Int),Z5 (k+3*g+1+1)⟩:DMail):=by rw [he];exact Zka oz
 refine Zg (Zf (Zh (Zm (Zh (Za (xM (h:=xM (h:=?_))))))))
 obtain ⟨bb2,oo2,rfl⟩:=hx0.base hx
 obtain ⟨_,⟨rfl,hb3⟩,hc3⟩:=hx0.elem hx
 refine xIx Tryz.underlying71 Zdf (h:=xW ZcA (h:=y1 lk3 hc3 0 (h:=xM (h:=Z4 (h:=Ze rfl (fun h1=>by simp at h1) (fun h1=>?_))))))
 try simp only [sQ,ne_eq] at h1
 refine Zg (Zf (Za (xM (h:=xD (h:=xA (h:=Zh (Za (xM (h:=xM (h:=xIx Tryz.underlying71 Zdf (h:=xW Ze7 (h:=y1 lk3 hc3 1 (h:=?_)))))))))))))
 refine xM (h:=Z4 (h:=Ze rfl (fun h2=>by simp at h2) (fun h2=>?_)))
 try simp only [sQ,ne_eq] at h2
 refine Zg (Zf (Za (xM (h:=xD (h:=xA (h:=Zh (Zh (Zac (same _ _) mo kr ⟨rfl,rfl⟩ (fun _ _=>?_)))))))))
 refine aM 0 rfl (h:=aM 1 rfl (h:=aIx 2 rfl Tryz.underlying71 Zdf (h:=aW 3 rfl ZdU (h:=aT 4 rfl (ZaA fun D=>Zx rfl rfl lk9 rfl (hc3 _ 2 _ rfl) r4) (h:=aM 5 rfl (h:=aT 6 rfl (ZaA fun D=>Zay rfl rfl Zd7 rfl (Zap (((k+3*g)+1)+1) oz _) r4) (h:=?_)))))))
 refine ZeS 7 rfl (h:=ZB kr kr ?_)
 refine Zf (Ze rfl (fun h3=>by simp at h3) (fun h3=>?_))
 try simp only [sQ,ne_eq] at h3
 refine Zg (Zf (Zn (xM (h:=xD (h:=xA (h:=Z7 (Zf (Zn (xM (h:=xD (h:=xA (h:=?_))))))))))))
 exact ZU (g+1) [] so2 ⟨rfl,oz⟩ t3 rfl
 try simp only [sQ,ne_eq] at g1
 refine ZS (Zaf (ZW (ZG (Zf (Za (xM (h:=xA (h:=Zj ?_))))))))
 exact ZK .ret (.inl rfl) [_] t1 ⟨ZX (by rw [show g=n from by omega]),rfl,rfl⟩

set_option maxHeartbeats 400000 in
theorem Zjn (q:Option Addr) (cp:Nat) (xs:List DGrant) (k m n:Nat) (hmn:m=n) (he:xs=ZaH k n) (hk:k+2*n≤900000000000000) (B:Kn) (hx0:SlK B q cp 2 Zah xs):Z8 (pj J) 112 [.slice q m cp,.int .i64 k] B (.int .i64 ((k+2*n:Nat):Int)):=by
 refine Zd 32 Tryz.func112 rfl rfl rfl (Nat.le_of_ble_eq_true rfl) ?_
 have hxn:=hx0.len
 have hxl:xs.length=n:=by rw [he];exact Zp _ _
 refine Za (xA (h:=Zh (Za (xA (h:=Zm (ZO (α:=Nat) [0] (fun g=>[(1,.int .i64 ((k+2*g:Nat):Int)),(5,.int .i64 g)]) [] (fun g=>[]) (fun g Bx=>Bx=B∧g≤n) (fun g=>n - g) 0 t2 rfl (⟨rfl,Nat.zero_le _⟩) (fun g B1 hle1 hI=>?_)))))))
 obtain ⟨rfl,hi⟩:=hI
 refine ZR [(0,_),(1,_),(5,_)] [] t3 rfl (Zh (Za (xM (h:=xM (h:=xV Tryz.underlying68 (h:=ZM (h:=Ze rfl (fun g1=>?_) (fun g1=>?_))))))))
 try simp only [sQ,ne_eq] at g1
 have hx:xs[g]? = some (⟨Z5 (k+2*g),((k+2*g+1:Nat):Int)⟩:DGrant):=by rw [he];exact Zjc oz
 refine Zg (Zf (Zh (Zm (Zh (Zh (Zac (same _ _) mo kr ⟨rfl,rfl⟩ (fun _ _=>?_)))))))
 refine aM 0 rfl (h:=aM 1 rfl (h:=?_))
 obtain ⟨bb2,oo2,rfl⟩:=hx0.base hx
 obtain ⟨_,⟨rfl,hb3⟩,hc3⟩:=hx0.elem hx
 refine aIx 2 rfl Tryz.underlying68 Zec (h:=aW 3 rfl ZcB (h:=aT 4 rfl (ZaA fun D=>Zx rfl rfl lk9 rfl (hc3 _ 0 _ rfl) r4) (h:=aM 5 rfl (h:=aT 6 rfl (ZaA fun D=>Zay rfl rfl Zd7 rfl (Zap (k+2*g) oz _) r4) (h:=?_)))))
 refine ZeS 7 rfl (h:=ZB kr kr ?_)
 refine Zf (Ze rfl (fun h1=>by simp at h1) (fun h1=>?_))
 try simp only [sQ,ne_eq] at h1
 refine Zg (Zf (Za (xM (h:=xD (h:=xA (h:=Zh (Za (xM (h:=xM (h:=xIx Tryz.underlying68 Zec (h:=xW ZdV (h:=y1 lk3 hc3 1 (h:=?_)))))))))))))
 refine xM (h:=Z4 (h:=Ze rfl (fun h2=>by simp at h2) (fun h2=>?_)))
 try simp only [sQ,ne_eq] at h2
 refine Zg (Zf (Zn (xM (h:=xD (h:=xA (h:=Z7 (Zf (Zn (xM (h:=xD (h:=xA (h:=?_))))))))))))
 exact ZU (g+1) [] so2 ⟨rfl,oz⟩ t3 rfl
 try simp only [sQ,ne_eq] at g1
 refine ZS (Zaf (ZW (ZG (Zf (Za (xM (h:=xA (h:=Zj ?_))))))))
 exact ZK .ret (.inl rfl) [_] t1 ⟨ZX (by rw [show g=n from by omega]),rfl,rfl⟩

set_option maxHeartbeats 400000 in
theorem Zks (q:Option Addr) (cp:Nat) (xs:List DUser) (k m n:Nat) (hmn:m=n) (he:xs=Zci k n) (hk:k+3*n≤900000000000000) (B:Kn) (hx0:SlK B q cp 3 Zc xs):Z8 (pj J) 52 [.slice q m cp,.int .i64 k] B (.int .i64 ((k+3*n:Nat):Int)):=by
 refine Zd 42 Tryz.func52 rfl rfl rfl (Nat.le_of_ble_eq_true rfl) ?_
 have hxn:=hx0.len
 have hxl:xs.length=n:=by rw [he];exact Zu _ _
 refine Za (xA (h:=Zh (Za (xA (h:=Zm (ZO (α:=Nat) [0] (fun g=>[(1,.int .i64 ((k+3*g:Nat):Int)),(5,.int .i64 g)]) [] (fun g=>[]) (fun g Bx=>Bx=B∧g≤n) (fun g=>n - g) 0 t2 rfl (⟨rfl,Nat.zero_le _⟩) (fun g B1 hle1 hI=>?_)))))))
 obtain ⟨rfl,hi⟩:=hI
 refine ZR [(0,_),(1,_),(5,_)] [] t3 rfl (Zh (Za (xM (h:=xM (h:=xV Tryz.underlying30 (h:=ZM (h:=Ze rfl (fun g1=>?_) (fun g1=>?_))))))))
 try simp only [sQ,ne_eq] at g1
 have hx:xs[g]? = some (⟨Z5 (k+3*g),Z5 (k+3*g+1),((k+3*g+1+1:Nat):Int)⟩:DUser):=by rw [he];exact Zj8 oz
 refine Zg (Zf (Zh (Zm (Zh (Zh (Zac (same _ _) mo kr ⟨rfl,rfl⟩ (fun _ _=>?_)))))))
 refine aM 0 rfl (h:=aM 1 rfl (h:=?_))
 obtain ⟨bb2,oo2,rfl⟩:=hx0.base hx
 obtain ⟨_,⟨rfl,hb3,hb3b⟩,hc3⟩:=hx0.elem hx
 refine aIx 2 rfl Tryz.underlying30 Zbs (h:=aW 3 rfl Zbe (h:=aT 4 rfl (ZaA fun D=>Zx rfl rfl lk9 rfl (hc3 _ 0 _ rfl) r4) (h:=aM 5 rfl (h:=aT 6 rfl (ZaA fun D=>Zay rfl rfl Zd7 rfl (Zap (k+3*g) oz _) r4) (h:=?_)))))
 refine ZeS 7 rfl (h:=ZB kr kr ?_)
 refine Zf (Ze rfl (fun h1=>by simp at h1) (fun h1=>?_))
 try simp only [sQ,ne_eq] at h1
 refine Zg (Zf (Za (xM (h:=xD (h:=xA (h:=Zh (Zh (Zac (same _ _) mo kr ⟨rfl,rfl⟩ (fun _ _=>?_)))))))))
 refine aM 0 rfl (h:=aM 1 rfl (h:=aIx 2 rfl Tryz.underlying30 Zbs (h:=aW 3 rfl Ze9 (h:=aT 4 rfl (ZaA fun D=>Zx rfl rfl lk9 rfl (hc3 _ 1 _ rfl) r4) (h:=aM 5 rfl (h:=aT 6 rfl (ZaA fun D=>Zay rfl rfl Zd7 rfl (Zap ((k+3*g)+1) oz _) r4) (h:=?_)))))))
 refine ZeS 7 rfl (h:=ZB kr kr ?_)
 refine Zf (Ze rfl (fun h2=>by simp at h2) (fun h2=>?_))
 try simp only [sQ,ne_eq] at h2
 refine Zg (Zf (Za (xM (h:=xD (h:=xA (h:=Zh (Za (xM (h:=xM (h:=xIx Tryz.underlying30 Zbs (h:=xW Zdi (h:=y1 lk3 hc3 2 (h:=?_)))))))))))))
 refine xM (h:=Z4 (h:=Ze rfl (fun h3=>by simp at h3) (fun h3=>?_)))
 try simp only [sQ,ne_eq] at h3
 refine Zg (Zf (Zn (xM (h:=xD (h:=xA (h:=Z7 (Zf (Zn (xM (h:=xD (h:=xA (h:=?_))))))))))))
 exact ZU (g+1) [] so2 ⟨rfl,oz⟩ t3 rfl
 try simp only [sQ,ne_eq] at g1
 refine ZS (Zaf (ZW (ZG (Zf (Za (xM (h:=xA (h:=Zj ?_))))))))
 exact ZK .ret (.inl rfl) [_] t1 ⟨ZX (by rw [show g=n from by omega]),rfl,rfl⟩

set_option maxHeartbeats 400000 in
theorem Zl9 (q:Option Addr) (cp:Nat) (xs:List Str) (k m n:Nat) (hmn:m=n) (he:xs=ZcE k n) (hk:k+1*n≤900000000000000) (B:Kn) (hx0:SlK B q cp 1 ZJ xs):Z8 (pj J) 163 [.slice q m cp,.int .i64 k] B (.int .i64 ((k+1*n:Nat):Int)):=by
 refine Zd 22 Tryz.func163 rfl rfl rfl (Nat.le_of_ble_eq_true rfl) ?_
 have hxn:=hx0.len
 have hxl:xs.length=n:=by rw [he];exact Zv _ _
 refine Za (xA (h:=Zh (Za (xA (h:=Zm (ZO (α:=Nat) [0] (fun g=>[(1,.int .i64 ((k+1*g:Nat):Int)),(5,.int .i64 g)]) [] (fun g=>[]) (fun g Bx=>Bx=B∧g≤n) (fun g=>n - g) 0 t2 rfl (⟨rfl,Nat.zero_le _⟩) (fun g B1 hle1 hI=>?_)))))))
 obtain ⟨rfl,hi⟩:=hI
 refine ZR [(0,_),(1,_),(5,_)] [] t3 rfl (Zh (Za (xM (h:=xM (h:=xV Tryz.underlying43 (h:=ZM (h:=Ze rfl (fun g1=>?_) (fun g1=>?_))))))))
 try simp only [sQ,ne_eq] at g1
 have hx:xs[g]? = some (Z5 (k+1*g):Str):=by rw [he];exact Zl0 oz
 refine Zg (Zf (Zh (Zm (Zh (Zh (Zac (same _ _) mo kr ⟨rfl,rfl⟩ (fun _ _=>?_)))))))
 refine aM 0 rfl (h:=aM 1 rfl (h:=?_))
 obtain ⟨bb2,oo2,rfl⟩:=hx0.base hx
 obtain ⟨_,⟨rfl,hb3⟩,hc3⟩:=hx0.elem hx
 refine aIx 2 rfl Tryz.underlying43 sz9 (h:=aT 3 rfl (ZaA fun D=>Zx rfl rfl lk9 rfl (hc3 _ 0 _ rfl) r4) (h:=aM 4 rfl (h:=aT 5 rfl (ZaA fun D=>Zay rfl rfl Zd7 rfl (Zap (k+1*g) oz _) r4) (h:=?_))))
 refine ZeS 6 rfl (h:=ZB kr kr ?_)
 refine Zf (Ze rfl (fun h1=>by simp at h1) (fun h1=>?_))
 try simp only [sQ,ne_eq] at h1
 refine Zg (Zf (Zn (xM (h:=xD (h:=xA (h:=Z7 (Zf (Zn (xM (h:=xD (h:=xA (h:=?_))))))))))))
 exact ZU (g+1) [] so2 ⟨rfl,oz⟩ t3 rfl
 try simp only [sQ,ne_eq] at g1
 refine ZS (Zaf (ZW (ZG (Zf (Za (xM (h:=xA (h:=Zj ?_))))))))
 exact ZK .ret (.inl rfl) [_] t1 ⟨ZX (by rw [show g=n from by omega]),rfl,rfl⟩

set_option maxHeartbeats 400000 in
theorem Zin (q:Option Addr) (cp:Nat) (xs:List DFolder) (l:Cells) (k:Nat) (hk:kL ZbD k xs≤800000000000000) (hn:xs.length≤2000000) (B:Kn) (hv:Zbb l q cp 75 5 (ZD 133 205) xs):ZL (pj J) 50 [.slice q xs.length cp,.int .i64 k] B [l] (fun v B' Ls=>B'=B∧∃l',Ls=[l']∧v = .int .i64 ((kL ZbD k xs:Nat):Int)∧Zbb l' q cp 75 5 (ZD 133 205) (mkL ZbD mkF k xs)):=by
 refine Zd 52 Tryz.func50 rfl rfl rfl (Nat.le_of_ble_eq_true rfl) ?_
 have hvc:=hv.cap
 refine Za ?_
 refine xA (h:=?_)
 refine Zh ?_
 refine Za ?_
 refine xA (h:=?_)
 refine Zm ?_
 refine ZO (α:=Nat × Nat × Cells × List DFolder) [4] (fun g=>[(0,.slice q xs.length cp),(1,.int .i64 ((g.2.1:Nat):Int)),(5,.int .i64 g.1)]) [0] (fun g=>[g.2.2.1]) (fun g Bx=>Bx=B∧g.1≤xs.length∧g.2.1=kL ZbD k (xs.take g.1)∧g.2.2.2.length=xs.length∧g.2.2.2.take g.1=mkL ZbD mkF k (xs.take g.1)∧g.2.2.2.drop g.1=xs.drop g.1∧Zbb g.2.2.1 q cp 75 5 (ZD 133 205) g.2.2.2) (fun g=>xs.length - g.1) (0,k,l,xs) t3 rfl (⟨rfl,Nat.zero_le _,Zll.symm,rfl,rfl,rfl,hv⟩) (fun g B1 hle1 hI=>?_)
 obtain ⟨rfl,hi,hs,hle,ht,hd,hw⟩:=hI
 refine ZR [(0,_),(1,_),(4,_),(5,_)] [_] t4 rfl ?_
 refine Zh ?_
 refine Za ?_
 refine xM (h:=?_)
 refine xM (h:=?_)
 refine xV Tryz.underlying31 (h:=?_)
 refine ZM (h:=?_)
 refine Ze rfl (fun g1=>?_) (fun g1=>?_)
 try simp only [sQ,ne_eq] at g1
 obtain ⟨x,hx⟩:=Zae (xs:=xs) (i:=g.1) oz
 have hy:=(Zlv hd).trans hx
 have hkl:=Nat.le_trans (Zpq (st:=ZbD) (k:=k) hx) hk
 rw [← hs] at hkl
 have hst:ZbD x=3+2*x.grants.length+3*x.mail.length:=rfl
 refine Zg ?_
 refine Zf ?_
 refine Zh ?_
 refine Zm ?_
 refine Za ?_
 refine xM (h:=?_)
 refine xM (h:=?_)
 refine xM (h:=?_)
 refine xR Zd7 rfl (Zap (g.2.1) oz _) (h:=?_)
 obtain ⟨bb3,_,li3,lr3,hp3,⟨qg3,cg3,qm3,cm3,ia3,ib3,rfl,rfl,hg3,hm3,ho3,hn3,hx3,hy3⟩,hw3,hq3,hc3,hk3⟩:=hw.cell (B:=B1) (L:=[g.2.2.1]) hy 0 rfl
 refine xIp hp3 Tryz.underlying31 Zcr (h:=?_)
 refine xW Zcv (h:=?_)
 refine Zq (ZhA (k:=g.1) (us:=[_]) ((⟨Z5 (g.2.1),x.name,x.grants,x.next,x.mail⟩:DFolder)) 0 0 rfl hw hp3 hy rfl rfl sz9 rfl rfl rfl rfl (Nat.le_of_ble_eq_true rfl) (by rintro _ _ ⟨_,_,_,_,_,_,rfl,rfl,h1,h2,h3,h4,h5,h6⟩;exact ⟨_,_,_,_,_,_,rfl,rfl,h1,h2,show (Z5 (g.2.1)).length≤2000000 from Nat.le_trans (Zb4 (k:=g.2.1) oz) (by decide),h4,h5,h6⟩) (fun l4 hv4=>?_))
 have hs4:=ZdN (z:=((⟨Z5 (g.2.1),x.name,x.grants,x.next,x.mail⟩:DFolder))) hy
 refine ZI [_] rfl ?_
 refine Za ?_
 refine xM (h:=?_)
 refine xD (h:=?_)
 refine xA (h:=?_)
 refine Za ?_
 refine xM (h:=?_)
 refine xM (h:=?_)
 refine xM (h:=?_)
 refine xR Zd7 rfl (Zap ((g.2.1)+1) oz _) (h:=?_)
 obtain ⟨bb6,_,li6,lr6,hp6,⟨qg6,cg6,qm6,cm6,ia6,ib6,rfl,rfl,hg6,hm6,ho6,hn6,hx6,hy6⟩,hw6,hq6,hc6,hk6⟩:=hv4.cell (B:=B1) (L:=[l4]) hs4 0 rfl
 refine xIp hp6 Tryz.underlying31 Zcr (h:=?_)
 refine xW Zdy (h:=?_)
 refine Zq (ZhA (k:=g.1) (us:=[_]) ((⟨Z5 (g.2.1),Z5 (g.2.1+1),x.grants,x.next,x.mail⟩:DFolder)) 1 0 rfl hv4 hp6 hs4 rfl rfl sz9 rfl rfl rfl rfl (Nat.le_of_ble_eq_true rfl) (by rintro _ _ ⟨_,_,_,_,_,_,rfl,rfl,h1,h2,h3,h4,h5,h6⟩;exact ⟨_,_,_,_,_,_,rfl,rfl,h1,h2,h3,show (Z5 (g.2.1+1)).length≤2000000 from Nat.le_trans (Zb4 (k:=g.2.1+1) oz) (by decide),h5,h6⟩) (fun l7 hv7=>?_))
 rw [List.set_set] at hv7
 have hs7:=ZdN (z:=((⟨Z5 (g.2.1),Z5 (g.2.1+1),x.grants,x.next,x.mail⟩:DFolder))) hy
 refine ZI [_] rfl ?_
 obtain ⟨bb8,_,li8,lr8,hp8,⟨qg8,cg8,qm8,cm8,ia8,ib8,rfl,rfl,hg8,hm8,ho8,hn8,hx8,hy8⟩,hw8,hq8,hc8,hk8⟩:=hv7.cell (B:=B1) (L:=[_]) hs7 0 rfl
 replace hc8:=fun m u h=>(hc8 m u h).perm (ZfQ 0 rfl (Zpa hq8))
 refine Zh9 0 rfl (Zpa hq8) ?_
 refine Za ?_
 refine xM (h:=?_)
 refine xD (h:=?_)
 refine xA (h:=?_)
 refine ZI [_,_,_] rfl ?_
 refine Za ?_
 refine xM (h:=?_)
 refine xM (h:=?_)
 refine xIp hp8 Tryz.underlying31 Zcr (h:=?_)
 refine xW Zen (h:=?_)
 refine Zq (Zx rfl rfl Zqr rfl (hc8 2 _ rfl) ?_)
 refine xM (h:=?_)
 refine Zq (Zam [1] rfl rfl rfl rfl ZvE rfl (Zje _ _ (((⟨Z5 (g.2.1),Z5 (g.2.1+1),x.grants,x.next,x.mail⟩:DFolder)).grants) _ (((g.2.1)+1)+1) oz oz _ (hg8.anyK Zah.any)) ?_)
 rintro _ B9 _ hle9 ⟨rfl,l9,rfl,rfl,hs9⟩
 refine xA (h:=?_)
 refine ZI [_,_,_] rfl ?_
 refine ZgC 0 2 rfl rfl (by decide) ?_
 refine ZgC 0 1 rfl rfl (by decide) ?_
 have hv10:=hk8 (⟨Z5 (g.2.1),Z5 (g.2.1+1),ZaH (g.2.1+1+1) x.grants.length,x.next,x.mail⟩:DFolder) _ ⟨qg8,cg8,qm8,cm8,_,_,by simp only [Zp,Zs],rfl,hs9.anyK Zah.any,hm8.anyK Zaw.any,ho8,hn8,by first | assumption | (rw [Zp];assumption),by first | assumption | (rw [Zs];assumption)⟩
 rw [List.append_assoc,List.set_set] at hv10
 have hs10:=ZdN (z:=((⟨Z5 (g.2.1),Z5 (g.2.1+1),ZaH (g.2.1+1+1) x.grants.length,x.next,x.mail⟩:DFolder))) hy
 refine ZmF [0] rfl ?_
 refine Za ?_
 refine xM (h:=?_)
 refine xM (h:=?_)
 refine xM (h:=?_)
 obtain ⟨bb11,_,li11,lr11,hp11,⟨qg11,cg11,qm11,cm11,ia11,ib11,rfl,rfl,hg11,hm11,ho11,hn11,hx11,hy11⟩,hw11,hq11,hc11,hk11⟩:=hv10.cell (B:=B9) (L:=[_]) hs10 0 rfl
 refine xIp hp11 Tryz.underlying31 Zcr (h:=?_)
 refine xW ZcX (h:=?_)
 refine xW Zfy (h:=?_)
 refine Zq (ZhA (k:=g.1) (us:=[_]) ((⟨Z5 (g.2.1),Z5 (g.2.1+1),ZaH (g.2.1+1+1) x.grants.length,((g.2.1+1+1+2*x.grants.length:Nat):Int),x.mail⟩:DFolder)) 3 0 rfl hv10 hp11 hs10 rfl rfl sz3 rfl rfl rfl rfl (Nat.le_of_ble_eq_true rfl) (by rintro _ _ ⟨_,_,_,_,_,_,rfl,rfl,h1,h2,h3,h4,h5,h6⟩;exact ⟨_,_,_,_,_,_,rfl,rfl,h1,h2,h3,h4,h5,h6⟩) (fun l12 hv12=>?_))
 rw [List.set_set] at hv12
 have hs12:=ZdN (z:=((⟨Z5 (g.2.1),Z5 (g.2.1+1),ZaH (g.2.1+1+1) x.grants.length,((g.2.1+1+1+2*x.grants.length:Nat):Int),x.mail⟩:DFolder))) hy
 refine ZI [_] rfl ?_
 obtain ⟨bb13,_,li13,lr13,hp13,⟨qg13,cg13,qm13,cm13,ia13,ib13,rfl,rfl,hg13,hm13,ho13,hn13,hx13,hy13⟩,hw13,hq13,hc13,hk13⟩:=hv12.cell (B:=B9) (L:=[_]) hs12 0 rfl
 replace hc13:=fun m u h=>(hc13 m u h).perm (ZfQ 0 rfl (Zpa hq13))
 refine Zh9 0 rfl (Zpa hq13) ?_
 refine Za ?_
 refine xM (h:=?_)
 refine xD (h:=?_)
 refine xA (h:=?_)
 refine ZI [_,_,_] rfl ?_
 refine Zn ?_
 refine xM (h:=?_)
 refine xM (h:=?_)
 refine xIp hp13 Tryz.underlying31 Zcr (h:=?_)
 refine xW ZcX (h:=?_)
 refine xW Zb8 (h:=?_)
 refine Zq (Zx rfl rfl ZjN rfl (hc13 4 _ rfl) ?_)
 refine xM (h:=?_)
 refine Zq (Zam [2] rfl rfl rfl rfl ZvD rfl (Zkf _ _ (((⟨Z5 (g.2.1),Z5 (g.2.1+1),ZaH (g.2.1+1+1) x.grants.length,((g.2.1+1+1+2*x.grants.length:Nat):Int),x.mail⟩:DFolder)).mail) _ (((((g.2.1)+1)+1)+2*(((⟨Z5 (g.2.1),Z5 (g.2.1+1),x.grants,x.next,x.mail⟩:DFolder)).grants).length)+1) oz oz _ (hm13.anyK Zaw.any)) ?_)
 rintro _ B14 _ hle14 ⟨rfl,l14,rfl,rfl,hs14⟩
 refine xA (h:=?_)
 refine Z7 (Zf ?_)
 refine ZgC 0 2 rfl rfl (by decide) ?_
 refine ZgC 0 1 rfl rfl (by decide) ?_
 have hv15:=hk13 (⟨Z5 (g.2.1),Z5 (g.2.1+1),ZaH (g.2.1+1+1) x.grants.length,((g.2.1+1+1+2*x.grants.length:Nat):Int),ZbO (g.2.1+1+1+2*x.grants.length+1) x.mail.length⟩:DFolder) _ ⟨qg13,cg13,qm13,cm13,_,_,by simp only [Zp,Zs],rfl,hg13.anyK Zah.any,hs14.anyK Zaw.any,ho13,hn13,by first | assumption | (rw [Zp];assumption),by first | assumption | (rw [Zs];assumption)⟩
 rw [List.append_assoc,List.set_set] at hv15
 have hs15:=ZdN (z:=((⟨Z5 (g.2.1),Z5 (g.2.1+1),ZaH (g.2.1+1+1) x.grants.length,((g.2.1+1+1+2*x.grants.length:Nat):Int),ZbO (g.2.1+1+1+2*x.grants.length+1) x.mail.length⟩:DFolder))) hy
 refine ZmF [0] rfl ?_
 refine Zn ?_
 refine xM (h:=?_)
 refine xD (h:=?_)
 refine xA (h:=?_)
 exact ZU (g.1+1,g.2.1+1+1+2*x.grants.length+1+3*x.mail.length,_,(g.2.2.2.set g.1 ((⟨Z5 (g.2.1),Z5 (g.2.1+1),ZaH (g.2.1+1+1) x.grants.length,((g.2.1+1+1+2*x.grants.length:Nat):Int),ZbO (g.2.1+1+1+2*x.grants.length+1) x.mail.length⟩:DFolder)))) [0] so2 ⟨rfl,so,by simp only [];rw [ZgW hx,← hs,hst];omega,ZkY hle,Zjb ht hx hle hs,Zlu hd,hv15⟩ t4 rfl
 try simp only [sQ,ne_eq] at g1
 have he:=ZnA ht hle oz
 have hgi:g.1=xs.length:=by omega
 refine ZS (Zaf (ZW (ZG (Zf ?_))))
 refine Za ?_
 refine xM (h:=?_)
 refine xA (h:=?_)
 refine Zj ?_
 exact Zbw .ret (.inl rfl) [_] [0] rfl t1 ⟨rfl,_,rfl,by rw [hs,Zlm oz];rfl,by rw [← he];exact hw⟩

set_option maxHeartbeats 400000 in
theorem Zkg (q:Option Addr) (cp:Nat) (xs:List DItem) (l:Cells) (k:Nat) (hk:kL Zby k xs≤800000000000000) (hn:xs.length≤2000000) (B:Kn) (hv:Zbb l q cp 126 4 (Z3 9) xs):ZL (pj J) 111 [.slice q xs.length cp,.int .i64 k] B [l] (fun v B' Ls=>B'=B∧∃l',Ls=[l']∧v = .int .i64 ((kL Zby k xs:Nat):Int)∧Zbb l' q cp 126 4 (Z3 9) (mkL Zby mkI k xs)):=by
 refine Zd 43 Tryz.func111 rfl rfl rfl (Nat.le_of_ble_eq_true rfl) ?_
 have hvc:=hv.cap
 refine Za ?_
 refine xA (h:=?_)
 refine Zh ?_
 refine Za ?_
 refine xA (h:=?_)
 refine Zm ?_
 refine ZO (α:=Nat × Nat × Cells × List DItem) [4] (fun g=>[(0,.slice q xs.length cp),(1,.int .i64 ((g.2.1:Nat):Int)),(5,.int .i64 g.1)]) [0] (fun g=>[g.2.2.1]) (fun g Bx=>Bx=B∧g.1≤xs.length∧g.2.1=kL Zby k (xs.take g.1)∧g.2.2.2.length=xs.length∧g.2.2.2.take g.1=mkL Zby mkI k (xs.take g.1)∧g.2.2.2.drop g.1=xs.drop g.1∧Zbb g.2.2.1 q cp 126 4 (Z3 9) g.2.2.2) (fun g=>xs.length - g.1) (0,k,l,xs) t3 rfl (⟨rfl,Nat.zero_le _,Zll.symm,rfl,rfl,rfl,hv⟩) (fun g B1 hle1 hI=>?_)
 obtain ⟨rfl,hi,hs,hle,ht,hd,hw⟩:=hI
 refine ZR [(0,_),(1,_),(4,_),(5,_)] [_] t4 rfl ?_
 refine Zh ?_
 refine Za ?_
 refine xM (h:=?_)
 refine xM (h:=?_)
 refine xV Tryz.underlying32 (h:=?_)
 refine ZM (h:=?_)
 refine Ze rfl (fun g1=>?_) (fun g1=>?_)
 try simp only [sQ,ne_eq] at g1
 obtain ⟨x,hx⟩:=Zae (xs:=xs) (i:=g.1) oz
 have hy:=(Zlv hd).trans hx
 have hkl:=Nat.le_trans (Zpq (st:=Zby) (k:=k) hx) hk
 rw [← hs] at hkl
 have hst:Zby x=3+x.left.length:=rfl
 refine Zg ?_
 refine Zf ?_
 refine Zh ?_
 refine Zm ?_
 refine Za ?_
 refine xM (h:=?_)
 refine xM (h:=?_)
 refine xM (h:=?_)
 obtain ⟨bb2,_,li2,lr2,hp2,⟨qg2,cg2,rfl,hg2,ho2,hn2,hx2⟩,hw2,hq2,hc2,hk2⟩:=hw.cell (B:=B1) (L:=[g.2.2.1]) hy 0 rfl
 refine xIp hp2 Tryz.underlying32 Zbl (h:=?_)
 refine xW ZdX (h:=?_)
 refine Zq (ZhA (k:=g.1) (us:=[_]) ((⟨((g.2.1:Nat):Int),x.fr,x.text,x.left⟩:DItem)) 0 0 rfl hw hp2 hy rfl rfl sz3 rfl rfl rfl rfl (Nat.le_of_ble_eq_true rfl) (by rintro _ _ ⟨_,_,rfl,h1,h2,h3,h4⟩;exact ⟨_,_,rfl,h1,h2,h3,h4⟩) (fun l3 hv3=>?_))
 have hs3:=ZdN (z:=((⟨((g.2.1:Nat):Int),x.fr,x.text,x.left⟩:DItem))) hy
 refine ZI [_] rfl ?_
 refine Za ?_
 refine xM (h:=?_)
 refine xD (h:=?_)
 refine xA (h:=?_)
 refine Za ?_
 refine xM (h:=?_)
 refine xM (h:=?_)
 refine xM (h:=?_)
 refine xR Zd7 rfl (Zap ((g.2.1)+1) oz _) (h:=?_)
 obtain ⟨bb5,_,li5,lr5,hp5,⟨qg5,cg5,rfl,hg5,ho5,hn5,hx5⟩,hw5,hq5,hc5,hk5⟩:=hv3.cell (B:=B1) (L:=[l3]) hs3 0 rfl
 refine xIp hp5 Tryz.underlying32 Zbl (h:=?_)
 refine xW ZdW (h:=?_)
 refine Zq (ZhA (k:=g.1) (us:=[_]) ((⟨((g.2.1:Nat):Int),Z5 (g.2.1+1),x.text,x.left⟩:DItem)) 1 0 rfl hv3 hp5 hs3 rfl rfl sz9 rfl rfl rfl rfl (Nat.le_of_ble_eq_true rfl) (by rintro _ _ ⟨_,_,rfl,h1,h2,h3,h4⟩;exact ⟨_,_,rfl,h1,show (Z5 (g.2.1+1)).length≤2000000 from Nat.le_trans (Zb4 (k:=g.2.1+1) oz) (by decide),h3,h4⟩) (fun l6 hv6=>?_))
 rw [List.set_set] at hv6
 have hs6:=ZdN (z:=((⟨((g.2.1:Nat):Int),Z5 (g.2.1+1),x.text,x.left⟩:DItem))) hy
 refine ZI [_] rfl ?_
 refine Za ?_
 refine xM (h:=?_)
 refine xD (h:=?_)
 refine xA (h:=?_)
 refine Za ?_
 refine xM (h:=?_)
 refine xM (h:=?_)
 refine xM (h:=?_)
 refine xR Zd7 rfl (Zap (((g.2.1)+1)+1) oz _) (h:=?_)
 obtain ⟨bb8,_,li8,lr8,hp8,⟨qg8,cg8,rfl,hg8,ho8,hn8,hx8⟩,hw8,hq8,hc8,hk8⟩:=hv6.cell (B:=B1) (L:=[l6]) hs6 0 rfl
 refine xIp hp8 Tryz.underlying32 Zbl (h:=?_)
 refine xW Ze8 (h:=?_)
 refine Zq (ZhA (k:=g.1) (us:=[_]) ((⟨((g.2.1:Nat):Int),Z5 (g.2.1+1),Z5 (g.2.1+1+1),x.left⟩:DItem)) 2 0 rfl hv6 hp8 hs6 rfl rfl sz9 rfl rfl rfl rfl (Nat.le_of_ble_eq_true rfl) (by rintro _ _ ⟨_,_,rfl,h1,h2,h3,h4⟩;exact ⟨_,_,rfl,h1,h2,show (Z5 (g.2.1+1+1)).length≤2000000 from Nat.le_trans (Zb4 (k:=g.2.1+1+1) oz) (by decide),h4⟩) (fun l9 hv9=>?_))
 rw [List.set_set] at hv9
 have hs9:=ZdN (z:=((⟨((g.2.1:Nat):Int),Z5 (g.2.1+1),Z5 (g.2.1+1+1),x.left⟩:DItem))) hy
 refine ZI [_] rfl ?_
 obtain ⟨bb10,_,li10,lr10,hp10,⟨qg10,cg10,rfl,hg10,ho10,hn10,hx10⟩,hw10,hq10,hc10,hk10⟩:=hv9.cell (B:=B1) (L:=[_]) hs9 0 rfl
 replace hc10:=fun m u h=>(hc10 m u h).perm (ZfQ 0 rfl (ZsL hq10))
 refine Zh9 0 rfl (ZsL hq10) ?_
 refine Za ?_
 refine xM (h:=?_)
 refine xD (h:=?_)
 refine xA (h:=?_)
 refine ZI [_,_] rfl ?_
 refine Zn ?_
 refine xM (h:=?_)
 refine xM (h:=?_)
 refine xIp hp10 Tryz.underlying32 Zbl (h:=?_)
 refine xW Zcj (h:=?_)
 refine Zq (Zx rfl rfl Zgs rfl (hc10 3 _ rfl) ?_)
 refine xM (h:=?_)
 refine Zq (Zam [1] rfl rfl rfl rfl ZvZ rfl (Zfr _ _ (((⟨((g.2.1:Nat):Int),Z5 (g.2.1+1),Z5 (g.2.1+1+1),x.left⟩:DItem)).left) _ ((((g.2.1)+1)+1)+1) oz oz _ (hg10.anyK ZJ.any)) ?_)
 rintro _ B11 _ hle11 ⟨rfl,l11,rfl,rfl,hs11⟩
 refine xA (h:=?_)
 refine Z7 (Zf ?_)
 refine ZgC 0 1 rfl rfl (by decide) ?_
 have hv12:=hk10 (⟨((g.2.1:Nat):Int),Z5 (g.2.1+1),Z5 (g.2.1+1+1),ZcE (g.2.1+1+1+1) x.left.length⟩:DItem) _ ⟨qg10,cg10,by simp only [Zv],hs11.anyK ZJ.any,ho10,hn10,by first | assumption | (rw [Zv];assumption)⟩
 rw [List.set_set] at hv12
 have hs12:=ZdN (z:=((⟨((g.2.1:Nat):Int),Z5 (g.2.1+1),Z5 (g.2.1+1+1),ZcE (g.2.1+1+1+1) x.left.length⟩:DItem))) hy
 refine ZmF [0] rfl ?_
 refine Zn ?_
 refine xM (h:=?_)
 refine xD (h:=?_)
 refine xA (h:=?_)
 exact ZU (g.1+1,g.2.1+1+1+1+1*x.left.length,_,(g.2.2.2.set g.1 ((⟨((g.2.1:Nat):Int),Z5 (g.2.1+1),Z5 (g.2.1+1+1),ZcE (g.2.1+1+1+1) x.left.length⟩:DItem)))) [0] so2 ⟨rfl,so,by simp only [];rw [ZgW hx,← hs,hst];omega,ZkY hle,Zjb ht hx hle hs,Zlu hd,hv12⟩ t4 rfl
 try simp only [sQ,ne_eq] at g1
 have he:=ZnA ht hle oz
 refine ZS (Zaf (ZW (ZG (Zf ?_))))
 refine Za ?_
 refine xM (h:=?_)
 refine xA (h:=?_)
 refine Zj ?_
 exact Zbw .ret (.inl rfl) [_] [0] rfl t1 ⟨rfl,_,rfl,by rw [hs,Zlm oz];rfl,by rw [← he];exact hw⟩

set_option maxHeartbeats 400000 in
theorem Zke (q1:Option Addr) (c1:Nat) (x:DQueue) (l1:Cells) (k:Nat) (hk:kL Zby k x.items≤800000000000000) (hn:x.items.length≤2000000) (B:Kn) (hv:Zbb l1 q1 c1 126 4 (Z3 9) x.items):ZL (pj J) 51 [.agg #[.int .i64 x.next,.slice q1 x.items.length c1],.int .i64 k] B [l1] (fun v B' Ls=>B'=B∧∃l',Ls=[l']∧v = .int .i64 ((kL Zby k x.items:Nat):Int)∧Zbb l' q1 c1 126 4 (Z3 9) (mkL Zby mkI k x.items)):=by
 refine Zd 10 Tryz.func51 rfl rfl rfl (Nat.le_of_ble_eq_true rfl) ?_
 refine Za (xBx [_,_] (h:=fun b1=>xA (h:=ZI [_,_] rfl (Za (xW Zba (h:=x1 Zgt 1 (h:=xM (h:=Zq (Zam [0] rfl rfl rfl rfl ZvC rfl (Zkg _ _ x.items _ k oa oz _ hv) ?_)))))))))
 rintro _ B2 _ hle2 ⟨rfl,l2,rfl,rfl,hs2⟩
 refine xA (h:=ZI [_,_] rfl (Za (xM (h:=xA (h:=Zj ?_)))))
 exact Zbw .ret (.inl rfl) [_] [0] rfl t1 ⟨rfl,_,rfl,rfl,hs2⟩

set_option maxHeartbeats 400000 in
theorem ZbT (q1 q2 q3:Option Addr) (c1 c2 c3:Nat) (x:DHost) (l1 l2 l3:Cells) (k:Nat) (hk:kH k x≤800000000000000) (hn1:x.users.length≤2000000) (hn2:x.folders.length≤2000000) (hn3:x.queue.items.length≤2000000) (B:Kn) (hu:Zaa Kn.none l1 q1 c1 123 3 Zc x.users) (hf:Zbb l2 q2 c2 75 5 (ZD 133 205) x.folders) (hi:Zbb l3 q3 c3 126 4 (Z3 9) x.queue.items):ZL (pj J) 13 [.agg #[str x.domain,.slice q1 x.users.length c1,.slice q2 x.folders.length c2,.int .i64 x.queue.next,.slice q3 x.queue.items.length c3],.int .i64 k] B [l1,l2,l3] (fun v B' Ls=>B'=B∧∃l1' l2' l3',Ls=[l1',l2',l3']∧v = .int .i64 ((kH k x:Nat):Int)∧Zaa Kn.none l1' q1 c1 123 3 Zc (Zci k x.users.length)∧Zbb l2' q2 c2 75 5 (ZD 133 205) (mkL ZbD mkF (k+3*x.users.length) x.folders)∧Zbb l3' q3 c3 126 4 (Z3 9) (mkL Zby mkI (kL ZbD (k+3*x.users.length) x.folders) x.queue.items)):=by
 refine Zd 18 Tryz.func13 rfl rfl rfl (Nat.le_of_ble_eq_true rfl) ?_
 have hk3:kL Zby (kL ZbD (k+3*x.users.length) x.folders) x.queue.items≤800000000000000:=hk
 have hk2:(kL ZbD (k+3*x.users.length) x.folders)≤800000000000000:=Nat.le_trans ZnN hk3
 have hk1:(k+3*x.users.length)≤800000000000000:=Nat.le_trans ZnN hk2
 refine Za (xBx [_,_,_,_,_] (h:=fun b1=>xA (h:=ZI [_,_,_,_] rfl (Za (xW ZbW (h:=x1 Zio 3 (h:=xM (h:=Zq (Zam [0] rfl rfl rfl rfl ZwF rfl (Zkd _ _ x.users _ k oz oz _ (hu.anyK Zc.any)) ?_)))))))))
 rintro _ B2 _ hle2 ⟨rfl,l2,rfl,rfl,hs2⟩
 refine xA (h:=ZI [_,_,_,_] rfl (Za (xW Za5 (h:=x1 Zgf 3 (h:=xM (h:=Zq (Zam [1] rfl rfl rfl rfl ZwE rfl (Zin _ _ x.folders _ (k+3*x.users.length) oa oz _ hf) ?_)))))))
 rintro _ B3 _ hle3 ⟨rfl,l3,rfl,rfl,hs3⟩
 refine xA (h:=ZI [_,_,_,_] rfl (Za (xW Zb9 (h:=xL [_,_] Zdg 3 (h:=xM (h:=Zq (Zam [2] rfl rfl rfl rfl ZwD rfl (Zke _ _ x.queue _ (kL ZbD (k+3*x.users.length) x.folders) oa oz _ hi) ?_)))))))
 rintro _ B4 _ hle4 ⟨rfl,l4a,rfl,rfl,hs4a⟩
 refine xA (h:=ZI [_,_,_,_] rfl (Za (xM (h:=xA (h:=Zj ?_)))))
 exact Zbw .ret (.inl rfl) [_] [0,1,2] rfl t1 ⟨rfl,_,_,_,rfl,rfl,hs2.anyK Zc.any,hs3,hs4a⟩

set_option maxHeartbeats 400000 in
theorem Ziw (q:Option Addr) (cp:Nat) (xs:List DFolder) (k m:Nat) (hmn:m=xs.length) (hk:kL ZbD k xs≤800000000000000) (B:Kn) (hx0:SlK B q cp 5 Zb (mkL ZbD mkF k xs)):Z8 (pj J) 53 [.slice q m cp,.int .i64 k] B (.int .i64 ((kL ZbD k xs:Nat):Int)):=by
 refine Zd 62 Tryz.func53 rfl rfl rfl (Nat.le_of_ble_eq_true rfl) ?_
 have hxn:=hx0.len
 have hml:=ZQ (st:=ZbD) (mk:=mkF) (xs:=xs) k
 refine Za (xA (h:=Zh (Za (xA (h:=Zm (ZO (α:=Nat × Nat) [0] (fun g=>[(1,.int .i64 g.2),(5,.int .i64 g.1)]) [] (fun g=>[]) (fun g Bx=>Bx=B∧g.1≤xs.length∧g.2=kL ZbD k (xs.take g.1)) (fun g=>xs.length - g.1) (0,k) t2 rfl (⟨rfl,Nat.zero_le _,Zll.symm⟩) (fun g B1 hle1 hI=>?_)))))))
 obtain ⟨rfl,hi,hs⟩:=hI
 refine ZR [(0,_),(1,_),(5,_)] [] t3 rfl (Zh (Za (xM (h:=xM (h:=xV Tryz.underlying31 (h:=ZM (h:=Ze rfl (fun g1=>?_) (fun g1=>?_))))))))
 try simp only [sQ,ne_eq] at g1
 obtain ⟨x,hx⟩:=Zae (xs:=xs) (i:=g.1) oz
 have hkl:=Nat.le_trans (Zpq (st:=ZbD) (k:=k) hx) hk
 rw [← hs] at hkl
 have hst:ZbD x=3+2*x.grants.length+3*x.mail.length:=rfl
 have hz:(mkL ZbD mkF k xs)[g.1]? = some (mkF g.2 x):=by rw [hs];exact Zkb k hx
 refine Zg (Zf (Zh (Zm (Zh (Zh (Zac (same _ _) mo kr ⟨rfl,rfl⟩ (fun _ _=>?_)))))))
 refine aM 0 rfl (h:=aM 1 rfl (h:=?_))
 obtain ⟨bb2,oo2,rfl⟩:=hx0.base hz
 obtain ⟨_,⟨qg3,cg3,qm3,cm3,rfl,hg3,hm3,hb3,hb3b⟩,hc3⟩:=hx0.elem hz
 have hg3n:=hg3.len
 have hm3n:=hm3.len
 have hm3s:=ZaT hm3
 refine aIx 2 rfl Tryz.underlying31 Zcr (h:=aW 3 rfl Zcv (h:=aT 4 rfl (ZaA fun D=>Zx rfl rfl lk9 rfl (hc3 _ 0 _ rfl) r4) (h:=aM 5 rfl (h:=aT 6 rfl (ZaA fun D=>Zay rfl rfl Zd7 rfl (Zap g.2 oz _) r4) (h:=?_)))))
 refine ZeS 7 rfl (h:=ZB kr kr ?_)
 refine Zf (Ze rfl (fun h1=>by simp [mkF] at h1) (fun h1=>?_))
 try simp only [sQ,ne_eq] at h1
 refine Zg (Zf (Za (xM (h:=xD (h:=xA (h:=Zh (Zh (Zac (same _ _) mo kr ⟨rfl,rfl⟩ (fun _ _=>?_)))))))))
 refine aM 0 rfl (h:=aM 1 rfl (h:=aIx 2 rfl Tryz.underlying31 Zcr (h:=aW 3 rfl Zdy (h:=aT 4 rfl (ZaA fun D=>Zx rfl rfl lk9 rfl (hc3 _ 1 _ rfl) r4) (h:=aM 5 rfl (h:=aT 6 rfl (ZaA fun D=>Zay rfl rfl Zd7 rfl (Zap (g.2+1) oz _) r4) (h:=?_)))))))
 refine ZeS 7 rfl (h:=ZB kr kr ?_)
 refine Zf (Ze rfl (fun h2=>by simp [mkF] at h2) (fun h2=>?_))
 try simp only [sQ,ne_eq] at h2
 refine Zg (Zf (Za (xM (h:=xD (h:=xA (h:=Za (xM (h:=xM (h:=xIx Tryz.underlying31 Zcr (h:=xW Zen (h:=y1 Zqr hc3 2 (h:=xM (h:=?_)))))))))))))
 refine xR ZvB rfl (Zjn _ _ _ ((g.2+1)+1) _ x.grants.length (by first | rfl | exact Zp _ _) rfl oz _ hg3) (h:=?_)
 refine xA (h:=Zh (Za (xM (h:=ZM (h:=Ze rfl (fun h3=>by first | omega | (simp at h3;done) | (simp at h3;omega)) (fun h3=>?_))))))
 try simp only [sQ,ne_eq] at h3
 refine Zg (Zf (Zh (Za (xM (h:=xM (h:=xIx Tryz.underlying31 Zcr (h:=xW ZcX (h:=xW Zfy (h:=y1 lk3 hc3 3 (h:=xM (h:=Z4 (h:=Ze rfl (fun h4=>by simp [mkF] at h4) (fun h4=>?_)))))))))))))
 try simp only [sQ,ne_eq] at h4
 refine Zg (Zf (Za (xM (h:=xD (h:=xA (h:=Za (xM (h:=xM (h:=xIx Tryz.underlying31 Zcr (h:=xW ZcX (h:=xW Zb8 (h:=y1 ZjN hc3 4 (h:=?_)))))))))))))
 refine xM (h:=xR ZvA rfl (Zku _ _ _ ((((g.2+1)+1)+2*x.grants.length)+1) _ x.mail.length (by first | rfl | exact Zs _ _) rfl oz _ hm3) (h:=?_))
 refine xA (h:=Za (xM (h:=ZM (h:=Ze rfl (fun h5=>by first | omega | (simp at h5;done) | (simp at h5;omega)) (fun h5=>?_)))))
 try simp only [sQ,ne_eq] at h5
 refine Zg (Z7 (Zf (Zn (xM (h:=xD (h:=xA (h:=?_)))))))
 exact ZU (g.1+1,g.2+1+1+2*x.grants.length+1+3*x.mail.length) [] so2 ⟨rfl,so,by simp only [];rw [ZgW hx,← hs,hst];omega⟩ t3 rfl
 try simp only [sQ,ne_eq] at g1
 refine ZS (Zaf (ZW (ZG (Zf (Za (xM (h:=xA (h:=Zj ?_))))))))
 exact ZK .ret (.inl rfl) [_] t1 ⟨ZX (by rw [hs,Zlm oz]),rfl,rfl⟩

set_option maxHeartbeats 400000 in
theorem Zkv (q:Option Addr) (cp:Nat) (xs:List DItem) (k m:Nat) (hmn:m=xs.length) (hk:kL Zby k xs≤800000000000000) (B:Kn) (hx0:SlK B q cp 4 Zi (mkL Zby mkI k xs)):Z8 (pj J) 114 [.slice q m cp,.int .i64 k] B (.int .i64 ((kL Zby k xs:Nat):Int)):=by
 refine Zd 51 Tryz.func114 rfl rfl rfl (Nat.le_of_ble_eq_true rfl) ?_
 have hxn:=hx0.len
 have hml:=ZQ (st:=Zby) (mk:=mkI) (xs:=xs) k
 refine Za (xA (h:=Zh (Za (xA (h:=Zm (ZO (α:=Nat × Nat) [0] (fun g=>[(1,.int .i64 g.2),(5,.int .i64 g.1)]) [] (fun g=>[]) (fun g Bx=>Bx=B∧g.1≤xs.length∧g.2=kL Zby k (xs.take g.1)) (fun g=>xs.length - g.1) (0,k) t2 rfl (⟨rfl,Nat.zero_le _,Zll.symm⟩) (fun g B1 hle1 hI=>?_)))))))
 obtain ⟨rfl,hi,hs⟩:=hI
 refine ZR [(0,_),(1,_),(5,_)] [] t3 rfl (Zh (Za (xM (h:=xM (h:=xV Tryz.underlying32 (h:=ZM (h:=Ze rfl (fun g1=>?_) (fun g1=>?_))))))))
 try simp only [sQ,ne_eq] at g1
 obtain ⟨x,hx⟩:=Zae (xs:=xs) (i:=g.1) oz
 have hkl:=Nat.le_trans (Zpq (st:=Zby) (k:=k) hx) hk
 rw [← hs] at hkl
 have hst:Zby x=3+x.left.length:=rfl
 have hz:(mkL Zby mkI k xs)[g.1]? = some (mkI g.2 x):=by rw [hs];exact Zkb k hx
 refine Zg (Zf (Zh (Zm (Zh (Za (xM (h:=xM (h:=?_))))))))
 obtain ⟨bb2,oo2,rfl⟩:=hx0.base hz
 obtain ⟨_,⟨qi3,ci3,rfl,hi3,hb3,hb3b⟩,hc3⟩:=hx0.elem hz
 have hi3n:=hi3.len
 refine xIx Tryz.underlying32 Zbl (h:=xW ZdX (h:=y1 lk3 hc3 0 (h:=xM (h:=Z4 (h:=Ze rfl (fun h1=>by simp [mkI] at h1) (fun h1=>?_))))))
 try simp only [sQ,ne_eq] at h1
 refine Zg (Zf (Za (xM (h:=xD (h:=xA (h:=Zh (Zh (Zac (same _ _) mo kr ⟨rfl,rfl⟩ (fun _ _=>?_)))))))))
 refine aM 0 rfl (h:=aM 1 rfl (h:=aIx 2 rfl Tryz.underlying32 Zbl (h:=aW 3 rfl ZdW (h:=aT 4 rfl (ZaA fun D=>Zx rfl rfl lk9 rfl (hc3 _ 1 _ rfl) r4) (h:=aM 5 rfl (h:=aT 6 rfl (ZaA fun D=>Zay rfl rfl Zd7 rfl (Zap (g.2+1) oz _) r4) (h:=?_)))))))
 refine ZeS 7 rfl (h:=ZB kr kr ?_)
 refine Zf (Ze rfl (fun h2=>by simp [mkI] at h2) (fun h2=>?_))
 try simp only [sQ,ne_eq] at h2
 refine Zg (Zf (Za (xM (h:=xD (h:=xA (h:=Zh (Zh (Zac (same _ _) mo kr ⟨rfl,rfl⟩ (fun _ _=>?_)))))))))
 refine aM 0 rfl (h:=aM 1 rfl (h:=aIx 2 rfl Tryz.underlying32 Zbl (h:=aW 3 rfl Ze8 (h:=aT 4 rfl (ZaA fun D=>Zx rfl rfl lk9 rfl (hc3 _ 2 _ rfl) r4) (h:=aM 5 rfl (h:=aT 6 rfl (ZaA fun D=>Zay rfl rfl Zd7 rfl (Zap ((g.2+1)+1) oz _) r4) (h:=?_)))))))
 refine ZeS 7 rfl (h:=ZB kr kr ?_)
 refine Zf (Ze rfl (fun h3=>by simp [mkI] at h3) (fun h3=>?_))
 try simp only [sQ,ne_eq] at h3
 refine Zg (Zf (Za (xM (h:=xD (h:=xA (h:=Za (xM (h:=xM (h:=xIx Tryz.underlying32 Zbl (h:=xW Zcj (h:=y1 Zgs hc3 3 (h:=xM (h:=?_)))))))))))))
 refine xR Zu4 rfl (Zl9 _ _ _ (((g.2+1)+1)+1) _ x.left.length (by first | rfl | exact Zv _ _) rfl oz _ hi3) (h:=?_)
 refine xA (h:=Za (xM (h:=ZM (h:=Ze rfl (fun h4=>by first | omega | (simp at h4;done) | (simp at h4;omega)) (fun h4=>?_)))))
 try simp only [sQ,ne_eq] at h4
 refine Zg (Z7 (Zf (Zn (xM (h:=xD (h:=xA (h:=?_)))))))
 exact ZU (g.1+1,g.2+1+1+1+1*x.left.length) [] so2 ⟨rfl,so,by simp only [];rw [ZgW hx,← hs,hst];omega⟩ t3 rfl
 try simp only [sQ,ne_eq] at g1
 refine ZS (Zaf (ZW (ZG (Zf (Za (xM (h:=xA (h:=Zj ?_))))))))
 exact ZK .ret (.inl rfl) [_] t1 ⟨ZX (by rw [hs,Zlm oz]),rfl,rfl⟩

set_option maxHeartbeats 400000 in
theorem Zkt (q:Option Addr) (cp:Nat) (x:DQueue) (k:Nat) (hk:kL Zby k x.items≤800000000000000) (B:Kn) (hi:SlK B q cp 4 Zi (mkL Zby mkI k x.items)):Z8 (pj J) 54 [.agg #[.int .i64 x.next,.slice q x.items.length cp],.int .i64 k] B (.int .i64 ((kL Zby k x.items:Nat):Int)):=by
 refine Zd 12 Tryz.func54 rfl rfl rfl (Nat.le_of_ble_eq_true rfl) ?_
 refine Za (xBx [_,_] (h:=fun b1=>xA (h:=ZI [_] rfl (Za (xW Zba (h:=x1 Zgt 0 (h:=xM (h:=xR Zvz rfl (Zkv _ _ x.items k _ rfl oa _ hi) (h:=?_)))))))))
 refine xA (h:=Zh (Za (xM (h:=ZM (h:=Ze rfl (fun h1=>by first | omega | (simp at h1;done) | (simp at h1;omega)) (fun h1=>?_))))))
 try simp only [sQ,ne_eq] at h1
 refine Zg (Zf (Za (xM (h:=xA (h:=Zj ?_)))))
 exact ZK .ret (.inl rfl) [_] t1 ⟨rfl,rfl,rfl⟩

set_option maxHeartbeats 400000 in
theorem Zaj (q1 q2 q3:Option Addr) (c1 c2 c3:Nat) (x:DHost) (k:Nat) (hk:kH k x≤800000000000000) (B:Kn) (hu:SlK B q1 c1 3 Zc (Zci k x.users.length)) (hf:SlK B q2 c2 5 Zb (mkL ZbD mkF (k+3*x.users.length) x.folders)) (hi:SlK B q3 c3 4 Zi (mkL Zby mkI (kL ZbD (k+3*x.users.length) x.folders) x.queue.items)):Z8 (pj J) 14 [.agg #[str x.domain,.slice q1 x.users.length c1,.slice q2 x.folders.length c2,.int .i64 x.queue.next,.slice q3 x.queue.items.length c3],.int .i64 k] B (.int .i64 ((kH k x:Nat):Int)):=by
 refine Zd 24 Tryz.func14 rfl rfl rfl (Nat.le_of_ble_eq_true rfl) ?_
 have hk3:kL Zby (kL ZbD (k+3*x.users.length) x.folders) x.queue.items≤800000000000000:=hk
 have hk2:(kL ZbD (k+3*x.users.length) x.folders)≤800000000000000:=Nat.le_trans ZnN hk3
 have hk1:(k+3*x.users.length)≤800000000000000:=Nat.le_trans ZnN hk2
 refine Za (xBx [_,_,_,_,_] (h:=fun b1=>xA (h:=ZI [_] rfl (Za (xW ZbW (h:=x1 Zio 0 (h:=xM (h:=xR ZwC rfl (Zks _ _ _ k _ x.users.length (by first | rfl | exact Zu _ _) rfl oz _ hu) (h:=?_)))))))))
 refine xA (h:=Zh (Za (xM (h:=ZM (h:=Ze rfl (fun h1=>by first | omega | (simp at h1;done) | (simp at h1;omega)) (fun h1=>?_))))))
 try simp only [sQ,ne_eq] at h1
 refine Zg (Zf (Za (xW Za5 (h:=x1 Zgf 0 (h:=xM (h:=xR ZwB rfl (Ziw _ _ x.folders (k+3*x.users.length) _ rfl oa _ hf) (h:=?_)))))))
 refine xA (h:=Zh (Za (xM (h:=ZM (h:=Ze rfl (fun h2=>by first | omega | (simp at h2;done) | (simp at h2;omega)) (fun h2=>?_))))))
 try simp only [sQ,ne_eq] at h2
 refine Zg (Zf (Za (xW Zb9 (h:=xL [_,_] Zdg 0 (h:=xM (h:=xR ZwA rfl (Zkt _ _ x.queue (kL ZbD (k+3*x.users.length) x.folders) oa _ hi) (h:=?_)))))))
 refine xA (h:=Zh (Za (xM (h:=ZM (h:=Ze rfl (fun h3=>by first | omega | (simp at h3;done) | (simp at h3;omega)) (fun h3=>?_))))))
 try simp only [sQ,ne_eq] at h3
 refine Zg (Zf (Za (xM (h:=xA (h:=Zj ?_)))))
 exact ZK .ret (.inl rfl) [_] t1 ⟨rfl,rfl,rfl⟩

theorem Zs9 (v:Value) (Q:Value→Kn→Cells→Prop) (B:Kn) (L:Cells):hb Tryz.prog (Extern.ReflectliteType.typeOf #[.iface 321 v]) Q B L=Q (.iface 218 (.agg #[.pointer (some ⟨5,321,none⟩)])) B L:=by kernel_rfl

theorem Zta (v:Value) (k:Nat) (Q:FuncId × Value→Kn→Cells→Prop) (B:Kn) (L:Cells):hb Tryz.prog (Go.method (k+1) 218 v "Comparable") Q B L=Q (273,v) B L:=by kernel_rfl

theorem Ztb (Q:Value→Kn→Cells→Prop) (B:Kn) (L:Cells):hb Tryz.prog ((Extern.ReflectliteType.method fun t=>do Extern.Rtype.noPackHeld "Comparable" t;pure (.bool (← typeInfo t).comparable)) #[(.agg #[.pointer (some ⟨5,321,none⟩)])]) Q B L=Q (.bool true) B L:=by kernel_rfl

theorem ZrJ:Extern.find Tryz.f273=some (Extern.ReflectliteType.method fun t=>do Extern.Rtype.noPackHeld "Comparable" t;pure (.bool (← typeInfo t).comparable)):=by kernel_rfl
theorem ZrI:Extern.find Tryz.f136=some Extern.ReflectliteType.typeOf:=by kernel_rfl

theorem Zum:Extern.findNext Tryz.f136=none:=by kernel_rfl
theorem Zun:Extern.findNext Tryz.f273=none:=by kernel_rfl

set_option maxHeartbeats 400000 in
theorem ZrG (c k:Nat) (hc:c<4) (hk:k<4) (a:Nat→Addr)  (B:Kn) (hE:ErrsB 321 [0,3,2,1] B a):Z8 (pj J) 137 [errv 321 a (c+1),errv 321 a (k+1),.bool true] B (.bool (decide (c+1=k+1))):=by
 refine Zd 54 Tryz.func137 rfl rfl rfl (Nat.le_of_ble_eq_true rfl) ?_
 refine Za (xA (h:=Zm (ZO (α:=Unit) [1,2] (fun u=>[(0,errv 321 a (c+1))]) [] (fun u=>[]) (fun u Bx=>Bx=B) (fun u=>0) () t1 rfl (rfl) (fun u B1 hle1 hI=>?_))))
 subst hI
 refine ZR [(0,_),(1,_),(2,_)] [] t3 rfl (Zm (Zh (Za (xM (h:=xM (h:=ZC (d:=15) rfl (fun g1=>?_) (fun g1=>by cases g1)))))))
 try simp only [sQ,ne_eq] at g1
 refine xM (h:=xM (h:=Zq (ZmK (a:=a) (c:=(c+1)) (k:=k) hE oz oz rfl rfl Tryz.underlying82 Tryz.underlying321 Zv4 Zsw rfl rfl ?_)))
 refine xT (h:=Ze rfl (fun g2=>?_) (fun g2=>?_))
 try simp only [sQ,ne_eq] at g2
 refine Za (xA (h:=Zj (Zt (ZN (Z2 (ZN ?_))))))
 exact ZK .ret (.inl rfl) [_] t1 ⟨Zk (decide_eq_true g2).symm,rfl,rfl⟩
 try simp only [sQ,ne_eq] at g2
 refine Zg (Zf (Zh (Za (xM (h:=Zq (ZgD rfl rfl Tryz.underlying220 kr ZtT rfl ?_))))))
 refine xM (h:=xE (h:=xE (h:=xA (h:=xA (h:=Za (xM (h:=xM (h:=ZC (d:=26) rfl (fun g3=>by cases g3) (fun g3=>?_)))))))))
 try simp only [sQ,ne_eq] at g3
 refine xP (h:=xP (h:=xP (h:=xF (h:=Ze (t:=false) rfl (fun h=>Bool.noConfusion h) (fun _=>Zg (Zf (Za (xM (h:=Zm (Za (Zq (ZgD rfl rfl Tryz.underlying223 kr ZtS rfl ?_))))))))))))
 refine xE (h:=xE (h:=Ze rfl (fun g5=>by cases g5) (fun g5=>?_)))
 try simp only [sQ,ne_eq] at g5
 refine Za (Zq (ZgD rfl rfl Tryz.underlying225 kr ZtR rfl ?_))
 refine xE (h:=xE (h:=Ze rfl (fun g6=>by cases g6) (fun g6=>?_)))
 try simp only [sQ,ne_eq] at g6
 refine Za (xA (h:=Za (xA (h:=Zj (ZN (ZN (Z2 (ZN ?_))))))))
 exact ZK .ret (.inl rfl) [_] t1 ⟨Zk (decide_eq_false g2).symm,rfl,rfl⟩

set_option maxHeartbeats 400000 in
theorem ZrF (c k:Nat) (hc:c<4) (hk:k<4) (a:Nat→Addr)  (B:Kn) (hE:ErrsB 321 [0,3,2,1] B a):Z8 (pj J) 81 [errv 321 a (c+1),errv 321 a (k+1)] B (.bool (decide (c+1=k+1))):=by
 refine Zd 22 Tryz.func81 rfl rfl rfl (Nat.le_of_ble_eq_true rfl) ?_
 refine Za (xA (h:=Zh (Za (xM (h:=Zq (ZkR (tE:=321) (a:=a) (c:=(c+1)) rfl rfl Tryz.underlying82 rfl (xM (h:=ZC (d:=8) rfl (fun g1=>by simp at g1) (fun g1=>?_)))))))))
 try simp only [sQ,ne_eq] at g1
 refine xM (h:=Zq (ZkR (tE:=321) (a:=a) (c:=(k+1)) rfl rfl Tryz.underlying82 rfl (xF (h:=Ze rfl (fun g2=>by simp at g2) (fun g2=>?_)))))
 try simp only [sQ,ne_eq] at g2
 refine Zg (Zf (Za (xM (h:=Zq (Zsm (fn:=Tryz.f136) rfl rfl Tryz.func136 rfl rfl Zum ZrI rfl (Zs9 _) (Zq (Zsj (f:=273) (fn:=Tryz.f273) rfl rfl Tryz.func273 rfl rfl Zun ZrJ rfl (Zta _) Ztb (xA (h:=Za (xM (h:=xM (h:=xM (h:=xR Zvp rfl (ZrG c k oz oz a _ hE) (h:=?_))))))))))))))
 refine xA (h:=Zj ?_)
 exact ZK .ret (.inl rfl) [_] t1 ⟨rfl,rfl,rfl⟩

set_option maxHeartbeats 400000 in
theorem ZrH (k:Nat) (hk:k<4) (a:Nat→Addr)  (B:Kn) (hE:ErrsB 321 [0,3,2,1] B a):Z8 (pj J) 81 [.nilIface,errv 321 a (k+1)] B (.bool (decide (0=k+1))):=by
 refine Zd 22 Tryz.func81 rfl rfl rfl (Nat.le_of_ble_eq_true rfl) ?_
 refine Za (xA (h:=Zh (Za (xM (h:=Zq (ZkR (tE:=321) (a:=a) (c:=0) rfl rfl Tryz.underlying82 rfl (xM (h:=ZC (d:=8) rfl (fun g1=>?_) (fun g1=>by simp at g1)))))))))
 try simp only [sQ,ne_eq] at g1
 refine xP (h:=xP (h:=xT (h:=Ze (t:=true) rfl (fun _=>Za (xM (h:=xM (h:=Zq (ZmK (a:=a) (c:=0) (k:=k) hE oz oz rfl rfl Tryz.underlying82 Tryz.underlying321 Zv4 Zsw rfl rfl ?_))))) (fun h=>Bool.noConfusion h))))
 refine xA (h:=Zj (Zt ?_))
 exact ZK .ret (.inl rfl) [_] t1 ⟨rfl,rfl,rfl⟩

theorem Zlt (c k:Nat) (hc:c<5) (hk:k<4) (a:Nat→Addr)  (B:Kn) (hE:ErrsB 321 [0,3,2,1] B a):Z8 (pj J) 81 [errv 321 a c,errv 321 a (k+1)] B (.bool (decide (c=k+1))):=by
 cases c with
 | zero=>exact ZrH k hk a B hE
 | succ c=>exact ZrF c k oz hk a B hE

set_option maxHeartbeats 400000 in
theorem Zl8 (c:Nat) (hc:c<5) (a:Nat→Addr)  (B:Kn) (hE:ErrsB 321 [0,3,2,1] B a):Z8 (pj J) 100 [errv 321 a (c)] B (.int .i64 c):=by
 refine Zd 22 Tryz.func100 rfl rfl rfl (Nat.le_of_ble_eq_true rfl) ?_
 refine Za (xA (h:=Zh (Zm (Za (xM (h:=Zq (ZkR (tE:=321) (a:=a) (c:=c) rfl rfl Tryz.underlying82 rfl (xA (h:=Ze rfl (fun g0=>?_) (fun g0=>?_))))))))))
 try simp only [sQ,ne_eq] at g0
 refine Za (xA (h:=Zj (ZN (Zt ?_))))
 exact ZK .ret (.inl rfl) [_] t1 ⟨ZX oz,rfl,rfl⟩
 try simp only [sQ,ne_eq] at g0
 refine Za (xM (h:=Zq (Zx rfl rfl Zqq rfl ((hE.row 0 (by decide)) _ 0 _ rfl) ?_)))
 refine xR ZtI rfl (Zlt c 0 om2 om2 a _ hE) (h:=?_)
 refine xA (h:=Ze rfl (fun g1=>?_) (fun g1=>?_))
 try simp only [sQ,ne_eq] at g1
 refine Za (xA (h:=Zj (ZN (Zt ?_))))
 exact ZK .ret (.inl rfl) [_] t1 ⟨ZX oz,rfl,rfl⟩
 try simp only [sQ,ne_eq] at g1
 refine Za (xM (h:=Zq (Zx rfl rfl Zqq rfl ((hE.row 1 (by decide)) _ 0 _ rfl) ?_)))
 refine xR ZtI rfl (Zlt c 1 om2 om2 a _ hE) (h:=?_)
 refine xA (h:=Ze rfl (fun g2=>?_) (fun g2=>?_))
 try simp only [sQ,ne_eq] at g2
 refine Za (xA (h:=Zj (ZN (Zt ?_))))
 exact ZK .ret (.inl rfl) [_] t1 ⟨ZX oz,rfl,rfl⟩
 try simp only [sQ,ne_eq] at g2
 refine Za (xM (h:=Zq (Zx rfl rfl Zqq rfl ((hE.row 2 (by decide)) _ 0 _ rfl) ?_)))
 refine xR ZtI rfl (Zlt c 2 om2 om2 a _ hE) (h:=?_)
 refine xA (h:=Ze rfl (fun g3=>?_) (fun g3=>?_))
 try simp only [sQ,ne_eq] at g3
 refine Za (xA (h:=Zj (ZN (Zt ?_))))
 exact ZK .ret (.inl rfl) [_] t1 ⟨ZX oz,rfl,rfl⟩
 try simp only [sQ,ne_eq] at g3
 refine Za (xM (h:=Zq (Zx rfl rfl Zqq rfl ((hE.row 3 (by decide)) _ 0 _ rfl) ?_)))
 refine xR ZtI rfl (Zlt c 3 om2 om2 a _ hE) (h:=?_)
 refine xA (h:=Ze rfl (fun g4=>?_) (fun g4=>?_))
 try simp only [sQ,ne_eq] at g4
 refine Za (xA (h:=Zj (ZN (Zt ?_))))
 exact ZK .ret (.inl rfl) [_] t1 ⟨ZX oz,rfl,rfl⟩
 try simp only [sQ,ne_eq] at g4
 refine Zg (Z7 (Zf (Za (xA (h:=Zj ?_)))))
 exact ZK .ret (.inl rfl) [_] t1 ⟨ZX oz,rfl,rfl⟩

set_option maxRecDepth 4000 in
set_option maxHeartbeats 400000 in
theorem Zg8 (q : Option Addr) (cp : Nat) (xs : List DFolder) (B : Kn) (hx : SlK B q cp 5 Zb xs) : ZL (pj J) 154 [.slice q xs.length cp] B [] (fun v B' Ls => B' = B ∧ ∃ l a c, Ls = [l] ∧ v = .slice a xs.length c ∧ Zbb l a c 75 5 (ZD 133 205) xs) := by
  refine Zd 22 Tryz.func154 rfl rfl rfl (Nat.le_of_ble_eq_true rfl) ?_
  have hxn := hx.len
  refine Za (xA (h:=Za (xM (h:=xV Tryz.underlying31 (h:=Zq (Zbt (m := 0) (c := xs.length) (by_ := 88) [.string ⟨#[]⟩, .string ⟨#[]⟩, .slice none 0 0, .int .i64 0, .slice none 0 0] rfl rfl ZtH ZfG rfl rfl ⟨_, _, rfl, by first | omega | (simp; done) | (simp; omega)⟩ ⟨_, _, rfl, by first | omega | (simp; done) | (simp; omega)⟩ (by first | omega | (simp; done) | (simp; omega)) (by first | omega | (simp; done) | (simp; omega)) (fun b1 => ?_)))))))
  have hd1 := Zbb.zeros (b := b1) (T := 75) (R := (ZD 133 205)) (d := (⟨[], [], [], 0, []⟩ : DFolder)) (m := 0) (c := xs.length) (zs := [.string ⟨#[]⟩, .string ⟨#[]⟩, .slice none 0 0, .int .i64 0, .slice none 0 0]) rfl (⟨_, _, _, _, [], [], rfl, rfl, Zaa.nil, Zaa.nil, by simp, by simp, by simp, by simp⟩) (by first | omega | (simp; done) | (simp; omega))
  refine xA (h:=ZI [_] rfl (Zh (Za (xM (h:=xV Tryz.underlying31 (h:=xM (h:=Zm (ZO (α := Gh DFolder) [0, 2, 9, 10] (fun g => [(3, .slice g.a g.xs.length g.c), (11, .int .i64 g.k)]) [0] (fun g => [g.l]) (fun g Bx => Bx = B ∧ g.k ≤ xs.length ∧ g.xs = xs.take g.k ∧ g.xs.length ≤ g.k ∧ Zbb g.l g.a g.c 75 5 (ZD 133 205) g.xs) (fun g => xs.length - g.k) ⟨0, 0, (ZaE b1 (zrow [.string ⟨#[]⟩, .string ⟨#[]⟩, .slice none 0 0, .int .i64 0, .slice none 0 0] xs.length) 75), (some ⟨b1, 0, none⟩), xs.length, []⟩ ⟨rfl, rfl, trivial⟩ rfl (⟨rfl, Nat.zero_le _, by simp, Nat.le_refl _, hd1⟩) (fun g B2 hle2 hI => ?_)))))))))
  obtain ⟨rfl, hk, hxs, hxl, hv⟩ := hI
  refine ZR [(0, _), (2, _), (3, _), (9, _), (10, _), (11, _)] [_] ⟨rfl, rfl, rfl, rfl, rfl, rfl, trivial⟩ rfl (Za (ZM (h:=Zh (Ze rfl (fun g1 => ?_) (fun g1 => ?_)))))
  try simp only [sQ, ne_eq] at g1
  refine Zg (Zf (Zh (Zm (Za ?_))))
  obtain ⟨w, hw⟩ := Zae (xs := xs) (i := g.k) (by first | omega | (simp; done) | (simp; omega))
  obtain ⟨bb4, oo4, rfl⟩ := hx.base hw
  obtain ⟨_, ⟨qg5, cg5, qm5, cm5, rfl, hg5, hm5, hb5, hb5b⟩, hc5⟩ := hx.elem hw
  have hg5n := hg5.len
  have hm5n := hm5.len
  have hm5s := ZaT hm5
  refine xIx Tryz.underlying31 Zcr (h:=yL [_, _, _, _, _] ZhP hc5 0 (h:=xAl [_, _, _, _, _] ZfG (h:=fun b6 => xS [_, _, _, _, _] 1 [_, _, _, _, _] Zcr (h:=ZI [_, _] rfl (Zn (xM (h:=xL [_, _, _, _, _] ZhP 1 (h:=Zq (ZF rfl rfl ZuL rfl (ZiB _ _ _ _ w _ hg5 hm5) ?_)))))))))
  rintro _ B7 _ hle7 ⟨rfl, l7, a7, c7, l7b, a7b, c7b, rfl, rfl, hs7, hs7b⟩
  refine xBs [(0, _)] [_, _, _, _, _] Tryz.underlying31 Zcr ZfG (h:=fun b8 => Zq (ZqR (R := (ZD 133 205)) (⟨w.owner, w.name, w.grants, w.next, w.mail⟩) 0 [2, 3] rfl rfl hv rfl rfl rfl ZtH ZvR rfl rfl (Zcm.box 4 rfl) rfl rfl (l7 ++ l7b) (by simp) (⟨_, _, _, _, _, _, rfl, rfl, (hs7.anyK Zah.any), (hs7b.anyK Zaw.any), by first | assumption | omega | (simp; done) | (simp; omega), by first | assumption | omega | (simp; done) | (simp; omega), by first | assumption | omega | (simp; done) | (simp; omega), by first | assumption | omega | (simp; done) | (simp; omega)⟩) (by first | omega | (simp; done) | (simp; omega)) (fun l9 p9 c9 hd9 => ?_)))
  refine xA (h:=Z7 (Zf (Zn (xD (h:=xM (h:=?_))))))
  exact ZU ⟨g.k + 1, 0, l9, p9, c9, (g.xs ++ [⟨w.owner, w.name, w.grants, w.next, w.mail⟩])⟩ [0] (by first | omega | (simp only []; omega)) ⟨rfl, by simp only []; omega, by simp only []; rw [Zcq hw, hxs], by simp; omega, hd9⟩ ⟨rfl, rfl, rfl, rfl, rfl, rfl, trivial⟩ rfl
  try simp only [sQ, ne_eq] at g1
  have hxe : g.xs = xs := by rw [hxs]; exact List.take_of_length_le (by omega)
  refine ZS (Zaf (ZW (ZG (Zf (Za (xM (h:=xA (h:=Zj ?_))))))))
  exact Zbw .ret (.inl rfl) [_] [0] rfl ⟨rfl, trivial⟩ ⟨rfl, _, _, _, rfl, by rw [← hxe]; rfl, hxe ▸ hv⟩

set_option maxHeartbeats 400000 in
theorem Zjm (q1 q2 q3:Option Addr) (c1 c2 c3:Nat) (x:DHost) (B:Kn) (hu:SlK B q1 c1 3 Zc x.users) (hf:SlK B q2 c2 5 Zb x.folders) (hi:SlK B q3 c3 4 Zi x.queue.items):ZL (pj J) 99 [.agg #[str x.domain,.slice q1 x.users.length c1,.slice q2 x.folders.length c2,.int .i64 x.queue.next,.slice q3 x.queue.items.length c3]] B [] (fun v B' Ls=>∃q1 c1 q2 c2 q3 c3 l1 l2 l3,Ls=[l1,l2,l3]∧v = .agg #[str x.domain,.slice q1 x.users.length c1,.slice q2 x.folders.length c2,.int .i64 x.queue.next,.slice q3 x.queue.items.length c3]∧Zaa Kn.none l1 q1 c1 123 3 Zc x.users∧Zbb l2 q2 c2 75 5 (ZD 133 205) x.folders∧Zbb l3 q3 c3 126 4 (Z3 9) x.queue.items):=by
 refine Zd 16 Tryz.func99 rfl rfl rfl (Nat.le_of_ble_eq_true rfl) ?_
 have hun:=hu.len
 have hfn:=hf.len
 have hin:=hi.len
 refine Za (xBx [_,_,_,_,_] (h:=fun b1=>xAl [_,_,_,_,_] Zbj (h:=fun b2=>ZI [_,_] rfl (Zh (Zac (keeps _ [0] _) mo kr ⟨Kn.le.refl _,ZaM.refl _ _⟩ (fun _ _=>?_))))))
 refine aW 0 rfl Zha (h:=aT 1 rfl (ZZ fun D B L hI=>Zx rfl rfl lk9 rfl (atL 0 (hI.2.1.trans rfl) rfl rfl) r4) (h:=aW 3 rfl ZbW (h:=aT 4 rfl (ZZ fun D B L hI=>Zx rfl rfl Zio rfl (atL 0 (hI.2.1.trans rfl) rfl rfl) r4) (h:=aW 6 rfl Za5 (h:=aT 7 rfl (ZZ fun D B L hI=>Zx rfl rfl Zgf rfl (atL 0 (hI.2.1.trans rfl) rfl rfl) r4) (h:=aW 9 rfl Zb9 (h:=aT 10 rfl (ZZ fun D B L hI=>ZV [_,_] rfl rfl Zdg rfl (Za9 0 (hI.2.1.trans rfl) rfl rfl) r4) (h:=Zw 2 kr rfl kr (ZP (parts:=[]) [] rfl rfl Tryz.underlying30 Zbs ZdF rfl rfl rfl rfl rfl (fun b3=>?_))))))))))
 refine ⟨⟨Kn.le.refl _,t1⟩,(Zw 5 kr rfl kr (ZbQ (R:=Zc) 2 rfl (Zaa.lit0 (R:=Zc)) rfl rfl rfl Zml Zmx rfl rfl rfl hu.rows Zc.one rfl om (fun l4 p4 c4 hv4=>?_)))⟩
 refine ⟨⟨Kn.le.refl _,t1⟩,(Zw 8 kr rfl kr (ZF rfl rfl Zva rfl (Zg8 _ _ x.folders _ hf) ?_))⟩
 rintro _ B5 _ hle5 ⟨rfl,l5,a5,c5,rfl,rfl,hs5⟩
 refine ⟨⟨Kn.le.refl _,t1⟩,(Zw 11 kr rfl kr (ZF rfl rfl Ztk rfl (Zga _ _ x.queue _ hi) ?_))⟩
 rintro _ B6 _ hle6 ⟨l6,q6,c6,rfl,rfl,hd6⟩
 replace hu:=hu.mono Zc.mono hle6
 replace hf:=hf.mono Zb.mono hle6
 replace hi:=hi.mono Zi.mono hle6
 replace hv4:=hv4.mono Zc.mono hle6
 refine ⟨⟨hle6,t1⟩,(aT 12 rfl (ZZ fun D B L hI=>ZaK (parts:=[(0,_),(1,_),(2,_),(3,_)]) [_,_,_,_,_] [_,_,_,_,_] rfl rfl Zgm Zbj rfl rfl rfl r4) (h:=Zav 13 kr rfl kr kr kr (ZT [_,_,_,_,_] 1 [_,_,_,_,_] rfl rfl ZbN rfl rfl rfl rfl rfl rfl rfl rfl ?_)))⟩
 refine Zf (ZI [_,_,_,_,_] rfl (Zj ?_))
 exact Zbw .ret (.inl rfl) [_] [2,3,4] rfl ⟨⟨_,rfl,.inr ⟨[_,_,_,_,_],Zaz,Za9 1 rfl rfl rfl,rfl⟩⟩,trivial⟩ ⟨_,_,_,_,_,_,_,_,_,rfl,rfl,hv4.anyK Zc.any,hs5,hd6⟩

set_option maxHeartbeats 400000 in
theorem ZnS (q1 q2 q3:Option Addr) (c1 c2 c3:Nat) (x:DHost) (ar:Bool) (f:FuncId) (cap:Array Value) (R:DHost) (k:Nat) (hk:k<5) (he:enters Tryz.prog f=true) (hJ:Joins Tryz.prog J) (hd:x.domain.length≤2000000) (a:Nat→Addr) (B:Kn) (hE:ErrsB 321 [0,3,2,1] B a) (hu:SlK B q1 c1 3 Zc x.users) (hf:SlK B q2 c2 5 Zb x.folders) (hi:SlK B q3 c3 4 Zi x.queue.items) (hw:ar=true→Za3 x=true→∀(B2:Kn) (b:Nat) (q1 q2 q3:Option Addr) (c1 c2 c3:Nat) (l1 l2 l3:Cells),B.le B2→Zaa Kn.none l1 q1 c1 123 3 Zc x.users→Zbb l2 q2 c2 75 5 (ZD 133 205) x.folders→Zbb l3 q3 c3 126 4 (Z3 9) x.queue.items→ZL (pj J) f (ptr ⟨b,0,none⟩ :: cap.toList) B2 [ZaE b [str x.domain,.slice q1 x.users.length c1,.slice q2 x.folders.length c2,.int .i64 x.queue.next,.slice q3 x.queue.items.length c3] 36,l1,l2,l3] (fun v B' Ls=>∃q1' c1' q2' c2' q3' c3' l1' l2' l3',Ls=[ZaE b [str R.domain,.slice q1' R.users.length c1',.slice q2' R.folders.length c2',.int .i64 R.queue.next,.slice q3' R.queue.items.length c3'] 36,l1',l2',l3']∧v=errv 321 a (k)∧Zaa Kn.none l1' q1' c1' 123 3 Zc R.users∧Zbb l2' q2' c2' 75 5 (ZD 133 205) R.folders∧Zbb l3' q3' c3' 126 4 (Z3 9) R.queue.items)):ZL (pj J) 40 [.agg #[str x.domain,.slice q1 x.users.length c1,.slice q2 x.folders.length c2,.int .i64 x.queue.next,.slice q3 x.queue.items.length c3],.bool ar,.func (.func f) #[] cap] B [] (fun v B' Ls=>∃(Y:DHost) (d:Int),∃q1 c1 q2 c2 q3 c3 l1 l2 l3,(Y,d)=(if ar=true∧Za3 x=true then (R,(k:Int)) else (Zgc,5))∧Ls=[l1,l2,l3]∧v = .tuple #[.agg #[str Y.domain,.slice q1 Y.users.length c1,.slice q2 Y.folders.length c2,.int .i64 Y.queue.next,.slice q3 Y.queue.items.length c3],.int .i64 d]∧Zaa Kn.none l1 q1 c1 123 3 Zc Y.users∧Zbb l2 q2 c2 75 5 (ZD 133 205) Y.folders∧Zbb l3 q3 c3 126 4 (Z3 9) Y.queue.items):=by
 refine Zd 25 Tryz.func40 rfl rfl rfl (Nat.le_of_ble_eq_true rfl) ?_
 have hun:=hu.len
 have hfn:=hf.len
 have hin:=hi.len
 refine Za ?_
 refine xBx [_,_,_,_,_] (h:=fun b1=>?_)
 refine xAl [_,_,_,_,_] Zbj (h:=fun b2=>?_)
 refine xA (h:=?_)
 refine ZI [_,_] rfl ?_
 refine Zh ?_
 refine Za ?_
 refine xM (h:=?_)
 refine xN (h:=?_)
 refine xM (h:=?_)
 refine ZC (d:=12) rfl (fun g1=>?_) (fun g1=>?_)
 try simp only [sQ,ne_eq] at g1
 refine xP (h:=?_)
 refine xP (h:=?_)
 refine xP (h:=?_)
 refine xT (h:=?_)
 refine Zso [[],[],[]] rfl ?_
 refine Ze (t:=true) rfl (fun _=>?_) (fun h=>Bool.noConfusion h)
 refine Za ?_
 refine xB [] [_,_,_,_,_] [_,_,_,_,_] Zgm Zbj (h:=?_)
 refine xS [_,_,_,_,_] 1 [_,_,_,_,_] ZbN (h:=?_)
 refine xA (h:=?_)
 refine ZI [_,_,_,_,_] rfl ?_
 refine Zj (Zt ?_)
 exact Zbw .ret (.inl rfl) [_,_] [2,3,4] rfl ⟨⟨_,rfl,.inr ⟨[_,_,_,_,_],Zaz,Za9 1 rfl rfl rfl,rfl⟩⟩,rfl,trivial⟩ ⟨Zgc,5,none,0,none,0,none,0,[],[],[],by rw [if_neg (by simp [g1])],rfl,rfl,Zaa.nil,Zbb.nil,Zbb.nil⟩
 try simp only [sQ,ne_eq] at g1
 refine xL [_,_,_,_,_] Zaz 0 (h:=?_)
 refine Zq (ZfI rfl rfl Zwg rfl (Zkr hJ _ _ _ _ _ _ x om2 _ hu hf hi) ?_)
 intro vv Bv hlev
 rintro rfl
 replace hu:=hu.mono Zc.mono hlev
 replace hf:=hf.mono Zb.mono hlev
 replace hi:=hi.mono Zi.mono hlev
 replace hE:=hE.mono hlev
 refine xN (h:=?_)
 refine xF (h:=?_)
 refine Ze rfl (fun g2=>?_) (fun g2=>?_)
 try simp only [sQ,ne_eq] at g2
 refine Zso [[],[],[]] rfl ?_
 refine Za ?_
 refine xB [] [_,_,_,_,_] [_,_,_,_,_] Zgm Zbj (h:=?_)
 refine xS [_,_,_,_,_] 1 [_,_,_,_,_] ZbN (h:=?_)
 refine xA (h:=?_)
 refine ZI [_,_,_,_,_] rfl ?_
 refine Zj (Zt ?_)
 exact Zbw .ret (.inl rfl) [_,_] [2,3,4] rfl ⟨⟨_,rfl,.inr ⟨[_,_,_,_,_],Zaz,Za9 1 rfl rfl rfl,rfl⟩⟩,rfl,trivial⟩ ⟨Zgc,5,none,0,none,0,none,0,[],[],[],by rw [if_neg (by simp [g2])],rfl,rfl,Zaa.nil,Zbb.nil,Zbb.nil⟩
 try simp only [sQ,ne_eq] at g2
 refine Zg ?_
 refine Zf ?_
 refine Za ?_
 refine xL [_,_,_,_,_] Zaz 0 (h:=?_)
 refine Zq (ZF rfl rfl Zwf rfl (Zjm _ _ _ _ _ _ x _ hu hf hi) ?_)
 rintro _ Bc _ hlec ⟨q1c,c1c,q2c,c2c,q3c,c3c,l1c,l2c,l3c,rfl,rfl,huc,hfc,hic⟩
 replace hu:=hu.mono Zc.mono hlec
 replace hf:=hf.mono Zb.mono hlec
 replace hi:=hi.mono Zi.mono hlec
 replace hE:=hE.mono hlec
 refine xAl [_,_,_,_,_] Zbj (h:=fun b5=>?_)
 refine xS [_,_,_,_,_] 5 [_,_,_,_,_] ZbN (h:=?_)
 refine ZI [_,_,_,_,_,_] rfl ?_
 refine Za ?_
 refine xM (h:=?_)
 refine Zq (ZqP [5,2,3,4] rfl rfl rfl rfl he rfl rfl (hw (by simpa using g1) (by simpa using g2) _ _ _ _ _ _ _ _ _ _ _ (hlev.trans hlec) huc hfc hic) ?_)
 rintro _ B6 _ hle6 ⟨q16,c16,q26,c26,q36,c36,l16,l26,l36,rfl,rfl,hu6,hf6,hi6⟩
 replace hu:=hu.mono Zc.mono hle6
 replace hf:=hf.mono Zb.mono hle6
 replace hi:=hi.mono Zi.mono hle6
 replace huc:=huc.mono Zc.mono hle6
 replace hE:=hE.mono hle6
 refine xA (h:=?_)
 refine ZI [_,_,_,_,_,_] rfl ?_
 refine Zh ?_
 refine Zac (keeps _ [5] _) mo kr ⟨Kn.le.refl _,ZaM.refl _ _⟩ (fun _ _=>?_)
 refine aT 0 rfl (ZZ fun D B L hI=>ZV [_,_,_,_,_] rfl rfl Zaz rfl (Za9 5 (hI.2.1.trans rfl) rfl rfl) r4) (h:=?_)
 refine aM 1 rfl (h:=?_)
 refine aT 2 rfl (ZZ fun D B L hI=>Zay rfl rfl ZvJ rfl (Zl8 k om2 a _ (hE.mono hI.1)) r4) (h:=?_)
 refine ZaG 3 kr rfl kr kr (ZT [_,_,_,_,_] 1 [_,_,_,_,_] rfl rfl ZbN rfl rfl rfl rfl rfl rfl rfl rfl ?_)
 refine aA 4 rfl (h:=?_)
 refine ZB kr kr ?_
 refine Zf ?_
 refine ZI [_,_,_,_,_,_] rfl ?_
 refine Zj ?_
 exact Zbw .ret (.inl rfl) [_,_] [2,3,4] rfl ⟨⟨_,rfl,.inr ⟨[_,_,_,_,_],Zaz,Za9 1 rfl rfl rfl,rfl⟩⟩,rfl,trivial⟩ ⟨R,k,_,_,_,_,_,_,_,_,_,by rw [if_pos ⟨by simpa using g1,by simpa using g2⟩],rfl,rfl,hu6.anyK Zc.any,hf6,hi6⟩

set_option maxHeartbeats 400000 in
theorem ZsG (bx:Nat) (qz:Option Addr) (cz:Nat) (z:DLetter) (b:Nat) (q1 q2 q3:Option Addr) (c1 c2 c3:Nat) (x:DHost) (l1 l2 l3:Cells) (h1:z.fr.length≤2000000) (h2:z.text.length≤2000000) (hn1:x.users.length≤2000000) (hn2:x.folders.length≤2000000) (hok:Za3 x=true) (hlz:ZaJ z=true) (a:Nat→Addr) (B:Kn) (hE:ErrsB 321 [0,3,2,1] B a) (hc0:ZaX B bx 0 [str z.fr,.slice qz z.to_.length cz,str z.text]) (hz:SlK B qz cz 1 ZJ z.to_) (hu:Zaa Kn.none l1 q1 c1 123 3 Zc x.users) (hf:Zbb l2 q2 c2 75 5 (ZD 133 205) x.folders) (hi:Zbb l3 q3 c3 126 4 (Z3 9) x.queue.items):ZL (pj J) 61 [ptr ⟨b,0,none⟩,ptr ⟨bx,0,none⟩] B [ZaE b [str x.domain,.slice q1 x.users.length c1,.slice q2 x.folders.length c2,.int .i64 x.queue.next,.slice q3 x.queue.items.length c3] 36,l1,l2,l3] (fun v B' Ls=>∃q1' c1' q2' c2' q3' c3' l1' l2' l3',Ls=[ZaE b [str (Zk0 x z).domain,.slice q1' (Zk0 x z).users.length c1',.slice q2' (Zk0 x z).folders.length c2',.int .i64 (Zk0 x z).queue.next,.slice q3' (Zk0 x z).queue.items.length c3'] 36,l1',l2',l3']∧v=errv 321 a (ZfO x z)∧Zaa Kn.none l1' q1' c1' 123 3 Zc (Zk0 x z).users∧Zbb l2' q2' c2' 75 5 (ZD 133 205) (Zk0 x z).folders∧Zbb l3' q3' c3' 126 4 (Z3 9) (Zk0 x z).queue.items):=by
 refine Zd 41 Tryz.func61 rfl rfl rfl (Nat.le_of_ble_eq_true rfl) ?_
 have hzn:=hz.len
 have hql:=Zct (Zln hok)
 have hal:=ZiI x.queue z
 have hlt:z.to_.length≤3:=by have h:=hlz;simp only [ZaJ,Zcz,Bool.and_eq_true,decide_eq_true_eq] at h;omega
 refine Za (xA (h:=Zh (Za (xW Zfz (h:=y1 lk9 hc0 0 (h:=xBs [(0,_)] [_] Tryz.underlying43 sz9 zo9 (h:=fun b1=>xW Zeo (h:=y1 Zgs hc0 1 (h:=Zq (ZbQ (R:=ZJ) 4 rfl (Zaa.lit (R:=ZJ) (rows:=[[str z.fr]]) (xs:=[z.fr]) (.cons ⟨rfl,h1⟩ .nil) (by intro r hr;simp at hr;subst hr;rfl)) rfl rfl rfl ZrL Zr0 rfl rfl rfl hz.rows ZJ.one rfl om (fun l2 p2 c2 hv2=>?_)))))))))))
 refine Zni 4 rfl hv2 ZJ.mono om3 (fun B3 hle3 hr3=>?_)
 replace hz:=hz.mono ZJ.mono hle3
 replace hc0:=hc0.mono hle3
 replace hu:=hu.mono Zc.mono hle3
 replace hE:=hE.mono hle3
 have hr3n:=hr3.len
 refine xV Tryz.underlying43 (h:=xM (h:=ZI [_,_,_,_,_] rfl (Zm (ZO (α:=Nat) [0,1,13,14] (fun k=>[(15,.int .i64 k)]) [] (fun k=>[]) (fun k Bx=>Bx=B3∧k≤([z.fr] ++ z.to_).length∧∀n,n∈([z.fr] ++ z.to_).take k→(Zao x.users n).2=true) (fun k=>([z.fr] ++ z.to_).length - k) 0 t1 rfl (⟨rfl,Nat.zero_le _,by simp⟩) (fun k B4 hle4 hI=>?_)))))
 obtain ⟨rfl,hk,hs⟩:=hI
 refine ZR [(0,_),(1,_),(13,_),(14,_),(15,_)] [_,_,_,_,_] t5 rfl (Za (ZM (h:=Zh (Ze rfl (fun g1=>?_) (fun g1=>?_)))))
 try simp only [sQ,ne_eq] at g1
 refine Zg (Zf (Zh (Zm (Za ?_))))
 obtain ⟨n,hn⟩:=Zae (xs:=([z.fr] ++ z.to_)) (i:=k) om
 obtain ⟨bb6,oo6,rfl⟩:=hr3.base hn
 obtain ⟨_,⟨rfl,hb7⟩,hc7⟩:=hr3.elem hn
 refine xIx Tryz.underlying43 sz9 (h:=y1 lk9 hc7 0 (h:=xA (h:=Za (xM (h:=xM (h:=Zq (Zai [0,1,2,3] rfl rfl rfl rfl rfl ZtJ rfl (Z8.borrowL fun hm8=>Zgu _ _ _ _ _ _ _ _ x n om2 _ (ZwV 0 rfl hm8) (hu.lendK Zc.any 1 rfl hm8 om)) ?_)))))))
 refine xN (h:=Ze rfl (fun g2=>?_) (fun g2=>?_))
 try simp only [sQ,ne_eq] at g2
 refine Za (Zq (Zx rfl rfl Zqq rfl ((hE.row 0 (by decide)) _ 0 _ rfl) ?_))
 refine xA (h:=Zj (ZN (Zt (Z2 (ZN (Zt ?_))))))
 have hse:ZfO x z=1:=Zm5 hn (by simpa using g2)
 exact Zbw .ret (.inl rfl) [_] [0,1,2,3] rfl t1 (by rw [ZfN hse,hse];exact ⟨_,_,_,_,_,_,_,_,_,rfl,rfl,hu,hf,hi⟩)
 try simp only [sQ,ne_eq] at g2
 refine Zg (Z7 (Zf (Zn (xD (h:=xM (h:=?_))))))
 exact ZU (k+1) [0,1,2,3,4] so2 ⟨rfl,oz,Zbf (p:=fun n=>(Zao x.users n).2=true) hn hs (by simpa using g2)⟩ t5 rfl
 try simp only [sQ,ne_eq] at g1
 have hall:=Zbp oz hs
 refine ZS (Zaf (ZW (ZG (Zf (Zh (Zac (keeps _ [] _) mo kr ⟨Kn.le.refl _,ZaM.refl _ _⟩ (fun _ _=>?_)))))))
 refine aM 0 rfl (h:=aNc 1 rfl (h:=aW 2 rfl Zb9 (h:=aT 4 rfl (ZZ fun D B L hI=>ZV [_,_,_] rfl rfl ZhQ rfl (ZjM (hc0.mono hI.1) 0 rfl rfl) r4) (h:=Zan [3,9] kr kr kr ⟨?_,?_⟩))))
 refine (ZV [_,_] rfl rfl Zdg rfl (Za9 0 rfl rfl rfl) (⟨⟨Kn.le.refl _,trivial⟩,(Zan [5,9] kr kr kr ⟨?_,?_⟩)⟩))
 refine (Zam [3] rfl rfl rfl rfl Zus rfl (ZL.borrowK 1 fun hm9=>Zg1 _ _ x.queue _ _ z _ (hi.lendK Z3.known Zi.mono 0 rfl hm9 om) (hz.mono ZJ.mono (Kn.le_add _ _)) (by first | assumption | omega | (simp;omega)) (by first | assumption | omega | (simp;omega))) ?_)
 rintro _ B9 _ hle9 ⟨BB9,_,rfl,hB9,_,hm9,_,l9,a9,c9,rfl,rfl,hd9⟩
 replace hz:=hz.mono ZJ.mono hle9
 replace hc0:=hc0.mono hle9
 replace hr3:=hr3.mono ZJ.mono hle9
 replace hu:=hu.mono Zc.mono hle9
 replace hE:=hE.mono hle9
 refine ⟨⟨hle9,trivial⟩,(aM 6 rfl (h:=aE 7 rfl (h:=aE 8 rfl (h:=Zw 9 kr rfl kr (Zag (l:=[_,_]) rfl rfl Zhp rfl (fun b10=>?_))))))⟩
 refine ⟨⟨hle9,trivial⟩,(ZaG 10 kr rfl kr kr (ZT [_,_] 6 [_,_] rfl rfl ZfM rfl rfl rfl rfl rfl rfl rfl rfl ?_))⟩
 refine aA 11 rfl (h:=ZB kr kr ?_)
 refine Zf (ZI [_,_,_,_,_,_,_] rfl (Zh (Za (xM (h:=xN (h:=Ze rfl (fun g3=>?_) (fun g3=>?_)))))))
 try simp only [sQ,ne_eq] at g3
 refine Za (Zq (Zx rfl rfl Zqq rfl ((hE.row 3 (by decide)) _ 0 _ rfl) ?_))
 refine xA (h:=Zj (Zt ?_))
 have hse:ZfO x z=4:=ZgH hall (by simpa using g3)
 exact Zbw .ret (.inl rfl) [_] [0,1,2,3] rfl t1 (by rw [ZfN hse,hse];exact ⟨_,_,_,_,_,_,_,_,_,rfl,rfl,hu,hf,hi⟩)
 try simp only [sQ,ne_eq] at g3
 refine Zg (Zf (Za (xM (h:=xL [_,_] Zdg 6 (h:=xNc (h:=xW Zb9 (h:=xS [_,_] 0 [_,_,_,_,_] ZfM (h:=ZI [_,_,_,_,_,_,_] rfl (Za (xA (h:=Zj ?_)))))))))))
 have hse:ZfO x z=0:=ZgI hall (by simpa using g3)
 exact Zbw .ret (.inl rfl) [_] [0,1,2,5] rfl t1 (by rw [Zgp hse,hse];exact ⟨_,_,_,_,_,_,_,_,_,rfl,rfl,hu,hf,hd9⟩)
 refine (Zag (l:=[_,_]) rfl rfl Zhp rfl (fun b11=>⟨⟨Kn.le.refl _,trivial⟩,(Zw 5 kr rfl kr (Zam [3] rfl rfl rfl rfl Zus rfl (ZL.borrowK 1 fun hm12=>Zg1 _ _ x.queue _ _ z _ (hi.lendK Z3.known Zi.mono 0 rfl hm12 om) (hz.mono ZJ.mono (Kn.le_add _ _)) (by first | assumption | omega | (simp;omega)) (by first | assumption | omega | (simp;omega))) ?_))⟩))
 rintro _ B12 _ hle12 ⟨BB12,_,rfl,hB12,_,hm12,_,l12,a12,c12,rfl,rfl,hd12⟩
 replace hz:=hz.mono ZJ.mono hle12
 replace hc0:=hc0.mono hle12
 replace hr3:=hr3.mono ZJ.mono hle12
 replace hu:=hu.mono Zc.mono hle12
 replace hE:=hE.mono hle12
 refine ⟨⟨hle12,trivial⟩,(aM 6 rfl (h:=aE 7 rfl (h:=aE 8 rfl (h:=ZaG 10 kr rfl kr kr (ZT [_,_] 5 [_,_] rfl rfl ZfM rfl rfl rfl rfl rfl rfl rfl rfl ?_)))))⟩
 refine aA 11 rfl (h:=ZB kr kr ?_)
 refine Zf (ZI [_,_,_,_,_,_,_] rfl (Zh (Za (xM (h:=xN (h:=Ze rfl (fun g3=>?_) (fun g3=>?_)))))))
 try simp only [sQ,ne_eq] at g3
 refine Za (Zq (Zx rfl rfl Zqq rfl ((hE.row 3 (by decide)) _ 0 _ rfl) ?_))
 refine xA (h:=Zj (Zt ?_))
 have hse:ZfO x z=4:=ZgH hall (by simpa using g3)
 exact Zbw .ret (.inl rfl) [_] [0,1,2,3] rfl t1 (by rw [ZfN hse,hse];exact ⟨_,_,_,_,_,_,_,_,_,rfl,rfl,hu,hf,hi⟩)
 try simp only [sQ,ne_eq] at g3
 refine Zg (Zf (Za (xM (h:=xL [_,_] Zdg 5 (h:=xNc (h:=xW Zb9 (h:=xS [_,_] 0 [_,_,_,_,_] ZfM (h:=ZI [_,_,_,_,_,_,_] rfl (Za (xA (h:=Zj ?_)))))))))))
 have hse:ZfO x z=0:=ZgI hall (by simpa using g3)
 exact Zbw .ret (.inl rfl) [_] [0,1,2,6] rfl t1 (by rw [Zgp hse,hse];exact ⟨_,_,_,_,_,_,_,_,_,rfl,rfl,hu,hf,hd12⟩)
 refine (Zag (l:=[_,_]) rfl rfl Zhp rfl (fun b13=>⟨⟨Kn.le.refl _,trivial⟩,(Zw 3 kr rfl kr (ZV [_,_] rfl rfl Zdg rfl (Za9 0 rfl rfl rfl) ?_))⟩))
 refine ⟨⟨Kn.le.refl _,trivial⟩,(Zw 5 kr rfl kr (Zam [3] rfl rfl rfl rfl Zus rfl (ZL.borrowK 1 fun hm14=>Zg1 _ _ x.queue _ _ z _ (hi.lendK Z3.known Zi.mono 0 rfl hm14 om) (hz.mono ZJ.mono (Kn.le_add _ _)) (by first | assumption | omega | (simp;omega)) (by first | assumption | omega | (simp;omega))) ?_))⟩
 rintro _ B14 _ hle14 ⟨BB14,_,rfl,hB14,_,hm14,_,l14,a14,c14,rfl,rfl,hd14⟩
 replace hz:=hz.mono ZJ.mono hle14
 replace hc0:=hc0.mono hle14
 replace hr3:=hr3.mono ZJ.mono hle14
 replace hu:=hu.mono Zc.mono hle14
 replace hE:=hE.mono hle14
 refine ⟨⟨hle14,trivial⟩,(aM 6 rfl (h:=aE 7 rfl (h:=aE 8 rfl (h:=ZaG 10 kr rfl kr kr (ZT [_,_] 5 [_,_] rfl rfl ZfM rfl rfl rfl rfl rfl rfl rfl rfl ?_)))))⟩
 refine aA 11 rfl (h:=ZB kr kr ?_)
 refine Zf (ZI [_,_,_,_,_,_,_] rfl (Zh (Za (xM (h:=xN (h:=Ze rfl (fun g3=>?_) (fun g3=>?_)))))))
 try simp only [sQ,ne_eq] at g3
 refine Za (Zq (Zx rfl rfl Zqq rfl ((hE.row 3 (by decide)) _ 0 _ rfl) ?_))
 refine xA (h:=Zj (Zt ?_))
 have hse:ZfO x z=4:=ZgH hall (by simpa using g3)
 exact Zbw .ret (.inl rfl) [_] [0,1,2,3] rfl t1 (by rw [ZfN hse,hse];exact ⟨_,_,_,_,_,_,_,_,_,rfl,rfl,hu,hf,hi⟩)
 try simp only [sQ,ne_eq] at g3
 refine Zg (Zf (Za (xM (h:=xL [_,_] Zdg 5 (h:=xNc (h:=xW Zb9 (h:=xS [_,_] 0 [_,_,_,_,_] ZfM (h:=ZI [_,_,_,_,_,_,_] rfl (Za (xA (h:=Zj ?_)))))))))))
 have hse:ZfO x z=0:=ZgI hall (by simpa using g3)
 exact Zbw .ret (.inl rfl) [_] [0,1,2,6] rfl t1 (by rw [Zgp hse,hse];exact ⟨_,_,_,_,_,_,_,_,_,rfl,rfl,hu,hf,hd14⟩)

end Go.Proofs.YthgggppcgbglkaaGreatDoor
