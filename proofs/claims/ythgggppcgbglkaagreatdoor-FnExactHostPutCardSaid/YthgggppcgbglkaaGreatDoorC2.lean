/-
  WHAT THE FUNCTIONS THAT THE LAWS REACH COMPUTE: each function's contract, proved off its printed body (the text is written by program). No condition beyond those that each theorem states.
-/
import Derived.Test.YthgggppcgbglkaaGreatDoorC1
namespace Go.Proofs.YthgggppcgbglkaaGreatDoor
open Go Go.BL
set_option linter.unusedVariables false
set_option linter.unusedSimpArgs false
set_option maxRecDepth 4000
variable {J : JoinT}
set_option maxHeartbeats 400000 in
theorem ZgE (qa1 qb1 qc1:Option Addr) (ca1 cb1 cc1:Nat) (qa2 qb2 qc2:Option Addr) (ca2 cb2 cc2:Nat) (a b:DHost) (B:Kn) (hu1:SlK B qa1 ca1 3 Zn a.users) (hf1:SlK B qb1 cb1 5 Zj a.folders) (hi1:SlK B qc1 cc1 4 Zu a.queue.items) (hu2:SlK B qa2 ca2 3 Zn b.users) (hf2:SlK B qb2 cb2 5 Zj b.folders) (hi2:SlK B qc2 cc2 4 Zu b.queue.items):Z9 (pj J) 12 [.agg #[str a.domain,.slice qa1 a.users.length ca1,.slice qb1 a.folders.length cb1,.int .i64 a.queue.next,.slice qc1 a.queue.items.length cc1],.agg #[str b.domain,.slice qa2 b.users.length ca2,.slice qb2 b.folders.length cb2,.int .i64 b.queue.next,.slice qc2 b.queue.items.length cc2]] B (.bool (decide (a=b))):=by
 refine Zb 28 Tryz.func12 rfl rfl rfl (Nat.le_of_ble_eq_true rfl) ?_
 refine Za (xBx [_,_,_,_,_] (h:=fun b1=>xBx [_,_,_,_,_] (h:=fun b2=>xA (h:=ZE [_,_] rfl (Ze (Za (xW Zhd (h:=x1 lk9 0 (h:=xW Zhd (h:=x1 lk9 1 (h:=ZeM (h:=Zc rfl (fun g1=>?_) (fun g1=>?_)))))))))))))
 try simp only [sQ,ne_eq] at g1
 refine Za (xA (h:=Zh (Zq ?_)))
 exact ZB .ret (.inl rfl) [_] t1 ⟨Zg (by symm;rw [decide_eq_false_iff_not];rintro rfl;exact g1 rfl),rfl,rfl⟩
 try simp only [sQ,ne_eq] at g1
 refine Zf (Zd (Ze (Za (xW Zbn (h:=x1 ZhA 0 (h:=xW Zbn (h:=x1 ZhA 1 (h:=xR Zyg rfl (Zo7 _ _ _ _ _ _ _ hu1 hu2) (h:=xN (h:=Zc rfl (fun g2=>?_) (fun g2=>?_)))))))))))
 try simp only [sQ,ne_eq] at g2
 refine Za (xA (h:=Zh (Zq ?_)))
 exact ZB .ret (.inl rfl) [_] t1 ⟨Zg (by symm;rw [decide_eq_false_iff_not];rintro rfl;exact g2 rfl),rfl,rfl⟩
 try simp only [sQ,ne_eq] at g2
 refine Zf (Zd (Ze (Za (xW Zar (h:=x1 Zew 0 (h:=xW Zar (h:=x1 Zew 1 (h:=xR Zyf rfl (Zlc _ _ _ _ _ _ _ hf1 hf2) (h:=xN (h:=Zc rfl (fun g3=>?_) (fun g3=>?_)))))))))))
 try simp only [sQ,ne_eq] at g3
 refine Za (xA (h:=Zh (Zq ?_)))
 exact ZB .ret (.inl rfl) [_] t1 ⟨Zg (by symm;rw [decide_eq_false_iff_not];rintro rfl;exact g3 rfl),rfl,rfl⟩
 try simp only [sQ,ne_eq] at g3
 refine Zf (Zd (Ze (Za (xW Zd5 (h:=xL [_,_] Zke 0 (h:=xW Zd5 (h:=xL [_,_] Zke 1 (h:=xR Zye rfl (Zo8 _ _ _ _ a.queue b.queue _ hi1 hi2) (h:=xN (h:=Zc rfl (fun g4=>?_) (fun g4=>?_)))))))))))
 try simp only [sQ,ne_eq] at g4
 refine Za (xA (h:=Zh (Zq ?_)))
 exact ZB .ret (.inl rfl) [_] t1 ⟨Zg (by symm;rw [decide_eq_false_iff_not];rintro rfl;exact g4 rfl),rfl,rfl⟩
 try simp only [sQ,ne_eq] at g4
 refine Zf (Zd (Za (xA (h:=Zh ?_))))
 exact ZB .ret (.inl rfl) [_] t1 ⟨Zg (by symm;rw [decide_eq_true_eq];cases a;cases b;simp_all),rfl,rfl⟩

set_option maxHeartbeats 400000 in
theorem Zgc (q:Option Addr) (cp:Nat) (x:DBox) (B:Kn) (hm:SlK B q cp 3 ZZ x.mail):Zz (pj J) 168 [.agg #[.int .i64 x.next,.slice q x.mail.length cp]] B [] (fun v B' Ls=>B'=B∧∃l a c,Ls=[l]∧v = .agg #[.int .i64 x.next,.slice a x.mail.length c]∧ZU B l a c 205 3 ZZ x.mail):=by
 refine Zb 10 Tryz.func168 rfl rfl rfl (Nat.le_of_ble_eq_true rfl) ?_
 have hxn:=hm.len
 refine Za (xBx [_,_] (h:=fun b1=>xAl [_,_] Znl (h:=fun b2=>ZE [_,_] rfl (Ze (Z8 (keeps _ [0] _) mo kr ⟨Kn.le.refl _,ZbU.refl _ _⟩ (fun _ _=>?_))))))
 refine aW 0 rfl Zcy (h:=aT 1 rfl (Z5 fun D B L hI=>Zr rfl rfl lk3 rfl (atL 0 (hI.2.1.trans rfl) rfl rfl) r4) (h:=aW 3 rfl Zbd (h:=aT 4 rfl (Z5 fun D B L hI=>Zr rfl rfl ZhX rfl (atL 0 (hI.2.1.trans rfl) rfl rfl) r4) (h:=ZN 2 kr rfl kr (ZL (parts:=[]) [] rfl rfl Tryz.underlying71 Zcs ZfT rfl rfl rfl rfl rfl (fun b3=>?_))))))
 refine ⟨⟨Kn.le.refl _,t1⟩,(ZN 5 kr rfl kr (Zb0 (R:=ZZ) 2 rfl (ZU.lit0 (R:=ZZ)) rfl rfl rfl Zth ZuR rfl rfl rfl hm.rows ZZ.one rfl om (fun l4 p4 c4 hv4=>?_)))⟩
 refine ⟨⟨Kn.le.refl _,t1⟩,(aT 6 rfl (Z5 fun D B L hI=>Zay (parts:=[(0,_),(1,_)]) [_,_] [_,_] rfl rfl Zxd Znl rfl rfl rfl r4) (h:=Zap 7 kr rfl kr kr kr (Z4 [_,_] 1 [_,_] rfl rfl Zjg rfl rfl rfl rfl rfl rfl rfl rfl ?_)))⟩
 refine Zd (ZE [_,_,_] rfl (Zh ?_))
 exact Zbe .ret (.inl rfl) [_] [2] rfl ⟨⟨_,rfl,.inr ⟨[_,_],Zfa,Zb1 1 rfl rfl rfl,rfl⟩⟩,trivial⟩ ⟨rfl,_,_,_,rfl,rfl,hv4⟩

set_option maxHeartbeats 400000 in
theorem ZiN (qa qb:Option Addr) (ca cb:Nat) (x:DFolder) (B:Kn) (hg:SlK B qa ca 2 ZW x.grants) (hm:SlK B qb cb 3 ZZ x.mail):Zz (pj J) 190 [.agg #[str x.owner,str x.name,.slice qa x.grants.length ca,.int .i64 x.next,.slice qb x.mail.length cb]] B [] (fun v B' Ls=>B'=B∧∃l a c l' a' c',Ls=[l,l']∧v = .agg #[str x.owner,str x.name,.slice a x.grants.length c,.int .i64 x.next,.slice a' x.mail.length c']∧ZU B l a c 133 2 ZW x.grants∧ZU B l' a' c' 205 3 ZZ x.mail):=by
 refine Zb 13 Tryz.func190 rfl rfl rfl (Nat.le_of_ble_eq_true rfl) ?_
 have hgn:=hg.len
 have hmn:=hm.len
 refine Za (xBx [_,_,_,_,_] (h:=fun b1=>xAl [_,_,_,_,_] ZfR (h:=fun b2=>ZE [_,_] rfl (Za (xBs [] [] Tryz.underlying68 Zdh Zme (h:=fun b3=>xW Zdy (h:=x1 ZpI 0 (h:=Zp (Zb0 (R:=ZW) 2 rfl (ZU.lit0 (R:=ZW)) rfl rfl rfl ZvF Zxa rfl rfl rfl hg.rows ZW.one rfl om (fun l4 p4 c4 hv4=>?_))))))))))
 refine xW Zdy (h:=xS [_] 0 [_,_,_,_,_] Zvo (h:=ZE [_,_,_] rfl (Za (xW ZbY (h:=xL [_,_] Zfa 0 (h:=Zp (ZV rfl rfl Zs3 rfl (Zgc _ _ (⟨x.next,x.mail⟩:DBox) _ hm) ?_)))))))
 rintro _ B5 _ hle5 ⟨rfl,l5,a5,c5,rfl,rfl,hs5⟩
 refine xW ZbY (h:=xS [_,_] 0 [_,_,_,_,_] Zjg (h:=ZE [_,_,_,_] rfl (Za (xL [_,_,_,_,_] Zhx 0 (h:=xS [_,_,_,_,_] 1 [_,_,_,_,_] ZbO (h:=ZE [_,_,_,_] rfl (Zh ?_)))))))
 exact Zbe .ret (.inl rfl) [_] [2,3] rfl ⟨⟨_,rfl,.inr ⟨[_,_,_,_,_],Zhx,Zb1 1 rfl rfl rfl,rfl⟩⟩,trivial⟩ ⟨rfl,_,_,_,_,_,_,rfl,rfl,hv4,hs5⟩

set_option maxHeartbeats 400000 in
theorem Zac (k:Nat) (hk:k≤1000000000000000) (B:Kn):Z9 (pj J) 108 [.int .i64 k] B (str (ZQ k)):=by
 refine Zb 20 Tryz.func108 rfl rfl rfl (Nat.le_of_ble_eq_true rfl) ?_
 refine Za (xA (h:=Ze (Za (xM (h:=Zb3 (h:=Zc rfl (fun g1=>?_) (fun g1=>?_)))))))
 try simp only [sQ,ne_eq] at g1
 refine Za (xA (h:=Zh (Zq ?_)))
 exact ZB .ret (.inl rfl) [_] t1 ⟨Zrx (by rw [ZQ,if_pos oz]),rfl,rfl⟩
 try simp only [sQ,ne_eq] at g1
 refine Zf (Zd (Za (xA (h:=Ze (Zl (ZC (α:=Nat × Str) [2,5] (fun g=>[(0,.int .i64 g.1),(3,str g.2)]) [] (fun g=>[]) (fun g Bx=>Bx=B∧g.1≤k∧digs k=digs g.1 ++ g.2) (fun g=>g.1) (k,[]) t2 rfl (⟨rfl,Nat.le_refl _,by simp⟩) (fun g B1 hle1 hI=>?_)))))))
 obtain ⟨rfl,hl,hs⟩:=hI
 have hgl:=Zs6 hk hs
 refine ZF [(0,_),(2,_),(3,_),(5,_)] [] t4 rfl (Ze (Za (xM (h:=ZcL (h:=Zc rfl (fun g2=>?_) (fun g2=>?_))))))
 try simp only [sQ,ne_eq] at g2
 refine Zf (Zd (Zl (Za (xM (h:=Zp (ZpO (a:=(g.1:Int)) (b:=10) (r:=((g.1 % 10:Nat):Int)) rfl rfl rfl rfl (by decide) rfl ?_))))))
 refine xD (h:=Zp (ZrV rfl rfl Tryz.underlying3 Tryz.underlying5 rfl (by first | exact Zb4 om om | rfl) ?_))
 refine xBs [(0,_)] [_] Tryz.underlying203 sz5 zo5 (h:=fun b2=>Zp (Zny rfl rfl Tryz.underlying203 Tryz.underlying9 Tryz.underlying5 rfl (Zcg.box 0 rfl) (xM (h:=Zp (ZtC (a:=dig g.1) (b:=g.2) rfl rfl rfl rfl (by simp [dig];omega) ?_)))))
 refine xA (h:=ZE [_] rfl (Zk (xM (h:=Zp (Znr (a:=(g.1:Int)) (b:=10) (r:=((g.1 / 10:Nat):Int)) rfl rfl rfl rfl (by decide) (by rw [show Int.tdiv (g.1:Int) 10=((g.1 / 10:Nat):Int) from rfl];exact Zb4 oz oz) ?_)))))
 refine xA (h:=ZS ?_)
 exact ZG (g.1 / 10,dig g.1 ++ g.2) [] so2 ⟨rfl,so,Zpi hs oz⟩ t4 rfl
 try simp only [sQ,ne_eq] at g2
 refine ZH (Z0 (ZM (Zx (Zd (Za (xM (h:=Zp (ZtC rfl rfl rfl rfl (by first | omega | (simp;omega)) ?_))))))))
 refine xA (h:=Zh ?_)
 exact ZB .ret (.inl rfl) [_] t1 ⟨Zrx (by rw [ZQ,if_neg oz,hs,show g.1=0 from by omega,Zj1];rfl),rfl,rfl⟩

set_option maxHeartbeats 400000 in
theorem ZkL (q:Option Addr) (cp:Nat) (xs:List DMail) (l:Cells) (k:Nat) (hk:k≤900000000000000) (hn:xs.length≤2000000) (B:Kn) (hv:ZU B l q cp 205 3 ZZ xs):Zz (pj J) 110 [.slice q xs.length cp,.int .i64 k] B [l] (fun v B' Ls=>B'=B∧∃l',Ls=[l']∧v = .int .i64 ((k+3*xs.length:Nat):Int)∧ZU B l' q cp 205 3 ZZ (ZbH k xs.length)):=by
 refine Zb 35 Tryz.func110 rfl rfl rfl (Nat.le_of_ble_eq_true rfl) ?_
 have hvc:=hv.cap
 refine Za (xA (h:=Ze (Za (xA (h:=Zl (ZC (α:=Nat × Cells × List DMail) [4] (fun g=>[(0,.slice q xs.length cp),(1,.int .i64 ((k+3*g.1:Nat):Int)),(5,.int .i64 g.1)]) [0] (fun g=>[g.2.1]) (fun g Bx=>Bx=B∧g.1≤xs.length∧g.2.2.length=xs.length∧g.2.2.take g.1=ZbH k g.1∧ZU Bx g.2.1 q cp 205 3 ZZ g.2.2) (fun g=>xs.length - g.1) (0,l,xs) t3 rfl (⟨rfl,Nat.zero_le _,rfl,rfl,hv⟩) (fun g B1 hle1 hI=>?_)))))))
 obtain ⟨rfl,hi,hle,ht,hw⟩:=hI
 refine ZF [(0,_),(1,_),(4,_),(5,_)] [_] t4 rfl (Ze (Za (xM (h:=xM (h:=xV Tryz.underlying71 (h:=ZJ (h:=Zc rfl (fun g1=>?_) (fun g1=>?_))))))))
 try simp only [sQ,ne_eq] at g1
 refine Zf (Zd (Ze (Zl (Za (xM (h:=xM (h:=xM (h:=?_))))))))
 obtain ⟨z1,hz1⟩:=ZY (xs:=g.2.2) (i:=g.1) om
 obtain ⟨bb3,_,hp3,⟨rfl,hb3⟩,hw3,hc3⟩:=hw.row hz1
 refine xIp hp3 Tryz.underlying71 Zcs (h:=xW Zcu (h:=Zp (Zgs (k:=g.1) (off:=0) (⟨((k+3*g.1:Nat):Int),z1.flags,z1.text⟩) [_] 0 hw hp3 hz1 rfl rfl sz3 rfl rfl rfl rfl rfl rfl (by rintro _ ⟨rfl,e1⟩;exact ⟨rfl,e1⟩) (fun l4 hv4=>?_))))
 refine ZE [_] rfl (Za (xM (h:=xD (h:=xA (h:=Za (xM (h:=xM (h:=xM (h:=?_)))))))))
 obtain ⟨z2,hz2⟩:=ZY (xs:=(g.2.2.set g.1 (⟨((k+3*g.1:Nat):Int),z1.flags,z1.text⟩))) (i:=g.1) om
 obtain ⟨bb6,_,hp6,⟨rfl,hb6⟩,hw6,hc6⟩:=hv4.row hz2
 refine xIp hp6 Tryz.underlying71 Zcs (h:=xW Zfe (h:=Zp (Zgs (k:=g.1) (off:=1) (⟨z2.uid,((k+3*g.1+1:Nat):Int),z2.text⟩) [_] 0 hv4 hp6 hz2 rfl rfl sz3 rfl rfl rfl rfl rfl rfl (by rintro _ ⟨rfl,e1⟩;exact ⟨rfl,e1⟩) (fun l7 hv7=>?_))))
 refine ZE [_] rfl (Za (xM (h:=xD (h:=xA (h:=Za (xM (h:=xM (h:=xM (h:=xR Zd9 rfl (Zac (((k+3*g.1)+1)+1) oz _) (h:=?_))))))))))
 obtain ⟨z3,hz3⟩:=ZY (xs:=((g.2.2.set g.1 (⟨((k+3*g.1:Nat):Int),z1.flags,z1.text⟩)).set g.1 (⟨z2.uid,((k+3*g.1+1:Nat):Int),z2.text⟩))) (i:=g.1) om
 obtain ⟨bb10,_,hp10,⟨rfl,hb10⟩,hw10,hc10⟩:=hv7.row hz3
 refine xIp hp10 Tryz.underlying71 Zcs (h:=xW ZdY (h:=Zp (Zgs (k:=g.1) (off:=2) (⟨z3.uid,z3.flags,ZQ (k+3*g.1+1+1)⟩) [_] 0 hv7 hp10 hz3 rfl rfl sz9 rfl rfl rfl rfl rfl rfl (by rintro _ ⟨rfl,e1⟩;exact ⟨rfl,show (ZQ (k+3*g.1+1+1)).length≤2000000 from Nat.le_trans (ZbT (k:=k+3*g.1+1+1) oz) (by decide)⟩) (fun l11 hv11=>?_))))
 refine ZE [_] rfl (Zk (xM (h:=xD (h:=xA (h:=ZS (Zd (Zk (xM (h:=xD (h:=xA (h:=?_)))))))))))
 exact ZG (g.1+1,l11,(((g.2.2.set g.1 (⟨((k+3*g.1:Nat):Int),z1.flags,z1.text⟩)).set g.1 (⟨z2.uid,((k+3*g.1+1:Nat):Int),z2.text⟩)).set g.1 (⟨z3.uid,z3.flags,ZQ (k+3*g.1+1+1)⟩))) [0] so2 ⟨rfl,so,by simp only [List.length_set];exact hle,Zjx ht hz1 hz2 hz3,hv11⟩ t4 rfl
 try simp only [sQ,ne_eq] at g1
 have he:=ZlS ht oz
 have hgi:g.1=xs.length:=by omega
 rw [hgi] at he
 refine ZH (Z0 (ZM (Zx (Zd (Za (xM (h:=xA (h:=Zh ?_))))))))
 exact Zbe .ret (.inl rfl) [_] [0] rfl t1 ⟨rfl,_,rfl,by rw [hgi];rfl,by rw [← he];exact hw⟩

set_option maxHeartbeats 400000 in
theorem ZjB (q:Option Addr) (cp:Nat) (xs:List DGrant) (l:Cells) (k:Nat) (hk:k≤900000000000000) (hn:xs.length≤2000000) (B:Kn) (hv:ZU B l q cp 133 2 ZW xs):Zz (pj J) 109 [.slice q xs.length cp,.int .i64 k] B [l] (fun v B' Ls=>B'=B∧∃l',Ls=[l']∧v = .int .i64 ((k+2*xs.length:Nat):Int)∧ZU B l' q cp 133 2 ZW (Zaw k xs.length)):=by
 refine Zb 28 Tryz.func109 rfl rfl rfl (Nat.le_of_ble_eq_true rfl) ?_
 have hvc:=hv.cap
 refine Za (xA (h:=Ze (Za (xA (h:=Zl (ZC (α:=Nat × Cells × List DGrant) [4] (fun g=>[(0,.slice q xs.length cp),(1,.int .i64 ((k+2*g.1:Nat):Int)),(5,.int .i64 g.1)]) [0] (fun g=>[g.2.1]) (fun g Bx=>Bx=B∧g.1≤xs.length∧g.2.2.length=xs.length∧g.2.2.take g.1=Zaw k g.1∧ZU Bx g.2.1 q cp 133 2 ZW g.2.2) (fun g=>xs.length - g.1) (0,l,xs) t3 rfl (⟨rfl,Nat.zero_le _,rfl,rfl,hv⟩) (fun g B1 hle1 hI=>?_)))))))
 obtain ⟨rfl,hi,hle,ht,hw⟩:=hI
 refine ZF [(0,_),(1,_),(4,_),(5,_)] [_] t4 rfl (Ze (Za (xM (h:=xM (h:=xV Tryz.underlying68 (h:=ZJ (h:=Zc rfl (fun g1=>?_) (fun g1=>?_))))))))
 try simp only [sQ,ne_eq] at g1
 refine Zf (Zd (Ze (Zl (Za (xM (h:=xM (h:=xM (h:=xR Zd9 rfl (Zac (k+2*g.1) oz _) (h:=?_)))))))))
 obtain ⟨z1,hz1⟩:=ZY (xs:=g.2.2) (i:=g.1) om
 obtain ⟨bb4,_,hp4,⟨rfl,hb4⟩,hw4,hc4⟩:=hw.row hz1
 refine xIp hp4 Tryz.underlying68 Zdh (h:=xW ZbZ (h:=Zp (Zgs (k:=g.1) (off:=0) (⟨ZQ (k+2*g.1),z1.rights⟩) [_] 0 hw hp4 hz1 rfl rfl sz9 rfl rfl rfl rfl rfl rfl (by rintro _ ⟨rfl,e1⟩;exact ⟨rfl,show (ZQ (k+2*g.1)).length≤2000000 from Nat.le_trans (ZbT (k:=k+2*g.1) oz) (by decide)⟩) (fun l5 hv5=>?_))))
 refine ZE [_] rfl (Za (xM (h:=xD (h:=xA (h:=Za (xM (h:=xM (h:=xM (h:=?_)))))))))
 obtain ⟨z2,hz2⟩:=ZY (xs:=(g.2.2.set g.1 (⟨ZQ (k+2*g.1),z1.rights⟩))) (i:=g.1) om
 obtain ⟨bb7,_,hp7,⟨rfl,hb7⟩,hw7,hc7⟩:=hv5.row hz2
 refine xIp hp7 Tryz.underlying68 Zdh (h:=xW Zc0 (h:=Zp (Zgs (k:=g.1) (off:=1) (⟨z2.user,((k+2*g.1+1:Nat):Int)⟩) [_] 0 hv5 hp7 hz2 rfl rfl sz3 rfl rfl rfl rfl rfl rfl (by rintro _ ⟨rfl,e1⟩;exact ⟨rfl,e1⟩) (fun l8 hv8=>?_))))
 refine ZE [_] rfl (Zk (xM (h:=xD (h:=xA (h:=ZS (Zd (Zk (xM (h:=xD (h:=xA (h:=?_)))))))))))
 exact ZG (g.1+1,l8,((g.2.2.set g.1 (⟨ZQ (k+2*g.1),z1.rights⟩)).set g.1 (⟨z2.user,((k+2*g.1+1:Nat):Int)⟩))) [0] so2 ⟨rfl,so,by simp only [List.length_set];exact hle,Ziu ht hz1 hz2,hv8⟩ t4 rfl
 try simp only [sQ,ne_eq] at g1
 have he:=ZlS ht oz
 have hgi:g.1=xs.length:=by omega
 rw [hgi] at he
 refine ZH (Z0 (ZM (Zx (Zd (Za (xM (h:=xA (h:=Zh ?_))))))))
 exact Zbe .ret (.inl rfl) [_] [0] rfl t1 ⟨rfl,_,rfl,by rw [hgi];rfl,by rw [← he];exact hw⟩

set_option maxHeartbeats 400000 in
theorem ZkJ (q:Option Addr) (cp:Nat) (xs:List DUser) (l:Cells) (k:Nat) (hk:k≤900000000000000) (hn:xs.length≤2000000) (B:Kn) (hv:ZU B l q cp 123 3 Zn xs):Zz (pj J) 49 [.slice q xs.length cp,.int .i64 k] B [l] (fun v B' Ls=>B'=B∧∃l',Ls=[l']∧v = .int .i64 ((k+3*xs.length:Nat):Int)∧ZU B l' q cp 123 3 Zn (Zca k xs.length)):=by
 refine Zb 36 Tryz.func49 rfl rfl rfl (Nat.le_of_ble_eq_true rfl) ?_
 have hvc:=hv.cap
 refine Za (xA (h:=Ze (Za (xA (h:=Zl (ZC (α:=Nat × Cells × List DUser) [4] (fun g=>[(0,.slice q xs.length cp),(1,.int .i64 ((k+3*g.1:Nat):Int)),(5,.int .i64 g.1)]) [0] (fun g=>[g.2.1]) (fun g Bx=>Bx=B∧g.1≤xs.length∧g.2.2.length=xs.length∧g.2.2.take g.1=Zca k g.1∧ZU Bx g.2.1 q cp 123 3 Zn g.2.2) (fun g=>xs.length - g.1) (0,l,xs) t3 rfl (⟨rfl,Nat.zero_le _,rfl,rfl,hv⟩) (fun g B1 hle1 hI=>?_)))))))
 obtain ⟨rfl,hi,hle,ht,hw⟩:=hI
 refine ZF [(0,_),(1,_),(4,_),(5,_)] [_] t4 rfl (Ze (Za (xM (h:=xM (h:=xV Tryz.underlying30 (h:=ZJ (h:=Zc rfl (fun g1=>?_) (fun g1=>?_))))))))
 try simp only [sQ,ne_eq] at g1
 refine Zf (Zd (Ze (Zl (Za (xM (h:=xM (h:=xM (h:=xR Zd9 rfl (Zac (k+3*g.1) oz _) (h:=?_)))))))))
 obtain ⟨z1,hz1⟩:=ZY (xs:=g.2.2) (i:=g.1) om
 obtain ⟨bb4,_,hp4,⟨rfl,hb4,hb4b⟩,hw4,hc4⟩:=hw.row hz1
 refine xIp hp4 Tryz.underlying30 Za3 (h:=xW ZaV (h:=Zp (Zgs (k:=g.1) (off:=0) (⟨ZQ (k+3*g.1),z1.pass,z1.quota⟩) [_] 0 hw hp4 hz1 rfl rfl sz9 rfl rfl rfl rfl rfl rfl (by rintro _ ⟨rfl,e1,e2⟩;exact ⟨rfl,show (ZQ (k+3*g.1)).length≤2000000 from Nat.le_trans (ZbT (k:=k+3*g.1) oz) (by decide),e2⟩) (fun l5 hv5=>?_))))
 refine ZE [_] rfl (Za (xM (h:=xD (h:=xA (h:=Za (xM (h:=xM (h:=xM (h:=xR Zd9 rfl (Zac ((k+3*g.1)+1) oz _) (h:=?_))))))))))
 obtain ⟨z2,hz2⟩:=ZY (xs:=(g.2.2.set g.1 (⟨ZQ (k+3*g.1),z1.pass,z1.quota⟩))) (i:=g.1) om
 obtain ⟨bb8,_,hp8,⟨rfl,hb8,hb8b⟩,hw8,hc8⟩:=hv5.row hz2
 refine xIp hp8 Tryz.underlying30 Za3 (h:=xW Zfg (h:=Zp (Zgs (k:=g.1) (off:=1) (⟨z2.name,ZQ (k+3*g.1+1),z2.quota⟩) [_] 0 hv5 hp8 hz2 rfl rfl sz9 rfl rfl rfl rfl rfl rfl (by rintro _ ⟨rfl,e1,e2⟩;exact ⟨rfl,e1,show (ZQ (k+3*g.1+1)).length≤2000000 from Nat.le_trans (ZbT (k:=k+3*g.1+1) oz) (by decide)⟩) (fun l9 hv9=>?_))))
 refine ZE [_] rfl (Za (xM (h:=xD (h:=xA (h:=Za (xM (h:=xM (h:=xM (h:=?_)))))))))
 obtain ⟨z3,hz3⟩:=ZY (xs:=((g.2.2.set g.1 (⟨ZQ (k+3*g.1),z1.pass,z1.quota⟩)).set g.1 (⟨z2.name,ZQ (k+3*g.1+1),z2.quota⟩))) (i:=g.1) om
 obtain ⟨bb11,_,hp11,⟨rfl,hb11,hb11b⟩,hw11,hc11⟩:=hv9.row hz3
 refine xIp hp11 Tryz.underlying30 Za3 (h:=xW Zc1 (h:=Zp (Zgs (k:=g.1) (off:=2) (⟨z3.name,z3.pass,((k+3*g.1+1+1:Nat):Int)⟩) [_] 0 hv9 hp11 hz3 rfl rfl sz3 rfl rfl rfl rfl rfl rfl (by rintro _ ⟨rfl,e1,e2⟩;exact ⟨rfl,e1,e2⟩) (fun l12 hv12=>?_))))
 refine ZE [_] rfl (Zk (xM (h:=xD (h:=xA (h:=ZS (Zd (Zk (xM (h:=xD (h:=xA (h:=?_)))))))))))
 exact ZG (g.1+1,l12,(((g.2.2.set g.1 (⟨ZQ (k+3*g.1),z1.pass,z1.quota⟩)).set g.1 (⟨z2.name,ZQ (k+3*g.1+1),z2.quota⟩)).set g.1 (⟨z3.name,z3.pass,((k+3*g.1+1+1:Nat):Int)⟩))) [0] so2 ⟨rfl,so,by simp only [List.length_set];exact hle,Zjw ht hz1 hz2 hz3,hv12⟩ t4 rfl
 try simp only [sQ,ne_eq] at g1
 have he:=ZlS ht oz
 have hgi:g.1=xs.length:=by omega
 rw [hgi] at he
 refine ZH (Z0 (ZM (Zx (Zd (Za (xM (h:=xA (h:=Zh ?_))))))))
 exact Zbe .ret (.inl rfl) [_] [0] rfl t1 ⟨rfl,_,rfl,by rw [hgi];rfl,by rw [← he];exact hw⟩

set_option maxHeartbeats 400000 in
theorem Ziw (q:Option Addr) (cp:Nat) (xs:List Str) (l:Cells) (k:Nat) (hk:k≤900000000000000) (hn:xs.length≤2000000) (B:Kn) (hv:ZU B l q cp 9 1 Zc5 xs):Zz (pj J) 64 [.slice q xs.length cp,.int .i64 k] B [l] (fun v B' Ls=>B'=B∧∃l',Ls=[l']∧v = .int .i64 ((k+1*xs.length:Nat):Int)∧ZU B l' q cp 9 1 Zc5 (ZcW k xs.length)):=by
 refine Zb 20 Tryz.func64 rfl rfl rfl (Nat.le_of_ble_eq_true rfl) ?_
 have hvc:=hv.cap
 refine Za (xA (h:=Ze (Za (xA (h:=Zl (ZC (α:=Nat × Cells × List Str) [4] (fun g=>[(0,.slice q xs.length cp),(1,.int .i64 ((k+1*g.1:Nat):Int)),(5,.int .i64 g.1)]) [0] (fun g=>[g.2.1]) (fun g Bx=>Bx=B∧g.1≤xs.length∧g.2.2.length=xs.length∧g.2.2.take g.1=ZcW k g.1∧ZU Bx g.2.1 q cp 9 1 Zc5 g.2.2) (fun g=>xs.length - g.1) (0,l,xs) t3 rfl (⟨rfl,Nat.zero_le _,rfl,rfl,hv⟩) (fun g B1 hle1 hI=>?_)))))))
 obtain ⟨rfl,hi,hle,ht,hw⟩:=hI
 refine ZF [(0,_),(1,_),(4,_),(5,_)] [_] t4 rfl (Ze (Za (xM (h:=xM (h:=xV Tryz.underlying43 (h:=ZJ (h:=Zc rfl (fun g1=>?_) (fun g1=>?_))))))))
 try simp only [sQ,ne_eq] at g1
 refine Zf (Zd (Ze (Zl (Za (xM (h:=xM (h:=xM (h:=xR Zd9 rfl (Zac (k+1*g.1) oz _) (h:=?_)))))))))
 obtain ⟨z1,hz1⟩:=ZY (xs:=g.2.2) (i:=g.1) om
 obtain ⟨bb4,_,hp4,⟨rfl,hb4⟩,hw4,hc4⟩:=hw.row hz1
 refine xIp hp4 Tryz.underlying43 sz9 (h:=Zp (Zgs (k:=g.1) (off:=0) (ZQ (k+1*g.1)) [_] 0 hw hp4 hz1 rfl rfl sz9 rfl rfl rfl rfl rfl rfl (by rintro _ ⟨rfl,e1⟩;exact ⟨rfl,show (ZQ (k+1*g.1)).length≤2000000 from Nat.le_trans (ZbT (k:=k+1*g.1) oz) (by decide)⟩) (fun l5 hv5=>?_)))
 refine ZE [_] rfl (Zk (xM (h:=xD (h:=xA (h:=ZS (Zd (Zk (xM (h:=xD (h:=xA (h:=?_)))))))))))
 exact ZG (g.1+1,l5,(g.2.2.set g.1 (ZQ (k+1*g.1)))) [0] so2 ⟨rfl,so,by simp only [List.length_set];exact hle,ZkE ht hz1,hv5⟩ t4 rfl
 try simp only [sQ,ne_eq] at g1
 have he:=ZlS ht oz
 have hgi:g.1=xs.length:=by omega
 rw [hgi] at he
 refine ZH (Z0 (ZM (Zx (Zd (Za (xM (h:=xA (h:=Zh ?_))))))))
 exact Zbe .ret (.inl rfl) [_] [0] rfl t1 ⟨rfl,_,rfl,by rw [hgi];rfl,by rw [← he];exact hw⟩

set_option maxHeartbeats 400000 in
theorem ZiA (k:Nat) (hk:k<6) (B:Kn):Z9 (pj J) 179 [.int .i64 k] B (.int .i64 (Zb2 k)):=by
 refine Zb 7 Tryz.func179 rfl rfl rfl (Nat.le_of_ble_eq_true rfl) ?_
 refine Za (xA (h:=Za (xBs [(0,_),(1,_),(2,_),(3,_),(4,_),(5,_)] [_,_,_,_,_,_] Tryz.underlying252 sz3 zo3 (h:=fun b1=>?_))))
 have hvq:ZU B (Zae b1 (([1,2,4,8,16,32]:List Int).map fun x=>.int .i64 x) 3) (some ⟨b1,0,none⟩) 6 3 1 Zdo ([1,2,4,8,16,32]:List Int):=ZU.ints
 refine xM (h:=?_)
 obtain ⟨e,he⟩:=ZY (xs:=([1,2,4,8,16,32]:List Int)) (i:=k) om
 obtain ⟨bb3,_,hp3,rfl,hw3,hc3⟩:=hvq.row he
 refine xIp hp3 Tryz.underlying252 sz3 (h:=Zp (Zr rfl rfl lk3 rfl (hc3 _ 0 rfl 0 _ rfl) (xA (h:=ZE [_] rfl (Zh ?_)))))
 exact ZB .ret (.inl rfl) [_] t1 ⟨ZI (Zqe he),rfl,rfl⟩

set_option maxHeartbeats 400000 in
theorem Zsu (q:Option Addr) (cp:Nat) (gs:List DGrant) (u:Str) (hr :∀y,y∈gs→0≤y.rights∧y.rights≤63) (B:Kn) (hg:SlK B q cp 2 ZW gs):Z9 (pj J) 145 [.slice q gs.length cp,str u] B (.int .i64 (Za6 gs u)):=by
 refine Zb 55 Tryz.func145 rfl rfl rfl (Nat.le_of_ble_eq_true rfl) ?_
 have hgn:=hg.len
 refine Za (xA (h:=Za (xA (h:=Ze (Za (xA (h:=Zl (ZC (α:=Nat × Int) [0,1,4] (fun g=>[(5,.int .i64 g.2),(6,.int .i64 g.1)]) [] (fun g=>[]) (fun g Bx=>Bx=B∧g.1≤6∧g.2=ZeT gs u g.1) (fun g=>6 - g.1) (0,0) t2 rfl (⟨rfl,oz,rfl⟩) (fun g B1 hle1 hI=>?_)))))))))
 obtain ⟨rfl,hk,hs⟩:=hI
 have hbd:=Zhs gs u g.1 hk
 refine ZF [(0,_),(1,_),(4,_),(5,_),(6,_)] [] t5 rfl (Ze (Za (xM (h:=ZJ (h:=Zc rfl (fun g1=>?_) (fun g1=>?_))))))
 try simp only [sQ,ne_eq] at g1
 have hp:=Zpv (k:=g.1) oz
 refine Zf (Zd (Ze (Zl (Za (xA (h:=Ze (Za (xA (h:=Zl (ZC (α:=Nat × Bool) [0,1,4,5,6,10] (fun o=>[(7,.bool o.2),(8,.int .i64 o.1)]) [] (fun o=>[]) (fun o Bx=>Bx=B1∧o.1≤gs.length∧o.2=(gs.take o.1).any (onB u (Zb2 g.1))) (fun o=>gs.length - o.1) (0,false) t2 rfl (⟨rfl,Nat.zero_le _,rfl⟩) (fun o B2 hle2 hI=>?_)))))))))))
 obtain ⟨rfl,ho,hon⟩:=hI
 refine ZF [(0,_),(1,_),(4,_),(5,_),(6,_),(7,_),(8,_),(10,_)] [] t8 rfl (Ze (Za (xM (h:=xM (h:=xV Tryz.underlying68 (h:=ZJ (h:=Zc rfl (fun g2=>?_) (fun g2=>?_))))))))
 try simp only [sQ,ne_eq] at g2
 obtain ⟨x,hx⟩:=ZY (xs:=gs) (i:=o.1) oz
 have hrx:=hr x (List.mem_of_getElem? hx)
 refine Zf (Zd (Ze (Zl (Z8 (same _ _) mo kr ⟨rfl,rfl⟩ (fun _ _=>?_)))))
 refine aM 0 rfl (h:=aM 1 rfl (h:=Zav (d:=20) rfl (fun g3=>?_) (fun g3=>?_)))
 try simp only [sQ,ne_eq] at g3
 refine aZ 2 rfl (h:=aZ 3 rfl (h:=aZ 4 rfl (h:=aZ 5 rfl (h:=aZ 6 rfl (h:=aZ 7 rfl (h:=aZ 8 rfl (h:=aZ 9 rfl (h:=aZ 10 rfl (h:=aZ 11 rfl (h:=aZ 12 rfl (h:=aZ 13 rfl (h:=aZ 14 rfl (h:=?_)))))))))))))
 refine aZ 15 rfl (h:=aZ 16 rfl (h:=aZ 17 rfl (h:=aZ 18 rfl (h:=aZ 19 rfl (h:=aZ 20 rfl (h:=aZ 21 rfl (h:=aZ 22 rfl (h:=aZ 23 rfl (h:=aZ 24 rfl (h:=aZ 25 rfl (h:=aZ 26 rfl (h:=aZ 27 rfl (h:=?_)))))))))))))
 refine aZ 28 rfl (h:=aPT 29 rfl (h:=aA 30 rfl (h:=ZA kr kr ?_)))
 refine ZS (Zd (Zk (xM (h:=xD (h:=xA (h:=?_))))))
 exact ZG (o.1+1,true) [] so2 ⟨rfl,so,by rw [ZgG hx,← hon,g3];rfl⟩ t8 rfl
 try simp only [sQ,ne_eq] at g3
 refine aM 2 rfl (h:=aM 3 rfl (h:=?_))
 obtain ⟨bb3,oo3,rfl⟩:=hg.base hx
 obtain ⟨_,⟨rfl,hb4⟩,hc4⟩:=hg.elem hx
 refine aIx 4 rfl Tryz.underlying68 Zdh (h:=aW 5 rfl ZbZ (h:=aT 6 rfl (Zab fun D=>Zr rfl rfl lk9 rfl (hc4 _ 0 _ rfl) r4) (h:=aM 7 rfl (h:=ZpB 8 rfl (h:=aM 9 rfl (h:=Zav (d:=28) rfl (fun g4=>?_) (fun g4=>?_)))))))
 try simp only [sQ,ne_eq] at g4
 refine aZ 10 rfl (h:=aZ 11 rfl (h:=aZ 12 rfl (h:=aZ 13 rfl (h:=aZ 14 rfl (h:=aZ 15 rfl (h:=aPT 16 rfl (h:=aM 17 rfl (h:=aM 18 rfl (h:=aM 19 rfl (h:=aIx 20 rfl Tryz.underlying68 Zdh (h:=aW 21 rfl Zc0 (h:=aT 22 rfl (Zab fun D=>Zr rfl rfl lk3 rfl (hc4 _ 1 _ rfl) r4) (h:=?_)))))))))))))
 refine aM 23 rfl (h:=aT 24 rfl (Zab fun D=>Zaf rfl rfl Zs2 rfl (ZiA g.1 om2 _) r4) (h:=?_))
 refine aT 25 rfl (Zab fun D=>Znr (a:=x.rights) (b:=(Zb2 g.1)) (r:=Int.tdiv x.rights (Zb2 g.1)) rfl rfl rfl rfl oz (Zn5 oz oz oz) r4) (h:=?_)
 refine aT 26 rfl (Zab fun D=>ZpO (a:=(Int.tdiv x.rights (Zb2 g.1))) (b:=2) (r:=Int.tmod (Int.tdiv x.rights (Zb2 g.1)) 2) rfl rfl rfl rfl (by decide) rfl r4) (h:=?_)
 refine ZpC 27 rfl (h:=aPT 28 rfl (h:=aPF 29 rfl (h:=aA 30 rfl (h:=ZA kr kr ?_))))
 refine ZS (Zd (Zk (xM (h:=xD (h:=xA (h:=?_))))))
 exact ZG (o.1+1,decide (Int.tmod (Int.tdiv x.rights (Zb2 g.1)) 2=1)) [] so2 ⟨rfl,so,by rw [ZgG hx,← hon,g3,onB];simp [g4]⟩ t8 rfl
 try simp only [sQ,ne_eq] at g4
 refine aM 10 rfl (h:=aM 11 rfl (h:=aIx 12 rfl Tryz.underlying68 Zdh (h:=aW 13 rfl ZbZ (h:=aT 14 rfl (Zab fun D=>Zr rfl rfl lk9 rfl (hc4 _ 0 _ rfl) r4) (h:=ZpB 15 rfl (h:=aPF 16 rfl (h:=aM 17 rfl (h:=Zav (d:=36) rfl (fun g5=>?_) (fun g5=>?_)))))))))
 try simp only [sQ,ne_eq] at g5
 refine aM 18 rfl (h:=aM 19 rfl (h:=aIx 20 rfl Tryz.underlying68 Zdh (h:=aW 21 rfl Zc0 (h:=aT 22 rfl (Zab fun D=>Zr rfl rfl lk3 rfl (hc4 _ 1 _ rfl) r4) (h:=aM 23 rfl (h:=aT 24 rfl (Zab fun D=>Zaf rfl rfl Zs2 rfl (ZiA g.1 om2 _) r4) (h:=?_)))))))
 refine aT 25 rfl (Zab fun D=>Znr (a:=x.rights) (b:=(Zb2 g.1)) (r:=Int.tdiv x.rights (Zb2 g.1)) rfl rfl rfl rfl oz (Zn5 oz oz oz) r4) (h:=?_)
 refine aT 26 rfl (Zab fun D=>ZpO (a:=(Int.tdiv x.rights (Zb2 g.1))) (b:=2) (r:=Int.tmod (Int.tdiv x.rights (Zb2 g.1)) 2) rfl rfl rfl rfl (by decide) rfl r4) (h:=?_)
 refine ZpC 27 rfl (h:=aPT 28 rfl (h:=aPF 29 rfl (h:=aA 30 rfl (h:=ZA kr kr ?_))))
 refine ZS (Zd (Zk (xM (h:=xD (h:=xA (h:=?_))))))
 exact ZG (o.1+1,decide (Int.tmod (Int.tdiv x.rights (Zb2 g.1)) 2=1)) [] so2 ⟨rfl,so,by rw [ZgG hx,← hon,g3,onB];simp [g5,anyone]⟩ t8 rfl
 try simp only [sQ,ne_eq] at g5
 refine aZ 18 rfl (h:=aZ 19 rfl (h:=aZ 20 rfl (h:=aZ 21 rfl (h:=aZ 22 rfl (h:=aZ 23 rfl (h:=aZ 24 rfl (h:=aZ 25 rfl (h:=aZ 26 rfl (h:=aZ 27 rfl (h:=aPF 28 rfl (h:=aPF 29 rfl (h:=aA 30 rfl (h:=?_)))))))))))))
 refine ZA kr kr ?_
 refine ZS (Zd (Zk (xM (h:=xD (h:=xA (h:=?_))))))
 exact ZG (o.1+1,false) [] so2 ⟨rfl,so,by rw [ZgG hx,← hon,g3,onB];simp [g4,g5,anyone]⟩ t8 rfl
 try simp only [sQ,ne_eq] at g2
 have hae:=Ztd hon oz
 refine ZH (Z0 (ZM (Zx (Zd (Za (xM (h:=Zc rfl (fun g6=>?_) (fun g6=>?_))))))))
 try simp only [sQ,ne_eq] at g6
 refine Zk (xM (h:=xM (h:=xR Zs2 rfl (ZiA g.1 om2 _) (h:=?_))))
 refine xD (h:=xA (h:=ZS (Zd (Zk (xM (h:=xD (h:=xA (h:=?_))))))))
 exact ZG (g.1+1,g.2+Zb2 g.1) [] so2 ⟨rfl,so,by simp only [ZeT];rw [← hae,if_pos g6,hs]⟩ t5 rfl
 try simp only [sQ,ne_eq] at g6
 refine Zf (ZS (Zd (Zk (xM (h:=xD (h:=xA (h:=?_)))))))
 exact ZG (g.1+1,g.2) [] so2 ⟨rfl,so,by simp only [ZeT];rw [← hae,if_neg (by simp [g6]),hs]⟩ t5 rfl
 try simp only [sQ,ne_eq] at g1
 refine ZH (Z0 (ZM (Zx (Zd (Za (xM (h:=xA (h:=Zh ?_))))))))
 exact ZB .ret (.inl rfl) [_] t1 ⟨ZI (by rw [hs,show g.1=6 from by omega];rfl),rfl,rfl⟩

set_option maxHeartbeats 400000 in
theorem ZlV (q1 q2 q3:Option Addr) (c1 c2 c3:Nat) (x:DHost) (k:Int) (u:Str) (r:Int) (f:DFolder) (hk0:0≤k) (hk:x.folders[k.toNat]? = some f) (hrr:Zi0 x.folders) (h1:0<r) (B:Kn) (hf:SlK B q2 c2 5 Zj x.folders):Z9 (pj J) 93 [.agg #[str x.domain,.slice q1 x.users.length c1,.slice q2 x.folders.length c2,.int .i64 x.queue.next,.slice q3 x.queue.items.length c3],.int .i64 k,str u,.int .i64 r] B (.bool (Zmb f u r)):=by
 refine Zb 31 Tryz.func93 rfl rfl rfl (Nat.le_of_ble_eq_true rfl) ?_
 have hfn:=hf.len
 have hkl:=(List.getElem?_eq_some_iff.1 hk).1
 have hrb:=Zkw f.grants u
 refine Za (xBx [_,_,_,_,_] (h:=fun b1=>xA (h:=ZE [_] rfl (Za (xM (h:=xW Zar (h:=x1 Zew 0 (h:=xM (h:=?_)))))))))
 obtain ⟨bb2,oo2,rfl⟩:=hf.base hk
 obtain ⟨_,⟨qg3,cg3,qm3,cm3,rfl,hg3,hm3,hb3,hb3b⟩,hc3⟩:=hf.elem hk
 have hg3n:=hg3.len
 have hm3n:=hm3.len
 have hm3s:=Zal hm3
 refine xIx Tryz.underlying31 ZbO (h:=xW Zbw (h:=y1 lk9 hc3 0 (h:=Zdp (h:=xM (h:=Zw (d:=17) rfl (fun g1=>?_) (fun g1=>?_))))))
 try simp only [sQ,ne_eq] at g1
 refine xP (h:=xP (h:=xP (h:=xP (h:=xP (h:=xP (h:=xP (h:=xP (h:=xP (h:=xP (h:=xP (h:=xP (h:=xT (h:=?_)))))))))))))
 refine xA (h:=Zh ?_)
 exact ZB .ret (.inl rfl) [_] t1 ⟨Zg (by simp [Zmb,g1]),rfl,rfl⟩
 try simp only [sQ,ne_eq] at g1
 refine xW Zar (h:=x1 Zew 0 (h:=xM (h:=xIx Tryz.underlying31 ZbO (h:=xW Zdy (h:=y1 ZpI hc3 2 (h:=xM (h:=xR Zwz rfl (Zsu _ _ f.grants u (by first | assumption | exact hrr _ (List.mem_of_getElem? (oy))) _ hg3) (h:=?_))))))))
 refine xM (h:=Zp (Znr (a:=(Za6 f.grants u)) (b:=r) (r:=Int.tdiv (Za6 f.grants u) r) rfl rfl rfl rfl oz (Zn5 oz oz oz) ?_))
 refine Zp (ZpO (a:=(Int.tdiv (Za6 f.grants u) r)) (b:=2) (r:=Int.tmod (Int.tdiv (Za6 f.grants u) r) 2) rfl rfl rfl rfl (by decide) rfl ?_)
 refine Zlr (h:=xF (h:=xA (h:=Zh ?_)))
 exact ZB .ret (.inl rfl) [_] t1 ⟨Zg (by simp [Zmb,g1]),rfl,rfl⟩

set_option maxHeartbeats 400000 in
theorem ZmM (q1 q2 q3:Option Addr) (c1 c2 c3:Nat) (x:DHost) (u:Str) (k r:Int) (hk:k<x.folders.length) (hrr:Zi0 x.folders) (h1:0<r) (B:Kn) (hu:SlK B q1 c1 3 Zn x.users) (hf:SlK B q2 c2 5 Zj x.folders):Z9 (pj J) 34 [.agg #[str x.domain,.slice q1 x.users.length c1,.slice q2 x.folders.length c2,.int .i64 x.queue.next,.slice q3 x.queue.items.length c3],str u,.int .i64 k,.int .i64 r] B (.int .i64 (Zpp x.users x.folders u k r)):=by
 refine Zb 32 Tryz.func34 rfl rfl rfl (Nat.le_of_ble_eq_true rfl) ?_
 refine Za (xBx [_,_,_,_,_] (h:=fun b1=>xA (h:=ZE [_] rfl (Ze (Zl (Za (xW Zbn (h:=x1 ZhA 0 (h:=xM (h:=xR Zus rfl (Zeh _ _ _ _ _ hu) (h:=ZJ (h:=xM (h:=?_)))))))))))))
 refine Zw (d:=15) rfl (fun g1=>?_) (fun g1=>?_)
 try simp only [sQ,ne_eq] at g1
 refine xP (h:=xP (h:=xT (h:=xA (h:=Zc (t:=true) rfl (fun _=>Za (xA (h:=Zh (ZD (Zq ?_))))) (fun h=>Bool.noConfusion h)))))
 exact ZB .ret (.inl rfl) [_] t1 ⟨ZI (ZiU (.inl g1)).symm,rfl,rfl⟩
 try simp only [sQ,ne_eq] at g1
 refine xM (h:=ZJ (h:=xF (h:=xA (h:=Zc rfl (fun g2=>?_) (fun g2=>?_)))))
 try simp only [sQ,ne_eq] at g2
 refine Za (xA (h:=Zh (ZD (Zq ?_))))
 exact ZB .ret (.inl rfl) [_] t1 ⟨ZI (ZiU (.inr g2)).symm,rfl,rfl⟩
 try simp only [sQ,ne_eq] at g2
 have hfn:=hf.len
 obtain ⟨f,hf0⟩ :∃f,x.folders[k.toNat]? = some f:=⟨_,List.getElem?_eq_getElem oz⟩
 have hce:=Zpo (us:=x.users) (u:=u) (r:=r) oz hf0
 refine Za (xL [_,_,_,_,_] Zcx 0 (h:=xM (h:=xM (h:=xR Zxm rfl (ZlV _ _ _ _ _ _ x k u 1 _ oz (oy) hrr oz _ hf) (h:=?_)))))
 refine xN (h:=xA (h:=Zc rfl (fun g3=>?_) (fun g3=>?_)))
 try simp only [sQ,ne_eq] at g3
 refine Za (xA (h:=Zh (ZD (Zq ?_))))
 exact ZB .ret (.inl rfl) [_] t1 ⟨ZI (by rw [hce,if_pos g3]),rfl,rfl⟩
 try simp only [sQ,ne_eq] at g3
 refine Za (xL [_,_,_,_,_] Zcx 0 (h:=xM (h:=xM (h:=xM (h:=xR Zxm rfl (ZlV _ _ _ _ _ _ x k u r _ oz (oy) hrr oz _ hf) (h:=?_))))))
 refine xN (h:=xA (h:=Zc rfl (fun g4=>?_) (fun g4=>?_)))
 try simp only [sQ,ne_eq] at g4
 refine Za (xA (h:=Zh (ZD (Zq ?_))))
 exact ZB .ret (.inl rfl) [_] t1 ⟨ZI (by rw [hce,if_neg (by simp [g3]),if_pos g4]),rfl,rfl⟩
 try simp only [sQ,ne_eq] at g4
 refine Zf (ZS (Zd (Za (xA (h:=Zh ?_)))))
 exact ZB .ret (.inl rfl) [_] t1 ⟨ZI (by rw [hce,if_neg (by simp [g3]),if_neg (by simp [g4])]),rfl,rfl⟩

set_option maxHeartbeats 400000 in
theorem ZjJ (q:Option Addr) (cp:Nat) (x:DBox) (B:Kn) (hm:SlK B q cp 3 ZZ x.mail):Zz (pj J) 144 [.agg #[.int .i64 x.next,.slice q x.mail.length cp]] B [] (fun v B' Ls=>B'=B∧∃l a c,Ls=[l]∧v = .agg #[.int .i64 x.next,.slice a x.mail.length c]∧ZU B l a c 205 3 ZZ x.mail):=by
 refine Zb 9 Tryz.func144 rfl rfl rfl (Nat.le_of_ble_eq_true rfl) ?_
 have hxn:=hm.len
 refine Za (xBx [_,_] (h:=fun b1=>xAl [_,_] Znl (h:=fun b2=>ZE [_,_] rfl (Za (xBs [] [] Tryz.underlying71 Zcs ZfT (h:=fun b3=>xW Zbd (h:=x1 ZhX 0 (h:=Zp (Zb0 (R:=ZZ) 2 rfl (ZU.lit0 (R:=ZZ)) rfl rfl rfl Zth ZuR rfl rfl rfl hm.rows ZZ.one rfl om (fun l4 p4 c4 hv4=>?_))))))))))
 refine xW Zbd (h:=xS [_] 0 [_,_] Zvn (h:=ZE [_,_,_] rfl (Za (xL [_,_] Zfa 0 (h:=xS [_,_] 1 [_,_] Zjg (h:=ZE [_,_,_] rfl (Zh ?_)))))))
 exact Zbe .ret (.inl rfl) [_] [2] rfl ⟨⟨_,rfl,.inr ⟨[_,_],Zfa,Zb1 1 rfl rfl rfl,rfl⟩⟩,trivial⟩ ⟨rfl,_,_,_,rfl,rfl,hv4⟩

set_option maxHeartbeats 400000 in
theorem ZkR (qa qb:Option Addr) (ca cb:Nat) (x:DFolder) (B:Kn) (hg:SlK B qa ca 2 ZW x.grants) (hm:SlK B qb cb 3 ZZ x.mail):Zz (pj J) 92 [.agg #[str x.owner,str x.name,.slice qa x.grants.length ca,.int .i64 x.next,.slice qb x.mail.length cb]] B [] (fun v B' Ls=>B'=B∧∃l a c l' a' c',Ls=[l,l']∧v = .agg #[str x.owner,str x.name,.slice a x.grants.length c,.int .i64 x.next,.slice a' x.mail.length c']∧ZU B l a c 133 2 ZW x.grants∧ZU B l' a' c' 205 3 ZZ x.mail):=by
 refine Zb 13 Tryz.func92 rfl rfl rfl (Nat.le_of_ble_eq_true rfl) ?_
 have hgn:=hg.len
 have hmn:=hm.len
 refine Za (xBx [_,_,_,_,_] (h:=fun b1=>xAl [_,_,_,_,_] ZfR (h:=fun b2=>ZE [_,_] rfl (Za (xBs [] [] Tryz.underlying68 Zdh Zme (h:=fun b3=>xW Zdy (h:=x1 ZpI 0 (h:=Zp (Zb0 (R:=ZW) 2 rfl (ZU.lit0 (R:=ZW)) rfl rfl rfl ZvF Zxa rfl rfl rfl hg.rows ZW.one rfl om (fun l4 p4 c4 hv4=>?_))))))))))
 refine xW Zdy (h:=xS [_] 0 [_,_,_,_,_] Zvo (h:=ZE [_,_,_] rfl (Za (xW ZbY (h:=xL [_,_] Zfa 0 (h:=Zp (ZV rfl rfl Zuw rfl (ZjJ _ _ (⟨x.next,x.mail⟩:DBox) _ hm) ?_)))))))
 rintro _ B5 _ hle5 ⟨hB5,l5,a5,c5,rfl,rfl,hs5⟩
 have hB5:=hB5.symm
 subst hB5
 refine xW ZbY (h:=xS [_,_] 0 [_,_,_,_,_] Zjg (h:=ZE [_,_,_,_] rfl (Za (xL [_,_,_,_,_] Zhx 0 (h:=xS [_,_,_,_,_] 1 [_,_,_,_,_] ZbO (h:=ZE [_,_,_,_] rfl (Zh ?_)))))))
 exact Zbe .ret (.inl rfl) [_] [2,3] rfl ⟨⟨_,rfl,.inr ⟨[_,_,_,_,_],Zhx,Zb1 1 rfl rfl rfl,rfl⟩⟩,trivial⟩ ⟨rfl,_,_,_,_,_,_,rfl,rfl,hv4,hs5⟩

set_option maxHeartbeats 400000 in
theorem ZjI (q1 q2 q3:Option Addr) (c1 c2 c3:Nat) (x:DHost) (B:Kn) (hu:SlK B q1 c1 3 Zn x.users) (hf:SlK B q2 c2 5 Zj x.folders) (hi:SlK B q3 c3 4 Zu x.queue.items):Zz (pj J) 32 [.agg #[str x.domain,.slice q1 x.users.length c1,.slice q2 x.folders.length c2,.int .i64 x.queue.next,.slice q3 x.queue.items.length c3]] B [] (fun v B' Ls=>∃l a c p1 d1 p3 d3,Ls=[l]∧v = .agg #[str x.domain,.slice p1 x.users.length d1,.slice a x.folders.length c,.int .i64 x.queue.next,.slice p3 x.queue.items.length d3]∧SlK B' p1 d1 3 Zn x.users∧ZU B' l a c 75 5 Zj x.folders∧SlK B' p3 d3 4 Zu x.queue.items):=by
 refine Zb 35 Tryz.func32 rfl rfl rfl (Nat.le_of_ble_eq_true rfl) ?_
 have hun:=hu.len
 have hfn:=hf.len
 have hin:=hi.len
 refine Za (xBx [_,_,_,_,_] (h:=fun b1=>xAl [_,_,_,_,_] Zch (h:=fun b2=>ZE [_,_] rfl (Ztr (α:=GHC × Gh DFolder) [0,1,2] (fun o=>[(3,ptr ⟨o.1.b,0,none⟩)]) (fun o=>[Zae b1 [str x.domain,.slice q1 x.users.length c1,.slice q2 x.folders.length c2,.int .i64 x.queue.next,.slice q3 x.queue.items.length c3] 36,Zae b2 [str [],.slice none 0 0,.slice none 0 0,.int .i64 0,.slice none 0 0] 36,o.2.l,Zae o.1.b [str x.domain,.slice o.1.q1 x.users.length o.1.c1,.slice o.2.a o.2.xs.length o.2.c,.int .i64 x.queue.next,.slice o.1.q3 x.queue.items.length o.1.c3] 36]) (fun o Bx=>SlK Bx o.1.q1 o.1.c1 3 Zn x.users∧o.2.xs=[]∧ZU Bx o.2.l o.2.a o.2.c 75 5 Zj o.2.xs∧SlK Bx o.1.q3 o.1.c3 4 Zu x.queue.items) ?_ (fun o B3 hle3 hF=>?_)))))
 refine Z8 (keeps _ [0] _) mo kr ⟨Kn.le.refl _,ZbU.refl _ _⟩ (fun _ _=>?_)
 refine aW 0 rfl Zhd (h:=aT 1 rfl (Z5 fun D B L hI=>Zr rfl rfl lk9 rfl (atL 0 (hI.2.1.trans rfl) rfl rfl) r4) (h:=aW 3 rfl Zbn (h:=aT 4 rfl (Z5 fun D B L hI=>Zr rfl rfl ZhA rfl (atL 0 (hI.2.1.trans rfl) rfl rfl) r4) (h:=aW 7 rfl Zd5 (h:=aT 8 rfl (Z5 fun D B L hI=>Zaj [_,_] rfl rfl Zke rfl (Zb1 0 (hI.2.1.trans rfl) rfl rfl) r4) (h:=Zbq [2,6,11] kr kr kr ⟨?_,?_,?_⟩))))))
 refine (ZL (parts:=[]) [] rfl rfl Tryz.underlying30 Za3 ZdK rfl rfl rfl rfl rfl (fun b4=>⟨⟨Kn.le.refl _,t1⟩,(Zbq [5,6,11] kr kr kr ⟨?_,?_,?_⟩)⟩))
 refine (Zb0 (R:=Zn) 2 rfl (ZU.lit0 (R:=Zn)) rfl rfl rfl Zm4 Znj rfl rfl rfl hu.rows Zn.one rfl om (fun l5 p5 c5 hv5=>?_))
 refine ⟨⟨Kn.le.refl _,t1⟩,(ZaE 2 rfl hv5 Zn.mono om3 (fun B' hle'=>⟨hle',t1⟩) (fun B6 hle6 hr6=>?_))⟩
 replace hu:=hu.mono Zn.mono hle6
 replace hf:=hf.mono Zj.mono hle6
 replace hi:=hi.mono Zu.mono hle6
 have hr6n:=hr6.len
 refine Zbq [6,9,11] kr kr kr ⟨?_,?_,?_⟩
 refine (ZL (parts:=[]) [] rfl rfl Tryz.underlying31 ZbO ZfR rfl rfl rfl rfl rfl (fun b7=>⟨⟨hle6,t1⟩,(Zbq [9,11] kr kr kr ⟨?_,?_⟩)⟩))
 refine (ZV rfl rfl ZiP rfl (Zan _ _ x.queue _ hi) ?_)
 rintro _ B8 _ hle8 ⟨l8,a8,c8,rfl,rfl,hv8⟩
 replace hu:=hu.mono Zn.mono hle8
 replace hf:=hf.mono Zj.mono hle8
 replace hi:=hi.mono Zu.mono hle8
 replace hr6:=hr6.mono Zn.mono hle8
 replace hv8:=hv8.mono Zu.mono Kn.less_le
 refine ⟨⟨(hle6.trans hle8),t1⟩,(ZaE 4 rfl hv8 Zu.mono om3 (fun B' hle'=>⟨(hle6.trans hle8).trans hle',t1⟩) (fun B9 hle9 hr9=>?_))⟩
 replace hu:=hu.mono Zn.mono hle9
 replace hf:=hf.mono Zj.mono hle9
 replace hi:=hi.mono Zu.mono hle9
 replace hr6:=hr6.mono Zn.mono hle9
 have hr9n:=hr9.len
 refine aT 10 rfl (Z5 fun D B L hI=>Zay (parts:=[(0,_),(1,_),(2,_),(3,_)]) [_,_,_,_,_] [_,_,_,_,_] rfl rfl Zgl Zch rfl rfl rfl r4) (h:=ZN 11 kr rfl kr (ZbC (l:=[_,_,_,_,_]) rfl rfl Zch rfl (fun b10=>?_)))
 refine ⟨⟨((hle6.trans hle8).trans hle9),t1⟩,(Zap 12 kr rfl kr kr kr (Z4 [_,_,_,_,_] 5 [_,_,_,_,_] rfl rfl Zdn rfl rfl rfl rfl rfl rfl rfl rfl ?_))⟩
 exact Zax ⟨⟨_,_,_,_,_⟩,⟨0,0,_,_,_,[]⟩⟩ [0,1,3,5] ⟨hr6,rfl,ZU.lit0,hr9⟩ t4 rfl
 refine (ZbC (l:=[_,_,_,_,_]) rfl rfl Zch rfl (fun b11=>⟨⟨hle6,t1⟩,(ZN 9 kr rfl kr (ZV rfl rfl ZiP rfl (Zan _ _ x.queue _ hi) ?_))⟩))
 rintro _ B12 _ hle12 ⟨l12,a12,c12,rfl,rfl,hv12⟩
 replace hu:=hu.mono Zn.mono hle12
 replace hf:=hf.mono Zj.mono hle12
 replace hi:=hi.mono Zu.mono hle12
 replace hr6:=hr6.mono Zn.mono hle12
 replace hv12:=hv12.mono Zu.mono Kn.less_le
 refine ⟨⟨(hle6.trans hle12),t1⟩,(ZaE 5 rfl hv12 Zu.mono om3 (fun B' hle'=>⟨(hle6.trans hle12).trans hle',t1⟩) (fun B13 hle13 hr13=>?_))⟩
 replace hu:=hu.mono Zn.mono hle13
 replace hf:=hf.mono Zj.mono hle13
 replace hi:=hi.mono Zu.mono hle13
 replace hr6:=hr6.mono Zn.mono hle13
 have hr13n:=hr13.len
 refine aT 10 rfl (Z5 fun D B L hI=>Zay (parts:=[(0,_),(1,_),(2,_),(3,_)]) [_,_,_,_,_] [_,_,_,_,_] rfl rfl Zgl Zch rfl rfl rfl r4) (h:=Zap 12 kr rfl kr kr kr (Z4 [_,_,_,_,_] 4 [_,_,_,_,_] rfl rfl Zdn rfl rfl rfl rfl rfl rfl rfl rfl ?_))
 exact Zax ⟨⟨_,_,_,_,_⟩,⟨0,0,_,_,_,[]⟩⟩ [0,1,3,4] ⟨hr6,rfl,ZU.lit0,hr13⟩ t4 rfl
 refine (ZV rfl rfl ZiP rfl (Zan _ _ x.queue _ hi) ?_)
 rintro _ B14 _ hle14 ⟨l14,a14,c14,rfl,rfl,hv14⟩
 replace hu:=hu.mono Zn.mono hle14
 replace hf:=hf.mono Zj.mono hle14
 replace hi:=hi.mono Zu.mono hle14
 replace hr6:=hr6.mono Zn.mono hle14
 replace hv14:=hv14.mono Zu.mono Kn.less_le
 refine ⟨⟨(hle6.trans hle14),t1⟩,(ZaE 3 rfl hv14 Zu.mono om3 (fun B' hle'=>⟨(hle6.trans hle14).trans hle',t1⟩) (fun B15 hle15 hr15=>?_))⟩
 replace hu:=hu.mono Zn.mono hle15
 replace hf:=hf.mono Zj.mono hle15
 replace hi:=hi.mono Zu.mono hle15
 replace hr6:=hr6.mono Zn.mono hle15
 have hr15n:=hr15.len
 refine Zbq [6,11] kr kr kr ⟨?_,?_⟩
 refine (ZL (parts:=[]) [] rfl rfl Tryz.underlying31 ZbO ZfR rfl rfl rfl rfl rfl (fun b16=>⟨⟨((hle6.trans hle14).trans hle15),t1⟩,(aT 10 rfl (Z5 fun D B L hI=>Zay (parts:=[(0,_),(1,_),(2,_),(3,_)]) [_,_,_,_,_] [_,_,_,_,_] rfl rfl Zgl Zch rfl rfl rfl r4) (h:=ZN 11 kr rfl kr (ZbC (l:=[_,_,_,_,_]) rfl rfl Zch rfl (fun b17=>?_))))⟩))
 refine ⟨⟨((hle6.trans hle14).trans hle15),t1⟩,(Zap 12 kr rfl kr kr kr (Z4 [_,_,_,_,_] 5 [_,_,_,_,_] rfl rfl Zdn rfl rfl rfl rfl rfl rfl rfl rfl ?_))⟩
 exact Zax ⟨⟨_,_,_,_,_⟩,⟨0,0,_,_,_,[]⟩⟩ [0,1,4,5] ⟨hr6,rfl,ZU.lit0,hr15⟩ t4 rfl
 refine (ZbC (l:=[_,_,_,_,_]) rfl rfl Zch rfl (fun b18=>⟨⟨((hle6.trans hle14).trans hle15),t1⟩,(ZN 6 kr rfl kr (ZL (parts:=[]) [] rfl rfl Tryz.underlying31 ZbO ZfR rfl rfl rfl rfl rfl (fun b19=>?_)))⟩))
 refine ⟨⟨((hle6.trans hle14).trans hle15),t1⟩,(aT 10 rfl (Z5 fun D B L hI=>Zay (parts:=[(0,_),(1,_),(2,_),(3,_)]) [_,_,_,_,_] [_,_,_,_,_] rfl rfl Zgl Zch rfl rfl rfl r4) (h:=Zap 12 kr rfl kr kr kr (Z4 [_,_,_,_,_] 4 [_,_,_,_,_] rfl rfl Zdn rfl rfl rfl rfl rfl rfl rfl rfl ?_)))⟩
 exact Zax ⟨⟨_,_,_,_,_⟩,⟨0,0,_,_,_,[]⟩⟩ [0,1,5,4] ⟨hr6,rfl,ZU.lit0,hr15⟩ t4 rfl
 refine (ZbC (l:=[_,_,_,_,_]) rfl rfl Zch rfl (fun b20=>⟨⟨hle6,t1⟩,(Zbq [6,9] kr kr kr ⟨?_,?_⟩)⟩))
 refine (ZL (parts:=[]) [] rfl rfl Tryz.underlying31 ZbO ZfR rfl rfl rfl rfl rfl (fun b21=>⟨⟨hle6,t1⟩,(ZN 9 kr rfl kr (ZV rfl rfl ZiP rfl (Zan _ _ x.queue _ hi) ?_))⟩))
 rintro _ B22 _ hle22 ⟨l22,a22,c22,rfl,rfl,hv22⟩
 replace hu:=hu.mono Zn.mono hle22
 replace hf:=hf.mono Zj.mono hle22
 replace hi:=hi.mono Zu.mono hle22
 replace hr6:=hr6.mono Zn.mono hle22
 replace hv22:=hv22.mono Zu.mono Kn.less_le
 refine ⟨⟨(hle6.trans hle22),t1⟩,(ZaE 5 rfl hv22 Zu.mono om3 (fun B' hle'=>⟨(hle6.trans hle22).trans hle',t1⟩) (fun B23 hle23 hr23=>?_))⟩
 replace hu:=hu.mono Zn.mono hle23
 replace hf:=hf.mono Zj.mono hle23
 replace hi:=hi.mono Zu.mono hle23
 replace hr6:=hr6.mono Zn.mono hle23
 have hr23n:=hr23.len
 refine aT 10 rfl (Z5 fun D B L hI=>Zay (parts:=[(0,_),(1,_),(2,_),(3,_)]) [_,_,_,_,_] [_,_,_,_,_] rfl rfl Zgl Zch rfl rfl rfl r4) (h:=Zap 12 kr rfl kr kr kr (Z4 [_,_,_,_,_] 3 [_,_,_,_,_] rfl rfl Zdn rfl rfl rfl rfl rfl rfl rfl rfl ?_))
 exact Zax ⟨⟨_,_,_,_,_⟩,⟨0,0,_,_,_,[]⟩⟩ [0,1,4,3] ⟨hr6,rfl,ZU.lit0,hr23⟩ t4 rfl
 refine (ZV rfl rfl ZiP rfl (Zan _ _ x.queue _ hi) ?_)
 rintro _ B24 _ hle24 ⟨l24,a24,c24,rfl,rfl,hv24⟩
 replace hu:=hu.mono Zn.mono hle24
 replace hf:=hf.mono Zj.mono hle24
 replace hi:=hi.mono Zu.mono hle24
 replace hr6:=hr6.mono Zn.mono hle24
 replace hv24:=hv24.mono Zu.mono Kn.less_le
 refine ⟨⟨(hle6.trans hle24),t1⟩,(ZaE 4 rfl hv24 Zu.mono om3 (fun B' hle'=>⟨(hle6.trans hle24).trans hle',t1⟩) (fun B25 hle25 hr25=>?_))⟩
 replace hu:=hu.mono Zn.mono hle25
 replace hf:=hf.mono Zj.mono hle25
 replace hi:=hi.mono Zu.mono hle25
 replace hr6:=hr6.mono Zn.mono hle25
 have hr25n:=hr25.len
 refine ZN 6 kr rfl kr (ZL (parts:=[]) [] rfl rfl Tryz.underlying31 ZbO ZfR rfl rfl rfl rfl rfl (fun b26=>?_))
 refine ⟨⟨((hle6.trans hle24).trans hle25),t1⟩,(aT 10 rfl (Z5 fun D B L hI=>Zay (parts:=[(0,_),(1,_),(2,_),(3,_)]) [_,_,_,_,_] [_,_,_,_,_] rfl rfl Zgl Zch rfl rfl rfl r4) (h:=Zap 12 kr rfl kr kr kr (Z4 [_,_,_,_,_] 3 [_,_,_,_,_] rfl rfl Zdn rfl rfl rfl rfl rfl rfl rfl rfl ?_)))⟩
 exact Zax ⟨⟨_,_,_,_,_⟩,⟨0,0,_,_,_,[]⟩⟩ [0,1,5,3] ⟨hr6,rfl,ZU.lit0,hr25⟩ t4 rfl
 refine (ZL (parts:=[]) [] rfl rfl Tryz.underlying31 ZbO ZfR rfl rfl rfl rfl rfl (fun b27=>⟨⟨Kn.le.refl _,t1⟩,(Zbq [5,11] kr kr kr ⟨?_,?_⟩)⟩))
 refine (Zb0 (R:=Zn) 2 rfl (ZU.lit0 (R:=Zn)) rfl rfl rfl Zm4 Znj rfl rfl rfl hu.rows Zn.one rfl om (fun l28 p28 c28 hv28=>?_))
 refine ⟨⟨Kn.le.refl _,t1⟩,(ZaE 2 rfl hv28 Zn.mono om3 (fun B' hle'=>⟨hle',t1⟩) (fun B29 hle29 hr29=>?_))⟩
 replace hu:=hu.mono Zn.mono hle29
 replace hf:=hf.mono Zj.mono hle29
 replace hi:=hi.mono Zu.mono hle29
 have hr29n:=hr29.len
 refine Zbq [9,11] kr kr kr ⟨?_,?_⟩
 refine (ZV rfl rfl ZiP rfl (Zan _ _ x.queue _ hi) ?_)
 rintro _ B30 _ hle30 ⟨l30,a30,c30,rfl,rfl,hv30⟩
 replace hu:=hu.mono Zn.mono hle30
 replace hf:=hf.mono Zj.mono hle30
 replace hi:=hi.mono Zu.mono hle30
 replace hr29:=hr29.mono Zn.mono hle30
 replace hv30:=hv30.mono Zu.mono Kn.less_le
 refine ⟨⟨(hle29.trans hle30),t1⟩,(ZaE 4 rfl hv30 Zu.mono om3 (fun B' hle'=>⟨(hle29.trans hle30).trans hle',t1⟩) (fun B31 hle31 hr31=>?_))⟩
 replace hu:=hu.mono Zn.mono hle31
 replace hf:=hf.mono Zj.mono hle31
 replace hi:=hi.mono Zu.mono hle31
 replace hr29:=hr29.mono Zn.mono hle31
 have hr31n:=hr31.len
 refine aT 10 rfl (Z5 fun D B L hI=>Zay (parts:=[(0,_),(1,_),(2,_),(3,_)]) [_,_,_,_,_] [_,_,_,_,_] rfl rfl Zgl Zch rfl rfl rfl r4) (h:=ZN 11 kr rfl kr (ZbC (l:=[_,_,_,_,_]) rfl rfl Zch rfl (fun b32=>?_)))
 refine ⟨⟨((hle29.trans hle30).trans hle31),t1⟩,(Zap 12 kr rfl kr kr kr (Z4 [_,_,_,_,_] 5 [_,_,_,_,_] rfl rfl Zdn rfl rfl rfl rfl rfl rfl rfl rfl ?_))⟩
 exact Zax ⟨⟨_,_,_,_,_⟩,⟨0,0,_,_,_,[]⟩⟩ [0,1,3,5] ⟨hr29,rfl,ZU.lit0,hr31⟩ t4 rfl
 refine (ZbC (l:=[_,_,_,_,_]) rfl rfl Zch rfl (fun b33=>⟨⟨hle29,t1⟩,(ZN 9 kr rfl kr (ZV rfl rfl ZiP rfl (Zan _ _ x.queue _ hi) ?_))⟩))
 rintro _ B34 _ hle34 ⟨l34,a34,c34,rfl,rfl,hv34⟩
 replace hu:=hu.mono Zn.mono hle34
 replace hf:=hf.mono Zj.mono hle34
 replace hi:=hi.mono Zu.mono hle34
 replace hr29:=hr29.mono Zn.mono hle34
 replace hv34:=hv34.mono Zu.mono Kn.less_le
 refine ⟨⟨(hle29.trans hle34),t1⟩,(ZaE 5 rfl hv34 Zu.mono om3 (fun B' hle'=>⟨(hle29.trans hle34).trans hle',t1⟩) (fun B35 hle35 hr35=>?_))⟩
 replace hu:=hu.mono Zn.mono hle35
 replace hf:=hf.mono Zj.mono hle35
 replace hi:=hi.mono Zu.mono hle35
 replace hr29:=hr29.mono Zn.mono hle35
 have hr35n:=hr35.len
 refine aT 10 rfl (Z5 fun D B L hI=>Zay (parts:=[(0,_),(1,_),(2,_),(3,_)]) [_,_,_,_,_] [_,_,_,_,_] rfl rfl Zgl Zch rfl rfl rfl r4) (h:=Zap 12 kr rfl kr kr kr (Z4 [_,_,_,_,_] 4 [_,_,_,_,_] rfl rfl Zdn rfl rfl rfl rfl rfl rfl rfl rfl ?_))
 exact Zax ⟨⟨_,_,_,_,_⟩,⟨0,0,_,_,_,[]⟩⟩ [0,1,3,4] ⟨hr29,rfl,ZU.lit0,hr35⟩ t4 rfl
 refine (ZbC (l:=[_,_,_,_,_]) rfl rfl Zch rfl (fun b36=>⟨⟨Kn.le.refl _,t1⟩,(ZN 5 kr rfl kr (Zb0 (R:=Zn) 2 rfl (ZU.lit0 (R:=Zn)) rfl rfl rfl Zm4 Znj rfl rfl rfl hu.rows Zn.one rfl om (fun l37 p37 c37 hv37=>?_)))⟩))
 refine ⟨⟨Kn.le.refl _,t1⟩,(ZaE 2 rfl hv37 Zn.mono om3 (fun B' hle'=>⟨hle',t1⟩) (fun B38 hle38 hr38=>?_))⟩
 replace hu:=hu.mono Zn.mono hle38
 replace hf:=hf.mono Zj.mono hle38
 replace hi:=hi.mono Zu.mono hle38
 have hr38n:=hr38.len
 refine ZN 9 kr rfl kr (ZV rfl rfl ZiP rfl (Zan _ _ x.queue _ hi) ?_)
 rintro _ B39 _ hle39 ⟨l39,a39,c39,rfl,rfl,hv39⟩
 replace hu:=hu.mono Zn.mono hle39
 replace hf:=hf.mono Zj.mono hle39
 replace hi:=hi.mono Zu.mono hle39
 replace hr38:=hr38.mono Zn.mono hle39
 replace hv39:=hv39.mono Zu.mono Kn.less_le
 refine ⟨⟨(hle38.trans hle39),t1⟩,(ZaE 5 rfl hv39 Zu.mono om3 (fun B' hle'=>⟨(hle38.trans hle39).trans hle',t1⟩) (fun B40 hle40 hr40=>?_))⟩
 replace hu:=hu.mono Zn.mono hle40
 replace hf:=hf.mono Zj.mono hle40
 replace hi:=hi.mono Zu.mono hle40
 replace hr38:=hr38.mono Zn.mono hle40
 have hr40n:=hr40.len
 refine aT 10 rfl (Z5 fun D B L hI=>Zay (parts:=[(0,_),(1,_),(2,_),(3,_)]) [_,_,_,_,_] [_,_,_,_,_] rfl rfl Zgl Zch rfl rfl rfl r4) (h:=Zap 12 kr rfl kr kr kr (Z4 [_,_,_,_,_] 4 [_,_,_,_,_] rfl rfl Zdn rfl rfl rfl rfl rfl rfl rfl rfl ?_))
 exact Zax ⟨⟨_,_,_,_,_⟩,⟨0,0,_,_,_,[]⟩⟩ [0,1,3,4] ⟨hr38,rfl,ZU.lit0,hr40⟩ t4 rfl
 refine (ZbC (l:=[_,_,_,_,_]) rfl rfl Zch rfl (fun b41=>⟨⟨Kn.le.refl _,t1⟩,(Zbq [5,6] kr kr kr ⟨?_,?_⟩)⟩))
 refine (Zb0 (R:=Zn) 2 rfl (ZU.lit0 (R:=Zn)) rfl rfl rfl Zm4 Znj rfl rfl rfl hu.rows Zn.one rfl om (fun l42 p42 c42 hv42=>?_))
 refine ⟨⟨Kn.le.refl _,t1⟩,(ZaE 2 rfl hv42 Zn.mono om3 (fun B' hle'=>⟨hle',t1⟩) (fun B43 hle43 hr43=>?_))⟩
 replace hu:=hu.mono Zn.mono hle43
 replace hf:=hf.mono Zj.mono hle43
 replace hi:=hi.mono Zu.mono hle43
 have hr43n:=hr43.len
 refine Zbq [6,9] kr kr kr ⟨?_,?_⟩
 refine (ZL (parts:=[]) [] rfl rfl Tryz.underlying31 ZbO ZfR rfl rfl rfl rfl rfl (fun b44=>⟨⟨hle43,t1⟩,(ZN 9 kr rfl kr (ZV rfl rfl ZiP rfl (Zan _ _ x.queue _ hi) ?_))⟩))
 rintro _ B45 _ hle45 ⟨l45,a45,c45,rfl,rfl,hv45⟩
 replace hu:=hu.mono Zn.mono hle45
 replace hf:=hf.mono Zj.mono hle45
 replace hi:=hi.mono Zu.mono hle45
 replace hr43:=hr43.mono Zn.mono hle45
 replace hv45:=hv45.mono Zu.mono Kn.less_le
 refine ⟨⟨(hle43.trans hle45),t1⟩,(ZaE 5 rfl hv45 Zu.mono om3 (fun B' hle'=>⟨(hle43.trans hle45).trans hle',t1⟩) (fun B46 hle46 hr46=>?_))⟩
 replace hu:=hu.mono Zn.mono hle46
 replace hf:=hf.mono Zj.mono hle46
 replace hi:=hi.mono Zu.mono hle46
 replace hr43:=hr43.mono Zn.mono hle46
 have hr46n:=hr46.len
 refine aT 10 rfl (Z5 fun D B L hI=>Zay (parts:=[(0,_),(1,_),(2,_),(3,_)]) [_,_,_,_,_] [_,_,_,_,_] rfl rfl Zgl Zch rfl rfl rfl r4) (h:=Zap 12 kr rfl kr kr kr (Z4 [_,_,_,_,_] 3 [_,_,_,_,_] rfl rfl Zdn rfl rfl rfl rfl rfl rfl rfl rfl ?_))
 exact Zax ⟨⟨_,_,_,_,_⟩,⟨0,0,_,_,_,[]⟩⟩ [0,1,4,3] ⟨hr43,rfl,ZU.lit0,hr46⟩ t4 rfl
 refine (ZV rfl rfl ZiP rfl (Zan _ _ x.queue _ hi) ?_)
 rintro _ B47 _ hle47 ⟨l47,a47,c47,rfl,rfl,hv47⟩
 replace hu:=hu.mono Zn.mono hle47
 replace hf:=hf.mono Zj.mono hle47
 replace hi:=hi.mono Zu.mono hle47
 replace hr43:=hr43.mono Zn.mono hle47
 replace hv47:=hv47.mono Zu.mono Kn.less_le
 refine ⟨⟨(hle43.trans hle47),t1⟩,(ZaE 4 rfl hv47 Zu.mono om3 (fun B' hle'=>⟨(hle43.trans hle47).trans hle',t1⟩) (fun B48 hle48 hr48=>?_))⟩
 replace hu:=hu.mono Zn.mono hle48
 replace hf:=hf.mono Zj.mono hle48
 replace hi:=hi.mono Zu.mono hle48
 replace hr43:=hr43.mono Zn.mono hle48
 have hr48n:=hr48.len
 refine ZN 6 kr rfl kr (ZL (parts:=[]) [] rfl rfl Tryz.underlying31 ZbO ZfR rfl rfl rfl rfl rfl (fun b49=>?_))
 refine ⟨⟨((hle43.trans hle47).trans hle48),t1⟩,(aT 10 rfl (Z5 fun D B L hI=>Zay (parts:=[(0,_),(1,_),(2,_),(3,_)]) [_,_,_,_,_] [_,_,_,_,_] rfl rfl Zgl Zch rfl rfl rfl r4) (h:=Zap 12 kr rfl kr kr kr (Z4 [_,_,_,_,_] 3 [_,_,_,_,_] rfl rfl Zdn rfl rfl rfl rfl rfl rfl rfl rfl ?_)))⟩
 exact Zax ⟨⟨_,_,_,_,_⟩,⟨0,0,_,_,_,[]⟩⟩ [0,1,5,3] ⟨hr43,rfl,ZU.lit0,hr48⟩ t4 rfl
 refine (ZL (parts:=[]) [] rfl rfl Tryz.underlying31 ZbO ZfR rfl rfl rfl rfl rfl (fun b50=>⟨⟨Kn.le.refl _,t1⟩,(ZN 5 kr rfl kr (Zb0 (R:=Zn) 2 rfl (ZU.lit0 (R:=Zn)) rfl rfl rfl Zm4 Znj rfl rfl rfl hu.rows Zn.one rfl om (fun l51 p51 c51 hv51=>?_)))⟩))
 refine ⟨⟨Kn.le.refl _,t1⟩,(ZaE 2 rfl hv51 Zn.mono om3 (fun B' hle'=>⟨hle',t1⟩) (fun B52 hle52 hr52=>?_))⟩
 replace hu:=hu.mono Zn.mono hle52
 replace hf:=hf.mono Zj.mono hle52
 replace hi:=hi.mono Zu.mono hle52
 have hr52n:=hr52.len
 refine ZN 9 kr rfl kr (ZV rfl rfl ZiP rfl (Zan _ _ x.queue _ hi) ?_)
 rintro _ B53 _ hle53 ⟨l53,a53,c53,rfl,rfl,hv53⟩
 replace hu:=hu.mono Zn.mono hle53
 replace hf:=hf.mono Zj.mono hle53
 replace hi:=hi.mono Zu.mono hle53
 replace hr52:=hr52.mono Zn.mono hle53
 replace hv53:=hv53.mono Zu.mono Kn.less_le
 refine ⟨⟨(hle52.trans hle53),t1⟩,(ZaE 5 rfl hv53 Zu.mono om3 (fun B' hle'=>⟨(hle52.trans hle53).trans hle',t1⟩) (fun B54 hle54 hr54=>?_))⟩
 replace hu:=hu.mono Zn.mono hle54
 replace hf:=hf.mono Zj.mono hle54
 replace hi:=hi.mono Zu.mono hle54
 replace hr52:=hr52.mono Zn.mono hle54
 have hr54n:=hr54.len
 refine aT 10 rfl (Z5 fun D B L hI=>Zay (parts:=[(0,_),(1,_),(2,_),(3,_)]) [_,_,_,_,_] [_,_,_,_,_] rfl rfl Zgl Zch rfl rfl rfl r4) (h:=Zap 12 kr rfl kr kr kr (Z4 [_,_,_,_,_] 3 [_,_,_,_,_] rfl rfl Zdn rfl rfl rfl rfl rfl rfl rfl rfl ?_))
 exact Zax ⟨⟨_,_,_,_,_⟩,⟨0,0,_,_,_,[]⟩⟩ [0,1,4,3] ⟨hr52,rfl,ZU.lit0,hr54⟩ t4 rfl
 refine (ZL (parts:=[]) [] rfl rfl Tryz.underlying31 ZbO ZfR rfl rfl rfl rfl rfl (fun b55=>⟨⟨Kn.le.refl _,t1⟩,(Zbq [2,11] kr kr kr ⟨?_,?_⟩)⟩))
 refine (ZL (parts:=[]) [] rfl rfl Tryz.underlying30 Za3 ZdK rfl rfl rfl rfl rfl (fun b56=>⟨⟨Kn.le.refl _,t1⟩,(Zbq [5,11] kr kr kr ⟨?_,?_⟩)⟩))
 refine (Zb0 (R:=Zn) 3 rfl (ZU.lit0 (R:=Zn)) rfl rfl rfl Zm4 Znj rfl rfl rfl hu.rows Zn.one rfl om (fun l57 p57 c57 hv57=>?_))
 refine ⟨⟨Kn.le.refl _,t1⟩,(ZaE 3 rfl hv57 Zn.mono om3 (fun B' hle'=>⟨hle',t1⟩) (fun B58 hle58 hr58=>?_))⟩
 replace hu:=hu.mono Zn.mono hle58
 replace hf:=hf.mono Zj.mono hle58
 replace hi:=hi.mono Zu.mono hle58
 have hr58n:=hr58.len
 refine Zbq [9,11] kr kr kr ⟨?_,?_⟩
 refine (ZV rfl rfl ZiP rfl (Zan _ _ x.queue _ hi) ?_)
 rintro _ B59 _ hle59 ⟨l59,a59,c59,rfl,rfl,hv59⟩
 replace hu:=hu.mono Zn.mono hle59
 replace hf:=hf.mono Zj.mono hle59
 replace hi:=hi.mono Zu.mono hle59
 replace hr58:=hr58.mono Zn.mono hle59
 replace hv59:=hv59.mono Zu.mono Kn.less_le
 refine ⟨⟨(hle58.trans hle59),t1⟩,(ZaE 4 rfl hv59 Zu.mono om3 (fun B' hle'=>⟨(hle58.trans hle59).trans hle',t1⟩) (fun B60 hle60 hr60=>?_))⟩
 replace hu:=hu.mono Zn.mono hle60
 replace hf:=hf.mono Zj.mono hle60
 replace hi:=hi.mono Zu.mono hle60
 replace hr58:=hr58.mono Zn.mono hle60
 have hr60n:=hr60.len
 refine aT 10 rfl (Z5 fun D B L hI=>Zay (parts:=[(0,_),(1,_),(2,_),(3,_)]) [_,_,_,_,_] [_,_,_,_,_] rfl rfl Zgl Zch rfl rfl rfl r4) (h:=ZN 11 kr rfl kr (ZbC (l:=[_,_,_,_,_]) rfl rfl Zch rfl (fun b61=>?_)))
 refine ⟨⟨((hle58.trans hle59).trans hle60),t1⟩,(Zap 12 kr rfl kr kr kr (Z4 [_,_,_,_,_] 5 [_,_,_,_,_] rfl rfl Zdn rfl rfl rfl rfl rfl rfl rfl rfl ?_))⟩
 exact Zax ⟨⟨_,_,_,_,_⟩,⟨0,0,_,_,_,[]⟩⟩ [0,1,2,5] ⟨hr58,rfl,ZU.lit0,hr60⟩ t4 rfl
 refine (ZbC (l:=[_,_,_,_,_]) rfl rfl Zch rfl (fun b62=>⟨⟨hle58,t1⟩,(ZN 9 kr rfl kr (ZV rfl rfl ZiP rfl (Zan _ _ x.queue _ hi) ?_))⟩))
 rintro _ B63 _ hle63 ⟨l63,a63,c63,rfl,rfl,hv63⟩
 replace hu:=hu.mono Zn.mono hle63
 replace hf:=hf.mono Zj.mono hle63
 replace hi:=hi.mono Zu.mono hle63
 replace hr58:=hr58.mono Zn.mono hle63
 replace hv63:=hv63.mono Zu.mono Kn.less_le
 refine ⟨⟨(hle58.trans hle63),t1⟩,(ZaE 5 rfl hv63 Zu.mono om3 (fun B' hle'=>⟨(hle58.trans hle63).trans hle',t1⟩) (fun B64 hle64 hr64=>?_))⟩
 replace hu:=hu.mono Zn.mono hle64
 replace hf:=hf.mono Zj.mono hle64
 replace hi:=hi.mono Zu.mono hle64
 replace hr58:=hr58.mono Zn.mono hle64
 have hr64n:=hr64.len
 refine aT 10 rfl (Z5 fun D B L hI=>Zay (parts:=[(0,_),(1,_),(2,_),(3,_)]) [_,_,_,_,_] [_,_,_,_,_] rfl rfl Zgl Zch rfl rfl rfl r4) (h:=Zap 12 kr rfl kr kr kr (Z4 [_,_,_,_,_] 4 [_,_,_,_,_] rfl rfl Zdn rfl rfl rfl rfl rfl rfl rfl rfl ?_))
 exact Zax ⟨⟨_,_,_,_,_⟩,⟨0,0,_,_,_,[]⟩⟩ [0,1,2,4] ⟨hr58,rfl,ZU.lit0,hr64⟩ t4 rfl
 refine (ZbC (l:=[_,_,_,_,_]) rfl rfl Zch rfl (fun b65=>⟨⟨Kn.le.refl _,t1⟩,(ZN 5 kr rfl kr (Zb0 (R:=Zn) 3 rfl (ZU.lit0 (R:=Zn)) rfl rfl rfl Zm4 Znj rfl rfl rfl hu.rows Zn.one rfl om (fun l66 p66 c66 hv66=>?_)))⟩))
 refine ⟨⟨Kn.le.refl _,t1⟩,(ZaE 3 rfl hv66 Zn.mono om3 (fun B' hle'=>⟨hle',t1⟩) (fun B67 hle67 hr67=>?_))⟩
 replace hu:=hu.mono Zn.mono hle67
 replace hf:=hf.mono Zj.mono hle67
 replace hi:=hi.mono Zu.mono hle67
 have hr67n:=hr67.len
 refine ZN 9 kr rfl kr (ZV rfl rfl ZiP rfl (Zan _ _ x.queue _ hi) ?_)
 rintro _ B68 _ hle68 ⟨l68,a68,c68,rfl,rfl,hv68⟩
 replace hu:=hu.mono Zn.mono hle68
 replace hf:=hf.mono Zj.mono hle68
 replace hi:=hi.mono Zu.mono hle68
 replace hr67:=hr67.mono Zn.mono hle68
 replace hv68:=hv68.mono Zu.mono Kn.less_le
 refine ⟨⟨(hle67.trans hle68),t1⟩,(ZaE 5 rfl hv68 Zu.mono om3 (fun B' hle'=>⟨(hle67.trans hle68).trans hle',t1⟩) (fun B69 hle69 hr69=>?_))⟩
 replace hu:=hu.mono Zn.mono hle69
 replace hf:=hf.mono Zj.mono hle69
 replace hi:=hi.mono Zu.mono hle69
 replace hr67:=hr67.mono Zn.mono hle69
 have hr69n:=hr69.len
 refine aT 10 rfl (Z5 fun D B L hI=>Zay (parts:=[(0,_),(1,_),(2,_),(3,_)]) [_,_,_,_,_] [_,_,_,_,_] rfl rfl Zgl Zch rfl rfl rfl r4) (h:=Zap 12 kr rfl kr kr kr (Z4 [_,_,_,_,_] 4 [_,_,_,_,_] rfl rfl Zdn rfl rfl rfl rfl rfl rfl rfl rfl ?_))
 exact Zax ⟨⟨_,_,_,_,_⟩,⟨0,0,_,_,_,[]⟩⟩ [0,1,2,4] ⟨hr67,rfl,ZU.lit0,hr69⟩ t4 rfl
 refine (ZbC (l:=[_,_,_,_,_]) rfl rfl Zch rfl (fun b70=>⟨⟨Kn.le.refl _,t1⟩,(ZN 2 kr rfl kr (ZL (parts:=[]) [] rfl rfl Tryz.underlying30 Za3 ZdK rfl rfl rfl rfl rfl (fun b71=>?_)))⟩))
 refine ⟨⟨Kn.le.refl _,t1⟩,(ZN 5 kr rfl kr (Zb0 (R:=Zn) 4 rfl (ZU.lit0 (R:=Zn)) rfl rfl rfl Zm4 Znj rfl rfl rfl hu.rows Zn.one rfl om (fun l72 p72 c72 hv72=>?_)))⟩
 refine ⟨⟨Kn.le.refl _,t1⟩,(ZaE 4 rfl hv72 Zn.mono om3 (fun B' hle'=>⟨hle',t1⟩) (fun B73 hle73 hr73=>?_))⟩
 replace hu:=hu.mono Zn.mono hle73
 replace hf:=hf.mono Zj.mono hle73
 replace hi:=hi.mono Zu.mono hle73
 have hr73n:=hr73.len
 refine ZN 9 kr rfl kr (ZV rfl rfl ZiP rfl (Zan _ _ x.queue _ hi) ?_)
 rintro _ B74 _ hle74 ⟨l74,a74,c74,rfl,rfl,hv74⟩
 replace hu:=hu.mono Zn.mono hle74
 replace hf:=hf.mono Zj.mono hle74
 replace hi:=hi.mono Zu.mono hle74
 replace hr73:=hr73.mono Zn.mono hle74
 replace hv74:=hv74.mono Zu.mono Kn.less_le
 refine ⟨⟨(hle73.trans hle74),t1⟩,(ZaE 5 rfl hv74 Zu.mono om3 (fun B' hle'=>⟨(hle73.trans hle74).trans hle',t1⟩) (fun B75 hle75 hr75=>?_))⟩
 replace hu:=hu.mono Zn.mono hle75
 replace hf:=hf.mono Zj.mono hle75
 replace hi:=hi.mono Zu.mono hle75
 replace hr73:=hr73.mono Zn.mono hle75
 have hr75n:=hr75.len
 refine aT 10 rfl (Z5 fun D B L hI=>Zay (parts:=[(0,_),(1,_),(2,_),(3,_)]) [_,_,_,_,_] [_,_,_,_,_] rfl rfl Zgl Zch rfl rfl rfl r4) (h:=Zap 12 kr rfl kr kr kr (Z4 [_,_,_,_,_] 3 [_,_,_,_,_] rfl rfl Zdn rfl rfl rfl rfl rfl rfl rfl rfl ?_))
 exact Zax ⟨⟨_,_,_,_,_⟩,⟨0,0,_,_,_,[]⟩⟩ [0,1,2,3] ⟨hr73,rfl,ZU.lit0,hr75⟩ t4 rfl
 refine (ZbC (l:=[_,_,_,_,_]) rfl rfl Zch rfl (fun b76=>⟨⟨Kn.le.refl _,t1⟩,(Zbq [2,6] kr kr kr ⟨?_,?_⟩)⟩))
 refine (ZL (parts:=[]) [] rfl rfl Tryz.underlying30 Za3 ZdK rfl rfl rfl rfl rfl (fun b77=>⟨⟨Kn.le.refl _,t1⟩,(Zbq [5,6] kr kr kr ⟨?_,?_⟩)⟩))
 refine (Zb0 (R:=Zn) 3 rfl (ZU.lit0 (R:=Zn)) rfl rfl rfl Zm4 Znj rfl rfl rfl hu.rows Zn.one rfl om (fun l78 p78 c78 hv78=>?_))
 refine ⟨⟨Kn.le.refl _,t1⟩,(ZaE 3 rfl hv78 Zn.mono om3 (fun B' hle'=>⟨hle',t1⟩) (fun B79 hle79 hr79=>?_))⟩
 replace hu:=hu.mono Zn.mono hle79
 replace hf:=hf.mono Zj.mono hle79
 replace hi:=hi.mono Zu.mono hle79
 have hr79n:=hr79.len
 refine Zbq [6,9] kr kr kr ⟨?_,?_⟩
 refine (ZL (parts:=[]) [] rfl rfl Tryz.underlying31 ZbO ZfR rfl rfl rfl rfl rfl (fun b80=>⟨⟨hle79,t1⟩,(ZN 9 kr rfl kr (ZV rfl rfl ZiP rfl (Zan _ _ x.queue _ hi) ?_))⟩))
 rintro _ B81 _ hle81 ⟨l81,a81,c81,rfl,rfl,hv81⟩
 replace hu:=hu.mono Zn.mono hle81
 replace hf:=hf.mono Zj.mono hle81
 replace hi:=hi.mono Zu.mono hle81
 replace hr79:=hr79.mono Zn.mono hle81
 replace hv81:=hv81.mono Zu.mono Kn.less_le
 refine ⟨⟨(hle79.trans hle81),t1⟩,(ZaE 5 rfl hv81 Zu.mono om3 (fun B' hle'=>⟨(hle79.trans hle81).trans hle',t1⟩) (fun B82 hle82 hr82=>?_))⟩
 replace hu:=hu.mono Zn.mono hle82
 replace hf:=hf.mono Zj.mono hle82
 replace hi:=hi.mono Zu.mono hle82
 replace hr79:=hr79.mono Zn.mono hle82
 have hr82n:=hr82.len
 refine aT 10 rfl (Z5 fun D B L hI=>Zay (parts:=[(0,_),(1,_),(2,_),(3,_)]) [_,_,_,_,_] [_,_,_,_,_] rfl rfl Zgl Zch rfl rfl rfl r4) (h:=Zap 12 kr rfl kr kr kr (Z4 [_,_,_,_,_] 2 [_,_,_,_,_] rfl rfl Zdn rfl rfl rfl rfl rfl rfl rfl rfl ?_))
 exact Zax ⟨⟨_,_,_,_,_⟩,⟨0,0,_,_,_,[]⟩⟩ [0,1,4,2] ⟨hr79,rfl,ZU.lit0,hr82⟩ t4 rfl
 refine (ZV rfl rfl ZiP rfl (Zan _ _ x.queue _ hi) ?_)
 rintro _ B83 _ hle83 ⟨l83,a83,c83,rfl,rfl,hv83⟩
 replace hu:=hu.mono Zn.mono hle83
 replace hf:=hf.mono Zj.mono hle83
 replace hi:=hi.mono Zu.mono hle83
 replace hr79:=hr79.mono Zn.mono hle83
 replace hv83:=hv83.mono Zu.mono Kn.less_le
 refine ⟨⟨(hle79.trans hle83),t1⟩,(ZaE 4 rfl hv83 Zu.mono om3 (fun B' hle'=>⟨(hle79.trans hle83).trans hle',t1⟩) (fun B84 hle84 hr84=>?_))⟩
 replace hu:=hu.mono Zn.mono hle84
 replace hf:=hf.mono Zj.mono hle84
 replace hi:=hi.mono Zu.mono hle84
 replace hr79:=hr79.mono Zn.mono hle84
 have hr84n:=hr84.len
 refine ZN 6 kr rfl kr (ZL (parts:=[]) [] rfl rfl Tryz.underlying31 ZbO ZfR rfl rfl rfl rfl rfl (fun b85=>?_))
 refine ⟨⟨((hle79.trans hle83).trans hle84),t1⟩,(aT 10 rfl (Z5 fun D B L hI=>Zay (parts:=[(0,_),(1,_),(2,_),(3,_)]) [_,_,_,_,_] [_,_,_,_,_] rfl rfl Zgl Zch rfl rfl rfl r4) (h:=Zap 12 kr rfl kr kr kr (Z4 [_,_,_,_,_] 2 [_,_,_,_,_] rfl rfl Zdn rfl rfl rfl rfl rfl rfl rfl rfl ?_)))⟩
 exact Zax ⟨⟨_,_,_,_,_⟩,⟨0,0,_,_,_,[]⟩⟩ [0,1,5,2] ⟨hr79,rfl,ZU.lit0,hr84⟩ t4 rfl
 refine (ZL (parts:=[]) [] rfl rfl Tryz.underlying31 ZbO ZfR rfl rfl rfl rfl rfl (fun b86=>⟨⟨Kn.le.refl _,t1⟩,(ZN 5 kr rfl kr (Zb0 (R:=Zn) 3 rfl (ZU.lit0 (R:=Zn)) rfl rfl rfl Zm4 Znj rfl rfl rfl hu.rows Zn.one rfl om (fun l87 p87 c87 hv87=>?_)))⟩))
 refine ⟨⟨Kn.le.refl _,t1⟩,(ZaE 3 rfl hv87 Zn.mono om3 (fun B' hle'=>⟨hle',t1⟩) (fun B88 hle88 hr88=>?_))⟩
 replace hu:=hu.mono Zn.mono hle88
 replace hf:=hf.mono Zj.mono hle88
 replace hi:=hi.mono Zu.mono hle88
 have hr88n:=hr88.len
 refine ZN 9 kr rfl kr (ZV rfl rfl ZiP rfl (Zan _ _ x.queue _ hi) ?_)
 rintro _ B89 _ hle89 ⟨l89,a89,c89,rfl,rfl,hv89⟩
 replace hu:=hu.mono Zn.mono hle89
 replace hf:=hf.mono Zj.mono hle89
 replace hi:=hi.mono Zu.mono hle89
 replace hr88:=hr88.mono Zn.mono hle89
 replace hv89:=hv89.mono Zu.mono Kn.less_le
 refine ⟨⟨(hle88.trans hle89),t1⟩,(ZaE 5 rfl hv89 Zu.mono om3 (fun B' hle'=>⟨(hle88.trans hle89).trans hle',t1⟩) (fun B90 hle90 hr90=>?_))⟩
 replace hu:=hu.mono Zn.mono hle90
 replace hf:=hf.mono Zj.mono hle90
 replace hi:=hi.mono Zu.mono hle90
 replace hr88:=hr88.mono Zn.mono hle90
 have hr90n:=hr90.len
 refine aT 10 rfl (Z5 fun D B L hI=>Zay (parts:=[(0,_),(1,_),(2,_),(3,_)]) [_,_,_,_,_] [_,_,_,_,_] rfl rfl Zgl Zch rfl rfl rfl r4) (h:=Zap 12 kr rfl kr kr kr (Z4 [_,_,_,_,_] 2 [_,_,_,_,_] rfl rfl Zdn rfl rfl rfl rfl rfl rfl rfl rfl ?_))
 exact Zax ⟨⟨_,_,_,_,_⟩,⟨0,0,_,_,_,[]⟩⟩ [0,1,4,2] ⟨hr88,rfl,ZU.lit0,hr90⟩ t4 rfl
 refine (ZL (parts:=[]) [] rfl rfl Tryz.underlying31 ZbO ZfR rfl rfl rfl rfl rfl (fun b91=>⟨⟨Kn.le.refl _,t1⟩,(ZN 2 kr rfl kr (ZL (parts:=[]) [] rfl rfl Tryz.underlying30 Za3 ZdK rfl rfl rfl rfl rfl (fun b92=>?_)))⟩))
 refine ⟨⟨Kn.le.refl _,t1⟩,(ZN 5 kr rfl kr (Zb0 (R:=Zn) 4 rfl (ZU.lit0 (R:=Zn)) rfl rfl rfl Zm4 Znj rfl rfl rfl hu.rows Zn.one rfl om (fun l93 p93 c93 hv93=>?_)))⟩
 refine ⟨⟨Kn.le.refl _,t1⟩,(ZaE 4 rfl hv93 Zn.mono om3 (fun B' hle'=>⟨hle',t1⟩) (fun B94 hle94 hr94=>?_))⟩
 replace hu:=hu.mono Zn.mono hle94
 replace hf:=hf.mono Zj.mono hle94
 replace hi:=hi.mono Zu.mono hle94
 have hr94n:=hr94.len
 refine ZN 9 kr rfl kr (ZV rfl rfl ZiP rfl (Zan _ _ x.queue _ hi) ?_)
 rintro _ B95 _ hle95 ⟨l95,a95,c95,rfl,rfl,hv95⟩
 replace hu:=hu.mono Zn.mono hle95
 replace hf:=hf.mono Zj.mono hle95
 replace hi:=hi.mono Zu.mono hle95
 replace hr94:=hr94.mono Zn.mono hle95
 replace hv95:=hv95.mono Zu.mono Kn.less_le
 refine ⟨⟨(hle94.trans hle95),t1⟩,(ZaE 5 rfl hv95 Zu.mono om3 (fun B' hle'=>⟨(hle94.trans hle95).trans hle',t1⟩) (fun B96 hle96 hr96=>?_))⟩
 replace hu:=hu.mono Zn.mono hle96
 replace hf:=hf.mono Zj.mono hle96
 replace hi:=hi.mono Zu.mono hle96
 replace hr94:=hr94.mono Zn.mono hle96
 have hr96n:=hr96.len
 refine aT 10 rfl (Z5 fun D B L hI=>Zay (parts:=[(0,_),(1,_),(2,_),(3,_)]) [_,_,_,_,_] [_,_,_,_,_] rfl rfl Zgl Zch rfl rfl rfl r4) (h:=Zap 12 kr rfl kr kr kr (Z4 [_,_,_,_,_] 2 [_,_,_,_,_] rfl rfl Zdn rfl rfl rfl rfl rfl rfl rfl rfl ?_))
 exact Zax ⟨⟨_,_,_,_,_⟩,⟨0,0,_,_,_,[]⟩⟩ [0,1,3,2] ⟨hr94,rfl,ZU.lit0,hr96⟩ t4 rfl
 obtain ⟨hou,hoe,hv0,hoi⟩:=hF
 replace hu:=hu.mono Zn.mono hle3
 replace hf:=hf.mono Zj.mono hle3
 replace hi:=hi.mono Zu.mono hle3
 refine ZF [(0,_),(1,_),(2,_),(3,_)] [_,_,_,_] t4 rfl (Ze (Za (xA (h:=Zl (ZC (α:=Gh DFolder) [0,1,2,3] (fun g=>[(4,.int .i64 g.k)]) [2,3] (fun g=>[g.l,Zae o.1.b [str x.domain,.slice o.1.q1 x.users.length o.1.c1,.slice g.a g.xs.length g.c,.int .i64 x.queue.next,.slice o.1.q3 x.queue.items.length o.1.c3] 36]) (fun g Bx=>g.k≤x.folders.length∧g.xs=x.folders.take g.k∧ZU Bx g.l g.a g.c 75 5 Zj g.xs) (fun g=>x.folders.length - g.k) ⟨0,0,_,_,_,_⟩ t1 rfl (⟨Nat.zero_le _,by rw [hoe];rfl,hv0⟩) (fun g B97 hle97 hI=>?_))))))
 obtain ⟨hk,hxs,hv⟩:=hI
 have hxn:=congrArg List.length hxs
 rw [List.length_take] at hxn
 replace hu:=hu.mono Zn.mono hle97
 replace hf:=hf.mono Zj.mono hle97
 replace hi:=hi.mono Zu.mono hle97
 replace hou:=hou.mono Zn.mono hle97
 replace hoi:=hoi.mono Zu.mono hle97
 refine ZF [(0,_),(1,_),(2,_),(3,_),(4,_)] [_,_,_,_] t5 rfl (Ze (Za (xM (h:=xW Zar (h:=x1 Zew 0 (h:=xV Tryz.underlying31 (h:=ZJ (h:=Zc rfl (fun g1=>?_) (fun g1=>?_)))))))))
 try simp only [sQ,ne_eq] at g1
 refine Zf (Zd (Ze (Zl (Z8 (keeps _ [0,3] _) mo kr ⟨Kn.le.refl _,ZbU.refl _ _⟩ (fun _ _=>?_)))))
 refine aW 0 rfl Zar (h:=aT 1 rfl (Z5 fun D B L hI=>Zr rfl rfl Zew rfl (atL 3 (hI.2.2.1.trans rfl) rfl rfl) r4) (h:=aW 2 rfl Zar (h:=aT 3 rfl (Z5 fun D B L hI=>Zr rfl rfl Zew rfl (atL 0 (hI.2.1.trans rfl) rfl rfl) r4) (h:=aM 4 rfl (h:=?_)))))
 obtain ⟨w,hw⟩:=ZY (xs:=x.folders) (i:=g.k) om
 obtain ⟨bb99,oo99,rfl⟩:=hf.base hw
 obtain ⟨_,⟨qg100,cg100,qm100,cm100,rfl,hg100,hm100,hb100,hb100b⟩,hc100⟩:=hf.elem hw
 have hg100n:=hg100.len
 have hm100n:=hm100.len
 have hm100s:=Zal hm100
 refine aIx 5 rfl Tryz.underlying31 ZbO (h:=aT 6 rfl (Z5 fun D B L hI=>Zaj [_,_,_,_,_] rfl rfl Zhx rfl (ZlI (hc100.mono hI.1) 0 rfl rfl) r4) (h:=ZN 7 kr rfl kr (ZV rfl rfl ZxP rfl (ZkR _ _ _ _ w _ hg100 hm100) ?_)))
 rintro _ B101 _ hle101 ⟨rfl,l101,a101,c101,l101b,a101b,c101b,rfl,rfl,hs101,hs101b⟩
 refine ⟨⟨Kn.le.refl _,t2⟩,(ZaE 4 rfl hs101 ZW.mono om3 (fun B' hle'=>⟨hle',t2⟩) (fun B102 hle102 hr102=>?_))⟩
 replace hu:=hu.mono Zn.mono hle102
 replace hf:=hf.mono Zj.mono hle102
 replace hi:=hi.mono Zu.mono hle102
 replace hg100:=hg100.mono ZW.mono hle102
 replace hm100:=hm100.mono ZZ.mono hle102
 replace hc100:=hc100.mono hle102
 replace hv:=hv.mono Zj.mono hle102
 replace hou:=hou.mono Zn.mono hle102
 replace hoi:=hoi.mono Zu.mono hle102
 replace hs101b:=hs101b.mono ZZ.mono hle102
 have hr102n:=hr102.len
 refine ZaE 5 rfl hs101b ZZ.mono om3 (fun B' hle'=>⟨hle102.trans hle',t2⟩) (fun B103 hle103 hr103=>?_)
 replace hu:=hu.mono Zn.mono hle103
 replace hf:=hf.mono Zj.mono hle103
 replace hi:=hi.mono Zu.mono hle103
 replace hg100:=hg100.mono ZW.mono hle103
 replace hm100:=hm100.mono ZZ.mono hle103
 replace hc100:=hc100.mono hle103
 replace hr102:=hr102.mono ZW.mono hle103
 replace hv:=hv.mono Zj.mono hle103
 replace hou:=hou.mono Zn.mono hle103
 replace hoi:=hoi.mono Zu.mono hle103
 have hr103n:=hr103.len
 refine ZN 8 kr rfl kr (ZL (parts:=[(0,_)]) [_,_,_,_,_] rfl rfl Tryz.underlying31 ZbO ZfR rfl rfl rfl rfl rfl (fun b104=>?_))
 refine ⟨⟨(hle102.trans hle103),t2⟩,(ZN 9 kr rfl kr (Zi6 (z:=⟨w.owner,w.name,w.grants,w.next,w.mail⟩) (R:=Zj) 2 rfl hv rfl rfl rfl ZuV Zxc rfl rfl (Zcg.box 6 rfl) rfl rfl (⟨_,_,_,_,rfl,hr102,hr103,by first | assumption | omega | (simp;done) | (simp;omega),by first | assumption | omega | (simp;done) | (simp;omega)⟩) om (fun l105 p105 c105 hv105=>?_)))⟩
 refine ⟨⟨(hle102.trans hle103),t2⟩,(aW 10 rfl Zar (h:=Zap 11 kr rfl kr kr kr (Z4 [_] 3 [_,_,_,_,_] rfl rfl Zw9 rfl rfl rfl rfl rfl rfl rfl rfl ?_)))⟩
 refine ZS (Zd (Zk (xM (h:=xD (h:=xA (h:=?_))))))
 exact ZG ⟨g.k+1,0,l105,p105,c105,(g.xs ++ [⟨w.owner,w.name,w.grants,w.next,w.mail⟩])⟩ [0,1,2,3] so2 ⟨so,by simp only [];rw [Zbr hw,hxs],hv105⟩ t5 rfl
 try simp only [sQ,ne_eq] at g1
 have hxe:g.xs=x.folders:=by rw [hxs];exact List.take_of_length_le oz
 refine ZH (Z0 (ZM (Zx (Zd (Za (xL [_,_,_,_,_] Zcx 3 (h:=xS [_,_,_,_,_] 1 [_,_,_,_,_] Zdn (h:=ZE [_,_,_,_] rfl (Zh ?_)))))))))
 exact Zbe .ret (.inl rfl) [_] [2] rfl ⟨⟨_,rfl,.inr ⟨[_,_,_,_,_],Zcx,Zb1 1 rfl rfl rfl,rfl⟩⟩,trivial⟩ ⟨_,_,_,_,_,_,_,rfl,by rw [← hxe];rfl,hou,hxe ▸ hv,hoi⟩

set_option maxHeartbeats 400000 in
theorem ZkS (q:Option Addr) (cp:Nat) (x:DBox) (fl:Int) (t:Str) (ht:t.length≤2000000) (hb:ZdF x=true) (B:Kn) (hm:SlK B q cp 3 ZZ x.mail):Zz (pj J) 120 [.agg #[.int .i64 x.next,.slice q x.mail.length cp],.int .i64 fl,str t] B [] (fun v B' Ls=>∃l a c,Ls=[l]∧v = .tuple #[.agg #[.int .i64 (ZeL x fl t).1.next,.slice a (ZeL x fl t).1.mail.length c],.bool (ZeL x fl t).2]∧ZU B' l a c 205 3 ZZ (ZeL x fl t).1.mail):=by
 refine Zb 36 Tryz.func120 rfl rfl rfl (Nat.le_of_ble_eq_true rfl) ?_
 have hxn:=hm.len
 have hbn:=ZeF hb
 refine Za (xBx [_,_] (h:=fun b1=>xAl [_,_] Znl (h:=fun b2=>xA (h:=ZE [_,_] rfl (Za (xL [_,_] Zfa 0 (h:=Zp (ZV rfl rfl Zuw rfl (ZjJ _ _ (⟨x.next,x.mail⟩:DBox) _ hm) ?_))))))))
 rintro _ B3 _ hle3 ⟨hB3,l3,a3,c3,rfl,rfl,hs3⟩
 have hB3:=hB3.symm
 subst hB3
 refine xAl [_,_] Znl (h:=fun b4=>xS [_,_] 3 [_,_] Zjg (h:=ZE [_,_,_,_] rfl (Ze (Za (xW Zbd (h:=x1 ZhX 0 (h:=xV Tryz.underlying71 (h:=Zd6 (h:=xM (h:=Zw (d:=15) rfl (fun g1=>?_) (fun g1=>?_)))))))))))
 try simp only [sQ,ne_eq] at g1
 have hae:=ZfP (fl:=fl) (t:=t) (b:=x) (.inl oz)
 rw [hae]
 refine xP (h:=xP (h:=xP (h:=xT (h:=Zc (t:=true) rfl (fun _=>Za (xL [_,_] Zfa 3 (h:=xS [_,_] 1 [_,_] Zjg (h:=xA (h:=ZE [_,_,_,_] rfl (Zh (Zq ?_))))))) (fun h=>Bool.noConfusion h)))))
 exact Zbe .ret (.inl rfl) [_,_] [2] rfl ⟨⟨_,rfl,.inr ⟨[_,_],Zfa,Zb1 1 rfl rfl rfl,rfl⟩⟩,rfl,trivial⟩ ⟨_,_,_,rfl,rfl,hs3⟩
 try simp only [sQ,ne_eq] at g1
 refine xW Zcy (h:=x1 lk3 0 (h:=ZcL (h:=xF (h:=Zc rfl (fun g2=>?_) (fun g2=>?_)))))
 try simp only [sQ,ne_eq] at g2
 have hae:=ZfP (fl:=fl) (t:=t) (b:=x) (.inr oz)
 rw [hae]
 refine Za (xL [_,_] Zfa 3 (h:=xS [_,_] 1 [_,_] Zjg (h:=xA (h:=ZE [_,_,_,_] rfl (Zh (Zq ?_))))))
 exact Zbe .ret (.inl rfl) [_,_] [2] rfl ⟨⟨_,rfl,.inr ⟨[_,_],Zfa,Zb1 1 rfl rfl rfl,rfl⟩⟩,rfl,trivial⟩ ⟨_,_,_,rfl,rfl,hs3⟩
 try simp only [sQ,ne_eq] at g2
 have hae:=ZpA (fl:=fl) (t:=t) (b:=x) oz
 rw [hae]
 refine Zf (Zd (Za (xW Zbd (h:=x1 ZhX 3 (h:=xW Zcy (h:=x1 lk3 0 (h:=xM (h:=xM (h:=xB [(0,_),(1,_),(2,_)] [_,_,_] [_,_,_] ZtV ZfT (h:=xBs [(0,_)] [_,_,_] Tryz.underlying71 Zcs ZfT (h:=fun b5=>Zp (Zi6 (z:=⟨x.next,fl,t⟩) (R:=ZZ) 2 rfl hs3 rfl rfl rfl Zth ZuR rfl rfl (Zcg.box 4 rfl) rfl rfl (⟨rfl,by first | assumption | omega | (simp;done) | (simp;omega)⟩) om (fun l6 p6 c6 hv6=>?_)))))))))))))
 refine xW Zbd (h:=xS [_] 3 [_,_] Zvn (h:=ZE [_,_,_,_,_] rfl (Za (xW Zcy (h:=x1 lk3 0 (h:=xD (h:=xW Zcy (h:=xS [_] 3 [_,_] sz3 (h:=ZE [_,_,_,_,_] rfl (Za (xL [_,_] Zfa 3 (h:=xS [_,_] 1 [_,_] Zjg (h:=?_)))))))))))))
 refine xA (h:=ZE [_,_,_,_,_] rfl (Zh ?_))
 exact Zbe .ret (.inl rfl) [_,_] [2] rfl ⟨⟨_,rfl,.inr ⟨[_,_],Zfa,Zb1 1 rfl rfl rfl,rfl⟩⟩,rfl,trivial⟩ ⟨_,_,_,rfl,rfl,hv6⟩

set_option maxHeartbeats 400000 in
theorem Zqx (q1 q2 q3:Option Addr) (c1 c2 c3:Nat) (x:DHost) (k fl:Int) (t:Str) (ht:t.length≤20) (hok:Z7 x=true) (hk0:0≤k) (hk1:k<x.folders.length) (hd:x.domain.length≤2000000) (B:Kn) (hu:SlK B q1 c1 3 Zn x.users) (hf:SlK B q2 c2 5 Zj x.folders) (hi:SlK B q3 c3 4 Zu x.queue.items):Zz (pj J) 66 [.agg #[str x.domain,.slice q1 x.users.length c1,.slice q2 x.folders.length c2,.int .i64 x.queue.next,.slice q3 x.queue.items.length c3],.int .i64 k,.int .i64 fl,str t] B [] (fun v B' Ls=>Ls=[]∧∃p1 d1 p2 d2 p3 d3,v = .tuple #[.agg #[str (ZaY x k.toNat fl t).1.domain,.slice p1 (ZaY x k.toNat fl t).1.users.length d1,.slice p2 (ZaY x k.toNat fl t).1.folders.length d2,.int .i64 (ZaY x k.toNat fl t).1.queue.next,.slice p3 (ZaY x k.toNat fl t).1.queue.items.length d3],.int .i64 (ZaY x k.toNat fl t).2]∧SlK B' p1 d1 3 Zn (ZaY x k.toNat fl t).1.users∧SlK B' p2 d2 5 Zj (ZaY x k.toNat fl t).1.folders∧SlK B' p3 d3 4 Zu (ZaY x k.toNat fl t).1.queue.items∧(ZaY x k.toNat fl t).1.domain.length≤2000000):=by
 refine Zb 61 Tryz.func66 rfl rfl rfl (Nat.le_of_ble_eq_true rfl) ?_
 have hun:=hu.len
 have hfn:=hf.len
 have hin:=hi.len
 obtain ⟨f,hf0⟩ :∃f,x.folders[k.toNat]? = some f:=⟨_,List.getElem?_eq_getElem oz⟩
 have hfo:=Zem hok hf0
 have hbo:=Zf8 hfo
 have hub:=Zk1 hok f.owner
 have hoi:0≤ZdI x.users f.owner:=ZaT.2 (ZgA hfo)
 have hol:=ZoC x.users f.owner
 refine Za (xBx [_,_,_,_,_] (h:=fun b1=>xAl [_,_,_,_,_] Zch (h:=fun b2=>xA (h:=ZE [_,_] rfl (Za (xL [_,_,_,_,_] Zcx 0 (h:=Zp (ZV rfl rfl Zxt rfl (ZjI _ _ _ _ _ _ x _ hu hf hi) ?_))))))))
 rintro _ B3 _ hle3 ⟨l3,a3,c3,q13,c13,q33,c33,rfl,rfl,hu3,hs3,hi3⟩
 replace hu:=hu.mono Zn.mono hle3
 replace hf:=hf.mono Zj.mono hle3
 replace hi:=hi.mono Zu.mono hle3
 have hu3n:=hu3.len
 have hi3n:=hi3.len
 refine xAl [_,_,_,_,_] Zch (h:=fun b4=>xS [_,_,_,_,_] 3 [_,_,_,_,_] Zdn (h:=ZE [_,_,_,_] rfl (Za (xW Zar (h:=x1 Zew 0 (h:=xM (h:=?_)))))))
 obtain ⟨bb5,oo5,rfl⟩:=hf.base hf0
 obtain ⟨_,⟨qg6,cg6,qm6,cm6,rfl,hg6,hm6,hb6,hb6b⟩,hc6⟩:=hf.elem hf0
 have hg6n:=hg6.len
 have hm6n:=hm6.len
 have hm6s:=Zal hm6
 refine xIx Tryz.underlying31 ZbO (h:=xW Zbw (h:=y1 lk9 hc6 0 (h:=xA (h:=Ze (Ze (Z8 (same _ _) mo kr ⟨rfl,rfl⟩ (fun _ _=>?_)))))))
 refine aT 0 rfl (Zab fun D=>Zaj [_,_,_,_,_] rfl rfl Zcx rfl (Zb1 0 rfl rfl rfl) r4) (h:=aM 1 rfl (h:=aT 2 rfl (Zab fun D=>Zaf rfl rfl Zxn rfl (ZjF _ _ _ _ _ _ x _ _ hf) r4) (h:=aM 3 rfl (h:=aT 4 rfl (Zab fun D=>Zlu rfl rfl Tryz.underlying9 rfl r4) (h:=aD 5 rfl (h:=aW 6 rfl Zbn (h:=aT 7 rfl (Zab fun D=>Zr rfl rfl ZhA rfl (atL 0 rfl rfl rfl) r4) (h:=aW 8 rfl Zbn (h:=aT 9 rfl (Zab fun D=>Zr rfl rfl ZhA rfl (atL 0 rfl rfl rfl) r4) (h:=aM 10 rfl (h:=aT 11 rfl (Zab fun D=>Zaf rfl rfl Zus rfl (Zeh _ _ _ _ _ hu) r4) (h:=?_))))))))))))
 obtain ⟨w,hw⟩:=ZsG (xs:=x.users) (i:=(ZdI x.users f.owner)) om om
 obtain ⟨bb10,oo10,rfl⟩:=hu.base hw
 obtain ⟨_,⟨rfl,hb11,hb11b⟩,hc11⟩:=hu.elem hw
 refine aIx 12 rfl Tryz.underlying30 Za3 (h:=?_)
 have hqe:Zdi x.users f.owner=w.quota:=by simp only [Zdi,hw]
 refine aW 13 rfl Zc1 (h:=aT 14 rfl (Zab fun D=>Zr rfl rfl lk3 rfl (hc11 _ 2 _ rfl) r4) (h:=Zne 15 rfl (h:=ZA kr kr ?_)))
 refine Zd (Zc rfl (fun g1=>?_) (fun g1=>?_))
 try simp only [sQ,ne_eq] at g1
 refine Za (xL [_,_,_,_,_] Zcx 3 (h:=Zjo 2 rfl hs3 Zj.mono om3 (fun B12 hle12 hr12=>?_)))
 replace hu:=hu.mono Zn.mono hle12
 replace hf:=hf.mono Zj.mono hle12
 replace hi:=hi.mono Zu.mono hle12
 replace hu3:=hu3.mono Zn.mono hle12
 replace hi3:=hi3.mono Zu.mono hle12
 have hr12n:=hr12.len
 refine xS [_,_,_,_,_] 1 [_,_,_,_,_] Zdn (h:=?_)
 rw [ZgU hf0 oz]
 refine xA (h:=ZE [_,_,_,_] rfl (Zh (Zq ?_)))
 exact Zbe .ret (.inl rfl) [_,_] [] rfl ⟨⟨_,rfl,.inr ⟨[_,_,_,_,_],Zcx,Zb1 1 rfl rfl rfl,rfl⟩⟩,rfl,trivial⟩ ⟨rfl,_,_,_,_,_,_,(by first | rfl | (simp only [DHost.withFolders,List.length_set];rfl)),hu3,hr12,hi3,by first | assumption | (rw [Zev.2.2.1];assumption)⟩
 try simp only [sQ,ne_eq] at g1
 have hal:=ZiX (⟨f.next,f.mail⟩:DBox) fl t
 have hfl:=hbo
 have hfm:f.mail.length≤10:=(ZeF hbo).2.2
 replace hal:(ZeL (⟨f.next,f.mail⟩:DBox) fl t).1.mail.length≤f.mail.length+1:=hal
 refine Zf (Zd (Za (xW Zar (h:=x1 Zew 0 (h:=xM (h:=xIx Tryz.underlying31 ZbO (h:=xW ZbY (h:=yL [_,_] Zfa hc6 3 (h:=xM (h:=xM (h:=Zp (ZV rfl rfl ZwO rfl (ZkS _ _ (⟨f.next,f.mail⟩:DBox) fl t oz (oy) _ hm6) ?_))))))))))))
 rintro _ B13 _ hle13 ⟨l13,a13,c13,rfl,rfl,hs13⟩
 replace hu:=hu.mono Zn.mono hle13
 replace hf:=hf.mono Zj.mono hle13
 replace hi:=hi.mono Zu.mono hle13
 replace hg6:=hg6.mono ZW.mono hle13
 replace hm6:=hm6.mono ZZ.mono hle13
 replace hc6:=hc6.mono hle13
 replace hs3:=hs3.mono Zj.mono hle13
 replace hu3:=hu3.mono Zn.mono hle13
 replace hi3:=hi3.mono Zu.mono hle13
 replace hs13:=hs13.anyK (B':=B13) ZZ.any
 refine xM (h:=xE (h:=Zjo 4 rfl hs13 ZZ.mono om3 (fun B14 hle14 hr14=>?_)))
 replace hu:=hu.mono Zn.mono hle14
 replace hf:=hf.mono Zj.mono hle14
 replace hi:=hi.mono Zu.mono hle14
 replace hg6:=hg6.mono ZW.mono hle14
 replace hm6:=hm6.mono ZZ.mono hle14
 replace hc6:=hc6.mono hle14
 replace hs3:=hs3.mono Zj.mono hle14
 replace hu3:=hu3.mono Zn.mono hle14
 replace hi3:=hi3.mono Zu.mono hle14
 have hr14n:=hr14.len
 refine xE (h:=xAl [_,_] Znl (h:=fun b15=>xS [_,_] 5 [_,_] Zjg (h:=xA (h:=ZE [_,_,_,_,_,_] rfl (Ze (Za (xM (h:=xN (h:=Zc rfl (fun g2=>?_) (fun g2=>?_))))))))))
 try simp only [sQ,ne_eq] at g2
 refine Za (xL [_,_,_,_,_] Zcx 3 (h:=Zjo 2 rfl hs3 Zj.mono om3 (fun B16 hle16 hr16=>?_)))
 replace hu:=hu.mono Zn.mono hle16
 replace hf:=hf.mono Zj.mono hle16
 replace hi:=hi.mono Zu.mono hle16
 replace hu3:=hu3.mono Zn.mono hle16
 replace hi3:=hi3.mono Zu.mono hle16
 replace hr14:=hr14.mono ZZ.mono hle16
 have hr16n:=hr16.len
 refine xS [_,_,_,_,_] 1 [_,_,_,_,_] Zdn (h:=?_)
 rw [ZhR hf0 oz g2]
 refine xA (h:=ZE [_,_,_,_,_,_] rfl (Zh (Zq ?_)))
 exact Zbe .ret (.inl rfl) [_,_] [] rfl ⟨⟨_,rfl,.inr ⟨[_,_,_,_,_],Zcx,Zb1 1 rfl rfl rfl,rfl⟩⟩,rfl,trivial⟩ ⟨rfl,_,_,_,_,_,_,(by first | rfl | (simp only [DHost.withFolders,List.length_set];rfl)),hu3,hr16,hi3,by first | assumption | (rw [Zev.2.2.1];assumption)⟩
 try simp only [sQ,ne_eq] at g2
 refine Zf (Zd (Za (xW Zar (h:=x1 Zew 3 (h:=xM (h:=xL [_,_] Zfa 5 (h:=?_)))))))
 obtain ⟨bb17,_,hp17,⟨qg17,cg17,qm17,cm17,rfl,hg17,hm17,hb17,hb17b⟩,hw17,hc17⟩:=hs3.row hf0
 have hg17n:=hg17.len
 have hm17n:=hm17.len
 have hm17s:=Zal hm17
 refine xIp hp17 Tryz.underlying31 ZbO (h:=xW ZbY (h:=Zp (Zgs (k:=(k).toNat) (off:=3) (⟨f.owner,f.name,f.grants,(ZeL f.box fl t).1.next,(ZeL f.box fl t).1.mail⟩) [_,_] 2 hs3 hp17 hf0 rfl rfl Zjg rfl rfl rfl rfl rfl rfl (by rintro _ ⟨_,_,_,_,rfl,e1,_,e3,e4⟩;exact ⟨_,_,_,_,rfl,e1,hr14,e3,e4⟩) (fun l18 hv18=>?_))))
 refine ZE [_,_,_,_,_,_] rfl (Za (xL [_,_,_,_,_] Zcx 3 (h:=Zjo 2 rfl hv18 Zj.mono om3 (fun B19 hle19 hr19=>?_))))
 replace hu:=hu.mono Zn.mono hle19
 replace hf:=hf.mono Zj.mono hle19
 replace hi:=hi.mono Zu.mono hle19
 replace hu3:=hu3.mono Zn.mono hle19
 replace hi3:=hi3.mono Zu.mono hle19
 replace hr14:=hr14.mono ZZ.mono hle19
 have hr19n:=hr19.len
 refine xS [_,_,_,_,_] 1 [_,_,_,_,_] Zdn (h:=?_)
 rw [ZhS hf0 oz (show (ZeL (⟨f.next,f.mail⟩:DBox) fl t).2=true by simpa using g2)]
 refine xA (h:=ZE [_,_,_,_,_,_] rfl (Zh ?_))
 exact Zbe .ret (.inl rfl) [_,_] [] rfl ⟨⟨_,rfl,.inr ⟨[_,_,_,_,_],Zcx,Zb1 1 rfl rfl rfl,rfl⟩⟩,rfl,trivial⟩ ⟨rfl,_,_,_,_,_,_,(by first | rfl | (simp only [DHost.withFolders,List.length_set];rfl)),hu3,hr19,hi3,by first | assumption | (rw [Zev.2.2.1];assumption)⟩

set_option maxHeartbeats 400000 in
theorem ZnV (q1 q2 q3:Option Addr) (c1 c2 c3:Nat) (x:DHost) (by_ o n:Str) (fl:Int) (t:Str) (hb:by_.length≤2000000) (ho:o.length≤2000000) (hn:n.length≤2000000) (ht:t.length≤2000000) (hd:x.domain.length≤2000000) (B:Kn) (hu:SlK B q1 c1 3 Zn x.users) (hf:SlK B q2 c2 5 Zj x.folders) (hi:SlK B q3 c3 4 Zu x.queue.items):Zz (pj J) 21 [.agg #[str x.domain,.slice q1 x.users.length c1,.slice q2 x.folders.length c2,.int .i64 x.queue.next,.slice q3 x.queue.items.length c3],str by_,str o,str n,.int .i64 fl,str t] B [] (fun v B' Ls=>Ls=[]∧∃p1 d1 p2 d2 p3 d3,v = .tuple #[.agg #[str (ZdJ x by_ o n fl t).1.domain,.slice p1 (ZdJ x by_ o n fl t).1.users.length d1,.slice p2 (ZdJ x by_ o n fl t).1.folders.length d2,.int .i64 (ZdJ x by_ o n fl t).1.queue.next,.slice p3 (ZdJ x by_ o n fl t).1.queue.items.length d3],.int .i64 (ZdJ x by_ o n fl t).2]∧SlK B' p1 d1 3 Zn (ZdJ x by_ o n fl t).1.users∧SlK B' p2 d2 5 Zj (ZdJ x by_ o n fl t).1.folders∧SlK B' p3 d3 4 Zu (ZdJ x by_ o n fl t).1.queue.items∧(ZdJ x by_ o n fl t).1.domain.length≤2000000):=by
 refine Zb 50 Tryz.func21 rfl rfl rfl (Nat.le_of_ble_eq_true rfl) ?_
 have hun:=hu.len
 have hfn:=hf.len
 have hin:=hi.len
 have hix:=ZiG (inF o n) x.folders
 refine Za (xBx [_,_,_,_,_] (h:=fun b1=>xAl [_,_,_,_,_] Zch (h:=fun b2=>xA (h:=ZE [_,_] rfl (Ze (Za (xL [_,_,_,_,_] Zcx 0 (h:=xR Zyn rfl (Zmt _ _ _ _ _ _ x om2 _ hu hf hi) (h:=?_)))))))))
 refine xN (h:=xM (h:=Zw (d:=19) rfl (fun g1=>?_) (fun g1=>?_)))
 try simp only [sQ,ne_eq] at g1
 rw [ZdJ,if_pos (by simp [g1])]
 refine xP (h:=xP (h:=xP (h:=xT (h:=xM (h:=xP (h:=xP (h:=xP (h:=xT (h:=Zc (t:=true) rfl (fun _=>Za (xB [] [_,_,_,_,_] [_,_,_,_,_] Zgl Zch (h:=xS [_,_,_,_,_] 1 [_,_,_,_,_] Zdn (h:=?_)))) (fun h=>Bool.noConfusion h))))))))))
 refine xA (h:=ZE [_,_] rfl (Zh (Zq ?_)))
 exact Zbe .ret (.inl rfl) [_,_] [] rfl ⟨⟨_,rfl,.inr ⟨[_,_,_,_,_],Zcx,Zb1 1 rfl rfl rfl,rfl⟩⟩,rfl,trivial⟩ ⟨rfl,none,0,none,0,none,0,rfl,SlK.nil,SlK.nil,SlK.nil,by simp [ZfC]⟩
 try simp only [sQ,ne_eq] at g1
 refine xM (h:=xR Zxq rfl (ZjE _ _) (h:=xN (h:=xF (h:=xM (h:=Zw (d:=24) rfl (fun g2=>?_) (fun g2=>?_))))))
 try simp only [sQ,ne_eq] at g2
 rw [ZdJ,if_pos (by simp [Zcd,g2])]
 refine xP (h:=xP (h:=xP (h:=xT (h:=Zc (t:=true) rfl (fun _=>Za (xB [] [_,_,_,_,_] [_,_,_,_,_] Zgl Zch (h:=xS [_,_,_,_,_] 1 [_,_,_,_,_] Zdn (h:=xA (h:=ZE [_,_] rfl (Zh (Zq ?_))))))) (fun h=>Bool.noConfusion h)))))
 exact Zbe .ret (.inl rfl) [_,_] [] rfl ⟨⟨_,rfl,.inr ⟨[_,_,_,_,_],Zcx,Zb1 1 rfl rfl rfl,rfl⟩⟩,rfl,trivial⟩ ⟨rfl,none,0,none,0,none,0,rfl,SlK.nil,SlK.nil,SlK.nil,by simp [ZfC]⟩
 try simp only [sQ,ne_eq] at g2
 refine xM (h:=xVs Tryz.underlying9 (h:=ZcL (h:=xF (h:=Zc rfl (fun g3=>?_) (fun g3=>?_)))))
 try simp only [sQ,ne_eq] at g3
 rw [ZdJ,if_pos (by simp;omega)]
 refine Za (xB [] [_,_,_,_,_] [_,_,_,_,_] Zgl Zch (h:=xS [_,_,_,_,_] 1 [_,_,_,_,_] Zdn (h:=xA (h:=ZE [_,_] rfl (Zh (Zq ?_))))))
 exact Zbe .ret (.inl rfl) [_,_] [] rfl ⟨⟨_,rfl,.inr ⟨[_,_,_,_,_],Zcx,Zb1 1 rfl rfl rfl,rfl⟩⟩,rfl,trivial⟩ ⟨rfl,none,0,none,0,none,0,rfl,SlK.nil,SlK.nil,SlK.nil,by simp [ZfC]⟩
 try simp only [sQ,ne_eq] at g3
 have hnn : ¬ ¬ (Z7 x=true∧Zcd fl=true∧t.length≤20):=fun h=>h ⟨by simpa using g1,by simpa [Zcd] using g2,oz⟩
 have hrr:=ZiH (x:=x) (by simpa using g1)
 have hok:Z7 x=true:=by simpa using g1
 refine Zf (Zd (Za (xL [_,_,_,_,_] Zcx 0 (h:=xM (h:=xM (h:=xR Zxs rfl (ZjH _ _ _ _ _ _ x o n om2 om2 _ hf) (h:=?_)))))))
 refine xA (h:=Za (xL [_,_,_,_,_] Zcx 0 (h:=xM (h:=xM (h:=xR Zym rfl (ZmM _ _ _ _ _ _ x by_ (ZcX (inF o n) x.folders) 8 oz hrr oz _ hu hf) (h:=?_))))))
 refine xA (h:=Ze (Za (xM (h:=ZaN (h:=Zc rfl (fun g4=>?_) (fun g4=>?_))))))
 try simp only [sQ,ne_eq] at g4
 refine Za (xL [_,_,_,_,_] Zcx 0 (h:=Zp (ZV rfl rfl Zxt rfl (ZjI _ _ _ _ _ _ x _ hu hf hi) ?_)))
 rintro _ B7 _ hle7 ⟨l7,a7,c7,q17,c17,q37,c37,rfl,rfl,hu7,hs7,hi7⟩
 replace hu:=hu.mono Zn.mono hle7
 replace hf:=hf.mono Zj.mono hle7
 replace hi:=hi.mono Zu.mono hle7
 have hu7n:=hu7.len
 have hi7n:=hi7.len
 refine Zjo 2 rfl hs7 Zj.mono om3 (fun B8 hle8 hr8=>?_)
 replace hu:=hu.mono Zn.mono hle8
 replace hf:=hf.mono Zj.mono hle8
 replace hi:=hi.mono Zu.mono hle8
 replace hu7:=hu7.mono Zn.mono hle8
 replace hi7:=hi7.mono Zu.mono hle8
 have hr8n:=hr8.len
 refine xM (h:=?_)
 rw [ZdJ,if_neg hnn,if_pos g4]
 refine xS [_,_,_,_,_] 1 [_,_,_,_,_] Zdn (h:=xA (h:=ZE [_,_,_] rfl (Zh (Zq ?_))))
 exact Zbe .ret (.inl rfl) [_,_] [] rfl ⟨⟨_,rfl,.inr ⟨[_,_,_,_,_],Zcx,Zb1 1 rfl rfl rfl,rfl⟩⟩,rfl,trivial⟩ ⟨rfl,_,_,_,_,_,_,(by first | rfl | (simp only [DHost.withFolders,List.length_set];rfl)),hu7,hr8,hi7,by first | assumption | (rw [Zev.2.2.1];assumption)⟩
 try simp only [sQ,ne_eq] at g4
 obtain ⟨_,hk0,_,_,_⟩:=Zpn g4
 refine Zf (Zd (Za (xL [_,_,_,_,_] Zcx 0 (h:=xM (h:=xM (h:=xM (h:=Zp (Zig rfl rfl Zx0 rfl (Zqx _ _ _ _ _ _ x (ZcX (inF o n) x.folders) fl t om2 (oy) oz oz om2 _ hu hf hi) ?_))))))))
 intro v9 B9 hle9
 rintro ⟨p19,d19,p29,d29,p39,d39,rfl,hu9,hf9,hi9,hd9⟩
 replace hu:=hu.mono Zn.mono hle9
 replace hf:=hf.mono Zj.mono hle9
 replace hi:=hi.mono Zu.mono hle9
 have hu9n:=hu9.len
 have hf9n:=hf9.len
 have hi9n:=hi9.len
 refine xE (h:=xE (h:=xS [_,_,_,_,_] 1 [_,_,_,_,_] Zdn (h:=xA (h:=ZE [_,_] rfl (Zh ?_)))))
 rw [ZdJ,if_neg hnn,if_neg (fun h=>h g4)]
 exact Zbe .ret (.inl rfl) [_,_] [] rfl ⟨⟨_,rfl,.inr ⟨[_,_,_,_,_],Zcx,Zb1 1 rfl rfl rfl,rfl⟩⟩,rfl,trivial⟩ ⟨rfl,_,_,_,_,_,_,rfl,hu9,hf9,hi9,oy⟩

set_option maxHeartbeats 400000 in
theorem Zlm (q:Option Addr) (cp:Nat) (gs:List DGrant) (o u:Str) (ho:o.length≤2000000) (hn:u.length≤2000000) (B:Kn) (hg:SlK B q cp 2 ZW gs):Z9 (pj J) 155 [.slice q gs.length cp,str o,str u] B (.int .i64 (ZiZ gs o u)):=by
 refine Zb 35 Tryz.func155 rfl rfl rfl (Nat.le_of_ble_eq_true rfl) ?_
 refine Za (xA (h:=Za (xM (h:=Zp (ZV rfl rfl Zuz rfl (Zmd _ _ _ _ hg) ?_)))))
 rintro _ Bm _ hlem ⟨mm,lm,rfl,rfl,rfl,hlm⟩
 refine xM (h:=xE (h:=xE (h:=xA (h:=xA (h:=ZE [_] rfl (Ze (Za (xM (h:=xN (h:=xM (h:=Zw (d:=16) rfl (fun g1=>?_) (fun g1=>?_))))))))))))
 try simp only [sQ,ne_eq] at g1
 refine xP (h:=xP (h:=xP (h:=xT (h:=xM (h:=xP (h:=xP (h:=xP (h:=xT (h:=Zc (t:=true) rfl (fun _=>Za (xA (h:=Zh (Zq ?_)))) (fun h=>Bool.noConfusion h))))))))))
 exact ZB .ret (.inl rfl) [_] t1 ⟨ZI (ZiY (by simp [g1])).symm,rfl,rfl⟩
 try simp only [sQ,ne_eq] at g1
 refine xM (h:=xR ZrK rfl (ZbL _ om2 _) (h:=?_))
 refine xN (h:=xF (h:=xM (h:=Zw (d:=21) rfl (fun g2=>?_) (fun g2=>?_))))
 try simp only [sQ,ne_eq] at g2
 refine xP (h:=xP (h:=xP (h:=xT (h:=Zc (t:=true) rfl (fun _=>Za (xA (h:=Zh (Zq ?_)))) (fun h=>Bool.noConfusion h)))))
 exact ZB .ret (.inl rfl) [_] t1 ⟨ZI (ZiY (by simp [g2])).symm,rfl,rfl⟩
 try simp only [sQ,ne_eq] at g2
 refine xM (h:=xR ZrK rfl (ZbL _ om2 _) (h:=?_))
 refine xN (h:=xF (h:=Zc rfl (fun g3=>?_) (fun g3=>?_)))
 try simp only [sQ,ne_eq] at g3
 refine Za (xA (h:=Zh (Zq ?_)))
 exact ZB .ret (.inl rfl) [_] t1 ⟨ZI (ZiY (by simp [g3])).symm,rfl,rfl⟩
 try simp only [sQ,ne_eq] at g3
 have hce:=Zre (gs:=gs) (o:=o) (u:=u) g1 g2 (by simpa using g3)
 obtain ⟨bm,hmb,hml⟩:=hlm g1
 subst hmb
 clear hlm
 have hlm:=hml
 refine Zf (Zd (Ze (Za (xM (h:=xM (h:=Zdp (h:=Zc rfl (fun g4=>?_) (fun g4=>?_))))))))
 try simp only [sQ,ne_eq] at g4
 refine Za (xA (h:=Zh (Zq ?_)))
 exact ZB .ret (.inl rfl) [_] t1 ⟨ZI (by rw [hce,if_pos g4]),rfl,rfl⟩
 try simp only [sQ,ne_eq] at g4
 refine Zf (Zd (Za (xM (h:=xM (h:=Zp (Zlt (k:=u) 0 rfl hlm rfl rfl Tryz.underlying141 Tryz.underlying9 zo3 rfl rfl (xM (h:=Zp (Zlt (k:=[97,110,121,111,110,101]) 0 rfl hlm rfl rfl Tryz.underlying141 Tryz.underlying9 zo3 rfl rfl (Zp (Zvc rfl rfl rfl rfl (xA (h:=Zh ?_)))))))))))))
 exact ZB .ret (.inl rfl) [_] t1 ⟨ZI (by rw [hce,if_neg g4];rfl),rfl,rfl⟩

set_option maxHeartbeats 400000 in
theorem Zt2 (b o:Nat) (q1 q2 q3:Option Addr) (c1 c2 c3:Nat) (x:DHost) (qa qb:Option Addr) (ca cb:Nat) (u:Str) (f:DFolder) (rr:Int) (hn:u.length≤2000000) (ho:f.owner.length≤2000000) (B:Kn) (hh:Zaq B b o [str x.domain,.slice q1 x.users.length c1,.slice q2 x.folders.length c2,.int .i64 x.queue.next,.slice q3 x.queue.items.length c3]) (hu:SlK B q1 c1 3 Zn x.users) (hg:SlK B qa ca 2 ZW f.grants):Z9 (pj J) 101 [ptr ⟨b,o,none⟩,str u,.agg #[str f.owner,str f.name,.slice qa f.grants.length ca,.int .i64 f.next,.slice qb f.mail.length cb],.int .i64 rr] B (.bool (Zoq x.users f u rr)):=by
 refine Zb 29 Tryz.func101 rfl rfl rfl (Nat.le_of_ble_eq_true rfl) ?_
 refine Za (xBx [_,_,_,_,_] (h:=fun b1=>xA (h:=ZE [_] rfl (Za (xW Zdy (h:=x1 ZpI 0 (h:=xW Zbw (h:=x1 lk9 0 (h:=xM (h:=xR Zwq rfl (Zlm _ _ f.grants f.owner u om2 om2 _ hg) (h:=?_)))))))))))
 refine xA (h:=Za (xM (h:=xM (h:=xR ZuX rfl (ZgB _ _ _ _ _ _ _ _ x u om2 _ hh hu) (h:=?_)))))
 refine xM (h:=Zw (d:=19) rfl (fun g1=>?_) (fun g1=>?_))
 try simp only [sQ,ne_eq] at g1
 refine xM (h:=Zd6 (h:=xT (h:=xM (h:=Zw (d:=23) rfl (fun g2=>?_) (fun g2=>?_)))))
 try simp only [sQ,ne_eq] at g2
 refine xM (h:=xM (h:=Zp (ZtF rfl rfl rfl rfl (ZaN (h:=xT (h:=xA (h:=Zh ?_)))))))
 exact ZB .ret (.inl rfl) [_] t1 ⟨Zg (by simp [Zoq,g1,g2]),rfl,rfl⟩
 try simp only [sQ,ne_eq] at g2
 refine xP (h:=xP (h:=xP (h:=xP (h:=xF (h:=xA (h:=Zh ?_))))))
 exact ZB .ret (.inl rfl) [_] t1 ⟨Zg (by simp [Zoq,g1,g2];try omega),rfl,rfl⟩
 try simp only [sQ,ne_eq] at g1
 refine xP (h:=xP (h:=xF (h:=xM (h:=xP (h:=xP (h:=xP (h:=xP (h:=xF (h:=xA (h:=Zh ?_))))))))))
 exact ZB .ret (.inl rfl) [_] t1 ⟨Zg (by simp [Zoq,g1]),rfl,rfl⟩

set_option maxHeartbeats 400000 in
theorem Zk5 (q:Option Addr) (cp:Nat) (xs:List DMail) (k m n:Nat) (hmn:m=n) (he:xs=ZbH k n) (hk:k+3*n≤900000000000000) (B:Kn) (hx0:SlK B q cp 3 ZZ xs):Z9 (pj J) 113 [.slice q m cp,.int .i64 k] B (.int .i64 ((k+3*n:Nat):Int)):=by
 refine Zb 41 Tryz.func113 rfl rfl rfl (Nat.le_of_ble_eq_true rfl) ?_
 have hxn:=hx0.len
 have hxl:xs.length=n:=by rw [he];exact Zaz _ _
 refine Za (xA (h:=Ze (Za (xA (h:=Zl (ZC (α:=Nat) [0] (fun g=>[(1,.int .i64 ((k+3*g:Nat):Int)),(5,.int .i64 g)]) [] (fun g=>[]) (fun g Bx=>Bx=B∧g≤n) (fun g=>n - g) 0 t2 rfl (⟨rfl,Nat.zero_le _⟩) (fun g B1 hle1 hI=>?_)))))))
 obtain ⟨rfl,hi⟩:=hI
 refine ZF [(0,_),(1,_),(5,_)] [] t3 rfl (Ze (Za (xM (h:=xM (h:=xV Tryz.underlying71 (h:=ZJ (h:=Zc rfl (fun g1=>?_) (fun g1=>?_))))))))
 try simp only [sQ,ne_eq] at g1
 have hx:xs[g]? = some (⟨((k+3*g:Nat):Int),((k+3*g+1:Nat):Int),ZQ (k+3*g+1+1)⟩:DMail):=by rw [he];exact ZkF oz
 refine Zf (Zd (Ze (Zl (Ze (Za (xM (h:=xM (h:=?_))))))))
 obtain ⟨bb2,oo2,rfl⟩:=hx0.base hx
 obtain ⟨_,⟨rfl,hb3⟩,hc3⟩:=hx0.elem hx
 refine xIx Tryz.underlying71 Zcs (h:=xW Zcu (h:=y1 lk3 hc3 0 (h:=xM (h:=ZaN (h:=Zc rfl (fun h1=>by simp at h1) (fun h1=>?_))))))
 try simp only [sQ,ne_eq] at h1
 refine Zf (Zd (Za (xM (h:=xD (h:=xA (h:=Ze (Za (xM (h:=xM (h:=xIx Tryz.underlying71 Zcs (h:=xW Zfe (h:=y1 lk3 hc3 1 (h:=?_)))))))))))))
 refine xM (h:=ZaN (h:=Zc rfl (fun h2=>by simp at h2) (fun h2=>?_)))
 try simp only [sQ,ne_eq] at h2
 refine Zf (Zd (Za (xM (h:=xD (h:=xA (h:=Ze (Ze (Z8 (same _ _) mo kr ⟨rfl,rfl⟩ (fun _ _=>?_)))))))))
 refine aM 0 rfl (h:=aM 1 rfl (h:=aIx 2 rfl Tryz.underlying71 Zcs (h:=aW 3 rfl ZdY (h:=aT 4 rfl (Zab fun D=>Zr rfl rfl lk9 rfl (hc3 _ 2 _ rfl) r4) (h:=aM 5 rfl (h:=aT 6 rfl (Zab fun D=>Zaf rfl rfl Zd9 rfl (Zac (((k+3*g)+1)+1) oz _) r4) (h:=?_)))))))
 refine ZeV 7 rfl (h:=ZA kr kr ?_)
 refine Zd (Zc rfl (fun h3=>by simp at h3) (fun h3=>?_))
 try simp only [sQ,ne_eq] at h3
 refine Zf (Zd (Zk (xM (h:=xD (h:=xA (h:=ZS (Zd (Zk (xM (h:=xD (h:=xA (h:=?_))))))))))))
 exact ZG (g+1) [] so2 ⟨rfl,oz⟩ t3 rfl
 try simp only [sQ,ne_eq] at g1
 refine ZH (Z0 (ZM (Zx (Zd (Za (xM (h:=xA (h:=Zh ?_))))))))
 exact ZB .ret (.inl rfl) [_] t1 ⟨ZI (by rw [show g=n from by omega]),rfl,rfl⟩

set_option maxHeartbeats 400000 in
theorem ZjQ (q:Option Addr) (cp:Nat) (xs:List DGrant) (k m n:Nat) (hmn:m=n) (he:xs=Zaw k n) (hk:k+2*n≤900000000000000) (B:Kn) (hx0:SlK B q cp 2 ZW xs):Z9 (pj J) 112 [.slice q m cp,.int .i64 k] B (.int .i64 ((k+2*n:Nat):Int)):=by
 refine Zb 32 Tryz.func112 rfl rfl rfl (Nat.le_of_ble_eq_true rfl) ?_
 have hxn:=hx0.len
 have hxl:xs.length=n:=by rw [he];exact Zao _ _
 refine Za (xA (h:=Ze (Za (xA (h:=Zl (ZC (α:=Nat) [0] (fun g=>[(1,.int .i64 ((k+2*g:Nat):Int)),(5,.int .i64 g)]) [] (fun g=>[]) (fun g Bx=>Bx=B∧g≤n) (fun g=>n - g) 0 t2 rfl (⟨rfl,Nat.zero_le _⟩) (fun g B1 hle1 hI=>?_)))))))
 obtain ⟨rfl,hi⟩:=hI
 refine ZF [(0,_),(1,_),(5,_)] [] t3 rfl (Ze (Za (xM (h:=xM (h:=xV Tryz.underlying68 (h:=ZJ (h:=Zc rfl (fun g1=>?_) (fun g1=>?_))))))))
 try simp only [sQ,ne_eq] at g1
 have hx:xs[g]? = some (⟨ZQ (k+2*g),((k+2*g+1:Nat):Int)⟩:DGrant):=by rw [he];exact Zjz oz
 refine Zf (Zd (Ze (Zl (Ze (Ze (Z8 (same _ _) mo kr ⟨rfl,rfl⟩ (fun _ _=>?_)))))))
 refine aM 0 rfl (h:=aM 1 rfl (h:=?_))
 obtain ⟨bb2,oo2,rfl⟩:=hx0.base hx
 obtain ⟨_,⟨rfl,hb3⟩,hc3⟩:=hx0.elem hx
 refine aIx 2 rfl Tryz.underlying68 Zdh (h:=aW 3 rfl ZbZ (h:=aT 4 rfl (Zab fun D=>Zr rfl rfl lk9 rfl (hc3 _ 0 _ rfl) r4) (h:=aM 5 rfl (h:=aT 6 rfl (Zab fun D=>Zaf rfl rfl Zd9 rfl (Zac (k+2*g) oz _) r4) (h:=?_)))))
 refine ZeV 7 rfl (h:=ZA kr kr ?_)
 refine Zd (Zc rfl (fun h1=>by simp at h1) (fun h1=>?_))
 try simp only [sQ,ne_eq] at h1
 refine Zf (Zd (Za (xM (h:=xD (h:=xA (h:=Ze (Za (xM (h:=xM (h:=xIx Tryz.underlying68 Zdh (h:=xW Zc0 (h:=y1 lk3 hc3 1 (h:=?_)))))))))))))
 refine xM (h:=ZaN (h:=Zc rfl (fun h2=>by simp at h2) (fun h2=>?_)))
 try simp only [sQ,ne_eq] at h2
 refine Zf (Zd (Zk (xM (h:=xD (h:=xA (h:=ZS (Zd (Zk (xM (h:=xD (h:=xA (h:=?_))))))))))))
 exact ZG (g+1) [] so2 ⟨rfl,oz⟩ t3 rfl
 try simp only [sQ,ne_eq] at g1
 refine ZH (Z0 (ZM (Zx (Zd (Za (xM (h:=xA (h:=Zh ?_))))))))
 exact ZB .ret (.inl rfl) [_] t1 ⟨ZI (by rw [show g=n from by omega]),rfl,rfl⟩

set_option maxHeartbeats 400000 in
theorem Zk3 (q:Option Addr) (cp:Nat) (xs:List DUser) (k m n:Nat) (hmn:m=n) (he:xs=Zca k n) (hk:k+3*n≤900000000000000) (B:Kn) (hx0:SlK B q cp 3 Zn xs):Z9 (pj J) 52 [.slice q m cp,.int .i64 k] B (.int .i64 ((k+3*n:Nat):Int)):=by
 refine Zb 42 Tryz.func52 rfl rfl rfl (Nat.le_of_ble_eq_true rfl) ?_
 have hxn:=hx0.len
 have hxl:xs.length=n:=by rw [he];exact Za9 _ _
 refine Za (xA (h:=Ze (Za (xA (h:=Zl (ZC (α:=Nat) [0] (fun g=>[(1,.int .i64 ((k+3*g:Nat):Int)),(5,.int .i64 g)]) [] (fun g=>[]) (fun g Bx=>Bx=B∧g≤n) (fun g=>n - g) 0 t2 rfl (⟨rfl,Nat.zero_le _⟩) (fun g B1 hle1 hI=>?_)))))))
 obtain ⟨rfl,hi⟩:=hI
 refine ZF [(0,_),(1,_),(5,_)] [] t3 rfl (Ze (Za (xM (h:=xM (h:=xV Tryz.underlying30 (h:=ZJ (h:=Zc rfl (fun g1=>?_) (fun g1=>?_))))))))
 try simp only [sQ,ne_eq] at g1
 have hx:xs[g]? = some (⟨ZQ (k+3*g),ZQ (k+3*g+1),((k+3*g+1+1:Nat):Int)⟩:DUser):=by rw [he];exact ZkD oz
 refine Zf (Zd (Ze (Zl (Ze (Ze (Z8 (same _ _) mo kr ⟨rfl,rfl⟩ (fun _ _=>?_)))))))
 refine aM 0 rfl (h:=aM 1 rfl (h:=?_))
 obtain ⟨bb2,oo2,rfl⟩:=hx0.base hx
 obtain ⟨_,⟨rfl,hb3,hb3b⟩,hc3⟩:=hx0.elem hx
 refine aIx 2 rfl Tryz.underlying30 Za3 (h:=aW 3 rfl ZaV (h:=aT 4 rfl (Zab fun D=>Zr rfl rfl lk9 rfl (hc3 _ 0 _ rfl) r4) (h:=aM 5 rfl (h:=aT 6 rfl (Zab fun D=>Zaf rfl rfl Zd9 rfl (Zac (k+3*g) oz _) r4) (h:=?_)))))
 refine ZeV 7 rfl (h:=ZA kr kr ?_)
 refine Zd (Zc rfl (fun h1=>by simp at h1) (fun h1=>?_))
 try simp only [sQ,ne_eq] at h1
 refine Zf (Zd (Za (xM (h:=xD (h:=xA (h:=Ze (Ze (Z8 (same _ _) mo kr ⟨rfl,rfl⟩ (fun _ _=>?_)))))))))
 refine aM 0 rfl (h:=aM 1 rfl (h:=aIx 2 rfl Tryz.underlying30 Za3 (h:=aW 3 rfl Zfg (h:=aT 4 rfl (Zab fun D=>Zr rfl rfl lk9 rfl (hc3 _ 1 _ rfl) r4) (h:=aM 5 rfl (h:=aT 6 rfl (Zab fun D=>Zaf rfl rfl Zd9 rfl (Zac ((k+3*g)+1) oz _) r4) (h:=?_)))))))
 refine ZeV 7 rfl (h:=ZA kr kr ?_)
 refine Zd (Zc rfl (fun h2=>by simp at h2) (fun h2=>?_))
 try simp only [sQ,ne_eq] at h2
 refine Zf (Zd (Za (xM (h:=xD (h:=xA (h:=Ze (Za (xM (h:=xM (h:=xIx Tryz.underlying30 Za3 (h:=xW Zc1 (h:=y1 lk3 hc3 2 (h:=?_)))))))))))))
 refine xM (h:=ZaN (h:=Zc rfl (fun h3=>by simp at h3) (fun h3=>?_)))
 try simp only [sQ,ne_eq] at h3
 refine Zf (Zd (Zk (xM (h:=xD (h:=xA (h:=ZS (Zd (Zk (xM (h:=xD (h:=xA (h:=?_))))))))))))
 exact ZG (g+1) [] so2 ⟨rfl,oz⟩ t3 rfl
 try simp only [sQ,ne_eq] at g1
 refine ZH (Z0 (ZM (Zx (Zd (Za (xM (h:=xA (h:=Zh ?_))))))))
 exact ZB .ret (.inl rfl) [_] t1 ⟨ZI (by rw [show g=n from by omega]),rfl,rfl⟩

set_option maxHeartbeats 400000 in
theorem ZmT (q:Option Addr) (cp:Nat) (xs:List Str) (k m n:Nat) (hmn:m=n) (he:xs=ZcW k n) (hk:k+1*n≤900000000000000) (B:Kn) (hx0:SlK B q cp 1 Zc5 xs):Z9 (pj J) 163 [.slice q m cp,.int .i64 k] B (.int .i64 ((k+1*n:Nat):Int)):=by
 refine Zb 22 Tryz.func163 rfl rfl rfl (Nat.le_of_ble_eq_true rfl) ?_
 have hxn:=hx0.len
 have hxl:xs.length=n:=by rw [he];exact Za2 _ _
 refine Za (xA (h:=Ze (Za (xA (h:=Zl (ZC (α:=Nat) [0] (fun g=>[(1,.int .i64 ((k+1*g:Nat):Int)),(5,.int .i64 g)]) [] (fun g=>[]) (fun g Bx=>Bx=B∧g≤n) (fun g=>n - g) 0 t2 rfl (⟨rfl,Nat.zero_le _⟩) (fun g B1 hle1 hI=>?_)))))))
 obtain ⟨rfl,hi⟩:=hI
 refine ZF [(0,_),(1,_),(5,_)] [] t3 rfl (Ze (Za (xM (h:=xM (h:=xV Tryz.underlying43 (h:=ZJ (h:=Zc rfl (fun g1=>?_) (fun g1=>?_))))))))
 try simp only [sQ,ne_eq] at g1
 have hx:xs[g]? = some (ZQ (k+1*g):Str):=by rw [he];exact ZmG oz
 refine Zf (Zd (Ze (Zl (Ze (Ze (Z8 (same _ _) mo kr ⟨rfl,rfl⟩ (fun _ _=>?_)))))))
 refine aM 0 rfl (h:=aM 1 rfl (h:=?_))
 obtain ⟨bb2,oo2,rfl⟩:=hx0.base hx
 obtain ⟨_,⟨rfl,hb3⟩,hc3⟩:=hx0.elem hx
 refine aIx 2 rfl Tryz.underlying43 sz9 (h:=aT 3 rfl (Zab fun D=>Zr rfl rfl lk9 rfl (hc3 _ 0 _ rfl) r4) (h:=aM 4 rfl (h:=aT 5 rfl (Zab fun D=>Zaf rfl rfl Zd9 rfl (Zac (k+1*g) oz _) r4) (h:=?_))))
 refine ZeV 6 rfl (h:=ZA kr kr ?_)
 refine Zd (Zc rfl (fun h1=>by simp at h1) (fun h1=>?_))
 try simp only [sQ,ne_eq] at h1
 refine Zf (Zd (Zk (xM (h:=xD (h:=xA (h:=ZS (Zd (Zk (xM (h:=xD (h:=xA (h:=?_))))))))))))
 exact ZG (g+1) [] so2 ⟨rfl,oz⟩ t3 rfl
 try simp only [sQ,ne_eq] at g1
 refine ZH (Z0 (ZM (Zx (Zd (Za (xM (h:=xA (h:=Zh ?_))))))))
 exact ZB .ret (.inl rfl) [_] t1 ⟨ZI (by rw [show g=n from by omega]),rfl,rfl⟩

set_option maxHeartbeats 400000 in
theorem Zix (q:Option Addr) (cp:Nat) (xs:List DFolder) (l:Cells) (k:Nat) (hk:kL Zbp k xs≤800000000000000) (hn:xs.length≤2000000) (B:Kn) (hv:ZaM l q cp 75 5 (Z3 133 205) xs):Zz (pj J) 50 [.slice q xs.length cp,.int .i64 k] B [l] (fun v B' Ls=>B'=B∧∃l',Ls=[l']∧v = .int .i64 ((kL Zbp k xs:Nat):Int)∧ZaM l' q cp 75 5 (Z3 133 205) (mkL Zbp mkF k xs)):=by
 refine Zb 52 Tryz.func50 rfl rfl rfl (Nat.le_of_ble_eq_true rfl) ?_
 have hvc:=hv.cap
 refine Za ?_
 refine xA (h:=?_)
 refine Ze ?_
 refine Za ?_
 refine xA (h:=?_)
 refine Zl ?_
 refine ZC (α:=Nat × Nat × Cells × List DFolder) [4] (fun g=>[(0,.slice q xs.length cp),(1,.int .i64 ((g.2.1:Nat):Int)),(5,.int .i64 g.1)]) [0] (fun g=>[g.2.2.1]) (fun g Bx=>Bx=B∧g.1≤xs.length∧g.2.1=kL Zbp k (xs.take g.1)∧g.2.2.2.length=xs.length∧g.2.2.2.take g.1=mkL Zbp mkF k (xs.take g.1)∧g.2.2.2.drop g.1=xs.drop g.1∧ZaM g.2.2.1 q cp 75 5 (Z3 133 205) g.2.2.2) (fun g=>xs.length - g.1) (0,k,l,xs) t3 rfl (⟨rfl,Nat.zero_le _,ZlW.symm,rfl,rfl,rfl,hv⟩) (fun g B1 hle1 hI=>?_)
 obtain ⟨rfl,hi,hs,hle,ht,hd,hw⟩:=hI
 refine ZF [(0,_),(1,_),(4,_),(5,_)] [_] t4 rfl ?_
 refine Ze ?_
 refine Za ?_
 refine xM (h:=?_)
 refine xM (h:=?_)
 refine xV Tryz.underlying31 (h:=?_)
 refine ZJ (h:=?_)
 refine Zc rfl (fun g1=>?_) (fun g1=>?_)
 try simp only [sQ,ne_eq] at g1
 obtain ⟨x,hx⟩:=ZY (xs:=xs) (i:=g.1) oz
 have hy:=(Zl6 hd).trans hx
 have hkl:=Nat.le_trans (ZqA (st:=Zbp) (k:=k) hx) hk
 rw [← hs] at hkl
 have hst:Zbp x=3+2*x.grants.length+3*x.mail.length:=rfl
 refine Zf ?_
 refine Zd ?_
 refine Ze ?_
 refine Zl ?_
 refine Za ?_
 refine xM (h:=?_)
 refine xM (h:=?_)
 refine xM (h:=?_)
 refine xR Zd9 rfl (Zac (g.2.1) oz _) (h:=?_)
 obtain ⟨bb3,_,li3,lr3,hp3,⟨qg3,cg3,qm3,cm3,ia3,ib3,rfl,rfl,hg3,hm3,ho3,hn3,hx3,hy3⟩,hw3,hq3,hc3,hk3⟩:=hw.cell (B:=B1) (L:=[g.2.2.1]) hy 0 rfl
 refine xIp hp3 Tryz.underlying31 ZbO (h:=?_)
 refine xW Zbw (h:=?_)
 refine Zp (ZhI (k:=g.1) (us:=[_]) ((⟨ZQ (g.2.1),x.name,x.grants,x.next,x.mail⟩:DFolder)) 0 0 rfl hw hp3 hy rfl rfl sz9 rfl rfl rfl rfl (Nat.le_of_ble_eq_true rfl) (by rintro _ _ ⟨_,_,_,_,_,_,rfl,rfl,h1,h2,h3,h4,h5,h6⟩;exact ⟨_,_,_,_,_,_,rfl,rfl,h1,h2,show (ZQ (g.2.1)).length≤2000000 from Nat.le_trans (ZbT (k:=g.2.1) oz) (by decide),h4,h5,h6⟩) (fun l4 hv4=>?_))
 have hs4:=ZdS (z:=((⟨ZQ (g.2.1),x.name,x.grants,x.next,x.mail⟩:DFolder))) hy
 refine ZE [_] rfl ?_
 refine Za ?_
 refine xM (h:=?_)
 refine xD (h:=?_)
 refine xA (h:=?_)
 refine Za ?_
 refine xM (h:=?_)
 refine xM (h:=?_)
 refine xM (h:=?_)
 refine xR Zd9 rfl (Zac ((g.2.1)+1) oz _) (h:=?_)
 obtain ⟨bb6,_,li6,lr6,hp6,⟨qg6,cg6,qm6,cm6,ia6,ib6,rfl,rfl,hg6,hm6,ho6,hn6,hx6,hy6⟩,hw6,hq6,hc6,hk6⟩:=hv4.cell (B:=B1) (L:=[l4]) hs4 0 rfl
 refine xIp hp6 Tryz.underlying31 ZbO (h:=?_)
 refine xW Zdz (h:=?_)
 refine Zp (ZhI (k:=g.1) (us:=[_]) ((⟨ZQ (g.2.1),ZQ (g.2.1+1),x.grants,x.next,x.mail⟩:DFolder)) 1 0 rfl hv4 hp6 hs4 rfl rfl sz9 rfl rfl rfl rfl (Nat.le_of_ble_eq_true rfl) (by rintro _ _ ⟨_,_,_,_,_,_,rfl,rfl,h1,h2,h3,h4,h5,h6⟩;exact ⟨_,_,_,_,_,_,rfl,rfl,h1,h2,h3,show (ZQ (g.2.1+1)).length≤2000000 from Nat.le_trans (ZbT (k:=g.2.1+1) oz) (by decide),h5,h6⟩) (fun l7 hv7=>?_))
 rw [List.set_set] at hv7
 have hs7:=ZdS (z:=((⟨ZQ (g.2.1),ZQ (g.2.1+1),x.grants,x.next,x.mail⟩:DFolder))) hy
 refine ZE [_] rfl ?_
 obtain ⟨bb8,_,li8,lr8,hp8,⟨qg8,cg8,qm8,cm8,ia8,ib8,rfl,rfl,hg8,hm8,ho8,hn8,hx8,hy8⟩,hw8,hq8,hc8,hk8⟩:=hv7.cell (B:=B1) (L:=[_]) hs7 0 rfl
 replace hc8:=fun m u h=>(hc8 m u h).perm (ZfY 0 rfl (Zn9 hq8))
 refine ZeY 0 rfl (Zn9 hq8) ?_
 refine Za ?_
 refine xM (h:=?_)
 refine xD (h:=?_)
 refine xA (h:=?_)
 refine ZE [_,_,_] rfl ?_
 refine Za ?_
 refine xM (h:=?_)
 refine xM (h:=?_)
 refine xIp hp8 Tryz.underlying31 ZbO (h:=?_)
 refine xW Zdy (h:=?_)
 refine Zp (Zr rfl rfl ZpI rfl (hc8 2 _ rfl) ?_)
 refine xM (h:=?_)
 refine Zp (ZaI [1] rfl rfl rfl rfl ZwZ rfl (ZjB _ _ (((⟨ZQ (g.2.1),ZQ (g.2.1+1),x.grants,x.next,x.mail⟩:DFolder)).grants) _ (((g.2.1)+1)+1) oz oz _ (hg8.anyK ZW.any)) ?_)
 rintro _ B9 _ hle9 ⟨rfl,l9,rfl,rfl,hs9⟩
 refine xA (h:=?_)
 refine ZE [_,_,_] rfl ?_
 refine Ze0 0 2 rfl rfl (by decide) ?_
 refine Ze0 0 1 rfl rfl (by decide) ?_
 have hv10:=hk8 (⟨ZQ (g.2.1),ZQ (g.2.1+1),Zaw (g.2.1+1+1) x.grants.length,x.next,x.mail⟩:DFolder) _ ⟨qg8,cg8,qm8,cm8,_,_,by simp only [Zao,Zaz],rfl,hs9.anyK ZW.any,hm8.anyK ZZ.any,ho8,hn8,by first | assumption | (rw [Zao];assumption),by first | assumption | (rw [Zaz];assumption)⟩
 rw [List.append_assoc,List.set_set] at hv10
 have hs10:=ZdS (z:=((⟨ZQ (g.2.1),ZQ (g.2.1+1),Zaw (g.2.1+1+1) x.grants.length,x.next,x.mail⟩:DFolder))) hy
 refine Znq [0] rfl ?_
 refine Za ?_
 refine xM (h:=?_)
 refine xM (h:=?_)
 refine xM (h:=?_)
 obtain ⟨bb11,_,li11,lr11,hp11,⟨qg11,cg11,qm11,cm11,ia11,ib11,rfl,rfl,hg11,hm11,ho11,hn11,hx11,hy11⟩,hw11,hq11,hc11,hk11⟩:=hv10.cell (B:=B9) (L:=[_]) hs10 0 rfl
 refine xIp hp11 Tryz.underlying31 ZbO (h:=?_)
 refine xW ZbY (h:=?_)
 refine xW Zcy (h:=?_)
 refine Zp (ZhI (k:=g.1) (us:=[_]) ((⟨ZQ (g.2.1),ZQ (g.2.1+1),Zaw (g.2.1+1+1) x.grants.length,((g.2.1+1+1+2*x.grants.length:Nat):Int),x.mail⟩:DFolder)) 3 0 rfl hv10 hp11 hs10 rfl rfl sz3 rfl rfl rfl rfl (Nat.le_of_ble_eq_true rfl) (by rintro _ _ ⟨_,_,_,_,_,_,rfl,rfl,h1,h2,h3,h4,h5,h6⟩;exact ⟨_,_,_,_,_,_,rfl,rfl,h1,h2,h3,h4,h5,h6⟩) (fun l12 hv12=>?_))
 rw [List.set_set] at hv12
 have hs12:=ZdS (z:=((⟨ZQ (g.2.1),ZQ (g.2.1+1),Zaw (g.2.1+1+1) x.grants.length,((g.2.1+1+1+2*x.grants.length:Nat):Int),x.mail⟩:DFolder))) hy
 refine ZE [_] rfl ?_
 obtain ⟨bb13,_,li13,lr13,hp13,⟨qg13,cg13,qm13,cm13,ia13,ib13,rfl,rfl,hg13,hm13,ho13,hn13,hx13,hy13⟩,hw13,hq13,hc13,hk13⟩:=hv12.cell (B:=B9) (L:=[_]) hs12 0 rfl
 replace hc13:=fun m u h=>(hc13 m u h).perm (ZfY 0 rfl (Zn9 hq13))
 refine ZeY 0 rfl (Zn9 hq13) ?_
 refine Za ?_
 refine xM (h:=?_)
 refine xD (h:=?_)
 refine xA (h:=?_)
 refine ZE [_,_,_] rfl ?_
 refine Zk ?_
 refine xM (h:=?_)
 refine xM (h:=?_)
 refine xIp hp13 Tryz.underlying31 ZbO (h:=?_)
 refine xW ZbY (h:=?_)
 refine xW Zbd (h:=?_)
 refine Zp (Zr rfl rfl ZhX rfl (hc13 4 _ rfl) ?_)
 refine xM (h:=?_)
 refine Zp (ZaI [2] rfl rfl rfl rfl ZwY rfl (ZkL _ _ (((⟨ZQ (g.2.1),ZQ (g.2.1+1),Zaw (g.2.1+1+1) x.grants.length,((g.2.1+1+1+2*x.grants.length:Nat):Int),x.mail⟩:DFolder)).mail) _ (((((g.2.1)+1)+1)+2*(((⟨ZQ (g.2.1),ZQ (g.2.1+1),x.grants,x.next,x.mail⟩:DFolder)).grants).length)+1) oz oz _ (hm13.anyK ZZ.any)) ?_)
 rintro _ B14 _ hle14 ⟨rfl,l14,rfl,rfl,hs14⟩
 refine xA (h:=?_)
 refine ZS (Zd ?_)
 refine Ze0 0 2 rfl rfl (by decide) ?_
 refine Ze0 0 1 rfl rfl (by decide) ?_
 have hv15:=hk13 (⟨ZQ (g.2.1),ZQ (g.2.1+1),Zaw (g.2.1+1+1) x.grants.length,((g.2.1+1+1+2*x.grants.length:Nat):Int),ZbH (g.2.1+1+1+2*x.grants.length+1) x.mail.length⟩:DFolder) _ ⟨qg13,cg13,qm13,cm13,_,_,by simp only [Zao,Zaz],rfl,hg13.anyK ZW.any,hs14.anyK ZZ.any,ho13,hn13,by first | assumption | (rw [Zao];assumption),by first | assumption | (rw [Zaz];assumption)⟩
 rw [List.append_assoc,List.set_set] at hv15
 have hs15:=ZdS (z:=((⟨ZQ (g.2.1),ZQ (g.2.1+1),Zaw (g.2.1+1+1) x.grants.length,((g.2.1+1+1+2*x.grants.length:Nat):Int),ZbH (g.2.1+1+1+2*x.grants.length+1) x.mail.length⟩:DFolder))) hy
 refine Znq [0] rfl ?_
 refine Zk ?_
 refine xM (h:=?_)
 refine xD (h:=?_)
 refine xA (h:=?_)
 exact ZG (g.1+1,g.2.1+1+1+2*x.grants.length+1+3*x.mail.length,_,(g.2.2.2.set g.1 ((⟨ZQ (g.2.1),ZQ (g.2.1+1),Zaw (g.2.1+1+1) x.grants.length,((g.2.1+1+1+2*x.grants.length:Nat):Int),ZbH (g.2.1+1+1+2*x.grants.length+1) x.mail.length⟩:DFolder)))) [0] so2 ⟨rfl,so,by simp only [];rw [Zg1 hx,← hs,hst];omega,Zlz hle,Zjy ht hx hle hs,Zl5 hd,hv15⟩ t4 rfl
 try simp only [sQ,ne_eq] at g1
 have he:=Zoo ht hle oz
 have hgi:g.1=xs.length:=by omega
 refine ZH (Z0 (ZM (Zx (Zd ?_))))
 refine Za ?_
 refine xM (h:=?_)
 refine xA (h:=?_)
 refine Zh ?_
 exact Zbe .ret (.inl rfl) [_] [0] rfl t1 ⟨rfl,_,rfl,by rw [hs,ZlX oz];rfl,by rw [← he];exact hw⟩

set_option maxHeartbeats 400000 in
theorem ZkM (q:Option Addr) (cp:Nat) (xs:List DItem) (l:Cells) (k:Nat) (hk:kL ZbP k xs≤800000000000000) (hn:xs.length≤2000000) (B:Kn) (hv:ZaM l q cp 126 4 (ZaP 9) xs):Zz (pj J) 111 [.slice q xs.length cp,.int .i64 k] B [l] (fun v B' Ls=>B'=B∧∃l',Ls=[l']∧v = .int .i64 ((kL ZbP k xs:Nat):Int)∧ZaM l' q cp 126 4 (ZaP 9) (mkL ZbP mkI k xs)):=by
 refine Zb 43 Tryz.func111 rfl rfl rfl (Nat.le_of_ble_eq_true rfl) ?_
 have hvc:=hv.cap
 refine Za ?_
 refine xA (h:=?_)
 refine Ze ?_
 refine Za ?_
 refine xA (h:=?_)
 refine Zl ?_
 refine ZC (α:=Nat × Nat × Cells × List DItem) [4] (fun g=>[(0,.slice q xs.length cp),(1,.int .i64 ((g.2.1:Nat):Int)),(5,.int .i64 g.1)]) [0] (fun g=>[g.2.2.1]) (fun g Bx=>Bx=B∧g.1≤xs.length∧g.2.1=kL ZbP k (xs.take g.1)∧g.2.2.2.length=xs.length∧g.2.2.2.take g.1=mkL ZbP mkI k (xs.take g.1)∧g.2.2.2.drop g.1=xs.drop g.1∧ZaM g.2.2.1 q cp 126 4 (ZaP 9) g.2.2.2) (fun g=>xs.length - g.1) (0,k,l,xs) t3 rfl (⟨rfl,Nat.zero_le _,ZlW.symm,rfl,rfl,rfl,hv⟩) (fun g B1 hle1 hI=>?_)
 obtain ⟨rfl,hi,hs,hle,ht,hd,hw⟩:=hI
 refine ZF [(0,_),(1,_),(4,_),(5,_)] [_] t4 rfl ?_
 refine Ze ?_
 refine Za ?_
 refine xM (h:=?_)
 refine xM (h:=?_)
 refine xV Tryz.underlying32 (h:=?_)
 refine ZJ (h:=?_)
 refine Zc rfl (fun g1=>?_) (fun g1=>?_)
 try simp only [sQ,ne_eq] at g1
 obtain ⟨x,hx⟩:=ZY (xs:=xs) (i:=g.1) oz
 have hy:=(Zl6 hd).trans hx
 have hkl:=Nat.le_trans (ZqA (st:=ZbP) (k:=k) hx) hk
 rw [← hs] at hkl
 have hst:ZbP x=3+x.left.length:=rfl
 refine Zf ?_
 refine Zd ?_
 refine Ze ?_
 refine Zl ?_
 refine Za ?_
 refine xM (h:=?_)
 refine xM (h:=?_)
 refine xM (h:=?_)
 obtain ⟨bb2,_,li2,lr2,hp2,⟨qg2,cg2,rfl,hg2,ho2,hn2,hx2⟩,hw2,hq2,hc2,hk2⟩:=hw.cell (B:=B1) (L:=[g.2.2.1]) hy 0 rfl
 refine xIp hp2 Tryz.underlying32 Zbg (h:=?_)
 refine xW Zd0 (h:=?_)
 refine Zp (ZhI (k:=g.1) (us:=[_]) ((⟨((g.2.1:Nat):Int),x.fr,x.text,x.left⟩:DItem)) 0 0 rfl hw hp2 hy rfl rfl sz3 rfl rfl rfl rfl (Nat.le_of_ble_eq_true rfl) (by rintro _ _ ⟨_,_,rfl,h1,h2,h3,h4⟩;exact ⟨_,_,rfl,h1,h2,h3,h4⟩) (fun l3 hv3=>?_))
 have hs3:=ZdS (z:=((⟨((g.2.1:Nat):Int),x.fr,x.text,x.left⟩:DItem))) hy
 refine ZE [_] rfl ?_
 refine Za ?_
 refine xM (h:=?_)
 refine xD (h:=?_)
 refine xA (h:=?_)
 refine Za ?_
 refine xM (h:=?_)
 refine xM (h:=?_)
 refine xM (h:=?_)
 refine xR Zd9 rfl (Zac ((g.2.1)+1) oz _) (h:=?_)
 obtain ⟨bb5,_,li5,lr5,hp5,⟨qg5,cg5,rfl,hg5,ho5,hn5,hx5⟩,hw5,hq5,hc5,hk5⟩:=hv3.cell (B:=B1) (L:=[l3]) hs3 0 rfl
 refine xIp hp5 Tryz.underlying32 Zbg (h:=?_)
 refine xW ZdZ (h:=?_)
 refine Zp (ZhI (k:=g.1) (us:=[_]) ((⟨((g.2.1:Nat):Int),ZQ (g.2.1+1),x.text,x.left⟩:DItem)) 1 0 rfl hv3 hp5 hs3 rfl rfl sz9 rfl rfl rfl rfl (Nat.le_of_ble_eq_true rfl) (by rintro _ _ ⟨_,_,rfl,h1,h2,h3,h4⟩;exact ⟨_,_,rfl,h1,show (ZQ (g.2.1+1)).length≤2000000 from Nat.le_trans (ZbT (k:=g.2.1+1) oz) (by decide),h3,h4⟩) (fun l6 hv6=>?_))
 rw [List.set_set] at hv6
 have hs6:=ZdS (z:=((⟨((g.2.1:Nat):Int),ZQ (g.2.1+1),x.text,x.left⟩:DItem))) hy
 refine ZE [_] rfl ?_
 refine Za ?_
 refine xM (h:=?_)
 refine xD (h:=?_)
 refine xA (h:=?_)
 refine Za ?_
 refine xM (h:=?_)
 refine xM (h:=?_)
 refine xM (h:=?_)
 refine xR Zd9 rfl (Zac (((g.2.1)+1)+1) oz _) (h:=?_)
 obtain ⟨bb8,_,li8,lr8,hp8,⟨qg8,cg8,rfl,hg8,ho8,hn8,hx8⟩,hw8,hq8,hc8,hk8⟩:=hv6.cell (B:=B1) (L:=[l6]) hs6 0 rfl
 refine xIp hp8 Tryz.underlying32 Zbg (h:=?_)
 refine xW Zff (h:=?_)
 refine Zp (ZhI (k:=g.1) (us:=[_]) ((⟨((g.2.1:Nat):Int),ZQ (g.2.1+1),ZQ (g.2.1+1+1),x.left⟩:DItem)) 2 0 rfl hv6 hp8 hs6 rfl rfl sz9 rfl rfl rfl rfl (Nat.le_of_ble_eq_true rfl) (by rintro _ _ ⟨_,_,rfl,h1,h2,h3,h4⟩;exact ⟨_,_,rfl,h1,h2,show (ZQ (g.2.1+1+1)).length≤2000000 from Nat.le_trans (ZbT (k:=g.2.1+1+1) oz) (by decide),h4⟩) (fun l9 hv9=>?_))
 rw [List.set_set] at hv9
 have hs9:=ZdS (z:=((⟨((g.2.1:Nat):Int),ZQ (g.2.1+1),ZQ (g.2.1+1+1),x.left⟩:DItem))) hy
 refine ZE [_] rfl ?_
 obtain ⟨bb10,_,li10,lr10,hp10,⟨qg10,cg10,rfl,hg10,ho10,hn10,hx10⟩,hw10,hq10,hc10,hk10⟩:=hv9.cell (B:=B1) (L:=[_]) hs9 0 rfl
 replace hc10:=fun m u h=>(hc10 m u h).perm (ZfY 0 rfl (ZtY hq10))
 refine ZeY 0 rfl (ZtY hq10) ?_
 refine Za ?_
 refine xM (h:=?_)
 refine xD (h:=?_)
 refine xA (h:=?_)
 refine ZE [_,_] rfl ?_
 refine Zk ?_
 refine xM (h:=?_)
 refine xM (h:=?_)
 refine xIp hp10 Tryz.underlying32 Zbg (h:=?_)
 refine xW Zcc (h:=?_)
 refine Zp (Zr rfl rfl ZkP rfl (hc10 3 _ rfl) ?_)
 refine xM (h:=?_)
 refine Zp (ZaI [1] rfl rfl rfl rfl Zx1 rfl (Ziw _ _ (((⟨((g.2.1:Nat):Int),ZQ (g.2.1+1),ZQ (g.2.1+1+1),x.left⟩:DItem)).left) _ ((((g.2.1)+1)+1)+1) oz oz _ (hg10.anyK Zc5.any)) ?_)
 rintro _ B11 _ hle11 ⟨rfl,l11,rfl,rfl,hs11⟩
 refine xA (h:=?_)
 refine ZS (Zd ?_)
 refine Ze0 0 1 rfl rfl (by decide) ?_
 have hv12:=hk10 (⟨((g.2.1:Nat):Int),ZQ (g.2.1+1),ZQ (g.2.1+1+1),ZcW (g.2.1+1+1+1) x.left.length⟩:DItem) _ ⟨qg10,cg10,by simp only [Za2],hs11.anyK Zc5.any,ho10,hn10,by first | assumption | (rw [Za2];assumption)⟩
 rw [List.set_set] at hv12
 have hs12:=ZdS (z:=((⟨((g.2.1:Nat):Int),ZQ (g.2.1+1),ZQ (g.2.1+1+1),ZcW (g.2.1+1+1+1) x.left.length⟩:DItem))) hy
 refine Znq [0] rfl ?_
 refine Zk ?_
 refine xM (h:=?_)
 refine xD (h:=?_)
 refine xA (h:=?_)
 exact ZG (g.1+1,g.2.1+1+1+1+1*x.left.length,_,(g.2.2.2.set g.1 ((⟨((g.2.1:Nat):Int),ZQ (g.2.1+1),ZQ (g.2.1+1+1),ZcW (g.2.1+1+1+1) x.left.length⟩:DItem)))) [0] so2 ⟨rfl,so,by simp only [];rw [Zg1 hx,← hs,hst];omega,Zlz hle,Zjy ht hx hle hs,Zl5 hd,hv12⟩ t4 rfl
 try simp only [sQ,ne_eq] at g1
 have he:=Zoo ht hle oz
 refine ZH (Z0 (ZM (Zx (Zd ?_))))
 refine Za ?_
 refine xM (h:=?_)
 refine xA (h:=?_)
 refine Zh ?_
 exact Zbe .ret (.inl rfl) [_] [0] rfl t1 ⟨rfl,_,rfl,by rw [hs,ZlX oz];rfl,by rw [← he];exact hw⟩

set_option maxHeartbeats 400000 in
theorem ZkK (q1:Option Addr) (c1:Nat) (x:DQueue) (l1:Cells) (k:Nat) (hk:kL ZbP k x.items≤800000000000000) (hn:x.items.length≤2000000) (B:Kn) (hv:ZaM l1 q1 c1 126 4 (ZaP 9) x.items):Zz (pj J) 51 [.agg #[.int .i64 x.next,.slice q1 x.items.length c1],.int .i64 k] B [l1] (fun v B' Ls=>B'=B∧∃l',Ls=[l']∧v = .int .i64 ((kL ZbP k x.items:Nat):Int)∧ZaM l' q1 c1 126 4 (ZaP 9) (mkL ZbP mkI k x.items)):=by
 refine Zb 10 Tryz.func51 rfl rfl rfl (Nat.le_of_ble_eq_true rfl) ?_
 refine Za (xBx [_,_] (h:=fun b1=>xA (h:=ZE [_,_] rfl (Za (xW Zbx (h:=x1 ZhY 1 (h:=xM (h:=Zp (ZaI [0] rfl rfl rfl rfl ZwX rfl (ZkM _ _ x.items _ k oa oz _ hv) ?_)))))))))
 rintro _ B2 _ hle2 ⟨rfl,l2,rfl,rfl,hs2⟩
 refine xA (h:=ZE [_,_] rfl (Za (xM (h:=xA (h:=Zh ?_)))))
 exact Zbe .ret (.inl rfl) [_] [0] rfl t1 ⟨rfl,_,rfl,rfl,hs2⟩

set_option maxHeartbeats 400000 in
theorem ZhV (q1 q2 q3:Option Addr) (c1 c2 c3:Nat) (x:DHost) (l1 l2 l3:Cells) (k:Nat) (hk:kH k x≤800000000000000) (hn1:x.users.length≤2000000) (hn2:x.folders.length≤2000000) (hn3:x.queue.items.length≤2000000) (B:Kn) (hu:ZU Kn.none l1 q1 c1 123 3 Zn x.users) (hf:ZaM l2 q2 c2 75 5 (Z3 133 205) x.folders) (hi:ZaM l3 q3 c3 126 4 (ZaP 9) x.queue.items):Zz (pj J) 13 [.agg #[str x.domain,.slice q1 x.users.length c1,.slice q2 x.folders.length c2,.int .i64 x.queue.next,.slice q3 x.queue.items.length c3],.int .i64 k] B [l1,l2,l3] (fun v B' Ls=>B'=B∧∃l1' l2' l3',Ls=[l1',l2',l3']∧v = .int .i64 ((kH k x:Nat):Int)∧ZU Kn.none l1' q1 c1 123 3 Zn (Zca k x.users.length)∧ZaM l2' q2 c2 75 5 (Z3 133 205) (mkL Zbp mkF (k+3*x.users.length) x.folders)∧ZaM l3' q3 c3 126 4 (ZaP 9) (mkL ZbP mkI (kL Zbp (k+3*x.users.length) x.folders) x.queue.items)):=by
 refine Zb 18 Tryz.func13 rfl rfl rfl (Nat.le_of_ble_eq_true rfl) ?_
 have hk3:kL ZbP (kL Zbp (k+3*x.users.length) x.folders) x.queue.items≤800000000000000:=hk
 have hk2:(kL Zbp (k+3*x.users.length) x.folders)≤800000000000000:=Nat.le_trans Zqz hk3
 have hk1:(k+3*x.users.length)≤800000000000000:=Nat.le_trans Zqz hk2
 refine Za (xBx [_,_,_,_,_] (h:=fun b1=>xA (h:=ZE [_,_,_,_] rfl (Za (xW Zbn (h:=x1 ZhA 3 (h:=xM (h:=Zp (ZaI [0] rfl rfl rfl rfl Zyd rfl (ZkJ _ _ x.users _ k oz oz _ (hu.anyK Zn.any)) ?_)))))))))
 rintro _ B2 _ hle2 ⟨rfl,l2,rfl,rfl,hs2⟩
 refine xA (h:=ZE [_,_,_,_] rfl (Za (xW Zar (h:=x1 Zew 3 (h:=xM (h:=Zp (ZaI [1] rfl rfl rfl rfl Zyc rfl (Zix _ _ x.folders _ (k+3*x.users.length) oa oz _ hf) ?_)))))))
 rintro _ B3 _ hle3 ⟨rfl,l3,rfl,rfl,hs3⟩
 refine xA (h:=ZE [_,_,_,_] rfl (Za (xW Zd5 (h:=xL [_,_] Zke 3 (h:=xM (h:=Zp (ZaI [2] rfl rfl rfl rfl Zyb rfl (ZkK _ _ x.queue _ (kL Zbp (k+3*x.users.length) x.folders) oa oz _ hi) ?_)))))))
 rintro _ B4 _ hle4 ⟨rfl,l4a,rfl,rfl,hs4a⟩
 refine xA (h:=ZE [_,_,_,_] rfl (Za (xM (h:=xA (h:=Zh ?_)))))
 exact Zbe .ret (.inl rfl) [_] [0,1,2] rfl t1 ⟨rfl,_,_,_,rfl,rfl,hs2.anyK Zn.any,hs3,hs4a⟩

set_option maxHeartbeats 400000 in
theorem ZiI (q:Option Addr) (cp:Nat) (xs:List DFolder) (k m:Nat) (hmn:m=xs.length) (hk:kL Zbp k xs≤800000000000000) (B:Kn) (hx0:SlK B q cp 5 Zj (mkL Zbp mkF k xs)):Z9 (pj J) 53 [.slice q m cp,.int .i64 k] B (.int .i64 ((kL Zbp k xs:Nat):Int)):=by
 refine Zb 62 Tryz.func53 rfl rfl rfl (Nat.le_of_ble_eq_true rfl) ?_
 have hxn:=hx0.len
 have hml:=ZdU (st:=Zbp) (mk:=mkF) (xs:=xs) k
 refine Za (xA (h:=Ze (Za (xA (h:=Zl (ZC (α:=Nat × Nat) [0] (fun g=>[(1,.int .i64 g.2),(5,.int .i64 g.1)]) [] (fun g=>[]) (fun g Bx=>Bx=B∧g.1≤xs.length∧g.2=kL Zbp k (xs.take g.1)) (fun g=>xs.length - g.1) (0,k) t2 rfl (⟨rfl,Nat.zero_le _,ZlW.symm⟩) (fun g B1 hle1 hI=>?_)))))))
 obtain ⟨rfl,hi,hs⟩:=hI
 refine ZF [(0,_),(1,_),(5,_)] [] t3 rfl (Ze (Za (xM (h:=xM (h:=xV Tryz.underlying31 (h:=ZJ (h:=Zc rfl (fun g1=>?_) (fun g1=>?_))))))))
 try simp only [sQ,ne_eq] at g1
 obtain ⟨x,hx⟩:=ZY (xs:=xs) (i:=g.1) oz
 have hkl:=Nat.le_trans (ZqA (st:=Zbp) (k:=k) hx) hk
 rw [← hs] at hkl
 have hst:Zbp x=3+2*x.grants.length+3*x.mail.length:=rfl
 have hz:(mkL Zbp mkF k xs)[g.1]? = some (mkF g.2 x):=by rw [hs];exact ZkG k hx
 refine Zf (Zd (Ze (Zl (Ze (Ze (Z8 (same _ _) mo kr ⟨rfl,rfl⟩ (fun _ _=>?_)))))))
 refine aM 0 rfl (h:=aM 1 rfl (h:=?_))
 obtain ⟨bb2,oo2,rfl⟩:=hx0.base hz
 obtain ⟨_,⟨qg3,cg3,qm3,cm3,rfl,hg3,hm3,hb3,hb3b⟩,hc3⟩:=hx0.elem hz
 have hg3n:=hg3.len
 have hm3n:=hm3.len
 have hm3s:=Zal hm3
 refine aIx 2 rfl Tryz.underlying31 ZbO (h:=aW 3 rfl Zbw (h:=aT 4 rfl (Zab fun D=>Zr rfl rfl lk9 rfl (hc3 _ 0 _ rfl) r4) (h:=aM 5 rfl (h:=aT 6 rfl (Zab fun D=>Zaf rfl rfl Zd9 rfl (Zac g.2 oz _) r4) (h:=?_)))))
 refine ZeV 7 rfl (h:=ZA kr kr ?_)
 refine Zd (Zc rfl (fun h1=>by simp [mkF] at h1) (fun h1=>?_))
 try simp only [sQ,ne_eq] at h1
 refine Zf (Zd (Za (xM (h:=xD (h:=xA (h:=Ze (Ze (Z8 (same _ _) mo kr ⟨rfl,rfl⟩ (fun _ _=>?_)))))))))
 refine aM 0 rfl (h:=aM 1 rfl (h:=aIx 2 rfl Tryz.underlying31 ZbO (h:=aW 3 rfl Zdz (h:=aT 4 rfl (Zab fun D=>Zr rfl rfl lk9 rfl (hc3 _ 1 _ rfl) r4) (h:=aM 5 rfl (h:=aT 6 rfl (Zab fun D=>Zaf rfl rfl Zd9 rfl (Zac (g.2+1) oz _) r4) (h:=?_)))))))
 refine ZeV 7 rfl (h:=ZA kr kr ?_)
 refine Zd (Zc rfl (fun h2=>by simp [mkF] at h2) (fun h2=>?_))
 try simp only [sQ,ne_eq] at h2
 refine Zf (Zd (Za (xM (h:=xD (h:=xA (h:=Za (xM (h:=xM (h:=xIx Tryz.underlying31 ZbO (h:=xW Zdy (h:=y1 ZpI hc3 2 (h:=xM (h:=?_)))))))))))))
 refine xR ZwW rfl (ZjQ _ _ _ ((g.2+1)+1) _ x.grants.length (by first | rfl | exact Zao _ _) rfl oz _ hg3) (h:=?_)
 refine xA (h:=Ze (Za (xM (h:=ZJ (h:=Zc rfl (fun h3=>by first | omega | (simp at h3;done) | (simp at h3;omega)) (fun h3=>?_))))))
 try simp only [sQ,ne_eq] at h3
 refine Zf (Zd (Ze (Za (xM (h:=xM (h:=xIx Tryz.underlying31 ZbO (h:=xW ZbY (h:=xW Zcy (h:=y1 lk3 hc3 3 (h:=xM (h:=ZaN (h:=Zc rfl (fun h4=>by simp [mkF] at h4) (fun h4=>?_)))))))))))))
 try simp only [sQ,ne_eq] at h4
 refine Zf (Zd (Za (xM (h:=xD (h:=xA (h:=Za (xM (h:=xM (h:=xIx Tryz.underlying31 ZbO (h:=xW ZbY (h:=xW Zbd (h:=y1 ZhX hc3 4 (h:=?_)))))))))))))
 refine xM (h:=xR ZwV rfl (Zk5 _ _ _ ((((g.2+1)+1)+2*x.grants.length)+1) _ x.mail.length (by first | rfl | exact Zaz _ _) rfl oz _ hm3) (h:=?_))
 refine xA (h:=Za (xM (h:=ZJ (h:=Zc rfl (fun h5=>by first | omega | (simp at h5;done) | (simp at h5;omega)) (fun h5=>?_)))))
 try simp only [sQ,ne_eq] at h5
 refine Zf (ZS (Zd (Zk (xM (h:=xD (h:=xA (h:=?_)))))))
 exact ZG (g.1+1,g.2+1+1+2*x.grants.length+1+3*x.mail.length) [] so2 ⟨rfl,so,by simp only [];rw [Zg1 hx,← hs,hst];omega⟩ t3 rfl
 try simp only [sQ,ne_eq] at g1
 refine ZH (Z0 (ZM (Zx (Zd (Za (xM (h:=xA (h:=Zh ?_))))))))
 exact ZB .ret (.inl rfl) [_] t1 ⟨ZI (by rw [hs,ZlX oz]),rfl,rfl⟩

set_option maxHeartbeats 400000 in
theorem Zk6 (q:Option Addr) (cp:Nat) (xs:List DItem) (k m:Nat) (hmn:m=xs.length) (hk:kL ZbP k xs≤800000000000000) (B:Kn) (hx0:SlK B q cp 4 Zu (mkL ZbP mkI k xs)):Z9 (pj J) 114 [.slice q m cp,.int .i64 k] B (.int .i64 ((kL ZbP k xs:Nat):Int)):=by
 refine Zb 51 Tryz.func114 rfl rfl rfl (Nat.le_of_ble_eq_true rfl) ?_
 have hxn:=hx0.len
 have hml:=ZdU (st:=ZbP) (mk:=mkI) (xs:=xs) k
 refine Za (xA (h:=Ze (Za (xA (h:=Zl (ZC (α:=Nat × Nat) [0] (fun g=>[(1,.int .i64 g.2),(5,.int .i64 g.1)]) [] (fun g=>[]) (fun g Bx=>Bx=B∧g.1≤xs.length∧g.2=kL ZbP k (xs.take g.1)) (fun g=>xs.length - g.1) (0,k) t2 rfl (⟨rfl,Nat.zero_le _,ZlW.symm⟩) (fun g B1 hle1 hI=>?_)))))))
 obtain ⟨rfl,hi,hs⟩:=hI
 refine ZF [(0,_),(1,_),(5,_)] [] t3 rfl (Ze (Za (xM (h:=xM (h:=xV Tryz.underlying32 (h:=ZJ (h:=Zc rfl (fun g1=>?_) (fun g1=>?_))))))))
 try simp only [sQ,ne_eq] at g1
 obtain ⟨x,hx⟩:=ZY (xs:=xs) (i:=g.1) oz
 have hkl:=Nat.le_trans (ZqA (st:=ZbP) (k:=k) hx) hk
 rw [← hs] at hkl
 have hst:ZbP x=3+x.left.length:=rfl
 have hz:(mkL ZbP mkI k xs)[g.1]? = some (mkI g.2 x):=by rw [hs];exact ZkG k hx
 refine Zf (Zd (Ze (Zl (Ze (Za (xM (h:=xM (h:=?_))))))))
 obtain ⟨bb2,oo2,rfl⟩:=hx0.base hz
 obtain ⟨_,⟨qi3,ci3,rfl,hi3,hb3,hb3b⟩,hc3⟩:=hx0.elem hz
 have hi3n:=hi3.len
 refine xIx Tryz.underlying32 Zbg (h:=xW Zd0 (h:=y1 lk3 hc3 0 (h:=xM (h:=ZaN (h:=Zc rfl (fun h1=>by simp [mkI] at h1) (fun h1=>?_))))))
 try simp only [sQ,ne_eq] at h1
 refine Zf (Zd (Za (xM (h:=xD (h:=xA (h:=Ze (Ze (Z8 (same _ _) mo kr ⟨rfl,rfl⟩ (fun _ _=>?_)))))))))
 refine aM 0 rfl (h:=aM 1 rfl (h:=aIx 2 rfl Tryz.underlying32 Zbg (h:=aW 3 rfl ZdZ (h:=aT 4 rfl (Zab fun D=>Zr rfl rfl lk9 rfl (hc3 _ 1 _ rfl) r4) (h:=aM 5 rfl (h:=aT 6 rfl (Zab fun D=>Zaf rfl rfl Zd9 rfl (Zac (g.2+1) oz _) r4) (h:=?_)))))))
 refine ZeV 7 rfl (h:=ZA kr kr ?_)
 refine Zd (Zc rfl (fun h2=>by simp [mkI] at h2) (fun h2=>?_))
 try simp only [sQ,ne_eq] at h2
 refine Zf (Zd (Za (xM (h:=xD (h:=xA (h:=Ze (Ze (Z8 (same _ _) mo kr ⟨rfl,rfl⟩ (fun _ _=>?_)))))))))
 refine aM 0 rfl (h:=aM 1 rfl (h:=aIx 2 rfl Tryz.underlying32 Zbg (h:=aW 3 rfl Zff (h:=aT 4 rfl (Zab fun D=>Zr rfl rfl lk9 rfl (hc3 _ 2 _ rfl) r4) (h:=aM 5 rfl (h:=aT 6 rfl (Zab fun D=>Zaf rfl rfl Zd9 rfl (Zac ((g.2+1)+1) oz _) r4) (h:=?_)))))))
 refine ZeV 7 rfl (h:=ZA kr kr ?_)
 refine Zd (Zc rfl (fun h3=>by simp [mkI] at h3) (fun h3=>?_))
 try simp only [sQ,ne_eq] at h3
 refine Zf (Zd (Za (xM (h:=xD (h:=xA (h:=Za (xM (h:=xM (h:=xIx Tryz.underlying32 Zbg (h:=xW Zcc (h:=y1 ZkP hc3 3 (h:=xM (h:=?_)))))))))))))
 refine xR Zwk rfl (ZmT _ _ _ (((g.2+1)+1)+1) _ x.left.length (by first | rfl | exact Za2 _ _) rfl oz _ hi3) (h:=?_)
 refine xA (h:=Za (xM (h:=ZJ (h:=Zc rfl (fun h4=>by first | omega | (simp at h4;done) | (simp at h4;omega)) (fun h4=>?_)))))
 try simp only [sQ,ne_eq] at h4
 refine Zf (ZS (Zd (Zk (xM (h:=xD (h:=xA (h:=?_)))))))
 exact ZG (g.1+1,g.2+1+1+1+1*x.left.length) [] so2 ⟨rfl,so,by simp only [];rw [Zg1 hx,← hs,hst];omega⟩ t3 rfl
 try simp only [sQ,ne_eq] at g1
 refine ZH (Z0 (ZM (Zx (Zd (Za (xM (h:=xA (h:=Zh ?_))))))))
 exact ZB .ret (.inl rfl) [_] t1 ⟨ZI (by rw [hs,ZlX oz]),rfl,rfl⟩

set_option maxHeartbeats 400000 in
theorem Zk4 (q:Option Addr) (cp:Nat) (x:DQueue) (k:Nat) (hk:kL ZbP k x.items≤800000000000000) (B:Kn) (hi:SlK B q cp 4 Zu (mkL ZbP mkI k x.items)):Z9 (pj J) 54 [.agg #[.int .i64 x.next,.slice q x.items.length cp],.int .i64 k] B (.int .i64 ((kL ZbP k x.items:Nat):Int)):=by
 refine Zb 12 Tryz.func54 rfl rfl rfl (Nat.le_of_ble_eq_true rfl) ?_
 refine Za (xBx [_,_] (h:=fun b1=>xA (h:=ZE [_] rfl (Za (xW Zbx (h:=x1 ZhY 0 (h:=xM (h:=xR ZwU rfl (Zk6 _ _ x.items k _ rfl oa _ hi) (h:=?_)))))))))
 refine xA (h:=Ze (Za (xM (h:=ZJ (h:=Zc rfl (fun h1=>by first | omega | (simp at h1;done) | (simp at h1;omega)) (fun h1=>?_))))))
 try simp only [sQ,ne_eq] at h1
 refine Zf (Zd (Za (xM (h:=xA (h:=Zh ?_)))))
 exact ZB .ret (.inl rfl) [_] t1 ⟨rfl,rfl,rfl⟩

set_option maxHeartbeats 400000 in
theorem Zh1 (q1 q2 q3:Option Addr) (c1 c2 c3:Nat) (x:DHost) (k:Nat) (hk:kH k x≤800000000000000) (B:Kn) (hu:SlK B q1 c1 3 Zn (Zca k x.users.length)) (hf:SlK B q2 c2 5 Zj (mkL Zbp mkF (k+3*x.users.length) x.folders)) (hi:SlK B q3 c3 4 Zu (mkL ZbP mkI (kL Zbp (k+3*x.users.length) x.folders) x.queue.items)):Z9 (pj J) 14 [.agg #[str x.domain,.slice q1 x.users.length c1,.slice q2 x.folders.length c2,.int .i64 x.queue.next,.slice q3 x.queue.items.length c3],.int .i64 k] B (.int .i64 ((kH k x:Nat):Int)):=by
 refine Zb 24 Tryz.func14 rfl rfl rfl (Nat.le_of_ble_eq_true rfl) ?_
 have hk3:kL ZbP (kL Zbp (k+3*x.users.length) x.folders) x.queue.items≤800000000000000:=hk
 have hk2:(kL Zbp (k+3*x.users.length) x.folders)≤800000000000000:=Nat.le_trans Zqz hk3
 have hk1:(k+3*x.users.length)≤800000000000000:=Nat.le_trans Zqz hk2
 refine Za (xBx [_,_,_,_,_] (h:=fun b1=>xA (h:=ZE [_] rfl (Za (xW Zbn (h:=x1 ZhA 0 (h:=xM (h:=xR Zya rfl (Zk3 _ _ _ k _ x.users.length (by first | rfl | exact Za9 _ _) rfl oz _ hu) (h:=?_)))))))))
 refine xA (h:=Ze (Za (xM (h:=ZJ (h:=Zc rfl (fun h1=>by first | omega | (simp at h1;done) | (simp at h1;omega)) (fun h1=>?_))))))
 try simp only [sQ,ne_eq] at h1
 refine Zf (Zd (Za (xW Zar (h:=x1 Zew 0 (h:=xM (h:=xR Zx9 rfl (ZiI _ _ x.folders (k+3*x.users.length) _ rfl oa _ hf) (h:=?_)))))))
 refine xA (h:=Ze (Za (xM (h:=ZJ (h:=Zc rfl (fun h2=>by first | omega | (simp at h2;done) | (simp at h2;omega)) (fun h2=>?_))))))
 try simp only [sQ,ne_eq] at h2
 refine Zf (Zd (Za (xW Zd5 (h:=xL [_,_] Zke 0 (h:=xM (h:=xR Zx8 rfl (Zk4 _ _ x.queue (kL Zbp (k+3*x.users.length) x.folders) oa _ hi) (h:=?_)))))))
 refine xA (h:=Ze (Za (xM (h:=ZJ (h:=Zc rfl (fun h3=>by first | omega | (simp at h3;done) | (simp at h3;omega)) (fun h3=>?_))))))
 try simp only [sQ,ne_eq] at h3
 refine Zf (Zd (Za (xM (h:=xA (h:=Zh ?_)))))
 exact ZB .ret (.inl rfl) [_] t1 ⟨rfl,rfl,rfl⟩

theorem Zun (v:Value) (Q:Value→Kn→Cells→Prop) (B:Kn) (L:Cells):hb Tryz.prog (Extern.ReflectliteType.typeOf #[.iface 321 v]) Q B L=Q (.iface 218 (.agg #[.pointer (some ⟨5,321,none⟩)])) B L:=by kernel_rfl

theorem Zuo (v:Value) (k:Nat) (Q:FuncId × Value→Kn→Cells→Prop) (B:Kn) (L:Cells):hb Tryz.prog (Go.method (k+1) 218 v "Comparable") Q B L=Q (273,v) B L:=by kernel_rfl

theorem Zup (Q:Value→Kn→Cells→Prop) (B:Kn) (L:Cells):hb Tryz.prog ((Extern.ReflectliteType.method fun t=>do Extern.Rtype.noPackHeld "Comparable" t;pure (.bool (← typeInfo t).comparable)) #[(.agg #[.pointer (some ⟨5,321,none⟩)])]) Q B L=Q (.bool true) B L:=by kernel_rfl

theorem ZsX:Extern.find Tryz.f273=some (Extern.ReflectliteType.method fun t=>do Extern.Rtype.noPackHeld "Comparable" t;pure (.bool (← typeInfo t).comparable)):=by kernel_rfl
theorem ZsW:Extern.find Tryz.f136=some Extern.ReflectliteType.typeOf:=by kernel_rfl

theorem ZvD:Extern.findNext Tryz.f136=none:=by kernel_rfl
theorem ZvE:Extern.findNext Tryz.f273=none:=by kernel_rfl

set_option maxHeartbeats 400000 in
theorem ZsU (c k:Nat) (hc:c<4) (hk:k<4) (a:Nat→Addr)  (B:Kn) (hE:ErrsB 321 [0,3,2,1] B a):Z9 (pj J) 137 [errv 321 a (c+1),errv 321 a (k+1),.bool true] B (.bool (decide (c+1=k+1))):=by
 refine Zb 54 Tryz.func137 rfl rfl rfl (Nat.le_of_ble_eq_true rfl) ?_
 refine Za (xA (h:=Zl (ZC (α:=Unit) [1,2] (fun u=>[(0,errv 321 a (c+1))]) [] (fun u=>[]) (fun u Bx=>Bx=B) (fun u=>0) () t1 rfl (rfl) (fun u B1 hle1 hI=>?_))))
 subst hI
 refine ZF [(0,_),(1,_),(2,_)] [] t3 rfl (Zl (Ze (Za (xM (h:=xM (h:=Zw (d:=15) rfl (fun g1=>?_) (fun g1=>by cases g1)))))))
 try simp only [sQ,ne_eq] at g1
 refine xM (h:=xM (h:=Zp (Znv (a:=a) (c:=(c+1)) (k:=k) hE oz oz rfl rfl Tryz.underlying82 Tryz.underlying321 Zxx ZtK rfl rfl ?_)))
 refine xT (h:=Zc rfl (fun g2=>?_) (fun g2=>?_))
 try simp only [sQ,ne_eq] at g2
 refine Za (xA (h:=Zh (Zq (ZD (ZP (ZD ?_))))))
 exact ZB .ret (.inl rfl) [_] t1 ⟨Zg (decide_eq_true g2).symm,rfl,rfl⟩
 try simp only [sQ,ne_eq] at g2
 refine Zf (Zd (Ze (Za (xM (h:=Zp (ZgL rfl rfl Tryz.underlying220 kr Zu6 rfl ?_))))))
 refine xM (h:=xE (h:=xE (h:=xA (h:=xA (h:=Za (xM (h:=xM (h:=Zw (d:=26) rfl (fun g3=>by cases g3) (fun g3=>?_)))))))))
 try simp only [sQ,ne_eq] at g3
 refine xP (h:=xP (h:=xP (h:=xF (h:=Zc (t:=false) rfl (fun h=>Bool.noConfusion h) (fun _=>Zf (Zd (Za (xM (h:=Zl (Za (Zp (ZgL rfl rfl Tryz.underlying223 kr Zu5 rfl ?_))))))))))))
 refine xE (h:=xE (h:=Zc rfl (fun g5=>by cases g5) (fun g5=>?_)))
 try simp only [sQ,ne_eq] at g5
 refine Za (Zp (ZgL rfl rfl Tryz.underlying225 kr Zu4 rfl ?_))
 refine xE (h:=xE (h:=Zc rfl (fun g6=>by cases g6) (fun g6=>?_)))
 try simp only [sQ,ne_eq] at g6
 refine Za (xA (h:=Za (xA (h:=Zh (ZD (ZD (ZP (ZD ?_))))))))
 exact ZB .ret (.inl rfl) [_] t1 ⟨Zg (decide_eq_false g2).symm,rfl,rfl⟩

set_option maxHeartbeats 400000 in
theorem ZsT (c k:Nat) (hc:c<4) (hk:k<4) (a:Nat→Addr)  (B:Kn) (hE:ErrsB 321 [0,3,2,1] B a):Z9 (pj J) 81 [errv 321 a (c+1),errv 321 a (k+1)] B (.bool (decide (c+1=k+1))):=by
 refine Zb 22 Tryz.func81 rfl rfl rfl (Nat.le_of_ble_eq_true rfl) ?_
 refine Za (xA (h:=Ze (Za (xM (h:=Zp (Zlv (tE:=321) (a:=a) (c:=(c+1)) rfl rfl Tryz.underlying82 rfl (xM (h:=Zw (d:=8) rfl (fun g1=>by simp at g1) (fun g1=>?_)))))))))
 try simp only [sQ,ne_eq] at g1
 refine xM (h:=Zp (Zlv (tE:=321) (a:=a) (c:=(k+1)) rfl rfl Tryz.underlying82 rfl (xF (h:=Zc rfl (fun g2=>by simp at g2) (fun g2=>?_)))))
 try simp only [sQ,ne_eq] at g2
 refine Zf (Zd (Za (xM (h:=Zp (ZtA (fn:=Tryz.f136) rfl rfl Tryz.func136 rfl rfl ZvD ZsW rfl (Zun _) (Zp (Ztx (f:=273) (fn:=Tryz.f273) rfl rfl Tryz.func273 rfl rfl ZvE ZsX rfl (Zuo _) Zup (xA (h:=Za (xM (h:=xM (h:=xM (h:=xR ZwG rfl (ZsU c k oz oz a _ hE) (h:=?_))))))))))))))
 refine xA (h:=Zh ?_)
 exact ZB .ret (.inl rfl) [_] t1 ⟨rfl,rfl,rfl⟩

set_option maxHeartbeats 400000 in
theorem ZsV (k:Nat) (hk:k<4) (a:Nat→Addr)  (B:Kn) (hE:ErrsB 321 [0,3,2,1] B a):Z9 (pj J) 81 [.nilIface,errv 321 a (k+1)] B (.bool (decide (0=k+1))):=by
 refine Zb 22 Tryz.func81 rfl rfl rfl (Nat.le_of_ble_eq_true rfl) ?_
 refine Za (xA (h:=Ze (Za (xM (h:=Zp (Zlv (tE:=321) (a:=a) (c:=0) rfl rfl Tryz.underlying82 rfl (xM (h:=Zw (d:=8) rfl (fun g1=>?_) (fun g1=>by simp at g1)))))))))
 try simp only [sQ,ne_eq] at g1
 refine xP (h:=xP (h:=xT (h:=Zc (t:=true) rfl (fun _=>Za (xM (h:=xM (h:=Zp (Znv (a:=a) (c:=0) (k:=k) hE oz oz rfl rfl Tryz.underlying82 Tryz.underlying321 Zxx ZtK rfl rfl ?_))))) (fun h=>Bool.noConfusion h))))
 refine xA (h:=Zh (Zq ?_))
 exact ZB .ret (.inl rfl) [_] t1 ⟨rfl,rfl,rfl⟩

theorem Zl4 (c k:Nat) (hc:c<5) (hk:k<4) (a:Nat→Addr)  (B:Kn) (hE:ErrsB 321 [0,3,2,1] B a):Z9 (pj J) 81 [errv 321 a c,errv 321 a (k+1)] B (.bool (decide (c=k+1))):=by
 cases c with
 | zero=>exact ZsV k hk a B hE
 | succ c=>exact ZsT c k oz hk a B hE

set_option maxHeartbeats 400000 in
theorem ZmS (c:Nat) (hc:c<5) (a:Nat→Addr)  (B:Kn) (hE:ErrsB 321 [0,3,2,1] B a):Z9 (pj J) 100 [errv 321 a (c)] B (.int .i64 c):=by
 refine Zb 22 Tryz.func100 rfl rfl rfl (Nat.le_of_ble_eq_true rfl) ?_
 refine Za (xA (h:=Ze (Zl (Za (xM (h:=Zp (Zlv (tE:=321) (a:=a) (c:=c) rfl rfl Tryz.underlying82 rfl (xA (h:=Zc rfl (fun g0=>?_) (fun g0=>?_))))))))))
 try simp only [sQ,ne_eq] at g0
 refine Za (xA (h:=Zh (ZD (Zq ?_))))
 exact ZB .ret (.inl rfl) [_] t1 ⟨ZI oz,rfl,rfl⟩
 try simp only [sQ,ne_eq] at g0
 refine Za (xM (h:=Zp (Zr rfl rfl Zqv rfl ((hE.row 0 (by decide)) _ 0 _ rfl) ?_)))
 refine xR ZuW rfl (Zl4 c 0 om2 om2 a _ hE) (h:=?_)
 refine xA (h:=Zc rfl (fun g1=>?_) (fun g1=>?_))
 try simp only [sQ,ne_eq] at g1
 refine Za (xA (h:=Zh (ZD (Zq ?_))))
 exact ZB .ret (.inl rfl) [_] t1 ⟨ZI oz,rfl,rfl⟩
 try simp only [sQ,ne_eq] at g1
 refine Za (xM (h:=Zp (Zr rfl rfl Zqv rfl ((hE.row 1 (by decide)) _ 0 _ rfl) ?_)))
 refine xR ZuW rfl (Zl4 c 1 om2 om2 a _ hE) (h:=?_)
 refine xA (h:=Zc rfl (fun g2=>?_) (fun g2=>?_))
 try simp only [sQ,ne_eq] at g2
 refine Za (xA (h:=Zh (ZD (Zq ?_))))
 exact ZB .ret (.inl rfl) [_] t1 ⟨ZI oz,rfl,rfl⟩
 try simp only [sQ,ne_eq] at g2
 refine Za (xM (h:=Zp (Zr rfl rfl Zqv rfl ((hE.row 2 (by decide)) _ 0 _ rfl) ?_)))
 refine xR ZuW rfl (Zl4 c 2 om2 om2 a _ hE) (h:=?_)
 refine xA (h:=Zc rfl (fun g3=>?_) (fun g3=>?_))
 try simp only [sQ,ne_eq] at g3
 refine Za (xA (h:=Zh (ZD (Zq ?_))))
 exact ZB .ret (.inl rfl) [_] t1 ⟨ZI oz,rfl,rfl⟩
 try simp only [sQ,ne_eq] at g3
 refine Za (xM (h:=Zp (Zr rfl rfl Zqv rfl ((hE.row 3 (by decide)) _ 0 _ rfl) ?_)))
 refine xR ZuW rfl (Zl4 c 3 om2 om2 a _ hE) (h:=?_)
 refine xA (h:=Zc rfl (fun g4=>?_) (fun g4=>?_))
 try simp only [sQ,ne_eq] at g4
 refine Za (xA (h:=Zh (ZD (Zq ?_))))
 exact ZB .ret (.inl rfl) [_] t1 ⟨ZI oz,rfl,rfl⟩
 try simp only [sQ,ne_eq] at g4
 refine Zf (ZS (Zd (Za (xA (h:=Zh ?_)))))
 exact ZB .ret (.inl rfl) [_] t1 ⟨ZI oz,rfl,rfl⟩

set_option maxHeartbeats 400000 in
theorem Ztb (b o:Nat) (q1 q2 q3:Option Addr) (c1 c2 c3:Nat) (x:DHost) (u ow nm:Str) (rr:Int) (hn:u.length≤2000000) (ho:ow.length≤2000000) (hm:nm.length≤2000000) (a:Nat→Addr)  (B:Kn) (hE:ErrsB 321 [0,3,2,1] B a) (hh:Zaq B b o [str x.domain,.slice q1 x.users.length c1,.slice q2 x.folders.length c2,.int .i64 x.queue.next,.slice q3 x.queue.items.length c3]) (hu:SlK B q1 c1 3 Zn x.users) (hf:SlK B q2 c2 5 Zj x.folders):Z9 (pj J) 43 [ptr ⟨b,o,none⟩,str u,str ow,str nm,.int .i64 rr] B (.tuple #[.int .i64 (if Zhn x.users x.folders u ow nm rr=0 then ZcX (inF ow nm) x.folders else -1),errv 321 a (Zhn x.users x.folders u ow nm rr)]):=by
 refine Zb 47 Tryz.func43 rfl rfl rfl (Nat.le_of_ble_eq_true rfl) ?_
 have hfn:=hf.len
 have hix:=ZiG (inF ow nm) x.folders
 refine Za (xA (h:=xA (h:=Za (xM (h:=xM (h:=xM (h:=xR Zxo rfl (ZrJ _ _ _ _ _ _ _ _ x ow nm om2 om2 _ hh hf) (h:=?_))))))))
 refine xA (h:=Ze (Za (xM (h:=ZJ (h:=xM (h:=Zw (d:=19) rfl (fun g1=>?_) (fun g1=>?_)))))))
 try simp only [sQ,ne_eq] at g1
 refine xP (h:=xP (h:=xP (h:=xP (h:=xP (h:=xP (h:=xP (h:=xP (h:=xP (h:=xP (h:=xP (h:=xT (h:=Zc (t:=true) rfl (fun _=>?_) (fun h=>Bool.noConfusion h)))))))))))))
 refine Ze (Z8 (same _ _) mo kr ⟨rfl,rfl⟩ (fun _ _=>?_))
 refine aT 0 rfl (Zab fun D=>Zr rfl rfl Zqv rfl ((hE.row 0 (by decide)) _ 0 _ rfl) r4) (h:=?_)
 refine aA 1 rfl (h:=aA 2 rfl (h:=ZA kr kr ?_))
 refine Zd (Zh (Zq ?_))
 exact ZB .ret (.inl rfl) [_,_] t2 ⟨(by rw [show Zhn x.users x.folders u ow nm rr=1 from Zpl (by simpa using g1)];rfl),rfl,rfl⟩
 try simp only [sQ,ne_eq] at g1
 refine xM (h:=xM (h:=xM (h:=xNc (h:=xW Zar (h:=Zp (Zr rfl rfl Zew rfl (hh _ 2 _ rfl) (xM (h:=?_))))))))
 obtain ⟨w,hw⟩:=ZsG (xs:=x.folders) (i:=(ZcX (inF ow nm) x.folders)) om om
 obtain ⟨bb3,oo3,rfl⟩:=hf.base hw
 obtain ⟨_,⟨qg4,cg4,qm4,cm4,rfl,hg4,hm4,hb4,hb4b⟩,hc4⟩:=hf.elem hw
 have hg4n:=hg4.len
 have hm4n:=hm4.len
 have hm4s:=Zal hm4
 refine xIx Tryz.underlying31 ZbO (h:=yL [_,_,_,_,_] Zhx hc4 0 (h:=xR ZuB rfl (Zt2 _ _ _ _ _ _ _ _ x _ _ _ _ u w _ om2 om2 _ hh hu hg4) (h:=?_)))
 refine xN (h:=xF (h:=Zc rfl (fun g3=>?_) (fun g3=>?_)))
 try simp only [sQ,ne_eq] at g3
 refine Ze (Z8 (same _ _) mo kr ⟨rfl,rfl⟩ (fun _ _=>?_))
 refine aT 0 rfl (Zab fun D=>Zr rfl rfl Zqv rfl ((hE.row 0 (by decide)) _ 0 _ rfl) r4) (h:=?_)
 refine aA 1 rfl (h:=aA 2 rfl (h:=ZA kr kr ?_))
 refine Zd (Zh (Zq ?_))
 exact ZB .ret (.inl rfl) [_,_] t2 ⟨(by rw [show Zhn x.users x.folders u ow nm rr=1 from by rw [ZiT oz hw,if_pos (by simpa using g3)]];rfl),rfl,rfl⟩
 try simp only [sQ,ne_eq] at g3
 refine Zf (Zd (Ze (Za (xM (h:=xM (h:=xM (h:=xNc (h:=xW Zar (h:=Zp (Zr rfl rfl Zew rfl (hh _ 2 _ rfl) (xM (h:=xIx Tryz.underlying31 ZbO (h:=yL [_,_,_,_,_] Zhx hc4 0 (h:=?_))))))))))))))
 refine xM (h:=xR ZuB rfl (Zt2 _ _ _ _ _ _ _ _ x _ _ _ _ u w _ om2 om2 _ hh hu hg4) (h:=?_))
 refine xN (h:=Zc rfl (fun g4=>?_) (fun g4=>?_))
 try simp only [sQ,ne_eq] at g4
 refine Ze (Z8 (same _ _) mo kr ⟨rfl,rfl⟩ (fun _ _=>?_))
 refine aT 0 rfl (Zab fun D=>Zr rfl rfl Zqv rfl ((hE.row 1 (by decide)) _ 0 _ rfl) r4) (h:=?_)
 refine aA 1 rfl (h:=aA 2 rfl (h:=ZA kr kr ?_))
 refine Zd (Zh (Zq ?_))
 exact ZB .ret (.inl rfl) [_,_] t2 ⟨(by rw [show Zhn x.users x.folders u ow nm rr=2 from by rw [ZiT oz hw,if_neg (by simp [g3]),if_pos (by simpa using g4)]];rfl),rfl,rfl⟩
 try simp only [sQ,ne_eq] at g4
 refine Zf (Zd (Za (xM (h:=xA (h:=xA (h:=Zh ?_))))))
 exact ZB .ret (.inl rfl) [_,_] t2 ⟨(by rw [show Zhn x.users x.folders u ow nm rr=0 from by rw [ZiT oz hw,if_neg (by simp [g3]),if_neg (by simp [g4])]];rfl),rfl,rfl⟩

set_option maxRecDepth 4000 in
set_option maxHeartbeats 400000 in
theorem Zhb (q : Option Addr) (cp : Nat) (xs : List DFolder) (B : Kn) (hx : SlK B q cp 5 Zj xs) : Zz (pj J) 154 [.slice q xs.length cp] B [] (fun v B' Ls => B' = B ∧ ∃ l a c, Ls = [l] ∧ v = .slice a xs.length c ∧ ZaM l a c 75 5 (Z3 133 205) xs) := by
  refine Zb 22 Tryz.func154 rfl rfl rfl (Nat.le_of_ble_eq_true rfl) ?_
  have hxn := hx.len
  refine Za (xA (h:=Za (xM (h:=xV Tryz.underlying31 (h:=Zp (ZaR (m := 0) (c := xs.length) (by_ := 88) [.string ⟨#[]⟩, .string ⟨#[]⟩, .slice none 0 0, .int .i64 0, .slice none 0 0] rfl rfl ZuV ZfR rfl rfl ⟨_, _, rfl, by first | omega | (simp; done) | (simp; omega)⟩ ⟨_, _, rfl, by first | omega | (simp; done) | (simp; omega)⟩ (by first | omega | (simp; done) | (simp; omega)) (by first | omega | (simp; done) | (simp; omega)) (fun b1 => ?_)))))))
  have hd1 := ZaM.zeros (b := b1) (T := 75) (R := (Z3 133 205)) (d := (⟨[], [], [], 0, []⟩ : DFolder)) (m := 0) (c := xs.length) (zs := [.string ⟨#[]⟩, .string ⟨#[]⟩, .slice none 0 0, .int .i64 0, .slice none 0 0]) rfl (⟨_, _, _, _, [], [], rfl, rfl, ZU.nil, ZU.nil, by simp, by simp, by simp, by simp⟩) (by first | omega | (simp; done) | (simp; omega))
  refine xA (h:=ZE [_] rfl (Ze (Za (xM (h:=xV Tryz.underlying31 (h:=xM (h:=Zl (ZC (α := Gh DFolder) [0, 2, 9, 10] (fun g => [(3, .slice g.a g.xs.length g.c), (11, .int .i64 g.k)]) [0] (fun g => [g.l]) (fun g Bx => Bx = B ∧ g.k ≤ xs.length ∧ g.xs = xs.take g.k ∧ g.xs.length ≤ g.k ∧ ZaM g.l g.a g.c 75 5 (Z3 133 205) g.xs) (fun g => xs.length - g.k) ⟨0, 0, (Zae b1 (zrow [.string ⟨#[]⟩, .string ⟨#[]⟩, .slice none 0 0, .int .i64 0, .slice none 0 0] xs.length) 75), (some ⟨b1, 0, none⟩), xs.length, []⟩ ⟨rfl, rfl, trivial⟩ rfl (⟨rfl, Nat.zero_le _, by simp, Nat.le_refl _, hd1⟩) (fun g B2 hle2 hI => ?_)))))))))
  obtain ⟨rfl, hk, hxs, hxl, hv⟩ := hI
  refine ZF [(0, _), (2, _), (3, _), (9, _), (10, _), (11, _)] [_] ⟨rfl, rfl, rfl, rfl, rfl, rfl, trivial⟩ rfl (Za (ZJ (h:=Ze (Zc rfl (fun g1 => ?_) (fun g1 => ?_)))))
  try simp only [sQ, ne_eq] at g1
  refine Zf (Zd (Ze (Zl (Za ?_))))
  obtain ⟨w, hw⟩ := ZY (xs := xs) (i := g.k) (by first | omega | (simp; done) | (simp; omega))
  obtain ⟨bb4, oo4, rfl⟩ := hx.base hw
  obtain ⟨_, ⟨qg5, cg5, qm5, cm5, rfl, hg5, hm5, hb5, hb5b⟩, hc5⟩ := hx.elem hw
  have hg5n := hg5.len
  have hm5n := hm5.len
  have hm5s := Zal hm5
  refine xIx Tryz.underlying31 ZbO (h:=yL [_, _, _, _, _] Zhx hc5 0 (h:=xAl [_, _, _, _, _] ZfR (h:=fun b6 => xS [_, _, _, _, _] 1 [_, _, _, _, _] ZbO (h:=ZE [_, _] rfl (Zk (xM (h:=xL [_, _, _, _, _] Zhx 1 (h:=Zp (ZV rfl rfl Zv0 rfl (ZiN _ _ _ _ w _ hg5 hm5) ?_)))))))))
  rintro _ B7 _ hle7 ⟨rfl, l7, a7, c7, l7b, a7b, c7b, rfl, rfl, hs7, hs7b⟩
  refine xBs [(0, _)] [_, _, _, _, _] Tryz.underlying31 ZbO ZfR (h:=fun b8 => Zp (ZrZ (R := (Z3 133 205)) (⟨w.owner, w.name, w.grants, w.next, w.mail⟩) 0 [2, 3] rfl rfl hv rfl rfl rfl ZuV Zxc rfl rfl (Zcg.box 4 rfl) rfl rfl (l7 ++ l7b) (by simp) (⟨_, _, _, _, _, _, rfl, rfl, (hs7.anyK ZW.any), (hs7b.anyK ZZ.any), by first | assumption | omega | (simp; done) | (simp; omega), by first | assumption | omega | (simp; done) | (simp; omega), by first | assumption | omega | (simp; done) | (simp; omega), by first | assumption | omega | (simp; done) | (simp; omega)⟩) (by first | omega | (simp; done) | (simp; omega)) (fun l9 p9 c9 hd9 => ?_)))
  refine xA (h:=ZS (Zd (Zk (xD (h:=xM (h:=?_))))))
  exact ZG ⟨g.k + 1, 0, l9, p9, c9, (g.xs ++ [⟨w.owner, w.name, w.grants, w.next, w.mail⟩])⟩ [0] (by first | omega | (simp only []; omega)) ⟨rfl, by simp only []; omega, by simp only []; rw [Zbr hw, hxs], by simp; omega, hd9⟩ ⟨rfl, rfl, rfl, rfl, rfl, rfl, trivial⟩ rfl
  try simp only [sQ, ne_eq] at g1
  have hxe : g.xs = xs := by rw [hxs]; exact List.take_of_length_le (by omega)
  refine ZH (Z0 (ZM (Zx (Zd (Za (xM (h:=xA (h:=Zh ?_))))))))
  exact Zbe .ret (.inl rfl) [_] [0] rfl ⟨rfl, trivial⟩ ⟨rfl, _, _, _, rfl, by rw [← hxe]; rfl, hxe ▸ hv⟩

end Go.Proofs.YthgggppcgbglkaaGreatDoor
