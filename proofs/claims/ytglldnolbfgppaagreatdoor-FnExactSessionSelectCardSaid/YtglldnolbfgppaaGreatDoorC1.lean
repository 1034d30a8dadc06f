/-
  WHAT THE FUNCTIONS THAT THE LAWS REACH COMPUTE: each function's contract, proved off its printed body (the text is written by program). No condition beyond those that each theorem states.
-/
import Derived.Test.YtglldnolbfgppaaGreatDoorC0
namespace Go.Proofs.YtglldnolbfgppaaGreatDoor
open Go Go.BL
set_option linter.unusedVariables false
set_option linter.unusedSimpArgs false
set_option maxRecDepth 4000
variable {J : JoinT}
set_option maxHeartbeats 400000 in
theorem Zj9 (q1 q2 q3:Option Addr) (c1 c2 c3:Nat) (x:DHost) (hd:x.domain.length≤2000000) (B:Kn) (hu:SlK B q1 c1 3 Zs x.users) (hf:SlK B q2 c2 5 Zj x.folders) (hi:SlK B q3 c3 4 ZB x.queue.items):Z3 (pj J) 15 [.agg #[str x.domain,.slice q1 x.users.length c1,.slice q2 x.folders.length c2,.int .i64 x.queue.next,.slice q3 x.queue.items.length c3]] B (.bool (Zac x)):=by
 refine Zb 87 Tryz.func15 rfl rfl rfl (Nat.le_of_ble_eq_true rfl) ?_
 have hfn:=hf.len
 have hun:=hu.len
 have hin:=hi.len
 refine Za (xBx [_,_,_,_,_] (h:=fun b1=>xA (h:=ZM [_] rfl (Zi (Za (xW Zh9 (h:=x1 lk9 0 (h:=xR Zt2 rfl (ZhH _ om2 _) (h:=?_)))))))))
 refine xN (h:=xM (h:=Zv (d:=10) rfl (fun g1=>?_) (fun g1=>?_)))
 try simp only [sQ,ne_eq] at g1
 refine xP (h:=xP (h:=xP (h:=xP (h:=xT (h:=xM (h:=xP (h:=xP (h:=xP (h:=xP (h:=xT (h:=xM (h:=xP (h:=?_)))))))))))))
 refine xP (h:=xP (h:=xT (h:=Zc (t:=true) rfl (fun _=>Za (xA (h:=Zg (Zm ?_)))) (fun h=>Bool.noConfusion h))))
 exact Zy .ret (.inl rfl) [_] t1 ⟨Zd (by simp [Zac,g1]),rfl,rfl⟩
 try simp only [sQ,ne_eq] at g1
 refine xW ZbK (h:=x1 ZiS 0 (h:=xR Zt1 rfl (ZiF _ _ _ _ hu) (h:=xN (h:=xF (h:=xM (h:=Zv (d:=16) rfl (fun g2=>?_) (fun g2=>?_)))))))
 try simp only [sQ,ne_eq] at g2
 refine xP (h:=xP (h:=xP (h:=xP (h:=xT (h:=xM (h:=xP (h:=xP (h:=xP (h:=xT (h:=Zc (t:=true) rfl (fun _=>Za (xA (h:=?_))) (fun h=>Bool.noConfusion h)))))))))))
 refine Zg (Zm ?_)
 exact Zy .ret (.inl rfl) [_] t1 ⟨Zd (by simp [Zac,g1,g2]),rfl,rfl⟩
 try simp only [sQ,ne_eq] at g2
 refine xW Ze5 (h:=xL [_,_] Zp6 0 (h:=xR Zt0 rfl (ZiG _ _ x.queue _ hi) (h:=xN (h:=xF (h:=xM (h:=Zv (d:=22) rfl (fun g3=>?_) (fun g3=>?_)))))))
 try simp only [sQ,ne_eq] at g3
 refine xP (h:=xP (h:=xP (h:=xT (h:=Zc (t:=true) rfl (fun _=>Za (xA (h:=Zg (Zm ?_)))) (fun h=>Bool.noConfusion h)))))
 exact Zy .ret (.inl rfl) [_] t1 ⟨Zd (by simp [Zac,g1,g2,g3]),rfl,rfl⟩
 try simp only [sQ,ne_eq] at g3
 refine xL [_,_,_,_,_] Zfg 0 (h:=xR ZtZ rfl (ZhW _ _ _ _ _ _ x _ hu hf) (h:=xN (h:=xF (h:=Zc rfl (fun g4=>?_) (fun g4=>?_)))))
 try simp only [sQ,ne_eq] at g4
 refine Za (xA (h:=Zg (Zm ?_)))
 exact Zy .ret (.inl rfl) [_] t1 ⟨Zd (by simp [Zac,g1,g2,g3,g4]),rfl,rfl⟩
 try simp only [sQ,ne_eq] at g4
 refine Zh (Ze (Zi (Za (xA (h:=Zn (ZD (α:=Nat) [0,1,26] (fun k=>[(3,.int .i64 k)]) [] (fun k=>[]) (fun k Bx=>Bx=B∧k≤x.users.length∧∀z,z∈x.users.take k→ZaF x.folders z=true) (fun k=>x.users.length - k) 0 t1 rfl (⟨rfl,Nat.zero_le _,by simp⟩) (fun k B6 hle6 hI=>?_)))))))
 obtain ⟨rfl,hk,ha⟩:=hI
 refine ZJ [(0,_),(1,_),(3,_),(26,_)] [_] t4 rfl (Zi (Za (xM (h:=xW ZbK (h:=x1 ZiS 0 (h:=xV Tryz.underlying36 (h:=ZF (h:=Zc rfl (fun g5=>?_) (fun g5=>?_)))))))))
 try simp only [sQ,ne_eq] at g5
 refine Zh (Ze (Zi (Zn (Zi (Z2 (same _ _) mo kr ⟨rfl,rfl⟩ (fun _ _=>?_))))))
 refine aT 0 rfl (Z5 fun D=>ZK [_,_,_,_,_] rfl rfl Zfg rfl (Zby 0 rfl rfl rfl) r4) (h:=aW 1 rfl ZbK (h:=aT 2 rfl (Z5 fun D=>Zu rfl rfl ZiS rfl (atL 0 rfl rfl rfl) r4) (h:=aM 3 rfl (h:=?_))))
 obtain ⟨w,hw⟩:=ZU (xs:=x.users) (i:=k) om
 obtain ⟨bb8,oo8,rfl⟩:=hu.base hw
 obtain ⟨_,⟨rfl,hb9,hb9b⟩,hc9⟩:=hu.elem hw
 refine aIx 4 rfl Tryz.underlying36 Zfc (h:=aW 5 rfl ZbC (h:=aT 6 rfl (Z5 fun D=>Zu rfl rfl lk9 rfl (hc9 _ 0 _ rfl) r4) (h:=aT 7 rfl (Z5 fun D=>ZQ rfl rfl ZsR rfl (ZhX _ _ _ _ _ _ x w.name [105,110,98,111,120] om2 om2 _ hf) r4) (h:=?_))))
 refine Zod 8 rfl (h:=aM 9 rfl (h:=Zab (d:=43) rfl (fun g6=>?_) (fun g6=>?_)))
 try simp only [sQ,ne_eq] at g6
 refine aZ 10 rfl (h:=aZ 11 rfl (h:=aZ 12 rfl (h:=aZ 13 rfl (h:=aZ 14 rfl (h:=aZ 15 rfl (h:=aZ 16 rfl (h:=aZ 17 rfl (h:=aZ 18 rfl (h:=aZ 19 rfl (h:=aZ 20 rfl (h:=aZ 21 rfl (h:=aZ 22 rfl (h:=?_)))))))))))))
 refine aZ 23 rfl (h:=aZ 24 rfl (h:=aPT 25 rfl (h:=Zt kr kr ?_)))
 refine Ze (Zc (t:=true) rfl (fun _=>Za (xA (h:=Zg (Zz (Zm (ZG (Zz (Zm ?_)))))))) (fun h=>Bool.noConfusion h))
 exact Zy .ret (.inl rfl) [_] t1 ⟨Zd (ZfM hw (ZhB g6)).symm,rfl,rfl⟩
 try simp only [sQ,ne_eq] at g6
 refine aT 10 rfl (Z5 fun D=>ZK [_,_,_,_,_] rfl rfl Zfg rfl (Zby 0 rfl rfl rfl) r4) (h:=aW 11 rfl ZbK (h:=aT 12 rfl (Z5 fun D=>Zu rfl rfl ZiS rfl (atL 0 rfl rfl rfl) r4) (h:=aM 13 rfl (h:=aIx 14 rfl Tryz.underlying36 Zfc (h:=aW 15 rfl ZbC (h:=aT 16 rfl (Z5 fun D=>Zu rfl rfl lk9 rfl (hc9 _ 0 _ rfl) r4) (h:=aT 17 rfl (Z5 fun D=>ZQ rfl rfl ZtY rfl (ZlT _ _ _ _ _ _ x _ _ hf) r4) (h:=aW 18 rfl ZbK (h:=aT 19 rfl (Z5 fun D=>Zu rfl rfl ZiS rfl (atL 0 rfl rfl rfl) r4) (h:=aM 20 rfl (h:=aIx 21 rfl Tryz.underlying36 Zfc (h:=aW 22 rfl Ze4 (h:=?_)))))))))))))
 refine aT 23 rfl (Z5 fun D=>Zu rfl rfl lk3 rfl (hc9 _ 2 _ rfl) r4) (h:=ZmN 24 rfl (h:=aPF 25 rfl (h:=Zt kr kr ?_)))
 refine Ze (Zc rfl (fun g7=>?_) (fun g7=>?_))
 try simp only [sQ,ne_eq] at g7
 refine Za (xA (h:=Zg (Zz (Zm (ZG (Zz (Zm ?_)))))))
 exact Zy .ret (.inl rfl) [_] t1 ⟨Zd (ZfM hw (ZhA g7)).symm,rfl,rfl⟩
 try simp only [sQ,ne_eq] at g7
 refine Zh (ZR (Ze (Zo (xM (h:=xD (h:=xA (h:=?_)))))))
 exact ZH (k+1) [0] so2 ⟨rfl,oz,ZaI hw ha (Zhz g6 g7)⟩ t4 rfl
 try simp only [sQ,ne_eq] at g5
 refine ZL (ZV (ZO (ZA (Ze (Zi (Za (xA (h:=Zn (ZD (α:=Nat) [0,1,3,26,31] (fun j=>[(4,.int .i64 j)]) [] (fun j=>[]) (fun j Bx=>Bx=B6∧j≤x.queue.items.length∧∀z,z∈x.queue.items.take j→Zan x.users z=true) (fun j=>x.queue.items.length - j) 0 t1 rfl (⟨rfl,Nat.zero_le _,by simp⟩) (fun j B12 hle12 hI=>?_))))))))))
 obtain ⟨rfl,hj,hb⟩:=hI
 refine ZJ [(0,_),(1,_),(3,_),(4,_),(26,_),(31,_)] [_] t6 rfl (Zi (Za (xM (h:=xW Ze5 (h:=xW Zc4 (h:=x1 ZlP 0 (h:=xV Tryz.underlying38 (h:=ZF (h:=Zc rfl (fun g8=>?_) (fun g8=>?_))))))))))
 try simp only [sQ,ne_eq] at g8
 refine Zh (Ze (Zi (Zn (Za (xW Ze5 (h:=xW Zc4 (h:=x1 ZlP 0 (h:=xM (h:=?_)))))))))
 obtain ⟨y,hy⟩:=ZU (xs:=x.queue.items) (i:=j) om
 obtain ⟨bb14,oo14,rfl⟩:=hi.base hy
 obtain ⟨_,⟨qi15,ci15,rfl,hi15,hb15,hb15b⟩,hc15⟩:=hi.elem hy
 have hi15n:=hi15.len
 refine xIx Tryz.underlying38 ZhF (h:=yL [_,_,_,_] ZmS hc15 0 (h:=xAl [_,_,_,_] ZmT (h:=fun b16=>xS [_,_,_,_] 1 [_,_,_,_] ZhF (h:=ZM [_,_] rfl (Za (xW ZbK (h:=x1 ZiS 0 (h:=xW ZfV (h:=x1 lk9 1 (h:=xR Zrq rfl (Zek _ _ _ _ _ hu) (h:=ZF (h:=xM (h:=?_)))))))))))))
 refine Zv (d:=80) rfl (fun g9=>?_) (fun g9=>?_)
 try simp only [sQ,ne_eq] at g9
 refine xP (h:=xP (h:=xP (h:=xP (h:=xP (h:=xT (h:=Zc (t:=true) rfl (fun _=>Za (xA (h:=Zg (Zz (Zm (ZG (Zz (Zm ?_)))))))) (fun h=>Bool.noConfusion h)))))))
 exact Zy .ret (.inl rfl) [_] t1 ⟨Zd (ZfN hy (Zha g9)).symm,rfl,rfl⟩
 try simp only [sQ,ne_eq] at g9
 refine xL [_,_,_,_,_] Zfg 0 (h:=xW ZfU (h:=x1 ZlO 1 (h:=xR ZtX rfl (Zkn _ _ _ _ _ _ x _ _ y.left _ hu hi15) (h:=xN (h:=xF (h:=Zc rfl (fun ga=>?_) (fun ga=>?_)))))))
 try simp only [sQ,ne_eq] at ga
 refine Za (xA (h:=Zg (Zz (Zm (ZG (Zz (Zm ?_)))))))
 exact Zy .ret (.inl rfl) [_] t1 ⟨Zd (ZfN hy (Zg9 ga)).symm,rfl,rfl⟩
 try simp only [sQ,ne_eq] at ga
 refine Zh (ZR (Ze (Zo (xM (h:=xD (h:=xA (h:=?_)))))))
 exact ZH (j+1) [0] so2 ⟨rfl,oz,ZaI hy hb (Zg8 g9 ga)⟩ t6 rfl
 try simp only [sQ,ne_eq] at g8
 refine ZL (ZV (ZO (ZA (Ze (Za (xA (h:=Zg ?_)))))))
 exact Zy .ret (.inl rfl) [_] t1 ⟨Zd (Zks g1 g2 g3 g4 (Zdx (ZaR oz ha)) (Zdx (ZaR oz hb))).symm,rfl,rfl⟩

set_option maxHeartbeats 400000 in
theorem ZjX (q:Option Addr) (cp:Nat) (gs:List DGrant) (B:Kn) (hg:SlK B q cp 2 Zah gs):ZT (pj J) 122 [.slice q gs.length cp] B [] (Zji gs B):=by
 refine Zb 46 Tryz.func122 rfl rfl rfl (Nat.le_of_ble_eq_true rfl) ?_
 have hgn:=hg.len
 refine Za (xA (h:=xA (h:=Zi (Za (xM (h:=xV Tryz.underlying87 (h:=Zdy (h:=Zc rfl (fun g0=>?_) (fun g0=>?_)))))))))
 try simp only [sQ,ne_eq] at g0
 refine Za (xA (h:=xA (h:=Zg (Zm ?_))))
 exact Zf3 .ret (.inl rfl) [_,_] t2 (by simp [Zb4];omega)
 try simp only [sQ,ne_eq] at g0
 refine Zh (Ze (Za (Zr (ZkX rfl rfl (fun b1 l1 hl1=>xA (h:=ZM [_] rfl (Za (xA (h:=Zi (Za (xM (h:=xV Tryz.underlying87 (h:=xM (h:=?_))))))))))))))
 refine Zn (ZD (α:=Nat × Str × Cells) [0,4,10,12,13] (fun g=>[(5,str g.2.1),(14,.int .i64 g.1)]) [0] (fun g=>[g.2.2]) (fun g Bx=>Bx=B∧g.1≤gs.length∧ZbA (gs.take g.1)=(true,g.2.1)∧g.2.1.length≤2000000∧Zp1 g.2.2 b1 (Zdc (gs.take g.1))) (fun g=>gs.length - g.1) (0,[],_) t2 rfl (⟨rfl,Nat.zero_le _,ZdS,by simp,hl1⟩) (fun g B2 hle2 hI=>?_))
 obtain ⟨rfl,hk,hs,hnm,hml⟩:=hI
 refine ZJ [(0,_),(4,_),(5,_),(10,_),(12,_),(13,_),(14,_)] [_] t7 rfl (Za (ZF (h:=Zi (Zc rfl (fun g1=>?_) (fun g1=>?_)))))
 try simp only [sQ,ne_eq] at g1
 refine Zh (Ze (Zi (Zn (Za ?_))))
 obtain ⟨m,hm⟩:=ZU (xs:=gs) (i:=g.1) om
 obtain ⟨bb4,oo4,rfl⟩:=hg.base hm
 obtain ⟨_,⟨rfl,hb5⟩,hc5⟩:=hg.elem hm
 refine xIx Tryz.underlying87 ZdO (h:=yL [_,_] ZlQ hc5 0 (h:=xAl [_,_] ZmU (h:=fun b6=>xS [_,_] 1 [_,_] ZdO (h:=ZM [_,_] rfl (Zi (Za (xW ZbH (h:=x1 lk9 1 (h:=xR ZoM rfl (Za9 _ om2 _) (h:=?_))))))))))
 refine xN (h:=xM (h:=Zv (d:=22) rfl (fun g2=>?_) (fun g2=>?_)))
 try simp only [sQ,ne_eq] at g2
 refine xP (h:=xP (h:=xP (h:=xP (h:=xT (h:=Zc (t:=true) rfl (fun _=>Za (xA (h:=xA (h:=Zg (Zm (Zz (Zm (ZG (Zz (Zm ?_)))))))))) (fun h=>Bool.noConfusion h))))))
 exact Zf3 .ret (.inl rfl) [_,_] t2 (Zb2 hm hs (by rw [Zbb,ZaS g.2.1 m.user];simp [g2];try omega))
 try simp only [sQ,ne_eq] at g2
 refine xW ZbH (h:=x1 lk9 1 (h:=xM (h:=Zr (Zop rfl rfl rfl rfl (xF (h:=Zc rfl (fun g3=>?_) (fun g3=>?_)))))))
 try simp only [sQ,ne_eq] at g3
 refine Za (xA (h:=xA (h:=Zg (Zm (Zz (Zm (ZG (Zz (Zm ?_)))))))))
 exact Zf3 .ret (.inl rfl) [_,_] t2 (Zb2 hm hs (by rw [Zbb,ZaS g.2.1 m.user];simp [g3];try omega))
 try simp only [sQ,ne_eq] at g3
 refine Zh (Ze (Zi (Za (xW ZcY (h:=x1 lk3 1 (h:=ZF (h:=xM (h:=Zv (d:=31) rfl (fun g4=>?_) (fun g4=>?_)))))))))
 try simp only [sQ,ne_eq] at g4
 refine xP (h:=xP (h:=xP (h:=xP (h:=xT (h:=Zc (t:=true) rfl (fun _=>Za (xA (h:=xA (h:=Zg (Zm (Zz (Zm (ZG (Zz (Zm ?_)))))))))) (fun h=>Bool.noConfusion h))))))
 exact Zf3 .ret (.inl rfl) [_,_] t2 (Zb2 hm hs (by rw [Zbb,ZaS g.2.1 m.user];simp [g4];try omega))
 try simp only [sQ,ne_eq] at g4
 refine xW ZcY (h:=x1 lk3 1 (h:=xR Zr3 rfl (Zng _ _) (h:=xN (h:=xF (h:=Zc rfl (fun g5=>?_) (fun g5=>?_))))))
 try simp only [sQ,ne_eq] at g5
 refine Za (xA (h:=xA (h:=Zg (Zm (Zz (Zm (ZG (Zz (Zm ?_)))))))))
 exact Zf3 .ret (.inl rfl) [_,_] t2 (Zb2 hm hs (Bool.eq_false_iff.2 fun hc=>by simp only [Zbb,Bool.and_eq_true,decide_eq_true_eq] at hc;simp only [Bool.and_eq_false_iff,decide_eq_false_iff_not] at g5;omega))
 try simp only [sQ,ne_eq] at g5
 refine Zh (Ze (Za (xM (h:=xW ZbH (h:=x1 lk9 1 (h:=xW ZcY (h:=x1 lk3 1 (h:=Zr (Zir (k:=m.user) (v:=m.rights) 0 rfl hml rfl rfl Tryz.underlying187 Tryz.underlying9 rfl rfl rfl (fun l9 hl9=>ZM [_,_] rfl (Zo (xW ZbH (h:=x1 lk9 1 (h:=?_))))))))))))))
 refine xA (h:=ZR (Ze (Zo (xD (h:=xM (h:=?_))))))
 exact ZH (g.1+1,m.user,l9) [0] so2 ⟨rfl,so,Zbv hm hs (by rw [Zbb,ZaS g.2.1 m.user,g2,g3];simp at g5 ⊢;omega),oy,by rw [← Zps hm hs (by rw [ZaS g.2.1 m.user,g3];rfl)];exact hl9⟩ t7 rfl
 try simp only [sQ,ne_eq] at g1
 refine ZL (ZV (ZO (ZA (Ze (Za (xM (h:=xA (h:=xA (h:=Zg ?_)))))))))
 exact ZpP .ret (.inl rfl) [_,_] rfl t2 (by rw [Zil (ZcQ hs oz)];simp;omega) (by have e:=hml;rw [List.take_of_length_le oz] at e;exact e)

set_option maxHeartbeats 400000 in
theorem ZlY (q:Option Addr) (cp:Nat) (gs:List DGrant) (B:Kn) (hg:SlK B q cp 2 Zah gs):Z3 (pj J) 80 [.slice q gs.length cp] B (.bool (Zb4 gs)):=by
 refine Zb 11 Tryz.func80 rfl rfl rfl (Nat.le_of_ble_eq_true rfl) ?_
 refine Za (xA (h:=Za (xM (h:=Zr (Zal rfl rfl Zq4 rfl (ZjX _ _ _ _ hg) ?_)))))
 rintro _ B1 _ hle1 ⟨m1,l1,rfl,rfl,rfl,hl1⟩
 refine xM (h:=xE (h:=xE (h:=xA (h:=xA (h:=ZM [_] rfl (Za (xM (h:=xA (h:=Zg ?_)))))))))
 exact Zy .ret (.inl rfl) [_] t1 ⟨rfl,rfl,rfl⟩

set_option maxHeartbeats 400000 in
theorem Zq8 (a b:Str) (B:Kn):Z3 (pj J) 107 [str a,str b] B (.int .i64 (Lib.compareBytes a b)):=by
 refine Zb 8 Tryz.func107 rfl rfl rfl (Nat.le_of_ble_eq_true rfl) ?_
 refine Za (xA (h:=Za (xM (h:=xM (h:=Zr (ZrE (fn:=Tryz.f142) rfl rfl Tryz.func142 rfl rfl ZqW ZqX rfl rfl (xA (h:=Zg ?_))))))))
 exact Zy .ret (.inl rfl) [_] t1 ⟨rfl,rfl,rfl⟩

set_option maxHeartbeats 400000 in
theorem ZoP (a b:Str) (B:Kn):Z3 (pj J) 74 [str a,str b] B (.int .i64 (Lib.compareBytes a b)):=by
 refine Zb 8 Tryz.func74 rfl rfl rfl (Nat.le_of_ble_eq_true rfl) ?_
 refine Za (xA (h:=Za (xM (h:=xM (h:=xR Zsk rfl (Zq8 a b _) (h:=xA (h:=Zg ?_)))))))
 exact Zy .ret (.inl rfl) [_] t1 ⟨rfl,rfl,rfl⟩

set_option maxHeartbeats 400000 in
theorem Zi3 (f:DFolder) (qa qb:Option Addr) (ca cb:Nat) (ow nm:Str) (B:Kn):Z3 (pj J) 44 [.agg #[str f.owner,str f.name,.slice qa f.grants.length ca,.int .i64 f.next,.slice qb f.mail.length cb],str ow,str nm] B (.int .i64 (Zq7 f ow nm)):=by
 refine Zb 19 Tryz.func44 rfl rfl rfl (Nat.le_of_ble_eq_true rfl) ?_
 refine Za (xBx [_,_,_,_,_] (h:=fun b1=>xA (h:=ZM [_] rfl (Zi (Za (xW ZbB (h:=x1 lk9 0 (h:=xM (h:=xR ZsM rfl (ZoP f.owner ow _) (h:=xA (h:=Za (xM (h:=?_)))))))))))))
 refine Zax (h:=Zc rfl (fun g1=>?_) (fun g1=>?_))
 try simp only [sQ,ne_eq] at g1
 refine Za (xM (h:=xA (h:=Zg (Zm ?_))))
 exact Zy .ret (.inl rfl) [_] t1 ⟨ZC (by rw [Zq7,if_pos g1]),rfl,rfl⟩
 try simp only [sQ,ne_eq] at g1
 refine Zh (Ze (Za (xW Zdh (h:=x1 lk9 0 (h:=xM (h:=xR ZsM rfl (ZoP f.name nm _) (h:=xA (h:=Zg ?_))))))))
 exact Zy .ret (.inl rfl) [_] t1 ⟨ZC (by rw [Zq7,if_neg (fun h=>h g1)]),rfl,rfl⟩

set_option maxHeartbeats 400000 in
theorem Zqu (b o:Nat) (q1 q2 q3:Option Addr) (c1 c2 c3:Nat) (x:DHost) (u:Str) (B:Kn) (hh:Zak B b o [str x.domain,.slice q1 x.users.length c1,.slice q2 x.folders.length c2,.int .i64 x.queue.next,.slice q3 x.queue.items.length c3]) (hf:SlK B q2 c2 5 Zj x.folders):Z3 (pj J) 130 [ptr ⟨b,o,none⟩,str u] B (.int .i64 (ZdN x.folders u)):=by
 refine Zb 28 Tryz.func130 rfl rfl rfl (Nat.le_of_ble_eq_true rfl) ?_
 have hfn:=hf.len
 refine Za (xA (h:=Za (xA (h:=Zi (Za (xM (h:=xNc (h:=xW ZaA (h:=Zr (Zu rfl rfl Zfh rfl (hh _ 2 _ rfl) (xV Tryz.underlying37 (h:=xM (h:=Zn ?_)))))))))))))
 refine ZD (α:=Nat × Int) [0,1,4,11,12] (fun g=>[(5,.int .i64 g.2),(13,.int .i64 g.1)]) [] (fun g=>[]) (fun g Bx=>Bx=B∧g.1≤x.folders.length∧g.2=ZdN (x.folders.take g.1) u∧-1*g.1≤g.2∧g.2≤g.1*200) (fun g=>x.folders.length - g.1) (0,0) t2 rfl (⟨rfl,Nat.zero_le _,by simp [ZdN],by simp,by simp⟩) (fun g B1 hle1 hI=>?_)
 obtain ⟨rfl,hk,hs,hl0,hl1⟩:=hI
 refine ZJ [(0,_),(1,_),(4,_),(5,_),(11,_),(12,_),(13,_)] [] t7 rfl (Za (ZF (h:=Zi (Zc rfl (fun g1=>?_) (fun g1=>?_)))))
 try simp only [sQ,ne_eq] at g1
 refine Zh (Ze (Zi (Zn (Za ?_))))
 obtain ⟨m,hm⟩:=ZU (xs:=x.folders) (i:=g.1) om
 obtain ⟨bb3,oo3,rfl⟩:=hf.base hm
 obtain ⟨_,⟨qg4,cg4,qm4,cm4,rfl,hg4,hm4,hb4,hb4b⟩,hc4⟩:=hf.elem hm
 have hg4n:=hg4.len
 have hm4n:=hm4.len
 have hm4s:=Zam hm4
 refine xIx Tryz.underlying37 ZeU (h:=yL [_,_,_,_,_] ZiR hc4 0 (h:=xAl [_,_,_,_,_] Zoi (h:=fun b5=>xS [_,_,_,_,_] 0 [_,_,_,_,_] ZeU (h:=ZM [_] rfl (Za (xW ZbB (h:=x1 lk9 0 (h:=xM (h:=Zco (h:=Zc rfl (fun g2=>?_) (fun g2=>?_)))))))))))
 try simp only [sQ,ne_eq] at g2
 have hbs:=ZgR (⟨m.next,m.mail⟩:DBox)
 refine Zo (xM (h:=xW ZfS (h:=xL [_,_] ZnA 0 (h:=xR Zr1 rfl (ZmG _ _ (⟨m.next,m.mail⟩:DBox) _ hm4) (h:=xD (h:=xA (h:=ZR (Ze (Zo (xD (h:=xM (h:=?_))))))))))))
 exact ZH (g.1+1,g.2+Zci ⟨m.next,m.mail⟩) [] so2 ⟨rfl,so,by rw [Zgv hm,← hs,if_pos g2],so,so⟩ t7 rfl
 try simp only [sQ,ne_eq] at g2
 refine Zh (ZR (Ze (Zo (xD (h:=xM (h:=?_))))))
 exact ZH (g.1+1,g.2) [] so2 ⟨rfl,so,by rw [Zgv hm,← hs,if_neg g2,Int.add_zero],so,so⟩ t7 rfl
 try simp only [sQ,ne_eq] at g1
 refine ZL (ZV (ZO (ZA (Ze (Za (xM (h:=xA (h:=Zg ?_))))))))
 exact Zy .ret (.inl rfl) [_] t1 ⟨ZC (by rw [← Zk3 hs oz]),rfl,rfl⟩

set_option maxHeartbeats 400000 in
theorem Zmm (b o:Nat) (q1 q2 q3:Option Addr) (c1 c2 c3:Nat) (x:DHost) (u:Str) (more:Int) (hn:u.length≤2000000) (hm0:0≤more) (hm1:more≤2000000) (B:Kn) (hh:Zak B b o [str x.domain,.slice q1 x.users.length c1,.slice q2 x.folders.length c2,.int .i64 x.queue.next,.slice q3 x.queue.items.length c3]) (hu:SlK B q1 c1 3 Zs x.users) (hf:SlK B q2 c2 5 Zj x.folders):Z3 (pj J) 84 [ptr ⟨b,o,none⟩,str u,.int .i64 more] B (.bool (ZcZ x u more)):=by
 refine Zb 30 Tryz.func84 rfl rfl rfl (Nat.le_of_ble_eq_true rfl) ?_
 have hfn:=hf.len
 have hub:=Zm2 x.folders u
 refine Za (xA (h:=Za (xM (h:=xNc (h:=xW ZbK (h:=Zr (Zu rfl rfl ZiS rfl (hh _ 1 _ rfl) (xM (h:=xR Zq5 rfl (Zfw _ _ _ u om2 _ hu) (h:=?_))))))))))
 refine xM (h:=xE (h:=xE (h:=xAl [_,_,_] ZjY (h:=fun b2=>xS [_,_,_] 0 [_,_,_] Zfc (h:=xA (h:=ZM [_] rfl (Zi (Z2 (same _ _) mo kr ⟨rfl,rfl⟩ (fun _ _=>?_)))))))))
 refine aM 0 rfl (h:=aN 1 rfl (h:=aM 2 rfl (h:=Zab (d:=20) rfl (fun g1=>?_) (fun g1=>?_))))
 try simp only [sQ,ne_eq] at g1
 refine aZ 3 rfl (h:=aZ 4 rfl (h:=aZ 5 rfl (h:=aZ 6 rfl (h:=aZ 7 rfl (h:=aZ 8 rfl (h:=aZ 9 rfl (h:=aZ 10 rfl (h:=aPT 11 rfl (h:=aA 12 rfl (h:=Zt kr kr ?_))))))))))
 refine Ze (Zg ?_)
 exact Zy .ret (.inl rfl) [_] t1 ⟨Zd (by rw [ZcZ,g1];rfl),rfl,rfl⟩
 try simp only [sQ,ne_eq] at g1
 refine aM 3 rfl (h:=aM 4 rfl (h:=aT 5 rfl (Z5 fun D=>ZQ rfl rfl Zsh rfl (Zqu _ _ _ _ _ _ _ _ x u _ hh hf) r4) (h:=aM 6 rfl (h:=aD 7 rfl (h:=aW 8 rfl Ze4 (h:=aT 9 rfl (Z5 fun D=>Zu rfl rfl lk3 rfl (atL 0 rfl rfl rfl) r4) (h:=ZmN 10 rfl (h:=aPF 11 rfl (h:=aA 12 rfl (h:=Zt kr kr ?_))))))))))
 refine Ze (Zg ?_)
 exact Zy .ret (.inl rfl) [_] t1 ⟨Zd (by rw [ZcZ,g1];rfl),rfl,rfl⟩

set_option maxHeartbeats 400000 in
theorem Zj0 (b o:Nat) (q1 q2 q3:Option Addr) (c1 c2 c3:Nat) (x:DHost) (B:Kn) (hh:Zak B b o [str x.domain,.slice q1 x.users.length c1,.slice q2 x.folders.length c2,.int .i64 x.queue.next,.slice q3 x.queue.items.length c3]) (hu:SlK B q1 c1 3 Zs x.users) (hf:SlK B q2 c2 5 Zj x.folders):Z3 (pj J) 46 [ptr ⟨b,o,none⟩] B (.bool (Zfv x)):=by
 refine Zb 26 Tryz.func46 rfl rfl rfl (Nat.le_of_ble_eq_true rfl) ?_
 have hfn:=hf.len
 have hun:=hu.len
 refine Za (xA (h:=Zi (Za (xM (h:=xNc (h:=xW ZbK (h:=Zr (Zu rfl rfl ZiS rfl (hh _ 1 _ rfl) (xV Tryz.underlying36 (h:=xM (h:=Zn (ZD (α:=Nat) [0,8,9] (fun k=>[(10,.int .i64 k)]) [] (fun k=>[]) (fun k Bx=>Bx=B∧k≤x.users.length∧∀z,z∈x.users.take k→Zbu x z=true) (fun k=>x.users.length - k) 0 t1 rfl (⟨rfl,Nat.zero_le _,by simp⟩) (fun k B1 hle1 hI=>?_)))))))))))))
 obtain ⟨rfl,hk,ha⟩:=hI
 refine ZJ [(0,_),(8,_),(9,_),(10,_)] [] t4 rfl (Za (ZF (h:=Zi (Zc rfl (fun g1=>?_) (fun g1=>?_)))))
 try simp only [sQ,ne_eq] at g1
 refine Zh (Ze (Zi (Zn (Za ?_))))
 obtain ⟨w,hw⟩:=ZU (xs:=x.users) (i:=k) om
 obtain ⟨bb3,oo3,rfl⟩:=hu.base hw
 obtain ⟨_,⟨rfl,hb4,hb4b⟩,hc4⟩:=hu.elem hw
 refine xIx Tryz.underlying36 Zfc (h:=yL [_,_,_] Zio hc4 0 (h:=xAl [_,_,_] ZjY (h:=fun b5=>xS [_,_,_] 0 [_,_,_] Zfc (h:=ZM [_] rfl (Za (xM (h:=xW ZbC (h:=x1 lk9 0 (h:=xR ZsO rfl (ZoL _ _ _ _ _ _ _ _ x w.name [105,110,98,111,120] om2 om2 _ hh hf) (h:=?_))))))))))
 refine ZF (h:=xM (h:=Zv (d:=19) rfl (fun g2=>?_) (fun g2=>?_)))
 try simp only [sQ,ne_eq] at g2
 refine xP (h:=xP (h:=xP (h:=xP (h:=xT (h:=Zc (t:=true) rfl (fun _=>Za (xA (h:=Zg (Zz (Zm (ZG (Zz (Zm ?_)))))))) (fun h=>Bool.noConfusion h))))))
 exact Zy .ret (.inl rfl) [_] t1 ⟨Zd (Zcc hw (ZhE g2)).symm,rfl,rfl⟩
 try simp only [sQ,ne_eq] at g2
 refine xM (h:=xW ZbC (h:=x1 lk9 0 (h:=xR Ztp rfl (Zmm _ _ _ _ _ _ _ _ x w.name 0 om2 om2 om2 _ hh hu hf) (h:=?_))))
 refine xF (h:=Zc rfl (fun g3=>?_) (fun g3=>?_))
 try simp only [sQ,ne_eq] at g3
 refine Za (xA (h:=Zg (Zz (Zm (ZG (Zz (Zm ?_)))))))
 exact Zy .ret (.inl rfl) [_] t1 ⟨Zd (Zcc hw (ZhD g3)).symm,rfl,rfl⟩
 try simp only [sQ,ne_eq] at g3
 refine Zh (ZR (Ze (Zo (xD (h:=xM (h:=?_))))))
 exact ZH (k+1) [] so2 ⟨rfl,oz,ZaI hw ha (ZhC g2 g3)⟩ t4 rfl
 try simp only [sQ,ne_eq] at g1
 refine ZL (ZV (ZO (ZA (Ze (Za (xA (h:=Zg ?_)))))))
 exact Zy .ret (.inl rfl) [_] t1 ⟨Zd (Zdx (ZaR oz ha)).symm,rfl,rfl⟩

set_option maxHeartbeats 400000 in
theorem ZnD (q:Option Addr) (cp:Nat) (bs:List Bool) (v:Bool) (B:Kn) (hb:SlK B q cp 1 Zjj bs):Z3 (pj J) 129 [.slice q bs.length cp,.bool v] B (.int .i64 (Zcl (fun y=>decide (v=y)) bs)):=by
 refine Zb 19 Tryz.func129 rfl rfl rfl (Nat.le_of_ble_eq_true rfl) ?_
 have hbn:=hb.len
 refine Za (xA (h:=Zi (Za (xM (h:=xV Tryz.underlying127 (h:=xM (h:=Zn (ZD (α:=Nat) [0,1,7] (fun k=>[(8,.int .i64 k)]) [] (fun k=>[]) (fun k Bx=>Bx=B∧k≤bs.length∧∀y,y∈bs.take k→decide (v=y)=false) (fun k=>bs.length - k) 0 t1 rfl (⟨rfl,Nat.zero_le _,by simp⟩) (fun k B1 hle1 hI=>?_)))))))))
 obtain ⟨rfl,hk,ha⟩:=hI
 refine ZJ [(0,_),(1,_),(7,_),(8,_)] [] t4 rfl (Za (ZF (h:=Zi (Zc rfl (fun g1=>?_) (fun g1=>?_)))))
 try simp only [sQ,ne_eq] at g1
 refine Zh (Ze (Zi (Zn (Za (xM (h:=xA (h:=Za (xM (h:=xM (h:=xM (h:=?_)))))))))))
 obtain ⟨y,hy⟩:=ZU (xs:=bs) (i:=k) om
 obtain ⟨bb3,oo3,rfl⟩:=hb.base hy
 obtain ⟨_,rfl,hc4⟩:=hb.elem hy
 refine xIx Tryz.underlying127 sz4 (h:=y1 lk4 hc4 0 (h:=Zr (Zqq rfl rfl rfl rfl rfl (Zq2 Tryz.underlying4) (Zc rfl (fun g2=>?_) (fun g2=>?_)))))
 try simp only [sQ,ne_eq] at g2
 refine Za (xM (h:=xA (h:=Zg (Zz (Zm (ZG (Zz (Zm ?_))))))))
 exact Zy .ret (.inl rfl) [_] t1 ⟨ZC (Zfk hy (decide_eq_true g2) ha).symm,rfl,rfl⟩
 try simp only [sQ,ne_eq] at g2
 refine Zh (ZR (Ze (Zo (xD (h:=xM (h:=?_))))))
 exact ZH (k+1) [] so2 ⟨rfl,oz,ZaI hy ha (decide_eq_false g2)⟩ t4 rfl
 try simp only [sQ,ne_eq] at g1
 refine ZL (ZV (ZO (ZA (Ze (Za (xA (h:=Zg ?_)))))))
 exact Zy .ret (.inl rfl) [_] t1 ⟨ZC (Zde (ZaR oz ha)).symm,rfl,rfl⟩

set_option maxHeartbeats 400000 in
theorem Zjb (q:Option Addr) (cp:Nat) (bs:List Bool) (v:Bool) (B:Kn) (hb:SlK B q cp 1 Zjj bs):Z3 (pj J) 83 [.slice q bs.length cp,.bool v] B (.bool (decide (0≤Zcl (fun y=>decide (v=y)) bs))):=by
 refine Zb 9 Tryz.func83 rfl rfl rfl (Nat.le_of_ble_eq_true rfl) ?_
 refine Za (xA (h:=Za (xM (h:=xM (h:=xR Zsi rfl (ZnD _ _ _ _ _ hb) (h:=Zdz (h:=xA (h:=Zg ?_))))))))
 exact Zy .ret (.inl rfl) [_] t1 ⟨rfl,rfl,rfl⟩

set_option maxHeartbeats 400000 in
theorem Zh0 (l:Str) (hl:l.length≤2000000) (B:Kn):Z3 (pj J) 41 [str l] B (.bool (ZbF l)):=by
 refine Zb 16 Tryz.func41 rfl rfl rfl (Nat.le_of_ble_eq_true rfl) ?_
 refine Za (xA (h:=Za (xM (h:=xB [(0,_)] [_,_] [_,_] ZqE ZmV (h:=xAl [_,_] ZmV (h:=fun b1=>xS [_,_] 0 [_,_] ZqB (h:=ZM [_] rfl (Za (Zr (Zgt 0 rfl rfl rfl Ztx rfl (ZnY _ _ 0 oz oz _) ?_))))))))))
 refine xM (h:=xE (h:=xE (h:=xA (h:=xA (h:=Za (xM (h:=xM (h:=Zv (d:=13) rfl (fun g1=>?_) (fun g1=>?_)))))))))
 try simp only [sQ,ne_eq] at g1
 refine Zr (Zhr 0 rfl rfl rfl Zro rfl (ZjT _ _ (dom l 0).2 (Zq6 (Nat.zero_le _)) oz _) ?_)
 refine xT (h:=xA (h:=Zg ?_))
 exact Zy .ret (.inl rfl) [_] t1 ⟨Zd (by rw [Bool.eq_iff_iff,← Zic];simp [Zi9] at g1;simp [g1];try omega),rfl,rfl⟩
 try simp only [sQ,ne_eq] at g1
 refine xP (h:=xF (h:=xA (h:=Zg ?_)))
 exact Zy .ret (.inl rfl) [_] t1 ⟨Zd (by symm;rw [Bool.eq_false_iff,ne_eq,← Zic];intro hc;simp [Zi9,hc.1] at g1;omega),rfl,rfl⟩

set_option maxHeartbeats 800000 in
theorem Zhe (Wg C n i b o b1 b3 b5 b6:Nat) (q1 q2 q3:Option Addr) (c1 c2 c3:Nat) (x:DHost) (m:DFolder) (qg qm:Option Addr) (cg cm:Nat) (hin:i<n) (B:Kn) (hc900:Zak B b o [str x.domain,.slice q1 x.users.length c1,.slice q2 x.folders.length c2,.int .i64 x.queue.next,.slice q3 x.queue.items.length c3]) (hu:SlK B q1 c1 3 Zs x.users) (hc901:Zak B b1 0 [ptr ⟨b,o,none⟩]) (hc903:Zak B b3 0 [.slice (some ⟨C,0,none⟩) n n]) (hc905:Zak B b5 0 [.int .i64 i]) (hc906:Zak B b6 0 [str m.owner,str m.name,.slice qg m.grants.length cg,.int .i64 m.next,.slice qm m.mail.length cm]) (hg:SlK B qg cg 2 Zah m.grants) (hm:SlK B qm cm 3 ZaP m.mail) (ho:m.owner.length≤2000000) (hnm:m.name.length≤2000000):@Zc0 ⟨4⟩ Tryz.prog wgL.tWg Wg C n i (.bool (Zag x.users m)) (Go.Conc.G (Frame.enter Tryz.prog 76 #[ptr ⟨Wg,0,none⟩,ptr ⟨b1,0,none⟩,ptr ⟨b6,0,none⟩,ptr ⟨b3,0,none⟩,ptr ⟨b5,0,none⟩] .deferred) [ZdZ Tryz.prog]) B []:=by
 letI:Go.ConcR.Payload:=⟨4⟩
 refine ZoV (Lk:=wgL) (P:=Tryz.prog) (caps:=[ptr ⟨Wg,0,none⟩,ptr ⟨b1,0,none⟩,ptr ⟨b6,0,none⟩,ptr ⟨b3,0,none⟩,ptr ⟨b5,0,none⟩]) (nt:=27) (I:=keeps B [] []) (K:=fun _ _ _ _=>False) Ziq Tryz.func76 rfl rfl (Nat.le_of_ble_eq_true rfl) rfl mo kr ⟨Kn.le.refl _,ZaV.refl _ _⟩ (fun _ _ _ _ h=>h) ?_
 refine aT 0 rfl (Z6 fun D B L hI=>Zu rfl rfl ZqN rfl ((hc903.mono hI.1) _ 0 _ rfl) r4) (h:=aT 1 rfl (Z6 fun D B L hI=>Zu rfl rfl lk3 rfl ((hc905.mono hI.1) _ 0 _ rfl) r4) (h:=aT 2 rfl (Z6 fun D B L hI=>Zu rfl rfl ZrO rfl ((hc901.mono hI.1) _ 0 _ rfl) r4) (h:=aW 3 rfl ZbB (h:=aT 4 rfl (Z6 fun D B L hI=>Zu rfl rfl lk9 rfl ((hc906.mono hI.1) _ 0 _ rfl) r4) (h:=aT 5 rfl (Z6 fun D B L hI=>ZQ rfl rfl Zrn rfl (Zfi _ _ _ _ _ _ _ _ x m.owner om2 _ (hc900.mono hI.1) (hu.mono Zs.mono hI.1)) r4) (h:=?_))))))
 refine aM 6 rfl (h:=Zab (d:=11) rfl (fun g1=>?_) (fun g1=>?_))
 try simp only [sQ,ne_eq] at g1
 refine aW 7 rfl Zdh (h:=aT 8 rfl (Z6 fun D B L hI=>Zu rfl rfl lk9 rfl ((hc906.mono hI.1) _ 1 _ rfl) r4) (h:=aT 9 rfl (Z6 fun D B L hI=>ZQ rfl rfl ZoM rfl (Za9 _ om2 _) r4) (h:=?_)))
 refine aPT 10 rfl (h:=aM 11 rfl (h:=Zab (d:=16) rfl (fun g2=>?_) (fun g2=>?_)))
 try simp only [sQ,ne_eq] at g2
 refine aW 12 rfl ZfT (h:=aT 13 rfl (Z6 fun D B L hI=>Zu rfl rfl Zp5 rfl ((hc906.mono hI.1) _ 2 _ rfl) r4) (h:=aT 14 rfl (Z6 fun D B L hI=>ZQ rfl rfl Zts rfl (ZlY _ _ _ _ (hg.mono Zah.mono hI.1)) r4) (h:=aPT 15 rfl (h:=aM 16 rfl (h:=Zab (d:=21) rfl (fun g3=>?_) (fun g3=>?_))))))
 try simp only [sQ,ne_eq] at g3
 refine aW 17 rfl ZfS (h:=aT 18 rfl (Z6 fun D B L hI=>ZK [_,_] rfl rfl ZnA rfl (Zka (hc906.mono hI.1) 3 rfl rfl) r4) (h:=aT 19 rfl (Z6 fun D B L hI=>ZQ rfl rfl ZsL rfl (Zh1 _ _ (⟨m.next,m.mail⟩:DBox) _ (hm.mono ZaP.mono hI.1)) r4) (h:=aPT 20 rfl (h:=aT 21 rfl (Z6 fun D B L hI=>Za3 rfl rfl Tryz.underlying127 sz4 rfl rfl oz oz r4) (h:=?_)))))
 refine Zfm 22 kr rfl kr kr kr (fun T hn hT=>?_)
 refine Zd5 (L:=[]) hT Ziq (by simp [Zag,DFolder.box,g1,g2,g3]) rfl hin rfl Tryz.sizeOf4 (ZbL sz4) (by exact Zfe C i) rfl kr Tryz.func76 rfl
 try simp only [sQ,ne_eq] at g3
 refine aZ 17 rfl (h:=aZ 18 rfl (h:=aZ 19 rfl (h:=aPF 20 rfl (h:=aT 21 rfl (Z6 fun D B L hI=>Za3 rfl rfl Tryz.underlying127 sz4 rfl rfl oz oz r4) (h:=?_)))))
 refine Zfm 22 kr rfl kr kr kr (fun T hn hT=>?_)
 refine Zd5 (L:=[]) hT Ziq (by simp [Zag,DFolder.box,g1,g2,g3]) rfl hin rfl Tryz.sizeOf4 (ZbL sz4) (by exact Zfe C i) rfl kr Tryz.func76 rfl
 try simp only [sQ,ne_eq] at g2
 refine aZ 12 rfl (h:=aZ 13 rfl (h:=aZ 14 rfl (h:=aPF 15 rfl (h:=aM 16 rfl (h:=aZ 17 rfl (h:=aZ 18 rfl (h:=aZ 19 rfl (h:=aPF 20 rfl (h:=aT 21 rfl (Z6 fun D B L hI=>Za3 rfl rfl Tryz.underlying127 sz4 rfl rfl oz oz r4) (h:=?_))))))))))
 refine Zfm 22 kr rfl kr kr kr (fun T hn hT=>?_)
 refine Zd5 (L:=[]) hT Ziq (by simp [Zag,DFolder.box,g1,g2]) rfl hin rfl Tryz.sizeOf4 (ZbL sz4) (by exact Zfe C i) rfl kr Tryz.func76 rfl
 try simp only [sQ,ne_eq] at g1
 refine aZ 7 rfl (h:=aZ 8 rfl (h:=aZ 9 rfl (h:=aPF 10 rfl (h:=aM 11 rfl (h:=aZ 12 rfl (h:=aZ 13 rfl (h:=aZ 14 rfl (h:=aPF 15 rfl (h:=aM 16 rfl (h:=aZ 17 rfl (h:=aZ 18 rfl (h:=aZ 19 rfl (h:=?_)))))))))))))
 refine aPF 20 rfl (h:=aT 21 rfl (Z6 fun D B L hI=>Za3 rfl rfl Tryz.underlying127 sz4 rfl rfl oz oz r4) (h:=?_))
 refine Zfm 22 kr rfl kr kr kr (fun T hn hT=>?_)
 refine Zd5 (L:=[]) hT Ziq (by simp [Zag,DFolder.box,g1]) rfl hin rfl Tryz.sizeOf4 (ZbL sz4) (by exact Zfe C i) rfl kr Tryz.func76 rfl

set_option maxHeartbeats 1600000 in
theorem Zgl (hJ:Joins Tryz.prog J) (b o:Nat) (q1 q2 q3:Option Addr) (c1 c2 c3:Nat) (x:DHost) (B:Kn) (hc900:Zak B b o [str x.domain,.slice q1 x.users.length c1,.slice q2 x.folders.length c2,.int .i64 x.queue.next,.slice q3 x.queue.items.length c3]) (hu:SlK B q1 c1 3 Zs x.users) (hf:SlK B q2 c2 5 Zj x.folders):ZT (pj J) 45 [ptr ⟨b,o,none⟩] B [] (fun v B' Ls=>Ls=[]∧v = .bool (x.folders.all (Zag x.users))):=by
 have hfn:=hf.len
 letI:Go.ConcR.Payload:=⟨4⟩
 refine Zn3 30 Tryz.func45 rfl rfl (Nat.le_of_ble_eq_true rfl) fun X kind c cs F T0 hk hke hA hn0 hT0=>?_
 let C0:Cx (pj J):=⟨X,fb 45 kind,c :: cs,F,hke⟩
 refine Zdi (C:=C0) (L:=[]) (ZgP (C:=C0) (L:=[]) hn0 hT0 (xBx [_] (h:=fun b1=>xA (h:=?_))))
 intro T1 hn1 hT1
 refine Zid (C:=C0) rfl 0 rfl fun B1 hle1 hm1=>?_
 have hc901:=Zcr hm1
 replace hc900:=hc900.mono hle1
 replace hu:=hu.mono Zs.mono hle1
 replace hf:=hf.mono Zj.mono hle1
 replace hA:=fun v B' Ls' h=>hA v B' Ls' (hle1.trans h)
 refine Zdi (C:=C0) (L:=[[]]) (ZgP (C:=C0) (L:=[[]]) hn1 hT1 (y1 ZrO hc901 0 (h:=xNc (h:=xW ZaA (h:=y1 Zfh hc900 2 (h:=xV Tryz.underlying37 (h:=Zr (Za2 (m:=x.folders.length) (c:=x.folders.length) (by_:=1) [.bool false] rfl rfl ZrV zo4 rfl rfl ⟨_,_,rfl,rfl⟩ ⟨_,_,rfl,rfl⟩ (Nat.le_refl _) oz (fun Cb=>?_)))))))))
 refine xAl [_] Zrw (h:=fun b2=>xS [_] 2 [_] ZrK (h:=?_))
 intro T2 hn2 hT2
 refine Zid (C:=C0) rfl 2 rfl fun B2 hle2 hm2=>?_
 have hc903:=Zcr hm2
 replace hc900:=hc900.mono hle2
 replace hu:=hu.mono Zs.mono hle2
 replace hf:=hf.mono Zj.mono hle2
 replace hc901:=hc901.mono hle2
 replace hA:=fun v B' Ls' h=>hA v B' Ls' (hle2.trans h)
 refine Zdi (C:=C0) (L:=[[],ZaJ Cb (zrow [.bool false] x.folders.length) 4,[]]) (Zep (C:=C0) (L:=[[],ZaJ Cb (zrow [.bool false] x.folders.length) 4,[]]) (Znm (C:=Cb) (n:=x.folders.length) (val:=ZmR x) (L₁:=F) (cells:=(zrow [.bool false] x.folders.length).toArray) (i:=0) (todo:=[]) hJ rfl hke Zrv rfl oz (by simp [Zbd]) (.refl _) (fun hmain Wg hW1 hW2=>?_)))
 let C1:Cx (.lone Tryz.prog):=⟨phL Tryz.prog 137 Wg Cb x.folders.length (ZmR x) X.R .a5 (0),fb 45 kind,c :: cs,F,hke⟩
 have hT3:=hT2.putT (n:=30) (dst:=some 4) hn2 rfl (ptr ⟨Wg,0,none⟩)
 have hn3:(putT T2 (some 4) (ptr ⟨Wg,0,none⟩)).size=30:=by rw [Zay,hn2]
 refine ZbO (C:=C1) (L:=[]) (Zdi (C:=C1) (L:=[]) (Zdi (C:=C1) (L:=[]) (ZgP (C:=C1) (L:=[]) hn3 hT3 (y1 ZrO hc901 0 (h:=xNc (h:=xW ZaA (h:=y1 Zfh hc900 2 (h:=xV Tryz.underlying37 (h:=xM (h:=?_))))))))))
 intro T4 hn4 hT4
 refine ZjU (C:=C1) (L:=[]) (Zpb (nt:=30) (fun j=>[(1,ptr ⟨b1,0,none⟩),(3,ptr ⟨b2,0,none⟩),(4,ptr ⟨Wg,0,none⟩),(16,.slice q2 x.folders.length c2),(17,.int .i64 x.folders.length),(18,.int .i64 ((j:Nat):Int))]) (fun j hj B3 T5 hle3 hn5 hT5 hnext=>?_) hn4 (hT4.sub' t6))
 replace hc900:=hc900.mono hle3
 replace hu:=hu.mono Zs.mono hle3
 replace hf:=hf.mono Zj.mono hle3
 replace hc901:=hc901.mono hle3
 replace hc903:=hc903.mono hle3
 replace hA:=fun v B' Ls' h=>hA v B' Ls' (hle3.trans h)
 let C2:Cx (.lone Tryz.prog):=⟨phL Tryz.prog 137 Wg Cb x.folders.length (ZmR x) X.R .a5 (j),fb 45 kind,c :: cs,F,hke⟩
 refine Zdi (C:=C2) (L:=[]) (ZgP (C:=C2) (L:=[]) hn5 hT5 (ZF (h:=?_)))
 intro T6 hn6 hT6
 refine Zdi (C:=C2) (L:=[]) ?_
 rcases Nat.lt_or_ge j x.folders.length with hlt | hge
 refine ZmB (C:=C2) (L:=[]) (t:=true) (by exact congrArg (fun t=>some (Value.bool t)) (decide_eq_true oz)) hT6 ?_
 refine ZpS (C:=C2) (L:=[]) (Zdi (C:=C2) (L:=[]) (ZjU (C:=C2) (L:=[]) (Zdi (C:=C2) (L:=[]) (ZgP (C:=C2) (L:=[]) hn6 hT6 (xM (h:=?_))))))
 obtain ⟨m,hm⟩:=ZU (xs:=x.folders) (i:=j) om
 obtain ⟨bb4,oo4,rfl⟩:=hf.base hm
 obtain ⟨_,⟨qg5,cg5,qm5,cm5,rfl,hg5,hm5,hb5,hb5b⟩,hc5⟩:=hf.elem hm
 have hg5n:=hg5.len
 have hm5n:=hm5.len
 have hm5s:=Zam hm5
 refine xIx Tryz.underlying37 ZeU (h:=yL [_,_,_,_,_] ZiR hc5 0 (h:=xAl [_] zo3 (h:=fun b6=>xAl [_,_,_,_,_] Zoi (h:=fun b7=>xS [_] 0 [_] sz3 (h:=xS [_,_,_,_,_] 1 [_,_,_,_,_] ZeU (h:=?_))))))
 intro T7 hn7 hT7
 refine Zid (C:=C2) rfl 0 rfl fun B4 hle4 hpm4=>?_
 have hc905:=Zcr hpm4
 refine Zid (C:=C2) rfl 1 rfl fun B5 hle5 hpm5=>?_
 have hc906:=Zcr hpm5
 replace hc905:=hc905.mono hle5
 replace hc900:=hc900.mono (hle4.trans hle5)
 replace hu:=hu.mono Zs.mono (hle4.trans hle5)
 replace hf:=hf.mono Zj.mono (hle4.trans hle5)
 replace hc901:=hc901.mono (hle4.trans hle5)
 replace hc903:=hc903.mono (hle4.trans hle5)
 replace hg5:=hg5.mono Zah.mono (hle4.trans hle5)
 replace hm5:=hm5.mono ZaP.mono (hle4.trans hle5)
 refine Zdi (C:=C2) (L:=[[],[]]) (Zep (C:=C2) (L:=[[],[]]) (ZqG (Lk:=wgL) (i:=0) (todo:=[]) Ziq hlt rfl Ztt rfl rfl hT7 hke ?_))
 let C3:Cx (.lone Tryz.prog):=⟨phL Tryz.prog 137 Wg Cb x.folders.length (ZmR x) X.R .a2 (j),fb 45 kind,c :: cs,F,hke⟩
 have hT8:=hT7.putT (n:=30) (dst:=(some 23)) hn7 rfl (.tuple #[])
 have hn8:(putT T7 (some 23) (.tuple #[])).size=30:=by rw [Zay,hn7]
 refine ZbO (C:=C3) (L:=[]) (Zep (C:=C3) (L:=[]) (Zsr (C:=C3) (L:=[]) (i:=0) (todo:=[1]) rfl hn8 hT8 (Zr (Zet (xs:=[]) (ys:=[.tmp 4,.tmp 1,.tmp 6,.tmp 3,.tmp 5]) rfl rfl rfl rfl ?_))))
 intro T9 hn9 hT9
 refine ZrM (i:=1) (todo:=[]) rfl rfl hT9 hke Tryz.func76 rfl rfl (by rw [Zjr hm];exact Zhe Wg Cb x.folders.length j b o b1 b2 b6 b7 _ _ _ _ _ _ x m _ _ _ _ hlt B5 hc900 hu hc901 hc903 hc905 hc906 hg5 hm5 hb5 hb5b) ?_
 let C4:Cx (.lone Tryz.prog):=⟨phL Tryz.prog 137 Wg Cb x.folders.length (ZmR x) X.R .a5 (j+1),fb 45 kind,c :: cs,F,hke⟩
 refine ZbO (C:=C4) (L:=[]) (ZkD (C:=C4) (L:=[]) ?_)
 have hn10:=hn9
 have hT10:=hT9
 refine ZgP (C:=C4) (L:=[]) hn10 hT10 (xD (h:=xM (h:=?_)))
 intro T11 hn11 hT11
 exact hnext hlt _ _ (hle4.trans hle5) hn11 (hT11.sub' t6)
 obtain rfl:j=x.folders.length:=by omega
 refine ZmB (C:=C2) (L:=[]) (t:=false) (by exact congrArg (fun t=>some (Value.bool t)) (decide_eq_false oz)) hT6 ?_
 refine ZpT (C:=C2) (L:=[]) (by rfl) ?_
 refine Zdi (C:=C2) (L:=[]) (Zep (C:=C2) (L:=[]) (Zpa (Lk:=wgL) (X:=X) (i:=0) (todo:=[]) Ziq oz rfl Ztr rfl hT6 hke (fun _ _ _ h=>h) ?_))
 have hT7:=hT6.putT (n:=30) (dst:=(some 26)) hn6 rfl (.tuple #[])
 have hn7:(putT T6 (some 26) (.tuple #[])).size=30:=by rw [Zay,hn6]
 refine ZbO (C:=C0) (L:=[[(Cb,Obj.cells ((List.range x.folders.length).map (ZmR x)).toArray 4 (0,0))]]) (Zid (C:=C0) (L:=[[(Cb,Obj.cells ((List.range x.folders.length).map (ZmR x)).toArray 4 (0,0))]]) rfl 0 rfl fun B4 hle4 hm4=>?_)
 have hvb:=Zk2 hm4 hfn
 replace hc900:=hc900.mono hle4
 replace hu:=hu.mono Zs.mono hle4
 replace hf:=hf.mono Zj.mono hle4
 replace hc901:=hc901.mono hle4
 replace hc903:=hc903.mono hle4
 replace hA:=fun v B' Ls' h=>hA v B' Ls' (hle4.trans h)
 refine ZpH Tryz.func45 rfl hk hke hn7 hT7 hA ?_
 rw [show (x.folders.length:Nat)=(x.folders.map (Zag x.users)).length from (List.length_map ..).symm] at hc903
 refine Za (y1 ZqN hc903 0 (h:=xR Ztq rfl (Zjb _ _ _ _ _ hvb) (h:=xN (h:=xA (h:=ZM [_] rfl (Zg ?_))))))
 exact Zy .ret (.inl rfl) [_] t1 ⟨rfl,congrArg Value.bool Zhm⟩

set_option maxHeartbeats 400000 in
theorem Zi1 (hJ:Joins Tryz.prog J) (q1 q2 q3:Option Addr) (c1 c2 c3:Nat) (x:DHost) (hd:x.domain.length≤2000000) (B:Kn) (hu:SlK B q1 c1 3 Zs x.users) (hf:SlK B q2 c2 5 Zj x.folders) (hi:SlK B q3 c3 4 ZB x.queue.items):ZT (pj J) 21 [.agg #[str x.domain,.slice q1 x.users.length c1,.slice q2 x.folders.length c2,.int .i64 x.queue.next,.slice q3 x.queue.items.length c3]] B [] (fun v B' Ls=>Ls=[]∧v = .bool (Zac x)):=by
 refine Zb 63 Tryz.func21 rfl rfl rfl (Nat.le_of_ble_eq_true rfl) ?_
 rw [← Zkt]
 have hfn:=hf.len
 have hun:=hu.len
 have hin:=hi.len
 refine Za (xBx [_,_,_,_,_] (h:=fun b1=>xA (h:=ZM [_] rfl (Zqd 0 rfl (fun B2 hle2 hpm2=>?_)))))
 have hc2:=Zcr hpm2
 replace hu:=hu.mono Zs.mono hle2
 replace hf:=hf.mono Zj.mono hle2
 replace hi:=hi.mono ZB.mono hle2
 refine Zi (Za (xW Zh9 (h:=y1 lk9 hc2 0 (h:=xR ZtT rfl (Zh0 _ om2 _) (h:=?_)))))
 refine xN (h:=xM (h:=Zv (d:=10) rfl (fun g1=>?_) (fun g1=>?_)))
 try simp only [sQ,ne_eq] at g1
 refine xP (h:=xP (h:=xP (h:=xP (h:=xT (h:=xM (h:=xP (h:=xP (h:=xP (h:=xP (h:=xT (h:=xM (h:=xP (h:=?_)))))))))))))
 refine xP (h:=xP (h:=xP (h:=xT (h:=ZM [_] rfl (Zc (t:=true) rfl (fun _=>Za (xA (h:=Zg (Zm ?_)))) (fun h=>Bool.noConfusion h))))))
 exact Zy .ret (.inl rfl) [_] t1 ⟨rfl,Zd (by simp [ZbZ,g1])⟩
 try simp only [sQ,ne_eq] at g1
 refine xW ZbK (h:=y1 ZiS hc2 1 (h:=xR ZsP rfl (ZfK _ _ _ _ hu) (h:=xN (h:=xF (h:=xM (h:=Zv (d:=16) rfl (fun g2=>?_) (fun g2=>?_)))))))
 try simp only [sQ,ne_eq] at g2
 refine xP (h:=xP (h:=xP (h:=xP (h:=xT (h:=xM (h:=xP (h:=xP (h:=xP (h:=xP (h:=xT (h:=ZM [_] rfl (Zc (t:=true) rfl (fun _=>?_) (fun h=>Bool.noConfusion h)))))))))))))
 refine Za (xA (h:=Zg (Zm ?_)))
 exact Zy .ret (.inl rfl) [_] t1 ⟨rfl,Zd (by simp [ZbZ,g1,g2])⟩
 try simp only [sQ,ne_eq] at g2
 refine xW Ze5 (h:=yL [_,_] Zp6 hc2 3 (h:=xR ZtS rfl (ZiX _ _ x.queue _ hi) (h:=xN (h:=xF (h:=xM (h:=Zv (d:=22) rfl (fun g3=>?_) (fun g3=>?_)))))))
 try simp only [sQ,ne_eq] at g3
 refine xP (h:=xP (h:=xP (h:=xP (h:=xT (h:=ZM [_] rfl (Zc (t:=true) rfl (fun _=>Za (xA (h:=Zg (Zm ?_)))) (fun h=>Bool.noConfusion h)))))))
 exact Zy .ret (.inl rfl) [_] t1 ⟨rfl,Zd (by simp [ZbZ,g1,g2,g3])⟩
 try simp only [sQ,ne_eq] at g3
 refine xW ZaA (h:=y1 Zfh hc2 2 (h:=xV Tryz.underlying37 (h:=Zdy (h:=xF (h:=ZM [_] rfl (Zc rfl (fun g4=>?_) (fun g4=>?_)))))))
 try simp only [sQ,ne_eq] at g4
 refine Za (xA (h:=Zg (Zm ?_)))
 exact Zy .ret (.inl rfl) [_] t1 ⟨rfl,Zd (by simp [ZbZ];intros;omega)⟩
 try simp only [sQ,ne_eq] at g4
 refine Zh (Ze (Zi (Za (xW ZaA (h:=y1 Zfh hc2 2 (h:=xW ZaA (h:=y1 Zfh hc2 2 (h:=xV Tryz.underlying37 (h:=xU (h:=Zr (ZrD (m:=(x.folders.length - 1)) rfl rfl rfl rfl om ?_)))))))))))
 have hsl:((x.folders.take (x.folders.length - 1)).drop 0).length=x.folders.length - 1:=by simp
 obtain ⟨hq6,q6,cp6,hv6,hr6⟩:=hf.cutE 0 (x.folders.length - 1) om om
 have hr6n:=hr6.len
 refine Zr (Zk0 (a:=0) (b:=(x.folders.length - 1)) hv6 om hq6 rfl rfl Tryz.underlying37 ZeU rfl rfl ⟨_,_,rfl,by first | omega | (simp;done) | (simp;omega)⟩ ?_)
 refine xV Tryz.underlying37 (h:=xM (h:=Zn (ZD (α:=Nat) [0,1,27,35,36] (fun k=>[(37,.int .i64 k)]) [] (fun k=>[]) (fun k Bx=>Bx=B2∧k≤x.folders.length - 1∧Zof x.folders k) (fun k=>x.folders.length - k) 0 t1 rfl (⟨rfl,Nat.zero_le _,Zkg⟩) (fun k B7 hle7 hI=>?_))))
 obtain ⟨rfl,hk,hord⟩:=hI
 refine ZJ [(0,_),(1,_),(27,_),(35,_),(36,_),(37,_)] [_] t6 rfl (Za (ZF (h:=Zi (Zc rfl (fun g5=>?_) (fun g5=>?_)))))
 try simp only [sQ,ne_eq] at g5
 refine Zh (Ze (Zi (Zn (Za (xM (h:=?_))))))
 obtain ⟨fa,hfa⟩:=ZU (xs:=((x.folders.take (x.folders.length - 1)).drop 0)) (i:=k) om
 obtain ⟨bb9,oo9,rfl⟩:=hr6.base hfa
 obtain ⟨_,⟨qg10,cg10,qm10,cm10,rfl,hg10,hm10,hb10,hb10b⟩,hc10⟩:=hr6.elem hfa
 have hg10n:=hg10.len
 have hm10n:=hm10.len
 have hm10s:=Zam hm10
 refine xIx Tryz.underlying37 ZeU (h:=?_)
 have hfa0:x.folders[k]? = some fa:=by rw [List.drop_zero,List.getElem?_take] at hfa;split at hfa <;> simp_all
 refine yL [_,_,_,_,_] ZiR hc10 0 (h:=xAl [_,_,_,_,_] Zoi (h:=fun b11=>xA (h:=xS [_,_,_,_,_] 1 [_,_,_,_,_] ZeU (h:=ZM [_,_] rfl (Za (xW ZaA (h:=y1 Zfh hc2 2 (h:=xM (h:=xD (h:=?_))))))))))
 obtain ⟨fb,hfb⟩:=ZU (xs:=x.folders) (i:=(k+1)) om
 obtain ⟨bb13,oo13,rfl⟩:=hf.base hfb
 obtain ⟨_,⟨qg14,cg14,qm14,cm14,rfl,hg14,hm14,hb14,hb14b⟩,hc14⟩:=hf.elem hfb
 have hg14n:=hg14.len
 have hm14n:=hm14.len
 have hm14s:=Zam hm14
 refine xIx Tryz.underlying37 ZeU (h:=yL [_,_,_,_,_] ZiR hc14 0 (h:=xAl [_,_,_,_,_] Zoi (h:=fun b15=>xS [_,_,_,_,_] 2 [_,_,_,_,_] ZeU (h:=ZM [_,_,_] rfl (Za (xL [_,_,_,_,_] ZiR 1 (h:=xW ZbB (h:=x1 lk9 2 (h:=xW Zdh (h:=x1 lk9 2 (h:=xR ZtR rfl (Zi3 fa _ _ _ _ fb.owner fb.name _) (h:=Zdz (h:=?_)))))))))))))
 refine Zc rfl (fun g6=>?_) (fun g6=>?_)
 try simp only [sQ,ne_eq] at g6
 refine Za (xA (h:=Zg (Zz (Zm (ZG (Zz (Zm ?_)))))))
 exact Zy .ret (.inl rfl) [_] t1 ⟨rfl,Zd (by simp [ZbZ,Znp hfa0 hfb ((Zif fa fb).1 g6)])⟩
 try simp only [sQ,ne_eq] at g6
 refine Zh (ZR (Ze (Zo (xD (h:=xM (h:=?_))))))
 exact ZH (k+1) [0] so2 ⟨rfl,oz,Zkh hord hfa0 hfb (by rw [← Bool.not_eq_false,← Zif];omega)⟩ t6 rfl
 try simp only [sQ,ne_eq] at g5
 have ho:=Zno (fs:=x.folders) (fun i a b h=>hord i a b oz)
 refine ZL (ZV (ZO (ZA (Ze (Za (Zr (Zce rfl rfl ZtQ rfl (Zgl hJ _ _ _ _ _ _ _ _ x _ hc2 hu hf) ?_)))))))
 intro v17 B17 hle17
 rintro rfl
 replace hu:=hu.mono Zs.mono hle17
 replace hf:=hf.mono Zj.mono hle17
 replace hi:=hi.mono ZB.mono hle17
 replace hc2:=hc2.mono hle17
 replace hr6:=hr6.mono Zj.mono hle17
 refine xM (h:=Zv (d:=57) rfl (fun g7=>?_) (fun g7=>?_))
 try simp only [sQ,ne_eq] at g7
 refine xR ZtP rfl (Zj0 _ _ _ _ _ _ _ _ x _ hc2 hu hf) (h:=xT (h:=xM (h:=Zv (d:=60) rfl (fun g8=>?_) (fun g8=>?_))))
 try simp only [sQ,ne_eq] at g8
 refine xR ZtO rfl (ZiM _ _ _ _ _ _ _ _ x _ hc2 hu hi) (h:=xT (h:=xA (h:=Zg ?_)))
 exact Zy .ret (.inl rfl) [_] t1 ⟨rfl,Zd (by simp [ZbZ,g1,g2,g3,ho,g7,g8];try omega)⟩
 try simp only [sQ,ne_eq] at g8
 refine xP (h:=xF (h:=xA (h:=Zg ?_)))
 exact Zy .ret (.inl rfl) [_] t1 ⟨rfl,Zd (by simp [ZbZ,g1,g2,g3,ho,g7,g8];try omega)⟩
 try simp only [sQ,ne_eq] at g7
 refine xP (h:=xF (h:=xM (h:=xP (h:=xF (h:=xA (h:=Zg ?_))))))
 exact Zy .ret (.inl rfl) [_] t1 ⟨rfl,Zd (by simp [ZbZ,g7])⟩

set_option maxHeartbeats 400000 in
theorem Zm7 (x:DUser) (h1:x.name.length≤140737488355328) (h2:x.pass.length≤140737488355328) (left:Int) (hl0:0≤left) (hl1:left≤1048576) (B:Kn)  : Z3 (pj J) 27 [.agg #[str x.name,str x.pass,.int .i64 x.quota],.int .i64 left] B (.int .i64 (szI left (Zb8 x))):=by
 refine Zb 20 Tryz.func27 rfl rfl rfl (Nat.le_of_ble_eq_true rfl) ?_
 refine Za (xBx [_,_,_] (h:=fun b1=>xA (h:=ZM [_] rfl (Za (xM (h:=xW ZoC (h:=x1 lk9 0 (h:=xVs Tryz.underlying9 (h:=xU (h:=xA (h:=Zi (Za ?_))))))))))))
 refine xM (h:=ZF (h:=Zc rfl (fun g1=>?_) (fun g1=>?_)))
 try simp only [sQ,ne_eq] at g1
 refine Za (xA (h:=Zg (Zm ?_)))
 exact Zy .ret (.inl rfl) [_] t1 ⟨ZC (by first | (unfold szI Zb8;split <;> omega)),rfl,rfl⟩
 try simp only [sQ,ne_eq] at g1
 refine Zh (Ze (Za (xM (h:=xW ZoB (h:=x1 lk9 0 (h:=xVs Tryz.underlying9 (h:=xU (h:=xA (h:=Zi (Za (xM (h:=ZF (h:=?_)))))))))))))
 refine Zc rfl (fun g2=>?_) (fun g2=>?_)
 try simp only [sQ,ne_eq] at g2
 refine Za (xA (h:=Zg (Zm ?_)))
 exact Zy .ret (.inl rfl) [_] t1 ⟨ZC (by first | (unfold szI Zb8;split <;> omega)),rfl,rfl⟩
 try simp only [sQ,ne_eq] at g2
 refine Zh (Ze (Za (xM (h:=xA (h:=Zg ?_)))))
 exact Zy .ret (.inl rfl) [_] t1 ⟨ZC (by first | (unfold szI Zb8;split <;> omega)),rfl,rfl⟩

set_option maxHeartbeats 400000 in
theorem Zlg (x:DGrant) (h1:x.user.length≤140737488355328) (left:Int) (hl0:0≤left) (hl1:left≤1048576) (B:Kn)  : Z3 (pj J) 93 [.agg #[str x.user,.int .i64 x.rights],.int .i64 left] B (.int .i64 (szI left (Zbo x))):=by
 refine Zb 13 Tryz.func93 rfl rfl rfl (Nat.le_of_ble_eq_true rfl) ?_
 refine Za (xBx [_,_] (h:=fun b1=>xA (h:=ZM [_] rfl (Za (xM (h:=xW Zmd (h:=x1 lk9 0 (h:=xVs Tryz.underlying9 (h:=xU (h:=xA (h:=Zi (Za ?_))))))))))))
 refine xM (h:=ZF (h:=Zc rfl (fun g1=>?_) (fun g1=>?_)))
 try simp only [sQ,ne_eq] at g1
 refine Za (xA (h:=Zg (Zm ?_)))
 exact Zy .ret (.inl rfl) [_] t1 ⟨ZC (by first | (unfold szI Zbo;split <;> omega)),rfl,rfl⟩
 try simp only [sQ,ne_eq] at g1
 refine Zh (Ze (Za (xM (h:=xA (h:=Zg ?_)))))
 exact Zy .ret (.inl rfl) [_] t1 ⟨ZC (by first | (unfold szI Zbo;split <;> omega)),rfl,rfl⟩

set_option maxHeartbeats 400000 in
theorem Zm9 (x:DMail) (h1:x.text.length≤140737488355328) (left:Int) (hl0:0≤left) (hl1:left≤1048576) (B:Kn)  : Z3 (pj J) 134 [.agg #[.int .i64 x.uid,.int .i64 x.flags,str x.text],.int .i64 left] B (.int .i64 (szI left (Zb9 x))):=by
 refine Zb 13 Tryz.func134 rfl rfl rfl (Nat.le_of_ble_eq_true rfl) ?_
 refine Za (xBx [_,_,_] (h:=fun b1=>xA (h:=ZM [_] rfl (Za (xM (h:=xW Zmc (h:=x1 lk9 0 (h:=xVs Tryz.underlying9 (h:=xU (h:=xA (h:=Zi (Za ?_))))))))))))
 refine xM (h:=ZF (h:=Zc rfl (fun g1=>?_) (fun g1=>?_)))
 try simp only [sQ,ne_eq] at g1
 refine Za (xA (h:=Zg (Zm ?_)))
 exact Zy .ret (.inl rfl) [_] t1 ⟨ZC (by first | (unfold szI Zb9;split <;> omega)),rfl,rfl⟩
 try simp only [sQ,ne_eq] at g1
 refine Zh (Ze (Za (xM (h:=xA (h:=Zg ?_)))))
 exact Zy .ret (.inl rfl) [_] t1 ⟨ZC (by first | (unfold szI Zb9;split <;> omega)),rfl,rfl⟩

set_option maxRecDepth 4000 in
set_option maxHeartbeats 400000 in
theorem Zm8 (q : Option Addr) (cp : Nat) (xs : List Str) (left : Int) (hl0 : 0 ≤ left) (hl1 : left ≤ 1048576) (B : Kn) (hx : SlB B q cp 1 Zgf xs) : Z3 (pj J) 95 [.slice q xs.length cp, .int .i64 left] B (.int .i64 (szI left (szL List.length xs))) := by
  refine Zb 28 Tryz.func95 rfl rfl rfl (Nat.le_of_ble_eq_true rfl) ?_
  have hxn := hx.len
  refine Za (xA (h:=Za (xM (h:=xM (h:=xV Tryz.underlying81 (h:=xU (h:=xA (h:=Zi (Za (xM (h:=ZF (h:=Zc rfl (fun g1 => ?_) (fun g1 => ?_)))))))))))))
  try simp only [sQ, ne_eq] at g1
  refine Za (xA (h:=Zg (Zm ?_)))
  exact Zy .ret (.inl rfl) [_] ⟨rfl, trivial⟩ ⟨ZC (Zew (by omega)).symm, rfl, rfl⟩
  try simp only [sQ, ne_eq] at g1
  refine Zh (Ze (Zi (Za (xA (h:=Zn (ZD (α := Nat × Int) [0, 11] (fun g => [(1, .int .i64 g.2), (5, .int .i64 g.1)]) [] (fun g => []) (fun g Bx => Bx = B ∧ g.1 ≤ xs.length ∧ g.2 = left - xs.length - ((xs.take g.1).map List.length).sum ∧ 0 ≤ g.2) (fun g => xs.length - g.1) (0, left - ↑xs.length) ⟨rfl, rfl, trivial⟩ rfl (⟨rfl, Nat.zero_le _, by simp, g1⟩) (fun g B1 hle1 hI => ?_)))))))
  obtain ⟨rfl, hk, hs, hl⟩ := hI
  refine ZJ [(0, _), (1, _), (5, _), (11, _)] [] ⟨rfl, rfl, rfl, rfl, trivial⟩ rfl (Zi (Za (xM (h:=xM (h:=xV Tryz.underlying81 (h:=ZF (h:=Zc rfl (fun g2 => ?_) (fun g2 => ?_))))))))
  try simp only [sQ, ne_eq] at g2
  refine Zh (Ze (Zi (Zn (Za (xM (h:=xM (h:=xM (h:=?_))))))))
  obtain ⟨z, hz⟩ := ZU (xs := xs) (i := g.1) (by first | omega | (simp; done) | (simp; omega))
  obtain ⟨bb3, oo3, rfl⟩ := hx.base hz
  obtain ⟨_, ⟨rfl, hb4⟩, hc4⟩ := hx.elem hz
  refine xIx Tryz.underlying81 sz9 (h:=y1 lk9 hc4 0 (h:=xVs Tryz.underlying9 (h:=xU (h:=xA (h:=Za (xM (h:=ZF (h:=Zc rfl (fun g3 => ?_) (fun g3 => ?_)))))))))
  try simp only [sQ, ne_eq] at g3
  refine Za (xA (h:=Zg (Zz (Zm (ZG (Zz (Zm ?_)))))))
  exact Zy .ret (.inl rfl) [_] ⟨rfl, trivial⟩ ⟨ZC (Zeu hz hs (by omega)).symm, rfl, rfl⟩
  try simp only [sQ, ne_eq] at g3
  refine Zh (ZR (Ze (Zo (xM (h:=xD (h:=xA (h:=?_)))))))
  exact ZH (g.1 + 1, g.2 - z.length) [] (by first | omega | (simp only []; omega)) ⟨rfl, by simp only []; omega, by rw [ZcM _ hz, hs]; omega, g3⟩ ⟨rfl, rfl, rfl, rfl, trivial⟩ rfl
  try simp only [sQ, ne_eq] at g2
  refine ZL (ZV (ZO (ZA (Ze (Za (xM (h:=xA (h:=Zg ?_))))))))
  exact Zy .ret (.inl rfl) [_] ⟨rfl, trivial⟩ ⟨ZC (Zev hs hl (by omega)).symm, rfl, rfl⟩

set_option maxRecDepth 4000 in
set_option maxHeartbeats 400000 in
theorem Zlc (q : Option Addr) (cp : Nat) (xs : List DUser) (left : Int) (hl0 : 0 ≤ left) (hl1 : left ≤ 1048576) (B : Kn) (hx : SlB B q cp 3 Zgo xs) : Z3 (pj J) 12 [.slice q xs.length cp, .int .i64 left] B (.int .i64 (szI left (szL Zb8 xs))) := by
  refine Zb 27 Tryz.func12 rfl rfl rfl (Nat.le_of_ble_eq_true rfl) ?_
  have hxn := hx.len
  refine Za (xA (h:=Za (xM (h:=xM (h:=xV Tryz.underlying22 (h:=xU (h:=xA (h:=Zi (Za (xM (h:=ZF (h:=Zc rfl (fun g1 => ?_) (fun g1 => ?_)))))))))))))
  try simp only [sQ, ne_eq] at g1
  refine Za (xA (h:=Zg (Zm ?_)))
  exact Zy .ret (.inl rfl) [_] ⟨rfl, trivial⟩ ⟨ZC (Zew (by omega)).symm, rfl, rfl⟩
  try simp only [sQ, ne_eq] at g1
  refine Zh (Ze (Zi (Za (xA (h:=Zn (ZD (α := Nat × Int) [0, 11] (fun g => [(1, .int .i64 g.2), (5, .int .i64 g.1)]) [] (fun g => []) (fun g Bx => Bx = B ∧ g.1 ≤ xs.length ∧ g.2 = left - xs.length - ((xs.take g.1).map Zb8).sum ∧ 0 ≤ g.2) (fun g => xs.length - g.1) (0, left - ↑xs.length) ⟨rfl, rfl, trivial⟩ rfl (⟨rfl, Nat.zero_le _, by simp, g1⟩) (fun g B1 hle1 hI => ?_)))))))
  obtain ⟨rfl, hk, hs, hl⟩ := hI
  refine ZJ [(0, _), (1, _), (5, _), (11, _)] [] ⟨rfl, rfl, rfl, rfl, trivial⟩ rfl (Zi (Za (xM (h:=xM (h:=xV Tryz.underlying22 (h:=ZF (h:=Zc rfl (fun g2 => ?_) (fun g2 => ?_))))))))
  try simp only [sQ, ne_eq] at g2
  refine Zh (Ze (Zi (Zn (Za (xM (h:=xM (h:=?_)))))))
  obtain ⟨z, hz⟩ := ZU (xs := xs) (i := g.1) (by first | omega | (simp; done) | (simp; omega))
  obtain ⟨bb3, oo3, rfl⟩ := hx.base hz
  obtain ⟨_, ⟨rfl, hb4, hb4b⟩, hc4⟩ := hx.elem hz
  refine xIx Tryz.underlying22 Zsy (h:=yL [_, _, _] ZsF hc4 0 (h:=xM (h:=xR Zt5 rfl (Zm7 z (by first | omega | (simp; done) | (simp; omega)) (by first | omega | (simp; done) | (simp; omega)) g.2 (by first | omega | (simp; done) | (simp; omega)) (by first | omega | (simp; done) | (simp; omega)) _) (h:=?_))))
  refine xA (h:=Za (xM (h:=ZF (h:=Zc rfl (fun g3 => ?_) (fun g3 => ?_)))))
  try simp only [sQ, ne_eq] at g3
  refine Za (xA (h:=Zg (Zz (Zm (ZG (Zz (Zm ?_)))))))
  exact Zy .ret (.inl rfl) [_] ⟨rfl, trivial⟩ ⟨ZC (Zeu hz hs ((Zbn hl).1 g3)).symm, rfl, rfl⟩
  try simp only [sQ, ne_eq] at g3
  refine Zh (ZR (Ze (Zo (xM (h:=xD (h:=xA (h:=?_)))))))
  exact ZH (g.1 + 1, szI g.2 (Zb8 z)) [] (by first | omega | (simp only []; omega)) ⟨rfl, by simp only []; omega, by have := (Zbf hl g3).1; rw [ZcM _ hz]; simp only []; omega, g3⟩ ⟨rfl, rfl, rfl, rfl, trivial⟩ rfl
  try simp only [sQ, ne_eq] at g2
  refine ZL (ZV (ZO (ZA (Ze (Za (xM (h:=xA (h:=Zg ?_))))))))
  exact Zy .ret (.inl rfl) [_] ⟨rfl, trivial⟩ ⟨ZC (Zev hs hl (by omega)).symm, rfl, rfl⟩

set_option maxRecDepth 4000 in
set_option maxHeartbeats 400000 in
theorem Zj4 (q : Option Addr) (cp : Nat) (xs : List DGrant) (left : Int) (hl0 : 0 ≤ left) (hl1 : left ≤ 1048576) (B : Kn) (hx : SlB B q cp 2 ZdK xs) : Z3 (pj J) 54 [.slice q xs.length cp, .int .i64 left] B (.int .i64 (szI left (szL Zbo xs))) := by
  refine Zb 27 Tryz.func54 rfl rfl rfl (Nat.le_of_ble_eq_true rfl) ?_
  have hxn := hx.len
  refine Za (xA (h:=Za (xM (h:=xM (h:=xV Tryz.underlying69 (h:=xU (h:=xA (h:=Zi (Za (xM (h:=ZF (h:=Zc rfl (fun g1 => ?_) (fun g1 => ?_)))))))))))))
  try simp only [sQ, ne_eq] at g1
  refine Za (xA (h:=Zg (Zm ?_)))
  exact Zy .ret (.inl rfl) [_] ⟨rfl, trivial⟩ ⟨ZC (Zew (by omega)).symm, rfl, rfl⟩
  try simp only [sQ, ne_eq] at g1
  refine Zh (Ze (Zi (Za (xA (h:=Zn (ZD (α := Nat × Int) [0, 11] (fun g => [(1, .int .i64 g.2), (5, .int .i64 g.1)]) [] (fun g => []) (fun g Bx => Bx = B ∧ g.1 ≤ xs.length ∧ g.2 = left - xs.length - ((xs.take g.1).map Zbo).sum ∧ 0 ≤ g.2) (fun g => xs.length - g.1) (0, left - ↑xs.length) ⟨rfl, rfl, trivial⟩ rfl (⟨rfl, Nat.zero_le _, by simp, g1⟩) (fun g B1 hle1 hI => ?_)))))))
  obtain ⟨rfl, hk, hs, hl⟩ := hI
  refine ZJ [(0, _), (1, _), (5, _), (11, _)] [] ⟨rfl, rfl, rfl, rfl, trivial⟩ rfl (Zi (Za (xM (h:=xM (h:=xV Tryz.underlying69 (h:=ZF (h:=Zc rfl (fun g2 => ?_) (fun g2 => ?_))))))))
  try simp only [sQ, ne_eq] at g2
  refine Zh (Ze (Zi (Zn (Za (xM (h:=xM (h:=?_)))))))
  obtain ⟨z, hz⟩ := ZU (xs := xs) (i := g.1) (by first | omega | (simp; done) | (simp; omega))
  obtain ⟨bb3, oo3, rfl⟩ := hx.base hz
  obtain ⟨_, ⟨rfl, hb4⟩, hc4⟩ := hx.elem hz
  refine xIx Tryz.underlying69 ZqA (h:=yL [_, _] ZqM hc4 0 (h:=xM (h:=xR Zth rfl (Zlg z (by first | omega | (simp; done) | (simp; omega)) g.2 (by first | omega | (simp; done) | (simp; omega)) (by first | omega | (simp; done) | (simp; omega)) _) (h:=?_))))
  refine xA (h:=Za (xM (h:=ZF (h:=Zc rfl (fun g3 => ?_) (fun g3 => ?_)))))
  try simp only [sQ, ne_eq] at g3
  refine Za (xA (h:=Zg (Zz (Zm (ZG (Zz (Zm ?_)))))))
  exact Zy .ret (.inl rfl) [_] ⟨rfl, trivial⟩ ⟨ZC (Zeu hz hs ((Zbn hl).1 g3)).symm, rfl, rfl⟩
  try simp only [sQ, ne_eq] at g3
  refine Zh (ZR (Ze (Zo (xM (h:=xD (h:=xA (h:=?_)))))))
  exact ZH (g.1 + 1, szI g.2 (Zbo z)) [] (by first | omega | (simp only []; omega)) ⟨rfl, by simp only []; omega, by have := (Zbf hl g3).1; rw [ZcM _ hz]; simp only []; omega, g3⟩ ⟨rfl, rfl, rfl, rfl, trivial⟩ rfl
  try simp only [sQ, ne_eq] at g2
  refine ZL (ZV (ZO (ZA (Ze (Za (xM (h:=xA (h:=Zg ?_))))))))
  exact Zy .ret (.inl rfl) [_] ⟨rfl, trivial⟩ ⟨ZC (Zev hs hl (by omega)).symm, rfl, rfl⟩

set_option maxRecDepth 4000 in
set_option maxHeartbeats 400000 in
theorem Zle (q : Option Addr) (cp : Nat) (xs : List DMail) (left : Int) (hl0 : 0 ≤ left) (hl1 : left ≤ 1048576) (B : Kn) (hx : SlB B q cp 3 ZeO xs) : Z3 (pj J) 94 [.slice q xs.length cp, .int .i64 left] B (.int .i64 (szI left (szL Zb9 xs))) := by
  refine Zb 27 Tryz.func94 rfl rfl rfl (Nat.le_of_ble_eq_true rfl) ?_
  have hxn := hx.len
  refine Za (xA (h:=Za (xM (h:=xM (h:=xV Tryz.underlying70 (h:=xU (h:=xA (h:=Zi (Za (xM (h:=ZF (h:=Zc rfl (fun g1 => ?_) (fun g1 => ?_)))))))))))))
  try simp only [sQ, ne_eq] at g1
  refine Za (xA (h:=Zg (Zm ?_)))
  exact Zy .ret (.inl rfl) [_] ⟨rfl, trivial⟩ ⟨ZC (Zew (by omega)).symm, rfl, rfl⟩
  try simp only [sQ, ne_eq] at g1
  refine Zh (Ze (Zi (Za (xA (h:=Zn (ZD (α := Nat × Int) [0, 11] (fun g => [(1, .int .i64 g.2), (5, .int .i64 g.1)]) [] (fun g => []) (fun g Bx => Bx = B ∧ g.1 ≤ xs.length ∧ g.2 = left - xs.length - ((xs.take g.1).map Zb9).sum ∧ 0 ≤ g.2) (fun g => xs.length - g.1) (0, left - ↑xs.length) ⟨rfl, rfl, trivial⟩ rfl (⟨rfl, Nat.zero_le _, by simp, g1⟩) (fun g B1 hle1 hI => ?_)))))))
  obtain ⟨rfl, hk, hs, hl⟩ := hI
  refine ZJ [(0, _), (1, _), (5, _), (11, _)] [] ⟨rfl, rfl, rfl, rfl, trivial⟩ rfl (Zi (Za (xM (h:=xM (h:=xV Tryz.underlying70 (h:=ZF (h:=Zc rfl (fun g2 => ?_) (fun g2 => ?_))))))))
  try simp only [sQ, ne_eq] at g2
  refine Zh (Ze (Zi (Zn (Za (xM (h:=xM (h:=?_)))))))
  obtain ⟨z, hz⟩ := ZU (xs := xs) (i := g.1) (by first | omega | (simp; done) | (simp; omega))
  obtain ⟨bb3, oo3, rfl⟩ := hx.base hz
  obtain ⟨_, ⟨rfl, hb4⟩, hc4⟩ := hx.elem hz
  refine xIx Tryz.underlying70 Zqy (h:=yL [_, _, _] ZqL hc4 0 (h:=xM (h:=xR Zsd rfl (Zm9 z (by first | omega | (simp; done) | (simp; omega)) g.2 (by first | omega | (simp; done) | (simp; omega)) (by first | omega | (simp; done) | (simp; omega)) _) (h:=?_))))
  refine xA (h:=Za (xM (h:=ZF (h:=Zc rfl (fun g3 => ?_) (fun g3 => ?_)))))
  try simp only [sQ, ne_eq] at g3
  refine Za (xA (h:=Zg (Zz (Zm (ZG (Zz (Zm ?_)))))))
  exact Zy .ret (.inl rfl) [_] ⟨rfl, trivial⟩ ⟨ZC (Zeu hz hs ((Zbn hl).1 g3)).symm, rfl, rfl⟩
  try simp only [sQ, ne_eq] at g3
  refine Zh (ZR (Ze (Zo (xM (h:=xD (h:=xA (h:=?_)))))))
  exact ZH (g.1 + 1, szI g.2 (Zb9 z)) [] (by first | omega | (simp only []; omega)) ⟨rfl, by simp only []; omega, by have := (Zbf hl g3).1; rw [ZcM _ hz]; simp only []; omega, g3⟩ ⟨rfl, rfl, rfl, rfl, trivial⟩ rfl
  try simp only [sQ, ne_eq] at g2
  refine ZL (ZV (ZO (ZA (Ze (Za (xM (h:=xA (h:=Zg ?_))))))))
  exact Zy .ret (.inl rfl) [_] ⟨rfl, trivial⟩ ⟨ZC (Zev hs hl (by omega)).symm, rfl, rfl⟩

set_option maxHeartbeats 400000 in
theorem Zna (q:Option Addr) (cp:Nat) (x:DItem) (h1:x.fr.length≤140737488355328) (h2:x.text.length≤140737488355328) (left:Int) (hl0:0≤left) (hl1:left≤1048576) (B:Kn) (hx:SlB B q cp 1 Zgf x.left):Z3 (pj J) 56 [.agg #[.int .i64 x.id,str x.fr,str x.text,.slice q x.left.length cp],.int .i64 left] B (.int .i64 (szI left (Zbe x))):=by
 refine Zb 26 Tryz.func56 rfl rfl rfl (Nat.le_of_ble_eq_true rfl) ?_
 have hxn:=hx.len
 refine Za (xBx [_,_,_,_] (h:=fun b1=>xA (h:=ZM [_] rfl (Za (xM (h:=xW Zmi (h:=x1 lk9 0 (h:=xVs Tryz.underlying9 (h:=xU (h:=xA (h:=Zi (Za ?_))))))))))))
 refine xM (h:=ZF (h:=Zc rfl (fun g1=>?_) (fun g1=>?_)))
 try simp only [sQ,ne_eq] at g1
 refine Za (xA (h:=Zg (Zm ?_)))
 exact Zy .ret (.inl rfl) [_] t1 ⟨ZC (by rw [Za5 (by unfold Zbe;omega)]),rfl,rfl⟩
 try simp only [sQ,ne_eq] at g1
 refine Zh (Ze (Za (xM (h:=xW Zmh (h:=x1 lk9 0 (h:=xVs Tryz.underlying9 (h:=xU (h:=xA (h:=Zi (Za (xM (h:=ZF (h:=?_)))))))))))))
 refine Zc rfl (fun g2=>?_) (fun g2=>?_)
 try simp only [sQ,ne_eq] at g2
 refine Za (xA (h:=Zg (Zm ?_)))
 exact Zy .ret (.inl rfl) [_] t1 ⟨ZC (by rw [Za5 (by unfold Zbe;omega)]),rfl,rfl⟩
 try simp only [sQ,ne_eq] at g2
 refine Zh (Ze (Za (xW Zmg (h:=x1 ZlO 0 (h:=xM (h:=?_))))))
 have hq2:=Zm8 (J:=J) _ _ x.left ((left - ↑x.fr.length) - ↑x.text.length) om om _ hx
 refine xR Ztf rfl hq2 (h:=xA (h:=Zi (Za (xM (h:=ZF (h:=Zc rfl (fun g3=>?_) (fun g3=>?_)))))))
 try simp only [sQ,ne_eq] at g3
 have g3x:=(Zbn oz).1 g3
 refine Za (xA (h:=Zg (Zm ?_)))
 exact Zy .ret (.inl rfl) [_] t1 ⟨ZC (by rw [Za5 (by unfold Zbe Zea;omega)]),rfl,rfl⟩
 try simp only [sQ,ne_eq] at g3
 have g3x:=Zbf oz g3
 refine Zh (Ze (Za (xM (h:=xA (h:=Zg ?_)))))
 exact Zy .ret (.inl rfl) [_] t1 ⟨ZC (by (try dsimp only at *);rw [Zjt (left:=left) (s:=Zbe x) (by unfold Zbe Zea;omega)];unfold Zbe Zea;omega),rfl,rfl⟩

set_option maxRecDepth 4000 in
set_option maxHeartbeats 400000 in
theorem Zlf (q : Option Addr) (cp : Nat) (xs : List DItem) (left : Int) (hl0 : 0 ≤ left) (hl1 : left ≤ 1048576) (B : Kn) (hx : SlB B q cp 4 ZeP xs) : Z3 (pj J) 29 [.slice q xs.length cp, .int .i64 left] B (.int .i64 (szI left (szL Zbe xs))) := by
  refine Zb 27 Tryz.func29 rfl rfl rfl (Nat.le_of_ble_eq_true rfl) ?_
  have hxn := hx.len
  refine Za (xA (h:=Za (xM (h:=xM (h:=xV Tryz.underlying24 (h:=xU (h:=xA (h:=Zi (Za (xM (h:=ZF (h:=Zc rfl (fun g1 => ?_) (fun g1 => ?_)))))))))))))
  try simp only [sQ, ne_eq] at g1
  refine Za (xA (h:=Zg (Zm ?_)))
  exact Zy .ret (.inl rfl) [_] ⟨rfl, trivial⟩ ⟨ZC (Zew (by omega)).symm, rfl, rfl⟩
  try simp only [sQ, ne_eq] at g1
  refine Zh (Ze (Zi (Za (xA (h:=Zn (ZD (α := Nat × Int) [0, 11] (fun g => [(1, .int .i64 g.2), (5, .int .i64 g.1)]) [] (fun g => []) (fun g Bx => Bx = B ∧ g.1 ≤ xs.length ∧ g.2 = left - xs.length - ((xs.take g.1).map Zbe).sum ∧ 0 ≤ g.2) (fun g => xs.length - g.1) (0, left - ↑xs.length) ⟨rfl, rfl, trivial⟩ rfl (⟨rfl, Nat.zero_le _, by simp, g1⟩) (fun g B1 hle1 hI => ?_)))))))
  obtain ⟨rfl, hk, hs, hl⟩ := hI
  refine ZJ [(0, _), (1, _), (5, _), (11, _)] [] ⟨rfl, rfl, rfl, rfl, trivial⟩ rfl (Zi (Za (xM (h:=xM (h:=xV Tryz.underlying24 (h:=ZF (h:=Zc rfl (fun g2 => ?_) (fun g2 => ?_))))))))
  try simp only [sQ, ne_eq] at g2
  refine Zh (Ze (Zi (Zn (Za (xM (h:=xM (h:=?_)))))))
  obtain ⟨z, hz⟩ := ZU (xs := xs) (i := g.1) (by first | omega | (simp; done) | (simp; omega))
  obtain ⟨bb3, oo3, rfl⟩ := hx.base hz
  obtain ⟨_, ⟨qi4, ci4, rfl, hi4, hb4, hb4b⟩, hc4⟩ := hx.elem hz
  have hi4n := hi4.len
  refine xIx Tryz.underlying24 ZqC (h:=yL [_, _, _, _] ZqO hc4 0 (h:=xM (h:=?_)))
  have hq5 := Zna (J := J) _ _ z (by first | omega | (simp; done) | (simp; omega)) (by first | omega | (simp; done) | (simp; omega)) g.2 (by first | omega | (simp; done) | (simp; omega)) (by first | omega | (simp; done) | (simp; omega)) _ hi4
  refine xR ZtI rfl hq5 (h:=xA (h:=Za (xM (h:=ZF (h:=Zc rfl (fun g3 => ?_) (fun g3 => ?_))))))
  try simp only [sQ, ne_eq] at g3
  refine Za (xA (h:=Zg (Zz (Zm (ZG (Zz (Zm ?_)))))))
  exact Zy .ret (.inl rfl) [_] ⟨rfl, trivial⟩ ⟨ZC (Zeu hz hs ((Zbn hl).1 g3)).symm, rfl, rfl⟩
  try simp only [sQ, ne_eq] at g3
  refine Zh (ZR (Ze (Zo (xM (h:=xD (h:=xA (h:=?_)))))))
  exact ZH (g.1 + 1, szI g.2 (Zbe z)) [] (by first | omega | (simp only []; omega)) ⟨rfl, by simp only []; omega, by have := (Zbf hl g3).1; rw [ZcM _ hz]; simp only []; omega, g3⟩ ⟨rfl, rfl, rfl, rfl, trivial⟩ rfl
  try simp only [sQ, ne_eq] at g2
  refine ZL (ZV (ZO (ZA (Ze (Za (xM (h:=xA (h:=Zg ?_))))))))
  exact Zy .ret (.inl rfl) [_] ⟨rfl, trivial⟩ ⟨ZC (Zev hs hl (by omega)).symm, rfl, rfl⟩

set_option maxHeartbeats 400000 in
theorem Zo3 (q:Option Addr) (cp:Nat) (x:DBox) (left:Int) (hl0:0≤left) (hl1:left≤1048576) (B:Kn) (hx:SlB B q cp 3 ZeO x.mail):Z3 (pj J) 55 [.agg #[.int .i64 x.next,.slice q x.mail.length cp],.int .i64 left] B (.int .i64 (szI left (szL Zb9 x.mail))):=by
 refine Zb 12 Tryz.func55 rfl rfl rfl (Nat.le_of_ble_eq_true rfl) ?_
 have hxn:=hx.len
 refine Za (xBx [_,_] (h:=fun b1=>xA (h:=ZM [_] rfl (Za (xW ZoA (h:=x1 ZsD 0 (h:=xM (h:=?_))))))))
 have hq2:=Zle (J:=J) _ _ x.mail left om om _ hx
 refine xR Ztg rfl hq2 (h:=xA (h:=Zi (Za (xM (h:=ZF (h:=Zc rfl (fun g1=>?_) (fun g1=>?_)))))))
 try simp only [sQ,ne_eq] at g1
 have g1x:=(Zbn oz).1 g1
 refine Za (xA (h:=Zg (Zm ?_)))
 exact Zy .ret (.inl rfl) [_] t1 ⟨ZC (by rw [Za5 g1x]),rfl,rfl⟩
 try simp only [sQ,ne_eq] at g1
 refine Zh (Ze (Za (xM (h:=xA (h:=Zg ?_)))))
 exact Zy .ret (.inl rfl) [_] t1 ⟨rfl,rfl,rfl⟩

set_option maxHeartbeats 400000 in
theorem Zld (q:Option Addr) (cp:Nat) (x:DQueue) (left:Int) (hl0:0≤left) (hl1:left≤1048576) (B:Kn) (hx:SlB B q cp 4 ZeP x.items):Z3 (pj J) 14 [.agg #[.int .i64 x.next,.slice q x.items.length cp],.int .i64 left] B (.int .i64 (szI left (szL Zbe x.items))):=by
 refine Zb 12 Tryz.func14 rfl rfl rfl (Nat.le_of_ble_eq_true rfl) ?_
 have hxn:=hx.len
 refine Za (xBx [_,_] (h:=fun b1=>xA (h:=ZM [_] rfl (Za (xW ZoK (h:=x1 ZsH 0 (h:=xM (h:=?_))))))))
 have hq2:=Zlf (J:=J) _ _ x.items left om om _ hx
 refine xR Zt3 rfl hq2 (h:=xA (h:=Zi (Za (xM (h:=ZF (h:=Zc rfl (fun g1=>?_) (fun g1=>?_)))))))
 try simp only [sQ,ne_eq] at g1
 have g1x:=(Zbn oz).1 g1
 refine Za (xA (h:=Zg (Zm ?_)))
 exact Zy .ret (.inl rfl) [_] t1 ⟨ZC (by rw [Za5 g1x]),rfl,rfl⟩
 try simp only [sQ,ne_eq] at g1
 refine Zh (Ze (Za (xM (h:=xA (h:=Zg ?_)))))
 exact Zy .ret (.inl rfl) [_] t1 ⟨rfl,rfl,rfl⟩

set_option maxHeartbeats 400000 in
theorem Zj5 (qa qb:Option Addr) (ca cb:Nat) (x:DFolder) (h1:x.owner.length≤140737488355328) (h2:x.name.length≤140737488355328) (left:Int) (hl0:0≤left) (hl1:left≤1048576) (B:Kn) (hx:SlB B qa ca 2 ZdK x.grants) (hy:SlB B qb cb 3 ZeO x.mail):Z3 (pj J) 28 [.agg #[str x.owner,str x.name,.slice qa x.grants.length ca,.int .i64 x.next,.slice qb x.mail.length cb],.int .i64 left] B (.int .i64 (szI left (Zaf x))):=by
 refine Zb 32 Tryz.func28 rfl rfl rfl (Nat.le_of_ble_eq_true rfl) ?_
 have hxn:=hx.len
 have hyn:=hy.len
 refine Za (xBx [_,_,_,_,_] (h:=fun b1=>xA (h:=ZM [_] rfl (Za (xM (h:=xW Zoz (h:=x1 lk9 0 (h:=xVs Tryz.underlying9 (h:=xU (h:=xA (h:=Zi (Za ?_))))))))))))
 refine xM (h:=ZF (h:=Zc rfl (fun g1=>?_) (fun g1=>?_)))
 try simp only [sQ,ne_eq] at g1
 refine Za (xA (h:=Zg (Zm ?_)))
 exact Zy .ret (.inl rfl) [_] t1 ⟨ZC (by rw [Za5 (by unfold Zaf;omega)]),rfl,rfl⟩
 try simp only [sQ,ne_eq] at g1
 refine Zh (Ze (Za (xM (h:=xW Zoy (h:=x1 lk9 0 (h:=xVs Tryz.underlying9 (h:=xU (h:=xA (h:=Zi (Za (xM (h:=ZF (h:=?_)))))))))))))
 refine Zc rfl (fun g2=>?_) (fun g2=>?_)
 try simp only [sQ,ne_eq] at g2
 refine Za (xA (h:=Zg (Zm ?_)))
 exact Zy .ret (.inl rfl) [_] t1 ⟨ZC (by rw [Za5 (by unfold Zaf;omega)]),rfl,rfl⟩
 try simp only [sQ,ne_eq] at g2
 refine Zh (Ze (Za (xW Zox (h:=x1 ZsE 0 (h:=xM (h:=?_))))))
 have hq2:=Zj4 (J:=J) _ _ x.grants ((left - ↑x.owner.length) - ↑x.name.length) om om _ hx
 refine xR ZtK rfl hq2 (h:=xA (h:=Zi (Za (xM (h:=ZF (h:=Zc rfl (fun g3=>?_) (fun g3=>?_)))))))
 try simp only [sQ,ne_eq] at g3
 have g3x:=(Zbn oz).1 g3
 refine Za (xA (h:=Zg (Zm ?_)))
 exact Zy .ret (.inl rfl) [_] t1 ⟨ZC (by rw [Za5 (by unfold Zaf;omega)]),rfl,rfl⟩
 try simp only [sQ,ne_eq] at g3
 have g3x:=Zbf oz g3
 refine Zh (Ze (Za (xW Zow (h:=xL [_,_] ZsC 0 (h:=xM (h:=?_))))))
 have hq3:=Zo3 (J:=J) _ _ (⟨x.next,x.mail⟩:DBox) (szI ((left - ↑x.owner.length) - ↑x.name.length) (szL Zbo x.grants)) om om _ hy
 refine xR ZtJ rfl hq3 (h:=xA (h:=Zi (Za (xM (h:=ZF (h:=Zc rfl (fun g4=>?_) (fun g4=>?_)))))))
 try simp only [sQ,ne_eq] at g4
 have g4x:=(Zbn oz).1 g4
 refine Za (xA (h:=Zg (Zm ?_)))
 exact Zy .ret (.inl rfl) [_] t1 ⟨ZC (by rw [Za5 (by unfold Zaf;omega)]),rfl,rfl⟩
 try simp only [sQ,ne_eq] at g4
 have g4x:=Zbf oz g4
 refine Zh (Ze (Za (xM (h:=xA (h:=Zg ?_)))))
 exact Zy .ret (.inl rfl) [_] t1 ⟨ZC (by (try dsimp only at *);rw [Zjt (left:=left) (s:=Zaf x) (by unfold Zaf;omega)];unfold Zaf;omega),rfl,rfl⟩

set_option maxRecDepth 4000 in
set_option maxHeartbeats 400000 in
theorem Ziz (q : Option Addr) (cp : Nat) (xs : List DFolder) (left : Int) (hl0 : 0 ≤ left) (hl1 : left ≤ 1048576) (B : Kn) (hx : SlB B q cp 5 Zcj xs) : Z3 (pj J) 13 [.slice q xs.length cp, .int .i64 left] B (.int .i64 (szI left (szL Zaf xs))) := by
  refine Zb 27 Tryz.func13 rfl rfl rfl (Nat.le_of_ble_eq_true rfl) ?_
  have hxn := hx.len
  refine Za (xA (h:=Za (xM (h:=xM (h:=xV Tryz.underlying23 (h:=xU (h:=xA (h:=Zi (Za (xM (h:=ZF (h:=Zc rfl (fun g1 => ?_) (fun g1 => ?_)))))))))))))
  try simp only [sQ, ne_eq] at g1
  refine Za (xA (h:=Zg (Zm ?_)))
  exact Zy .ret (.inl rfl) [_] ⟨rfl, trivial⟩ ⟨ZC (Zew (by omega)).symm, rfl, rfl⟩
  try simp only [sQ, ne_eq] at g1
  refine Zh (Ze (Zi (Za (xA (h:=Zn (ZD (α := Nat × Int) [0, 11] (fun g => [(1, .int .i64 g.2), (5, .int .i64 g.1)]) [] (fun g => []) (fun g Bx => Bx = B ∧ g.1 ≤ xs.length ∧ g.2 = left - xs.length - ((xs.take g.1).map Zaf).sum ∧ 0 ≤ g.2) (fun g => xs.length - g.1) (0, left - ↑xs.length) ⟨rfl, rfl, trivial⟩ rfl (⟨rfl, Nat.zero_le _, by simp, g1⟩) (fun g B1 hle1 hI => ?_)))))))
  obtain ⟨rfl, hk, hs, hl⟩ := hI
  refine ZJ [(0, _), (1, _), (5, _), (11, _)] [] ⟨rfl, rfl, rfl, rfl, trivial⟩ rfl (Zi (Za (xM (h:=xM (h:=xV Tryz.underlying23 (h:=ZF (h:=Zc rfl (fun g2 => ?_) (fun g2 => ?_))))))))
  try simp only [sQ, ne_eq] at g2
  refine Zh (Ze (Zi (Zn (Za (xM (h:=xM (h:=?_)))))))
  obtain ⟨z, hz⟩ := ZU (xs := xs) (i := g.1) (by first | omega | (simp; done) | (simp; omega))
  obtain ⟨bb3, oo3, rfl⟩ := hx.base hz
  obtain ⟨_, ⟨qg4, cg4, qm4, cm4, rfl, hg4, hm4, hb4, hb4b⟩, hc4⟩ := hx.elem hz
  have hg4n := hg4.len
  have hm4n := hm4.len
  refine xIx Tryz.underlying23 Zsx (h:=yL [_, _, _, _, _] ZsB hc4 0 (h:=xM (h:=?_)))
  have hq5 := Zj5 (J := J) _ _ _ _ z (by first | omega | (simp; done) | (simp; omega)) (by first | omega | (simp; done) | (simp; omega)) g.2 (by first | omega | (simp; done) | (simp; omega)) (by first | omega | (simp; done) | (simp; omega)) _ hg4 hm4
  refine xR Zt4 rfl hq5 (h:=xA (h:=Za (xM (h:=ZF (h:=Zc rfl (fun g3 => ?_) (fun g3 => ?_))))))
  try simp only [sQ, ne_eq] at g3
  refine Za (xA (h:=Zg (Zz (Zm (ZG (Zz (Zm ?_)))))))
  exact Zy .ret (.inl rfl) [_] ⟨rfl, trivial⟩ ⟨ZC (Zeu hz hs ((Zbn hl).1 g3)).symm, rfl, rfl⟩
  try simp only [sQ, ne_eq] at g3
  refine Zh (ZR (Ze (Zo (xM (h:=xD (h:=xA (h:=?_)))))))
  exact ZH (g.1 + 1, szI g.2 (Zaf z)) [] (by first | omega | (simp only []; omega)) ⟨rfl, by simp only []; omega, by have := (Zbf hl g3).1; rw [ZcM _ hz]; simp only []; omega, g3⟩ ⟨rfl, rfl, rfl, rfl, trivial⟩ rfl
  try simp only [sQ, ne_eq] at g2
  refine ZL (ZV (ZO (ZA (Ze (Za (xM (h:=xA (h:=Zg ?_))))))))
  exact Zy .ret (.inl rfl) [_] ⟨rfl, trivial⟩ ⟨ZC (Zev hs hl (by omega)).symm, rfl, rfl⟩

set_option maxHeartbeats 400000 in
theorem Znb (q1 q2 q3:Option Addr) (c1 c2 c3:Nat) (x:DHost) (hd:x.domain.length≤140737488355328) (left:Int) (hl0:0≤left) (hl1:left≤1048576) (B:Kn) (hu:SlB B q1 c1 3 Zgo x.users) (hf:SlB B q2 c2 5 Zcj x.folders) (hi:SlB B q3 c3 4 ZeP x.queue.items):Z3 (pj J) 4 [.agg #[str x.domain,.slice q1 x.users.length c1,.slice q2 x.folders.length c2,.int .i64 x.queue.next,.slice q3 x.queue.items.length c3],.int .i64 left] B (.int .i64 (szI left (Zcp x))):=by
 refine Zb 31 Tryz.func4 rfl rfl rfl (Nat.le_of_ble_eq_true rfl) ?_
 have hun:=hu.len
 have hfn:=hf.len
 have hin:=hi.len
 refine Za (xBx [_,_,_,_,_] (h:=fun b1=>xA (h:=ZM [_] rfl (Za (xM (h:=xW ZoJ (h:=x1 lk9 0 (h:=xVs Tryz.underlying9 (h:=xU (h:=xA (h:=Zi (Za ?_))))))))))))
 refine xM (h:=ZF (h:=Zc rfl (fun g1=>?_) (fun g1=>?_)))
 try simp only [sQ,ne_eq] at g1
 refine Za (xA (h:=Zg (Zm ?_)))
 exact Zy .ret (.inl rfl) [_] t1 ⟨ZC (by rw [Za5 (by unfold Zcp;omega)]),rfl,rfl⟩
 try simp only [sQ,ne_eq] at g1
 refine Zh (Ze (Za (xW ZoI (h:=x1 ZsJ 0 (h:=xM (h:=?_))))))
 have hq2:=Zlc (J:=J) _ _ x.users (left - ↑x.domain.length) om om _ hu
 refine xR Zuj rfl hq2 (h:=xA (h:=Zi (Za (xM (h:=ZF (h:=Zc rfl (fun g2=>?_) (fun g2=>?_)))))))
 try simp only [sQ,ne_eq] at g2
 have g2x:=(Zbn oz).1 g2
 refine Za (xA (h:=Zg (Zm ?_)))
 exact Zy .ret (.inl rfl) [_] t1 ⟨ZC (by rw [Za5 (by unfold Zcp;omega)]),rfl,rfl⟩
 try simp only [sQ,ne_eq] at g2
 have g2x:=Zbf oz g2
 refine Zh (Ze (Za (xW ZoH (h:=x1 ZsI 0 (h:=xM (h:=?_))))))
 have hq3:=Ziz (J:=J) _ _ x.folders (szI (left - ↑x.domain.length) (szL Zb8 x.users)) om om _ hf
 refine xR Zui rfl hq3 (h:=xA (h:=Zi (Za (xM (h:=ZF (h:=Zc rfl (fun g3=>?_) (fun g3=>?_)))))))
 try simp only [sQ,ne_eq] at g3
 have g3x:=(Zbn oz).1 g3
 refine Za (xA (h:=Zg (Zm ?_)))
 exact Zy .ret (.inl rfl) [_] t1 ⟨ZC (by rw [Za5 (by unfold Zcp;omega)]),rfl,rfl⟩
 try simp only [sQ,ne_eq] at g3
 have g3x:=Zbf oz g3
 refine Zh (Ze (Za (xW ZoG (h:=xL [_,_] ZsG 0 (h:=xM (h:=?_))))))
 have hq4:=Zld (J:=J) _ _ (⟨x.queue.next,x.queue.items⟩:DQueue) (szI (szI (left - ↑x.domain.length) (szL Zb8 x.users)) (szL Zaf x.folders)) om om _ hi
 refine xR Zuh rfl hq4 (h:=xA (h:=Zi (Za (xM (h:=ZF (h:=Zc rfl (fun g4=>?_) (fun g4=>?_)))))))
 try simp only [sQ,ne_eq] at g4
 have g4x:=(Zbn oz).1 g4
 refine Za (xA (h:=Zg (Zm ?_)))
 exact Zy .ret (.inl rfl) [_] t1 ⟨ZC (by rw [Za5 (by unfold Zcp;omega)]),rfl,rfl⟩
 try simp only [sQ,ne_eq] at g4
 have g4x:=Zbf oz g4
 refine Zh (Ze (Za (xM (h:=xA (h:=Zg ?_)))))
 exact Zy .ret (.inl rfl) [_] t1 ⟨ZC (by (try dsimp only at *);rw [Zjt (left:=left) (s:=Zcp x) (by unfold Zcp;omega)];unfold Zcp;omega),rfl,rfl⟩

set_option maxHeartbeats 400000 in
theorem Zm3 (x:DUser)  (B:Kn):Z3 (pj J) 38 [.agg #[str x.name,str x.pass,.int .i64 x.quota]] B (.agg #[str x.name,str x.pass,.int .i64 x.quota]):=by
 refine Zb 14 Tryz.func38 rfl rfl rfl (Nat.le_of_ble_eq_true rfl) ?_
 refine Za (xBx [_,_,_] (h:=fun b1=>xAl [_,_,_] ZjY (h:=fun b2=>ZM [_,_] rfl (Za (xAl [_,_,_] ZjY (h:=fun b3=>ZM [_,_,_] rfl (Za (xW ZoC (h:=x1 lk9 0 (h:=xW ZbC (h:=xS [_] 2 [_,_,_] sz9 (h:=ZM [_,_,_] rfl ?_))))))))))))
 refine Za (xW ZoB (h:=x1 lk9 0 (h:=xW Zh8 (h:=xS [_] 2 [_,_,_] sz9 (h:=ZM [_,_,_] rfl (Za (xW ZqU (h:=x1 lk3 0 (h:=xW Ze4 (h:=xS [_] 2 [_,_,_] sz3 (h:=ZM [_,_,_] rfl (Za ?_))))))))))))
 refine xL [_,_,_] Zio 2 (h:=xS [_,_,_] 1 [_,_,_] Zfc (h:=ZM [_,_,_] rfl (Zg ?_)))
 exact Zy .ret (.inl rfl) [_] ⟨⟨_,rfl,.inr ⟨[_,_,_],Zio,Zby 1 rfl rfl rfl,rfl⟩⟩,trivial⟩ ⟨rfl,rfl,rfl⟩

set_option maxHeartbeats 400000 in
theorem Zk9 (x:DGrant)  (B:Kn):Z3 (pj J) 99 [.agg #[str x.user,.int .i64 x.rights]] B (.agg #[str x.user,.int .i64 x.rights]):=by
 refine Zb 11 Tryz.func99 rfl rfl rfl (Nat.le_of_ble_eq_true rfl) ?_
 refine Za (xBx [_,_] (h:=fun b1=>xAl [_,_] ZmU (h:=fun b2=>ZM [_,_] rfl (Za (xAl [_,_] ZmU (h:=fun b3=>ZM [_,_,_] rfl (Za (xW Zmd (h:=x1 lk9 0 (h:=xW ZbH (h:=xS [_] 2 [_,_] sz9 (h:=ZM [_,_,_] rfl ?_))))))))))))
 refine Za (xW ZpE (h:=x1 lk3 0 (h:=xW ZcY (h:=xS [_] 2 [_,_] sz3 (h:=ZM [_,_,_] rfl (Za (xL [_,_] ZlQ 2 (h:=xS [_,_] 1 [_,_] ZdO (h:=ZM [_,_,_] rfl (Zg ?_))))))))))
 exact Zy .ret (.inl rfl) [_] ⟨⟨_,rfl,.inr ⟨[_,_],ZlQ,Zby 1 rfl rfl rfl,rfl⟩⟩,trivial⟩ ⟨rfl,rfl,rfl⟩

set_option maxHeartbeats 400000 in
theorem Zm5 (x:DMail)  (B:Kn):Z3 (pj J) 137 [.agg #[.int .i64 x.uid,.int .i64 x.flags,str x.text]] B (.agg #[.int .i64 x.uid,.int .i64 x.flags,str x.text]):=by
 refine Zb 14 Tryz.func137 rfl rfl rfl (Nat.le_of_ble_eq_true rfl) ?_
 refine Za (xBx [_,_,_] (h:=fun b1=>xAl [_,_,_] ZkQ (h:=fun b2=>ZM [_,_] rfl (Za (xAl [_,_,_] ZkQ (h:=fun b3=>ZM [_,_,_] rfl (Za (xW ZpD (h:=x1 lk3 0 (h:=xW Zcg (h:=xS [_] 2 [_,_,_] sz3 (h:=ZM [_,_,_] rfl ?_))))))))))))
 refine Za (xW ZpC (h:=x1 lk3 0 (h:=xW ZfZ (h:=xS [_] 2 [_,_,_] sz3 (h:=ZM [_,_,_] rfl (Za (xW Zmc (h:=x1 lk9 0 (h:=xW ZdY (h:=xS [_] 2 [_,_,_] sz9 (h:=ZM [_,_,_] rfl (Za ?_))))))))))))
 refine xL [_,_,_] ZhV 2 (h:=xS [_,_,_] 1 [_,_,_] Zex (h:=ZM [_,_,_] rfl (Zg ?_)))
 exact Zy .ret (.inl rfl) [_] ⟨⟨_,rfl,.inr ⟨[_,_,_],ZhV,Zby 1 rfl rfl rfl,rfl⟩⟩,trivial⟩ ⟨rfl,rfl,rfl⟩

set_option maxHeartbeats 400000 in
theorem Zm4 (q:Option Addr) (cp:Nat) (xs:List Str) (hx20:Zea xs≤1048576) (B:Kn) (hx:SlK B q cp 1 Zd4 xs):ZT (pj J) 101 [.slice q xs.length cp] B [] (fun v B' Ls=>∃q c l,v = .slice q xs.length c∧B'=B∧Ls=[l]∧Zap Kn.none l q c 9 1 Zd4 xs):=by
 refine Zb 22 Tryz.func101 rfl rfl rfl (Nat.le_of_ble_eq_true rfl) ?_
 have hxn:=hx.len
 have hx21:=Zo4 hx20
 refine Za (xA (h:=Za (xM (h:=xV Tryz.underlying81 (h:=Zr (Za2 (m:=xs.length) (c:=xs.length) (by_:=16) [.string ⟨#[]⟩] rfl rfl ZrT zo9 rfl rfl ⟨_,_,rfl,by first | omega | (simp;done) | (simp;omega)⟩ ⟨_,_,rfl,by first | omega | (simp;done) | (simp;omega)⟩ om om (fun b1=>?_)))))))
 have hv1:=Zap.zeros (B:=Kn.none) (b:=b1) (T:=9) (R:=Zd4) (d:=([]:Str)) (m:=xs.length) (c:=xs.length) (zs:=[.string ⟨#[]⟩]) rfl (⟨rfl,by simp⟩) om
 refine xA (h:=ZM [_] rfl (Zi (Za (xA (h:=Zn (ZD (α:=Nat × Cells) [0,2] (fun g=>[(3,.slice (some ⟨b1,0,none⟩) xs.length xs.length),(4,.int .i64 g.1)]) [0] (fun g=>[g.2]) (fun g Bx=>Bx=B∧g.1≤xs.length∧Zap Kn.none g.2 (some ⟨b1,0,none⟩) xs.length 9 1 Zd4 (fill xs ([]:Str) g.1)) (fun g=>xs.length - g.1) (0,_) t2 rfl (⟨rfl,Nat.zero_le _,by rw [ZcC];exact hv1⟩) (fun g B2 hle2 hI=>?_)))))))
 obtain ⟨rfl,hk,hvl⟩:=hI
 have hfl:=Zds (d:=([]:Str)) hk
 refine ZJ [(0,_),(2,_),(3,_),(4,_)] [_] t4 rfl (Zi (Za (xM (h:=xM (h:=xV Tryz.underlying81 (h:=ZF (h:=Zc rfl (fun g1=>?_) (fun g1=>?_))))))))
 try simp only [sQ,ne_eq] at g1
 refine Zh (Ze (Zi (Zn (Zo (xM (h:=xM (h:=xM (h:=xM (h:=?_)))))))))
 obtain ⟨z,hz⟩:=ZU (xs:=xs) (i:=g.1) om
 obtain ⟨bb4,oo4,rfl⟩:=hx.base hz
 obtain ⟨_,⟨rfl,hb5⟩,hc5⟩:=hx.elem hz
 refine xIx Tryz.underlying81 sz9 (h:=y1 lk9 hc5 0 (h:=xIp rfl Tryz.underlying81 sz9 (h:=Zr (ZmY (R:=Zd4) (k:=g.1) (z) 0 rfl hvl rfl om rfl rfl sz9 rfl rfl rfl rfl rfl (⟨rfl,by first | assumption | omega | (simp;omega)⟩) (fun l7 hv7=>?_)))))
 refine ZR (Ze (Zo (xM (h:=xD (h:=xA (h:=?_))))))
 exact ZH (g.1+1,l7) [0] so2 ⟨rfl,so,by rw [← ZcD hz];exact hv7⟩ t4 rfl
 try simp only [sQ,ne_eq] at g1
 refine ZL (ZV (ZO (ZA (Ze (Za (xM (h:=xA (h:=Zg ?_))))))))
 exact ZeK .ret (.inl rfl) [_] [0] rfl t1 ⟨_,_,_,rfl,rfl,rfl,by have e:=hvl;rw [Zdt oz] at e;exact e⟩

set_option maxHeartbeats 400000 in
theorem Zk5 (q:Option Addr) (cp:Nat) (xs:List DUser) (hx20:szL Zb8 xs≤1048576) (B:Kn) (hx:SlK B q cp 3 Zs xs):ZT (pj J) 18 [.slice q xs.length cp] B [] (fun v B' Ls=>∃q c l,v = .slice q xs.length c∧B'=B∧Ls=[l]∧Zap Kn.none l q c 79 3 Zs xs):=by
 refine Zb 23 Tryz.func18 rfl rfl rfl (Nat.le_of_ble_eq_true rfl) ?_
 have hxn:=hx.len
 have hx21:=(Zas hx20).1
 refine Za (xA (h:=Za (xM (h:=xV Tryz.underlying22 (h:=Zr (Za2 (m:=xs.length) (c:=xs.length) (by_:=40) [.string ⟨#[]⟩,.string ⟨#[]⟩,.int .i64 0] rfl rfl Zta ZjY rfl rfl ⟨_,_,rfl,by first | omega | (simp;done) | (simp;omega)⟩ ⟨_,_,rfl,by first | omega | (simp;done) | (simp;omega)⟩ om om (fun b1=>?_)))))))
 have hv1:=Zap.zeros (B:=Kn.none) (b:=b1) (T:=79) (R:=Zs) (d:=(⟨[],[],0⟩:DUser)) (m:=xs.length) (c:=xs.length) (zs:=[.string ⟨#[]⟩,.string ⟨#[]⟩,.int .i64 0]) rfl (⟨rfl,by simp,by simp⟩) om
 refine xA (h:=ZM [_] rfl (Zi (Za (xA (h:=Zn (ZD (α:=Nat × Cells) [0,2] (fun g=>[(3,.slice (some ⟨b1,0,none⟩) xs.length xs.length),(4,.int .i64 g.1)]) [0] (fun g=>[g.2]) (fun g Bx=>Bx=B∧g.1≤xs.length∧Zap Kn.none g.2 (some ⟨b1,0,none⟩) xs.length 79 3 Zs (fill xs (⟨[],[],0⟩:DUser) g.1)) (fun g=>xs.length - g.1) (0,_) t2 rfl (⟨rfl,Nat.zero_le _,by rw [ZcC];exact hv1⟩) (fun g B2 hle2 hI=>?_)))))))
 obtain ⟨rfl,hk,hvl⟩:=hI
 have hfl:=Zds (d:=(⟨[],[],0⟩:DUser)) hk
 refine ZJ [(0,_),(2,_),(3,_),(4,_)] [_] t4 rfl (Zi (Za (xM (h:=xM (h:=xV Tryz.underlying22 (h:=ZF (h:=Zc rfl (fun g1=>?_) (fun g1=>?_))))))))
 try simp only [sQ,ne_eq] at g1
 refine Zh (Ze (Zi (Zn (Zo (xM (h:=xM (h:=xM (h:=xM (h:=?_)))))))))
 obtain ⟨z,hz⟩:=ZU (xs:=xs) (i:=g.1) om
 obtain ⟨bb4,oo4,rfl⟩:=hx.base hz
 obtain ⟨_,⟨rfl,hb5,hb5b⟩,hc5⟩:=hx.elem hz
 refine xIx Tryz.underlying22 Zsy (h:=yL [_,_,_] ZsF hc5 0 (h:=xR ZtW rfl (Zm3 z  _) (h:=xIp rfl Tryz.underlying36 Zfc (h:=Zr (ZmY (R:=Zs) (k:=g.1) (z) 0 rfl hvl rfl om rfl rfl Zfc rfl rfl rfl rfl rfl (⟨rfl,by first | assumption | omega | (simp;done) | (simp;omega),by first | assumption | omega | (simp;done) | (simp;omega)⟩) (fun l8 hv8=>?_))))))
 refine ZR (Ze (Zo (xM (h:=xD (h:=xA (h:=?_))))))
 exact ZH (g.1+1,l8) [0] so2 ⟨rfl,so,by rw [← ZcD hz];exact hv8⟩ t4 rfl
 try simp only [sQ,ne_eq] at g1
 refine ZL (ZV (ZO (ZA (Ze (Za (xM (h:=xA (h:=Zg ?_))))))))
 exact ZeK .ret (.inl rfl) [_] [0] rfl t1 ⟨_,_,_,rfl,rfl,rfl,by have e:=hvl;rw [Zdt oz] at e;exact e⟩

set_option maxHeartbeats 400000 in
theorem Zj2 (q:Option Addr) (cp:Nat) (xs:List DGrant) (hx20:szL Zbo xs≤1048576) (B:Kn) (hx:SlK B q cp 2 Zah xs):ZT (pj J) 66 [.slice q xs.length cp] B [] (fun v B' Ls=>∃q c l,v = .slice q xs.length c∧B'=B∧Ls=[l]∧Zap Kn.none l q c 157 2 Zah xs):=by
 refine Zb 23 Tryz.func66 rfl rfl rfl (Nat.le_of_ble_eq_true rfl) ?_
 have hxn:=hx.len
 have hx21:=(Zas hx20).1
 refine Za (xA (h:=Za (xM (h:=xV Tryz.underlying69 (h:=Zr (Za2 (m:=xs.length) (c:=xs.length) (by_:=24) [.string ⟨#[]⟩,.int .i64 0] rfl rfl Zs7 ZmU rfl rfl ⟨_,_,rfl,by first | omega | (simp;done) | (simp;omega)⟩ ⟨_,_,rfl,by first | omega | (simp;done) | (simp;omega)⟩ om om (fun b1=>?_)))))))
 have hv1:=Zap.zeros (B:=Kn.none) (b:=b1) (T:=157) (R:=Zah) (d:=(⟨[],0⟩:DGrant)) (m:=xs.length) (c:=xs.length) (zs:=[.string ⟨#[]⟩,.int .i64 0]) rfl (⟨rfl,by simp⟩) om
 refine xA (h:=ZM [_] rfl (Zi (Za (xA (h:=Zn (ZD (α:=Nat × Cells) [0,2] (fun g=>[(3,.slice (some ⟨b1,0,none⟩) xs.length xs.length),(4,.int .i64 g.1)]) [0] (fun g=>[g.2]) (fun g Bx=>Bx=B∧g.1≤xs.length∧Zap Kn.none g.2 (some ⟨b1,0,none⟩) xs.length 157 2 Zah (fill xs (⟨[],0⟩:DGrant) g.1)) (fun g=>xs.length - g.1) (0,_) t2 rfl (⟨rfl,Nat.zero_le _,by rw [ZcC];exact hv1⟩) (fun g B2 hle2 hI=>?_)))))))
 obtain ⟨rfl,hk,hvl⟩:=hI
 have hfl:=Zds (d:=(⟨[],0⟩:DGrant)) hk
 refine ZJ [(0,_),(2,_),(3,_),(4,_)] [_] t4 rfl (Zi (Za (xM (h:=xM (h:=xV Tryz.underlying69 (h:=ZF (h:=Zc rfl (fun g1=>?_) (fun g1=>?_))))))))
 try simp only [sQ,ne_eq] at g1
 refine Zh (Ze (Zi (Zn (Zo (xM (h:=xM (h:=xM (h:=xM (h:=?_)))))))))
 obtain ⟨z,hz⟩:=ZU (xs:=xs) (i:=g.1) om
 obtain ⟨bb4,oo4,rfl⟩:=hx.base hz
 obtain ⟨_,⟨rfl,hb5⟩,hc5⟩:=hx.elem hz
 refine xIx Tryz.underlying69 ZqA (h:=yL [_,_] ZqM hc5 0 (h:=xR Ztc rfl (Zk9 z  _) (h:=xIp rfl Tryz.underlying87 ZdO (h:=Zr (ZmY (R:=Zah) (k:=g.1) (z) 0 rfl hvl rfl om rfl rfl ZdO rfl rfl rfl rfl rfl (⟨rfl,by first | assumption | omega | (simp;done) | (simp;omega)⟩) (fun l8 hv8=>?_))))))
 refine ZR (Ze (Zo (xM (h:=xD (h:=xA (h:=?_))))))
 exact ZH (g.1+1,l8) [0] so2 ⟨rfl,so,by rw [← ZcD hz];exact hv8⟩ t4 rfl
 try simp only [sQ,ne_eq] at g1
 refine ZL (ZV (ZO (ZA (Ze (Za (xM (h:=xA (h:=Zg ?_))))))))
 exact ZeK .ret (.inl rfl) [_] [0] rfl t1 ⟨_,_,_,rfl,rfl,rfl,by have e:=hvl;rw [Zdt oz] at e;exact e⟩

set_option maxHeartbeats 400000 in
theorem Zk7 (q:Option Addr) (cp:Nat) (xs:List DMail) (hx20:szL Zb9 xs≤1048576) (B:Kn) (hx:SlK B q cp 3 ZaP xs):ZT (pj J) 100 [.slice q xs.length cp] B [] (fun v B' Ls=>∃q c l,v = .slice q xs.length c∧B'=B∧Ls=[l]∧Zap Kn.none l q c 160 3 ZaP xs):=by
 refine Zb 23 Tryz.func100 rfl rfl rfl (Nat.le_of_ble_eq_true rfl) ?_
 have hxn:=hx.len
 have hx21:=(Zas hx20).1
 refine Za (xA (h:=Za (xM (h:=xV Tryz.underlying70 (h:=Zr (Za2 (m:=xs.length) (c:=xs.length) (by_:=32) [.int .i64 0,.int .i64 0,.string ⟨#[]⟩] rfl rfl Zs6 ZkQ rfl rfl ⟨_,_,rfl,by first | omega | (simp;done) | (simp;omega)⟩ ⟨_,_,rfl,by first | omega | (simp;done) | (simp;omega)⟩ om om (fun b1=>?_)))))))
 have hv1:=Zap.zeros (B:=Kn.none) (b:=b1) (T:=160) (R:=ZaP) (d:=(⟨0,0,[]⟩:DMail)) (m:=xs.length) (c:=xs.length) (zs:=[.int .i64 0,.int .i64 0,.string ⟨#[]⟩]) rfl (⟨rfl,by simp⟩) om
 refine xA (h:=ZM [_] rfl (Zi (Za (xA (h:=Zn (ZD (α:=Nat × Cells) [0,2] (fun g=>[(3,.slice (some ⟨b1,0,none⟩) xs.length xs.length),(4,.int .i64 g.1)]) [0] (fun g=>[g.2]) (fun g Bx=>Bx=B∧g.1≤xs.length∧Zap Kn.none g.2 (some ⟨b1,0,none⟩) xs.length 160 3 ZaP (fill xs (⟨0,0,[]⟩:DMail) g.1)) (fun g=>xs.length - g.1) (0,_) t2 rfl (⟨rfl,Nat.zero_le _,by rw [ZcC];exact hv1⟩) (fun g B2 hle2 hI=>?_)))))))
 obtain ⟨rfl,hk,hvl⟩:=hI
 have hfl:=Zds (d:=(⟨0,0,[]⟩:DMail)) hk
 refine ZJ [(0,_),(2,_),(3,_),(4,_)] [_] t4 rfl (Zi (Za (xM (h:=xM (h:=xV Tryz.underlying70 (h:=ZF (h:=Zc rfl (fun g1=>?_) (fun g1=>?_))))))))
 try simp only [sQ,ne_eq] at g1
 refine Zh (Ze (Zi (Zn (Zo (xM (h:=xM (h:=xM (h:=xM (h:=?_)))))))))
 obtain ⟨z,hz⟩:=ZU (xs:=xs) (i:=g.1) om
 obtain ⟨bb4,oo4,rfl⟩:=hx.base hz
 obtain ⟨_,⟨rfl,hb5⟩,hc5⟩:=hx.elem hz
 refine xIx Tryz.underlying70 Zqy (h:=yL [_,_,_] ZqL hc5 0 (h:=xR Zsa rfl (Zm5 z  _) (h:=xIp rfl Tryz.underlying88 Zex (h:=Zr (ZmY (R:=ZaP) (k:=g.1) (z) 0 rfl hvl rfl om rfl rfl Zex rfl rfl rfl rfl rfl (⟨rfl,by first | assumption | omega | (simp;done) | (simp;omega)⟩) (fun l8 hv8=>?_))))))
 refine ZR (Ze (Zo (xM (h:=xD (h:=xA (h:=?_))))))
 exact ZH (g.1+1,l8) [0] so2 ⟨rfl,so,by rw [← ZcD hz];exact hv8⟩ t4 rfl
 try simp only [sQ,ne_eq] at g1
 refine ZL (ZV (ZO (ZA (Ze (Za (xM (h:=xA (h:=Zg ?_))))))))
 exact ZeK .ret (.inl rfl) [_] [0] rfl t1 ⟨_,_,_,rfl,rfl,rfl,by have e:=hvl;rw [Zdt oz] at e;exact e⟩

set_option maxHeartbeats 400000 in
theorem Zm6 (q:Option Addr) (cp:Nat) (x:DItem) (B:Kn) (hx:SlK B q cp 1 Zd4 x.left) (hl:Zea x.left≤1048576):ZT (pj J) 68 [.agg #[.int .i64 x.id,str x.fr,str x.text,.slice q x.left.length cp]] B [] (fun v B' Ls=>∃q0 c0 l0,v = .agg #[.int .i64 x.id,str x.fr,str x.text,.slice q0 x.left.length c0]∧B'=B∧Ls=[l0]∧Zap Kn.none l0 q0 c0 9 1 Zd4 x.left):=by
 refine Zb 18 Tryz.func68 rfl rfl rfl (Nat.le_of_ble_eq_true rfl) ?_
 refine Za (xBx [_,_,_,_] (h:=fun b1=>xAl [_,_,_,_] ZmT (h:=fun b2=>ZM [_,_] rfl (Za (xAl [_,_,_,_] ZmT (h:=fun b3=>ZM [_,_,_] rfl (Za (xW ZpF (h:=x1 lk3 0 (h:=xW ZfW (h:=xS [_] 2 [_,_,_,_] sz3 (h:=ZM [_,_,_] rfl ?_))))))))))))
 refine Za (xW Zmi (h:=x1 lk9 0 (h:=xW ZfV (h:=xS [_] 2 [_,_,_,_] sz9 (h:=ZM [_,_,_] rfl (Za (xW Zmh (h:=x1 lk9 0 (h:=xW Zh7 (h:=xS [_] 2 [_,_,_,_] sz9 (h:=ZM [_,_,_] rfl (Za ?_))))))))))))
 refine xW Zmg (h:=x1 ZlO 0 (h:=Zr (Zal rfl rfl Zsp rfl (Zm4 _ _ x.left om2 _ hx) ?_)))
 rintro _ B4 _ hle4 ⟨q4,c4,l4,rfl,rfl,rfl,hv4⟩
 refine xW ZfU (h:=xS [_] 2 [_,_,_,_] ZsX (h:=ZM [_,_,_,_] rfl (Za (xL [_,_,_,_] ZmS 2 (h:=xS [_,_,_,_] 1 [_,_,_,_] ZhF (h:=ZM [_,_,_,_] rfl (Zg ?_)))))))
 exact ZeK .ret (.inl rfl) [_] [3] rfl ⟨⟨_,rfl,.inr ⟨[_,_,_,_],ZmS,Zby 1 rfl rfl rfl,rfl⟩⟩,trivial⟩ ⟨_,_,_,rfl,rfl,rfl,hv4⟩

set_option maxHeartbeats 400000 in
theorem Zk8 (q:Option Addr) (cp:Nat) (xs:List DItem) (hx20:szL Zbe xs≤1048576) (B:Kn) (hx:SlK B q cp 4 ZB xs):ZT (pj J) 40 [.slice q xs.length cp] B [] (fun v B' Ls=>∃q c l,v = .slice q xs.length c∧B'=B∧Ls=[l]∧ZdI l q c 83 4 (ZbP 9) xs):=by
 refine Zb 23 Tryz.func40 rfl rfl rfl (Nat.le_of_ble_eq_true rfl) ?_
 have hxn:=hx.len
 have hx21:=(Zas hx20).1
 refine Za (xA (h:=Za (xM (h:=xV Tryz.underlying24 (h:=Zr (Za2 (m:=xs.length) (c:=xs.length) (by_:=64) [.int .i64 0,.string ⟨#[]⟩,.string ⟨#[]⟩,.slice none 0 0] rfl rfl Zs8 ZmT rfl rfl ⟨_,_,rfl,by first | omega | (simp;done) | (simp;omega)⟩ ⟨_,_,rfl,by first | omega | (simp;done) | (simp;omega)⟩ om om (fun b1=>?_)))))))
 have hd1:=ZdI.zeros (b:=b1) (T:=83) (R:=ZbP 9) (d:=(⟨0,[],[],[]⟩:DItem)) (m:=xs.length) (c:=xs.length) (zs:=[.int .i64 0,.string ⟨#[]⟩,.string ⟨#[]⟩,.slice none 0 0]) rfl (⟨_,_,rfl,Zap.nil,by simp,by simp,by simp⟩) om
 refine xA (h:=ZM [_] rfl (Zi (Za (xA (h:=Zn (ZD (α:=Nat × Cells) [0,2] (fun g=>[(3,.slice (some ⟨b1,0,none⟩) xs.length xs.length),(4,.int .i64 g.1)]) [0] (fun g=>[g.2]) (fun g Bx=>Bx=B∧g.1≤xs.length∧ZdI g.2 (some ⟨b1,0,none⟩) xs.length 83 4 (ZbP 9) (fill xs (⟨0,[],[],[]⟩:DItem) g.1)) (fun g=>xs.length - g.1) (0,_) t2 rfl (⟨rfl,Nat.zero_le _,by rw [ZcC];exact hd1⟩) (fun g B2 hle2 hI=>?_)))))))
 obtain ⟨rfl,hk,hvl⟩:=hI
 have hfl:=Zds (d:=(⟨0,[],[],[]⟩:DItem)) hk
 refine ZJ [(0,_),(2,_),(3,_),(4,_)] [_] t4 rfl (Zi (Za (xM (h:=xM (h:=xV Tryz.underlying24 (h:=ZF (h:=Zc rfl (fun g1=>?_) (fun g1=>?_))))))))
 try simp only [sQ,ne_eq] at g1
 refine Zh (Ze (Zi (Zn (Zo (xM (h:=xM (h:=xM (h:=xM (h:=?_)))))))))
 obtain ⟨z,hz⟩:=ZU (xs:=xs) (i:=g.1) om
 obtain ⟨bb4,oo4,rfl⟩:=hx.base hz
 obtain ⟨_,⟨qi5,ci5,rfl,hi5,hb5,hb5b⟩,hc5⟩:=hx.elem hz
 have hi5n:=hi5.len
 refine xIx Tryz.underlying24 ZqC (h:=?_)
 have hzz:=(Zas hx20).2 z (List.mem_of_getElem? hz)
 have hza:=Zpu hzz
 refine yL [_,_,_,_] ZqO hc5 0 (h:=Zr (Zal rfl rfl Zty rfl (Zm6 _ _ z _ hi5 om2) ?_))
 rintro _ B6 _ hle6 ⟨q6,c6,l6,rfl,rfl,rfl,hv6⟩
 refine xIp rfl Tryz.underlying38 ZhF (h:=Zr (Zqb (R:=ZbP 9) (k:=g.1) (z) 0 [1] rfl rfl hvl rfl om rfl rfl ZhF rfl rfl rfl rfl rfl (l6) (by simp) (⟨_,_,rfl,hv6,by first | assumption | omega | (simp;done) | (simp;omega),by first | assumption | omega | (simp;done) | (simp;omega),by first | assumption | omega | (simp;done) | (simp;omega)⟩) (fun l8 hd8=>?_)))
 refine ZR (Ze (Zo (xM (h:=xD (h:=xA (h:=?_))))))
 exact ZH (g.1+1,l8) [0] so2 ⟨rfl,so,by rw [← ZcD hz];exact hd8⟩ t4 rfl
 try simp only [sQ,ne_eq] at g1
 refine ZL (ZV (ZO (ZA (Ze (Za (xM (h:=xA (h:=Zg ?_))))))))
 exact ZeK .ret (.inl rfl) [_] [0] rfl t1 ⟨_,_,_,rfl,rfl,rfl,by have e:=hvl;rw [Zdt oz] at e;exact e⟩

set_option maxHeartbeats 400000 in
theorem Zk6 (q:Option Addr) (cp:Nat) (x:DQueue) (B:Kn) (hx:SlK B q cp 4 ZB x.items) (hl:szL Zbe x.items≤1048576):ZT (pj J) 20 [.agg #[.int .i64 x.next,.slice q x.items.length cp]] B [] (fun v B' Ls=>∃q0 c0 l0,v = .agg #[.int .i64 x.next,.slice q0 x.items.length c0]∧B'=B∧Ls=[l0]∧ZdI l0 q0 c0 83 4 (ZbP 9) x.items):=by
 refine Zb 12 Tryz.func20 rfl rfl rfl (Nat.le_of_ble_eq_true rfl) ?_
 refine Za (xBx [_,_] (h:=fun b1=>xAl [_,_] Zsu (h:=fun b2=>ZM [_,_] rfl (Za (xAl [_,_] Zsu (h:=fun b3=>ZM [_,_,_] rfl (Za (xW ZqV (h:=x1 lk3 0 (h:=xW ZfX (h:=xS [_] 2 [_,_] sz3 (h:=ZM [_,_,_] rfl ?_))))))))))))
 refine Za (xW ZoK (h:=x1 ZsH 0 (h:=Zr (Zal rfl rfl ZtU rfl (Zk8 _ _ x.items om2 _ hx) ?_))))
 rintro _ B4 _ hle4 ⟨q4,c4,l4,rfl,rfl,rfl,hv4⟩
 refine xW Zc4 (h:=xS [_] 2 [_,_] ZsY (h:=ZM [_,_,_,_] rfl (Za (xL [_,_] Zp6 2 (h:=xS [_,_] 1 [_,_] Zsz (h:=ZM [_,_,_,_] rfl (Zg ?_)))))))
 exact ZeK .ret (.inl rfl) [_] [3] rfl ⟨⟨_,rfl,.inr ⟨[_,_],Zp6,Zby 1 rfl rfl rfl,rfl⟩⟩,trivial⟩ ⟨_,_,_,rfl,rfl,rfl,hv4⟩

set_option maxHeartbeats 400000 in
theorem Zo2 (q:Option Addr) (cp:Nat) (x:DBox) (B:Kn) (hx:SlK B q cp 3 ZaP x.mail) (hl:szL Zb9 x.mail≤1048576):ZT (pj J) 67 [.agg #[.int .i64 x.next,.slice q x.mail.length cp]] B [] (fun v B' Ls=>∃q0 c0 l0,v = .agg #[.int .i64 x.next,.slice q0 x.mail.length c0]∧B'=B∧Ls=[l0]∧Zap Kn.none l0 q0 c0 160 3 ZaP x.mail):=by
 refine Zb 12 Tryz.func67 rfl rfl rfl (Nat.le_of_ble_eq_true rfl) ?_
 refine Za (xBx [_,_] (h:=fun b1=>xAl [_,_] Zst (h:=fun b2=>ZM [_,_] rfl (Za (xAl [_,_] Zst (h:=fun b3=>ZM [_,_,_] rfl (Za (xW ZqT (h:=x1 lk3 0 (h:=xW ZgK (h:=xS [_] 2 [_,_] sz3 (h:=ZM [_,_,_] rfl ?_))))))))))))
 refine Za (xW ZoA (h:=x1 ZsD 0 (h:=Zr (Zal rfl rfl Zsq rfl (Zk7 _ _ x.mail om2 _ hx) ?_))))
 rintro _ B4 _ hle4 ⟨q4,c4,l4,rfl,rfl,rfl,hv4⟩
 refine xW Zcy (h:=xS [_] 2 [_,_] ZsV (h:=ZM [_,_,_,_] rfl (Za (xL [_,_] ZnA 2 (h:=xS [_,_] 1 [_,_] Zsw (h:=ZM [_,_,_,_] rfl (Zg ?_)))))))
 exact ZeK .ret (.inl rfl) [_] [3] rfl ⟨⟨_,rfl,.inr ⟨[_,_],ZnA,Zby 1 rfl rfl rfl,rfl⟩⟩,trivial⟩ ⟨_,_,_,rfl,rfl,rfl,hv4⟩

set_option maxHeartbeats 400000 in
theorem Zj3 (qa qb:Option Addr) (ca cb:Nat) (x:DFolder) (B:Kn) (hx:SlK B qa ca 2 Zah x.grants) (hy:SlK B qb cb 3 ZaP x.mail) (hl:szL Zbo x.grants≤1048576) (hl2:szL Zb9 x.mail≤1048576):ZT (pj J) 39 [.agg #[str x.owner,str x.name,.slice qa x.grants.length ca,.int .i64 x.next,.slice qb x.mail.length cb]] B [] (fun v B' Ls=>∃q0 c0 l0 q1 c1 l1,v = .agg #[str x.owner,str x.name,.slice q0 x.grants.length c0,.int .i64 x.next,.slice q1 x.mail.length c1]∧B'=B∧Ls=[l0,l1]∧Zap Kn.none l0 q0 c0 157 2 Zah x.grants∧Zap Kn.none l1 q1 c1 160 3 ZaP x.mail):=by
 refine Zb 19 Tryz.func39 rfl rfl rfl (Nat.le_of_ble_eq_true rfl) ?_
 refine Za (xBx [_,_,_,_,_] (h:=fun b1=>xAl [_,_,_,_,_] Zoi (h:=fun b2=>ZM [_,_] rfl (Za (xAl [_,_,_,_,_] Zoi (h:=fun b3=>ZM [_,_,_] rfl (Za (xW Zoz (h:=x1 lk9 0 (h:=xW ZbB (h:=xS [_] 2 [_,_,_,_,_] sz9 (h:=ZM [_,_,_] rfl ?_))))))))))))
 refine Za (xW Zoy (h:=x1 lk9 0 (h:=xW Zdh (h:=xS [_] 2 [_,_,_,_,_] sz9 (h:=ZM [_,_,_] rfl (Za (xW Zox (h:=x1 ZsE 0 (h:=Zr (Zal rfl rfl ZtA rfl (Zj2 _ _ x.grants om2 _ hx) ?_))))))))))
 rintro _ B4 _ hle4 ⟨q4,c4,l4,rfl,rfl,rfl,hv4⟩
 refine xW ZfT (h:=xS [_] 2 [_,_,_,_,_] ZsW (h:=ZM [_,_,_,_] rfl (Za (xW Zow (h:=xL [_,_] ZsC 0 (h:=Zr (Zal rfl rfl Ztz rfl (Zo2 _ _ ⟨x.next,x.mail⟩ _ hy om2) ?_)))))))
 rintro _ B5 _ hle5 ⟨q5,c5,l5,rfl,rfl,rfl,hv5⟩
 refine xW ZfS (h:=xS [_,_] 2 [_,_,_,_,_] Zsw (h:=ZM [_,_,_,_,_] rfl (Za (xL [_,_,_,_,_] ZiR 2 (h:=xS [_,_,_,_,_] 1 [_,_,_,_,_] ZeU (h:=ZM [_,_,_,_,_] rfl (Zg ?_)))))))
 exact ZeK .ret (.inl rfl) [_] [3,4] rfl ⟨⟨_,rfl,.inr ⟨[_,_,_,_,_],ZiR,Zby 1 rfl rfl rfl,rfl⟩⟩,trivial⟩ ⟨_,_,_,_,_,_,rfl,rfl,rfl,hv4,hv5⟩

set_option maxHeartbeats 400000 in
theorem Zix (q:Option Addr) (cp:Nat) (xs:List DFolder) (hx20:szL Zaf xs≤1048576) (B:Kn) (hx:SlK B q cp 5 Zj xs):ZT (pj J) 19 [.slice q xs.length cp] B [] (fun v B' Ls=>∃q c l,v = .slice q xs.length c∧B'=B∧Ls=[l]∧ZdI l q c 92 5 (Zar 157 160) xs):=by
 refine Zb 23 Tryz.func19 rfl rfl rfl (Nat.le_of_ble_eq_true rfl) ?_
 have hxn:=hx.len
 have hx21:=(Zas hx20).1
 refine Za (xA (h:=Za (xM (h:=xV Tryz.underlying23 (h:=Zr (Za2 (m:=xs.length) (c:=xs.length) (by_:=88) [.string ⟨#[]⟩,.string ⟨#[]⟩,.slice none 0 0,.int .i64 0,.slice none 0 0] rfl rfl Zs9 Zoi rfl rfl ⟨_,_,rfl,by first | omega | (simp;done) | (simp;omega)⟩ ⟨_,_,rfl,by first | omega | (simp;done) | (simp;omega)⟩ om om (fun b1=>?_)))))))
 have hd1:=ZdI.zeros (b:=b1) (T:=92) (R:=(Zar 157 160)) (d:=(⟨[],[],[],0,[]⟩:DFolder)) (m:=xs.length) (c:=xs.length) (zs:=[.string ⟨#[]⟩,.string ⟨#[]⟩,.slice none 0 0,.int .i64 0,.slice none 0 0]) rfl (⟨_,_,_,_,[],[],rfl,rfl,Zap.nil,Zap.nil,by simp,by simp,by simp,by simp⟩) om
 refine xA (h:=ZM [_] rfl (Zi (Za (xA (h:=Zn (ZD (α:=Nat × Cells) [0,2] (fun g=>[(3,.slice (some ⟨b1,0,none⟩) xs.length xs.length),(4,.int .i64 g.1)]) [0] (fun g=>[g.2]) (fun g Bx=>Bx=B∧g.1≤xs.length∧ZdI g.2 (some ⟨b1,0,none⟩) xs.length 92 5 (Zar 157 160) (fill xs (⟨[],[],[],0,[]⟩:DFolder) g.1)) (fun g=>xs.length - g.1) (0,_) t2 rfl (⟨rfl,Nat.zero_le _,by rw [ZcC];exact hd1⟩) (fun g B2 hle2 hI=>?_)))))))
 obtain ⟨rfl,hk,hvl⟩:=hI
 have hfl:=Zds (d:=(⟨[],[],[],0,[]⟩:DFolder)) hk
 refine ZJ [(0,_),(2,_),(3,_),(4,_)] [_] t4 rfl (Zi (Za (xM (h:=xM (h:=xV Tryz.underlying23 (h:=ZF (h:=Zc rfl (fun g1=>?_) (fun g1=>?_))))))))
 try simp only [sQ,ne_eq] at g1
 refine Zh (Ze (Zi (Zn (Zo (xM (h:=xM (h:=xM (h:=xM (h:=?_)))))))))
 obtain ⟨z,hz⟩:=ZU (xs:=xs) (i:=g.1) om
 obtain ⟨bb4,oo4,rfl⟩:=hx.base hz
 obtain ⟨_,⟨qg5,cg5,qm5,cm5,rfl,hg5,hm5,hb5,hb5b⟩,hc5⟩:=hx.elem hz
 have hg5n:=hg5.len
 have hm5n:=hm5.len
 have hm5s:=Zam hm5
 refine xIx Tryz.underlying23 Zsx (h:=?_)
 have hzz:=(Zas hx20).2 z (List.mem_of_getElem? hz)
 have hza:=Zl9 hzz
 refine yL [_,_,_,_,_] ZsB hc5 0 (h:=Zr (Zal rfl rfl ZtV rfl (Zj3 _ _ _ _ z _ hg5 hm5 om2 om2) ?_))
 rintro _ B6 _ hle6 ⟨q6,c6,l6,q6b,c6b,l6b,rfl,rfl,rfl,hv6,hv6b⟩
 refine xIp rfl Tryz.underlying37 ZeU (h:=Zr (Zqb (R:=(Zar 157 160)) (k:=g.1) (z) 0 [1,2] rfl rfl hvl rfl om rfl rfl ZeU rfl rfl rfl rfl rfl (l6 ++ l6b) (by simp) (⟨_,_,_,_,_,_,rfl,rfl,(hv6.anyK Zah.any),(hv6b.anyK ZaP.any),by first | assumption | omega | (simp;done) | (simp;omega),by first | assumption | omega | (simp;done) | (simp;omega),by first | assumption | omega | (simp;done) | (simp;omega),by first | assumption | omega | (simp;done) | (simp;omega)⟩) (fun l8 hd8=>?_)))
 refine ZR (Ze (Zo (xM (h:=xD (h:=xA (h:=?_))))))
 exact ZH (g.1+1,l8) [0] so2 ⟨rfl,so,by rw [← ZcD hz];exact hd8⟩ t4 rfl
 try simp only [sQ,ne_eq] at g1
 refine ZL (ZV (ZO (ZA (Ze (Za (xM (h:=xA (h:=Zg ?_))))))))
 exact ZeK .ret (.inl rfl) [_] [0] rfl t1 ⟨_,_,_,rfl,rfl,rfl,by have e:=hvl;rw [Zdt oz] at e;exact e⟩

set_option maxHeartbeats 400000 in
theorem ZaG (q1 q2 q3:Option Addr) (c1 c2 c3:Nat) (x:DHost) (B:Kn) (hu:SlK B q1 c1 3 Zs x.users) (hf:SlK B q2 c2 5 Zj x.folders) (hi:SlK B q3 c3 4 ZB x.queue.items) (hsz:Zcp x≤1048576):ZT (pj J) 7 [.agg #[str x.domain,.slice q1 x.users.length c1,.slice q2 x.folders.length c2,.int .i64 x.queue.next,.slice q3 x.queue.items.length c3]] B [] (fun v B' Ls=>∃q0 c0 l0 q1 c1 l1 q2 c2 l2,v = .agg #[str x.domain,.slice q0 x.users.length c0,.slice q1 x.folders.length c1,.int .i64 x.queue.next,.slice q2 x.queue.items.length c2]∧B'=B∧Ls=[l0,l1,l2]∧Zap Kn.none l0 q0 c0 79 3 Zs x.users∧ZdI l1 q1 c1 92 5 (Zar 157 160) x.folders∧ZdI l2 q2 c2 83 4 (ZbP 9) x.queue.items):=by
 refine Zb 20 Tryz.func7 rfl rfl rfl (Nat.le_of_ble_eq_true rfl) ?_
 have hsz2:=Zl1 hsz
 refine Za (xBx [_,_,_,_,_] (h:=fun b1=>xAl [_,_,_,_,_] Zp4 (h:=fun b2=>ZM [_,_] rfl (Za (xAl [_,_,_,_,_] Zp4 (h:=fun b3=>ZM [_,_,_] rfl (Za (xW ZoJ (h:=x1 lk9 0 (h:=xW Zh9 (h:=xS [_] 2 [_,_,_,_,_] sz9 (h:=ZM [_,_,_] rfl ?_))))))))))))
 refine Za (xW ZoI (h:=x1 ZsJ 0 (h:=Zr (Zal rfl rfl Zue rfl (Zk5 _ _ x.users om2 _ hu) ?_))))
 rintro _ B4 _ hle4 ⟨q4,c4,l4,rfl,rfl,rfl,hv4⟩
 refine xW ZbK (h:=xS [_] 2 [_,_,_,_,_] Zs0 (h:=ZM [_,_,_,_] rfl (Za (xW ZoH (h:=x1 ZsI 0 (h:=Zr (Zal rfl rfl Zud rfl (Zix _ _ x.folders om2 _ hf) ?_)))))))
 rintro _ B5 _ hle5 ⟨q5,c5,l5,rfl,rfl,rfl,hv5⟩
 refine xW ZaA (h:=xS [_] 2 [_,_,_,_,_] ZsZ (h:=ZM [_,_,_,_,_] rfl (Za (xW ZoG (h:=xL [_,_] ZsG 0 (h:=Zr (Zal rfl rfl Zuc rfl (Zk6 _ _ ⟨x.queue.next,x.queue.items⟩ _ hi om2) ?_)))))))
 rintro _ B6 _ hle6 ⟨q6,c6,l6,rfl,rfl,rfl,hv6⟩
 refine xW Ze5 (h:=xS [_,_] 2 [_,_,_,_,_] Zsz (h:=ZM [_,_,_,_,_,_] rfl (Za (xL [_,_,_,_,_] Zfg 2 (h:=xS [_,_,_,_,_] 1 [_,_,_,_,_] Zqw (h:=ZM [_,_,_,_,_,_] rfl (Zg ?_)))))))
 exact ZeK .ret (.inl rfl) [_] [3,4,5] rfl ⟨⟨_,rfl,.inr ⟨[_,_,_,_,_],Zfg,Zby 1 rfl rfl rfl,rfl⟩⟩,trivial⟩ ⟨_,_,_,_,_,_,_,_,_,rfl,rfl,rfl,hv4,hv5,hv6⟩

set_option maxHeartbeats 400000 in
theorem ZnT   (a b:DUser) (B:Kn)   : Z3 (pj J) 51 [.agg #[str a.name,str a.pass,.int .i64 a.quota],.agg #[str b.name,str b.pass,.int .i64 b.quota]] B (.bool (decide (a=b))):=by
 refine Zb 20 Tryz.func51 rfl rfl rfl (Nat.le_of_ble_eq_true rfl) ?_
 refine Za (xBx [_,_,_] (h:=fun b1=>xBx [_,_,_] (h:=fun b2=>xA (h:=ZM [_,_] rfl (Zi (Za (xW ZbC (h:=x1 lk9 0 (h:=xW ZbC (h:=x1 lk9 1 (h:=Zcn (h:=Zc rfl (fun g1=>?_) (fun g1=>?_)))))))))))))
 try simp only [sQ,ne_eq] at g1
 refine Za (xA (h:=Zg (Zm ?_)))
 exact Zy .ret (.inl rfl) [_] t1 ⟨Zd (by symm;rw [decide_eq_false_iff_not];rintro rfl;exact g1 rfl),rfl,rfl⟩
 try simp only [sQ,ne_eq] at g1
 refine Zh (Ze (Zi (Za (xW Zh8 (h:=x1 lk9 0 (h:=xW Zh8 (h:=x1 lk9 1 (h:=Zcn (h:=Zc rfl (fun g2=>?_) (fun g2=>?_))))))))))
 try simp only [sQ,ne_eq] at g2
 refine Za (xA (h:=Zg (Zm ?_)))
 exact Zy .ret (.inl rfl) [_] t1 ⟨Zd (by symm;rw [decide_eq_false_iff_not];rintro rfl;exact g2 rfl),rfl,rfl⟩
 try simp only [sQ,ne_eq] at g2
 refine Zh (Ze (Zi (Za (xW Ze4 (h:=x1 lk3 0 (h:=xW Ze4 (h:=x1 lk3 1 (h:=Zax (h:=Zc rfl (fun g3=>?_) (fun g3=>?_))))))))))
 try simp only [sQ,ne_eq] at g3
 refine Za (xA (h:=Zg (Zm ?_)))
 exact Zy .ret (.inl rfl) [_] t1 ⟨Zd (by symm;rw [decide_eq_false_iff_not];rintro rfl;exact g3 rfl),rfl,rfl⟩
 try simp only [sQ,ne_eq] at g3
 refine Zh (Ze (Za (xA (h:=Zg ?_))))
 exact Zy .ret (.inl rfl) [_] t1 ⟨Zd (by symm;rw [decide_eq_true_eq];cases a;cases b;simp_all),rfl,rfl⟩

set_option maxHeartbeats 400000 in
theorem Zmu   (a b:DGrant) (B:Kn)   : Z3 (pj J) 131 [.agg #[str a.user,.int .i64 a.rights],.agg #[str b.user,.int .i64 b.rights]] B (.bool (decide (a=b))):=by
 refine Zb 15 Tryz.func131 rfl rfl rfl (Nat.le_of_ble_eq_true rfl) ?_
 refine Za (xBx [_,_] (h:=fun b1=>xBx [_,_] (h:=fun b2=>xA (h:=ZM [_,_] rfl (Zi (Za (xW ZbH (h:=x1 lk9 0 (h:=xW ZbH (h:=x1 lk9 1 (h:=Zcn (h:=Zc rfl (fun g1=>?_) (fun g1=>?_)))))))))))))
 try simp only [sQ,ne_eq] at g1
 refine Za (xA (h:=Zg (Zm ?_)))
 exact Zy .ret (.inl rfl) [_] t1 ⟨Zd (by symm;rw [decide_eq_false_iff_not];rintro rfl;exact g1 rfl),rfl,rfl⟩
 try simp only [sQ,ne_eq] at g1
 refine Zh (Ze (Zi (Za (xW ZcY (h:=x1 lk3 0 (h:=xW ZcY (h:=x1 lk3 1 (h:=Zax (h:=Zc rfl (fun g2=>?_) (fun g2=>?_))))))))))
 try simp only [sQ,ne_eq] at g2
 refine Za (xA (h:=Zg (Zm ?_)))
 exact Zy .ret (.inl rfl) [_] t1 ⟨Zd (by symm;rw [decide_eq_false_iff_not];rintro rfl;exact g2 rfl),rfl,rfl⟩
 try simp only [sQ,ne_eq] at g2
 refine Zh (Ze (Za (xA (h:=Zg ?_))))
 exact Zy .ret (.inl rfl) [_] t1 ⟨Zd (by symm;rw [decide_eq_true_eq];cases a;cases b;simp_all),rfl,rfl⟩

set_option maxHeartbeats 400000 in
theorem ZnU   (a b:DMail) (B:Kn)   : Z3 (pj J) 153 [.agg #[.int .i64 a.uid,.int .i64 a.flags,str a.text],.agg #[.int .i64 b.uid,.int .i64 b.flags,str b.text]] B (.bool (decide (a=b))):=by
 refine Zb 20 Tryz.func153 rfl rfl rfl (Nat.le_of_ble_eq_true rfl) ?_
 refine Za (xBx [_,_,_] (h:=fun b1=>xBx [_,_,_] (h:=fun b2=>xA (h:=ZM [_,_] rfl (Zi (Za (xW Zcg (h:=x1 lk3 0 (h:=xW Zcg (h:=x1 lk3 1 (h:=Zax (h:=Zc rfl (fun g1=>?_) (fun g1=>?_)))))))))))))
 try simp only [sQ,ne_eq] at g1
 refine Za (xA (h:=Zg (Zm ?_)))
 exact Zy .ret (.inl rfl) [_] t1 ⟨Zd (by symm;rw [decide_eq_false_iff_not];rintro rfl;exact g1 rfl),rfl,rfl⟩
 try simp only [sQ,ne_eq] at g1
 refine Zh (Ze (Zi (Za (xW ZfZ (h:=x1 lk3 0 (h:=xW ZfZ (h:=x1 lk3 1 (h:=Zax (h:=Zc rfl (fun g2=>?_) (fun g2=>?_))))))))))
 try simp only [sQ,ne_eq] at g2
 refine Za (xA (h:=Zg (Zm ?_)))
 exact Zy .ret (.inl rfl) [_] t1 ⟨Zd (by symm;rw [decide_eq_false_iff_not];rintro rfl;exact g2 rfl),rfl,rfl⟩
 try simp only [sQ,ne_eq] at g2
 refine Zh (Ze (Zi (Za (xW ZdY (h:=x1 lk9 0 (h:=xW ZdY (h:=x1 lk9 1 (h:=Zcn (h:=Zc rfl (fun g3=>?_) (fun g3=>?_))))))))))
 try simp only [sQ,ne_eq] at g3
 refine Za (xA (h:=Zg (Zm ?_)))
 exact Zy .ret (.inl rfl) [_] t1 ⟨Zd (by symm;rw [decide_eq_false_iff_not];rintro rfl;exact g3 rfl),rfl,rfl⟩
 try simp only [sQ,ne_eq] at g3
 refine Zh (Ze (Za (xA (h:=Zg ?_))))
 exact Zy .ret (.inl rfl) [_] t1 ⟨Zd (by symm;rw [decide_eq_true_eq];cases a;cases b;simp_all),rfl,rfl⟩

set_option maxHeartbeats 400000 in
theorem Zmq (q q':Option Addr) (cp cp':Nat) (xs ys:List DUser) (B:Kn) (ha:SlK B q cp 3 Zs xs) (hb:SlK B q' cp' 3 Zs ys):Z3 (pj J) 24 [.slice q xs.length cp,.slice q' ys.length cp'] B (.bool (decide (xs=ys))):=by
 refine Zb 27 Tryz.func24 rfl rfl rfl (Nat.le_of_ble_eq_true rfl) ?_
 have han:=ha.len
 have hbn:=hb.len
 refine Za (xA (h:=Zi (Za (xM (h:=xV Tryz.underlying36 (h:=xM (h:=xV Tryz.underlying36 (h:=Zax (h:=Zc rfl (fun g1=>?_) (fun g1=>?_))))))))))
 try simp only [sQ,ne_eq] at g1
 refine Za (xA (h:=Zg (Zm ?_)))
 exact Zy .ret (.inl rfl) [_] t1 ⟨Zd (ZeJ g1),rfl,rfl⟩
 try simp only [sQ,ne_eq] at g1
 refine Zh (Ze (Zi (Za (xA (h:=Zn (ZD (α:=Nat) [0,1,10] (fun k=>[(5,.int .i64 k)]) [] (fun k=>[]) (fun k Bx=>Bx=B∧k≤xs.length∧xs.take k=ys.take k) (fun k=>xs.length - k) 0 t1 rfl (⟨rfl,Nat.zero_le _,by simp⟩) (fun k B1 hle1 hI=>?_)))))))
 obtain ⟨rfl,hk,he⟩:=hI
 refine ZJ [(0,_),(1,_),(5,_),(10,_)] [] t4 rfl (Zi (Za (xM (h:=xM (h:=xV Tryz.underlying36 (h:=ZF (h:=Zc rfl (fun g2=>?_) (fun g2=>?_))))))))
 try simp only [sQ,ne_eq] at g2
 refine Zh (Ze (Zi (Zn (Zi (Z2 (same _ _) mo kr ⟨rfl,rfl⟩ (fun _ _=>?_))))))
 refine aM 0 rfl (h:=aM 1 rfl (h:=?_))
 obtain ⟨x,hx⟩:=ZU (xs:=xs) (i:=k) om
 obtain ⟨bb3,oo3,rfl⟩:=ha.base hx
 obtain ⟨_,⟨rfl,hb4,hb4b⟩,hc4⟩:=ha.elem hx
 refine aIx 2 rfl Tryz.underlying36 Zfc (h:=aT 3 rfl (Z5 fun D=>ZK [_,_,_] rfl rfl Zio rfl (Zka hc4 0 rfl rfl) r4) (h:=aM 4 rfl (h:=aM 5 rfl (h:=?_))))
 obtain ⟨y,hy⟩:=ZU (xs:=ys) (i:=k) om
 obtain ⟨bb6,oo6,rfl⟩:=hb.base hy
 obtain ⟨_,⟨rfl,hb7,hb7b⟩,hc7⟩:=hb.elem hy
 refine aIx 6 rfl Tryz.underlying36 Zfc (h:=aT 7 rfl (Z5 fun D=>ZK [_,_,_] rfl rfl Zio rfl (Zka hc7 0 rfl rfl) r4) (h:=aT 8 rfl (Z5 fun D=>ZQ rfl rfl ZtN rfl (ZnT x y _ ) r4) (h:=aN 9 rfl (h:=Zt kr kr ?_))))
 refine Ze (Zc rfl (fun g3=>?_) (fun g3=>?_))
 try simp only [sQ,ne_eq] at g3
 refine Za (xA (h:=Zg (Zz (Zm (ZG (Zz (Zm ?_)))))))
 exact Zy .ret (.inl rfl) [_] t1 ⟨Zd (Zdv hx hy g3),rfl,rfl⟩
 try simp only [sQ,ne_eq] at g3
 refine Zh (ZR (Ze (Zo (xM (h:=xD (h:=xA (h:=?_)))))))
 exact ZH (k+1) [] so2 ⟨rfl,oz,Za7 hx hy g3 he⟩ t4 rfl
 try simp only [sQ,ne_eq] at g2
 refine ZL (ZV (ZO (ZA (Ze (Za (xA (h:=Zg ?_)))))))
 exact Zy .ret (.inl rfl) [_] t1 ⟨Zd (eqT oz oz he),rfl,rfl⟩

set_option maxHeartbeats 400000 in
theorem ZkB (q q':Option Addr) (cp cp':Nat) (xs ys:List DGrant) (B:Kn) (ha:SlK B q cp 2 Zah xs) (hb:SlK B q' cp' 2 Zah ys):Z3 (pj J) 90 [.slice q xs.length cp,.slice q' ys.length cp'] B (.bool (decide (xs=ys))):=by
 refine Zb 27 Tryz.func90 rfl rfl rfl (Nat.le_of_ble_eq_true rfl) ?_
 have han:=ha.len
 have hbn:=hb.len
 refine Za (xA (h:=Zi (Za (xM (h:=xV Tryz.underlying87 (h:=xM (h:=xV Tryz.underlying87 (h:=Zax (h:=Zc rfl (fun g1=>?_) (fun g1=>?_))))))))))
 try simp only [sQ,ne_eq] at g1
 refine Za (xA (h:=Zg (Zm ?_)))
 exact Zy .ret (.inl rfl) [_] t1 ⟨Zd (ZeJ g1),rfl,rfl⟩
 try simp only [sQ,ne_eq] at g1
 refine Zh (Ze (Zi (Za (xA (h:=Zn (ZD (α:=Nat) [0,1,10] (fun k=>[(5,.int .i64 k)]) [] (fun k=>[]) (fun k Bx=>Bx=B∧k≤xs.length∧xs.take k=ys.take k) (fun k=>xs.length - k) 0 t1 rfl (⟨rfl,Nat.zero_le _,by simp⟩) (fun k B1 hle1 hI=>?_)))))))
 obtain ⟨rfl,hk,he⟩:=hI
 refine ZJ [(0,_),(1,_),(5,_),(10,_)] [] t4 rfl (Zi (Za (xM (h:=xM (h:=xV Tryz.underlying87 (h:=ZF (h:=Zc rfl (fun g2=>?_) (fun g2=>?_))))))))
 try simp only [sQ,ne_eq] at g2
 refine Zh (Ze (Zi (Zn (Zi (Z2 (same _ _) mo kr ⟨rfl,rfl⟩ (fun _ _=>?_))))))
 refine aM 0 rfl (h:=aM 1 rfl (h:=?_))
 obtain ⟨x,hx⟩:=ZU (xs:=xs) (i:=k) om
 obtain ⟨bb3,oo3,rfl⟩:=ha.base hx
 obtain ⟨_,⟨rfl,hb4⟩,hc4⟩:=ha.elem hx
 refine aIx 2 rfl Tryz.underlying87 ZdO (h:=aT 3 rfl (Z5 fun D=>ZK [_,_] rfl rfl ZlQ rfl (Zka hc4 0 rfl rfl) r4) (h:=aM 4 rfl (h:=aM 5 rfl (h:=?_))))
 obtain ⟨y,hy⟩:=ZU (xs:=ys) (i:=k) om
 obtain ⟨bb6,oo6,rfl⟩:=hb.base hy
 obtain ⟨_,⟨rfl,hb7⟩,hc7⟩:=hb.elem hy
 refine aIx 6 rfl Tryz.underlying87 ZdO (h:=aT 7 rfl (Z5 fun D=>ZK [_,_] rfl rfl ZlQ rfl (Zka hc7 0 rfl rfl) r4) (h:=aT 8 rfl (Z5 fun D=>ZQ rfl rfl Zsg rfl (Zmu x y _ ) r4) (h:=aN 9 rfl (h:=Zt kr kr ?_))))
 refine Ze (Zc rfl (fun g3=>?_) (fun g3=>?_))
 try simp only [sQ,ne_eq] at g3
 refine Za (xA (h:=Zg (Zz (Zm (ZG (Zz (Zm ?_)))))))
 exact Zy .ret (.inl rfl) [_] t1 ⟨Zd (Zdv hx hy g3),rfl,rfl⟩
 try simp only [sQ,ne_eq] at g3
 refine Zh (ZR (Ze (Zo (xM (h:=xD (h:=xA (h:=?_)))))))
 exact ZH (k+1) [] so2 ⟨rfl,oz,Za7 hx hy g3 he⟩ t4 rfl
 try simp only [sQ,ne_eq] at g2
 refine ZL (ZV (ZO (ZA (Ze (Za (xA (h:=Zg ?_)))))))
 exact Zy .ret (.inl rfl) [_] t1 ⟨Zd (eqT oz oz he),rfl,rfl⟩

set_option maxHeartbeats 400000 in
theorem Zms (q q':Option Addr) (cp cp':Nat) (xs ys:List DMail) (B:Kn) (ha:SlK B q cp 3 ZaP xs) (hb:SlK B q' cp' 3 ZaP ys):Z3 (pj J) 132 [.slice q xs.length cp,.slice q' ys.length cp'] B (.bool (decide (xs=ys))):=by
 refine Zb 27 Tryz.func132 rfl rfl rfl (Nat.le_of_ble_eq_true rfl) ?_
 have han:=ha.len
 have hbn:=hb.len
 refine Za (xA (h:=Zi (Za (xM (h:=xV Tryz.underlying88 (h:=xM (h:=xV Tryz.underlying88 (h:=Zax (h:=Zc rfl (fun g1=>?_) (fun g1=>?_))))))))))
 try simp only [sQ,ne_eq] at g1
 refine Za (xA (h:=Zg (Zm ?_)))
 exact Zy .ret (.inl rfl) [_] t1 ⟨Zd (ZeJ g1),rfl,rfl⟩
 try simp only [sQ,ne_eq] at g1
 refine Zh (Ze (Zi (Za (xA (h:=Zn (ZD (α:=Nat) [0,1,10] (fun k=>[(5,.int .i64 k)]) [] (fun k=>[]) (fun k Bx=>Bx=B∧k≤xs.length∧xs.take k=ys.take k) (fun k=>xs.length - k) 0 t1 rfl (⟨rfl,Nat.zero_le _,by simp⟩) (fun k B1 hle1 hI=>?_)))))))
 obtain ⟨rfl,hk,he⟩:=hI
 refine ZJ [(0,_),(1,_),(5,_),(10,_)] [] t4 rfl (Zi (Za (xM (h:=xM (h:=xV Tryz.underlying88 (h:=ZF (h:=Zc rfl (fun g2=>?_) (fun g2=>?_))))))))
 try simp only [sQ,ne_eq] at g2
 refine Zh (Ze (Zi (Zn (Zi (Z2 (same _ _) mo kr ⟨rfl,rfl⟩ (fun _ _=>?_))))))
 refine aM 0 rfl (h:=aM 1 rfl (h:=?_))
 obtain ⟨x,hx⟩:=ZU (xs:=xs) (i:=k) om
 obtain ⟨bb3,oo3,rfl⟩:=ha.base hx
 obtain ⟨_,⟨rfl,hb4⟩,hc4⟩:=ha.elem hx
 refine aIx 2 rfl Tryz.underlying88 Zex (h:=aT 3 rfl (Z5 fun D=>ZK [_,_,_] rfl rfl ZhV rfl (Zka hc4 0 rfl rfl) r4) (h:=aM 4 rfl (h:=aM 5 rfl (h:=?_))))
 obtain ⟨y,hy⟩:=ZU (xs:=ys) (i:=k) om
 obtain ⟨bb6,oo6,rfl⟩:=hb.base hy
 obtain ⟨_,⟨rfl,hb7⟩,hc7⟩:=hb.elem hy
 refine aIx 6 rfl Tryz.underlying88 Zex (h:=aT 7 rfl (Z5 fun D=>ZK [_,_,_] rfl rfl ZhV rfl (Zka hc7 0 rfl rfl) r4) (h:=aT 8 rfl (Z5 fun D=>ZQ rfl rfl Zr0 rfl (ZnU x y _ ) r4) (h:=aN 9 rfl (h:=Zt kr kr ?_))))
 refine Ze (Zc rfl (fun g3=>?_) (fun g3=>?_))
 try simp only [sQ,ne_eq] at g3
 refine Za (xA (h:=Zg (Zz (Zm (ZG (Zz (Zm ?_)))))))
 exact Zy .ret (.inl rfl) [_] t1 ⟨Zd (Zdv hx hy g3),rfl,rfl⟩
 try simp only [sQ,ne_eq] at g3
 refine Zh (ZR (Ze (Zo (xM (h:=xD (h:=xA (h:=?_)))))))
 exact ZH (k+1) [] so2 ⟨rfl,oz,Za7 hx hy g3 he⟩ t4 rfl
 try simp only [sQ,ne_eq] at g2
 refine ZL (ZV (ZO (ZA (Ze (Za (xA (h:=Zg ?_)))))))
 exact Zy .ret (.inl rfl) [_] t1 ⟨Zd (eqT oz oz he),rfl,rfl⟩

set_option maxHeartbeats 400000 in
theorem ZnV (q1:Option Addr) (cp1:Nat) (q2:Option Addr) (cp2:Nat) (a b:DItem) (B:Kn) (h1:SlK B q1 cp1 1 Zd4 a.left) (h2:SlK B q2 cp2 1 Zd4 b.left):Z3 (pj J) 92 [.agg #[.int .i64 a.id,str a.fr,str a.text,.slice q1 a.left.length cp1],.agg #[.int .i64 b.id,str b.fr,str b.text,.slice q2 b.left.length cp2]] B (.bool (decide (a=b))):=by
 refine Zb 26 Tryz.func92 rfl rfl rfl (Nat.le_of_ble_eq_true rfl) ?_
 refine Za (xBx [_,_,_,_] (h:=fun b1=>xBx [_,_,_,_] (h:=fun b2=>xA (h:=ZM [_,_] rfl (Zi (Za (xW ZfW (h:=x1 lk3 0 (h:=xW ZfW (h:=x1 lk3 1 (h:=Zax (h:=Zc rfl (fun g1=>?_) (fun g1=>?_)))))))))))))
 try simp only [sQ,ne_eq] at g1
 refine Za (xA (h:=Zg (Zm ?_)))
 exact Zy .ret (.inl rfl) [_] t1 ⟨Zd (by symm;rw [decide_eq_false_iff_not];rintro rfl;exact g1 rfl),rfl,rfl⟩
 try simp only [sQ,ne_eq] at g1
 refine Zh (Ze (Zi (Za (xW ZfV (h:=x1 lk9 0 (h:=xW ZfV (h:=x1 lk9 1 (h:=Zcn (h:=Zc rfl (fun g2=>?_) (fun g2=>?_))))))))))
 try simp only [sQ,ne_eq] at g2
 refine Za (xA (h:=Zg (Zm ?_)))
 exact Zy .ret (.inl rfl) [_] t1 ⟨Zd (by symm;rw [decide_eq_false_iff_not];rintro rfl;exact g2 rfl),rfl,rfl⟩
 try simp only [sQ,ne_eq] at g2
 refine Zh (Ze (Zi (Za (xW Zh7 (h:=x1 lk9 0 (h:=xW Zh7 (h:=x1 lk9 1 (h:=Zcn (h:=Zc rfl (fun g3=>?_) (fun g3=>?_))))))))))
 try simp only [sQ,ne_eq] at g3
 refine Za (xA (h:=Zg (Zm ?_)))
 exact Zy .ret (.inl rfl) [_] t1 ⟨Zd (by symm;rw [decide_eq_false_iff_not];rintro rfl;exact g3 rfl),rfl,rfl⟩
 try simp only [sQ,ne_eq] at g3
 refine Zh (Ze (Zi (Za (xW ZfU (h:=x1 ZlO 0 (h:=xW ZfU (h:=x1 ZlO 1 (h:=xR Zse rfl (Zi6 _ _ _ _ _ _ _ h1 h2) (h:=xN (h:=Zc rfl (fun g4=>?_) (fun g4=>?_)))))))))))
 try simp only [sQ,ne_eq] at g4
 refine Za (xA (h:=Zg (Zm ?_)))
 exact Zy .ret (.inl rfl) [_] t1 ⟨Zd (by symm;rw [decide_eq_false_iff_not];rintro rfl;exact g4 rfl),rfl,rfl⟩
 try simp only [sQ,ne_eq] at g4
 refine Zh (Ze (Za (xA (h:=Zg ?_))))
 exact Zy .ret (.inl rfl) [_] t1 ⟨Zd (by symm;rw [decide_eq_true_eq];cases a;cases b;simp_all),rfl,rfl⟩

set_option maxHeartbeats 400000 in
theorem Zmt (q q':Option Addr) (cp cp':Nat) (xs ys:List DItem) (B:Kn) (ha:SlK B q cp 4 ZB xs) (hb:SlK B q' cp' 4 ZB ys):Z3 (pj J) 53 [.slice q xs.length cp,.slice q' ys.length cp'] B (.bool (decide (xs=ys))):=by
 refine Zb 27 Tryz.func53 rfl rfl rfl (Nat.le_of_ble_eq_true rfl) ?_
 have han:=ha.len
 have hbn:=hb.len
 refine Za (xA (h:=Zi (Za (xM (h:=xV Tryz.underlying38 (h:=xM (h:=xV Tryz.underlying38 (h:=Zax (h:=Zc rfl (fun g1=>?_) (fun g1=>?_))))))))))
 try simp only [sQ,ne_eq] at g1
 refine Za (xA (h:=Zg (Zm ?_)))
 exact Zy .ret (.inl rfl) [_] t1 ⟨Zd (ZeJ g1),rfl,rfl⟩
 try simp only [sQ,ne_eq] at g1
 refine Zh (Ze (Zi (Za (xA (h:=Zn (ZD (α:=Nat) [0,1,10] (fun k=>[(5,.int .i64 k)]) [] (fun k=>[]) (fun k Bx=>Bx=B∧k≤xs.length∧xs.take k=ys.take k) (fun k=>xs.length - k) 0 t1 rfl (⟨rfl,Nat.zero_le _,by simp⟩) (fun k B1 hle1 hI=>?_)))))))
 obtain ⟨rfl,hk,he⟩:=hI
 refine ZJ [(0,_),(1,_),(5,_),(10,_)] [] t4 rfl (Zi (Za (xM (h:=xM (h:=xV Tryz.underlying38 (h:=ZF (h:=Zc rfl (fun g2=>?_) (fun g2=>?_))))))))
 try simp only [sQ,ne_eq] at g2
 refine Zh (Ze (Zi (Zn (Zi (Z2 (same _ _) mo kr ⟨rfl,rfl⟩ (fun _ _=>?_))))))
 refine aM 0 rfl (h:=aM 1 rfl (h:=?_))
 obtain ⟨x,hx⟩:=ZU (xs:=xs) (i:=k) om
 obtain ⟨bb3,oo3,rfl⟩:=ha.base hx
 obtain ⟨_,⟨qi4,ci4,rfl,hi4,hb4,hb4b⟩,hc4⟩:=ha.elem hx
 have hi4n:=hi4.len
 refine aIx 2 rfl Tryz.underlying38 ZhF (h:=aT 3 rfl (Z5 fun D=>ZK [_,_,_,_] rfl rfl ZmS rfl (Zka hc4 0 rfl rfl) r4) (h:=aM 4 rfl (h:=aM 5 rfl (h:=?_))))
 obtain ⟨y,hy⟩:=ZU (xs:=ys) (i:=k) om
 obtain ⟨bb6,oo6,rfl⟩:=hb.base hy
 obtain ⟨_,⟨qi7,ci7,rfl,hi7,hb7,hb7b⟩,hc7⟩:=hb.elem hy
 have hi7n:=hi7.len
 refine aIx 6 rfl Tryz.underlying38 ZhF (h:=aT 7 rfl (Z5 fun D=>ZK [_,_,_,_] rfl rfl ZmS rfl (Zka hc7 0 rfl rfl) r4) (h:=aT 8 rfl (Z5 fun D=>ZQ rfl rfl Zti rfl (ZnV _ _ _ _ x y _ hi4 hi7) r4) (h:=aN 9 rfl (h:=Zt kr kr ?_))))
 refine Ze (Zc rfl (fun g3=>?_) (fun g3=>?_))
 try simp only [sQ,ne_eq] at g3
 refine Za (xA (h:=Zg (Zz (Zm (ZG (Zz (Zm ?_)))))))
 exact Zy .ret (.inl rfl) [_] t1 ⟨Zd (Zdv hx hy g3),rfl,rfl⟩
 try simp only [sQ,ne_eq] at g3
 refine Zh (ZR (Ze (Zo (xM (h:=xD (h:=xA (h:=?_)))))))
 exact ZH (k+1) [] so2 ⟨rfl,oz,Za7 hx hy g3 he⟩ t4 rfl
 try simp only [sQ,ne_eq] at g2
 refine ZL (ZV (ZO (ZA (Ze (Za (xA (h:=Zg ?_)))))))
 exact Zy .ret (.inl rfl) [_] t1 ⟨Zd (eqT oz oz he),rfl,rfl⟩

set_option maxHeartbeats 400000 in
theorem Zmr (q1:Option Addr) (cp1:Nat) (q2:Option Addr) (cp2:Nat) (a b:DQueue) (B:Kn) (h1:SlK B q1 cp1 4 ZB a.items) (h2:SlK B q2 cp2 4 ZB b.items):Z3 (pj J) 26 [.agg #[.int .i64 a.next,.slice q1 a.items.length cp1],.agg #[.int .i64 b.next,.slice q2 b.items.length cp2]] B (.bool (decide (a=b))):=by
 refine Zb 16 Tryz.func26 rfl rfl rfl (Nat.le_of_ble_eq_true rfl) ?_
 refine Za (xBx [_,_] (h:=fun b1=>xBx [_,_] (h:=fun b2=>xA (h:=ZM [_,_] rfl (Zi (Za (xW ZfX (h:=x1 lk3 0 (h:=xW ZfX (h:=x1 lk3 1 (h:=Zax (h:=Zc rfl (fun g1=>?_) (fun g1=>?_)))))))))))))
 try simp only [sQ,ne_eq] at g1
 refine Za (xA (h:=Zg (Zm ?_)))
 exact Zy .ret (.inl rfl) [_] t1 ⟨Zd (by symm;rw [decide_eq_false_iff_not];rintro rfl;exact g1 rfl),rfl,rfl⟩
 try simp only [sQ,ne_eq] at g1
 refine Zh (Ze (Zi (Za (xW Zc4 (h:=x1 ZlP 0 (h:=xW Zc4 (h:=x1 ZlP 1 (h:=xR ZtL rfl (Zmt _ _ _ _ _ _ _ h1 h2) (h:=xN (h:=Zc rfl (fun g2=>?_) (fun g2=>?_)))))))))))
 try simp only [sQ,ne_eq] at g2
 refine Za (xA (h:=Zg (Zm ?_)))
 exact Zy .ret (.inl rfl) [_] t1 ⟨Zd (by symm;rw [decide_eq_false_iff_not];rintro rfl;exact g2 rfl),rfl,rfl⟩
 try simp only [sQ,ne_eq] at g2
 refine Zh (Ze (Za (xA (h:=Zg ?_))))
 exact Zy .ret (.inl rfl) [_] t1 ⟨Zd (by symm;rw [decide_eq_true_eq];cases a;cases b;simp_all),rfl,rfl⟩

set_option maxHeartbeats 400000 in
theorem ZpN (q1:Option Addr) (cp1:Nat) (q2:Option Addr) (cp2:Nat) (a b:DBox) (B:Kn) (h1:SlK B q1 cp1 3 ZaP a.mail) (h2:SlK B q2 cp2 3 ZaP b.mail):Z3 (pj J) 91 [.agg #[.int .i64 a.next,.slice q1 a.mail.length cp1],.agg #[.int .i64 b.next,.slice q2 b.mail.length cp2]] B (.bool (decide (a=b))):=by
 refine Zb 16 Tryz.func91 rfl rfl rfl (Nat.le_of_ble_eq_true rfl) ?_
 refine Za (xBx [_,_] (h:=fun b1=>xBx [_,_] (h:=fun b2=>xA (h:=ZM [_,_] rfl (Zi (Za (xW ZgK (h:=x1 lk3 0 (h:=xW ZgK (h:=x1 lk3 1 (h:=Zax (h:=Zc rfl (fun g1=>?_) (fun g1=>?_)))))))))))))
 try simp only [sQ,ne_eq] at g1
 refine Za (xA (h:=Zg (Zm ?_)))
 exact Zy .ret (.inl rfl) [_] t1 ⟨Zd (by symm;rw [decide_eq_false_iff_not];rintro rfl;exact g1 rfl),rfl,rfl⟩
 try simp only [sQ,ne_eq] at g1
 refine Zh (Ze (Zi (Za (xW Zcy (h:=x1 ZkN 0 (h:=xW Zcy (h:=x1 ZkN 1 (h:=xR Zsf rfl (Zms _ _ _ _ _ _ _ h1 h2) (h:=xN (h:=Zc rfl (fun g2=>?_) (fun g2=>?_)))))))))))
 try simp only [sQ,ne_eq] at g2
 refine Za (xA (h:=Zg (Zm ?_)))
 exact Zy .ret (.inl rfl) [_] t1 ⟨Zd (by symm;rw [decide_eq_false_iff_not];rintro rfl;exact g2 rfl),rfl,rfl⟩
 try simp only [sQ,ne_eq] at g2
 refine Zh (Ze (Za (xA (h:=Zg ?_))))
 exact Zy .ret (.inl rfl) [_] t1 ⟨Zd (by symm;rw [decide_eq_true_eq];cases a;cases b;simp_all),rfl,rfl⟩

set_option maxHeartbeats 400000 in
theorem ZkC (qa1 qb1:Option Addr) (ca1 cb1:Nat) (qa2 qb2:Option Addr) (ca2 cb2:Nat) (a b:DFolder) (B:Kn) (hg1:SlK B qa1 ca1 2 Zah a.grants) (hm1:SlK B qb1 cb1 3 ZaP a.mail) (hg2:SlK B qa2 ca2 2 Zah b.grants) (hm2:SlK B qb2 cb2 3 ZaP b.mail):Z3 (pj J) 52 [.agg #[str a.owner,str a.name,.slice qa1 a.grants.length ca1,.int .i64 a.next,.slice qb1 a.mail.length cb1],.agg #[str b.owner,str b.name,.slice qa2 b.grants.length ca2,.int .i64 b.next,.slice qb2 b.mail.length cb2]] B (.bool (decide (a=b))):=by
 refine Zb 27 Tryz.func52 rfl rfl rfl (Nat.le_of_ble_eq_true rfl) ?_
 refine Za (xBx [_,_,_,_,_] (h:=fun b1=>xBx [_,_,_,_,_] (h:=fun b2=>xA (h:=ZM [_,_] rfl (Zi (Za (xW ZbB (h:=x1 lk9 0 (h:=xW ZbB (h:=x1 lk9 1 (h:=Zcn (h:=Zc rfl (fun g1=>?_) (fun g1=>?_)))))))))))))
 try simp only [sQ,ne_eq] at g1
 refine Za (xA (h:=Zg (Zm ?_)))
 exact Zy .ret (.inl rfl) [_] t1 ⟨Zd (by symm;rw [decide_eq_false_iff_not];rintro rfl;exact g1 rfl),rfl,rfl⟩
 try simp only [sQ,ne_eq] at g1
 refine Zh (Ze (Zi (Za (xW Zdh (h:=x1 lk9 0 (h:=xW Zdh (h:=x1 lk9 1 (h:=Zcn (h:=Zc rfl (fun g2=>?_) (fun g2=>?_))))))))))
 try simp only [sQ,ne_eq] at g2
 refine Za (xA (h:=Zg (Zm ?_)))
 exact Zy .ret (.inl rfl) [_] t1 ⟨Zd (by symm;rw [decide_eq_false_iff_not];rintro rfl;exact g2 rfl),rfl,rfl⟩
 try simp only [sQ,ne_eq] at g2
 refine Zh (Ze (Zi (Za (xW ZfT (h:=x1 Zp5 0 (h:=xW ZfT (h:=x1 Zp5 1 (h:=xR Ztk rfl (ZkB _ _ _ _ _ _ _ hg1 hg2) (h:=xN (h:=Zc rfl (fun g3=>?_) (fun g3=>?_)))))))))))
 try simp only [sQ,ne_eq] at g3
 refine Za (xA (h:=Zg (Zm ?_)))
 exact Zy .ret (.inl rfl) [_] t1 ⟨Zd (by symm;rw [decide_eq_false_iff_not];rintro rfl;exact g3 rfl),rfl,rfl⟩
 try simp only [sQ,ne_eq] at g3
 refine Zh (Ze (Zi (Za (xW ZfS (h:=xL [_,_] ZnA 0 (h:=xW ZfS (h:=xL [_,_] ZnA 1 (h:=xR Ztj rfl (ZpN _ _ _ _ (⟨a.next,a.mail⟩:DBox) (⟨b.next,b.mail⟩:DBox) _ hm1 hm2) (h:=xN (h:=Zc rfl (fun g4=>?_) (fun g4=>?_)))))))))))
 try simp only [sQ,ne_eq] at g4
 refine Za (xA (h:=Zg (Zm ?_)))
 exact Zy .ret (.inl rfl) [_] t1 ⟨Zd (by symm;rw [decide_eq_false_iff_not];rintro rfl;exact g4 rfl),rfl,rfl⟩
 try simp only [sQ,ne_eq] at g4
 refine Zh (Ze (Za (xA (h:=Zg ?_))))
 exact Zy .ret (.inl rfl) [_] t1 ⟨Zd (by symm;rw [decide_eq_true_eq];cases a;cases b;simp_all),rfl,rfl⟩

set_option maxHeartbeats 400000 in
theorem Zi7 (q q':Option Addr) (cp cp':Nat) (xs ys:List DFolder) (B:Kn) (ha:SlK B q cp 5 Zj xs) (hb:SlK B q' cp' 5 Zj ys):Z3 (pj J) 25 [.slice q xs.length cp,.slice q' ys.length cp'] B (.bool (decide (xs=ys))):=by
 refine Zb 27 Tryz.func25 rfl rfl rfl (Nat.le_of_ble_eq_true rfl) ?_
 have han:=ha.len
 have hbn:=hb.len
 refine Za (xA (h:=Zi (Za (xM (h:=xV Tryz.underlying37 (h:=xM (h:=xV Tryz.underlying37 (h:=Zax (h:=Zc rfl (fun g1=>?_) (fun g1=>?_))))))))))
 try simp only [sQ,ne_eq] at g1
 refine Za (xA (h:=Zg (Zm ?_)))
 exact Zy .ret (.inl rfl) [_] t1 ⟨Zd (ZeJ g1),rfl,rfl⟩
 try simp only [sQ,ne_eq] at g1
 refine Zh (Ze (Zi (Za (xA (h:=Zn (ZD (α:=Nat) [0,1,10] (fun k=>[(5,.int .i64 k)]) [] (fun k=>[]) (fun k Bx=>Bx=B∧k≤xs.length∧xs.take k=ys.take k) (fun k=>xs.length - k) 0 t1 rfl (⟨rfl,Nat.zero_le _,by simp⟩) (fun k B1 hle1 hI=>?_)))))))
 obtain ⟨rfl,hk,he⟩:=hI
 refine ZJ [(0,_),(1,_),(5,_),(10,_)] [] t4 rfl (Zi (Za (xM (h:=xM (h:=xV Tryz.underlying37 (h:=ZF (h:=Zc rfl (fun g2=>?_) (fun g2=>?_))))))))
 try simp only [sQ,ne_eq] at g2
 refine Zh (Ze (Zi (Zn (Zi (Z2 (same _ _) mo kr ⟨rfl,rfl⟩ (fun _ _=>?_))))))
 refine aM 0 rfl (h:=aM 1 rfl (h:=?_))
 obtain ⟨x,hx⟩:=ZU (xs:=xs) (i:=k) om
 obtain ⟨bb3,oo3,rfl⟩:=ha.base hx
 obtain ⟨_,⟨qg4,cg4,qm4,cm4,rfl,hg4,hm4,hb4,hb4b⟩,hc4⟩:=ha.elem hx
 have hg4n:=hg4.len
 have hm4n:=hm4.len
 have hm4s:=Zam hm4
 refine aIx 2 rfl Tryz.underlying37 ZeU (h:=aT 3 rfl (Z5 fun D=>ZK [_,_,_,_,_] rfl rfl ZiR rfl (Zka hc4 0 rfl rfl) r4) (h:=aM 4 rfl (h:=aM 5 rfl (h:=?_))))
 obtain ⟨y,hy⟩:=ZU (xs:=ys) (i:=k) om
 obtain ⟨bb6,oo6,rfl⟩:=hb.base hy
 obtain ⟨_,⟨qg7,cg7,qm7,cm7,rfl,hg7,hm7,hb7,hb7b⟩,hc7⟩:=hb.elem hy
 have hg7n:=hg7.len
 have hm7n:=hm7.len
 have hm7s:=Zam hm7
 refine aIx 6 rfl Tryz.underlying37 ZeU (h:=aT 7 rfl (Z5 fun D=>ZK [_,_,_,_,_] rfl rfl ZiR rfl (Zka hc7 0 rfl rfl) r4) (h:=aT 8 rfl (Z5 fun D=>ZQ rfl rfl ZtM rfl (ZkC _ _ _ _ _ _ _ _ x y _ hg4 hm4 hg7 hm7) r4) (h:=aN 9 rfl (h:=Zt kr kr ?_))))
 refine Ze (Zc rfl (fun g3=>?_) (fun g3=>?_))
 try simp only [sQ,ne_eq] at g3
 refine Za (xA (h:=Zg (Zz (Zm (ZG (Zz (Zm ?_)))))))
 exact Zy .ret (.inl rfl) [_] t1 ⟨Zd (Zdv hx hy g3),rfl,rfl⟩
 try simp only [sQ,ne_eq] at g3
 refine Zh (ZR (Ze (Zo (xM (h:=xD (h:=xA (h:=?_)))))))
 exact ZH (k+1) [] so2 ⟨rfl,oz,Za7 hx hy g3 he⟩ t4 rfl
 try simp only [sQ,ne_eq] at g2
 refine ZL (ZV (ZO (ZA (Ze (Za (xA (h:=Zg ?_)))))))
 exact Zy .ret (.inl rfl) [_] t1 ⟨Zd (eqT oz oz he),rfl,rfl⟩

set_option maxHeartbeats 400000 in
theorem Zcb (qa1 qb1 qc1:Option Addr) (ca1 cb1 cc1:Nat) (qa2 qb2 qc2:Option Addr) (ca2 cb2 cc2:Nat) (a b:DHost) (B:Kn) (hu1:SlK B qa1 ca1 3 Zs a.users) (hf1:SlK B qb1 cb1 5 Zj a.folders) (hi1:SlK B qc1 cc1 4 ZB a.queue.items) (hu2:SlK B qa2 ca2 3 Zs b.users) (hf2:SlK B qb2 cb2 5 Zj b.folders) (hi2:SlK B qc2 cc2 4 ZB b.queue.items):Z3 (pj J) 11 [.agg #[str a.domain,.slice qa1 a.users.length ca1,.slice qb1 a.folders.length cb1,.int .i64 a.queue.next,.slice qc1 a.queue.items.length cc1],.agg #[str b.domain,.slice qa2 b.users.length ca2,.slice qb2 b.folders.length cb2,.int .i64 b.queue.next,.slice qc2 b.queue.items.length cc2]] B (.bool (decide (a=b))):=by
 refine Zb 28 Tryz.func11 rfl rfl rfl (Nat.le_of_ble_eq_true rfl) ?_
 refine Za (xBx [_,_,_,_,_] (h:=fun b1=>xBx [_,_,_,_,_] (h:=fun b2=>xA (h:=ZM [_,_] rfl (Zi (Za (xW Zh9 (h:=x1 lk9 0 (h:=xW Zh9 (h:=x1 lk9 1 (h:=Zcn (h:=Zc rfl (fun g1=>?_) (fun g1=>?_)))))))))))))
 try simp only [sQ,ne_eq] at g1
 refine Za (xA (h:=Zg (Zm ?_)))
 exact Zy .ret (.inl rfl) [_] t1 ⟨Zd (by symm;rw [decide_eq_false_iff_not];rintro rfl;exact g1 rfl),rfl,rfl⟩
 try simp only [sQ,ne_eq] at g1
 refine Zh (Ze (Zi (Za (xW ZbK (h:=x1 ZiS 0 (h:=xW ZbK (h:=x1 ZiS 1 (h:=xR Zt8 rfl (Zmq _ _ _ _ _ _ _ hu1 hu2) (h:=xN (h:=Zc rfl (fun g2=>?_) (fun g2=>?_)))))))))))
 try simp only [sQ,ne_eq] at g2
 refine Za (xA (h:=Zg (Zm ?_)))
 exact Zy .ret (.inl rfl) [_] t1 ⟨Zd (by symm;rw [decide_eq_false_iff_not];rintro rfl;exact g2 rfl),rfl,rfl⟩
 try simp only [sQ,ne_eq] at g2
 refine Zh (Ze (Zi (Za (xW ZaA (h:=x1 Zfh 0 (h:=xW ZaA (h:=x1 Zfh 1 (h:=xR Zt7 rfl (Zi7 _ _ _ _ _ _ _ hf1 hf2) (h:=xN (h:=Zc rfl (fun g3=>?_) (fun g3=>?_)))))))))))
 try simp only [sQ,ne_eq] at g3
 refine Za (xA (h:=Zg (Zm ?_)))
 exact Zy .ret (.inl rfl) [_] t1 ⟨Zd (by symm;rw [decide_eq_false_iff_not];rintro rfl;exact g3 rfl),rfl,rfl⟩
 try simp only [sQ,ne_eq] at g3
 refine Zh (Ze (Zi (Za (xW Ze5 (h:=xL [_,_] Zp6 0 (h:=xW Ze5 (h:=xL [_,_] Zp6 1 (h:=xR Zt6 rfl (Zmr _ _ _ _ a.queue b.queue _ hi1 hi2) (h:=xN (h:=Zc rfl (fun g4=>?_) (fun g4=>?_)))))))))))
 try simp only [sQ,ne_eq] at g4
 refine Za (xA (h:=Zg (Zm ?_)))
 exact Zy .ret (.inl rfl) [_] t1 ⟨Zd (by symm;rw [decide_eq_false_iff_not];rintro rfl;exact g4 rfl),rfl,rfl⟩
 try simp only [sQ,ne_eq] at g4
 refine Zh (Ze (Za (xA (h:=Zg ?_))))
 exact Zy .ret (.inl rfl) [_] t1 ⟨Zd (by symm;rw [decide_eq_true_eq];cases a;cases b;simp_all),rfl,rfl⟩

set_option maxHeartbeats 400000 in
theorem Zg7 (k:Nat) (hk:k<6) (B:Kn):Z3 (pj J) 98 [.int .i64 k] B (.int .i64 (Zbl k)):=by
 refine Zb 7 Tryz.func98 rfl rfl rfl (Nat.le_of_ble_eq_true rfl) ?_
 refine Za (xA (h:=Za (xBs [(0,_),(1,_),(2,_),(3,_),(4,_),(5,_)] [_,_,_,_,_,_] Tryz.underlying168 sz3 zo3 (h:=fun b1=>?_))))
 have hvq:Zap B (ZaJ b1 (([1,2,4,8,16,32]:List Int).map fun x=>.int .i64 x) 3) (some ⟨b1,0,none⟩) 6 3 1 Zcm ([1,2,4,8,16,32]:List Int):=Zap.ints
 refine xM (h:=?_)
 obtain ⟨e,he⟩:=ZU (xs:=([1,2,4,8,16,32]:List Int)) (i:=k) om
 obtain ⟨bb3,_,hp3,rfl,hw3,hc3⟩:=hvq.row he
 refine xIp hp3 Tryz.underlying168 sz3 (h:=Zr (Zu rfl rfl lk3 rfl (hc3 _ 0 rfl 0 _ rfl) (xA (h:=ZM [_] rfl (Zg ?_)))))
 exact Zy .ret (.inl rfl) [_] t1 ⟨ZC (Znk he),rfl,rfl⟩

set_option maxHeartbeats 400000 in
theorem Zpr (q:Option Addr) (cp:Nat) (gs:List DGrant) (u:Str) (hr :∀y,y∈gs→0≤y.rights∧y.rights≤63) (B:Kn) (hg:SlK B q cp 2 Zah gs):Z3 (pj J) 65 [.slice q gs.length cp,str u] B (.int .i64 (ZaH gs u)):=by
 refine Zb 55 Tryz.func65 rfl rfl rfl (Nat.le_of_ble_eq_true rfl) ?_
 have hgn:=hg.len
 refine Za (xA (h:=Za (xA (h:=Zi (Za (xA (h:=Zn (ZD (α:=Nat × Int) [0,1,4] (fun g=>[(5,.int .i64 g.2),(6,.int .i64 g.1)]) [] (fun g=>[]) (fun g Bx=>Bx=B∧g.1≤6∧g.2=ZdF gs u g.1) (fun g=>6 - g.1) (0,0) t2 rfl (⟨rfl,oz,rfl⟩) (fun g B1 hle1 hI=>?_)))))))))
 obtain ⟨rfl,hk,hs⟩:=hI
 have hbd:=Zgb gs u g.1 hk
 refine ZJ [(0,_),(1,_),(4,_),(5,_),(6,_)] [] t5 rfl (Zi (Za (xM (h:=ZF (h:=Zc rfl (fun g1=>?_) (fun g1=>?_))))))
 try simp only [sQ,ne_eq] at g1
 have hp:=ZmI (k:=g.1) oz
 refine Zh (Ze (Zi (Zn (Za (xA (h:=Zi (Za (xA (h:=Zn (ZD (α:=Nat × Bool) [0,1,4,5,6,10] (fun o=>[(7,.bool o.2),(8,.int .i64 o.1)]) [] (fun o=>[]) (fun o Bx=>Bx=B1∧o.1≤gs.length∧o.2=(gs.take o.1).any (onB u (Zbl g.1))) (fun o=>gs.length - o.1) (0,false) t2 rfl (⟨rfl,Nat.zero_le _,rfl⟩) (fun o B2 hle2 hI=>?_)))))))))))
 obtain ⟨rfl,ho,hon⟩:=hI
 refine ZJ [(0,_),(1,_),(4,_),(5,_),(6,_),(7,_),(8,_),(10,_)] [] t8 rfl (Zi (Za (xM (h:=xM (h:=xV Tryz.underlying87 (h:=ZF (h:=Zc rfl (fun g2=>?_) (fun g2=>?_))))))))
 try simp only [sQ,ne_eq] at g2
 obtain ⟨x,hx⟩:=ZU (xs:=gs) (i:=o.1) oz
 have hrx:=hr x (List.mem_of_getElem? hx)
 refine Zh (Ze (Zi (Zn (Z2 (same _ _) mo kr ⟨rfl,rfl⟩ (fun _ _=>?_)))))
 refine aM 0 rfl (h:=aM 1 rfl (h:=Zab (d:=20) rfl (fun g3=>?_) (fun g3=>?_)))
 try simp only [sQ,ne_eq] at g3
 refine aZ 2 rfl (h:=aZ 3 rfl (h:=aZ 4 rfl (h:=aZ 5 rfl (h:=aZ 6 rfl (h:=aZ 7 rfl (h:=aZ 8 rfl (h:=aZ 9 rfl (h:=aZ 10 rfl (h:=aZ 11 rfl (h:=aZ 12 rfl (h:=aZ 13 rfl (h:=aZ 14 rfl (h:=?_)))))))))))))
 refine aZ 15 rfl (h:=aZ 16 rfl (h:=aZ 17 rfl (h:=aZ 18 rfl (h:=aZ 19 rfl (h:=aZ 20 rfl (h:=aZ 21 rfl (h:=aZ 22 rfl (h:=aZ 23 rfl (h:=aZ 24 rfl (h:=aZ 25 rfl (h:=aZ 26 rfl (h:=aZ 27 rfl (h:=?_)))))))))))))
 refine aZ 28 rfl (h:=aPT 29 rfl (h:=aA 30 rfl (h:=Zt kr kr ?_)))
 refine ZR (Ze (Zo (xM (h:=xD (h:=xA (h:=?_))))))
 exact ZH (o.1+1,true) [] so2 ⟨rfl,so,by rw [Zfn hx,← hon,g3];rfl⟩ t8 rfl
 try simp only [sQ,ne_eq] at g3
 refine aM 2 rfl (h:=aM 3 rfl (h:=?_))
 obtain ⟨bb3,oo3,rfl⟩:=hg.base hx
 obtain ⟨_,⟨rfl,hb4⟩,hc4⟩:=hg.elem hx
 refine aIx 4 rfl Tryz.underlying87 ZdO (h:=aW 5 rfl ZbH (h:=aT 6 rfl (Z5 fun D=>Zu rfl rfl lk9 rfl (hc4 _ 0 _ rfl) r4) (h:=aM 7 rfl (h:=ZmO 8 rfl (h:=aM 9 rfl (h:=Zab (d:=28) rfl (fun g4=>?_) (fun g4=>?_)))))))
 try simp only [sQ,ne_eq] at g4
 refine aZ 10 rfl (h:=aZ 11 rfl (h:=aZ 12 rfl (h:=aZ 13 rfl (h:=aZ 14 rfl (h:=aZ 15 rfl (h:=aPT 16 rfl (h:=aM 17 rfl (h:=aM 18 rfl (h:=aM 19 rfl (h:=aIx 20 rfl Tryz.underlying87 ZdO (h:=aW 21 rfl ZcY (h:=aT 22 rfl (Z5 fun D=>Zu rfl rfl lk3 rfl (hc4 _ 1 _ rfl) r4) (h:=?_)))))))))))))
 refine aM 23 rfl (h:=aT 24 rfl (Z5 fun D=>ZQ rfl rfl ZrW rfl (Zg7 g.1 om2 _) r4) (h:=?_))
 refine aT 25 rfl (Z5 fun D=>ZmZ (a:=x.rights) (b:=(Zbl g.1)) (r:=Int.tdiv x.rights (Zbl g.1)) rfl rfl rfl rfl oz (Zlx oz oz oz) r4) (h:=?_)
 refine aT 26 rfl (Z5 fun D=>ZoW (a:=(Int.tdiv x.rights (Zbl g.1))) (b:=2) (r:=Int.tmod (Int.tdiv x.rights (Zbl g.1)) 2) rfl rfl rfl rfl (by decide) rfl r4) (h:=?_)
 refine ZmP 27 rfl (h:=aPT 28 rfl (h:=aPF 29 rfl (h:=aA 30 rfl (h:=Zt kr kr ?_))))
 refine ZR (Ze (Zo (xM (h:=xD (h:=xA (h:=?_))))))
 exact ZH (o.1+1,decide (Int.tmod (Int.tdiv x.rights (Zbl g.1)) 2=1)) [] so2 ⟨rfl,so,by rw [Zfn hx,← hon,g3,onB];simp [g4]⟩ t8 rfl
 try simp only [sQ,ne_eq] at g4
 refine aM 10 rfl (h:=aM 11 rfl (h:=aIx 12 rfl Tryz.underlying87 ZdO (h:=aW 13 rfl ZbH (h:=aT 14 rfl (Z5 fun D=>Zu rfl rfl lk9 rfl (hc4 _ 0 _ rfl) r4) (h:=ZmO 15 rfl (h:=aPF 16 rfl (h:=aM 17 rfl (h:=Zab (d:=36) rfl (fun g5=>?_) (fun g5=>?_)))))))))
 try simp only [sQ,ne_eq] at g5
 refine aM 18 rfl (h:=aM 19 rfl (h:=aIx 20 rfl Tryz.underlying87 ZdO (h:=aW 21 rfl ZcY (h:=aT 22 rfl (Z5 fun D=>Zu rfl rfl lk3 rfl (hc4 _ 1 _ rfl) r4) (h:=aM 23 rfl (h:=aT 24 rfl (Z5 fun D=>ZQ rfl rfl ZrW rfl (Zg7 g.1 om2 _) r4) (h:=?_)))))))
 refine aT 25 rfl (Z5 fun D=>ZmZ (a:=x.rights) (b:=(Zbl g.1)) (r:=Int.tdiv x.rights (Zbl g.1)) rfl rfl rfl rfl oz (Zlx oz oz oz) r4) (h:=?_)
 refine aT 26 rfl (Z5 fun D=>ZoW (a:=(Int.tdiv x.rights (Zbl g.1))) (b:=2) (r:=Int.tmod (Int.tdiv x.rights (Zbl g.1)) 2) rfl rfl rfl rfl (by decide) rfl r4) (h:=?_)
 refine ZmP 27 rfl (h:=aPT 28 rfl (h:=aPF 29 rfl (h:=aA 30 rfl (h:=Zt kr kr ?_))))
 refine ZR (Ze (Zo (xM (h:=xD (h:=xA (h:=?_))))))
 exact ZH (o.1+1,decide (Int.tmod (Int.tdiv x.rights (Zbl g.1)) 2=1)) [] so2 ⟨rfl,so,by rw [Zfn hx,← hon,g3,onB];simp [g5,anyone]⟩ t8 rfl
 try simp only [sQ,ne_eq] at g5
 refine aZ 18 rfl (h:=aZ 19 rfl (h:=aZ 20 rfl (h:=aZ 21 rfl (h:=aZ 22 rfl (h:=aZ 23 rfl (h:=aZ 24 rfl (h:=aZ 25 rfl (h:=aZ 26 rfl (h:=aZ 27 rfl (h:=aPF 28 rfl (h:=aPF 29 rfl (h:=aA 30 rfl (h:=?_)))))))))))))
 refine Zt kr kr ?_
 refine ZR (Ze (Zo (xM (h:=xD (h:=xA (h:=?_))))))
 exact ZH (o.1+1,false) [] so2 ⟨rfl,so,by rw [Zfn hx,← hon,g3,onB];simp [g4,g5,anyone]⟩ t8 rfl
 try simp only [sQ,ne_eq] at g2
 have hae:=ZpY hon oz
 refine ZL (ZV (ZO (ZA (Ze (Za (xM (h:=Zc rfl (fun g6=>?_) (fun g6=>?_))))))))
 try simp only [sQ,ne_eq] at g6
 refine Zo (xM (h:=xM (h:=xR ZrW rfl (Zg7 g.1 om2 _) (h:=?_))))
 refine xD (h:=xA (h:=ZR (Ze (Zo (xM (h:=xD (h:=xA (h:=?_))))))))
 exact ZH (g.1+1,g.2+Zbl g.1) [] so2 ⟨rfl,so,by simp only [ZdF];rw [← hae,if_pos g6,hs]⟩ t5 rfl
 try simp only [sQ,ne_eq] at g6
 refine Zh (ZR (Ze (Zo (xM (h:=xD (h:=xA (h:=?_)))))))
 exact ZH (g.1+1,g.2) [] so2 ⟨rfl,so,by simp only [ZdF];rw [← hae,if_neg (by simp [g6]),hs]⟩ t5 rfl
 try simp only [sQ,ne_eq] at g1
 refine ZL (ZV (ZO (ZA (Ze (Za (xM (h:=xA (h:=Zg ?_))))))))
 exact Zy .ret (.inl rfl) [_] t1 ⟨ZC (by rw [hs,show g.1=6 from by omega];rfl),rfl,rfl⟩

set_option maxHeartbeats 400000 in
theorem ZjL (q1 q2 q3:Option Addr) (c1 c2 c3:Nat) (x:DHost) (k:Int) (u:Str) (r:Int) (f:DFolder) (hk0:0≤k) (hk:x.folders[k.toNat]? = some f) (hrr:Zhp x.folders) (h1:0<r) (B:Kn) (hf:SlK B q2 c2 5 Zj x.folders):Z3 (pj J) 37 [.agg #[str x.domain,.slice q1 x.users.length c1,.slice q2 x.folders.length c2,.int .i64 x.queue.next,.slice q3 x.queue.items.length c3],.int .i64 k,str u,.int .i64 r] B (.bool (ZkP f u r)):=by
 refine Zb 31 Tryz.func37 rfl rfl rfl (Nat.le_of_ble_eq_true rfl) ?_
 have hfn:=hf.len
 have hkl:=(List.getElem?_eq_some_iff.1 hk).1
 have hrb:=ZiI f.grants u
 refine Za (xBx [_,_,_,_,_] (h:=fun b1=>xA (h:=ZM [_] rfl (Za (xM (h:=xW ZaA (h:=x1 Zfh 0 (h:=xM (h:=?_)))))))))
 obtain ⟨bb2,oo2,rfl⟩:=hf.base hk
 obtain ⟨_,⟨qg3,cg3,qm3,cm3,rfl,hg3,hm3,hb3,hb3b⟩,hc3⟩:=hf.elem hk
 have hg3n:=hg3.len
 have hm3n:=hm3.len
 have hm3s:=Zam hm3
 refine xIx Tryz.underlying37 ZeU (h:=xW ZbB (h:=y1 lk9 hc3 0 (h:=Zco (h:=xM (h:=Zv (d:=17) rfl (fun g1=>?_) (fun g1=>?_))))))
 try simp only [sQ,ne_eq] at g1
 refine xP (h:=xP (h:=xP (h:=xP (h:=xP (h:=xP (h:=xP (h:=xP (h:=xP (h:=xP (h:=xP (h:=xP (h:=xT (h:=?_)))))))))))))
 refine xA (h:=Zg ?_)
 exact Zy .ret (.inl rfl) [_] t1 ⟨Zd (by simp [ZkP,g1]),rfl,rfl⟩
 try simp only [sQ,ne_eq] at g1
 refine xW ZaA (h:=x1 Zfh 0 (h:=xM (h:=xIx Tryz.underlying37 ZeU (h:=xW ZfT (h:=y1 Zp5 hc3 2 (h:=xM (h:=xR ZtB rfl (Zpr _ _ f.grants u (by first | assumption | exact hrr _ (List.mem_of_getElem? (oy))) _ hg3) (h:=?_))))))))
 refine xM (h:=Zr (ZmZ (a:=(ZaH f.grants u)) (b:=r) (r:=Int.tdiv (ZaH f.grants u) r) rfl rfl rfl rfl oz (Zlx oz oz oz) ?_))
 refine Zr (ZoW (a:=(Int.tdiv (ZaH f.grants u) r)) (b:=2) (r:=Int.tmod (Int.tdiv (ZaH f.grants u) r) 2) rfl rfl rfl rfl (by decide) rfl ?_)
 refine ZkS (h:=xF (h:=xA (h:=Zg ?_)))
 exact Zy .ret (.inl rfl) [_] t1 ⟨Zd (by simp [ZkP,g1]),rfl,rfl⟩

set_option maxHeartbeats 400000 in
theorem Zko (q1 q2 q3:Option Addr) (c1 c2 c3:Nat) (x:DHost) (u:Str) (k r:Int) (hk:k<x.folders.length) (hrr:Zhp x.folders) (h1:0<r) (B:Kn) (hu:SlK B q1 c1 3 Zs x.users) (hf:SlK B q2 c2 5 Zj x.folders):Z3 (pj J) 16 [.agg #[str x.domain,.slice q1 x.users.length c1,.slice q2 x.folders.length c2,.int .i64 x.queue.next,.slice q3 x.queue.items.length c3],str u,.int .i64 k,.int .i64 r] B (.int .i64 (ZkO x.users x.folders u k r)):=by
 refine Zb 32 Tryz.func16 rfl rfl rfl (Nat.le_of_ble_eq_true rfl) ?_
 refine Za (xBx [_,_,_,_,_] (h:=fun b1=>xA (h:=ZM [_] rfl (Zi (Zn (Za (xW ZbK (h:=x1 ZiS 0 (h:=xM (h:=xR Zrq rfl (Zek _ _ _ _ _ hu) (h:=ZF (h:=xM (h:=?_)))))))))))))
 refine Zv (d:=15) rfl (fun g1=>?_) (fun g1=>?_)
 try simp only [sQ,ne_eq] at g1
 refine xP (h:=xP (h:=xT (h:=xA (h:=Zc (t:=true) rfl (fun _=>Za (xA (h:=Zg (Zz (Zm ?_))))) (fun h=>Bool.noConfusion h)))))
 exact Zy .ret (.inl rfl) [_] t1 ⟨ZC (Zhk (.inl g1)).symm,rfl,rfl⟩
 try simp only [sQ,ne_eq] at g1
 refine xM (h:=ZF (h:=xF (h:=xA (h:=Zc rfl (fun g2=>?_) (fun g2=>?_)))))
 try simp only [sQ,ne_eq] at g2
 refine Za (xA (h:=Zg (Zz (Zm ?_))))
 exact Zy .ret (.inl rfl) [_] t1 ⟨ZC (Zhk (.inr g2)).symm,rfl,rfl⟩
 try simp only [sQ,ne_eq] at g2
 have hfn:=hf.len
 obtain ⟨f,hf0⟩ :∃f,x.folders[k.toNat]? = some f:=⟨_,List.getElem?_eq_getElem oz⟩
 have hce:=ZmD (us:=x.users) (u:=u) (r:=r) oz hf0
 refine Za (xL [_,_,_,_,_] Zfg 0 (h:=xM (h:=xM (h:=xR ZsQ rfl (ZjL _ _ _ _ _ _ x k u 1 _ oz (oy) hrr oz _ hf) (h:=?_)))))
 refine xN (h:=xA (h:=Zc rfl (fun g3=>?_) (fun g3=>?_)))
 try simp only [sQ,ne_eq] at g3
 refine Za (xA (h:=Zg (Zz (Zm ?_))))
 exact Zy .ret (.inl rfl) [_] t1 ⟨ZC (by rw [hce,if_pos g3]),rfl,rfl⟩
 try simp only [sQ,ne_eq] at g3
 refine Za (xL [_,_,_,_,_] Zfg 0 (h:=xM (h:=xM (h:=xM (h:=xR ZsQ rfl (ZjL _ _ _ _ _ _ x k u r _ oz (oy) hrr oz _ hf) (h:=?_))))))
 refine xN (h:=xA (h:=Zc rfl (fun g4=>?_) (fun g4=>?_)))
 try simp only [sQ,ne_eq] at g4
 refine Za (xA (h:=Zg (Zz (Zm ?_))))
 exact Zy .ret (.inl rfl) [_] t1 ⟨ZC (by rw [hce,if_neg (by simp [g3]),if_pos g4]),rfl,rfl⟩
 try simp only [sQ,ne_eq] at g4
 refine Zh (ZR (Ze (Za (xA (h:=Zg ?_)))))
 exact Zy .ret (.inl rfl) [_] t1 ⟨ZC (by rw [hce,if_neg (by simp [g3]),if_neg (by simp [g4])]),rfl,rfl⟩

set_option maxHeartbeats 400000 in
theorem Zjh (q:Option Addr) (cp:Nat) (gs:List DGrant) (o u:Str) (ho:o.length≤2000000) (hn:u.length≤2000000) (B:Kn) (hg:SlK B q cp 2 Zah gs):Z3 (pj J) 87 [.slice q gs.length cp,str o,str u] B (.int .i64 (Zho gs o u)):=by
 refine Zb 35 Tryz.func87 rfl rfl rfl (Nat.le_of_ble_eq_true rfl) ?_
 refine Za (xA (h:=Za (xM (h:=Zr (Zal rfl rfl Zq4 rfl (ZjX _ _ _ _ hg) ?_)))))
 rintro _ Bm _ hlem ⟨mm,lm,rfl,rfl,rfl,hlm⟩
 refine xM (h:=xE (h:=xE (h:=xA (h:=xA (h:=ZM [_] rfl (Zi (Za (xM (h:=xN (h:=xM (h:=Zv (d:=16) rfl (fun g1=>?_) (fun g1=>?_))))))))))))
 try simp only [sQ,ne_eq] at g1
 refine xP (h:=xP (h:=xP (h:=xT (h:=xM (h:=xP (h:=xP (h:=xP (h:=xT (h:=Zc (t:=true) rfl (fun _=>Za (xA (h:=Zg (Zm ?_)))) (fun h=>Bool.noConfusion h))))))))))
 exact Zy .ret (.inl rfl) [_] t1 ⟨ZC (Zhn (by simp [g1])).symm,rfl,rfl⟩
 try simp only [sQ,ne_eq] at g1
 refine xM (h:=xR ZoM rfl (Za9 _ om2 _) (h:=?_))
 refine xN (h:=xF (h:=xM (h:=Zv (d:=21) rfl (fun g2=>?_) (fun g2=>?_))))
 try simp only [sQ,ne_eq] at g2
 refine xP (h:=xP (h:=xP (h:=xT (h:=Zc (t:=true) rfl (fun _=>Za (xA (h:=Zg (Zm ?_)))) (fun h=>Bool.noConfusion h)))))
 exact Zy .ret (.inl rfl) [_] t1 ⟨ZC (Zhn (by simp [g2])).symm,rfl,rfl⟩
 try simp only [sQ,ne_eq] at g2
 refine xM (h:=xR ZoM rfl (Za9 _ om2 _) (h:=?_))
 refine xN (h:=xF (h:=Zc rfl (fun g3=>?_) (fun g3=>?_)))
 try simp only [sQ,ne_eq] at g3
 refine Za (xA (h:=Zg (Zm ?_)))
 exact Zy .ret (.inl rfl) [_] t1 ⟨ZC (Zhn (by simp [g3])).symm,rfl,rfl⟩
 try simp only [sQ,ne_eq] at g3
 have hce:=Zob (gs:=gs) (o:=o) (u:=u) g1 g2 (by simpa using g3)
 obtain ⟨bm,hmb,hml⟩:=hlm g1
 subst hmb
 clear hlm
 have hlm:=hml
 refine Zh (Ze (Zi (Za (xM (h:=xM (h:=Zco (h:=Zc rfl (fun g4=>?_) (fun g4=>?_))))))))
 try simp only [sQ,ne_eq] at g4
 refine Za (xA (h:=Zg (Zm ?_)))
 exact Zy .ret (.inl rfl) [_] t1 ⟨ZC (by rw [hce,if_pos g4]),rfl,rfl⟩
 try simp only [sQ,ne_eq] at g4
 refine Zh (Ze (Za (xM (h:=xM (h:=Zr (Zjn (k:=u) 0 rfl hlm rfl rfl Tryz.underlying187 Tryz.underlying9 zo3 rfl rfl (xM (h:=Zr (Zjn (k:=[97,110,121,111,110,101]) 0 rfl hlm rfl rfl Tryz.underlying187 Tryz.underlying9 zo3 rfl rfl (Zr (ZrB rfl rfl rfl rfl (xA (h:=Zg ?_)))))))))))))
 exact Zy .ret (.inl rfl) [_] t1 ⟨ZC (by rw [hce,if_neg g4];rfl),rfl,rfl⟩

set_option maxHeartbeats 400000 in
theorem ZqK (b o:Nat) (q1 q2 q3:Option Addr) (c1 c2 c3:Nat) (x:DHost) (qa qb:Option Addr) (ca cb:Nat) (u:Str) (f:DFolder) (rr:Int) (hn:u.length≤2000000) (ho:f.owner.length≤2000000) (B:Kn) (hh:Zak B b o [str x.domain,.slice q1 x.users.length c1,.slice q2 x.folders.length c2,.int .i64 x.queue.next,.slice q3 x.queue.items.length c3]) (hu:SlK B q1 c1 3 Zs x.users) (hg:SlK B qa ca 2 Zah f.grants):Z3 (pj J) 49 [ptr ⟨b,o,none⟩,str u,.agg #[str f.owner,str f.name,.slice qa f.grants.length ca,.int .i64 f.next,.slice qb f.mail.length cb],.int .i64 rr] B (.bool (ZlM x.users f u rr)):=by
 refine Zb 29 Tryz.func49 rfl rfl rfl (Nat.le_of_ble_eq_true rfl) ?_
 refine Za (xBx [_,_,_,_,_] (h:=fun b1=>xA (h:=ZM [_] rfl (Za (xW ZfT (h:=x1 Zp5 0 (h:=xW ZbB (h:=x1 lk9 0 (h:=xM (h:=xR Ztm rfl (Zjh _ _ f.grants f.owner u om2 om2 _ hg) (h:=?_)))))))))))
 refine xA (h:=Za (xM (h:=xM (h:=xR Zrn rfl (Zfi _ _ _ _ _ _ _ _ x u om2 _ hh hu) (h:=?_)))))
 refine xM (h:=Zv (d:=19) rfl (fun g1=>?_) (fun g1=>?_))
 try simp only [sQ,ne_eq] at g1
 refine xM (h:=Zdz (h:=xT (h:=xM (h:=Zv (d:=23) rfl (fun g2=>?_) (fun g2=>?_)))))
 try simp only [sQ,ne_eq] at g2
 refine xM (h:=xM (h:=Zr (Zqt rfl rfl rfl rfl (Zax (h:=xT (h:=xA (h:=Zg ?_)))))))
 exact Zy .ret (.inl rfl) [_] t1 ⟨Zd (by simp [ZlM,g1,g2]),rfl,rfl⟩
 try simp only [sQ,ne_eq] at g2
 refine xP (h:=xP (h:=xP (h:=xP (h:=xF (h:=xA (h:=Zg ?_))))))
 exact Zy .ret (.inl rfl) [_] t1 ⟨Zd (by simp [ZlM,g1,g2];try omega),rfl,rfl⟩
 try simp only [sQ,ne_eq] at g1
 refine xP (h:=xP (h:=xF (h:=xM (h:=xP (h:=xP (h:=xP (h:=xP (h:=xF (h:=xA (h:=Zg ?_))))))))))
 exact Zy .ret (.inl rfl) [_] t1 ⟨Zd (by simp [ZlM,g1]),rfl,rfl⟩

end Go.Proofs.YtglldnolbfgppaaGreatDoor
