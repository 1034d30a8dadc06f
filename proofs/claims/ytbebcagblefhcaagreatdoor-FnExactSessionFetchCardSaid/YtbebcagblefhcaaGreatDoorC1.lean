/-
  WHAT THE FUNCTIONS THAT THE LAWS REACH COMPUTE: each function's contract, proved off its printed body (the text is written by program). No condition beyond those that each theorem states.
-/
import Derived.Test.YtbebcagblefhcaaGreatDoorC0
namespace Go.Proofs.YtbebcagblefhcaaGreatDoor
open Go Go.BL
set_option linter.unusedVariables false
set_option linter.unusedSimpArgs false
set_option maxRecDepth 4000
set_option maxHeartbeats 6400000
variable {J : JoinT}
theorem ZmO (q1 q2 q3:Option Addr) (c1 c2 c3:Nat) (x:DHost) (hd:x.domain.length≤2000000) (B:Kn) (hu:SlK B q1 c1 3 ZJ x.users) (hf:SlK B q2 c2 5 ZG x.folders) (hi:SlK B q3 c3 4 ZaA x.queue.items):Z0 (pj J) 36 [.agg #[str x.domain,.slice q1 x.users.length c1,.slice q2 x.folders.length c2,.int .i64 x.queue.next,.slice q3 x.queue.items.length c3]] B (.bool (Zam x)):=by
 refine cB 87 Tryz.func36 (h:=?_)
 have hfn:=hf.len
 have hun:=hu.len
 have hin:=hi.len
 refine Za (xBx [_,_,_,_,_] (h:=fun b1=>xA (h:=tL1 (Zd (Za (xW Zh5 (h:=x1 lk9 0 (h:=xR ZzB rfl (Zjw _ om2 _) (h:=?_)))))))))
 refine xN (h:=xM (h:=Zt (d:=10) rfl (fun g1=>?_) (fun g1=>?_)))
 try simp only [sQ,ne_eq] at g1
 refine xP (h:=xP (h:=xP (h:=xP (h:=xT (h:=xM (h:=xP (h:=xP (h:=xP (h:=xP (h:=xT (h:=xM (h:=xP (h:=xP (h:=xP (h:=xT (h:=Zb (t:=true) rfl (fun _=>Za (xA (h:=Ze (Zl ?_)))) (fun h=>Bool.noConfusion h)))))))))))))))))
 exact eR t1 ⟨Zc (by simp [Zam,g1]),rfl,rfl⟩
 try simp only [sQ,ne_eq] at g1
 refine xW ZbU (h:=x1 ZjW 0 (h:=xR ZzA rfl (ZkS _ _ _ _ hu) (h:=xN (h:=xF (h:=xM (h:=Zt (d:=16) rfl (fun g2=>?_) (fun g2=>?_)))))))
 try simp only [sQ,ne_eq] at g2
 refine xP (h:=xP (h:=xP (h:=xP (h:=xT (h:=xM (h:=xP (h:=xP (h:=xP (h:=xT (h:=Zb (t:=true) rfl (fun _=>Za (xA (h:=Ze (Zl ?_)))) (fun h=>Bool.noConfusion h)))))))))))
 exact eR t1 ⟨Zc (by simp [Zam,g1,g2]),rfl,rfl⟩
 try simp only [sQ,ne_eq] at g2
 refine xW ZeN (h:=xL [_,_] ZnC 0 (h:=xR Zzz rfl (ZkT _ _ x.queue _ hi) (h:=xN (h:=xF (h:=xM (h:=Zt (d:=22) rfl (fun g3=>?_) (fun g3=>?_)))))))
 try simp only [sQ,ne_eq] at g3
 refine xP (h:=xP (h:=xP (h:=xT (h:=Zb (t:=true) rfl (fun _=>Za (xA (h:=Ze (Zl ?_)))) (fun h=>Bool.noConfusion h)))))
 exact eR t1 ⟨Zc (by simp [Zam,g1,g2,g3]),rfl,rfl⟩
 try simp only [sQ,ne_eq] at g3
 refine xL [_,_,_,_,_] ZfE 0 (h:=xR Zzy rfl (ZjY _ _ _ _ _ _ x _ hu hf) (h:=xN (h:=xF (h:=Zb rfl (fun g4=>?_) (fun g4=>?_)))))
 try simp only [sQ,ne_eq] at g4
 refine Za (xA (h:=Ze (Zl ?_)))
 exact eR t1 ⟨Zc (by simp [Zam,g1,g2,g3,g4]),rfl,rfl⟩
 try simp only [sQ,ne_eq] at g4
 refine wSk (Zd (Za (xA (h:=Zh (Zv (α:=Nat) [0,1,26] (fun k=>[(3,.int .i64 k)]) [] (fun k=>[]) (fun k Bx=>Bx=B∧k≤x.users.length∧∀z,z∈x.users.take k→Za0 x.folders z=true) (fun k=>x.users.length - k) 0 t1 rfl (⟨rfl,Nat.zero_le _,by simp⟩) (fun k B6 hle6 hI=>?_))))))
 obtain ⟨rfl,hk,ha⟩:=hI
 refine Zz [(0,_),(1,_),(3,_),(26,_)] [_] t4 rfl (Zd (Za (xM (h:=xW ZbU (h:=x1 ZjW 0 (h:=xV Tryz.underlying38 (h:=ZB (h:=Zb rfl (fun g5=>?_) (fun g5=>?_)))))))))
 try simp only [sQ,ne_eq] at g5
 refine wSk (Zd (Zh (Zd (ZY (same _ _) mo kr ⟨rfl,rfl⟩ (fun _ _=>?_)))))
 refine aT 0 rfl (Z9 fun D=>ZR [_,_,_,_,_] rfl rfl ZfE rfl (Zct 0 rfl rfl rfl) r4) (h:=aW 1 rfl ZbU (h:=aT 2 rfl (Z9 fun D=>Zn rfl rfl ZjW rfl (atL 0 rfl rfl rfl) r4) (h:=aM 3 rfl (h:=?_))))
 obtain ⟨w,hw⟩:=ZM (xs:=x.users) (i:=k) om
 obtain ⟨bb8,oo8,rfl⟩:=hu.base hw
 obtain ⟨_,⟨rfl,hb9,hb9b⟩,hc9⟩:=hu.elem hw
 refine aIx 4 rfl Tryz.underlying38 ZbQ (h:=aW 5 rfl ZaZ (h:=aT 6 rfl (Z9 fun D=>Zn rfl rfl lk9 rfl (hc9 _ 0 _ rfl) r4) (h:=aT 7 rfl (Z9 fun D=>Zaa rfl rfl ZyP rfl (ZjZ _ _ _ _ _ _ x w.name [105,110,98,111,120] om2 om2 _ hf) r4) (h:=?_))))
 refine Zse 8 rfl (h:=aM 9 rfl (h:=Zaq (d:=43) rfl (fun g6=>?_) (fun g6=>?_)))
 try simp only [sQ,ne_eq] at g6
 refine aZ 10 rfl (h:=aZ 11 rfl (h:=aZ 12 rfl (h:=aZ 13 rfl (h:=aZ 14 rfl (h:=aZ 15 rfl (h:=aZ 16 rfl (h:=aZ 17 rfl (h:=aZ 18 rfl (h:=aZ 19 rfl (h:=aZ 20 rfl (h:=aZ 21 rfl (h:=aZ 22 rfl (h:=aZ 23 rfl (h:=aZ 24 rfl (h:=aPT 25 rfl (h:=Zw kr kr ?_))))))))))))))))
 refine Zm (Zb (t:=true) rfl (fun _=>Za (xA (h:=Ze (Zu (Zl (ZF (Zu (Zl ?_)))))))) (fun h=>Bool.noConfusion h))
 exact eR t1 ⟨Zc (Zg7 hw (Zjo g6)).symm,rfl,rfl⟩
 try simp only [sQ,ne_eq] at g6
 refine aT 10 rfl (Z9 fun D=>ZR [_,_,_,_,_] rfl rfl ZfE rfl (Zct 0 rfl rfl rfl) r4) (h:=aW 11 rfl ZbU (h:=aT 12 rfl (Z9 fun D=>Zn rfl rfl ZjW rfl (atL 0 rfl rfl rfl) r4) (h:=aM 13 rfl (h:=aIx 14 rfl Tryz.underlying38 ZbQ (h:=aW 15 rfl ZaZ (h:=aT 16 rfl (Z9 fun D=>Zn rfl rfl lk9 rfl (hc9 _ 0 _ rfl) r4) (h:=aT 17 rfl (Z9 fun D=>Zaa rfl rfl Zzx rfl (Zo1 _ _ _ _ _ _ x _ _ hf) r4) (h:=aW 18 rfl ZbU (h:=aT 19 rfl (Z9 fun D=>Zn rfl rfl ZjW rfl (atL 0 rfl rfl rfl) r4) (h:=aM 20 rfl (h:=aIx 21 rfl Tryz.underlying38 ZbQ (h:=aW 22 rfl ZdL (h:=aT 23 rfl (Z9 fun D=>Zn rfl rfl lk3 rfl (hc9 _ 2 _ rfl) r4) (h:=Zqf 24 rfl (h:=aPF 25 rfl (h:=Zw kr kr ?_))))))))))))))))
 refine Zm (Zb rfl (fun g7=>?_) (fun g7=>?_))
 try simp only [sQ,ne_eq] at g7
 refine Za (xA (h:=Ze (Zu (Zl (ZF (Zu (Zl ?_)))))))
 exact eR t1 ⟨Zc (Zg7 hw (Zjn g7)).symm,rfl,rfl⟩
 try simp only [sQ,ne_eq] at g7
 refine ZL (ZI (Zm (Zf (xM (h:=xD (h:=xA (h:=?_)))))))
 exact Zy (k+1) [0] so2 ⟨rfl,oz,ZaJ hw ha (Zjm g6 g7)⟩ t4 rfl
 try simp only [sQ,ne_eq] at g5
 refine ZA (ZP (ZC (Zs (Zm (Zd (Za (xA (h:=Zh (Zv (α:=Nat) [0,1,3,26,31] (fun j=>[(4,.int .i64 j)]) [] (fun j=>[]) (fun j Bx=>Bx=B6∧j≤x.queue.items.length∧∀z,z∈x.queue.items.take j→ZaF x.users z=true) (fun j=>x.queue.items.length - j) 0 t1 rfl (⟨rfl,Nat.zero_le _,by simp⟩) (fun j B12 hle12 hI=>?_))))))))))
 obtain ⟨rfl,hj,hb⟩:=hI
 refine Zz [(0,_),(1,_),(3,_),(4,_),(26,_),(31,_)] [_] t6 rfl (Zd (Za (xM (h:=xW ZeN (h:=xW Zcq (h:=x1 Zkx 0 (h:=xV Tryz.underlying40 (h:=ZB (h:=Zb rfl (fun g8=>?_) (fun g8=>?_))))))))))
 try simp only [sQ,ne_eq] at g8
 refine wSk (Zd (Zh (Za (xW ZeN (h:=xW Zcq (h:=x1 Zkx 0 (h:=xM (h:=?_))))))))
 obtain ⟨y,hy⟩:=ZM (xs:=x.queue.items) (i:=j) om
 obtain ⟨bb14,oo14,rfl⟩:=hi.base hy
 obtain ⟨_,⟨qi15,ci15,rfl,hi15,hb15,hb15b⟩,hc15⟩:=hi.elem hy
 have hi15n:=hi15.len
 refine xIx Tryz.underlying40 Zcc (h:=yL [_,_,_,_] Ze4 hc15 0 (h:=xAl [_,_,_,_] ZfF (h:=fun b16=>xS [_,_,_,_] 1 [_,_,_,_] Zcc (h:=tL2 (Za (xW ZbU (h:=x1 ZjW 0 (h:=xW Zei (h:=x1 lk9 1 (h:=xR Zv6 rfl (Zfu _ _ _ _ _ hu) (h:=ZB (h:=xM (h:=Zt (d:=80) rfl (fun g9=>?_) (fun g9=>?_))))))))))))))
 try simp only [sQ,ne_eq] at g9
 refine xP (h:=xP (h:=xP (h:=xP (h:=xP (h:=xT (h:=Zb (t:=true) rfl (fun _=>Za (xA (h:=Ze (Zu (Zl (ZF (Zu (Zl ?_)))))))) (fun h=>Bool.noConfusion h)))))))
 exact eR t1 ⟨Zc (Zg8 hy (ZiG g9)).symm,rfl,rfl⟩
 try simp only [sQ,ne_eq] at g9
 refine xL [_,_,_,_,_] ZfE 0 (h:=xW Zda (h:=x1 ZfV 1 (h:=xR Zzw rfl (Zm5 _ _ _ _ _ _ x _ _ y.left _ hu hi15) (h:=xN (h:=xF (h:=Zb rfl (fun ga=>?_) (fun ga=>?_)))))))
 try simp only [sQ,ne_eq] at ga
 refine Za (xA (h:=Ze (Zu (Zl (ZF (Zu (Zl ?_)))))))
 exact eR t1 ⟨Zc (Zg8 hy (ZiF ga)).symm,rfl,rfl⟩
 try simp only [sQ,ne_eq] at ga
 refine ZL (ZI (Zm (Zf (xM (h:=xD (h:=xA (h:=?_)))))))
 exact Zy (j+1) [0] so2 ⟨rfl,oz,ZaJ hy hb (ZiE g9 ga)⟩ t6 rfl
 try simp only [sQ,ne_eq] at g8
 refine ZA (ZP (ZC (Zs (Zm (Za (xA (h:=Ze ?_)))))))
 exact eR t1 ⟨Zc (Zna g1 g2 g3 g4 (Zc5 (ZaR oz ha)) (Zc5 (ZaR oz hb))).symm,rfl,rfl⟩

theorem Zmx (q:Option Addr) (cp:Nat) (gs:List DGrant) (B:Kn) (hg:SlK B q cp 2 Z1 gs):Zx (pj J) 206 [.slice q gs.length cp] B [] (ZlI gs B):=by
 refine cB 46 Tryz.func206 (h:=?_)
 have hgn:=hg.len
 refine Za (xA (h:=xA (h:=Zd (Za (xM (h:=xV Tryz.underlying82 (h:=Zd4 (h:=Zb rfl (fun g0=>?_) (fun g0=>?_)))))))))
 try simp only [sQ,ne_eq] at g0
 refine Za (xA (h:=xA (h:=Ze (Zl ?_))))
 exact Zhj .ret (.inl rfl) [_,_] t2 (by simp [ZcU];omega)
 try simp only [sQ,ne_eq] at g0
 refine wSk (Za (Zk (ZnR rfl rfl (fun b1 l1 hl1=>xA (h:=tL1 (Za (xA (h:=Zd (Za (xM (h:=xV Tryz.underlying82 (h:=xM (h:=Zh (Zv (α:=Nat × Str × Cells) [0,4,10,12,13] (fun g=>[(5,str g.2.1),(14,.int .i64 g.1)]) [0] (fun g=>[g.2.2]) (fun g Bx=>Bx=B∧g.1≤gs.length∧Zcg (gs.take g.1)=(true,g.2.1)∧g.2.1.length≤2000000∧Zue g.2.2 b1 (Zec (gs.take g.1))) (fun g=>gs.length - g.1) (0,[],_) t2 rfl (⟨rfl,Nat.zero_le _,Ze0,by simp,hl1⟩) (fun g B2 hle2 hI=>?_)))))))))))))))
 obtain ⟨rfl,hk,hs,hnm,hml⟩:=hI
 refine Zz [(0,_),(4,_),(5,_),(10,_),(12,_),(13,_),(14,_)] [_] t7 rfl (Za (ZB (h:=Zd (Zb rfl (fun g1=>?_) (fun g1=>?_)))))
 try simp only [sQ,ne_eq] at g1
 refine wSk (Zd (Zh (Za ?_)))
 obtain ⟨m,hm⟩:=ZM (xs:=gs) (i:=g.1) om
 obtain ⟨bb4,oo4,rfl⟩:=hg.base hm
 obtain ⟨_,⟨rfl,hb5⟩,hc5⟩:=hg.elem hm
 refine xIx Tryz.underlying82 Zd0 (h:=yL [_,_] ZoX hc5 0 (h:=xAl [_,_] ZnF (h:=fun b6=>xS [_,_] 1 [_,_] Zd0 (h:=tL2 (Zd (Za (xW Zb3 (h:=x1 lk9 1 (h:=xR Zke rfl (ZbB _ om2 _) (h:=?_))))))))))
 refine xN (h:=xM (h:=Zt (d:=22) rfl (fun g2=>?_) (fun g2=>?_)))
 try simp only [sQ,ne_eq] at g2
 refine xP (h:=xP (h:=xP (h:=xP (h:=xT (h:=Zb (t:=true) rfl (fun _=>Za (xA (h:=xA (h:=Ze (Zl (Zu (Zl (ZF (Zu (Zl ?_)))))))))) (fun h=>Bool.noConfusion h))))))
 exact Zhj .ret (.inl rfl) [_,_] t2 (ZcR hm hs (by rw [ZbD,Zba g.2.1 m.user];simp [g2];try omega))
 try simp only [sQ,ne_eq] at g2
 refine xW Zb3 (h:=x1 lk9 1 (h:=xM (h:=Zk (Zsp rfl rfl rfl rfl (xF (h:=Zb rfl (fun g3=>?_) (fun g3=>?_)))))))
 try simp only [sQ,ne_eq] at g3
 refine Za (xA (h:=xA (h:=Ze (Zl (Zu (Zl (ZF (Zu (Zl ?_)))))))))
 exact Zhj .ret (.inl rfl) [_,_] t2 (ZcR hm hs (by rw [ZbD,Zba g.2.1 m.user];simp [g3];try omega))
 try simp only [sQ,ne_eq] at g3
 refine wSk (Zd (Za (xW Zc9 (h:=x1 lk3 1 (h:=ZB (h:=xM (h:=Zt (d:=31) rfl (fun g4=>?_) (fun g4=>?_))))))))
 try simp only [sQ,ne_eq] at g4
 refine xP (h:=xP (h:=xP (h:=xP (h:=xT (h:=Zb (t:=true) rfl (fun _=>Za (xA (h:=xA (h:=Ze (Zl (Zu (Zl (ZF (Zu (Zl ?_)))))))))) (fun h=>Bool.noConfusion h))))))
 exact Zhj .ret (.inl rfl) [_,_] t2 (ZcR hm hs (by rw [ZbD,Zba g.2.1 m.user];simp [g4];try omega))
 try simp only [sQ,ne_eq] at g4
 refine xW Zc9 (h:=x1 lk3 1 (h:=xR Zw7 rfl (Zq0 _ _) (h:=xN (h:=xF (h:=Zb rfl (fun g5=>?_) (fun g5=>?_))))))
 try simp only [sQ,ne_eq] at g5
 refine Za (xA (h:=xA (h:=Ze (Zl (Zu (Zl (ZF (Zu (Zl ?_)))))))))
 exact Zhj .ret (.inl rfl) [_,_] t2 (ZcR hm hs (Bool.eq_false_iff.2 fun hc=>by simp only [ZbD,Bool.and_eq_true,decide_eq_true_eq] at hc;simp only [Bool.and_eq_false_iff,decide_eq_false_iff_not] at g5;omega))
 try simp only [sQ,ne_eq] at g5
 refine wSk (Za (xM (h:=xW Zb3 (h:=x1 lk9 1 (h:=xW Zc9 (h:=x1 lk3 1 (h:=Zk (ZkB (k:=m.user) (v:=m.rights) 0 rfl hml rfl rfl Tryz.underlying281 Tryz.underlying9 rfl rfl rfl (fun l9 hl9=>tL2 (Zf (xW Zb3 (h:=x1 lk9 1 (h:=xA (h:=ZI (Zm (Zf (xD (h:=xM (h:=?_)))))))))))))))))))
 exact Zy (g.1+1,m.user,l9) [0] so2 ⟨rfl,so,Zb9 hm hs (by rw [ZbD,Zba g.2.1 m.user,g2,g3];simp at g5 ⊢;omega),oy,by rw [← ZtB hm hs (by rw [Zba g.2.1 m.user,g3];rfl)];exact hl9⟩ t7 rfl
 try simp only [sQ,ne_eq] at g1
 refine ZA (ZP (ZC (Zs (Zm (Za (xM (h:=xA (h:=xA (h:=Ze ?_)))))))))
 exact Zt1 .ret (.inl rfl) [_,_] rfl t2 (by rw [Zkt (ZdE hs oz)];simp;omega) (by have e:=hml;rw [List.take_of_length_le oz] at e;exact e)

theorem Zo7 (q:Option Addr) (cp:Nat) (gs:List DGrant) (B:Kn) (hg:SlK B q cp 2 Z1 gs):Z0 (pj J) 184 [.slice q gs.length cp] B (.bool (ZcU gs)):=by
 refine cB 11 Tryz.func184 (h:=?_)
 refine Za (xA (h:=Za (xM (h:=xC ZvC rfl (Zmx _ _ _ _ hg) (h:=?_)))))
 rintro _ B1 _ hle1 ⟨m1,l1,rfl,rfl,rfl,hl1⟩
 refine xM (h:=xE (h:=xE (h:=xA (h:=xA (h:=tL1 (Za (xM (h:=xA (h:=Ze ?_)))))))))
 exact eR t1 ⟨rfl,rfl,rfl⟩

theorem ZvM (a b:Str) (B:Kn):Z0 (pj J) 223 [str a,str b] B (.int .i64 (Lib.compareBytes a b)):=by
 refine cB 8 Tryz.func223 (h:=?_)
 refine Za (xA (h:=Za (xM (h:=xM (h:=Zk (Zwp (fn:=Tryz.f268) rfl rfl Tryz.func268 rfl rfl Zvu Zvv rfl rfl (xA (h:=Ze ?_))))))))
 exact eR t1 ⟨rfl,rfl,rfl⟩

theorem ZsP (a b:Str) (B:Kn):Z0 (pj J) 179 [str a,str b] B (.int .i64 (Lib.compareBytes a b)):=by
 refine cB 8 Tryz.func179 (h:=?_)
 refine Za (xA (h:=Za (xM (h:=xM (h:=xR Zxf rfl (ZvM a b _) (h:=xA (h:=Ze ?_)))))))
 exact eR t1 ⟨rfl,rfl,rfl⟩

theorem Zls (f:DFolder) (qa qb:Option Addr) (ca cb:Nat) (ow nm:Str) (B:Kn):Z0 (pj J) 125 [.agg #[str f.owner,str f.name,.slice qa f.grants.length ca,.int .i64 f.next,.slice qb f.mail.length cb],str ow,str nm] B (.int .i64 (ZvL f ow nm)):=by
 refine cB 19 Tryz.func125 (h:=?_)
 refine Za (xBx [_,_,_,_,_] (h:=fun b1=>xA (h:=tL1 (Zd (Za (xW ZbS (h:=x1 lk9 0 (h:=xM (h:=xR ZvD rfl (ZsP f.owner ow _) (h:=xA (h:=Za (xM (h:=Zar (h:=Zb rfl (fun g1=>?_) (fun g1=>?_)))))))))))))))
 try simp only [sQ,ne_eq] at g1
 refine Za (xM (h:=xA (h:=Ze (Zl ?_))))
 exact eR t1 ⟨ZE (by rw [ZvL,if_pos g1]),rfl,rfl⟩
 try simp only [sQ,ne_eq] at g1
 refine wSk (Za (xW ZdW (h:=x1 lk9 0 (h:=xM (h:=xR ZvD rfl (ZsP f.name nm _) (h:=xA (h:=Ze ?_)))))))
 exact eR t1 ⟨ZE (by rw [ZvL,if_neg (fun h=>h g1)]),rfl,rfl⟩

theorem ZuI (b o:Nat) (q1 q2 q3:Option Addr) (c1 c2 c3:Nat) (x:DHost) (u:Str) (B:Kn) (hh:Zai B b o [str x.domain,.slice q1 x.users.length c1,.slice q2 x.folders.length c2,.int .i64 x.queue.next,.slice q3 x.queue.items.length c3]) (hf:SlK B q2 c2 5 ZG x.folders):Z0 (pj J) 163 [ptr ⟨b,o,none⟩,str u] B (.int .i64 (ZeV x.folders u)):=by
 refine cB 28 Tryz.func163 (h:=?_)
 have hfn:=hf.len
 refine Za (xA (h:=Za (xA (h:=Zd (Za (xM (h:=xNc (h:=xW ZaB (h:=Zk (Zn rfl rfl Zfs rfl (hh _ 2 _ rfl) (xV Tryz.underlying39 (h:=xM (h:=Zh (Zv (α:=Nat × Int) [0,1,4,11,12] (fun g=>[(5,.int .i64 g.2),(13,.int .i64 g.1)]) [] (fun g=>[]) (fun g Bx=>Bx=B∧g.1≤x.folders.length∧g.2=ZeV (x.folders.take g.1) u∧-1*g.1≤g.2∧g.2≤g.1*200) (fun g=>x.folders.length - g.1) (0,0) t2 rfl (⟨rfl,Nat.zero_le _,by simp [ZeV],by simp,by simp⟩) (fun g B1 hle1 hI=>?_)))))))))))))))
 obtain ⟨rfl,hk,hs,hl0,hl1⟩:=hI
 refine Zz [(0,_),(1,_),(4,_),(5,_),(11,_),(12,_),(13,_)] [] t7 rfl (Za (ZB (h:=Zd (Zb rfl (fun g1=>?_) (fun g1=>?_)))))
 try simp only [sQ,ne_eq] at g1
 refine wSk (Zd (Zh (Za ?_)))
 obtain ⟨m,hm⟩:=ZM (xs:=x.folders) (i:=g.1) om
 obtain ⟨bb3,oo3,rfl⟩:=hf.base hm
 obtain ⟨_,⟨qg4,cg4,qm4,cm4,rfl,hg4,hm4,hb4,hb4b⟩,hc4⟩:=hf.elem hm
 have hg4n:=hg4.len
 have hm4n:=hm4.len
 have hm4s:=Zal hm4
 refine xIx Tryz.underlying39 ZdS (h:=yL [_,_,_,_,_] ZiA hc4 0 (h:=xAl [_,_,_,_,_] Zny (h:=fun b5=>xS [_,_,_,_,_] 0 [_,_,_,_,_] ZdS (h:=tL1 (Za (xW ZbS (h:=x1 lk9 0 (h:=xM (h:=Zdc (h:=Zb rfl (fun g2=>?_) (fun g2=>?_)))))))))))
 try simp only [sQ,ne_eq] at g2
 have hbs:=Zid (⟨m.next,m.mail⟩:DBox)
 refine Zf (xM (h:=xW Zc1 (h:=xL [_,_] ZnB 0 (h:=xR Zxk rfl (Zp7 _ _ (⟨m.next,m.mail⟩:DBox) _ hm4) (h:=xD (h:=xA (h:=ZI (Zm (Zf (xD (h:=xM (h:=?_))))))))))))
 exact Zy (g.1+1,g.2+Zdb ⟨m.next,m.mail⟩) [] so2 ⟨rfl,so,by rw [ZhI hm,← hs,if_pos g2],so,so⟩ t7 rfl
 try simp only [sQ,ne_eq] at g2
 refine ZL (ZI (Zm (Zf (xD (h:=xM (h:=?_))))))
 exact Zy (g.1+1,g.2) [] so2 ⟨rfl,so,by rw [ZhI hm,← hs,if_neg g2,Int.add_zero],so,so⟩ t7 rfl
 try simp only [sQ,ne_eq] at g1
 refine ZA (ZP (ZC (Zs (Zm (Za (xM (h:=xA (h:=Ze ?_))))))))
 exact eR t1 ⟨ZE (by rw [← Zn1 hs oz]),rfl,rfl⟩

theorem ZpG (b o:Nat) (q1 q2 q3:Option Addr) (c1 c2 c3:Nat) (x:DHost) (u:Str) (more:Int) (hn:u.length≤2000000) (hm0:0≤more) (hm1:more≤2000000) (B:Kn) (hh:Zai B b o [str x.domain,.slice q1 x.users.length c1,.slice q2 x.folders.length c2,.int .i64 x.queue.next,.slice q3 x.queue.items.length c3]) (hu:SlK B q1 c1 3 ZJ x.users) (hf:SlK B q2 c2 5 ZG x.folders):Z0 (pj J) 115 [ptr ⟨b,o,none⟩,str u,.int .i64 more] B (.bool (ZdP x u more)):=by
 refine cB 30 Tryz.func115 (h:=?_)
 have hfn:=hf.len
 have hub:=ZqK x.folders u
 refine Za (xA (h:=Za (xM (h:=xNc (h:=xW ZbU (h:=Zk (Zn rfl rfl ZjW rfl (hh _ 1 _ rfl) (xM (h:=xR ZvE rfl (ZgP _ _ _ u om2 _ hu) (h:=?_))))))))))
 refine xM (h:=xE (h:=xE (h:=xAl [_,_,_] Zfc (h:=fun b2=>xS [_,_,_] 0 [_,_,_] ZbQ (h:=xA (h:=tL1 (Zd (ZY (same _ _) mo kr ⟨rfl,rfl⟩ (fun _ _=>?_)))))))))
 refine aM 0 rfl (h:=aN 1 rfl (h:=aM 2 rfl (h:=Zaq (d:=20) rfl (fun g1=>?_) (fun g1=>?_))))
 refine aZ 3 rfl (h:=aZ 4 rfl (h:=aZ 5 rfl (h:=aZ 6 rfl (h:=aZ 7 rfl (h:=aZ 8 rfl (h:=aZ 9 rfl (h:=aZ 10 rfl (h:=aPT 11 rfl (h:=aA 12 rfl (h:=Zw kr kr ?_))))))))))
 refine Zm (Ze ?_)
 exact eR t1 ⟨Zc (by rw [ZdP,g1];rfl),rfl,rfl⟩
 refine aM 3 rfl (h:=aM 4 rfl (h:=aT 5 rfl (Z9 fun D=>Zaa rfl rfl ZxM rfl (ZuI _ _ _ _ _ _ _ _ x u _ hh hf) r4) (h:=aM 6 rfl (h:=aD 7 rfl (h:=aW 8 rfl ZdL (h:=aT 9 rfl (Z9 fun D=>Zn rfl rfl lk3 rfl (atL 0 rfl rfl rfl) r4) (h:=Zqf 10 rfl (h:=aPF 11 rfl (h:=aA 12 rfl (h:=Zw kr kr ?_))))))))))
 refine Zm (Ze ?_)
 exact eR t1 ⟨Zc (by rw [ZdP,g1];rfl),rfl,rfl⟩

theorem ZmD (b o:Nat) (q1 q2 q3:Option Addr) (c1 c2 c3:Nat) (x:DHost) (B:Kn) (hh:Zai B b o [str x.domain,.slice q1 x.users.length c1,.slice q2 x.folders.length c2,.int .i64 x.queue.next,.slice q3 x.queue.items.length c3]) (hu:SlK B q1 c1 3 ZJ x.users) (hf:SlK B q2 c2 5 ZG x.folders):Z0 (pj J) 127 [ptr ⟨b,o,none⟩] B (.bool (ZgO x)):=by
 refine cB 26 Tryz.func127 (h:=?_)
 have hfn:=hf.len
 have hun:=hu.len
 refine Za (xA (h:=Zd (Za (xM (h:=xNc (h:=xW ZbU (h:=Zk (Zn rfl rfl ZjW rfl (hh _ 1 _ rfl) (xV Tryz.underlying38 (h:=xM (h:=Zh (Zv (α:=Nat) [0,8,9] (fun k=>[(10,.int .i64 k)]) [] (fun k=>[]) (fun k Bx=>Bx=B∧k≤x.users.length∧∀z,z∈x.users.take k→Zb8 x z=true) (fun k=>x.users.length - k) 0 t1 rfl (⟨rfl,Nat.zero_le _,by simp⟩) (fun k B1 hle1 hI=>?_)))))))))))))
 obtain ⟨rfl,hk,ha⟩:=hI
 refine Zz [(0,_),(8,_),(9,_),(10,_)] [] t4 rfl (Za (ZB (h:=Zd (Zb rfl (fun g1=>?_) (fun g1=>?_)))))
 try simp only [sQ,ne_eq] at g1
 refine wSk (Zd (Zh (Za ?_)))
 obtain ⟨w,hw⟩:=ZM (xs:=x.users) (i:=k) om
 obtain ⟨bb3,oo3,rfl⟩:=hu.base hw
 obtain ⟨_,⟨rfl,hb4,hb4b⟩,hc4⟩:=hu.elem hw
 refine xIx Tryz.underlying38 ZbQ (h:=yL [_,_,_] ZeF hc4 0 (h:=xAl [_,_,_] Zfc (h:=fun b5=>xS [_,_,_] 0 [_,_,_] ZbQ (h:=tL1 (Za (xM (h:=xW ZaZ (h:=x1 lk9 0 (h:=xR ZvH rfl (ZsO _ _ _ _ _ _ _ _ x w.name [105,110,98,111,120] om2 om2 _ hh hf) (h:=?_))))))))))
 refine ZB (h:=xM (h:=Zt (d:=19) rfl (fun g2=>?_) (fun g2=>?_)))
 try simp only [sQ,ne_eq] at g2
 refine xP (h:=xP (h:=xP (h:=xP (h:=xT (h:=Zb (t:=true) rfl (fun _=>Za (xA (h:=Ze (Zu (Zl (ZF (Zu (Zl ?_)))))))) (fun h=>Bool.noConfusion h))))))
 exact eR t1 ⟨Zc (Zbr hw (Zjr g2)).symm,rfl,rfl⟩
 try simp only [sQ,ne_eq] at g2
 refine xM (h:=xW ZaZ (h:=x1 lk9 0 (h:=xR Zyl rfl (ZpG _ _ _ _ _ _ _ _ x w.name 0 om2 om2 om2 _ hh hu hf) (h:=?_))))
 refine xF (h:=Zb rfl (fun g3=>?_) (fun g3=>?_))
 try simp only [sQ,ne_eq] at g3
 refine Za (xA (h:=Ze (Zu (Zl (ZF (Zu (Zl ?_)))))))
 exact eR t1 ⟨Zc (Zbr hw (Zjq g3)).symm,rfl,rfl⟩
 try simp only [sQ,ne_eq] at g3
 refine ZL (ZI (Zm (Zf (xD (h:=xM (h:=?_))))))
 exact Zy (k+1) [] so2 ⟨rfl,oz,ZaJ hw ha (Zjp g2 g3)⟩ t4 rfl
 try simp only [sQ,ne_eq] at g1
 refine ZA (ZP (ZC (Zs (Zm (Za (xA (h:=Ze ?_)))))))
 exact eR t1 ⟨Zc (Zc5 (ZaR oz ha)).symm,rfl,rfl⟩

theorem Zru (q:Option Addr) (cp:Nat) (bs:List Bool) (v:Bool) (B:Kn) (hb:SlK B q cp 1 Zug bs):Z0 (pj J) 242 [.slice q bs.length cp,.bool v] B (.int .i64 (Zbe (fun y=>decide (v=y)) bs)):=by
 refine cB 19 Tryz.func242 (h:=?_)
 have hbn:=hb.len
 refine Za (xA (h:=Zd (Za (xM (h:=xV Tryz.underlying253 (h:=xM (h:=Zh (Zv (α:=Nat) [0,1,7] (fun k=>[(8,.int .i64 k)]) [] (fun k=>[]) (fun k Bx=>Bx=B∧k≤bs.length∧∀y,y∈bs.take k→decide (v=y)=false) (fun k=>bs.length - k) 0 t1 rfl (⟨rfl,Nat.zero_le _,by simp⟩) (fun k B1 hle1 hI=>?_)))))))))
 obtain ⟨rfl,hk,ha⟩:=hI
 refine Zz [(0,_),(1,_),(7,_),(8,_)] [] t4 rfl (Za (ZB (h:=Zd (Zb rfl (fun g1=>?_) (fun g1=>?_)))))
 try simp only [sQ,ne_eq] at g1
 refine wSk (Zd (Zh (Za (xM (h:=xA (h:=Za (xM (h:=xM (h:=xM (h:=?_))))))))))
 obtain ⟨y,hy⟩:=ZM (xs:=bs) (i:=k) om
 obtain ⟨bb3,oo3,rfl⟩:=hb.base hy
 obtain ⟨_,rfl,hc4⟩:=hb.elem hy
 refine xIx Tryz.underlying253 sz4 (h:=y1 lk4 hc4 0 (h:=Zk (ZuC rfl rfl rfl rfl rfl (ZvA Tryz.underlying4) (Zb rfl (fun g2=>?_) (fun g2=>?_)))))
 try simp only [sQ,ne_eq] at g2
 refine Za (xM (h:=xA (h:=Ze (Zu (Zl (ZF (Zu (Zl ?_))))))))
 exact eR t1 ⟨ZE (Zgz hy (decide_eq_true g2) ha).symm,rfl,rfl⟩
 try simp only [sQ,ne_eq] at g2
 refine ZL (ZI (Zm (Zf (xD (h:=xM (h:=?_))))))
 exact Zy (k+1) [] so2 ⟨rfl,oz,ZaJ hy ha (decide_eq_false g2)⟩ t4 rfl
 try simp only [sQ,ne_eq] at g1
 refine ZA (ZP (ZC (Zs (Zm (Za (xA (h:=Ze ?_)))))))
 exact eR t1 ⟨ZE (Zee (ZaR oz ha)).symm,rfl,rfl⟩

theorem ZlA (q:Option Addr) (cp:Nat) (bs:List Bool) (v:Bool) (B:Kn) (hb:SlK B q cp 1 Zug bs):Z0 (pj J) 186 [.slice q bs.length cp,.bool v] B (.bool (decide (0≤Zbe (fun y=>decide (v=y)) bs))):=by
 refine cB 9 Tryz.func186 (h:=?_)
 refine Za (xA (h:=Za (xM (h:=xM (h:=xR Zxe rfl (Zru _ _ _ _ _ hb) (h:=ZdY (h:=xA (h:=Ze ?_))))))))
 exact eR t1 ⟨rfl,rfl,rfl⟩

theorem Zj3 (l:Str) (hl:l.length≤2000000) (B:Kn):Z0 (pj J) 122 [str l] B (.bool (Zch l)):=by
 refine cB 16 Tryz.func122 (h:=?_)
 refine Za (xA (h:=Za (xM (h:=xB [(0,_)] [_,_] [_,_] Zu0 Zqo (h:=xAl [_,_] Zqo (h:=fun b1=>xS [_,_] 0 [_,_] ZuT (h:=tL1 (Za (Zk (ZhG 0 rfl rfl rfl ZxK rfl (ZrW _ _ 0 oz oz _) ?_))))))))))
 refine xM (h:=xE (h:=xE (h:=xA (h:=xA (h:=Za (xM (h:=xM (h:=Zt (d:=13) rfl (fun g1=>?_) (fun g1=>?_)))))))))
 refine Zk (Zd6 0 rfl rfl rfl ZrT rfl (Zmr _ _ (dom l 0).2 (ZvK (Nat.zero_le _)) oz _) ?_)
 refine xT (h:=xA (h:=Ze ?_))
 exact eR t1 ⟨Zc (by rw [Bool.eq_iff_iff,← Zkf];simp [Zly] at g1;simp [g1];try omega),rfl,rfl⟩
 refine xP (h:=xF (h:=xA (h:=Ze ?_)))
 exact eR t1 ⟨Zc (by symm;rw [Bool.eq_false_iff,ne_eq,← Zkf];intro hc;simp [Zly,hc.1] at g1;omega),rfl,rfl⟩

theorem ZiL (Wg C n i b o b1 b3 b5 b6:Nat) (q1 q2 q3:Option Addr) (c1 c2 c3:Nat) (x:DHost) (m:DFolder) (qg qm:Option Addr) (cg cm:Nat) (hin:i<n) (B:Kn) (hc900:Zai B b o [str x.domain,.slice q1 x.users.length c1,.slice q2 x.folders.length c2,.int .i64 x.queue.next,.slice q3 x.queue.items.length c3]) (hu:SlK B q1 c1 3 ZJ x.users) (hc901:Zai B b1 0 [ptr ⟨b,o,none⟩]) (hc903:Zai B b3 0 [.slice (some ⟨C,0,none⟩) n n]) (hc905:Zai B b5 0 [.int .i64 i]) (hc906:Zai B b6 0 [str m.owner,str m.name,.slice qg m.grants.length cg,.int .i64 m.next,.slice qm m.mail.length cm]) (hg:SlK B qg cg 2 Z1 m.grants) (hm:SlK B qm cm 3 Zao m.mail) (ho:m.owner.length≤2000000) (hnm:m.name.length≤2000000):@ZdR ⟨4⟩ Tryz.prog wgL.tWg Wg C n i (.bool (Zat x.users m)) (Go.Conc.G (Frame.enter Tryz.prog 181 #[ptr ⟨Wg,0,none⟩,ptr ⟨b1,0,none⟩,ptr ⟨b6,0,none⟩,ptr ⟨b3,0,none⟩,ptr ⟨b5,0,none⟩] .deferred) [Ze8 Tryz.prog]) B []:=by
 letI:Go.ConcR.Payload:=⟨4⟩
 refine ZsX (Lk:=wgL) (P:=Tryz.prog) (caps:=[ptr ⟨Wg,0,none⟩,ptr ⟨b1,0,none⟩,ptr ⟨b6,0,none⟩,ptr ⟨b3,0,none⟩,ptr ⟨b5,0,none⟩]) (nt:=27) (I:=keeps B [] []) (K:=fun _ _ _ _=>False) ZkA Tryz.func181 rfl rfl (Nat.le_of_ble_eq_true rfl) rfl mo kr ⟨Kn.le.refl _,Za3.refl _ _⟩ (fun _ _ _ _ h=>h) ?_
 refine aT 0 rfl (ZW fun D B L hI=>Zn rfl rfl Zvd rfl ((hc903.mono hI.1) _ 0 _ rfl) r4) (h:=aT 1 rfl (ZW fun D B L hI=>Zn rfl rfl lk3 rfl ((hc905.mono hI.1) _ 0 _ rfl) r4) (h:=aT 2 rfl (ZW fun D B L hI=>Zn rfl rfl ZwH rfl ((hc901.mono hI.1) _ 0 _ rfl) r4) (h:=aW 3 rfl ZbS (h:=aT 4 rfl (ZW fun D B L hI=>Zn rfl rfl lk9 rfl ((hc906.mono hI.1) _ 0 _ rfl) r4) (h:=aT 5 rfl (ZW fun D B L hI=>Zaa rfl rfl ZrU rfl (Zgy _ _ _ _ _ _ _ _ x m.owner om2 _ (hc900.mono hI.1) (hu.mono ZJ.mono hI.1)) r4) (h:=?_))))))
 refine aM 6 rfl (h:=Zaq (d:=11) rfl (fun g1=>?_) (fun g1=>?_))
 refine aW 7 rfl ZdW (h:=aT 8 rfl (ZW fun D B L hI=>Zn rfl rfl lk9 rfl ((hc906.mono hI.1) _ 1 _ rfl) r4) (h:=aT 9 rfl (ZW fun D B L hI=>Zaa rfl rfl Zke rfl (ZbB _ om2 _) r4) (h:=?_)))
 refine aPT 10 rfl (h:=aM 11 rfl (h:=Zaq (d:=16) rfl (fun g2=>?_) (fun g2=>?_)))
 refine aW 12 rfl ZeM (h:=aT 13 rfl (ZW fun D B L hI=>Zn rfl rfl ZsB rfl ((hc906.mono hI.1) _ 2 _ rfl) r4) (h:=aT 14 rfl (ZW fun D B L hI=>Zaa rfl rfl ZxF rfl (Zo7 _ _ _ _ (hg.mono Z1.mono hI.1)) r4) (h:=aPT 15 rfl (h:=aM 16 rfl (h:=Zaq (d:=21) rfl (fun g3=>?_) (fun g3=>?_))))))
 refine aW 17 rfl Zc1 (h:=aT 18 rfl (ZW fun D B L hI=>ZR [_,_] rfl rfl ZnB rfl (Zi8 (hc906.mono hI.1) 3 rfl rfl) r4) (h:=aT 19 rfl (ZW fun D B L hI=>Zaa rfl rfl ZvJ rfl (Zj4 _ _ (⟨m.next,m.mail⟩:DBox) _ (hm.mono Zao.mono hI.1)) r4) (h:=aPT 20 rfl (h:=aT 21 rfl (ZW fun D B L hI=>Zbt rfl rfl Tryz.underlying253 sz4 rfl rfl oz oz r4) (h:=?_)))))
 refine ZgB 22 kr rfl kr kr kr (fun T hn hT=>?_)
 refine Zfd (L:=[]) hT ZkA (by simp [Zat,DFolder.box,g1,g2,g3]) rfl hin rfl Tryz.sizeOf4 (Zcs sz4) (by exact Zgx C i) rfl kr Tryz.func181 rfl
 refine aZ 17 rfl (h:=aZ 18 rfl (h:=aZ 19 rfl (h:=aPF 20 rfl (h:=aT 21 rfl (ZW fun D B L hI=>Zbt rfl rfl Tryz.underlying253 sz4 rfl rfl oz oz r4) (h:=?_)))))
 refine ZgB 22 kr rfl kr kr kr (fun T hn hT=>?_)
 refine Zfd (L:=[]) hT ZkA (by simp [Zat,DFolder.box,g1,g2,g3]) rfl hin rfl Tryz.sizeOf4 (Zcs sz4) (by exact Zgx C i) rfl kr Tryz.func181 rfl
 refine aZ 12 rfl (h:=aZ 13 rfl (h:=aZ 14 rfl (h:=aPF 15 rfl (h:=aM 16 rfl (h:=aZ 17 rfl (h:=aZ 18 rfl (h:=aZ 19 rfl (h:=aPF 20 rfl (h:=aT 21 rfl (ZW fun D B L hI=>Zbt rfl rfl Tryz.underlying253 sz4 rfl rfl oz oz r4) (h:=?_))))))))))
 refine ZgB 22 kr rfl kr kr kr (fun T hn hT=>?_)
 refine Zfd (L:=[]) hT ZkA (by simp [Zat,DFolder.box,g1,g2]) rfl hin rfl Tryz.sizeOf4 (Zcs sz4) (by exact Zgx C i) rfl kr Tryz.func181 rfl
 refine aZ 7 rfl (h:=aZ 8 rfl (h:=aZ 9 rfl (h:=aPF 10 rfl (h:=aM 11 rfl (h:=aZ 12 rfl (h:=aZ 13 rfl (h:=aZ 14 rfl (h:=aPF 15 rfl (h:=aM 16 rfl (h:=aZ 17 rfl (h:=aZ 18 rfl (h:=aZ 19 rfl (h:=aPF 20 rfl (h:=aT 21 rfl (ZW fun D B L hI=>Zbt rfl rfl Tryz.underlying253 sz4 rfl rfl oz oz r4) (h:=?_)))))))))))))))
 refine ZgB 22 kr rfl kr kr kr (fun T hn hT=>?_)
 refine Zfd (L:=[]) hT ZkA (by simp [Zat,DFolder.box,g1]) rfl hin rfl Tryz.sizeOf4 (Zcs sz4) (by exact Zgx C i) rfl kr Tryz.func181 rfl

theorem ZhC (hJ:Joins Tryz.prog J) (b o:Nat) (q1 q2 q3:Option Addr) (c1 c2 c3:Nat) (x:DHost) (B:Kn) (hc900:Zai B b o [str x.domain,.slice q1 x.users.length c1,.slice q2 x.folders.length c2,.int .i64 x.queue.next,.slice q3 x.queue.items.length c3]) (hu:SlK B q1 c1 3 ZJ x.users) (hf:SlK B q2 c2 5 ZG x.folders):Zx (pj J) 126 [ptr ⟨b,o,none⟩] B [] (fun v B' Ls=>Ls=[]∧v = .bool (x.folders.all (Zat x.users))):=by
 have hfn:=hf.len
 letI:Go.ConcR.Payload:=⟨4⟩
 refine ZgA 30 Tryz.func126 rfl rfl (Nat.le_of_ble_eq_true rfl) fun X kind c cs F T0 hk hke hA hn0 hT0=>?_
 let C0:Cx (pj J):=⟨X,fb 126 kind,c :: cs,F,hke⟩
 refine ZaX (C:=C0) (L:=[]) (Zib (C:=C0) (L:=[]) hn0 hT0 (xBx [_] (h:=fun b1=>xA (h:=?_))))
 intro T1 hn1 hT1
 refine Zkh (C:=C0) rfl 0 rfl fun B1 hle1 hm1=>?_
 have hc901:=Za4 hm1
 replace hc900:=hc900.mono hle1
 obtain ⟨hu,hf⟩:=up2 hle1 hu hf
 replace hA:=fun v B' Ls' h=>hA v B' Ls' (hle1.trans h)
 refine ZaX (C:=C0) (L:=[[]]) (Zib (C:=C0) (L:=[[]]) hn1 hT1 (y1 ZwH hc901 0 (h:=xNc (h:=xW ZaB (h:=y1 Zfs hc900 2 (h:=xV Tryz.underlying39 (h:=Zk (ZaQ (m:=x.folders.length) (c:=x.folders.length) (by_:=1) [.bool false] rfl rfl ZwT zo4 rfl rfl ⟨_,_,rfl,rfl⟩ ⟨_,_,rfl,rfl⟩ (Nat.le_refl _) oz (fun Cb=>?_)))))))))
 refine xAl [_] Zwg (h:=fun b2=>xS [_] 2 [_] Zwy (h:=?_))
 intro T2 hn2 hT2
 refine Zkh (C:=C0) rfl 2 rfl fun B2 hle2 hm2=>?_
 have hc903:=Za4 hm2
 replace hc900:=hc900.mono hle2
 obtain ⟨hu,hf⟩:=up2 hle2 hu hf
 replace hc901:=hc901.mono hle2
 replace hA:=fun v B' Ls' h=>hA v B' Ls' (hle2.trans h)
 refine ZaX (C:=C0) (L:=[[],ZN Cb (zrow [.bool false] x.folders.length) 4,[]]) (Zan (C:=C0) (L:=[[],ZN Cb (zrow [.bool false] x.folders.length) 4,[]]) (Zq6 (C:=Cb) (n:=x.folders.length) (val:=Zql x) (L₁:=F) (cells:=(zrow [.bool false] x.folders.length).toArray) (i:=0) (todo:=[]) hJ rfl hke Zwf rfl oz (by simp [ZbF]) (.refl _) (fun hmain Wg hW1 hW2=>?_)))
 let C1:Cx (.lone Tryz.prog):=⟨phL Tryz.prog 260 Wg Cb x.folders.length (Zql x) X.R .a5 (0),fb 126 kind,c :: cs,F,hke⟩
 have hT3:=hT2.putT (n:=30) (dst:=some 4) hn2 rfl (ptr ⟨Wg,0,none⟩)
 have hn3:(putT T2 (some 4) (ptr ⟨Wg,0,none⟩)).size=30:=by rw [Zab,hn2]
 refine ZQ (C:=C1) (L:=[]) (ZaX (C:=C1) (L:=[]) (ZaX (C:=C1) (L:=[]) (Zib (C:=C1) (L:=[]) hn3 hT3 (y1 ZwH hc901 0 (h:=xNc (h:=xW ZaB (h:=y1 Zfs hc900 2 (h:=xV Tryz.underlying39 (h:=xM (h:=?_))))))))))
 intro T4 hn4 hT4
 refine Zmt (C:=C1) (L:=[]) (Ztk (nt:=30) (fun j=>[(1,ptr ⟨b1,0,none⟩),(3,ptr ⟨b2,0,none⟩),(4,ptr ⟨Wg,0,none⟩),(16,.slice q2 x.folders.length c2),(17,.int .i64 x.folders.length),(18,.int .i64 ((j:Nat):Int))]) (fun j hj B3 T5 hle3 hn5 hT5 hnext=>?_) hn4 (hT4.sub' t6))
 replace hc900:=hc900.mono hle3
 obtain ⟨hu,hf⟩:=up2 hle3 hu hf
 replace hc901:=hc901.mono hle3
 replace hc903:=hc903.mono hle3
 replace hA:=fun v B' Ls' h=>hA v B' Ls' (hle3.trans h)
 let C2:Cx (.lone Tryz.prog):=⟨phL Tryz.prog 260 Wg Cb x.folders.length (Zql x) X.R .a5 (j),fb 126 kind,c :: cs,F,hke⟩
 refine ZaX (C:=C2) (L:=[]) (Zib (C:=C2) (L:=[]) hn5 hT5 (ZB (h:=?_)))
 intro T6 hn6 hT6
 refine ZaX (C:=C2) (L:=[]) ?_
 rcases Nat.lt_or_ge j x.folders.length with hlt | hge
 refine Zf4 (C:=C2) (L:=[]) (t:=true) (by exact congrArg (fun t=>some (Value.bool t)) (decide_eq_true oz)) hT6 ?_
 refine Zp0 (C:=C2) (L:=[]) (ZaX (C:=C2) (L:=[]) (Zmt (C:=C2) (L:=[]) (ZaX (C:=C2) (L:=[]) (Zib (C:=C2) (L:=[]) hn6 hT6 (xM (h:=?_))))))
 obtain ⟨m,hm⟩:=ZM (xs:=x.folders) (i:=j) om
 obtain ⟨bb4,oo4,rfl⟩:=hf.base hm
 obtain ⟨_,⟨qg5,cg5,qm5,cm5,rfl,hg5,hm5,hb5,hb5b⟩,hc5⟩:=hf.elem hm
 have hg5n:=hg5.len
 have hm5n:=hm5.len
 have hm5s:=Zal hm5
 refine xIx Tryz.underlying39 ZdS (h:=yL [_,_,_,_,_] ZiA hc5 0 (h:=xAl [_] zo3 (h:=fun b6=>xAl [_,_,_,_,_] Zny (h:=fun b7=>xS [_] 0 [_] sz3 (h:=xS [_,_,_,_,_] 1 [_,_,_,_,_] ZdS (h:=?_))))))
 intro T7 hn7 hT7
 refine Zkh (C:=C2) rfl 0 rfl fun B4 hle4 hpm4=>?_
 have hc905:=Za4 hpm4
 refine Zkh (C:=C2) rfl 1 rfl fun B5 hle5 hpm5=>?_
 have hc906:=Za4 hpm5
 replace hc905:=hc905.mono hle5
 replace hc900:=hc900.mono (hle4.trans hle5)
 replace hu:=hu.mono ZJ.mono (hle4.trans hle5)
 replace hc901:=hc901.mono (hle4.trans hle5)
 replace hc903:=hc903.mono (hle4.trans hle5)
 replace hg5:=hg5.mono Z1.mono (hle4.trans hle5)
 replace hm5:=hm5.mono Zao.mono (hle4.trans hle5)
 refine ZaX (C:=C2) (L:=[[],[]]) (Zan (C:=C2) (L:=[[],[]]) (Zu3 (Lk:=wgL) (i:=0) (todo:=[]) ZkA hlt rfl ZxG rfl rfl hT7 hke ?_))
 let C3:Cx (.lone Tryz.prog):=⟨phL Tryz.prog 260 Wg Cb x.folders.length (Zql x) X.R .a2 (j),fb 126 kind,c :: cs,F,hke⟩
 have hT8:=hT7.putT (n:=30) (dst:=(some 23)) hn7 rfl (.tuple #[])
 have hn8:(putT T7 (some 23) (.tuple #[])).size=30:=by rw [Zab,hn7]
 refine ZQ (C:=C3) (L:=[]) (Zan (C:=C3) (L:=[]) (ZbE (C:=C3) (L:=[]) (i:=0) (todo:=[1]) rfl hn8 hT8 (Zk (Zcz (xs:=[]) (ys:=[.tmp 4,.tmp 1,.tmp 6,.tmp 3,.tmp 5]) rfl rfl rfl rfl ?_))))
 intro T9 hn9 hT9
 refine ZwE (i:=1) (todo:=[]) rfl rfl hT9 hke Tryz.func181 rfl rfl (by rw [ZlS hm];exact ZiL Wg Cb x.folders.length j b o b1 b2 b6 b7 _ _ _ _ _ _ x m _ _ _ _ hlt B5 hc900 hu hc901 hc903 hc905 hc906 hg5 hm5 hb5 hb5b) ?_
 let C4:Cx (.lone Tryz.prog):=⟨phL Tryz.prog 260 Wg Cb x.folders.length (Zql x) X.R .a5 (j+1),fb 126 kind,c :: cs,F,hke⟩
 refine ZQ (C:=C4) (L:=[]) (Znn (C:=C4) (L:=[]) ?_)
 have hn10:=hn9
 have hT10:=hT9
 refine Zib (C:=C4) (L:=[]) hn10 hT10 (xD (h:=xM (h:=?_)))
 intro T11 hn11 hT11
 exact hnext hlt _ _ (hle4.trans hle5) hn11 (hT11.sub' t6)
 obtain rfl:j=x.folders.length:=by omega
 refine Zf4 (C:=C2) (L:=[]) (t:=false) (by exact congrArg (fun t=>some (Value.bool t)) (decide_eq_false oz)) hT6 ?_
 refine Zt7 (C:=C2) (L:=[]) (by rfl) ?_
 refine ZaX (C:=C2) (L:=[]) (Zan (C:=C2) (L:=[]) (Ztj (Lk:=wgL) (X:=X) (i:=0) (todo:=[]) ZkA oz rfl ZxE rfl hT6 hke (fun _ _ _ h=>h) ?_))
 have hT7:=hT6.putT (n:=30) (dst:=(some 26)) hn6 rfl (.tuple #[])
 have hn7:(putT T6 (some 26) (.tuple #[])).size=30:=by rw [Zab,hn6]
 refine ZQ (C:=C0) (L:=[[(Cb,Obj.cells ((List.range x.folders.length).map (Zql x)).toArray 4 (0,0))]]) (Zkh (C:=C0) (L:=[[(Cb,Obj.cells ((List.range x.folders.length).map (Zql x)).toArray 4 (0,0))]]) rfl 0 rfl fun B4 hle4 hm4=>?_)
 have hvb:=ZnZ hm4 hfn
 replace hc903:=hc903.mono hle4
 replace hA:=fun v B' Ls' h=>hA v B' Ls' (hle4.trans h)
 refine ZtT Tryz.func126 rfl hk hke hn7 hT7 hA ?_
 rw [show (x.folders.length:Nat)=(x.folders.map (Zat x.users)).length from (List.length_map ..).symm] at hc903
 refine Za (y1 Zvd hc903 0 (h:=xR ZxD rfl (ZlA _ _ _ _ _ hvb) (h:=xN (h:=xA (h:=tL1 (Ze ?_))))))
 exact eR t1 ⟨rfl,congrArg Value.bool Zi5⟩

theorem Zlp (hJ:Joins Tryz.prog J) (q1 q2 q3:Option Addr) (c1 c2 c3:Nat) (x:DHost) (hd:x.domain.length≤2000000) (B:Kn) (hu:SlK B q1 c1 3 ZJ x.users) (hf:SlK B q2 c2 5 ZG x.folders) (hi:SlK B q3 c3 4 ZaA x.queue.items):Zx (pj J) 74 [.agg #[str x.domain,.slice q1 x.users.length c1,.slice q2 x.folders.length c2,.int .i64 x.queue.next,.slice q3 x.queue.items.length c3]] B [] (fun v B' Ls=>Ls=[]∧v = .bool (Zam x)):=by
 refine cB 63 Tryz.func74 (h:=?_)
 rw [← Znb]
 have hfn:=hf.len
 have hun:=hu.len
 have hin:=hi.len
 refine Za (xBx [_,_,_,_,_] (h:=fun b1=>xA (h:=tL1 (ZnN 0 rfl (fun B2 hle2 hpm2=>?_)))))
 have hc2:=Za4 hpm2
 obtain ⟨hu,hf,hi⟩:=up3 hle2 hu hf hi
 refine Zd (Za (xW Zh5 (h:=y1 lk9 hc2 0 (h:=xR Zyj rfl (Zj3 _ om2 _) (h:=?_)))))
 refine xN (h:=xM (h:=Zt (d:=10) rfl (fun g1=>?_) (fun g1=>?_)))
 try simp only [sQ,ne_eq] at g1
 refine xP (h:=xP (h:=xP (h:=xP (h:=xT (h:=xM (h:=xP (h:=xP (h:=xP (h:=xP (h:=xT (h:=xM (h:=xP (h:=xP (h:=xP (h:=xP (h:=xT (h:=tL1 (Zb (t:=true) rfl (fun _=>Za (xA (h:=Ze (Zl ?_)))) (fun h=>Bool.noConfusion h)))))))))))))))))))
 exact eR t1 ⟨rfl,Zc (by simp [ZcK,g1])⟩
 try simp only [sQ,ne_eq] at g1
 refine xW ZbU (h:=y1 ZjW hc2 1 (h:=xR ZvF rfl (Zg3 _ _ _ _ hu) (h:=xN (h:=xF (h:=xM (h:=Zt (d:=16) rfl (fun g2=>?_) (fun g2=>?_)))))))
 try simp only [sQ,ne_eq] at g2
 refine xP (h:=xP (h:=xP (h:=xP (h:=xT (h:=xM (h:=xP (h:=xP (h:=xP (h:=xP (h:=xT (h:=tL1 (Zb (t:=true) rfl (fun _=>Za (xA (h:=Ze (Zl ?_)))) (fun h=>Bool.noConfusion h)))))))))))))
 exact eR t1 ⟨rfl,Zc (by simp [ZcK,g1,g2])⟩
 try simp only [sQ,ne_eq] at g2
 refine xW ZeN (h:=yL [_,_] ZnC hc2 3 (h:=xR Zyi rfl (Zlm _ _ x.queue _ hi) (h:=xN (h:=xF (h:=xM (h:=Zt (d:=22) rfl (fun g3=>?_) (fun g3=>?_)))))))
 try simp only [sQ,ne_eq] at g3
 refine xP (h:=xP (h:=xP (h:=xP (h:=xT (h:=tL1 (Zb (t:=true) rfl (fun _=>Za (xA (h:=Ze (Zl ?_)))) (fun h=>Bool.noConfusion h)))))))
 exact eR t1 ⟨rfl,Zc (by simp [ZcK,g1,g2,g3])⟩
 try simp only [sQ,ne_eq] at g3
 refine xW ZaB (h:=y1 Zfs hc2 2 (h:=xV Tryz.underlying39 (h:=Zd4 (h:=xF (h:=tL1 (Zb rfl (fun g4=>?_) (fun g4=>?_)))))))
 try simp only [sQ,ne_eq] at g4
 refine Za (xA (h:=Ze (Zl ?_)))
 exact eR t1 ⟨rfl,Zc (by simp [ZcK];intros;omega)⟩
 try simp only [sQ,ne_eq] at g4
 refine wSk (Zd (Za (xW ZaB (h:=y1 Zfs hc2 2 (h:=xW ZaB (h:=y1 Zfs hc2 2 (h:=xV Tryz.underlying39 (h:=xU (h:=Zk (Zwo (m:=(x.folders.length - 1)) rfl rfl rfl rfl om ?_))))))))))
 have hsl:((x.folders.take (x.folders.length - 1)).drop 0).length=x.folders.length - 1:=by simp
 obtain ⟨hq6,q6,cp6,hv6,hr6⟩:=hf.cutE 0 (x.folders.length - 1) om om
 have hr6n:=hr6.len
 refine Zk (ZnU (a:=0) (b:=(x.folders.length - 1)) hv6 om hq6 rfl rfl Tryz.underlying39 ZdS rfl rfl ⟨_,_,rfl,by first | omega | (simp;done) | (simp;omega)⟩ ?_)
 refine xV Tryz.underlying39 (h:=xM (h:=Zh (Zv (α:=Nat) [0,1,27,35,36] (fun k=>[(37,.int .i64 k)]) [] (fun k=>[]) (fun k Bx=>Bx=B2∧k≤x.folders.length - 1∧Zsf x.folders k) (fun k=>x.folders.length - k) 0 t1 rfl (⟨rfl,Nat.zero_le _,ZmV⟩) (fun k B7 hle7 hI=>?_))))
 obtain ⟨rfl,hk,hord⟩:=hI
 refine Zz [(0,_),(1,_),(27,_),(35,_),(36,_),(37,_)] [_] t6 rfl (Za (ZB (h:=Zd (Zb rfl (fun g5=>?_) (fun g5=>?_)))))
 try simp only [sQ,ne_eq] at g5
 refine wSk (Zd (Zh (Za (xM (h:=?_)))))
 obtain ⟨fa,hfa⟩:=ZM (xs:=((x.folders.take (x.folders.length - 1)).drop 0)) (i:=k) om
 obtain ⟨bb9,oo9,rfl⟩:=hr6.base hfa
 obtain ⟨_,⟨qg10,cg10,qm10,cm10,rfl,hg10,hm10,hb10,hb10b⟩,hc10⟩:=hr6.elem hfa
 have hg10n:=hg10.len
 have hm10n:=hm10.len
 have hm10s:=Zal hm10
 refine xIx Tryz.underlying39 ZdS (h:=?_)
 have hfa0:x.folders[k]? = some fa:=by rw [List.drop_zero,List.getElem?_take] at hfa;split at hfa <;> simp_all
 refine yL [_,_,_,_,_] ZiA hc10 0 (h:=xAl [_,_,_,_,_] Zny (h:=fun b11=>xA (h:=xS [_,_,_,_,_] 1 [_,_,_,_,_] ZdS (h:=tL2 (Za (xW ZaB (h:=y1 Zfs hc2 2 (h:=xM (h:=xD (h:=?_))))))))))
 obtain ⟨fb,hfb⟩:=ZM (xs:=x.folders) (i:=(k+1)) om
 obtain ⟨bb13,oo13,rfl⟩:=hf.base hfb
 obtain ⟨_,⟨qg14,cg14,qm14,cm14,rfl,hg14,hm14,hb14,hb14b⟩,hc14⟩:=hf.elem hfb
 have hg14n:=hg14.len
 have hm14n:=hm14.len
 have hm14s:=Zal hm14
 refine xIx Tryz.underlying39 ZdS (h:=yL [_,_,_,_,_] ZiA hc14 0 (h:=xAl [_,_,_,_,_] Zny (h:=fun b15=>xS [_,_,_,_,_] 2 [_,_,_,_,_] ZdS (h:=tL3 (Za (xL [_,_,_,_,_] ZiA 1 (h:=xW ZbS (h:=x1 lk9 2 (h:=xW ZdW (h:=x1 lk9 2 (h:=xR Zyh rfl (Zls fa _ _ _ _ fb.owner fb.name _) (h:=ZdY (h:=Zb rfl (fun g6=>?_) (fun g6=>?_))))))))))))))
 try simp only [sQ,ne_eq] at g6
 refine Za (xA (h:=Ze (Zu (Zl (ZF (Zu (Zl ?_)))))))
 exact eR t1 ⟨rfl,Zc (by simp [ZcK,Zq9 hfa0 hfb ((Zkj fa fb).1 g6)])⟩
 try simp only [sQ,ne_eq] at g6
 refine ZL (ZI (Zm (Zf (xD (h:=xM (h:=?_))))))
 exact Zy (k+1) [0] so2 ⟨rfl,oz,ZmW hord hfa0 hfb (by rw [← Bool.not_eq_false,← Zkj];omega)⟩ t6 rfl
 try simp only [sQ,ne_eq] at g5
 have ho:=Zq8 (fs:=x.folders) (fun i a b h=>hord i a b oz)
 refine ZA (ZP (ZC (Zs (Zm (Za (xQ Zyg rfl (ZhC hJ _ _ _ _ _ _ _ _ x _ hc2 hu hf) (h:=?_)))))))
 intro v17 B17 hle17
 rintro rfl
 obtain ⟨hu,hf,hi⟩:=up3 hle17 hu hf hi
 replace hc2:=hc2.mono hle17
 refine xM (h:=Zt (d:=57) rfl (fun g7=>?_) (fun g7=>?_))
 try simp only [sQ,ne_eq] at g7
 refine xR Zyf rfl (ZmD _ _ _ _ _ _ _ _ x _ hc2 hu hf) (h:=xT (h:=xM (h:=Zt (d:=60) rfl (fun g8=>?_) (fun g8=>?_))))
 try simp only [sQ,ne_eq] at g8
 refine xR Zye rfl (Zk1 _ _ _ _ _ _ _ _ x _ hc2 hu hi) (h:=xT (h:=xA (h:=Ze ?_)))
 exact eR t1 ⟨rfl,Zc (by simp [ZcK,g1,g2,g3,ho,g7,g8];try omega)⟩
 try simp only [sQ,ne_eq] at g8
 refine xP (h:=xF (h:=xA (h:=Ze ?_)))
 exact eR t1 ⟨rfl,Zc (by simp [ZcK,g1,g2,g3,ho,g7,g8];try omega)⟩
 try simp only [sQ,ne_eq] at g7
 refine xP (h:=xF (h:=xM (h:=xP (h:=xF (h:=xA (h:=Ze ?_))))))
 exact eR t1 ⟨rfl,Zc (by simp [ZcK,g7])⟩

theorem ZqR (x:DUser) (h1:x.name.length≤140737488355328) (h2:x.pass.length≤140737488355328) (left:Int) (hl0:0≤left) (hl1:left≤1048576) (B:Kn)  : Z0 (pj J) 76 [.agg #[str x.name,str x.pass,.int .i64 x.quota],.int .i64 left] B (.int .i64 (szI left (ZcG x))):=by
 refine cB 20 Tryz.func76 (h:=?_)
 refine Za (xBx [_,_,_] (h:=fun b1=>xA (h:=tL1 (Za (xM (h:=xW ZpC (h:=x1 lk9 0 (h:=xVs Tryz.underlying9 (h:=xU (h:=xA (h:=Zd (Za (xM (h:=ZB (h:=Zb rfl (fun g1=>?_) (fun g1=>?_))))))))))))))))
 try simp only [sQ,ne_eq] at g1
 refine Za (xA (h:=Ze (Zl ?_)))
 exact eR t1 ⟨ZE (by first | (unfold szI ZcG;split <;> omega)),rfl,rfl⟩
 try simp only [sQ,ne_eq] at g1
 refine wSk (Za (xM (h:=xW ZpB (h:=x1 lk9 0 (h:=xVs Tryz.underlying9 (h:=xU (h:=xA (h:=Zd (Za (xM (h:=ZB (h:=Zb rfl (fun g2=>?_) (fun g2=>?_)))))))))))))
 try simp only [sQ,ne_eq] at g2
 refine Za (xA (h:=Ze (Zl ?_)))
 exact eR t1 ⟨ZE (by first | (unfold szI ZcG;split <;> omega)),rfl,rfl⟩
 try simp only [sQ,ne_eq] at g2
 refine wSk (Za (xM (h:=xA (h:=Ze ?_))))
 exact eR t1 ⟨ZE (by first | (unfold szI ZcG;split <;> omega)),rfl,rfl⟩

theorem Zog (x:DGrant) (h1:x.user.length≤140737488355328) (left:Int) (hl0:0≤left) (hl1:left≤1048576) (B:Kn)  : Z0 (pj J) 189 [.agg #[str x.user,.int .i64 x.rights],.int .i64 left] B (.int .i64 (szI left (ZbW x))):=by
 refine cB 13 Tryz.func189 (h:=?_)
 refine Za (xBx [_,_] (h:=fun b1=>xA (h:=tL1 (Za (xM (h:=xW Zpm (h:=x1 lk9 0 (h:=xVs Tryz.underlying9 (h:=xU (h:=xA (h:=Zd (Za (xM (h:=ZB (h:=Zb rfl (fun g1=>?_) (fun g1=>?_))))))))))))))))
 try simp only [sQ,ne_eq] at g1
 refine Za (xA (h:=Ze (Zl ?_)))
 exact eR t1 ⟨ZE (by first | (unfold szI ZbW;split <;> omega)),rfl,rfl⟩
 try simp only [sQ,ne_eq] at g1
 refine wSk (Za (xM (h:=xA (h:=Ze ?_))))
 exact eR t1 ⟨ZE (by first | (unfold szI ZbW;split <;> omega)),rfl,rfl⟩

theorem ZqT (x:DMail) (h1:x.text.length≤140737488355328) (left:Int) (hl0:0≤left) (hl1:left≤1048576) (B:Kn)  : Z0 (pj J) 243 [.agg #[.int .i64 x.uid,.int .i64 x.flags,str x.text],.int .i64 left] B (.int .i64 (szI left (ZcX x))):=by
 refine cB 13 Tryz.func243 (h:=?_)
 refine Za (xBx [_,_,_] (h:=fun b1=>xA (h:=tL1 (Za (xM (h:=xW Zpl (h:=x1 lk9 0 (h:=xVs Tryz.underlying9 (h:=xU (h:=xA (h:=Zd (Za (xM (h:=ZB (h:=Zb rfl (fun g1=>?_) (fun g1=>?_))))))))))))))))
 try simp only [sQ,ne_eq] at g1
 refine Za (xA (h:=Ze (Zl ?_)))
 exact eR t1 ⟨ZE (by first | (unfold szI ZcX;split <;> omega)),rfl,rfl⟩
 try simp only [sQ,ne_eq] at g1
 refine wSk (Za (xM (h:=xA (h:=Ze ?_))))
 exact eR t1 ⟨ZE (by first | (unfold szI ZcX;split <;> omega)),rfl,rfl⟩

theorem ZqS (q:Option Addr) (cp:Nat) (xs:List Str) (left:Int) (hl0:0≤left) (hl1:left≤1048576) (B:Kn) (hx:SlB B q cp 1 Zig xs):Z0 (pj J) 191 [.slice q xs.length cp,.int .i64 left] B (.int .i64 (szI left (szL List.length xs))):=by
 refine cB 28 Tryz.func191 (h:=?_)
 have hxn:=hx.len
 refine Za (xA (h:=Za (xM (h:=xM (h:=xV Tryz.underlying144 (h:=xU (h:=xA (h:=Zd (Za (xM (h:=ZB (h:=Zb rfl (fun g1=>?_) (fun g1=>?_)))))))))))))
 try simp only [sQ,ne_eq] at g1
 refine Za (xA (h:=Ze (Zl ?_)))
 exact eR t1 ⟨ZE (ZfJ oz).symm,rfl,rfl⟩
 try simp only [sQ,ne_eq] at g1
 refine ZL ?_
 refine Zm ?_
 refine Zd ?_
 refine Za ?_
 refine Zk (Zbo rfl rfl rfl ?_)
 refine Zh ?_
 refine Zv (α:=Nat × Int) [0,11] (fun g=>[(1,.int .i64 g.2),(5,.int .i64 g.1)]) [] (fun g=>[]) (fun g Bx=>Bx=B∧g.1≤xs.length∧g.2=left - xs.length - ((xs.take g.1).map List.length).sum∧0≤g.2) (fun g=>xs.length - g.1) (0,left - ↑xs.length) ⟨rfl,rfl,trivial⟩ rfl (⟨rfl,Nat.zero_le _,by simp,g1⟩) (fun g B1 hle1 hI=>?_)
 obtain ⟨rfl,hk,hs,hl⟩:=hI
 refine Zz [(0,_),(1,_),(5,_),(11,_)] [] t4 rfl (Zd (Za (xM (h:=xM (h:=xV Tryz.underlying144 (h:=ZB (h:=Zb rfl (fun g2=>?_) (fun g2=>?_))))))))
 try simp only [sQ,ne_eq] at g2
 refine wSk (Zd (Zh (Za (xM (h:=xM (h:=xM (h:=?_)))))))
 obtain ⟨z,hz⟩:=ZM (xs:=xs) (i:=g.1) om
 obtain ⟨bb3,oo3,rfl⟩:=hx.base hz
 obtain ⟨_,⟨rfl,hb4⟩,hc4⟩:=hx.elem hz
 refine xIx Tryz.underlying144 sz9 (h:=y1 lk9 hc4 0 (h:=xVs Tryz.underlying9 (h:=xU (h:=xA (h:=Za (xM (h:=ZB (h:=Zb rfl (fun g3=>?_) (fun g3=>?_)))))))))
 try simp only [sQ,ne_eq] at g3
 refine Za (xA (h:=Ze (Zu (Zl (ZF (Zu (Zl ?_)))))))
 exact eR t1 ⟨ZE (ZfH hz hs oz).symm,rfl,rfl⟩
 try simp only [sQ,ne_eq] at g3
 refine ZL (ZI (Zm (Zf (xM (h:=xD (h:=xA (h:=?_)))))))
 exact Zy (g.1+1,g.2 - z.length) [] so2 ⟨rfl,so,by rw [Zdz _ hz,hs];omega,g3⟩ t4 rfl
 try simp only [sQ,ne_eq] at g2
 refine ZA (ZP (ZC (Zs (Zm (Za (xM (h:=xA (h:=Ze ?_))))))))
 exact eR t1 ⟨ZE (ZfI hs hl oz).symm,rfl,rfl⟩

theorem Zob (q:Option Addr) (cp:Nat) (xs:List DUser) (left:Int) (hl0:0≤left) (hl1:left≤1048576) (B:Kn) (hx:SlB B q cp 3 Zkw xs):Z0 (pj J) 33 [.slice q xs.length cp,.int .i64 left] B (.int .i64 (szI left (szL ZcG xs))):=by
 refine cB 27 Tryz.func33 (h:=?_)
 have hxn:=hx.len
 refine Za (xA (h:=Za (xM (h:=xM (h:=xV Tryz.underlying22 (h:=xU (h:=xA (h:=Zd (Za (xM (h:=ZB (h:=Zb rfl (fun g1=>?_) (fun g1=>?_)))))))))))))
 try simp only [sQ,ne_eq] at g1
 refine Za (xA (h:=Ze (Zl ?_)))
 exact eR t1 ⟨ZE (ZfJ oz).symm,rfl,rfl⟩
 try simp only [sQ,ne_eq] at g1
 refine ZL ?_
 refine Zm ?_
 refine Zd ?_
 refine Za ?_
 refine Zk (Zbo rfl rfl rfl ?_)
 refine Zh ?_
 refine Zv (α:=Nat × Int) [0,11] (fun g=>[(1,.int .i64 g.2),(5,.int .i64 g.1)]) [] (fun g=>[]) (fun g Bx=>Bx=B∧g.1≤xs.length∧g.2=left - xs.length - ((xs.take g.1).map ZcG).sum∧0≤g.2) (fun g=>xs.length - g.1) (0,left - ↑xs.length) ⟨rfl,rfl,trivial⟩ rfl (⟨rfl,Nat.zero_le _,by simp,g1⟩) (fun g B1 hle1 hI=>?_)
 obtain ⟨rfl,hk,hs,hl⟩:=hI
 refine Zz [(0,_),(1,_),(5,_),(11,_)] [] t4 rfl (Zd (Za (xM (h:=xM (h:=xV Tryz.underlying22 (h:=ZB (h:=Zb rfl (fun g2=>?_) (fun g2=>?_))))))))
 try simp only [sQ,ne_eq] at g2
 refine wSk (Zd (Zh (Za (xM (h:=xM (h:=?_))))))
 obtain ⟨z,hz⟩:=ZM (xs:=xs) (i:=g.1) om
 obtain ⟨bb3,oo3,rfl⟩:=hx.base hz
 obtain ⟨_,⟨rfl,hb4,hb4b⟩,hc4⟩:=hx.elem hz
 refine xIx Tryz.underlying22 ZuX (h:=yL [_,_,_] Zvj hc4 0 (h:=xM (h:=xR ZzE rfl (ZqR z om om g.2 om om _) (h:=?_))))
 refine xA (h:=Za (xM (h:=ZB (h:=Zb rfl (fun g3=>?_) (fun g3=>?_)))))
 try simp only [sQ,ne_eq] at g3
 refine Za (xA (h:=Ze (Zu (Zl (ZF (Zu (Zl ?_)))))))
 exact eR t1 ⟨ZE (ZfH hz hs ((ZbV hl).1 g3)).symm,rfl,rfl⟩
 try simp only [sQ,ne_eq] at g3
 refine ZL (ZI (Zm (Zf (xM (h:=xD (h:=xA (h:=?_)))))))
 exact Zy (g.1+1,szI g.2 (ZcG z)) [] so2 ⟨rfl,so,by have:=(ZbH hl g3).1;rw [Zdz _ hz];simp only [];omega,g3⟩ t4 rfl
 try simp only [sQ,ne_eq] at g2
 refine ZA (ZP (ZC (Zs (Zm (Za (xM (h:=xA (h:=Ze ?_))))))))
 exact eR t1 ⟨ZE (ZfI hs hl oz).symm,rfl,rfl⟩

theorem ZmH (q:Option Addr) (cp:Nat) (xs:List DGrant) (left:Int) (hl0:0≤left) (hl1:left≤1048576) (B:Kn) (hx:SlB B q cp 2 Zhv xs):Z0 (pj J) 130 [.slice q xs.length cp,.int .i64 left] B (.int .i64 (szI left (szL ZbW xs))):=by
 refine cB 27 Tryz.func130 (h:=?_)
 have hxn:=hx.len
 refine Za (xA (h:=Za (xM (h:=xM (h:=xV Tryz.underlying132 (h:=xU (h:=xA (h:=Zd (Za (xM (h:=ZB (h:=Zb rfl (fun g1=>?_) (fun g1=>?_)))))))))))))
 try simp only [sQ,ne_eq] at g1
 refine Za (xA (h:=Ze (Zl ?_)))
 exact eR t1 ⟨ZE (ZfJ oz).symm,rfl,rfl⟩
 try simp only [sQ,ne_eq] at g1
 refine ZL ?_
 refine Zm ?_
 refine Zd ?_
 refine Za ?_
 refine Zk (Zbo rfl rfl rfl ?_)
 refine Zh ?_
 refine Zv (α:=Nat × Int) [0,11] (fun g=>[(1,.int .i64 g.2),(5,.int .i64 g.1)]) [] (fun g=>[]) (fun g Bx=>Bx=B∧g.1≤xs.length∧g.2=left - xs.length - ((xs.take g.1).map ZbW).sum∧0≤g.2) (fun g=>xs.length - g.1) (0,left - ↑xs.length) ⟨rfl,rfl,trivial⟩ rfl (⟨rfl,Nat.zero_le _,by simp,g1⟩) (fun g B1 hle1 hI=>?_)
 obtain ⟨rfl,hk,hs,hl⟩:=hI
 refine Zz [(0,_),(1,_),(5,_),(11,_)] [] t4 rfl (Zd (Za (xM (h:=xM (h:=xV Tryz.underlying132 (h:=ZB (h:=Zb rfl (fun g2=>?_) (fun g2=>?_))))))))
 try simp only [sQ,ne_eq] at g2
 refine wSk (Zd (Zh (Za (xM (h:=xM (h:=?_))))))
 obtain ⟨z,hz⟩:=ZM (xs:=xs) (i:=g.1) om
 obtain ⟨bb3,oo3,rfl⟩:=hx.base hz
 obtain ⟨_,⟨rfl,hb4⟩,hc4⟩:=hx.elem hz
 refine xIx Tryz.underlying132 ZuS (h:=yL [_,_] Zvc hc4 0 (h:=xM (h:=xR ZxB rfl (Zog z om g.2 om om _) (h:=?_))))
 refine xA (h:=Za (xM (h:=ZB (h:=Zb rfl (fun g3=>?_) (fun g3=>?_)))))
 try simp only [sQ,ne_eq] at g3
 refine Za (xA (h:=Ze (Zu (Zl (ZF (Zu (Zl ?_)))))))
 exact eR t1 ⟨ZE (ZfH hz hs ((ZbV hl).1 g3)).symm,rfl,rfl⟩
 try simp only [sQ,ne_eq] at g3
 refine ZL (ZI (Zm (Zf (xM (h:=xD (h:=xA (h:=?_)))))))
 exact Zy (g.1+1,szI g.2 (ZbW z)) [] so2 ⟨rfl,so,by have:=(ZbH hl g3).1;rw [Zdz _ hz];simp only [];omega,g3⟩ t4 rfl
 try simp only [sQ,ne_eq] at g2
 refine ZA (ZP (ZC (Zs (Zm (Za (xM (h:=xA (h:=Ze ?_))))))))
 exact eR t1 ⟨ZE (ZfI hs hl oz).symm,rfl,rfl⟩

theorem Zoe (q:Option Addr) (cp:Nat) (xs:List DMail) (left:Int) (hl0:0≤left) (hl1:left≤1048576) (B:Kn) (hx:SlB B q cp 3 ZhE xs):Z0 (pj J) 190 [.slice q xs.length cp,.int .i64 left] B (.int .i64 (szI left (szL ZcX xs))):=by
 refine cB 27 Tryz.func190 (h:=?_)
 have hxn:=hx.len
 refine Za (xA (h:=Za (xM (h:=xM (h:=xV Tryz.underlying133 (h:=xU (h:=xA (h:=Zd (Za (xM (h:=ZB (h:=Zb rfl (fun g1=>?_) (fun g1=>?_)))))))))))))
 try simp only [sQ,ne_eq] at g1
 refine Za (xA (h:=Ze (Zl ?_)))
 exact eR t1 ⟨ZE (ZfJ oz).symm,rfl,rfl⟩
 try simp only [sQ,ne_eq] at g1
 refine ZL ?_
 refine Zm ?_
 refine Zd ?_
 refine Za ?_
 refine Zk (Zbo rfl rfl rfl ?_)
 refine Zh ?_
 refine Zv (α:=Nat × Int) [0,11] (fun g=>[(1,.int .i64 g.2),(5,.int .i64 g.1)]) [] (fun g=>[]) (fun g Bx=>Bx=B∧g.1≤xs.length∧g.2=left - xs.length - ((xs.take g.1).map ZcX).sum∧0≤g.2) (fun g=>xs.length - g.1) (0,left - ↑xs.length) ⟨rfl,rfl,trivial⟩ rfl (⟨rfl,Nat.zero_le _,by simp,g1⟩) (fun g B1 hle1 hI=>?_)
 obtain ⟨rfl,hk,hs,hl⟩:=hI
 refine Zz [(0,_),(1,_),(5,_),(11,_)] [] t4 rfl (Zd (Za (xM (h:=xM (h:=xV Tryz.underlying133 (h:=ZB (h:=Zb rfl (fun g2=>?_) (fun g2=>?_))))))))
 try simp only [sQ,ne_eq] at g2
 refine wSk (Zd (Zh (Za (xM (h:=xM (h:=?_))))))
 obtain ⟨z,hz⟩:=ZM (xs:=xs) (i:=g.1) om
 obtain ⟨bb3,oo3,rfl⟩:=hx.base hz
 obtain ⟨_,⟨rfl,hb4⟩,hc4⟩:=hx.elem hz
 refine xIx Tryz.underlying133 ZuQ (h:=yL [_,_,_] Zva hc4 0 (h:=xM (h:=xR Zxd rfl (ZqT z om g.2 om om _) (h:=?_))))
 refine xA (h:=Za (xM (h:=ZB (h:=Zb rfl (fun g3=>?_) (fun g3=>?_)))))
 try simp only [sQ,ne_eq] at g3
 refine Za (xA (h:=Ze (Zu (Zl (ZF (Zu (Zl ?_)))))))
 exact eR t1 ⟨ZE (ZfH hz hs ((ZbV hl).1 g3)).symm,rfl,rfl⟩
 try simp only [sQ,ne_eq] at g3
 refine ZL (ZI (Zm (Zf (xM (h:=xD (h:=xA (h:=?_)))))))
 exact Zy (g.1+1,szI g.2 (ZcX z)) [] so2 ⟨rfl,so,by have:=(ZbH hl g3).1;rw [Zdz _ hz];simp only [];omega,g3⟩ t4 rfl
 try simp only [sQ,ne_eq] at g2
 refine ZA (ZP (ZC (Zs (Zm (Za (xM (h:=xA (h:=Ze ?_))))))))
 exact eR t1 ⟨ZE (ZfI hs hl oz).symm,rfl,rfl⟩

theorem ZqU (q:Option Addr) (cp:Nat) (x:DItem) (h1:x.fr.length≤140737488355328) (h2:x.text.length≤140737488355328) (left:Int) (hl0:0≤left) (hl1:left≤1048576) (B:Kn) (hx:SlB B q cp 1 Zig x.left):Z0 (pj J) 132 [.agg #[.int .i64 x.id,str x.fr,str x.text,.slice q x.left.length cp],.int .i64 left] B (.int .i64 (szI left (Zbg x))):=by
 refine cB 26 Tryz.func132 (h:=?_)
 have hxn:=hx.len
 refine Za (xBx [_,_,_,_] (h:=fun b1=>xA (h:=tL1 (Za (xM (h:=xW Zpr (h:=x1 lk9 0 (h:=xVs Tryz.underlying9 (h:=xU (h:=xA (h:=Zd (Za (xM (h:=ZB (h:=Zb rfl (fun g1=>?_) (fun g1=>?_))))))))))))))))
 try simp only [sQ,ne_eq] at g1
 refine Za (xA (h:=Ze (Zl ?_)))
 exact eR t1 ⟨ZE (by rw [Zbu (by unfold Zbg;omega)]),rfl,rfl⟩
 try simp only [sQ,ne_eq] at g1
 refine wSk (Za (xM (h:=xW Zpq (h:=x1 lk9 0 (h:=xVs Tryz.underlying9 (h:=xU (h:=xA (h:=Zd (Za (xM (h:=ZB (h:=Zb rfl (fun g2=>?_) (fun g2=>?_)))))))))))))
 try simp only [sQ,ne_eq] at g2
 refine Za (xA (h:=Ze (Zl ?_)))
 exact eR t1 ⟨ZE (by rw [Zbu (by unfold Zbg;omega)]),rfl,rfl⟩
 try simp only [sQ,ne_eq] at g2
 refine wSk (Za (xW Zpp (h:=x1 ZfV 0 (h:=xM (h:=?_)))))
 have hq2:=ZqS (J:=J) _ _ x.left ((left - ↑x.fr.length) - ↑x.text.length) om om _ hx
 refine xR Zxz rfl hq2 (h:=xA (h:=Zd (Za (xM (h:=ZB (h:=Zb rfl (fun g3=>?_) (fun g3=>?_)))))))
 try simp only [sQ,ne_eq] at g3
 have g3x:=(ZbV oz).1 g3
 refine Za (xA (h:=Ze (Zl ?_)))
 exact eR t1 ⟨ZE (by rw [Zbu (by unfold Zbg ZeI;omega)]),rfl,rfl⟩
 try simp only [sQ,ne_eq] at g3
 have g3x:=ZbH oz g3
 refine wSk (Za (xM (h:=xA (h:=Ze ?_))))
 exact eR t1 ⟨ZE (by (try dsimp only at *);rw [ZlV (left:=left) (s:=Zbg x) (by unfold Zbg ZeI;omega)];unfold Zbg ZeI;omega),rfl,rfl⟩

theorem Zof (q:Option Addr) (cp:Nat) (xs:List DItem) (left:Int) (hl0:0≤left) (hl1:left≤1048576) (B:Kn) (hx:SlB B q cp 4 Zhu xs):Z0 (pj J) 78 [.slice q xs.length cp,.int .i64 left] B (.int .i64 (szI left (szL Zbg xs))):=by
 refine cB 27 Tryz.func78 (h:=?_)
 have hxn:=hx.len
 refine Za (xA (h:=Za (xM (h:=xM (h:=xV Tryz.underlying24 (h:=xU (h:=xA (h:=Zd (Za (xM (h:=ZB (h:=Zb rfl (fun g1=>?_) (fun g1=>?_)))))))))))))
 try simp only [sQ,ne_eq] at g1
 refine Za (xA (h:=Ze (Zl ?_)))
 exact eR t1 ⟨ZE (ZfJ oz).symm,rfl,rfl⟩
 try simp only [sQ,ne_eq] at g1
 refine ZL ?_
 refine Zm ?_
 refine Zd ?_
 refine Za ?_
 refine Zk (Zbo rfl rfl rfl ?_)
 refine Zh ?_
 refine Zv (α:=Nat × Int) [0,11] (fun g=>[(1,.int .i64 g.2),(5,.int .i64 g.1)]) [] (fun g=>[]) (fun g Bx=>Bx=B∧g.1≤xs.length∧g.2=left - xs.length - ((xs.take g.1).map Zbg).sum∧0≤g.2) (fun g=>xs.length - g.1) (0,left - ↑xs.length) ⟨rfl,rfl,trivial⟩ rfl (⟨rfl,Nat.zero_le _,by simp,g1⟩) (fun g B1 hle1 hI=>?_)
 obtain ⟨rfl,hk,hs,hl⟩:=hI
 refine Zz [(0,_),(1,_),(5,_),(11,_)] [] t4 rfl (Zd (Za (xM (h:=xM (h:=xV Tryz.underlying24 (h:=ZB (h:=Zb rfl (fun g2=>?_) (fun g2=>?_))))))))
 try simp only [sQ,ne_eq] at g2
 refine wSk (Zd (Zh (Za (xM (h:=xM (h:=?_))))))
 obtain ⟨z,hz⟩:=ZM (xs:=xs) (i:=g.1) om
 obtain ⟨bb3,oo3,rfl⟩:=hx.base hz
 obtain ⟨_,⟨qi4,ci4,rfl,hi4,hb4,hb4b⟩,hc4⟩:=hx.elem hz
 have hi4n:=hi4.len
 refine xIx Tryz.underlying24 ZuU (h:=yL [_,_,_,_] Zve hc4 0 (h:=xM (h:=?_)))
 have hq5:=ZqU (J:=J) _ _ z om om g.2 om om _ hi4
 refine xR Zyb rfl hq5 (h:=xA (h:=Za (xM (h:=ZB (h:=Zb rfl (fun g3=>?_) (fun g3=>?_))))))
 try simp only [sQ,ne_eq] at g3
 refine Za (xA (h:=Ze (Zu (Zl (ZF (Zu (Zl ?_)))))))
 exact eR t1 ⟨ZE (ZfH hz hs ((ZbV hl).1 g3)).symm,rfl,rfl⟩
 try simp only [sQ,ne_eq] at g3
 refine ZL (ZI (Zm (Zf (xM (h:=xD (h:=xA (h:=?_)))))))
 exact Zy (g.1+1,szI g.2 (Zbg z)) [] so2 ⟨rfl,so,by have:=(ZbH hl g3).1;rw [Zdz _ hz];simp only [];omega,g3⟩ t4 rfl
 try simp only [sQ,ne_eq] at g2
 refine ZA (ZP (ZC (Zs (Zm (Za (xM (h:=xA (h:=Ze ?_))))))))
 exact eR t1 ⟨ZE (ZfI hs hl oz).symm,rfl,rfl⟩

theorem Zs9 (q:Option Addr) (cp:Nat) (x:DBox) (left:Int) (hl0:0≤left) (hl1:left≤1048576) (B:Kn) (hx:SlB B q cp 3 ZhE x.mail):Z0 (pj J) 131 [.agg #[.int .i64 x.next,.slice q x.mail.length cp],.int .i64 left] B (.int .i64 (szI left (szL ZcX x.mail))):=by
 refine cB 12 Tryz.func131 (h:=?_)
 have hxn:=hx.len
 refine Za (xBx [_,_] (h:=fun b1=>xA (h:=tL1 (Za (xW ZpA (h:=x1 Zvh 0 (h:=xM (h:=?_))))))))
 have hq2:=Zoe (J:=J) _ _ x.mail left om om _ hx
 refine xR ZxA rfl hq2 (h:=xA (h:=Zd (Za (xM (h:=ZB (h:=Zb rfl (fun g1=>?_) (fun g1=>?_)))))))
 try simp only [sQ,ne_eq] at g1
 have g1x:=(ZbV oz).1 g1
 refine Za (xA (h:=Ze (Zl ?_)))
 exact eR t1 ⟨ZE (by rw [Zbu g1x]),rfl,rfl⟩
 try simp only [sQ,ne_eq] at g1
 refine wSk (Za (xM (h:=xA (h:=Ze ?_))))
 exact eR t1 ⟨rfl,rfl,rfl⟩

theorem Zod (q:Option Addr) (cp:Nat) (x:DQueue) (left:Int) (hl0:0≤left) (hl1:left≤1048576) (B:Kn) (hx:SlB B q cp 4 Zhu x.items):Z0 (pj J) 35 [.agg #[.int .i64 x.next,.slice q x.items.length cp],.int .i64 left] B (.int .i64 (szI left (szL Zbg x.items))):=by
 refine cB 12 Tryz.func35 (h:=?_)
 have hxn:=hx.len
 refine Za (xBx [_,_] (h:=fun b1=>xA (h:=tL1 (Za (xW ZsN (h:=x1 ZyB 0 (h:=xM (h:=?_))))))))
 have hq2:=Zof (J:=J) _ _ x.items left om om _ hx
 refine xR ZzC rfl hq2 (h:=xA (h:=Zd (Za (xM (h:=ZB (h:=Zb rfl (fun g1=>?_) (fun g1=>?_)))))))
 try simp only [sQ,ne_eq] at g1
 have g1x:=(ZbV oz).1 g1
 refine Za (xA (h:=Ze (Zl ?_)))
 exact eR t1 ⟨ZE (by rw [Zbu g1x]),rfl,rfl⟩
 try simp only [sQ,ne_eq] at g1
 refine wSk (Za (xM (h:=xA (h:=Ze ?_))))
 exact eR t1 ⟨rfl,rfl,rfl⟩

theorem ZmI (qa qb:Option Addr) (ca cb:Nat) (x:DFolder) (h1:x.owner.length≤140737488355328) (h2:x.name.length≤140737488355328) (left:Int) (hl0:0≤left) (hl1:left≤1048576) (B:Kn) (hx:SlB B qa ca 2 Zhv x.grants) (hy:SlB B qb cb 3 ZhE x.mail):Z0 (pj J) 77 [.agg #[str x.owner,str x.name,.slice qa x.grants.length ca,.int .i64 x.next,.slice qb x.mail.length cb],.int .i64 left] B (.int .i64 (szI left (Zaj x))):=by
 refine cB 32 Tryz.func77 (h:=?_)
 have hxn:=hx.len
 have hyn:=hy.len
 refine Za (xBx [_,_,_,_,_] (h:=fun b1=>xA (h:=tL1 (Za (xM (h:=xW Zpz (h:=x1 lk9 0 (h:=xVs Tryz.underlying9 (h:=xU (h:=xA (h:=Zd (Za (xM (h:=ZB (h:=Zb rfl (fun g1=>?_) (fun g1=>?_))))))))))))))))
 try simp only [sQ,ne_eq] at g1
 refine Za (xA (h:=Ze (Zl ?_)))
 exact eR t1 ⟨ZE (by rw [Zbu (by unfold Zaj;omega)]),rfl,rfl⟩
 try simp only [sQ,ne_eq] at g1
 refine wSk (Za (xM (h:=xW Zpy (h:=x1 lk9 0 (h:=xVs Tryz.underlying9 (h:=xU (h:=xA (h:=Zd (Za (xM (h:=ZB (h:=Zb rfl (fun g2=>?_) (fun g2=>?_)))))))))))))
 try simp only [sQ,ne_eq] at g2
 refine Za (xA (h:=Ze (Zl ?_)))
 exact eR t1 ⟨ZE (by rw [Zbu (by unfold Zaj;omega)]),rfl,rfl⟩
 try simp only [sQ,ne_eq] at g2
 refine wSk (Za (xW Zpx (h:=x1 Zvi 0 (h:=xM (h:=?_)))))
 have hq2:=ZmH (J:=J) _ _ x.grants ((left - ↑x.owner.length) - ↑x.name.length) om om _ hx
 refine xR Zyd rfl hq2 (h:=xA (h:=Zd (Za (xM (h:=ZB (h:=Zb rfl (fun g3=>?_) (fun g3=>?_)))))))
 try simp only [sQ,ne_eq] at g3
 have g3x:=(ZbV oz).1 g3
 refine Za (xA (h:=Ze (Zl ?_)))
 exact eR t1 ⟨ZE (by rw [Zbu (by unfold Zaj;omega)]),rfl,rfl⟩
 try simp only [sQ,ne_eq] at g3
 have g3x:=ZbH oz g3
 refine wSk (Za (xW Zpw (h:=xL [_,_] Zvg 0 (h:=xM (h:=?_)))))
 have hq3:=Zs9 (J:=J) _ _ (⟨x.next,x.mail⟩:DBox) (szI ((left - ↑x.owner.length) - ↑x.name.length) (szL ZbW x.grants)) om om _ hy
 refine xR Zyc rfl hq3 (h:=xA (h:=Zd (Za (xM (h:=ZB (h:=Zb rfl (fun g4=>?_) (fun g4=>?_)))))))
 try simp only [sQ,ne_eq] at g4
 have g4x:=(ZbV oz).1 g4
 refine Za (xA (h:=Ze (Zl ?_)))
 exact eR t1 ⟨ZE (by rw [Zbu (by unfold Zaj;omega)]),rfl,rfl⟩
 try simp only [sQ,ne_eq] at g4
 have g4x:=ZbH oz g4
 refine wSk (Za (xM (h:=xA (h:=Ze ?_))))
 exact eR t1 ⟨ZE (by (try dsimp only at *);rw [ZlV (left:=left) (s:=Zaj x) (by unfold Zaj;omega)];unfold Zaj;omega),rfl,rfl⟩

theorem ZkL (q:Option Addr) (cp:Nat) (xs:List DFolder) (left:Int) (hl0:0≤left) (hl1:left≤1048576) (B:Kn) (hx:SlB B q cp 5 Zeo xs):Z0 (pj J) 34 [.slice q xs.length cp,.int .i64 left] B (.int .i64 (szI left (szL Zaj xs))):=by
 refine cB 27 Tryz.func34 (h:=?_)
 have hxn:=hx.len
 refine Za (xA (h:=Za (xM (h:=xM (h:=xV Tryz.underlying23 (h:=xU (h:=xA (h:=Zd (Za (xM (h:=ZB (h:=Zb rfl (fun g1=>?_) (fun g1=>?_)))))))))))))
 try simp only [sQ,ne_eq] at g1
 refine Za (xA (h:=Ze (Zl ?_)))
 exact eR t1 ⟨ZE (ZfJ oz).symm,rfl,rfl⟩
 try simp only [sQ,ne_eq] at g1
 refine ZL ?_
 refine Zm ?_
 refine Zd ?_
 refine Za ?_
 refine Zk (Zbo rfl rfl rfl ?_)
 refine Zh ?_
 refine Zv (α:=Nat × Int) [0,11] (fun g=>[(1,.int .i64 g.2),(5,.int .i64 g.1)]) [] (fun g=>[]) (fun g Bx=>Bx=B∧g.1≤xs.length∧g.2=left - xs.length - ((xs.take g.1).map Zaj).sum∧0≤g.2) (fun g=>xs.length - g.1) (0,left - ↑xs.length) ⟨rfl,rfl,trivial⟩ rfl (⟨rfl,Nat.zero_le _,by simp,g1⟩) (fun g B1 hle1 hI=>?_)
 obtain ⟨rfl,hk,hs,hl⟩:=hI
 refine Zz [(0,_),(1,_),(5,_),(11,_)] [] t4 rfl (Zd (Za (xM (h:=xM (h:=xV Tryz.underlying23 (h:=ZB (h:=Zb rfl (fun g2=>?_) (fun g2=>?_))))))))
 try simp only [sQ,ne_eq] at g2
 refine wSk (Zd (Zh (Za (xM (h:=xM (h:=?_))))))
 obtain ⟨z,hz⟩:=ZM (xs:=xs) (i:=g.1) om
 obtain ⟨bb3,oo3,rfl⟩:=hx.base hz
 obtain ⟨_,⟨qg4,cg4,qm4,cm4,rfl,hg4,hm4,hb4,hb4b⟩,hc4⟩:=hx.elem hz
 have hg4n:=hg4.len
 have hm4n:=hm4.len
 refine xIx Tryz.underlying23 ZuW (h:=yL [_,_,_,_,_] Zvf hc4 0 (h:=xM (h:=?_)))
 have hq5:=ZmI (J:=J) _ _ _ _ z om om g.2 om om _ hg4 hm4
 refine xR ZzD rfl hq5 (h:=xA (h:=Za (xM (h:=ZB (h:=Zb rfl (fun g3=>?_) (fun g3=>?_))))))
 try simp only [sQ,ne_eq] at g3
 refine Za (xA (h:=Ze (Zu (Zl (ZF (Zu (Zl ?_)))))))
 exact eR t1 ⟨ZE (ZfH hz hs ((ZbV hl).1 g3)).symm,rfl,rfl⟩
 try simp only [sQ,ne_eq] at g3
 refine ZL (ZI (Zm (Zf (xM (h:=xD (h:=xA (h:=?_)))))))
 exact Zy (g.1+1,szI g.2 (Zaj z)) [] so2 ⟨rfl,so,by have:=(ZbH hl g3).1;rw [Zdz _ hz];simp only [];omega,g3⟩ t4 rfl
 try simp only [sQ,ne_eq] at g2
 refine ZA (ZP (ZC (Zs (Zm (Za (xM (h:=xA (h:=Ze ?_))))))))
 exact eR t1 ⟨ZE (ZfI hs hl oz).symm,rfl,rfl⟩

theorem ZqV (q1 q2 q3:Option Addr) (c1 c2 c3:Nat) (x:DHost) (hd:x.domain.length≤140737488355328) (left:Int) (hl0:0≤left) (hl1:left≤1048576) (B:Kn) (hu:SlB B q1 c1 3 Zkw x.users) (hf:SlB B q2 c2 5 Zeo x.folders) (hi:SlB B q3 c3 4 Zhu x.queue.items):Z0 (pj J) 7 [.agg #[str x.domain,.slice q1 x.users.length c1,.slice q2 x.folders.length c2,.int .i64 x.queue.next,.slice q3 x.queue.items.length c3],.int .i64 left] B (.int .i64 (szI left (Zcm x))):=by
 refine cB 31 Tryz.func7 (h:=?_)
 have hun:=hu.len
 have hfn:=hf.len
 have hin:=hi.len
 refine Za (xBx [_,_,_,_,_] (h:=fun b1=>xA (h:=tL1 (Za (xM (h:=xW ZsM (h:=x1 lk9 0 (h:=xVs Tryz.underlying9 (h:=xU (h:=xA (h:=Zd (Za (xM (h:=ZB (h:=Zb rfl (fun g1=>?_) (fun g1=>?_))))))))))))))))
 try simp only [sQ,ne_eq] at g1
 refine Za (xA (h:=Ze (Zl ?_)))
 exact eR t1 ⟨ZE (by rw [Zbu (by unfold Zcm;omega)]),rfl,rfl⟩
 try simp only [sQ,ne_eq] at g1
 refine wSk (Za (xW ZsL (h:=x1 ZyD 0 (h:=xM (h:=?_)))))
 have hq2:=Zob (J:=J) _ _ x.users (left - ↑x.domain.length) om om _ hu
 refine xR ZzY rfl hq2 (h:=xA (h:=Zd (Za (xM (h:=ZB (h:=Zb rfl (fun g2=>?_) (fun g2=>?_)))))))
 try simp only [sQ,ne_eq] at g2
 have g2x:=(ZbV oz).1 g2
 refine Za (xA (h:=Ze (Zl ?_)))
 exact eR t1 ⟨ZE (by rw [Zbu (by unfold Zcm;omega)]),rfl,rfl⟩
 try simp only [sQ,ne_eq] at g2
 have g2x:=ZbH oz g2
 refine wSk (Za (xW ZsK (h:=x1 ZyC 0 (h:=xM (h:=?_)))))
 have hq3:=ZkL (J:=J) _ _ x.folders (szI (left - ↑x.domain.length) (szL ZcG x.users)) om om _ hf
 refine xR ZzX rfl hq3 (h:=xA (h:=Zd (Za (xM (h:=ZB (h:=Zb rfl (fun g3=>?_) (fun g3=>?_)))))))
 try simp only [sQ,ne_eq] at g3
 have g3x:=(ZbV oz).1 g3
 refine Za (xA (h:=Ze (Zl ?_)))
 exact eR t1 ⟨ZE (by rw [Zbu (by unfold Zcm;omega)]),rfl,rfl⟩
 try simp only [sQ,ne_eq] at g3
 have g3x:=ZbH oz g3
 refine wSk (Za (xW ZsJ (h:=xL [_,_] ZyA 0 (h:=xM (h:=?_)))))
 have hq4:=Zod (J:=J) _ _ (⟨x.queue.next,x.queue.items⟩:DQueue) (szI (szI (left - ↑x.domain.length) (szL ZcG x.users)) (szL Zaj x.folders)) om om _ hi
 refine xR ZzW rfl hq4 (h:=xA (h:=Zd (Za (xM (h:=ZB (h:=Zb rfl (fun g4=>?_) (fun g4=>?_)))))))
 try simp only [sQ,ne_eq] at g4
 have g4x:=(ZbV oz).1 g4
 refine Za (xA (h:=Ze (Zl ?_)))
 exact eR t1 ⟨ZE (by rw [Zbu (by unfold Zcm;omega)]),rfl,rfl⟩
 try simp only [sQ,ne_eq] at g4
 have g4x:=ZbH oz g4
 refine wSk (Za (xM (h:=xA (h:=Ze ?_))))
 exact eR t1 ⟨ZE (by (try dsimp only at *);rw [ZlV (left:=left) (s:=Zcm x) (by unfold Zcm;omega)];unfold Zcm;omega),rfl,rfl⟩

theorem ZqL (x:DUser)  (B:Kn):Z0 (pj J) 88 [.agg #[str x.name,str x.pass,.int .i64 x.quota]] B (.agg #[str x.name,str x.pass,.int .i64 x.quota]):=by
 refine cB 14 Tryz.func88 (h:=?_)
 refine Za (xBx [_,_,_] (h:=fun b1=>xAl [_,_,_] Zfc (h:=fun b2=>tL2 (Za (xAl [_,_,_] Zfc (h:=fun b3=>tL3 (Za (xW ZpC (h:=x1 lk9 0 (h:=xW ZaZ (h:=xS [_] 2 [_,_,_] sz9 (h:=tL3 (Za (xW ZpB (h:=x1 lk9 0 (h:=xW Zf2 (h:=xS [_] 2 [_,_,_] sz9 (h:=tL3 (Za (xW ZtR (h:=x1 lk3 0 (h:=xW ZdL (h:=xS [_] 2 [_,_,_] sz3 (h:=tL3 (Za (xL [_,_,_] ZeF 2 (h:=xS [_,_,_] 1 [_,_,_] ZbQ (h:=tL3 (Ze ?_)))))))))))))))))))))))))))))
 exact eR ⟨⟨_,rfl,.inr ⟨[_,_,_],ZeF,Zct 1 rfl rfl rfl,rfl⟩⟩,trivial⟩ ⟨rfl,rfl,rfl⟩

theorem Zn7 (x:DGrant)  (B:Kn):Z0 (pj J) 193 [.agg #[str x.user,.int .i64 x.rights]] B (.agg #[str x.user,.int .i64 x.rights]):=by
 refine cB 11 Tryz.func193 (h:=?_)
 refine Za (xBx [_,_] (h:=fun b1=>xAl [_,_] ZnF (h:=fun b2=>tL2 (Za (xAl [_,_] ZnF (h:=fun b3=>tL3 (Za (xW Zpm (h:=x1 lk9 0 (h:=xW Zb3 (h:=xS [_] 2 [_,_] sz9 (h:=tL3 (Za (xW ZtO (h:=x1 lk3 0 (h:=xW Zc9 (h:=xS [_] 2 [_,_] sz3 (h:=tL3 (Za (xL [_,_] ZoX 2 (h:=xS [_,_] 1 [_,_] Zd0 (h:=tL3 (Ze ?_)))))))))))))))))))))))
 exact eR ⟨⟨_,rfl,.inr ⟨[_,_],ZoX,Zct 1 rfl rfl rfl,rfl⟩⟩,trivial⟩ ⟨rfl,rfl,rfl⟩

theorem ZqO (x:DMail)  (B:Kn):Z0 (pj J) 245 [.agg #[.int .i64 x.uid,.int .i64 x.flags,str x.text]] B (.agg #[.int .i64 x.uid,.int .i64 x.flags,str x.text]):=by
 refine cB 14 Tryz.func245 (h:=?_)
 refine Za (xBx [_,_,_] (h:=fun b1=>xAl [_,_,_] Zsi (h:=fun b2=>tL2 (Za (xAl [_,_,_] Zsi (h:=fun b3=>tL3 (Za (xW ZtN (h:=x1 lk3 0 (h:=xW Zdm (h:=xS [_] 2 [_,_,_] sz3 (h:=tL3 (Za (xW ZtM (h:=x1 lk3 0 (h:=xW Zgn (h:=xS [_] 2 [_,_,_] sz3 (h:=tL3 (Za (xW Zpl (h:=x1 lk9 0 (h:=xW ZeL (h:=xS [_] 2 [_,_,_] sz9 (h:=tL3 (Za (xL [_,_,_] Zqn 2 (h:=xS [_,_,_] 1 [_,_,_] ZhA (h:=tL3 (Ze ?_)))))))))))))))))))))))))))))
 exact eR ⟨⟨_,rfl,.inr ⟨[_,_,_],Zqn,Zct 1 rfl rfl rfl,rfl⟩⟩,trivial⟩ ⟨rfl,rfl,rfl⟩

theorem ZqM (q:Option Addr) (cp:Nat) (xs:List Str) (hx20:ZeI xs≤1048576) (B:Kn) (hx:SlK B q cp 1 Zdt xs):Zx (pj J) 195 [.slice q xs.length cp] B [] (fun v B' Ls=>∃q c l,v = .slice q xs.length c∧B'=B∧Ls=[l]∧ZU Kn.none l q c 9 1 Zdt xs):=by
 refine cB 22 Tryz.func195 (h:=?_)
 have hxn:=hx.len
 have hx21:=Ztc hx20
 refine Za (xA (h:=Za (xM (h:=xV Tryz.underlying144 (h:=Zk (ZaQ (m:=xs.length) (c:=xs.length) (by_:=16) [.string ⟨#[]⟩] rfl rfl ZrS zo9 rfl rfl ⟨_,_,rfl,by first | omega | (simp;done) | (simp;omega)⟩ ⟨_,_,rfl,by first | omega | (simp;done) | (simp;omega)⟩ om om (fun b1=>?_)))))))
 have hv1:=ZU.zeros (B:=Kn.none) (b:=b1) (T:=9) (R:=Zdt) (d:=([]:Str)) (m:=xs.length) (c:=xs.length) (zs:=[.string ⟨#[]⟩]) rfl (⟨rfl,by simp⟩) om
 refine xA (h:=tL1 (Zd (Za (xA (h:=Zh (Zv (α:=Nat × Cells) [0,2] (fun g=>[(3,.slice (some ⟨b1,0,none⟩) xs.length xs.length),(4,.int .i64 g.1)]) [0] (fun g=>[g.2]) (fun g Bx=>Bx=B∧g.1≤xs.length∧ZU Kn.none g.2 (some ⟨b1,0,none⟩) xs.length 9 1 Zdt (fill xs ([]:Str) g.1)) (fun g=>xs.length - g.1) (0,_) t2 rfl (⟨rfl,Nat.zero_le _,by rw [ZcL];exact hv1⟩) (fun g B2 hle2 hI=>?_)))))))
 obtain ⟨rfl,hk,hvl⟩:=hI
 have hfl:=ZdN (d:=([]:Str)) hk
 refine Zz [(0,_),(2,_),(3,_),(4,_)] [_] t4 rfl (Zd (Za (xM (h:=xM (h:=xV Tryz.underlying144 (h:=ZB (h:=Zb rfl (fun g1=>?_) (fun g1=>?_))))))))
 try simp only [sQ,ne_eq] at g1
 refine wSk (Zd (Zh (Zf (xM (h:=xM (h:=xM (h:=xM (h:=?_))))))))
 obtain ⟨z,hz⟩:=ZM (xs:=xs) (i:=g.1) om
 obtain ⟨bb4,oo4,rfl⟩:=hx.base hz
 obtain ⟨_,⟨rfl,hb5⟩,hc5⟩:=hx.elem hz
 refine xIx Tryz.underlying144 sz9 (h:=y1 lk9 hc5 0 (h:=xIp rfl Tryz.underlying144 sz9 (h:=Zk (ZnK (R:=Zdt) (k:=g.1) (z) 0 rfl hvl rfl om rfl rfl sz9 rfl rfl rfl rfl rfl (⟨rfl,by first | assumption | omega | (simp;omega)⟩) (fun l7 hv7=>?_)))))
 refine ZI (Zm (Zf (xM (h:=xD (h:=xA (h:=?_))))))
 exact Zy (g.1+1,l7) [0] so2 ⟨rfl,so,by rw [← ZcM hz];exact hv7⟩ t4 rfl
 try simp only [sQ,ne_eq] at g1
 refine ZA (ZP (ZC (Zs (Zm (Za (xM (h:=xA (h:=Ze ?_))))))))
 exact eN [0] rfl t1 ⟨_,_,_,rfl,rfl,rfl,by have e:=hvl;rw [ZdO oz] at e;exact e⟩

theorem Zn3 (q:Option Addr) (cp:Nat) (xs:List DUser) (hx20:szL ZcG xs≤1048576) (B:Kn) (hx:SlK B q cp 3 ZJ xs):Zx (pj J) 40 [.slice q xs.length cp] B [] (fun v B' Ls=>∃q c l,v = .slice q xs.length c∧B'=B∧Ls=[l]∧ZU Kn.none l q c 142 3 ZJ xs):=by
 refine cB 23 Tryz.func40 (h:=?_)
 have hxn:=hx.len
 have hx21:=(ZaK hx20).1
 refine Za (xA (h:=Za (xM (h:=xV Tryz.underlying22 (h:=Zk (ZaQ (m:=xs.length) (c:=xs.length) (by_:=40) [.string ⟨#[]⟩,.string ⟨#[]⟩,.int .i64 0] rfl rfl ZyI Zfc rfl rfl ⟨_,_,rfl,by first | omega | (simp;done) | (simp;omega)⟩ ⟨_,_,rfl,by first | omega | (simp;done) | (simp;omega)⟩ om om (fun b1=>?_)))))))
 have hv1:=ZU.zeros (B:=Kn.none) (b:=b1) (T:=142) (R:=ZJ) (d:=(⟨[],[],0⟩:DUser)) (m:=xs.length) (c:=xs.length) (zs:=[.string ⟨#[]⟩,.string ⟨#[]⟩,.int .i64 0]) rfl (⟨rfl,by simp,by simp⟩) om
 refine xA (h:=tL1 (Zd (Za (xA (h:=Zh (Zv (α:=Nat × Cells) [0,2] (fun g=>[(3,.slice (some ⟨b1,0,none⟩) xs.length xs.length),(4,.int .i64 g.1)]) [0] (fun g=>[g.2]) (fun g Bx=>Bx=B∧g.1≤xs.length∧ZU Kn.none g.2 (some ⟨b1,0,none⟩) xs.length 142 3 ZJ (fill xs (⟨[],[],0⟩:DUser) g.1)) (fun g=>xs.length - g.1) (0,_) t2 rfl (⟨rfl,Nat.zero_le _,by rw [ZcL];exact hv1⟩) (fun g B2 hle2 hI=>?_)))))))
 obtain ⟨rfl,hk,hvl⟩:=hI
 have hfl:=ZdN (d:=(⟨[],[],0⟩:DUser)) hk
 refine Zz [(0,_),(2,_),(3,_),(4,_)] [_] t4 rfl (Zd (Za (xM (h:=xM (h:=xV Tryz.underlying22 (h:=ZB (h:=Zb rfl (fun g1=>?_) (fun g1=>?_))))))))
 try simp only [sQ,ne_eq] at g1
 refine wSk (Zd (Zh (Zf (xM (h:=xM (h:=xM (h:=xM (h:=?_))))))))
 obtain ⟨z,hz⟩:=ZM (xs:=xs) (i:=g.1) om
 obtain ⟨bb4,oo4,rfl⟩:=hx.base hz
 obtain ⟨_,⟨rfl,hb5,hb5b⟩,hc5⟩:=hx.elem hz
 refine xIx Tryz.underlying22 ZuX (h:=yL [_,_,_] Zvj hc5 0 (h:=xR Zzu rfl (ZqL z  _) (h:=xIp rfl Tryz.underlying38 ZbQ (h:=Zk (ZnK (R:=ZJ) (k:=g.1) (z) 0 rfl hvl rfl om rfl rfl ZbQ rfl rfl rfl rfl rfl (⟨rfl,by first | assumption | omega | (simp;done) | (simp;omega),by first | assumption | omega | (simp;done) | (simp;omega)⟩) (fun l8 hv8=>?_))))))
 refine ZI (Zm (Zf (xM (h:=xD (h:=xA (h:=?_))))))
 exact Zy (g.1+1,l8) [0] so2 ⟨rfl,so,by rw [← ZcM hz];exact hv8⟩ t4 rfl
 try simp only [sQ,ne_eq] at g1
 refine ZA (ZP (ZC (Zs (Zm (Za (xM (h:=xA (h:=Ze ?_))))))))
 exact eN [0] rfl t1 ⟨_,_,_,rfl,rfl,rfl,by have e:=hvl;rw [ZdO oz] at e;exact e⟩

theorem ZmF (q:Option Addr) (cp:Nat) (xs:List DGrant) (hx20:szL ZbW xs≤1048576) (B:Kn) (hx:SlK B q cp 2 Z1 xs):Zx (pj J) 140 [.slice q xs.length cp] B [] (fun v B' Ls=>∃q c l,v = .slice q xs.length c∧B'=B∧Ls=[l]∧ZU Kn.none l q c 224 2 Z1 xs):=by
 refine cB 23 Tryz.func140 (h:=?_)
 have hxn:=hx.len
 have hx21:=(ZaK hx20).1
 refine Za (xA (h:=Za (xM (h:=xV Tryz.underlying132 (h:=Zk (ZaQ (m:=xs.length) (c:=xs.length) (by_:=24) [.string ⟨#[]⟩,.int .i64 0] rfl rfl ZyF ZnF rfl rfl ⟨_,_,rfl,by first | omega | (simp;done) | (simp;omega)⟩ ⟨_,_,rfl,by first | omega | (simp;done) | (simp;omega)⟩ om om (fun b1=>?_)))))))
 have hv1:=ZU.zeros (B:=Kn.none) (b:=b1) (T:=224) (R:=Z1) (d:=(⟨[],0⟩:DGrant)) (m:=xs.length) (c:=xs.length) (zs:=[.string ⟨#[]⟩,.int .i64 0]) rfl (⟨rfl,by simp⟩) om
 refine xA (h:=tL1 (Zd (Za (xA (h:=Zh (Zv (α:=Nat × Cells) [0,2] (fun g=>[(3,.slice (some ⟨b1,0,none⟩) xs.length xs.length),(4,.int .i64 g.1)]) [0] (fun g=>[g.2]) (fun g Bx=>Bx=B∧g.1≤xs.length∧ZU Kn.none g.2 (some ⟨b1,0,none⟩) xs.length 224 2 Z1 (fill xs (⟨[],0⟩:DGrant) g.1)) (fun g=>xs.length - g.1) (0,_) t2 rfl (⟨rfl,Nat.zero_le _,by rw [ZcL];exact hv1⟩) (fun g B2 hle2 hI=>?_)))))))
 obtain ⟨rfl,hk,hvl⟩:=hI
 have hfl:=ZdN (d:=(⟨[],0⟩:DGrant)) hk
 refine Zz [(0,_),(2,_),(3,_),(4,_)] [_] t4 rfl (Zd (Za (xM (h:=xM (h:=xV Tryz.underlying132 (h:=ZB (h:=Zb rfl (fun g1=>?_) (fun g1=>?_))))))))
 try simp only [sQ,ne_eq] at g1
 refine wSk (Zd (Zh (Zf (xM (h:=xM (h:=xM (h:=xM (h:=?_))))))))
 obtain ⟨z,hz⟩:=ZM (xs:=xs) (i:=g.1) om
 obtain ⟨bb4,oo4,rfl⟩:=hx.base hz
 obtain ⟨_,⟨rfl,hb5⟩,hc5⟩:=hx.elem hz
 refine xIx Tryz.underlying132 ZuS (h:=yL [_,_] Zvc hc5 0 (h:=xR Zxx rfl (Zn7 z  _) (h:=xIp rfl Tryz.underlying82 Zd0 (h:=Zk (ZnK (R:=Z1) (k:=g.1) (z) 0 rfl hvl rfl om rfl rfl Zd0 rfl rfl rfl rfl rfl (⟨rfl,by first | assumption | omega | (simp;done) | (simp;omega)⟩) (fun l8 hv8=>?_))))))
 refine ZI (Zm (Zf (xM (h:=xD (h:=xA (h:=?_))))))
 exact Zy (g.1+1,l8) [0] so2 ⟨rfl,so,by rw [← ZcM hz];exact hv8⟩ t4 rfl
 try simp only [sQ,ne_eq] at g1
 refine ZA (ZP (ZC (Zs (Zm (Za (xM (h:=xA (h:=Ze ?_))))))))
 exact eN [0] rfl t1 ⟨_,_,_,rfl,rfl,rfl,by have e:=hvl;rw [ZdO oz] at e;exact e⟩

theorem ZqN (x:DSpan)  (B:Kn):Z0 (pj J) 43 [.agg #[.int .i64 x.low,.int .i64 x.high]] B (.agg #[.int .i64 x.low,.int .i64 x.high]):=by
 refine cB 11 Tryz.func43 (h:=?_)
 refine Za (xBx [_,_] (h:=fun b1=>xAl [_,_] Zuk (h:=fun b2=>tL2 (Za (xAl [_,_] Zuk (h:=fun b3=>tL3 (Za (xW Zvs (h:=x1 lk3 0 (h:=xW Zgq (h:=xS [_] 2 [_,_] sz3 (h:=tL3 (Za (xW Zvr (h:=x1 lk3 0 (h:=xW Zgp (h:=xS [_] 2 [_,_] sz3 (h:=tL3 (Za (xL [_,_] Zuj 2 (h:=xS [_,_] 1 [_,_] ZkM (h:=tL3 (Ze ?_)))))))))))))))))))))))
 exact eR ⟨⟨_,rfl,.inr ⟨[_,_],Zuj,Zct 1 rfl rfl rfl,rfl⟩⟩,trivial⟩ ⟨rfl,rfl,rfl⟩

theorem Zfi (q:Option Addr) (cp:Nat) (xs:List DSpan) (hx20:xs.length≤1048576) (B:Kn) (hx:SlK B q cp 2 Zak xs):Zx (pj J) 13 [.slice q xs.length cp] B [] (fun v B' Ls=>∃q c l,v = .slice q xs.length c∧B'=B∧Ls=[l]∧ZU Kn.none l q c 72 2 Zak xs):=by
 refine cB 23 Tryz.func13 (h:=?_)
 have hxn:=hx.len
 have hx21:=hx20
 refine Za (xA (h:=Za (xM (h:=xV Tryz.underlying31 (h:=Zk (ZaQ (m:=xs.length) (c:=xs.length) (by_:=16) [.int .i64 0,.int .i64 0] rfl rfl Zzl Zuk rfl rfl ⟨_,_,rfl,by first | omega | (simp;done) | (simp;omega)⟩ ⟨_,_,rfl,by first | omega | (simp;done) | (simp;omega)⟩ om om (fun b1=>?_)))))))
 have hv1:=ZU.zeros (B:=Kn.none) (b:=b1) (T:=72) (R:=Zak) (d:=(⟨0,0⟩:DSpan)) (m:=xs.length) (c:=xs.length) (zs:=[.int .i64 0,.int .i64 0]) rfl (rfl) om
 refine xA (h:=tL1 (Zd (Za (xA (h:=Zh (Zv (α:=Nat × Cells) [0,2] (fun g=>[(3,.slice (some ⟨b1,0,none⟩) xs.length xs.length),(4,.int .i64 g.1)]) [0] (fun g=>[g.2]) (fun g Bx=>Bx=B∧g.1≤xs.length∧ZU Kn.none g.2 (some ⟨b1,0,none⟩) xs.length 72 2 Zak (fill xs (⟨0,0⟩:DSpan) g.1)) (fun g=>xs.length - g.1) (0,_) t2 rfl (⟨rfl,Nat.zero_le _,by rw [ZcL];exact hv1⟩) (fun g B2 hle2 hI=>?_)))))))
 obtain ⟨rfl,hk,hvl⟩:=hI
 have hfl:=ZdN (d:=(⟨0,0⟩:DSpan)) hk
 refine Zz [(0,_),(2,_),(3,_),(4,_)] [_] t4 rfl (Zd (Za (xM (h:=xM (h:=xV Tryz.underlying31 (h:=ZB (h:=Zb rfl (fun g1=>?_) (fun g1=>?_))))))))
 try simp only [sQ,ne_eq] at g1
 refine wSk (Zd (Zh (Zf (xM (h:=xM (h:=xM (h:=xM (h:=?_))))))))
 obtain ⟨z,hz⟩:=ZM (xs:=xs) (i:=g.1) om
 obtain ⟨bb4,oo4,rfl⟩:=hx.base hz
 obtain ⟨_,rfl,hc5⟩:=hx.elem hz
 refine xIx Tryz.underlying31 Zy2 (h:=yL [_,_] Zzj hc5 0 (h:=xR ZzP rfl (ZqN z  _) (h:=xIp rfl Tryz.underlying48 ZkM (h:=Zk (ZnK (R:=Zak) (k:=g.1) (z) 0 rfl hvl rfl om rfl rfl ZkM rfl rfl rfl rfl rfl (rfl) (fun l8 hv8=>?_))))))
 refine ZI (Zm (Zf (xM (h:=xD (h:=xA (h:=?_))))))
 exact Zy (g.1+1,l8) [0] so2 ⟨rfl,so,by rw [← ZcM hz];exact hv8⟩ t4 rfl
 try simp only [sQ,ne_eq] at g1
 refine ZA (ZP (ZC (Zs (Zm (Za (xM (h:=xA (h:=Ze ?_))))))))
 exact eN [0] rfl t1 ⟨_,_,_,rfl,rfl,rfl,by have e:=hvl;rw [ZdO oz] at e;exact e⟩

theorem Zn5 (q:Option Addr) (cp:Nat) (xs:List DMail) (hx20:szL ZcX xs≤1048576) (B:Kn) (hx:SlK B q cp 3 Zao xs):Zx (pj J) 194 [.slice q xs.length cp] B [] (fun v B' Ls=>∃q c l,v = .slice q xs.length c∧B'=B∧Ls=[l]∧ZU Kn.none l q c 89 3 Zao xs):=by
 refine cB 23 Tryz.func194 (h:=?_)
 have hxn:=hx.len
 have hx21:=(ZaK hx20).1
 refine Za (xA (h:=Za (xM (h:=xV Tryz.underlying133 (h:=Zk (ZaQ (m:=xs.length) (c:=xs.length) (by_:=32) [.int .i64 0,.int .i64 0,.string ⟨#[]⟩] rfl rfl ZyE Zsi rfl rfl ⟨_,_,rfl,by first | omega | (simp;done) | (simp;omega)⟩ ⟨_,_,rfl,by first | omega | (simp;done) | (simp;omega)⟩ om om (fun b1=>?_)))))))
 have hv1:=ZU.zeros (B:=Kn.none) (b:=b1) (T:=89) (R:=Zao) (d:=(⟨0,0,[]⟩:DMail)) (m:=xs.length) (c:=xs.length) (zs:=[.int .i64 0,.int .i64 0,.string ⟨#[]⟩]) rfl (⟨rfl,by simp⟩) om
 refine xA (h:=tL1 (Zd (Za (xA (h:=Zh (Zv (α:=Nat × Cells) [0,2] (fun g=>[(3,.slice (some ⟨b1,0,none⟩) xs.length xs.length),(4,.int .i64 g.1)]) [0] (fun g=>[g.2]) (fun g Bx=>Bx=B∧g.1≤xs.length∧ZU Kn.none g.2 (some ⟨b1,0,none⟩) xs.length 89 3 Zao (fill xs (⟨0,0,[]⟩:DMail) g.1)) (fun g=>xs.length - g.1) (0,_) t2 rfl (⟨rfl,Nat.zero_le _,by rw [ZcL];exact hv1⟩) (fun g B2 hle2 hI=>?_)))))))
 obtain ⟨rfl,hk,hvl⟩:=hI
 have hfl:=ZdN (d:=(⟨0,0,[]⟩:DMail)) hk
 refine Zz [(0,_),(2,_),(3,_),(4,_)] [_] t4 rfl (Zd (Za (xM (h:=xM (h:=xV Tryz.underlying133 (h:=ZB (h:=Zb rfl (fun g1=>?_) (fun g1=>?_))))))))
 try simp only [sQ,ne_eq] at g1
 refine wSk (Zd (Zh (Zf (xM (h:=xM (h:=xM (h:=xM (h:=?_))))))))
 obtain ⟨z,hz⟩:=ZM (xs:=xs) (i:=g.1) om
 obtain ⟨bb4,oo4,rfl⟩:=hx.base hz
 obtain ⟨_,⟨rfl,hb5⟩,hc5⟩:=hx.elem hz
 refine xIx Tryz.underlying133 ZuQ (h:=yL [_,_,_] Zva hc5 0 (h:=xR Zxb rfl (ZqO z  _) (h:=xIp rfl Tryz.underlying83 ZhA (h:=Zk (ZnK (R:=Zao) (k:=g.1) (z) 0 rfl hvl rfl om rfl rfl ZhA rfl rfl rfl rfl rfl (⟨rfl,by first | assumption | omega | (simp;done) | (simp;omega)⟩) (fun l8 hv8=>?_))))))
 refine ZI (Zm (Zf (xM (h:=xD (h:=xA (h:=?_))))))
 exact Zy (g.1+1,l8) [0] so2 ⟨rfl,so,by rw [← ZcM hz];exact hv8⟩ t4 rfl
 try simp only [sQ,ne_eq] at g1
 refine ZA (ZP (ZC (Zs (Zm (Za (xM (h:=xA (h:=Ze ?_))))))))
 exact eN [0] rfl t1 ⟨_,_,_,rfl,rfl,rfl,by have e:=hvl;rw [ZdO oz] at e;exact e⟩

theorem ZqP (q:Option Addr) (cp:Nat) (x:DItem) (B:Kn) (hx:SlK B q cp 1 Zdt x.left) (hl:ZeI x.left≤1048576):Zx (pj J) 142 [.agg #[.int .i64 x.id,str x.fr,str x.text,.slice q x.left.length cp]] B [] (fun v B' Ls=>∃q0 c0 l0,v = .agg #[.int .i64 x.id,str x.fr,str x.text,.slice q0 x.left.length c0]∧B'=B∧Ls=[l0]∧ZU Kn.none l0 q0 c0 9 1 Zdt x.left):=by
 refine cB 18 Tryz.func142 (h:=?_)
 refine Za (xBx [_,_,_,_] (h:=fun b1=>xAl [_,_,_,_] ZfF (h:=fun b2=>tL2 (Za (xAl [_,_,_,_] ZfF (h:=fun b3=>tL3 (Za (xW ZtP (h:=x1 lk3 0 (h:=xW Zej (h:=xS [_] 2 [_,_,_,_] sz3 (h:=tL3 (Za (xW Zpr (h:=x1 lk9 0 (h:=xW Zei (h:=xS [_] 2 [_,_,_,_] sz9 (h:=tL3 (Za (xW Zpq (h:=x1 lk9 0 (h:=xW Zf1 (h:=xS [_] 2 [_,_,_,_] sz9 (h:=tL3 (Za (xW Zpp (h:=x1 ZfV 0 (h:=xC Zxv rfl (ZqM _ _ x.left om2 _ hx) (h:=?_)))))))))))))))))))))))))))))
 rintro _ B4 _ hle4 ⟨q4,c4,l4,rfl,rfl,rfl,hv4⟩
 refine xW Zda (h:=xS [_] 2 [_,_,_,_] ZuV (h:=tL4 (Za (xL [_,_,_,_] Ze4 2 (h:=xS [_,_,_,_] 1 [_,_,_,_] Zcc (h:=tL4 (Ze ?_)))))))
 exact eN [3] rfl ⟨⟨_,rfl,.inr ⟨[_,_,_,_],Ze4,Zct 1 rfl rfl rfl,rfl⟩⟩,trivial⟩ ⟨_,_,_,rfl,rfl,rfl,hv4⟩

theorem Zn6 (q:Option Addr) (cp:Nat) (xs:List DItem) (hx20:szL Zbg xs≤1048576) (B:Kn) (hx:SlK B q cp 4 ZaA xs):Zx (pj J) 90 [.slice q xs.length cp] B [] (fun v B' Ls=>∃q c l,v = .slice q xs.length c∧B'=B∧Ls=[l]∧ZaM l q c 146 4 (Za8 9) xs):=by
 refine cB 23 Tryz.func90 (h:=?_)
 have hxn:=hx.len
 have hx21:=(ZaK hx20).1
 refine Za (xA (h:=Za (xM (h:=xV Tryz.underlying24 (h:=Zk (ZaQ (m:=xs.length) (c:=xs.length) (by_:=64) [.int .i64 0,.string ⟨#[]⟩,.string ⟨#[]⟩,.slice none 0 0] rfl rfl ZyH ZfF rfl rfl ⟨_,_,rfl,by first | omega | (simp;done) | (simp;omega)⟩ ⟨_,_,rfl,by first | omega | (simp;done) | (simp;omega)⟩ om om (fun b1=>?_)))))))
 have hd1:=ZaM.zeros (b:=b1) (T:=146) (R:=Za8 9) (d:=(⟨0,[],[],[]⟩:DItem)) (m:=xs.length) (c:=xs.length) (zs:=[.int .i64 0,.string ⟨#[]⟩,.string ⟨#[]⟩,.slice none 0 0]) rfl (⟨_,_,rfl,ZU.nil,by simp,by simp,by simp⟩) om
 refine xA (h:=tL1 (Zd (Za (xA (h:=Zh (Zv (α:=Nat × Cells) [0,2] (fun g=>[(3,.slice (some ⟨b1,0,none⟩) xs.length xs.length),(4,.int .i64 g.1)]) [0] (fun g=>[g.2]) (fun g Bx=>Bx=B∧g.1≤xs.length∧ZaM g.2 (some ⟨b1,0,none⟩) xs.length 146 4 (Za8 9) (fill xs (⟨0,[],[],[]⟩:DItem) g.1)) (fun g=>xs.length - g.1) (0,_) t2 rfl (⟨rfl,Nat.zero_le _,by rw [ZcL];exact hd1⟩) (fun g B2 hle2 hI=>?_)))))))
 obtain ⟨rfl,hk,hvl⟩:=hI
 have hfl:=ZdN (d:=(⟨0,[],[],[]⟩:DItem)) hk
 refine Zz [(0,_),(2,_),(3,_),(4,_)] [_] t4 rfl (Zd (Za (xM (h:=xM (h:=xV Tryz.underlying24 (h:=ZB (h:=Zb rfl (fun g1=>?_) (fun g1=>?_))))))))
 try simp only [sQ,ne_eq] at g1
 refine wSk (Zd (Zh (Zf (xM (h:=xM (h:=xM (h:=xM (h:=?_))))))))
 obtain ⟨z,hz⟩:=ZM (xs:=xs) (i:=g.1) om
 obtain ⟨bb4,oo4,rfl⟩:=hx.base hz
 obtain ⟨_,⟨qi5,ci5,rfl,hi5,hb5,hb5b⟩,hc5⟩:=hx.elem hz
 have hi5n:=hi5.len
 refine xIx Tryz.underlying24 ZuU (h:=?_)
 have hzz:=(ZaK hx20).2 z (List.mem_of_getElem? hz)
 have hza:=ZtD hzz
 refine yL [_,_,_,_] Zve hc5 0 (h:=xC Zx2 rfl (ZqP _ _ z _ hi5 om2) (h:=?_))
 rintro _ B6 _ hle6 ⟨q6,c6,l6,rfl,rfl,rfl,hv6⟩
 refine xIp rfl Tryz.underlying40 Zcc (h:=Zk (Zuo (R:=Za8 9) (k:=g.1) (z) 0 [1] rfl rfl hvl rfl om rfl rfl Zcc rfl rfl rfl rfl rfl (l6) (by simp) (⟨_,_,rfl,hv6,by first | assumption | omega | (simp;done) | (simp;omega),by first | assumption | omega | (simp;done) | (simp;omega),by first | assumption | omega | (simp;done) | (simp;omega)⟩) (fun l8 hd8=>?_)))
 refine ZI (Zm (Zf (xM (h:=xD (h:=xA (h:=?_))))))
 exact Zy (g.1+1,l8) [0] so2 ⟨rfl,so,by rw [← ZcM hz];exact hd8⟩ t4 rfl
 try simp only [sQ,ne_eq] at g1
 refine ZA (ZP (ZC (Zs (Zm (Za (xM (h:=xA (h:=Ze ?_))))))))
 exact eN [0] rfl t1 ⟨_,_,_,rfl,rfl,rfl,by have e:=hvl;rw [ZdO oz] at e;exact e⟩

theorem Zn4 (q:Option Addr) (cp:Nat) (x:DQueue) (B:Kn) (hx:SlK B q cp 4 ZaA x.items) (hl:szL Zbg x.items≤1048576):Zx (pj J) 42 [.agg #[.int .i64 x.next,.slice q x.items.length cp]] B [] (fun v B' Ls=>∃q0 c0 l0,v = .agg #[.int .i64 x.next,.slice q0 x.items.length c0]∧B'=B∧Ls=[l0]∧ZaM l0 q0 c0 146 4 (Za8 9) x.items):=by
 refine cB 12 Tryz.func42 (h:=?_)
 refine Za (xBx [_,_] (h:=fun b1=>xAl [_,_] Zui (h:=fun b2=>tL2 (Za (xAl [_,_] Zui (h:=fun b3=>tL3 (Za (xW Zvt (h:=x1 lk3 0 (h:=xW Zgr (h:=xS [_] 2 [_,_] sz3 (h:=tL3 (Za (xW ZsN (h:=x1 ZyB 0 (h:=xC Zzs rfl (Zn6 _ _ x.items om2 _ hx) (h:=?_)))))))))))))))))
 rintro _ B4 _ hle4 ⟨q4,c4,l4,rfl,rfl,rfl,hv4⟩
 refine xW Zcq (h:=xS [_] 2 [_,_] Zyt (h:=tL4 (Za (xL [_,_] ZnC 2 (h:=xS [_,_] 1 [_,_] ZuO (h:=tL4 (Ze ?_)))))))
 exact eN [3] rfl ⟨⟨_,rfl,.inr ⟨[_,_],ZnC,Zct 1 rfl rfl rfl,rfl⟩⟩,trivial⟩ ⟨_,_,_,rfl,rfl,rfl,hv4⟩

theorem Zs6 (q:Option Addr) (cp:Nat) (x:DBox) (B:Kn) (hx:SlK B q cp 3 Zao x.mail) (hl:szL ZcX x.mail≤1048576):Zx (pj J) 141 [.agg #[.int .i64 x.next,.slice q x.mail.length cp]] B [] (fun v B' Ls=>∃q0 c0 l0,v = .agg #[.int .i64 x.next,.slice q0 x.mail.length c0]∧B'=B∧Ls=[l0]∧ZU Kn.none l0 q0 c0 89 3 Zao x.mail):=by
 refine cB 12 Tryz.func141 (h:=?_)
 refine Za (xBx [_,_] (h:=fun b1=>xAl [_,_] ZvY (h:=fun b2=>tL2 (Za (xAl [_,_] ZvY (h:=fun b3=>tL3 (Za (xW ZtQ (h:=x1 lk3 0 (h:=xW Zgo (h:=xS [_] 2 [_,_] sz3 (h:=tL3 (Za (xW ZpA (h:=x1 Zvh 0 (h:=xC Zxw rfl (Zn5 _ _ x.mail om2 _ hx) (h:=?_)))))))))))))))))
 rintro _ B4 _ hle4 ⟨q4,c4,l4,rfl,rfl,rfl,hv4⟩
 refine xW ZbT (h:=xS [_] 2 [_,_] Zy3 (h:=tL4 (Za (xL [_,_] ZnB 2 (h:=xS [_,_] 1 [_,_] ZvZ (h:=tL4 (Ze ?_)))))))
 exact eN [3] rfl ⟨⟨_,rfl,.inr ⟨[_,_],ZnB,Zct 1 rfl rfl rfl,rfl⟩⟩,trivial⟩ ⟨_,_,_,rfl,rfl,rfl,hv4⟩

theorem ZmG (qa qb:Option Addr) (ca cb:Nat) (x:DFolder) (B:Kn) (hx:SlK B qa ca 2 Z1 x.grants) (hy:SlK B qb cb 3 Zao x.mail) (hl:szL ZbW x.grants≤1048576) (hl2:szL ZcX x.mail≤1048576):Zx (pj J) 89 [.agg #[str x.owner,str x.name,.slice qa x.grants.length ca,.int .i64 x.next,.slice qb x.mail.length cb]] B [] (fun v B' Ls=>∃q0 c0 l0 q1 c1 l1,v = .agg #[str x.owner,str x.name,.slice q0 x.grants.length c0,.int .i64 x.next,.slice q1 x.mail.length c1]∧B'=B∧Ls=[l0,l1]∧ZU Kn.none l0 q0 c0 224 2 Z1 x.grants∧ZU Kn.none l1 q1 c1 89 3 Zao x.mail):=by
 refine cB 19 Tryz.func89 (h:=?_)
 refine Za (xBx [_,_,_,_,_] (h:=fun b1=>xAl [_,_,_,_,_] Zny (h:=fun b2=>tL2 (Za (xAl [_,_,_,_,_] Zny (h:=fun b3=>tL3 (Za (xW Zpz (h:=x1 lk9 0 (h:=xW ZbS (h:=xS [_] 2 [_,_,_,_,_] sz9 (h:=tL3 (Za (xW Zpy (h:=x1 lk9 0 (h:=xW ZdW (h:=xS [_] 2 [_,_,_,_,_] sz9 (h:=tL3 (Za (xW Zpx (h:=x1 Zvi 0 (h:=xC Zx4 rfl (ZmF _ _ x.grants om2 _ hx) (h:=?_)))))))))))))))))))))))
 rintro _ B4 _ hle4 ⟨q4,c4,l4,rfl,rfl,rfl,hv4⟩
 refine xW ZeM (h:=xS [_] 2 [_,_,_,_,_] Zys (h:=tL4 (Za (xW Zpw (h:=xL [_,_] Zvg 0 (h:=xC Zx3 rfl (Zs6 _ _ ⟨x.next,x.mail⟩ _ hy om2) (h:=?_)))))))
 rintro _ B5 _ hle5 ⟨q5,c5,l5,rfl,rfl,rfl,hv5⟩
 refine xW Zc1 (h:=xS [_,_] 2 [_,_,_,_,_] ZvZ (h:=tL5 (Za (xL [_,_,_,_,_] ZiA 2 (h:=xS [_,_,_,_,_] 1 [_,_,_,_,_] ZdS (h:=tL5 (Ze ?_)))))))
 exact eN [3,4] rfl ⟨⟨_,rfl,.inr ⟨[_,_,_,_,_],ZiA,Zct 1 rfl rfl rfl,rfl⟩⟩,trivial⟩ ⟨_,_,_,_,_,_,rfl,rfl,rfl,hv4,hv5⟩

theorem ZkJ (q:Option Addr) (cp:Nat) (xs:List DFolder) (hx20:szL Zaj xs≤1048576) (B:Kn) (hx:SlK B q cp 5 ZG xs):Zx (pj J) 41 [.slice q xs.length cp] B [] (fun v B' Ls=>∃q c l,v = .slice q xs.length c∧B'=B∧Ls=[l]∧ZaM l q c 87 5 (Z4 224 89) xs):=by
 refine cB 23 Tryz.func41 (h:=?_)
 have hxn:=hx.len
 have hx21:=(ZaK hx20).1
 refine Za (xA (h:=Za (xM (h:=xV Tryz.underlying23 (h:=Zk (ZaQ (m:=xs.length) (c:=xs.length) (by_:=88) [.string ⟨#[]⟩,.string ⟨#[]⟩,.slice none 0 0,.int .i64 0,.slice none 0 0] rfl rfl ZwR Zny rfl rfl ⟨_,_,rfl,by first | omega | (simp;done) | (simp;omega)⟩ ⟨_,_,rfl,by first | omega | (simp;done) | (simp;omega)⟩ om om (fun b1=>?_)))))))
 have hd1:=ZaM.zeros (b:=b1) (T:=87) (R:=(Z4 224 89)) (d:=(⟨[],[],[],0,[]⟩:DFolder)) (m:=xs.length) (c:=xs.length) (zs:=[.string ⟨#[]⟩,.string ⟨#[]⟩,.slice none 0 0,.int .i64 0,.slice none 0 0]) rfl (⟨_,_,_,_,[],[],rfl,rfl,ZU.nil,ZU.nil,by simp,by simp,by simp,by simp⟩) om
 refine xA (h:=tL1 (Zd (Za (xA (h:=Zh (Zv (α:=Nat × Cells) [0,2] (fun g=>[(3,.slice (some ⟨b1,0,none⟩) xs.length xs.length),(4,.int .i64 g.1)]) [0] (fun g=>[g.2]) (fun g Bx=>Bx=B∧g.1≤xs.length∧ZaM g.2 (some ⟨b1,0,none⟩) xs.length 87 5 (Z4 224 89) (fill xs (⟨[],[],[],0,[]⟩:DFolder) g.1)) (fun g=>xs.length - g.1) (0,_) t2 rfl (⟨rfl,Nat.zero_le _,by rw [ZcL];exact hd1⟩) (fun g B2 hle2 hI=>?_)))))))
 obtain ⟨rfl,hk,hvl⟩:=hI
 have hfl:=ZdN (d:=(⟨[],[],[],0,[]⟩:DFolder)) hk
 refine Zz [(0,_),(2,_),(3,_),(4,_)] [_] t4 rfl (Zd (Za (xM (h:=xM (h:=xV Tryz.underlying23 (h:=ZB (h:=Zb rfl (fun g1=>?_) (fun g1=>?_))))))))
 try simp only [sQ,ne_eq] at g1
 refine wSk (Zd (Zh (Zf (xM (h:=xM (h:=xM (h:=xM (h:=?_))))))))
 obtain ⟨z,hz⟩:=ZM (xs:=xs) (i:=g.1) om
 obtain ⟨bb4,oo4,rfl⟩:=hx.base hz
 obtain ⟨_,⟨qg5,cg5,qm5,cm5,rfl,hg5,hm5,hb5,hb5b⟩,hc5⟩:=hx.elem hz
 have hg5n:=hg5.len
 have hm5n:=hm5.len
 have hm5s:=Zal hm5
 refine xIx Tryz.underlying23 ZuW (h:=?_)
 have hzz:=(ZaK hx20).2 z (List.mem_of_getElem? hz)
 have hza:=Zpi hzz
 refine yL [_,_,_,_,_] Zvf hc5 0 (h:=xC Zzt rfl (ZmG _ _ _ _ z _ hg5 hm5 om2 om2) (h:=?_))
 rintro _ B6 _ hle6 ⟨q6,c6,l6,q6b,c6b,l6b,rfl,rfl,rfl,hv6,hv6b⟩
 refine xIp rfl Tryz.underlying39 ZdS (h:=Zk (Zuo (R:=(Z4 224 89)) (k:=g.1) (z) 0 [1,2] rfl rfl hvl rfl om rfl rfl ZdS rfl rfl rfl rfl rfl (l6 ++ l6b) (by simp) (⟨_,_,_,_,_,_,rfl,rfl,(hv6.anyK Z1.any),(hv6b.anyK Zao.any),by first | assumption | omega | (simp;done) | (simp;omega),by first | assumption | omega | (simp;done) | (simp;omega),by first | assumption | omega | (simp;done) | (simp;omega),by first | assumption | omega | (simp;done) | (simp;omega)⟩) (fun l8 hd8=>?_)))
 refine ZI (Zm (Zf (xM (h:=xD (h:=xA (h:=?_))))))
 exact Zy (g.1+1,l8) [0] so2 ⟨rfl,so,by rw [← ZcM hz];exact hd8⟩ t4 rfl
 try simp only [sQ,ne_eq] at g1
 refine ZA (ZP (ZC (Zs (Zm (Za (xM (h:=xA (h:=Ze ?_))))))))
 exact eN [0] rfl t1 ⟨_,_,_,rfl,rfl,rfl,by have e:=hvl;rw [ZdO oz] at e;exact e⟩

theorem Zgv (q1 q2 q3:Option Addr) (c1 c2 c3:Nat) (x:DHost) (B:Kn) (hu:SlK B q1 c1 3 ZJ x.users) (hf:SlK B q2 c2 5 ZG x.folders) (hi:SlK B q3 c3 4 ZaA x.queue.items) (hsz:Zcm x≤1048576):Zx (pj J) 11 [.agg #[str x.domain,.slice q1 x.users.length c1,.slice q2 x.folders.length c2,.int .i64 x.queue.next,.slice q3 x.queue.items.length c3]] B [] (fun v B' Ls=>∃q0 c0 l0 q1 c1 l1 q2 c2 l2,v = .agg #[str x.domain,.slice q0 x.users.length c0,.slice q1 x.folders.length c1,.int .i64 x.queue.next,.slice q2 x.queue.items.length c2]∧B'=B∧Ls=[l0,l1,l2]∧ZU Kn.none l0 q0 c0 142 3 ZJ x.users∧ZaM l1 q1 c1 87 5 (Z4 224 89) x.folders∧ZaM l2 q2 c2 146 4 (Za8 9) x.queue.items):=by
 refine cB 20 Tryz.func11 (h:=?_)
 have hsz2:=Zpa hsz
 refine Za (xBx [_,_,_,_,_] (h:=fun b1=>xAl [_,_,_,_,_] ZnE (h:=fun b2=>tL2 (Za (xAl [_,_,_,_,_] ZnE (h:=fun b3=>tL3 (Za (xW ZsM (h:=x1 lk9 0 (h:=xW Zh5 (h:=xS [_] 2 [_,_,_,_,_] sz9 (h:=tL3 (Za (xW ZsL (h:=x1 ZyD 0 (h:=xC ZzS rfl (Zn3 _ _ x.users om2 _ hu) (h:=?_)))))))))))))))))
 rintro _ B4 _ hle4 ⟨q4,c4,l4,rfl,rfl,rfl,hv4⟩
 refine xW ZbU (h:=xS [_] 2 [_,_,_,_,_] Zy6 (h:=tL4 (Za (xW ZsK (h:=x1 ZyC 0 (h:=xC ZzR rfl (ZkJ _ _ x.folders om2 _ hf) (h:=?_)))))))
 rintro _ B5 _ hle5 ⟨q5,c5,l5,rfl,rfl,rfl,hv5⟩
 refine xW ZaB (h:=xS [_] 2 [_,_,_,_,_] Zy5 (h:=tL5 (Za (xW ZsJ (h:=xL [_,_] ZyA 0 (h:=xC ZzQ rfl (Zn4 _ _ ⟨x.queue.next,x.queue.items⟩ _ hi om2) (h:=?_)))))))
 rintro _ B6 _ hle6 ⟨q6,c6,l6,rfl,rfl,rfl,hv6⟩
 refine xW ZeN (h:=xS [_,_] 2 [_,_,_,_,_] ZuO (h:=tL6 (Za (xL [_,_,_,_,_] ZfE 2 (h:=xS [_,_,_,_,_] 1 [_,_,_,_,_] Zoh (h:=tL6 (Ze ?_)))))))
 exact eN [3,4,5] rfl ⟨⟨_,rfl,.inr ⟨[_,_,_,_,_],ZfE,Zct 1 rfl rfl rfl,rfl⟩⟩,trivial⟩ ⟨_,_,_,_,_,_,_,_,_,rfl,rfl,rfl,hv4,hv5,hv6⟩

theorem ZrL   (a b:DUser) (B:Kn)   : Z0 (pj J) 95 [.agg #[str a.name,str a.pass,.int .i64 a.quota],.agg #[str b.name,str b.pass,.int .i64 b.quota]] B (.bool (decide (a=b))):=by
 refine cB 20 Tryz.func95 (h:=?_)
 refine Za (xBx [_,_,_] (h:=fun b1=>xBx [_,_,_] (h:=fun b2=>xA (h:=tL2 (Zd (Za (xW ZaZ (h:=x1 lk9 0 (h:=xW ZaZ (h:=x1 lk9 1 (h:=Zd3 (h:=Zb rfl (fun g1=>?_) (fun g1=>?_)))))))))))))
 try simp only [sQ,ne_eq] at g1
 refine Za (xA (h:=Ze (Zl ?_)))
 exact eR t1 ⟨Zc (by symm;rw [decide_eq_false_iff_not];rintro rfl;exact g1 rfl),rfl,rfl⟩
 try simp only [sQ,ne_eq] at g1
 refine wSk (Zd (Za (xW Zf2 (h:=x1 lk9 0 (h:=xW Zf2 (h:=x1 lk9 1 (h:=Zd3 (h:=Zb rfl (fun g2=>?_) (fun g2=>?_)))))))))
 try simp only [sQ,ne_eq] at g2
 refine Za (xA (h:=Ze (Zl ?_)))
 exact eR t1 ⟨Zc (by symm;rw [decide_eq_false_iff_not];rintro rfl;exact g2 rfl),rfl,rfl⟩
 try simp only [sQ,ne_eq] at g2
 refine wSk (Zd (Za (xW ZdL (h:=x1 lk3 0 (h:=xW ZdL (h:=x1 lk3 1 (h:=Zar (h:=Zb rfl (fun g3=>?_) (fun g3=>?_)))))))))
 try simp only [sQ,ne_eq] at g3
 refine Za (xA (h:=Ze (Zl ?_)))
 exact eR t1 ⟨Zc (by symm;rw [decide_eq_false_iff_not];rintro rfl;exact g3 rfl),rfl,rfl⟩
 try simp only [sQ,ne_eq] at g3
 refine wSk (Za (xA (h:=Ze ?_)))
 exact eR t1 ⟨Zc (by symm;rw [decide_eq_true_eq];cases a;cases b;simp_all),rfl,rfl⟩

theorem ZpP   (a b:DGrant) (B:Kn)   : Z0 (pj J) 201 [.agg #[str a.user,.int .i64 a.rights],.agg #[str b.user,.int .i64 b.rights]] B (.bool (decide (a=b))):=by
 refine cB 15 Tryz.func201 (h:=?_)
 refine Za (xBx [_,_] (h:=fun b1=>xBx [_,_] (h:=fun b2=>xA (h:=tL2 (Zd (Za (xW Zb3 (h:=x1 lk9 0 (h:=xW Zb3 (h:=x1 lk9 1 (h:=Zd3 (h:=Zb rfl (fun g1=>?_) (fun g1=>?_)))))))))))))
 try simp only [sQ,ne_eq] at g1
 refine Za (xA (h:=Ze (Zl ?_)))
 exact eR t1 ⟨Zc (by symm;rw [decide_eq_false_iff_not];rintro rfl;exact g1 rfl),rfl,rfl⟩
 try simp only [sQ,ne_eq] at g1
 refine wSk (Zd (Za (xW Zc9 (h:=x1 lk3 0 (h:=xW Zc9 (h:=x1 lk3 1 (h:=Zar (h:=Zb rfl (fun g2=>?_) (fun g2=>?_)))))))))
 try simp only [sQ,ne_eq] at g2
 refine Za (xA (h:=Ze (Zl ?_)))
 exact eR t1 ⟨Zc (by symm;rw [decide_eq_false_iff_not];rintro rfl;exact g2 rfl),rfl,rfl⟩
 try simp only [sQ,ne_eq] at g2
 refine wSk (Za (xA (h:=Ze ?_)))
 exact eR t1 ⟨Zc (by symm;rw [decide_eq_true_eq];cases a;cases b;simp_all),rfl,rfl⟩

theorem ZrO   (a b:DMail) (B:Kn)   : Z0 (pj J) 252 [.agg #[.int .i64 a.uid,.int .i64 a.flags,str a.text],.agg #[.int .i64 b.uid,.int .i64 b.flags,str b.text]] B (.bool (decide (a=b))):=by
 refine cB 20 Tryz.func252 (h:=?_)
 refine Za (xBx [_,_,_] (h:=fun b1=>xBx [_,_,_] (h:=fun b2=>xA (h:=tL2 (Zd (Za (xW Zdm (h:=x1 lk3 0 (h:=xW Zdm (h:=x1 lk3 1 (h:=Zar (h:=Zb rfl (fun g1=>?_) (fun g1=>?_)))))))))))))
 try simp only [sQ,ne_eq] at g1
 refine Za (xA (h:=Ze (Zl ?_)))
 exact eR t1 ⟨Zc (by symm;rw [decide_eq_false_iff_not];rintro rfl;exact g1 rfl),rfl,rfl⟩
 try simp only [sQ,ne_eq] at g1
 refine wSk (Zd (Za (xW Zgn (h:=x1 lk3 0 (h:=xW Zgn (h:=x1 lk3 1 (h:=Zar (h:=Zb rfl (fun g2=>?_) (fun g2=>?_)))))))))
 try simp only [sQ,ne_eq] at g2
 refine Za (xA (h:=Ze (Zl ?_)))
 exact eR t1 ⟨Zc (by symm;rw [decide_eq_false_iff_not];rintro rfl;exact g2 rfl),rfl,rfl⟩
 try simp only [sQ,ne_eq] at g2
 refine wSk (Zd (Za (xW ZeL (h:=x1 lk9 0 (h:=xW ZeL (h:=x1 lk9 1 (h:=Zd3 (h:=Zb rfl (fun g3=>?_) (fun g3=>?_)))))))))
 try simp only [sQ,ne_eq] at g3
 refine Za (xA (h:=Ze (Zl ?_)))
 exact eR t1 ⟨Zc (by symm;rw [decide_eq_false_iff_not];rintro rfl;exact g3 rfl),rfl,rfl⟩
 try simp only [sQ,ne_eq] at g3
 refine wSk (Za (xA (h:=Ze ?_)))
 exact eR t1 ⟨Zc (by symm;rw [decide_eq_true_eq];cases a;cases b;simp_all),rfl,rfl⟩

theorem ZrM   (a b:DSpan) (B:Kn)   : Z0 (pj J) 52 [.agg #[.int .i64 a.low,.int .i64 a.high],.agg #[.int .i64 b.low,.int .i64 b.high]] B (.bool (decide (a=b))):=by
 refine cB 15 Tryz.func52 (h:=?_)
 refine Za (xBx [_,_] (h:=fun b1=>xBx [_,_] (h:=fun b2=>xA (h:=tL2 (Zd (Za (xW Zgq (h:=x1 lk3 0 (h:=xW Zgq (h:=x1 lk3 1 (h:=Zar (h:=Zb rfl (fun g1=>?_) (fun g1=>?_)))))))))))))
 try simp only [sQ,ne_eq] at g1
 refine Za (xA (h:=Ze (Zl ?_)))
 exact eR t1 ⟨Zc (by symm;rw [decide_eq_false_iff_not];rintro rfl;exact g1 rfl),rfl,rfl⟩
 try simp only [sQ,ne_eq] at g1
 refine wSk (Zd (Za (xW Zgp (h:=x1 lk3 0 (h:=xW Zgp (h:=x1 lk3 1 (h:=Zar (h:=Zb rfl (fun g2=>?_) (fun g2=>?_)))))))))
 try simp only [sQ,ne_eq] at g2
 refine Za (xA (h:=Ze (Zl ?_)))
 exact eR t1 ⟨Zc (by symm;rw [decide_eq_false_iff_not];rintro rfl;exact g2 rfl),rfl,rfl⟩
 try simp only [sQ,ne_eq] at g2
 refine wSk (Za (xA (h:=Ze ?_)))
 exact eR t1 ⟨Zc (by symm;rw [decide_eq_true_eq];cases a;cases b;simp_all),rfl,rfl⟩

theorem ZpL (q q':Option Addr) (cp cp':Nat) (xs ys:List DSpan) (B:Kn) (ha:SlK B q cp 2 Zak xs) (hb:SlK B q' cp' 2 Zak ys):Z0 (pj J) 17 [.slice q xs.length cp,.slice q' ys.length cp'] B (.bool (decide (xs=ys))):=by
 refine cB 27 Tryz.func17 (h:=?_)
 have han:=ha.len
 have hbn:=hb.len
 refine Za (xA (h:=Zd (Za (xM (h:=xV Tryz.underlying48 (h:=xM (h:=xV Tryz.underlying48 (h:=Zar (h:=Zb rfl (fun g1=>?_) (fun g1=>?_))))))))))
 try simp only [sQ,ne_eq] at g1
 refine Za (xA (h:=Ze (Zl ?_)))
 exact eR t1 ⟨Zc (Zek g1),rfl,rfl⟩
 try simp only [sQ,ne_eq] at g1
 refine wSk (Zd (Za (xA (h:=Zh (Zv (α:=Nat) [0,1,10] (fun k=>[(5,.int .i64 k)]) [] (fun k=>[]) (fun k Bx=>Bx=B∧k≤xs.length∧xs.take k=ys.take k) (fun k=>xs.length - k) 0 t1 rfl (⟨rfl,Nat.zero_le _,by simp⟩) (fun k B1 hle1 hI=>?_))))))
 obtain ⟨rfl,hk,he⟩:=hI
 refine Zz [(0,_),(1,_),(5,_),(10,_)] [] t4 rfl (Zd (Za (xM (h:=xM (h:=xV Tryz.underlying48 (h:=ZB (h:=Zb rfl (fun g2=>?_) (fun g2=>?_))))))))
 try simp only [sQ,ne_eq] at g2
 refine wSk (Zd (Zh (Zd (ZY (same _ _) mo kr ⟨rfl,rfl⟩ (fun _ _=>?_)))))
 refine aM 0 rfl (h:=aM 1 rfl (h:=?_))
 obtain ⟨x,hx⟩:=ZM (xs:=xs) (i:=k) om
 obtain ⟨bb3,oo3,rfl⟩:=ha.base hx
 obtain ⟨_,rfl,hc4⟩:=ha.elem hx
 refine aIx 2 rfl Tryz.underlying48 ZkM (h:=aT 3 rfl (Z9 fun D=>ZR [_,_] rfl rfl Zuj rfl (Zi8 hc4 0 rfl rfl) r4) (h:=aM 4 rfl (h:=aM 5 rfl (h:=?_))))
 obtain ⟨y,hy⟩:=ZM (xs:=ys) (i:=k) om
 obtain ⟨bb6,oo6,rfl⟩:=hb.base hy
 obtain ⟨_,rfl,hc7⟩:=hb.elem hy
 refine aIx 6 rfl Tryz.underlying48 ZkM (h:=aT 7 rfl (Z9 fun D=>ZR [_,_] rfl rfl Zuj rfl (Zi8 hc7 0 rfl rfl) r4) (h:=aT 8 rfl (Z9 fun D=>Zaa rfl rfl ZzJ rfl (ZrM x y _ ) r4) (h:=aN 9 rfl (h:=Zw kr kr ?_))))
 refine Zm (Zb rfl (fun g3=>?_) (fun g3=>?_))
 try simp only [sQ,ne_eq] at g3
 refine Za (xA (h:=Ze (Zu (Zl (ZF (Zu (Zl ?_)))))))
 exact eR t1 ⟨Zc (Zc3 hx hy g3),rfl,rfl⟩
 try simp only [sQ,ne_eq] at g3
 refine ZL (ZI (Zm (Zf (xM (h:=xD (h:=xA (h:=?_)))))))
 exact Zy (k+1) [] so2 ⟨rfl,oz,ZaO hx hy g3 he⟩ t4 rfl
 try simp only [sQ,ne_eq] at g2
 refine ZA (ZP (ZC (Zs (Zm (Za (xA (h:=Ze ?_)))))))
 exact eR t1 ⟨Zc (eqT oz oz he),rfl,rfl⟩

theorem ZrP   (a b:DLine) (B:Kn)   : Z0 (pj J) 48 [.agg #[.int .i64 a.place,.int .i64 a.uid,.int .i64 a.flags,str a.text],.agg #[.int .i64 b.place,.int .i64 b.uid,.int .i64 b.flags,str b.text]] B (.bool (decide (a=b))):=by
 refine cB 25 Tryz.func48 (h:=?_)
 refine Za (xBx [_,_,_,_] (h:=fun b1=>xBx [_,_,_,_] (h:=fun b2=>xA (h:=tL2 (Zd (Za (xW Zml (h:=x1 lk3 0 (h:=xW Zml (h:=x1 lk3 1 (h:=Zar (h:=Zb rfl (fun g1=>?_) (fun g1=>?_)))))))))))))
 try simp only [sQ,ne_eq] at g1
 refine Za (xA (h:=Ze (Zl ?_)))
 exact eR t1 ⟨Zc (by symm;rw [decide_eq_false_iff_not];rintro rfl;exact g1 rfl),rfl,rfl⟩
 try simp only [sQ,ne_eq] at g1
 refine wSk (Zd (Za (xW Zmk (h:=x1 lk3 0 (h:=xW Zmk (h:=x1 lk3 1 (h:=Zar (h:=Zb rfl (fun g2=>?_) (fun g2=>?_)))))))))
 try simp only [sQ,ne_eq] at g2
 refine Za (xA (h:=Ze (Zl ?_)))
 exact eR t1 ⟨Zc (by symm;rw [decide_eq_false_iff_not];rintro rfl;exact g2 rfl),rfl,rfl⟩
 try simp only [sQ,ne_eq] at g2
 refine wSk (Zd (Za (xW Zmj (h:=x1 lk3 0 (h:=xW Zmj (h:=x1 lk3 1 (h:=Zar (h:=Zb rfl (fun g3=>?_) (fun g3=>?_)))))))))
 try simp only [sQ,ne_eq] at g3
 refine Za (xA (h:=Ze (Zl ?_)))
 exact eR t1 ⟨Zc (by symm;rw [decide_eq_false_iff_not];rintro rfl;exact g3 rfl),rfl,rfl⟩
 try simp only [sQ,ne_eq] at g3
 refine wSk (Zd (Za (xW Zmi (h:=x1 lk9 0 (h:=xW Zmi (h:=x1 lk9 1 (h:=Zd3 (h:=Zb rfl (fun g4=>?_) (fun g4=>?_)))))))))
 try simp only [sQ,ne_eq] at g4
 refine Za (xA (h:=Ze (Zl ?_)))
 exact eR t1 ⟨Zc (by symm;rw [decide_eq_false_iff_not];rintro rfl;exact g4 rfl),rfl,rfl⟩
 try simp only [sQ,ne_eq] at g4
 refine wSk (Za (xA (h:=Ze ?_)))
 exact eR t1 ⟨Zc (by symm;rw [decide_eq_true_eq];cases a;cases b;simp_all),rfl,rfl⟩

theorem Zhi (q q':Option Addr) (cp cp':Nat) (xs ys:List DLine) (B:Kn) (ha:SlK B q cp 4 ZX xs) (hb:SlK B q' cp' 4 ZX ys):Z0 (pj J) 15 [.slice q xs.length cp,.slice q' ys.length cp'] B (.bool (decide (xs=ys))):=by
 refine cB 27 Tryz.func15 (h:=?_)
 have han:=ha.len
 have hbn:=hb.len
 refine Za (xA (h:=Zd (Za (xM (h:=xV Tryz.underlying35 (h:=xM (h:=xV Tryz.underlying35 (h:=Zar (h:=Zb rfl (fun g1=>?_) (fun g1=>?_))))))))))
 try simp only [sQ,ne_eq] at g1
 refine Za (xA (h:=Ze (Zl ?_)))
 exact eR t1 ⟨Zc (Zek g1),rfl,rfl⟩
 try simp only [sQ,ne_eq] at g1
 refine wSk (Zd (Za (xA (h:=Zh (Zv (α:=Nat) [0,1,10] (fun k=>[(5,.int .i64 k)]) [] (fun k=>[]) (fun k Bx=>Bx=B∧k≤xs.length∧xs.take k=ys.take k) (fun k=>xs.length - k) 0 t1 rfl (⟨rfl,Nat.zero_le _,by simp⟩) (fun k B1 hle1 hI=>?_))))))
 obtain ⟨rfl,hk,he⟩:=hI
 refine Zz [(0,_),(1,_),(5,_),(10,_)] [] t4 rfl (Zd (Za (xM (h:=xM (h:=xV Tryz.underlying35 (h:=ZB (h:=Zb rfl (fun g2=>?_) (fun g2=>?_))))))))
 try simp only [sQ,ne_eq] at g2
 refine wSk (Zd (Zh (Zd (ZY (same _ _) mo kr ⟨rfl,rfl⟩ (fun _ _=>?_)))))
 refine aM 0 rfl (h:=aM 1 rfl (h:=?_))
 obtain ⟨x,hx⟩:=ZM (xs:=xs) (i:=k) om
 obtain ⟨bb3,oo3,rfl⟩:=ha.base hx
 obtain ⟨_,⟨rfl,hb4⟩,hc4⟩:=ha.elem hx
 refine aIx 2 rfl Tryz.underlying35 ZlW (h:=aT 3 rfl (Z9 fun D=>ZR [_,_,_,_] rfl rfl Zyy rfl (Zi8 hc4 0 rfl rfl) r4) (h:=aM 4 rfl (h:=aM 5 rfl (h:=?_))))
 obtain ⟨y,hy⟩:=ZM (xs:=ys) (i:=k) om
 obtain ⟨bb6,oo6,rfl⟩:=hb.base hy
 obtain ⟨_,⟨rfl,hb7⟩,hc7⟩:=hb.elem hy
 refine aIx 6 rfl Tryz.underlying35 ZlW (h:=aT 7 rfl (Z9 fun D=>ZR [_,_,_,_] rfl rfl Zyy rfl (Zi8 hc7 0 rfl rfl) r4) (h:=aT 8 rfl (Z9 fun D=>Zaa rfl rfl ZzN rfl (ZrP x y _ ) r4) (h:=aN 9 rfl (h:=Zw kr kr ?_))))
 refine Zm (Zb rfl (fun g3=>?_) (fun g3=>?_))
 try simp only [sQ,ne_eq] at g3
 refine Za (xA (h:=Ze (Zu (Zl (ZF (Zu (Zl ?_)))))))
 exact eR t1 ⟨Zc (Zc3 hx hy g3),rfl,rfl⟩
 try simp only [sQ,ne_eq] at g3
 refine ZL (ZI (Zm (Zf (xM (h:=xD (h:=xA (h:=?_)))))))
 exact Zy (k+1) [] so2 ⟨rfl,oz,ZaO hx hy g3 he⟩ t4 rfl
 try simp only [sQ,ne_eq] at g2
 refine ZA (ZP (ZC (Zs (Zm (Za (xA (h:=Ze ?_)))))))
 exact eR t1 ⟨Zc (eqT oz oz he),rfl,rfl⟩

theorem ZpK (q q':Option Addr) (cp cp':Nat) (xs ys:List DUser) (B:Kn) (ha:SlK B q cp 3 ZJ xs) (hb:SlK B q' cp' 3 ZJ ys):Z0 (pj J) 49 [.slice q xs.length cp,.slice q' ys.length cp'] B (.bool (decide (xs=ys))):=by
 refine cB 27 Tryz.func49 (h:=?_)
 have han:=ha.len
 have hbn:=hb.len
 refine Za (xA (h:=Zd (Za (xM (h:=xV Tryz.underlying38 (h:=xM (h:=xV Tryz.underlying38 (h:=Zar (h:=Zb rfl (fun g1=>?_) (fun g1=>?_))))))))))
 try simp only [sQ,ne_eq] at g1
 refine Za (xA (h:=Ze (Zl ?_)))
 exact eR t1 ⟨Zc (Zek g1),rfl,rfl⟩
 try simp only [sQ,ne_eq] at g1
 refine wSk (Zd (Za (xA (h:=Zh (Zv (α:=Nat) [0,1,10] (fun k=>[(5,.int .i64 k)]) [] (fun k=>[]) (fun k Bx=>Bx=B∧k≤xs.length∧xs.take k=ys.take k) (fun k=>xs.length - k) 0 t1 rfl (⟨rfl,Nat.zero_le _,by simp⟩) (fun k B1 hle1 hI=>?_))))))
 obtain ⟨rfl,hk,he⟩:=hI
 refine Zz [(0,_),(1,_),(5,_),(10,_)] [] t4 rfl (Zd (Za (xM (h:=xM (h:=xV Tryz.underlying38 (h:=ZB (h:=Zb rfl (fun g2=>?_) (fun g2=>?_))))))))
 try simp only [sQ,ne_eq] at g2
 refine wSk (Zd (Zh (Zd (ZY (same _ _) mo kr ⟨rfl,rfl⟩ (fun _ _=>?_)))))
 refine aM 0 rfl (h:=aM 1 rfl (h:=?_))
 obtain ⟨x,hx⟩:=ZM (xs:=xs) (i:=k) om
 obtain ⟨bb3,oo3,rfl⟩:=ha.base hx
 obtain ⟨_,⟨rfl,hb4,hb4b⟩,hc4⟩:=ha.elem hx
 refine aIx 2 rfl Tryz.underlying38 ZbQ (h:=aT 3 rfl (Z9 fun D=>ZR [_,_,_] rfl rfl ZeF rfl (Zi8 hc4 0 rfl rfl) r4) (h:=aM 4 rfl (h:=aM 5 rfl (h:=?_))))
 obtain ⟨y,hy⟩:=ZM (xs:=ys) (i:=k) om
 obtain ⟨bb6,oo6,rfl⟩:=hb.base hy
 obtain ⟨_,⟨rfl,hb7,hb7b⟩,hc7⟩:=hb.elem hy
 refine aIx 6 rfl Tryz.underlying38 ZbQ (h:=aT 7 rfl (Z9 fun D=>ZR [_,_,_] rfl rfl ZeF rfl (Zi8 hc7 0 rfl rfl) r4) (h:=aT 8 rfl (Z9 fun D=>Zaa rfl rfl Zzr rfl (ZrL x y _ ) r4) (h:=aN 9 rfl (h:=Zw kr kr ?_))))
 refine Zm (Zb rfl (fun g3=>?_) (fun g3=>?_))
 try simp only [sQ,ne_eq] at g3
 refine Za (xA (h:=Ze (Zu (Zl (ZF (Zu (Zl ?_)))))))
 exact eR t1 ⟨Zc (Zc3 hx hy g3),rfl,rfl⟩
 try simp only [sQ,ne_eq] at g3
 refine ZL (ZI (Zm (Zf (xM (h:=xD (h:=xA (h:=?_)))))))
 exact Zy (k+1) [] so2 ⟨rfl,oz,ZaO hx hy g3 he⟩ t4 rfl
 try simp only [sQ,ne_eq] at g2
 refine ZA (ZP (ZC (Zs (Zm (Za (xA (h:=Ze ?_)))))))
 exact eR t1 ⟨Zc (eqT oz oz he),rfl,rfl⟩

theorem Znk (q q':Option Addr) (cp cp':Nat) (xs ys:List DGrant) (B:Kn) (ha:SlK B q cp 2 Z1 xs) (hb:SlK B q' cp' 2 Z1 ys):Z0 (pj J) 147 [.slice q xs.length cp,.slice q' ys.length cp'] B (.bool (decide (xs=ys))):=by
 refine cB 27 Tryz.func147 (h:=?_)
 have han:=ha.len
 have hbn:=hb.len
 refine Za (xA (h:=Zd (Za (xM (h:=xV Tryz.underlying82 (h:=xM (h:=xV Tryz.underlying82 (h:=Zar (h:=Zb rfl (fun g1=>?_) (fun g1=>?_))))))))))
 try simp only [sQ,ne_eq] at g1
 refine Za (xA (h:=Ze (Zl ?_)))
 exact eR t1 ⟨Zc (Zek g1),rfl,rfl⟩
 try simp only [sQ,ne_eq] at g1
 refine wSk (Zd (Za (xA (h:=Zh (Zv (α:=Nat) [0,1,10] (fun k=>[(5,.int .i64 k)]) [] (fun k=>[]) (fun k Bx=>Bx=B∧k≤xs.length∧xs.take k=ys.take k) (fun k=>xs.length - k) 0 t1 rfl (⟨rfl,Nat.zero_le _,by simp⟩) (fun k B1 hle1 hI=>?_))))))
 obtain ⟨rfl,hk,he⟩:=hI
 refine Zz [(0,_),(1,_),(5,_),(10,_)] [] t4 rfl (Zd (Za (xM (h:=xM (h:=xV Tryz.underlying82 (h:=ZB (h:=Zb rfl (fun g2=>?_) (fun g2=>?_))))))))
 try simp only [sQ,ne_eq] at g2
 refine wSk (Zd (Zh (Zd (ZY (same _ _) mo kr ⟨rfl,rfl⟩ (fun _ _=>?_)))))
 refine aM 0 rfl (h:=aM 1 rfl (h:=?_))
 obtain ⟨x,hx⟩:=ZM (xs:=xs) (i:=k) om
 obtain ⟨bb3,oo3,rfl⟩:=ha.base hx
 obtain ⟨_,⟨rfl,hb4⟩,hc4⟩:=ha.elem hx
 refine aIx 2 rfl Tryz.underlying82 Zd0 (h:=aT 3 rfl (Z9 fun D=>ZR [_,_] rfl rfl ZoX rfl (Zi8 hc4 0 rfl rfl) r4) (h:=aM 4 rfl (h:=aM 5 rfl (h:=?_))))
 obtain ⟨y,hy⟩:=ZM (xs:=ys) (i:=k) om
 obtain ⟨bb6,oo6,rfl⟩:=hb.base hy
 obtain ⟨_,⟨rfl,hb7⟩,hc7⟩:=hb.elem hy
 refine aIx 6 rfl Tryz.underlying82 Zd0 (h:=aT 7 rfl (Z9 fun D=>ZR [_,_] rfl rfl ZoX rfl (Zi8 hc7 0 rfl rfl) r4) (h:=aT 8 rfl (Z9 fun D=>Zaa rfl rfl Zxq rfl (ZpP x y _ ) r4) (h:=aN 9 rfl (h:=Zw kr kr ?_))))
 refine Zm (Zb rfl (fun g3=>?_) (fun g3=>?_))
 try simp only [sQ,ne_eq] at g3
 refine Za (xA (h:=Ze (Zu (Zl (ZF (Zu (Zl ?_)))))))
 exact eR t1 ⟨Zc (Zc3 hx hy g3),rfl,rfl⟩
 try simp only [sQ,ne_eq] at g3
 refine ZL (ZI (Zm (Zf (xM (h:=xD (h:=xA (h:=?_)))))))
 exact Zy (k+1) [] so2 ⟨rfl,oz,ZaO hx hy g3 he⟩ t4 rfl
 try simp only [sQ,ne_eq] at g2
 refine ZA (ZP (ZC (Zs (Zm (Za (xA (h:=Ze ?_)))))))
 exact eR t1 ⟨Zc (eqT oz oz he),rfl,rfl⟩

theorem ZpN (q q':Option Addr) (cp cp':Nat) (xs ys:List DMail) (B:Kn) (ha:SlK B q cp 3 Zao xs) (hb:SlK B q' cp' 3 Zao ys):Z0 (pj J) 202 [.slice q xs.length cp,.slice q' ys.length cp'] B (.bool (decide (xs=ys))):=by
 refine cB 27 Tryz.func202 (h:=?_)
 have han:=ha.len
 have hbn:=hb.len
 refine Za (xA (h:=Zd (Za (xM (h:=xV Tryz.underlying83 (h:=xM (h:=xV Tryz.underlying83 (h:=Zar (h:=Zb rfl (fun g1=>?_) (fun g1=>?_))))))))))
 try simp only [sQ,ne_eq] at g1
 refine Za (xA (h:=Ze (Zl ?_)))
 exact eR t1 ⟨Zc (Zek g1),rfl,rfl⟩
 try simp only [sQ,ne_eq] at g1
 refine wSk (Zd (Za (xA (h:=Zh (Zv (α:=Nat) [0,1,10] (fun k=>[(5,.int .i64 k)]) [] (fun k=>[]) (fun k Bx=>Bx=B∧k≤xs.length∧xs.take k=ys.take k) (fun k=>xs.length - k) 0 t1 rfl (⟨rfl,Nat.zero_le _,by simp⟩) (fun k B1 hle1 hI=>?_))))))
 obtain ⟨rfl,hk,he⟩:=hI
 refine Zz [(0,_),(1,_),(5,_),(10,_)] [] t4 rfl (Zd (Za (xM (h:=xM (h:=xV Tryz.underlying83 (h:=ZB (h:=Zb rfl (fun g2=>?_) (fun g2=>?_))))))))
 try simp only [sQ,ne_eq] at g2
 refine wSk (Zd (Zh (Zd (ZY (same _ _) mo kr ⟨rfl,rfl⟩ (fun _ _=>?_)))))
 refine aM 0 rfl (h:=aM 1 rfl (h:=?_))
 obtain ⟨x,hx⟩:=ZM (xs:=xs) (i:=k) om
 obtain ⟨bb3,oo3,rfl⟩:=ha.base hx
 obtain ⟨_,⟨rfl,hb4⟩,hc4⟩:=ha.elem hx
 refine aIx 2 rfl Tryz.underlying83 ZhA (h:=aT 3 rfl (Z9 fun D=>ZR [_,_,_] rfl rfl Zqn rfl (Zi8 hc4 0 rfl rfl) r4) (h:=aM 4 rfl (h:=aM 5 rfl (h:=?_))))
 obtain ⟨y,hy⟩:=ZM (xs:=ys) (i:=k) om
 obtain ⟨bb6,oo6,rfl⟩:=hb.base hy
 obtain ⟨_,⟨rfl,hb7⟩,hc7⟩:=hb.elem hy
 refine aIx 6 rfl Tryz.underlying83 ZhA (h:=aT 7 rfl (Z9 fun D=>ZR [_,_,_] rfl rfl Zqn rfl (Zi8 hc7 0 rfl rfl) r4) (h:=aT 8 rfl (Z9 fun D=>Zaa rfl rfl Zw8 rfl (ZrO x y _ ) r4) (h:=aN 9 rfl (h:=Zw kr kr ?_))))
 refine Zm (Zb rfl (fun g3=>?_) (fun g3=>?_))
 try simp only [sQ,ne_eq] at g3
 refine Za (xA (h:=Ze (Zu (Zl (ZF (Zu (Zl ?_)))))))
 exact eR t1 ⟨Zc (Zc3 hx hy g3),rfl,rfl⟩
 try simp only [sQ,ne_eq] at g3
 refine ZL (ZI (Zm (Zf (xM (h:=xD (h:=xA (h:=?_)))))))
 exact Zy (k+1) [] so2 ⟨rfl,oz,ZaO hx hy g3 he⟩ t4 rfl
 try simp only [sQ,ne_eq] at g2
 refine ZA (ZP (ZC (Zs (Zm (Za (xA (h:=Ze ?_)))))))
 exact eR t1 ⟨Zc (eqT oz oz he),rfl,rfl⟩

theorem ZrQ (q1:Option Addr) (cp1:Nat) (q2:Option Addr) (cp2:Nat) (a b:DItem) (B:Kn) (h1:SlK B q1 cp1 1 Zdt a.left) (h2:SlK B q2 cp2 1 Zdt b.left):Z0 (pj J) 149 [.agg #[.int .i64 a.id,str a.fr,str a.text,.slice q1 a.left.length cp1],.agg #[.int .i64 b.id,str b.fr,str b.text,.slice q2 b.left.length cp2]] B (.bool (decide (a=b))):=by
 refine cB 26 Tryz.func149 (h:=?_)
 refine Za (xBx [_,_,_,_] (h:=fun b1=>xBx [_,_,_,_] (h:=fun b2=>xA (h:=tL2 (Zd (Za (xW Zej (h:=x1 lk3 0 (h:=xW Zej (h:=x1 lk3 1 (h:=Zar (h:=Zb rfl (fun g1=>?_) (fun g1=>?_)))))))))))))
 try simp only [sQ,ne_eq] at g1
 refine Za (xA (h:=Ze (Zl ?_)))
 exact eR t1 ⟨Zc (by symm;rw [decide_eq_false_iff_not];rintro rfl;exact g1 rfl),rfl,rfl⟩
 try simp only [sQ,ne_eq] at g1
 refine wSk (Zd (Za (xW Zei (h:=x1 lk9 0 (h:=xW Zei (h:=x1 lk9 1 (h:=Zd3 (h:=Zb rfl (fun g2=>?_) (fun g2=>?_)))))))))
 try simp only [sQ,ne_eq] at g2
 refine Za (xA (h:=Ze (Zl ?_)))
 exact eR t1 ⟨Zc (by symm;rw [decide_eq_false_iff_not];rintro rfl;exact g2 rfl),rfl,rfl⟩
 try simp only [sQ,ne_eq] at g2
 refine wSk (Zd (Za (xW Zf1 (h:=x1 lk9 0 (h:=xW Zf1 (h:=x1 lk9 1 (h:=Zd3 (h:=Zb rfl (fun g3=>?_) (fun g3=>?_)))))))))
 try simp only [sQ,ne_eq] at g3
 refine Za (xA (h:=Ze (Zl ?_)))
 exact eR t1 ⟨Zc (by symm;rw [decide_eq_false_iff_not];rintro rfl;exact g3 rfl),rfl,rfl⟩
 try simp only [sQ,ne_eq] at g3
 refine wSk (Zd (Za (xW Zda (h:=x1 ZfV 0 (h:=xW Zda (h:=x1 ZfV 1 (h:=xR Zxo rfl (Zlu _ _ _ _ _ _ _ h1 h2) (h:=xN (h:=Zb rfl (fun g4=>?_) (fun g4=>?_))))))))))
 try simp only [sQ,ne_eq] at g4
 refine Za (xA (h:=Ze (Zl ?_)))
 exact eR t1 ⟨Zc (by symm;rw [decide_eq_false_iff_not];rintro rfl;exact g4 rfl),rfl,rfl⟩
 try simp only [sQ,ne_eq] at g4
 refine wSk (Za (xA (h:=Ze ?_)))
 exact eR t1 ⟨Zc (by symm;rw [decide_eq_true_eq];cases a;cases b;simp_all),rfl,rfl⟩

theorem ZpO (q q':Option Addr) (cp cp':Nat) (xs ys:List DItem) (B:Kn) (ha:SlK B q cp 4 ZaA xs) (hb:SlK B q' cp' 4 ZaA ys):Z0 (pj J) 97 [.slice q xs.length cp,.slice q' ys.length cp'] B (.bool (decide (xs=ys))):=by
 refine cB 27 Tryz.func97 (h:=?_)
 have han:=ha.len
 have hbn:=hb.len
 refine Za (xA (h:=Zd (Za (xM (h:=xV Tryz.underlying40 (h:=xM (h:=xV Tryz.underlying40 (h:=Zar (h:=Zb rfl (fun g1=>?_) (fun g1=>?_))))))))))
 try simp only [sQ,ne_eq] at g1
 refine Za (xA (h:=Ze (Zl ?_)))
 exact eR t1 ⟨Zc (Zek g1),rfl,rfl⟩
 try simp only [sQ,ne_eq] at g1
 refine wSk (Zd (Za (xA (h:=Zh (Zv (α:=Nat) [0,1,10] (fun k=>[(5,.int .i64 k)]) [] (fun k=>[]) (fun k Bx=>Bx=B∧k≤xs.length∧xs.take k=ys.take k) (fun k=>xs.length - k) 0 t1 rfl (⟨rfl,Nat.zero_le _,by simp⟩) (fun k B1 hle1 hI=>?_))))))
 obtain ⟨rfl,hk,he⟩:=hI
 refine Zz [(0,_),(1,_),(5,_),(10,_)] [] t4 rfl (Zd (Za (xM (h:=xM (h:=xV Tryz.underlying40 (h:=ZB (h:=Zb rfl (fun g2=>?_) (fun g2=>?_))))))))
 try simp only [sQ,ne_eq] at g2
 refine wSk (Zd (Zh (Zd (ZY (same _ _) mo kr ⟨rfl,rfl⟩ (fun _ _=>?_)))))
 refine aM 0 rfl (h:=aM 1 rfl (h:=?_))
 obtain ⟨x,hx⟩:=ZM (xs:=xs) (i:=k) om
 obtain ⟨bb3,oo3,rfl⟩:=ha.base hx
 obtain ⟨_,⟨qi4,ci4,rfl,hi4,hb4,hb4b⟩,hc4⟩:=ha.elem hx
 have hi4n:=hi4.len
 refine aIx 2 rfl Tryz.underlying40 Zcc (h:=aT 3 rfl (Z9 fun D=>ZR [_,_,_,_] rfl rfl Ze4 rfl (Zi8 hc4 0 rfl rfl) r4) (h:=aM 4 rfl (h:=aM 5 rfl (h:=?_))))
 obtain ⟨y,hy⟩:=ZM (xs:=ys) (i:=k) om
 obtain ⟨bb6,oo6,rfl⟩:=hb.base hy
 obtain ⟨_,⟨qi7,ci7,rfl,hi7,hb7,hb7b⟩,hc7⟩:=hb.elem hy
 have hi7n:=hi7.len
 refine aIx 6 rfl Tryz.underlying40 Zcc (h:=aT 7 rfl (Z9 fun D=>ZR [_,_,_,_] rfl rfl Ze4 rfl (Zi8 hc7 0 rfl rfl) r4) (h:=aT 8 rfl (Z9 fun D=>Zaa rfl rfl ZxW rfl (ZrQ _ _ _ _ x y _ hi4 hi7) r4) (h:=aN 9 rfl (h:=Zw kr kr ?_))))
 refine Zm (Zb rfl (fun g3=>?_) (fun g3=>?_))
 try simp only [sQ,ne_eq] at g3
 refine Za (xA (h:=Ze (Zu (Zl (ZF (Zu (Zl ?_)))))))
 exact eR t1 ⟨Zc (Zc3 hx hy g3),rfl,rfl⟩
 try simp only [sQ,ne_eq] at g3
 refine ZL (ZI (Zm (Zf (xM (h:=xD (h:=xA (h:=?_)))))))
 exact Zy (k+1) [] so2 ⟨rfl,oz,ZaO hx hy g3 he⟩ t4 rfl
 try simp only [sQ,ne_eq] at g2
 refine ZA (ZP (ZC (Zs (Zm (Za (xA (h:=Ze ?_)))))))
 exact eR t1 ⟨Zc (eqT oz oz he),rfl,rfl⟩

theorem ZpM (q1:Option Addr) (cp1:Nat) (q2:Option Addr) (cp2:Nat) (a b:DQueue) (B:Kn) (h1:SlK B q1 cp1 4 ZaA a.items) (h2:SlK B q2 cp2 4 ZaA b.items):Z0 (pj J) 51 [.agg #[.int .i64 a.next,.slice q1 a.items.length cp1],.agg #[.int .i64 b.next,.slice q2 b.items.length cp2]] B (.bool (decide (a=b))):=by
 refine cB 16 Tryz.func51 (h:=?_)
 refine Za (xBx [_,_] (h:=fun b1=>xBx [_,_] (h:=fun b2=>xA (h:=tL2 (Zd (Za (xW Zgr (h:=x1 lk3 0 (h:=xW Zgr (h:=x1 lk3 1 (h:=Zar (h:=Zb rfl (fun g1=>?_) (fun g1=>?_)))))))))))))
 try simp only [sQ,ne_eq] at g1
 refine Za (xA (h:=Ze (Zl ?_)))
 exact eR t1 ⟨Zc (by symm;rw [decide_eq_false_iff_not];rintro rfl;exact g1 rfl),rfl,rfl⟩
 try simp only [sQ,ne_eq] at g1
 refine wSk (Zd (Za (xW Zcq (h:=x1 Zkx 0 (h:=xW Zcq (h:=x1 Zkx 1 (h:=xR Zzp rfl (ZpO _ _ _ _ _ _ _ h1 h2) (h:=xN (h:=Zb rfl (fun g2=>?_) (fun g2=>?_))))))))))
 try simp only [sQ,ne_eq] at g2
 refine Za (xA (h:=Ze (Zl ?_)))
 exact eR t1 ⟨Zc (by symm;rw [decide_eq_false_iff_not];rintro rfl;exact g2 rfl),rfl,rfl⟩
 try simp only [sQ,ne_eq] at g2
 refine wSk (Za (xA (h:=Ze ?_)))
 exact eR t1 ⟨Zc (by symm;rw [decide_eq_true_eq];cases a;cases b;simp_all),rfl,rfl⟩

theorem ZtZ (q1:Option Addr) (cp1:Nat) (q2:Option Addr) (cp2:Nat) (a b:DBox) (B:Kn) (h1:SlK B q1 cp1 3 Zao a.mail) (h2:SlK B q2 cp2 3 Zao b.mail):Z0 (pj J) 148 [.agg #[.int .i64 a.next,.slice q1 a.mail.length cp1],.agg #[.int .i64 b.next,.slice q2 b.mail.length cp2]] B (.bool (decide (a=b))):=by
 refine cB 16 Tryz.func148 (h:=?_)
 refine Za (xBx [_,_] (h:=fun b1=>xBx [_,_] (h:=fun b2=>xA (h:=tL2 (Zd (Za (xW Zgo (h:=x1 lk3 0 (h:=xW Zgo (h:=x1 lk3 1 (h:=Zar (h:=Zb rfl (fun g1=>?_) (fun g1=>?_)))))))))))))
 try simp only [sQ,ne_eq] at g1
 refine Za (xA (h:=Ze (Zl ?_)))
 exact eR t1 ⟨Zc (by symm;rw [decide_eq_false_iff_not];rintro rfl;exact g1 rfl),rfl,rfl⟩
 try simp only [sQ,ne_eq] at g1
 refine wSk (Zd (Za (xW ZbT (h:=x1 ZjV 0 (h:=xW ZbT (h:=x1 ZjV 1 (h:=xR Zxp rfl (ZpN _ _ _ _ _ _ _ h1 h2) (h:=xN (h:=Zb rfl (fun g2=>?_) (fun g2=>?_))))))))))
 try simp only [sQ,ne_eq] at g2
 refine Za (xA (h:=Ze (Zl ?_)))
 exact eR t1 ⟨Zc (by symm;rw [decide_eq_false_iff_not];rintro rfl;exact g2 rfl),rfl,rfl⟩
 try simp only [sQ,ne_eq] at g2
 refine wSk (Za (xA (h:=Ze ?_)))
 exact eR t1 ⟨Zc (by symm;rw [decide_eq_true_eq];cases a;cases b;simp_all),rfl,rfl⟩

theorem Znl (qa1 qb1:Option Addr) (ca1 cb1:Nat) (qa2 qb2:Option Addr) (ca2 cb2:Nat) (a b:DFolder) (B:Kn) (hg1:SlK B qa1 ca1 2 Z1 a.grants) (hm1:SlK B qb1 cb1 3 Zao a.mail) (hg2:SlK B qa2 ca2 2 Z1 b.grants) (hm2:SlK B qb2 cb2 3 Zao b.mail):Z0 (pj J) 96 [.agg #[str a.owner,str a.name,.slice qa1 a.grants.length ca1,.int .i64 a.next,.slice qb1 a.mail.length cb1],.agg #[str b.owner,str b.name,.slice qa2 b.grants.length ca2,.int .i64 b.next,.slice qb2 b.mail.length cb2]] B (.bool (decide (a=b))):=by
 refine cB 27 Tryz.func96 (h:=?_)
 refine Za (xBx [_,_,_,_,_] (h:=fun b1=>xBx [_,_,_,_,_] (h:=fun b2=>xA (h:=tL2 (Zd (Za (xW ZbS (h:=x1 lk9 0 (h:=xW ZbS (h:=x1 lk9 1 (h:=Zd3 (h:=Zb rfl (fun g1=>?_) (fun g1=>?_)))))))))))))
 try simp only [sQ,ne_eq] at g1
 refine Za (xA (h:=Ze (Zl ?_)))
 exact eR t1 ⟨Zc (by symm;rw [decide_eq_false_iff_not];rintro rfl;exact g1 rfl),rfl,rfl⟩
 try simp only [sQ,ne_eq] at g1
 refine wSk (Zd (Za (xW ZdW (h:=x1 lk9 0 (h:=xW ZdW (h:=x1 lk9 1 (h:=Zd3 (h:=Zb rfl (fun g2=>?_) (fun g2=>?_)))))))))
 try simp only [sQ,ne_eq] at g2
 refine Za (xA (h:=Ze (Zl ?_)))
 exact eR t1 ⟨Zc (by symm;rw [decide_eq_false_iff_not];rintro rfl;exact g2 rfl),rfl,rfl⟩
 try simp only [sQ,ne_eq] at g2
 refine wSk (Zd (Za (xW ZeM (h:=x1 ZsB 0 (h:=xW ZeM (h:=x1 ZsB 1 (h:=xR ZxY rfl (Znk _ _ _ _ _ _ _ hg1 hg2) (h:=xN (h:=Zb rfl (fun g3=>?_) (fun g3=>?_))))))))))
 try simp only [sQ,ne_eq] at g3
 refine Za (xA (h:=Ze (Zl ?_)))
 exact eR t1 ⟨Zc (by symm;rw [decide_eq_false_iff_not];rintro rfl;exact g3 rfl),rfl,rfl⟩
 try simp only [sQ,ne_eq] at g3
 refine wSk (Zd (Za (xW Zc1 (h:=xL [_,_] ZnB 0 (h:=xW Zc1 (h:=xL [_,_] ZnB 1 (h:=xR ZxX rfl (ZtZ _ _ _ _ (⟨a.next,a.mail⟩:DBox) (⟨b.next,b.mail⟩:DBox) _ hm1 hm2) (h:=xN (h:=Zb rfl (fun g4=>?_) (fun g4=>?_))))))))))
 try simp only [sQ,ne_eq] at g4
 refine Za (xA (h:=Ze (Zl ?_)))
 exact eR t1 ⟨Zc (by symm;rw [decide_eq_false_iff_not];rintro rfl;exact g4 rfl),rfl,rfl⟩
 try simp only [sQ,ne_eq] at g4
 refine wSk (Za (xA (h:=Ze ?_)))
 exact eR t1 ⟨Zc (by symm;rw [decide_eq_true_eq];cases a;cases b;simp_all),rfl,rfl⟩

theorem Zlv (q q':Option Addr) (cp cp':Nat) (xs ys:List DFolder) (B:Kn) (ha:SlK B q cp 5 ZG xs) (hb:SlK B q' cp' 5 ZG ys):Z0 (pj J) 50 [.slice q xs.length cp,.slice q' ys.length cp'] B (.bool (decide (xs=ys))):=by
 refine cB 27 Tryz.func50 (h:=?_)
 have han:=ha.len
 have hbn:=hb.len
 refine Za (xA (h:=Zd (Za (xM (h:=xV Tryz.underlying39 (h:=xM (h:=xV Tryz.underlying39 (h:=Zar (h:=Zb rfl (fun g1=>?_) (fun g1=>?_))))))))))
 try simp only [sQ,ne_eq] at g1
 refine Za (xA (h:=Ze (Zl ?_)))
 exact eR t1 ⟨Zc (Zek g1),rfl,rfl⟩
 try simp only [sQ,ne_eq] at g1
 refine wSk (Zd (Za (xA (h:=Zh (Zv (α:=Nat) [0,1,10] (fun k=>[(5,.int .i64 k)]) [] (fun k=>[]) (fun k Bx=>Bx=B∧k≤xs.length∧xs.take k=ys.take k) (fun k=>xs.length - k) 0 t1 rfl (⟨rfl,Nat.zero_le _,by simp⟩) (fun k B1 hle1 hI=>?_))))))
 obtain ⟨rfl,hk,he⟩:=hI
 refine Zz [(0,_),(1,_),(5,_),(10,_)] [] t4 rfl (Zd (Za (xM (h:=xM (h:=xV Tryz.underlying39 (h:=ZB (h:=Zb rfl (fun g2=>?_) (fun g2=>?_))))))))
 try simp only [sQ,ne_eq] at g2
 refine wSk (Zd (Zh (Zd (ZY (same _ _) mo kr ⟨rfl,rfl⟩ (fun _ _=>?_)))))
 refine aM 0 rfl (h:=aM 1 rfl (h:=?_))
 obtain ⟨x,hx⟩:=ZM (xs:=xs) (i:=k) om
 obtain ⟨bb3,oo3,rfl⟩:=ha.base hx
 obtain ⟨_,⟨qg4,cg4,qm4,cm4,rfl,hg4,hm4,hb4,hb4b⟩,hc4⟩:=ha.elem hx
 have hg4n:=hg4.len
 have hm4n:=hm4.len
 have hm4s:=Zal hm4
 refine aIx 2 rfl Tryz.underlying39 ZdS (h:=aT 3 rfl (Z9 fun D=>ZR [_,_,_,_,_] rfl rfl ZiA rfl (Zi8 hc4 0 rfl rfl) r4) (h:=aM 4 rfl (h:=aM 5 rfl (h:=?_))))
 obtain ⟨y,hy⟩:=ZM (xs:=ys) (i:=k) om
 obtain ⟨bb6,oo6,rfl⟩:=hb.base hy
 obtain ⟨_,⟨qg7,cg7,qm7,cm7,rfl,hg7,hm7,hb7,hb7b⟩,hc7⟩:=hb.elem hy
 have hg7n:=hg7.len
 have hm7n:=hm7.len
 have hm7s:=Zal hm7
 refine aIx 6 rfl Tryz.underlying39 ZdS (h:=aT 7 rfl (Z9 fun D=>ZR [_,_,_,_,_] rfl rfl ZiA rfl (Zi8 hc7 0 rfl rfl) r4) (h:=aT 8 rfl (Z9 fun D=>Zaa rfl rfl Zzq rfl (Znl _ _ _ _ _ _ _ _ x y _ hg4 hm4 hg7 hm7) r4) (h:=aN 9 rfl (h:=Zw kr kr ?_))))
 refine Zm (Zb rfl (fun g3=>?_) (fun g3=>?_))
 try simp only [sQ,ne_eq] at g3
 refine Za (xA (h:=Ze (Zu (Zl (ZF (Zu (Zl ?_)))))))
 exact eR t1 ⟨Zc (Zc3 hx hy g3),rfl,rfl⟩
 try simp only [sQ,ne_eq] at g3
 refine ZL (ZI (Zm (Zf (xM (h:=xD (h:=xA (h:=?_)))))))
 exact Zy (k+1) [] so2 ⟨rfl,oz,ZaO hx hy g3 he⟩ t4 rfl
 try simp only [sQ,ne_eq] at g2
 refine ZA (ZP (ZC (Zs (Zm (Za (xA (h:=Ze ?_)))))))
 exact eR t1 ⟨Zc (eqT oz oz he),rfl,rfl⟩

theorem ZrR (qa1 qb1 qc1:Option Addr) (ca1 cb1 cc1:Nat) (qa2 qb2 qc2:Option Addr) (ca2 cb2 cc2:Nat) (a b:DHost) (B:Kn) (hu1:SlK B qa1 ca1 3 ZJ a.users) (hf1:SlK B qb1 cb1 5 ZG a.folders) (hi1:SlK B qc1 cc1 4 ZaA a.queue.items) (hu2:SlK B qa2 ca2 3 ZJ b.users) (hf2:SlK B qb2 cb2 5 ZG b.folders) (hi2:SlK B qc2 cc2 4 ZaA b.queue.items):Z0 (pj J) 16 [.agg #[str a.domain,.slice qa1 a.users.length ca1,.slice qb1 a.folders.length cb1,.int .i64 a.queue.next,.slice qc1 a.queue.items.length cc1],.agg #[str b.domain,.slice qa2 b.users.length ca2,.slice qb2 b.folders.length cb2,.int .i64 b.queue.next,.slice qc2 b.queue.items.length cc2]] B (.bool (decide (a=b))):=by
 refine cB 28 Tryz.func16 (h:=?_)
 refine Za (xBx [_,_,_,_,_] (h:=fun b1=>xBx [_,_,_,_,_] (h:=fun b2=>xA (h:=tL2 (Zd (Za (xW Zh5 (h:=x1 lk9 0 (h:=xW Zh5 (h:=x1 lk9 1 (h:=Zd3 (h:=Zb rfl (fun g1=>?_) (fun g1=>?_)))))))))))))
 try simp only [sQ,ne_eq] at g1
 refine Za (xA (h:=Ze (Zl ?_)))
 exact eR t1 ⟨Zc (by symm;rw [decide_eq_false_iff_not];rintro rfl;exact g1 rfl),rfl,rfl⟩
 try simp only [sQ,ne_eq] at g1
 refine wSk (Zd (Za (xW ZbU (h:=x1 ZjW 0 (h:=xW ZbU (h:=x1 ZjW 1 (h:=xR ZzM rfl (ZpK _ _ _ _ _ _ _ hu1 hu2) (h:=xN (h:=Zb rfl (fun g2=>?_) (fun g2=>?_))))))))))
 try simp only [sQ,ne_eq] at g2
 refine Za (xA (h:=Ze (Zl ?_)))
 exact eR t1 ⟨Zc (by symm;rw [decide_eq_false_iff_not];rintro rfl;exact g2 rfl),rfl,rfl⟩
 try simp only [sQ,ne_eq] at g2
 refine wSk (Zd (Za (xW ZaB (h:=x1 Zfs 0 (h:=xW ZaB (h:=x1 Zfs 1 (h:=xR ZzL rfl (Zlv _ _ _ _ _ _ _ hf1 hf2) (h:=xN (h:=Zb rfl (fun g3=>?_) (fun g3=>?_))))))))))
 try simp only [sQ,ne_eq] at g3
 refine Za (xA (h:=Ze (Zl ?_)))
 exact eR t1 ⟨Zc (by symm;rw [decide_eq_false_iff_not];rintro rfl;exact g3 rfl),rfl,rfl⟩
 try simp only [sQ,ne_eq] at g3
 refine wSk (Zd (Za (xW ZeN (h:=xL [_,_] ZnC 0 (h:=xW ZeN (h:=xL [_,_] ZnC 1 (h:=xR ZzK rfl (ZpM _ _ _ _ a.queue b.queue _ hi1 hi2) (h:=xN (h:=Zb rfl (fun g4=>?_) (fun g4=>?_))))))))))
 try simp only [sQ,ne_eq] at g4
 refine Za (xA (h:=Ze (Zl ?_)))
 exact eR t1 ⟨Zc (by symm;rw [decide_eq_false_iff_not];rintro rfl;exact g4 rfl),rfl,rfl⟩
 try simp only [sQ,ne_eq] at g4
 refine wSk (Za (xA (h:=Ze ?_)))
 exact eR t1 ⟨Zc (by symm;rw [decide_eq_true_eq];cases a;cases b;simp_all),rfl,rfl⟩

theorem Znr (q:Option Addr) (cp:Nat) (x:DBox) (B:Kn) (hm:SlK B q cp 3 Zao x.mail):Zx (pj J) 164 [.agg #[.int .i64 x.next,.slice q x.mail.length cp]] B [] (fun v B' Ls=>B'=B∧∃l a c,Ls=[l]∧v = .agg #[.int .i64 x.next,.slice a x.mail.length c]∧ZU B l a c 89 3 Zao x.mail):=by
 refine cB 10 Tryz.func164 (h:=?_)
 have hxn:=hm.len
 refine Za (xBx [_,_] (h:=fun b1=>xAl [_,_] ZvY (h:=fun b2=>tL2 (Zd (ZY (keeps _ [0] _) mo kr ⟨Kn.le.refl _,Za3.refl _ _⟩ (fun _ _=>?_))))))
 refine aW 0 rfl Zgo (h:=aT 1 rfl (ZW fun D B L hI=>Zn rfl rfl lk3 rfl (atL 0 (hI.2.1.trans rfl) rfl rfl) r4) (h:=aW 3 rfl ZbT (h:=aT 4 rfl (ZW fun D B L hI=>Zn rfl rfl ZjV rfl (atL 0 (hI.2.1.trans rfl) rfl rfl) r4) (h:=ZV 2 kr rfl kr (Zbx (parts:=[]) [] rfl rfl Tryz.underlying83 ZhA Zsi rfl rfl rfl rfl rfl (fun b3=>?_))))))
 refine ⟨⟨Kn.le.refl _,t1⟩,(ZV 5 kr rfl kr (ZlQ (R:=Zao) 2 rfl (ZU.lit0 (R:=Zao)) rfl rfl rfl ZyE Zy7 rfl rfl rfl hm.rows Zao.one rfl om (fun l4 p4 c4 hv4=>?_)))⟩
 refine ⟨⟨Kn.le.refl _,t1⟩,(aT 6 rfl (ZW fun D B L hI=>ZcE (parts:=[(0,_),(1,_)]) [_,_] [_,_] rfl rfl Zze ZvY rfl rfl rfl r4) (h:=ZcQ 7 kr rfl kr kr kr (ZaC [_,_] 1 [_,_] rfl rfl ZvZ rfl rfl rfl rfl rfl rfl rfl rfl ?_)))⟩
 refine Zm (tL3 (Ze ?_))
 exact eN [2] rfl ⟨⟨_,rfl,.inr ⟨[_,_],ZnB,Zct 1 rfl rfl rfl,rfl⟩⟩,trivial⟩ ⟨rfl,_,_,_,rfl,rfl,hv4⟩

theorem ZiN (qa qb:Option Addr) (ca cb:Nat) (x:DFolder) (B:Kn) (hg:SlK B qa ca 2 Z1 x.grants) (hm:SlK B qb cb 3 Zao x.mail):Zx (pj J) 196 [.agg #[str x.owner,str x.name,.slice qa x.grants.length ca,.int .i64 x.next,.slice qb x.mail.length cb]] B [] (fun v B' Ls=>B'=B∧∃l a c l' a' c',Ls=[l,l']∧v = .agg #[str x.owner,str x.name,.slice a x.grants.length c,.int .i64 x.next,.slice a' x.mail.length c']∧ZU B l a c 224 2 Z1 x.grants∧ZU B l' a' c' 89 3 Zao x.mail):=by
 refine cB 13 Tryz.func196 (h:=?_)
 have hgn:=hg.len
 have hmn:=hm.len
 refine Za (xBx [_,_,_,_,_] (h:=fun b1=>xAl [_,_,_,_,_] Zny (h:=fun b2=>tL2 (Za (xBs [] [] Tryz.underlying82 Zd0 ZnF (h:=fun b3=>xW ZeM (h:=x1 ZsB 0 (h:=Zk (ZlQ (R:=Z1) 2 rfl (ZU.lit0 (R:=Z1)) rfl rfl rfl ZyF Zy8 rfl rfl rfl hg.rows Z1.one rfl om (fun l4 p4 c4 hv4=>?_))))))))))
 refine xW ZeM (h:=xS [_] 0 [_,_,_,_,_] Zys (h:=tL3 (Za (xW Zc1 (h:=xL [_,_] ZnB 0 (h:=xC ZxL rfl (Znr _ _ (⟨x.next,x.mail⟩:DBox) _ hm) (h:=?_)))))))
 rintro _ B5 _ hle5 ⟨rfl,l5,a5,c5,rfl,rfl,hs5⟩
 refine xW Zc1 (h:=xS [_,_] 0 [_,_,_,_,_] ZvZ (h:=tL4 (Za (xL [_,_,_,_,_] ZiA 0 (h:=xS [_,_,_,_,_] 1 [_,_,_,_,_] ZdS (h:=tL4 (Ze ?_)))))))
 exact eN [2,3] rfl ⟨⟨_,rfl,.inr ⟨[_,_,_,_,_],ZiA,Zct 1 rfl rfl rfl,rfl⟩⟩,trivial⟩ ⟨rfl,_,_,_,_,_,_,rfl,rfl,hv4,hs5⟩

theorem ZaL (k:Nat) (hk:k≤1000000000000000) (B:Kn):Z0 (pj J) 56 [.int .i64 k] B (str (ZO k)):=by
 refine cB 20 Tryz.func56 (h:=?_)
 refine Za (xA (h:=Zd (Za (xM (h:=Zbs (h:=Zb rfl (fun g1=>?_) (fun g1=>?_)))))))
 try simp only [sQ,ne_eq] at g1
 refine Za (xA (h:=Ze (Zl ?_)))
 exact eR t1 ⟨Zsw (by rw [ZO,if_pos oz]),rfl,rfl⟩
 try simp only [sQ,ne_eq] at g1
 refine wSk (Za (xA (h:=Zd (Zh (Zv (α:=Nat × Str) [2,5] (fun g=>[(0,.int .i64 g.1),(3,str g.2)]) [] (fun g=>[]) (fun g Bx=>Bx=B∧g.1≤k∧digs k=digs g.1 ++ g.2) (fun g=>g.1) (k,[]) t2 rfl (⟨rfl,Nat.le_refl _,by simp⟩) (fun g B1 hle1 hI=>?_))))))
 obtain ⟨rfl,hl,hs⟩:=hI
 have hgl:=Zt6 hk hs
 refine Zz [(0,_),(2,_),(3,_),(5,_)] [] t4 rfl (Zd (Za (xM (h:=Zd4 (h:=Zb rfl (fun g2=>?_) (fun g2=>?_))))))
 try simp only [sQ,ne_eq] at g2
 refine wSk (Zh (Za (xM (h:=Zk (ZqF (a:=(g.1:Int)) (b:=10) (r:=((g.1 % 10:Nat):Int)) rfl rfl rfl rfl (by decide) rfl ?_)))))
 refine xD (h:=Zk (ZsY rfl rfl Tryz.underlying3 Tryz.underlying5 rfl (by first | exact ZbP om om | rfl) ?_))
 refine xBs [(0,_)] [_] Tryz.underlying66 sz5 zo5 (h:=fun b2=>Zk (ZnW rfl rfl Tryz.underlying66 Tryz.underlying9 Tryz.underlying5 rfl (Zcy.box 0 rfl) (xM (h:=Zk (ZuF (a:=dig g.1) (b:=g.2) rfl rfl rfl rfl (by simp [dig];omega) ?_)))))
 refine xA (h:=tL1 (Zf (xM (h:=Zk (ZnM (a:=(g.1:Int)) (b:=10) (r:=((g.1 / 10:Nat):Int)) rfl rfl rfl rfl (by decide) (by rw [show Int.tdiv (g.1:Int) 10=((g.1 / 10:Nat):Int) from rfl];exact ZbP oz oz) ?_)))))
 refine xA (h:=ZI ?_)
 exact Zy (g.1 / 10,dig g.1 ++ g.2) [] so2 ⟨rfl,so,ZpY hs oz⟩ t4 rfl
 try simp only [sQ,ne_eq] at g2
 refine ZA (ZP (ZC (Zs (Zm (Za (xM (h:=Zk (ZuF rfl rfl rfl rfl (by first | omega | (simp;omega)) ?_))))))))
 refine xA (h:=Ze ?_)
 exact eR t1 ⟨Zsw (by rw [ZO,if_neg oz,hs,show g.1=0 from by omega,Zkg];rfl),rfl,rfl⟩

theorem Zla (q:Option Addr) (cp:Nat) (xs:List DMail) (l:Cells) (k:Nat) (hk:k≤900000000000000) (hn:xs.length≤2000000) (B:Kn) (hv:ZU B l q cp 89 3 Zao xs):Zx (pj J) 99 [.slice q xs.length cp,.int .i64 k] B [l] (fun v B' Ls=>B'=B∧∃l',Ls=[l']∧v = .int .i64 ((k+3*xs.length:Nat):Int)∧ZU B l' q cp 89 3 Zao (Zci k xs.length)):=by
 refine cB 35 Tryz.func99 (h:=?_)
 have hvc:=hv.cap
 refine Za (xA (h:=Zd (Za (xA (h:=Zh (Zv (α:=Nat × Cells × List DMail) [4] (fun g=>[(0,.slice q xs.length cp),(1,.int .i64 ((k+3*g.1:Nat):Int)),(5,.int .i64 g.1)]) [0] (fun g=>[g.2.1]) (fun g Bx=>Bx=B∧g.1≤xs.length∧g.2.2.length=xs.length∧g.2.2.take g.1=Zci k g.1∧ZU Bx g.2.1 q cp 89 3 Zao g.2.2) (fun g=>xs.length - g.1) (0,l,xs) t3 rfl (⟨rfl,Nat.zero_le _,rfl,rfl,hv⟩) (fun g B1 hle1 hI=>?_)))))))
 obtain ⟨rfl,hi,hle,ht,hw⟩:=hI
 refine Zz [(0,_),(1,_),(4,_),(5,_)] [_] t4 rfl (Zd (Za (xM (h:=xM (h:=xV Tryz.underlying83 (h:=ZB (h:=Zb rfl (fun g1=>?_) (fun g1=>?_))))))))
 try simp only [sQ,ne_eq] at g1
 refine wSk (Zd (Zh (Za (xM (h:=xM (h:=xM (h:=?_)))))))
 obtain ⟨z1,hz1⟩:=ZM (xs:=g.2.2) (i:=g.1) om
 obtain ⟨bb3,_,hp3,⟨rfl,hb3⟩,hw3,hc3⟩:=hw.row hz1
 refine xIp hp3 Tryz.underlying83 ZhA (h:=xW Zdm (h:=Zk (Zd5 (k:=g.1) (off:=0) (⟨((k+3*g.1:Nat):Int),z1.flags,z1.text⟩) [_] 0 hw hp3 hz1 rfl rfl sz3 rfl rfl rfl rfl rfl rfl (by rintro _ ⟨rfl,e1⟩;exact ⟨rfl,e1⟩) (fun l4 hv4=>?_))))
 refine tL1 (Za (xM (h:=xD (h:=xA (h:=Za (xM (h:=xM (h:=xM (h:=?_)))))))))
 obtain ⟨z2,hz2⟩:=ZM (xs:=(g.2.2.set g.1 (⟨((k+3*g.1:Nat):Int),z1.flags,z1.text⟩))) (i:=g.1) om
 obtain ⟨bb6,_,hp6,⟨rfl,hb6⟩,hw6,hc6⟩:=hv4.row hz2
 refine xIp hp6 Tryz.underlying83 ZhA (h:=xW Zgn (h:=Zk (Zd5 (k:=g.1) (off:=1) (⟨z2.uid,((k+3*g.1+1:Nat):Int),z2.text⟩) [_] 0 hv4 hp6 hz2 rfl rfl sz3 rfl rfl rfl rfl rfl rfl (by rintro _ ⟨rfl,e1⟩;exact ⟨rfl,e1⟩) (fun l7 hv7=>?_))))
 refine tL1 (Za (xM (h:=xD (h:=xA (h:=Za (xM (h:=xM (h:=xM (h:=xR ZpR rfl (ZaL (((k+3*g.1)+1)+1) oz _) (h:=?_))))))))))
 obtain ⟨z3,hz3⟩:=ZM (xs:=((g.2.2.set g.1 (⟨((k+3*g.1:Nat):Int),z1.flags,z1.text⟩)).set g.1 (⟨z2.uid,((k+3*g.1+1:Nat):Int),z2.text⟩))) (i:=g.1) om
 obtain ⟨bb10,_,hp10,⟨rfl,hb10⟩,hw10,hc10⟩:=hv7.row hz3
 refine xIp hp10 Tryz.underlying83 ZhA (h:=xW ZeL (h:=Zk (Zd5 (k:=g.1) (off:=2) (⟨z3.uid,z3.flags,ZO (k+3*g.1+1+1)⟩) [_] 0 hv7 hp10 hz3 rfl rfl sz9 rfl rfl rfl rfl rfl rfl (by rintro _ ⟨rfl,e1⟩;exact ⟨rfl,show (ZO (k+3*g.1+1+1)).length≤2000000 from Nat.le_trans (Zbl (k:=k+3*g.1+1+1) oz) (by decide)⟩) (fun l11 hv11=>?_))))
 refine tL1 (Zf (xM (h:=xD (h:=xA (h:=ZI (Zm (Zf (xM (h:=xD (h:=xA (h:=?_)))))))))))
 exact Zy (g.1+1,l11,(((g.2.2.set g.1 (⟨((k+3*g.1:Nat):Int),z1.flags,z1.text⟩)).set g.1 (⟨z2.uid,((k+3*g.1+1:Nat):Int),z2.text⟩)).set g.1 (⟨z3.uid,z3.flags,ZO (k+3*g.1+1+1)⟩))) [0] so2 ⟨rfl,so,by simp only [List.length_set];exact hle,ZjN ht hz1 hz2 hz3,hv11⟩ t4 rfl
 try simp only [sQ,ne_eq] at g1
 have he:=ZhW ht oz
 have hgi:g.1=xs.length:=by omega
 rw [hgi] at he
 refine ZA (ZP (ZC (Zs (Zm (Za (xM (h:=xA (h:=Ze ?_))))))))
 exact ZeG .ret (.inl rfl) [_] [0] rfl ⟨rfl,trivial⟩ ⟨rfl,_,rfl,by rw [hgi];rfl,by rw [← he];exact hw⟩

theorem ZjS (q:Option Addr) (cp:Nat) (xs:List DGrant) (l:Cells) (k:Nat) (hk:k≤900000000000000) (hn:xs.length≤2000000) (B:Kn) (hv:ZU B l q cp 224 2 Z1 xs):Zx (pj J) 98 [.slice q xs.length cp,.int .i64 k] B [l] (fun v B' Ls=>B'=B∧∃l',Ls=[l']∧v = .int .i64 ((k+2*xs.length:Nat):Int)∧ZU B l' q cp 224 2 Z1 (ZaE k xs.length)):=by
 refine cB 28 Tryz.func98 (h:=?_)
 have hvc:=hv.cap
 refine Za (xA (h:=Zd (Za (xA (h:=Zh (Zv (α:=Nat × Cells × List DGrant) [4] (fun g=>[(0,.slice q xs.length cp),(1,.int .i64 ((k+2*g.1:Nat):Int)),(5,.int .i64 g.1)]) [0] (fun g=>[g.2.1]) (fun g Bx=>Bx=B∧g.1≤xs.length∧g.2.2.length=xs.length∧g.2.2.take g.1=ZaE k g.1∧ZU Bx g.2.1 q cp 224 2 Z1 g.2.2) (fun g=>xs.length - g.1) (0,l,xs) t3 rfl (⟨rfl,Nat.zero_le _,rfl,rfl,hv⟩) (fun g B1 hle1 hI=>?_)))))))
 obtain ⟨rfl,hi,hle,ht,hw⟩:=hI
 refine Zz [(0,_),(1,_),(4,_),(5,_)] [_] t4 rfl (Zd (Za (xM (h:=xM (h:=xV Tryz.underlying82 (h:=ZB (h:=Zb rfl (fun g1=>?_) (fun g1=>?_))))))))
 try simp only [sQ,ne_eq] at g1
 refine wSk (Zd (Zh (Za (xM (h:=xM (h:=xM (h:=xR ZpR rfl (ZaL (k+2*g.1) oz _) (h:=?_))))))))
 obtain ⟨z1,hz1⟩:=ZM (xs:=g.2.2) (i:=g.1) om
 obtain ⟨bb4,_,hp4,⟨rfl,hb4⟩,hw4,hc4⟩:=hw.row hz1
 refine xIp hp4 Tryz.underlying82 Zd0 (h:=xW Zb3 (h:=Zk (Zd5 (k:=g.1) (off:=0) (⟨ZO (k+2*g.1),z1.rights⟩) [_] 0 hw hp4 hz1 rfl rfl sz9 rfl rfl rfl rfl rfl rfl (by rintro _ ⟨rfl,e1⟩;exact ⟨rfl,show (ZO (k+2*g.1)).length≤2000000 from Nat.le_trans (Zbl (k:=k+2*g.1) oz) (by decide)⟩) (fun l5 hv5=>?_))))
 refine tL1 (Za (xM (h:=xD (h:=xA (h:=Za (xM (h:=xM (h:=xM (h:=?_)))))))))
 obtain ⟨z2,hz2⟩:=ZM (xs:=(g.2.2.set g.1 (⟨ZO (k+2*g.1),z1.rights⟩))) (i:=g.1) om
 obtain ⟨bb7,_,hp7,⟨rfl,hb7⟩,hw7,hc7⟩:=hv5.row hz2
 refine xIp hp7 Tryz.underlying82 Zd0 (h:=xW Zc9 (h:=Zk (Zd5 (k:=g.1) (off:=1) (⟨z2.user,((k+2*g.1+1:Nat):Int)⟩) [_] 0 hv5 hp7 hz2 rfl rfl sz3 rfl rfl rfl rfl rfl rfl (by rintro _ ⟨rfl,e1⟩;exact ⟨rfl,e1⟩) (fun l8 hv8=>?_))))
 refine tL1 (Zf (xM (h:=xD (h:=xA (h:=ZI (Zm (Zf (xM (h:=xD (h:=xA (h:=?_)))))))))))
 exact Zy (g.1+1,l8,((g.2.2.set g.1 (⟨ZO (k+2*g.1),z1.rights⟩)).set g.1 (⟨z2.user,((k+2*g.1+1:Nat):Int)⟩))) [0] so2 ⟨rfl,so,by simp only [List.length_set];exact hle,Ziw ht hz1 hz2,hv8⟩ t4 rfl
 try simp only [sQ,ne_eq] at g1
 have he:=ZhW ht oz
 have hgi:g.1=xs.length:=by omega
 rw [hgi] at he
 refine ZA (ZP (ZC (Zs (Zm (Za (xM (h:=xA (h:=Ze ?_))))))))
 exact ZeG .ret (.inl rfl) [_] [0] rfl ⟨rfl,trivial⟩ ⟨rfl,_,rfl,by rw [hgi];rfl,by rw [← he];exact hw⟩

theorem Zk7 (q:Option Addr) (cp:Nat) (xs:List DUser) (l:Cells) (k:Nat) (hk:k≤900000000000000) (hn:xs.length≤2000000) (B:Kn) (hv:ZU B l q cp 142 3 ZJ xs):Zx (pj J) 53 [.slice q xs.length cp,.int .i64 k] B [l] (fun v B' Ls=>B'=B∧∃l',Ls=[l']∧v = .int .i64 ((k+3*xs.length:Nat):Int)∧ZU B l' q cp 142 3 ZJ (Ze3 k xs.length)):=by
 refine cB 36 Tryz.func53 (h:=?_)
 have hvc:=hv.cap
 refine Za (xA (h:=Zd (Za (xA (h:=Zh (Zv (α:=Nat × Cells × List DUser) [4] (fun g=>[(0,.slice q xs.length cp),(1,.int .i64 ((k+3*g.1:Nat):Int)),(5,.int .i64 g.1)]) [0] (fun g=>[g.2.1]) (fun g Bx=>Bx=B∧g.1≤xs.length∧g.2.2.length=xs.length∧g.2.2.take g.1=Ze3 k g.1∧ZU Bx g.2.1 q cp 142 3 ZJ g.2.2) (fun g=>xs.length - g.1) (0,l,xs) t3 rfl (⟨rfl,Nat.zero_le _,rfl,rfl,hv⟩) (fun g B1 hle1 hI=>?_)))))))
 obtain ⟨rfl,hi,hle,ht,hw⟩:=hI
 refine Zz [(0,_),(1,_),(4,_),(5,_)] [_] t4 rfl (Zd (Za (xM (h:=xM (h:=xV Tryz.underlying38 (h:=ZB (h:=Zb rfl (fun g1=>?_) (fun g1=>?_))))))))
 try simp only [sQ,ne_eq] at g1
 refine wSk (Zd (Zh (Za (xM (h:=xM (h:=xM (h:=xR ZpR rfl (ZaL (k+3*g.1) oz _) (h:=?_))))))))
 obtain ⟨z1,hz1⟩:=ZM (xs:=g.2.2) (i:=g.1) om
 obtain ⟨bb4,_,hp4,⟨rfl,hb4,hb4b⟩,hw4,hc4⟩:=hw.row hz1
 refine xIp hp4 Tryz.underlying38 ZbQ (h:=xW ZaZ (h:=Zk (Zd5 (k:=g.1) (off:=0) (⟨ZO (k+3*g.1),z1.pass,z1.quota⟩) [_] 0 hw hp4 hz1 rfl rfl sz9 rfl rfl rfl rfl rfl rfl (by rintro _ ⟨rfl,e1,e2⟩;exact ⟨rfl,show (ZO (k+3*g.1)).length≤2000000 from Nat.le_trans (Zbl (k:=k+3*g.1) oz) (by decide),e2⟩) (fun l5 hv5=>?_))))
 refine tL1 (Za (xM (h:=xD (h:=xA (h:=Za (xM (h:=xM (h:=xM (h:=xR ZpR rfl (ZaL ((k+3*g.1)+1) oz _) (h:=?_))))))))))
 obtain ⟨z2,hz2⟩:=ZM (xs:=(g.2.2.set g.1 (⟨ZO (k+3*g.1),z1.pass,z1.quota⟩))) (i:=g.1) om
 obtain ⟨bb8,_,hp8,⟨rfl,hb8,hb8b⟩,hw8,hc8⟩:=hv5.row hz2
 refine xIp hp8 Tryz.underlying38 ZbQ (h:=xW Zf2 (h:=Zk (Zd5 (k:=g.1) (off:=1) (⟨z2.name,ZO (k+3*g.1+1),z2.quota⟩) [_] 0 hv5 hp8 hz2 rfl rfl sz9 rfl rfl rfl rfl rfl rfl (by rintro _ ⟨rfl,e1,e2⟩;exact ⟨rfl,e1,show (ZO (k+3*g.1+1)).length≤2000000 from Nat.le_trans (Zbl (k:=k+3*g.1+1) oz) (by decide)⟩) (fun l9 hv9=>?_))))
 refine tL1 (Za (xM (h:=xD (h:=xA (h:=Za (xM (h:=xM (h:=xM (h:=?_)))))))))
 obtain ⟨z3,hz3⟩:=ZM (xs:=((g.2.2.set g.1 (⟨ZO (k+3*g.1),z1.pass,z1.quota⟩)).set g.1 (⟨z2.name,ZO (k+3*g.1+1),z2.quota⟩))) (i:=g.1) om
 obtain ⟨bb11,_,hp11,⟨rfl,hb11,hb11b⟩,hw11,hc11⟩:=hv9.row hz3
 refine xIp hp11 Tryz.underlying38 ZbQ (h:=xW ZdL (h:=Zk (Zd5 (k:=g.1) (off:=2) (⟨z3.name,z3.pass,((k+3*g.1+1+1:Nat):Int)⟩) [_] 0 hv9 hp11 hz3 rfl rfl sz3 rfl rfl rfl rfl rfl rfl (by rintro _ ⟨rfl,e1,e2⟩;exact ⟨rfl,e1,e2⟩) (fun l12 hv12=>?_))))
 refine tL1 (Zf (xM (h:=xD (h:=xA (h:=ZI (Zm (Zf (xM (h:=xD (h:=xA (h:=?_)))))))))))
 exact Zy (g.1+1,l12,(((g.2.2.set g.1 (⟨ZO (k+3*g.1),z1.pass,z1.quota⟩)).set g.1 (⟨z2.name,ZO (k+3*g.1+1),z2.quota⟩)).set g.1 (⟨z3.name,z3.pass,((k+3*g.1+1+1:Nat):Int)⟩))) [0] so2 ⟨rfl,so,by simp only [List.length_set];exact hle,ZjL ht hz1 hz2 hz3,hv12⟩ t4 rfl
 try simp only [sQ,ne_eq] at g1
 have he:=ZhW ht oz
 have hgi:g.1=xs.length:=by omega
 rw [hgi] at he
 refine ZA (ZP (ZC (Zs (Zm (Za (xM (h:=xA (h:=Ze ?_))))))))
 exact ZeG .ret (.inl rfl) [_] [0] rfl ⟨rfl,trivial⟩ ⟨rfl,_,rfl,by rw [hgi];rfl,by rw [← he];exact hw⟩

theorem Ziy (q:Option Addr) (cp:Nat) (xs:List Str) (l:Cells) (k:Nat) (hk:k≤900000000000000) (hn:xs.length≤2000000) (B:Kn) (hv:ZU B l q cp 9 1 Zdt xs):Zx (pj J) 150 [.slice q xs.length cp,.int .i64 k] B [l] (fun v B' Ls=>B'=B∧∃l',Ls=[l']∧v = .int .i64 ((k+1*xs.length:Nat):Int)∧ZU B l' q cp 9 1 Zdt (ZdU k xs.length)):=by
 refine cB 20 Tryz.func150 (h:=?_)
 have hvc:=hv.cap
 refine Za (xA (h:=Zd (Za (xA (h:=Zh (Zv (α:=Nat × Cells × List Str) [4] (fun g=>[(0,.slice q xs.length cp),(1,.int .i64 ((k+1*g.1:Nat):Int)),(5,.int .i64 g.1)]) [0] (fun g=>[g.2.1]) (fun g Bx=>Bx=B∧g.1≤xs.length∧g.2.2.length=xs.length∧g.2.2.take g.1=ZdU k g.1∧ZU Bx g.2.1 q cp 9 1 Zdt g.2.2) (fun g=>xs.length - g.1) (0,l,xs) t3 rfl (⟨rfl,Nat.zero_le _,rfl,rfl,hv⟩) (fun g B1 hle1 hI=>?_)))))))
 obtain ⟨rfl,hi,hle,ht,hw⟩:=hI
 refine Zz [(0,_),(1,_),(4,_),(5,_)] [_] t4 rfl (Zd (Za (xM (h:=xM (h:=xV Tryz.underlying144 (h:=ZB (h:=Zb rfl (fun g1=>?_) (fun g1=>?_))))))))
 try simp only [sQ,ne_eq] at g1
 refine wSk (Zd (Zh (Za (xM (h:=xM (h:=xM (h:=xR ZpR rfl (ZaL (k+1*g.1) oz _) (h:=?_))))))))
 obtain ⟨z1,hz1⟩:=ZM (xs:=g.2.2) (i:=g.1) om
 obtain ⟨bb4,_,hp4,⟨rfl,hb4⟩,hw4,hc4⟩:=hw.row hz1
 refine xIp hp4 Tryz.underlying144 sz9 (h:=Zk (Zd5 (k:=g.1) (off:=0) (ZO (k+1*g.1)) [_] 0 hw hp4 hz1 rfl rfl sz9 rfl rfl rfl rfl rfl rfl (by rintro _ ⟨rfl,e1⟩;exact ⟨rfl,show (ZO (k+1*g.1)).length≤2000000 from Nat.le_trans (Zbl (k:=k+1*g.1) oz) (by decide)⟩) (fun l5 hv5=>?_)))
 refine tL1 (Zf (xM (h:=xD (h:=xA (h:=ZI (Zm (Zf (xM (h:=xD (h:=xA (h:=?_)))))))))))
 exact Zy (g.1+1,l5,(g.2.2.set g.1 (ZO (k+1*g.1)))) [0] so2 ⟨rfl,so,by simp only [List.length_set];exact hle,Zk3 ht hz1,hv5⟩ t4 rfl
 try simp only [sQ,ne_eq] at g1
 have he:=ZhW ht oz
 have hgi:g.1=xs.length:=by omega
 rw [hgi] at he
 refine ZA (ZP (ZC (Zs (Zm (Za (xM (h:=xA (h:=Ze ?_))))))))
 exact ZeG .ret (.inl rfl) [_] [0] rfl ⟨rfl,trivial⟩ ⟨rfl,_,rfl,by rw [hgi];rfl,by rw [← he];exact hw⟩

theorem ZiD (k:Nat) (hk:k<6) (B:Kn):Z0 (pj J) 205 [.int .i64 k] B (.int .i64 (ZbR k)):=by
 refine cB 7 Tryz.func205 (h:=?_)
 refine Za (xA (h:=Za (xBs [(0,_),(1,_),(2,_),(3,_),(4,_),(5,_)] [_,_,_,_,_,_] Tryz.underlying57 sz3 zo3 (h:=fun b1=>?_))))
 have hvq:ZU B (ZN b1 (([1,2,4,8,16,32]:List Int).map fun x=>.int .i64 x) 3) (some ⟨b1,0,none⟩) 6 3 1 Zb7 ([1,2,4,8,16,32]:List Int):=ZU.ints
 refine xM (h:=?_)
 obtain ⟨e,he⟩:=ZM (xs:=([1,2,4,8,16,32]:List Int)) (i:=k) om
 obtain ⟨bb3,_,hp3,rfl,hw3,hc3⟩:=hvq.row he
 refine xIp hp3 Tryz.underlying57 sz3 (h:=Zk (Zn rfl rfl lk3 rfl (hc3 _ 0 rfl 0 _ rfl) (xA (h:=tL1 (Ze ?_)))))
 exact eR t1 ⟨ZE (Zq4 he),rfl,rfl⟩

end Go.Proofs.YtbebcagblefhcaaGreatDoor
