/-
  Each function's contract, proved off its printed body (written by program).
-/
import Derived.Test.YtonfijmgahdgeaaGreatDoorC0
namespace Go.Proofs.YtonfijmgahdgeaaGreatDoor
open Go Go.BL
set_option linter.unusedVariables false
set_option linter.unusedSimpArgs false
set_option maxRecDepth 4000
set_option maxHeartbeats 6400000
variable {J : JoinT}
theorem Zpi (q1 q2 q3:Option Addr) (c1 c2 c3:Nat) (x:DHost) (hd:x.domain.length≤2000000) (B:Kn) (hu:SlK B q1 c1 3 ZL x.users) (hf:SlK B q2 c2 5 ZF x.folders) (hi:SlK B q3 c3 4 Zar x.queue.items):Z1 (pj J) 30 [.agg #[str x.domain,.slice q1 x.users.length c1,.slice q2 x.folders.length c2,.int .i64 x.queue.next,.slice q3 x.queue.items.length c3]] B (.bool (ZaB x)):=by
 refine cB 87 Tryz.func30 (h:=?_)
 have hfn:=hf.len
 have hun:=hu.len
 have hin:=hi.len
 refine Za (xBx [_,_,_,_,_] (h:=fun b1=>xA (h:=tL1 (Ze (Za (xW Zjo (h:=x1 lk9 0 (h:=xR ZFr rfl (Zlj _ om2 _) (h:=?_)))))))))
 refine xN (h:=xM (h:=Zq (d:=10) rfl (fun g1=>?_) (fun g1=>?_)))
 try simp only [sQ,ne_eq] at g1
 refine xP (h:=xP (h:=xP (h:=xP (h:=xT (h:=xM (h:=xP (h:=xP (h:=xP (h:=xP (h:=xT (h:=xM (h:=xP (h:=xP (h:=xP (h:=xT (h:=Zb (t:=true) rfl (fun _=>Za (xA (h:=Zf (Zj ?_)))) (fun h=>Bool.noConfusion h)))))))))))))))))
 exact eR t1 ⟨Zc (by simp [ZaB,g1]),rfl,rfl⟩
 try simp only [sQ,ne_eq] at g1
 refine xW Zcz (h:=x1 ZlN 0 (h:=xR ZFq rfl (ZmZ _ _ _ _ hu) (h:=xN (h:=xF (h:=xM (h:=Zq (d:=16) rfl (fun g2=>?_) (fun g2=>?_)))))))
 try simp only [sQ,ne_eq] at g2
 refine xP (h:=xP (h:=xP (h:=xP (h:=xT (h:=xM (h:=xP (h:=xP (h:=xP (h:=xT (h:=Zb (t:=true) rfl (fun _=>Za (xA (h:=Zf (Zj ?_)))) (fun h=>Bool.noConfusion h)))))))))))
 exact eR t1 ⟨Zc (by simp [ZaB,g1,g2]),rfl,rfl⟩
 try simp only [sQ,ne_eq] at g2
 refine xW ZfC (h:=xL [_,_] Zqn 0 (h:=xR ZFp rfl (Zm0 _ _ x.queue _ hi) (h:=xN (h:=xF (h:=xM (h:=Zq (d:=22) rfl (fun g3=>?_) (fun g3=>?_)))))))
 try simp only [sQ,ne_eq] at g3
 refine xP (h:=xP (h:=xP (h:=xT (h:=Zb (t:=true) rfl (fun _=>Za (xA (h:=Zf (Zj ?_)))) (fun h=>Bool.noConfusion h)))))
 exact eR t1 ⟨Zc (by simp [ZaB,g1,g2,g3]),rfl,rfl⟩
 try simp only [sQ,ne_eq] at g3
 refine xL [_,_,_,_,_] ZgD 0 (h:=xR ZFo rfl (ZlQ _ _ _ _ _ _ x _ hu hf) (h:=xN (h:=xF (h:=Zb rfl (fun g4=>?_) (fun g4=>?_)))))
 try simp only [sQ,ne_eq] at g4
 refine Za (xA (h:=Zf (Zj ?_)))
 exact eR t1 ⟨Zc (by simp [ZaB,g1,g2,g3,g4]),rfl,rfl⟩
 try simp only [sQ,ne_eq] at g4
 refine wSk (Ze (Za (xA (h:=Zg (Zv (α:=Nat) [0,1,26] (fun k=>[(3,.int .i64 k)]) [] (fun k=>[]) (fun k Bx=>Bx=B∧k≤x.users.length∧∀z,z∈x.users.take k→Zbs x.folders z=true) (fun k=>x.users.length - k) 0 t1 rfl (⟨rfl,Nat.zero_le _,by simp⟩) (fun k B6 hle6 hI=>?_))))))
 obtain ⟨rfl,hk,ha⟩:=hI
 refine Zz [(0,_),(1,_),(3,_),(26,_)] [_] t4 rfl (Ze (Za (xM (h:=xW Zcz (h:=x1 ZlN 0 (h:=xV Tryz.underlying35 (h:=ZC (h:=Zb rfl (fun g5=>?_) (fun g5=>?_)))))))))
 try simp only [sQ,ne_eq] at g5
 refine wSk (Ze (Zg (Ze (ZW (same _ _) mo kr ⟨rfl,rfl⟩ (fun _ _=>?_)))))
 refine aT 0 rfl (Z3 fun D=>ZI [_,_,_,_,_] rfl rfl ZgD rfl (ZbZ 0 rfl rfl rfl) r4) (h:=aW 1 rfl Zcz (h:=aT 2 rfl (Z3 fun D=>Zn rfl rfl ZlN rfl (atL 0 rfl rfl rfl) r4) (h:=aM 3 rfl (h:=?_))))
 obtain ⟨w,hw⟩:=ZM (xs:=x.users) (i:=k) om
 obtain ⟨bb8,oo8,rfl⟩:=hu.base hw
 obtain ⟨_,⟨rfl,hb9,hb9b⟩,hc9⟩:=hu.elem hw
 refine aIx 4 rfl Tryz.underlying35 Zcv (h:=aW 5 rfl Zbp (h:=aT 6 rfl (Z3 fun D=>Zn rfl rfl lk9 rfl (hc9 _ 0 _ rfl) r4) (h:=aT 7 rfl (Z3 fun D=>Z5 rfl rfl ZEB rfl (ZlR _ _ _ _ _ _ x w.name [105,110,98,111,120] om2 om2 _ hf) r4) (h:=?_))))
 refine Zty 8 rfl (h:=aM 9 rfl (h:=Zax (d:=43) rfl (fun g6=>?_) (fun g6=>?_)))
 try simp only [sQ,ne_eq] at g6
 refine aZ 10 rfl (h:=aZ 11 rfl (h:=aZ 12 rfl (h:=aZ 13 rfl (h:=aZ 14 rfl (h:=aZ 15 rfl (h:=aZ 16 rfl (h:=aZ 17 rfl (h:=aZ 18 rfl (h:=aZ 19 rfl (h:=aZ 20 rfl (h:=aZ 21 rfl (h:=aZ 22 rfl (h:=aZ 23 rfl (h:=aZ 24 rfl (h:=aPT 25 rfl (h:=Zy kr kr ?_))))))))))))))))
 refine Zm (Zb (t:=true) rfl (fun _=>Za (xA (h:=Zf (Zt (Zj (ZJ (Zt (Zj ?_)))))))) (fun h=>Bool.noConfusion h))
 exact eR t1 ⟨Zc (Zik hw (Zk6 g6)).symm,rfl,rfl⟩
 try simp only [sQ,ne_eq] at g6
 refine aT 10 rfl (Z3 fun D=>ZI [_,_,_,_,_] rfl rfl ZgD rfl (ZbZ 0 rfl rfl rfl) r4) (h:=aW 11 rfl Zcz (h:=aT 12 rfl (Z3 fun D=>Zn rfl rfl ZlN rfl (atL 0 rfl rfl rfl) r4) (h:=aM 13 rfl (h:=aIx 14 rfl Tryz.underlying35 Zcv (h:=aW 15 rfl Zbp (h:=aT 16 rfl (Z3 fun D=>Zn rfl rfl lk9 rfl (hc9 _ 0 _ rfl) r4) (h:=aT 17 rfl (Z3 fun D=>Z5 rfl rfl ZFn rfl (Zr2 _ _ _ _ _ _ x _ _ hf) r4) (h:=aW 18 rfl Zcz (h:=aT 19 rfl (Z3 fun D=>Zn rfl rfl ZlN rfl (atL 0 rfl rfl rfl) r4) (h:=aM 20 rfl (h:=aIx 21 rfl Tryz.underlying35 Zcv (h:=aW 22 rfl ZeA (h:=aT 23 rfl (Z3 fun D=>Zn rfl rfl lk3 rfl (hc9 _ 2 _ rfl) r4) (h:=Ztz 24 rfl (h:=aPF 25 rfl (h:=Zy kr kr ?_))))))))))))))))
 refine Zm (Zb rfl (fun g7=>?_) (fun g7=>?_))
 try simp only [sQ,ne_eq] at g7
 refine Za (xA (h:=Zf (Zt (Zj (ZJ (Zt (Zj ?_)))))))
 exact eR t1 ⟨Zc (Zik hw (Zk5 g7)).symm,rfl,rfl⟩
 try simp only [sQ,ne_eq] at g7
 refine ZK (ZD (Zm (Zd (xM (h:=xD (h:=xA (h:=?_)))))))
 exact Zx (k+1) [0] so2 ⟨rfl,oz,ZaW hw ha (Zk4 g6 g7)⟩ t4 rfl
 try simp only [sQ,ne_eq] at g5
 refine ZA (ZQ (ZB (Zs (Zm (Ze (Za (xA (h:=Zg (Zv (α:=Nat) [0,1,3,26,31] (fun j=>[(4,.int .i64 j)]) [] (fun j=>[]) (fun j Bx=>Bx=B6∧j≤x.queue.items.length∧∀z,z∈x.queue.items.take j→Za3 x.users z=true) (fun j=>x.queue.items.length - j) 0 t1 rfl (⟨rfl,Nat.zero_le _,by simp⟩) (fun j B12 hle12 hI=>?_))))))))))
 obtain ⟨rfl,hj,hb⟩:=hI
 refine Zz [(0,_),(1,_),(3,_),(4,_),(26,_),(31,_)] [_] t6 rfl (Ze (Za (xM (h:=xW ZfC (h:=xW Zc7 (h:=x1 ZmC 0 (h:=xV Tryz.underlying37 (h:=ZC (h:=Zb rfl (fun g8=>?_) (fun g8=>?_))))))))))
 try simp only [sQ,ne_eq] at g8
 refine wSk (Ze (Zg (Za (xW ZfC (h:=xW Zc7 (h:=x1 ZmC 0 (h:=xM (h:=?_))))))))
 obtain ⟨y,hy⟩:=ZM (xs:=x.queue.items) (i:=j) om
 obtain ⟨bb14,oo14,rfl⟩:=hi.base hy
 obtain ⟨_,⟨qi15,ci15,rfl,hi15,hb15,hb15b⟩,hc15⟩:=hi.elem hy
 have hi15n:=hi15.len
 refine xIx Tryz.underlying37 ZcR (h:=yL [_,_,_,_] ZfX hc15 0 (h:=xAl [_,_,_,_] ZgF (h:=fun b16=>xS [_,_,_,_] 1 [_,_,_,_] ZcR (h:=tL2 (Za (xW Zcz (h:=x1 ZlN 0 (h:=xW Ze6 (h:=x1 lk9 1 (h:=xR ZA5 rfl (Zgq _ _ _ _ _ hu) (h:=ZC (h:=xM (h:=Zq (d:=80) rfl (fun g9=>?_) (fun g9=>?_))))))))))))))
 try simp only [sQ,ne_eq] at g9
 refine xP (h:=xP (h:=xP (h:=xP (h:=xP (h:=xT (h:=Zb (t:=true) rfl (fun _=>Za (xA (h:=Zf (Zt (Zj (ZJ (Zt (Zj ?_)))))))) (fun h=>Bool.noConfusion h)))))))
 exact eR t1 ⟨Zc (Zil hy (Zke g9)).symm,rfl,rfl⟩
 try simp only [sQ,ne_eq] at g9
 refine xL [_,_,_,_,_] ZgD 0 (h:=xW ZdV (h:=x1 ZgU 1 (h:=xR ZFm rfl (ZpJ _ _ _ _ _ _ x _ _ y.left _ hu hi15) (h:=xN (h:=xF (h:=Zb rfl (fun ga=>?_) (fun ga=>?_)))))))
 try simp only [sQ,ne_eq] at ga
 refine Za (xA (h:=Zf (Zt (Zj (ZJ (Zt (Zj ?_)))))))
 exact eR t1 ⟨Zc (Zil hy (Zkd ga)).symm,rfl,rfl⟩
 try simp only [sQ,ne_eq] at ga
 refine ZK (ZD (Zm (Zd (xM (h:=xD (h:=xA (h:=?_)))))))
 exact Zx (j+1) [0] so2 ⟨rfl,oz,ZaW hy hb (Zkc g9 ga)⟩ t6 rfl
 try simp only [sQ,ne_eq] at g8
 refine ZA (ZQ (ZB (Zs (Zm (Za (xA (h:=Zf ?_)))))))
 exact eR t1 ⟨Zc (ZpU g1 g2 g3 g4 (ZdP (Za0 oz ha)) (ZdP (Za0 oz hb))).symm,rfl,rfl⟩

theorem ZoX (q:Option Addr) (cp:Nat) (gs:List DGrant) (B:Kn) (hg:SlK B q cp 2 Zaf gs):Zu (pj J) 228 [.slice q gs.length cp] B [] (ZnV gs B):=by
 refine cB 46 Tryz.func228 (h:=?_)
 have hgn:=hg.len
 refine Za (xA (h:=xA (h:=Ze (Za (xM (h:=xV Tryz.underlying85 (h:=Zc8 (h:=Zb rfl (fun g0=>?_) (fun g0=>?_)))))))))
 try simp only [sQ,ne_eq] at g0
 refine Za (xA (h:=xA (h:=Zf (Zj ?_))))
 exact Ziy .ret (.inl rfl) [_,_] t2 (by simp [ZdF];omega)
 try simp only [sQ,ne_eq] at g0
 refine wSk (Za (Zh (ZqD rfl rfl (fun b1 l1 hl1=>xA (h:=tL1 (Za (xA (h:=Ze (Za (xM (h:=xV Tryz.underlying85 (h:=xM (h:=Zg (Zv (α:=Nat × Str × Cells) [0,4,10,12,13] (fun g=>[(5,str g.2.1),(14,.int .i64 g.1)]) [0] (fun g=>[g.2.2]) (fun g Bx=>Bx=B∧g.1≤gs.length∧ZcW (gs.take g.1)=(true,g.2.1)∧g.2.1.length≤2000000∧ZyQ g.2.2 b1 (ZeZ (gs.take g.1))) (fun g=>gs.length - g.1) (0,[],_) t2 rfl (⟨rfl,Nat.zero_le _,ZfS,by simp,hl1⟩) (fun g B2 hle2 hI=>?_)))))))))))))))
 obtain ⟨rfl,hk,hs,hnm,hml⟩:=hI
 refine Zz [(0,_),(4,_),(5,_),(10,_),(12,_),(13,_),(14,_)] [_] t7 rfl (Za (ZC (h:=Ze (Zb rfl (fun g1=>?_) (fun g1=>?_)))))
 try simp only [sQ,ne_eq] at g1
 refine wSk (Ze (Zg (Za ?_)))
 obtain ⟨m,hm⟩:=ZM (xs:=gs) (i:=g.1) om
 obtain ⟨bb4,oo4,rfl⟩:=hg.base hm
 obtain ⟨_,⟨rfl,hb5⟩,hc5⟩:=hg.elem hm
 refine xIx Tryz.underlying85 ZeP (h:=yL [_,_] ZrX hc5 0 (h:=xAl [_,_] Zqs (h:=fun b6=>xS [_,_] 1 [_,_] ZeP (h:=tL2 (Ze (Za (xW ZcJ (h:=x1 lk9 1 (h:=xR Zkz rfl (ZbI _ om2 _) (h:=?_))))))))))
 refine xN (h:=xM (h:=Zq (d:=22) rfl (fun g2=>?_) (fun g2=>?_)))
 try simp only [sQ,ne_eq] at g2
 refine xP (h:=xP (h:=xP (h:=xP (h:=xT (h:=Zb (t:=true) rfl (fun _=>Za (xA (h:=xA (h:=Zf (Zj (Zt (Zj (ZJ (Zt (Zj ?_)))))))))) (fun h=>Bool.noConfusion h))))))
 exact Ziy .ret (.inl rfl) [_,_] t2 (ZdB hm hs (by rw [Zce,ZbH g.2.1 m.user];simp [g2];try omega))
 try simp only [sQ,ne_eq] at g2
 refine xW ZcJ (h:=x1 lk9 1 (h:=xM (h:=Zh (Zwd rfl rfl rfl rfl (xF (h:=Zb rfl (fun g3=>?_) (fun g3=>?_)))))))
 try simp only [sQ,ne_eq] at g3
 refine Za (xA (h:=xA (h:=Zf (Zj (Zt (Zj (ZJ (Zt (Zj ?_)))))))))
 exact Ziy .ret (.inl rfl) [_,_] t2 (ZdB hm hs (by rw [Zce,ZbH g.2.1 m.user];simp [g3];try omega))
 try simp only [sQ,ne_eq] at g3
 refine wSk (Ze (Za (xW ZdT (h:=x1 lk3 1 (h:=ZC (h:=xM (h:=Zq (d:=31) rfl (fun g4=>?_) (fun g4=>?_))))))))
 try simp only [sQ,ne_eq] at g4
 refine xP (h:=xP (h:=xP (h:=xP (h:=xT (h:=Zb (t:=true) rfl (fun _=>Za (xA (h:=xA (h:=Zf (Zj (Zt (Zj (ZJ (Zt (Zj ?_)))))))))) (fun h=>Bool.noConfusion h))))))
 exact Ziy .ret (.inl rfl) [_,_] t2 (ZdB hm hs (by rw [Zce,ZbH g.2.1 m.user];simp [g4];try omega))
 try simp only [sQ,ne_eq] at g4
 refine xW ZdT (h:=x1 lk3 1 (h:=xR ZCH rfl (Zut _ _) (h:=xN (h:=xF (h:=Zb rfl (fun g5=>?_) (fun g5=>?_))))))
 try simp only [sQ,ne_eq] at g5
 refine Za (xA (h:=xA (h:=Zf (Zj (Zt (Zj (ZJ (Zt (Zj ?_)))))))))
 exact Ziy .ret (.inl rfl) [_,_] t2 (ZdB hm hs (Bool.eq_false_iff.2 fun hc=>by simp only [Zce,Bool.and_eq_true,decide_eq_true_eq] at hc;simp only [Bool.and_eq_false_iff,decide_eq_false_iff_not] at g5;omega))
 try simp only [sQ,ne_eq] at g5
 refine wSk (Za (xM (h:=xW ZcJ (h:=x1 lk9 1 (h:=xW ZdT (h:=x1 lk3 1 (h:=Zh (ZmK (k:=m.user) (v:=m.rights) 0 rfl hml rfl rfl Tryz.underlying303 Tryz.underlying9 rfl rfl rfl (fun l9 hl9=>tL2 (Zd (xW ZcJ (h:=x1 lk9 1 (h:=xA (h:=ZD (Zm (Zd (xD (h:=xM (h:=?_)))))))))))))))))))
 exact Zx (g.1+1,m.user,l9) [0] so2 ⟨rfl,so,ZcN hm hs (by rw [Zce,ZbH g.2.1 m.user,g2,g3];simp at g5 ⊢;omega),oy,by rw [← ZxQ hm hs (by rw [ZbH g.2.1 m.user,g3];rfl)];exact hl9⟩ t7 rfl
 try simp only [sQ,ne_eq] at g1
 refine ZA (ZQ (ZB (Zs (Zm (Za (xM (h:=xA (h:=xA (h:=Zf ?_)))))))))
 exact ZyB .ret (.inl rfl) [_,_] rfl t2 (by rw [Zmz (Zew hs oz)];simp;omega) (by have e:=hml;rw [List.take_of_length_le oz] at e;exact e)

theorem Zse (q:Option Addr) (cp:Nat) (gs:List DGrant) (B:Kn) (hg:SlK B q cp 2 Zaf gs):Z1 (pj J) 181 [.slice q gs.length cp] B (.bool (ZdF gs)):=by
 refine cB 11 Tryz.func181 (h:=?_)
 refine Za (xA (h:=Za (xM (h:=xC ZAv rfl (ZoX _ _ _ _ hg) (h:=?_)))))
 rintro _ B1 _ hle1 ⟨m1,l1,rfl,rfl,rfl,hl1⟩
 refine xM (h:=xE (h:=xE (h:=xA (h:=xA (h:=tL1 (Za (xM (h:=xA (h:=Zf ?_)))))))))
 exact eR t1 ⟨rfl,rfl,rfl⟩

theorem ZAN (a b:Str) (B:Kn):Z1 (pj J) 213 [str a,str b] B (.int .i64 (Lib.compareBytes a b)):=by
 refine cB 8 Tryz.func213 (h:=?_)
 refine Za (xA (h:=Za (xM (h:=xM (h:=Zh (ZBn (fn:=Tryz.f253) rfl rfl Tryz.func253 rfl rfl ZAj ZAk rfl rfl (xA (h:=Zf ?_))))))))
 exact eR t1 ⟨rfl,rfl,rfl⟩

theorem ZwI (a b:Str) (B:Kn):Z1 (pj J) 175 [str a,str b] B (.int .i64 (Lib.compareBytes a b)):=by
 refine cB 8 Tryz.func175 (h:=?_)
 refine Za (xA (h:=Za (xM (h:=xM (h:=xR ZC0 rfl (ZAN a b _) (h:=xA (h:=Zf ?_)))))))
 exact eR t1 ⟨rfl,rfl,rfl⟩

theorem ZnD (f:DFolder) (qa qb:Option Addr) (ca cb:Nat) (ow nm:Str) (B:Kn):Z1 (pj J) 138 [.agg #[str f.owner,str f.name,.slice qa f.grants.length ca,.int .i64 f.next,.slice qb f.mail.length cb],str ow,str nm] B (.int .i64 (ZAM f ow nm)):=by
 refine cB 19 Tryz.func138 (h:=?_)
 refine Za (xBx [_,_,_,_,_] (h:=fun b1=>xA (h:=tL1 (Ze (Za (xW Zcy (h:=x1 lk9 0 (h:=xM (h:=xR ZAB rfl (ZwI f.owner ow _) (h:=xA (h:=Za (xM (h:=Zaa (h:=Zb rfl (fun g1=>?_) (fun g1=>?_)))))))))))))))
 try simp only [sQ,ne_eq] at g1
 refine Za (xM (h:=xA (h:=Zf (Zj ?_))))
 exact eR t1 ⟨ZH (by rw [ZAM,if_pos g1]),rfl,rfl⟩
 try simp only [sQ,ne_eq] at g1
 refine wSk (Za (xW ZeJ (h:=x1 lk9 0 (h:=xM (h:=xR ZAB rfl (ZwI f.name nm _) (h:=xA (h:=Zf ?_)))))))
 exact eR t1 ⟨ZH (by rw [ZAM,if_neg (fun h=>h g1)]),rfl,rfl⟩

theorem Zzk (b o:Nat) (q1 q2 q3:Option Addr) (c1 c2 c3:Nat) (x:DHost) (u:Str) (B:Kn) (hh:Zam B b o [str x.domain,.slice q1 x.users.length c1,.slice q2 x.folders.length c2,.int .i64 x.queue.next,.slice q3 x.queue.items.length c3]) (hf:SlK B q2 c2 5 ZF x.folders):Z1 (pj J) 237 [ptr ⟨b,o,none⟩,str u] B (.int .i64 (ZfK x.folders u)):=by
 refine cB 28 Tryz.func237 (h:=?_)
 have hfn:=hf.len
 refine Za (xA (h:=Za (xA (h:=Ze (Za (xM (h:=xNc (h:=xW Za5 (h:=Zh (Zn rfl rfl ZgE rfl (hh _ 2 _ rfl) (xV Tryz.underlying36 (h:=xM (h:=Zg (Zv (α:=Nat × Int) [0,1,4,11,12] (fun g=>[(5,.int .i64 g.2),(13,.int .i64 g.1)]) [] (fun g=>[]) (fun g Bx=>Bx=B∧g.1≤x.folders.length∧g.2=ZfK (x.folders.take g.1) u∧-1*g.1≤g.2∧g.2≤g.1*200) (fun g=>x.folders.length - g.1) (0,0) t2 rfl (⟨rfl,Nat.zero_le _,by simp [ZfK],by simp,by simp⟩) (fun g B1 hle1 hI=>?_)))))))))))))))
 obtain ⟨rfl,hk,hs,hl0,hl1⟩:=hI
 refine Zz [(0,_),(1,_),(4,_),(5,_),(11,_),(12,_),(13,_)] [] t7 rfl (Za (ZC (h:=Ze (Zb rfl (fun g1=>?_) (fun g1=>?_)))))
 try simp only [sQ,ne_eq] at g1
 refine wSk (Ze (Zg (Za ?_)))
 obtain ⟨m,hm⟩:=ZM (xs:=x.folders) (i:=g.1) om
 obtain ⟨bb3,oo3,rfl⟩:=hf.base hm
 obtain ⟨_,⟨qg4,cg4,qm4,cm4,rfl,hg4,hm4,hb4,hb4b⟩,hc4⟩:=hf.elem hm
 have hg4n:=hg4.len
 have hm4n:=hm4.len
 have hm4s:=ZaN hm4
 refine xIx Tryz.underlying36 ZeO (h:=yL [_,_,_,_,_] Zj5 hc4 0 (h:=xAl [_,_,_,_,_] Zqk (h:=fun b5=>xS [_,_,_,_,_] 0 [_,_,_,_,_] ZeO (h:=tL1 (Za (xW Zcy (h:=x1 lk9 0 (h:=xM (h:=Zcj (h:=Zb rfl (fun g2=>?_) (fun g2=>?_)))))))))))
 try simp only [sQ,ne_eq] at g2
 have hbs:=Zjy (⟨m.next,m.mail⟩:DBox)
 refine Zd (xM (h:=xW Zed (h:=xL [_,_] Zhm 0 (h:=xR ZCG rfl (Ztl _ _ (⟨m.next,m.mail⟩:DBox) _ hm4) (h:=xD (h:=xA (h:=ZD (Zm (Zd (xD (h:=xM (h:=?_))))))))))))
 exact Zx (g.1+1,g.2+ZdZ ⟨m.next,m.mail⟩) [] so2 ⟨rfl,so,by rw [ZiY hm,← hs,if_pos g2],so,so⟩ t7 rfl
 try simp only [sQ,ne_eq] at g2
 refine ZK (ZD (Zm (Zd (xD (h:=xM (h:=?_))))))
 exact Zx (g.1+1,g.2) [] so2 ⟨rfl,so,by rw [ZiY hm,← hs,if_neg g2,Int.add_zero],so,so⟩ t7 rfl
 try simp only [sQ,ne_eq] at g1
 refine ZA (ZQ (ZB (Zs (Zm (Za (xM (h:=xA (h:=Zf ?_))))))))
 exact eR t1 ⟨ZH (by rw [← ZqP hs oz]),rfl,rfl⟩

theorem ZsS (b o:Nat) (q1 q2 q3:Option Addr) (c1 c2 c3:Nat) (x:DHost) (u:Str) (more:Int) (hn:u.length≤2000000) (hm0:0≤more) (hm1:more≤2000000) (B:Kn) (hh:Zam B b o [str x.domain,.slice q1 x.users.length c1,.slice q2 x.folders.length c2,.int .i64 x.queue.next,.slice q3 x.queue.items.length c3]) (hu:SlK B q1 c1 3 ZL x.users) (hf:SlK B q2 c2 5 ZF x.folders):Z1 (pj J) 185 [ptr ⟨b,o,none⟩,str u,.int .i64 more] B (.bool (ZeB x u more)):=by
 refine cB 30 Tryz.func185 (h:=?_)
 have hfn:=hf.len
 have hub:=Zt5 x.folders u
 refine Za (xA (h:=Za (xM (h:=xNc (h:=xW Zcz (h:=Zh (Zn rfl rfl ZlN rfl (hh _ 1 _ rfl) (xM (h:=xR ZAw rfl (ZhW _ _ _ u om2 _ hu) (h:=?_))))))))))
 refine xM (h:=xE (h:=xE (h:=xAl [_,_,_] Zf6 (h:=fun b2=>xS [_,_,_] 0 [_,_,_] Zcv (h:=xA (h:=tL1 (Ze (ZW (same _ _) mo kr ⟨rfl,rfl⟩ (fun _ _=>?_)))))))))
 refine aM 0 rfl (h:=aN 1 rfl (h:=aM 2 rfl (h:=Zax (d:=20) rfl (fun g1=>?_) (fun g1=>?_))))
 refine aZ 3 rfl (h:=aZ 4 rfl (h:=aZ 5 rfl (h:=aZ 6 rfl (h:=aZ 7 rfl (h:=aZ 8 rfl (h:=aZ 9 rfl (h:=aZ 10 rfl (h:=aPT 11 rfl (h:=aA 12 rfl (h:=Zy kr kr ?_))))))))))
 refine Zm (Zf ?_)
 exact eR t1 ⟨Zc (by rw [ZeB,g1];rfl),rfl,rfl⟩
 refine aM 3 rfl (h:=aM 4 rfl (h:=aT 5 rfl (Z3 fun D=>Z5 rfl rfl ZCV rfl (Zzk _ _ _ _ _ _ _ _ x u _ hh hf) r4) (h:=aM 6 rfl (h:=aD 7 rfl (h:=aW 8 rfl ZeA (h:=aT 9 rfl (Z3 fun D=>Zn rfl rfl lk3 rfl (atL 0 rfl rfl rfl) r4) (h:=Ztz 10 rfl (h:=aPF 11 rfl (h:=aA 12 rfl (h:=Zy kr kr ?_))))))))))
 refine Zm (Zf ?_)
 exact eR t1 ⟨Zc (by rw [ZeB,g1];rfl),rfl,rfl⟩

theorem Zo6 (b o:Nat) (q1 q2 q3:Option Addr) (c1 c2 c3:Nat) (x:DHost) (B:Kn) (hh:Zam B b o [str x.domain,.slice q1 x.users.length c1,.slice q2 x.folders.length c2,.int .i64 x.queue.next,.slice q3 x.queue.items.length c3]) (hu:SlK B q1 c1 3 ZL x.users) (hf:SlK B q2 c2 5 ZF x.folders):Z1 (pj J) 140 [ptr ⟨b,o,none⟩] B (.bool (ZhV x)):=by
 refine cB 26 Tryz.func140 (h:=?_)
 have hfn:=hf.len
 have hun:=hu.len
 refine Za (xA (h:=Ze (Za (xM (h:=xNc (h:=xW Zcz (h:=Zh (Zn rfl rfl ZlN rfl (hh _ 1 _ rfl) (xV Tryz.underlying35 (h:=xM (h:=Zg (Zv (α:=Nat) [0,8,9] (fun k=>[(10,.int .i64 k)]) [] (fun k=>[]) (fun k Bx=>Bx=B∧k≤x.users.length∧∀z,z∈x.users.take k→ZcM x z=true) (fun k=>x.users.length - k) 0 t1 rfl (⟨rfl,Nat.zero_le _,by simp⟩) (fun k B1 hle1 hI=>?_)))))))))))))
 obtain ⟨rfl,hk,ha⟩:=hI
 refine Zz [(0,_),(8,_),(9,_),(10,_)] [] t4 rfl (Za (ZC (h:=Ze (Zb rfl (fun g1=>?_) (fun g1=>?_)))))
 try simp only [sQ,ne_eq] at g1
 refine wSk (Ze (Zg (Za ?_)))
 obtain ⟨w,hw⟩:=ZM (xs:=x.users) (i:=k) om
 obtain ⟨bb3,oo3,rfl⟩:=hu.base hw
 obtain ⟨_,⟨rfl,hb4,hb4b⟩,hc4⟩:=hu.elem hw
 refine xIx Tryz.underlying35 Zcv (h:=yL [_,_,_] Zfu hc4 0 (h:=xAl [_,_,_] Zf6 (h:=fun b5=>xS [_,_,_] 0 [_,_,_] Zcv (h:=tL1 (Za (xM (h:=xW Zbp (h:=x1 lk9 0 (h:=xR ZAA rfl (ZwG _ _ _ _ _ _ _ _ x w.name [105,110,98,111,120] om2 om2 _ hh hf) (h:=?_))))))))))
 refine ZC (h:=xM (h:=Zq (d:=19) rfl (fun g2=>?_) (fun g2=>?_)))
 try simp only [sQ,ne_eq] at g2
 refine xP (h:=xP (h:=xP (h:=xP (h:=xT (h:=Zb (t:=true) rfl (fun _=>Za (xA (h:=Zf (Zt (Zj (ZJ (Zt (Zj ?_)))))))) (fun h=>Bool.noConfusion h))))))
 exact eR t1 ⟨Zc (Zb1 hw (Zk9 g2)).symm,rfl,rfl⟩
 try simp only [sQ,ne_eq] at g2
 refine xM (h:=xW Zbp (h:=x1 lk9 0 (h:=xR ZDm rfl (ZsS _ _ _ _ _ _ _ _ x w.name 0 om2 om2 om2 _ hh hu hf) (h:=?_))))
 refine xF (h:=Zb rfl (fun g3=>?_) (fun g3=>?_))
 try simp only [sQ,ne_eq] at g3
 refine Za (xA (h:=Zf (Zt (Zj (ZJ (Zt (Zj ?_)))))))
 exact eR t1 ⟨Zc (Zb1 hw (Zk8 g3)).symm,rfl,rfl⟩
 try simp only [sQ,ne_eq] at g3
 refine ZK (ZD (Zm (Zd (xD (h:=xM (h:=?_))))))
 exact Zx (k+1) [] so2 ⟨rfl,oz,ZaW hw ha (Zk7 g2 g3)⟩ t4 rfl
 try simp only [sQ,ne_eq] at g1
 refine ZA (ZQ (ZB (Zs (Zm (Za (xA (h:=Zf ?_)))))))
 exact eR t1 ⟨Zc (ZdP (Za0 oz ha)).symm,rfl,rfl⟩

theorem Zu6 (q:Option Addr) (cp:Nat) (bs:List Bool) (v:Bool) (B:Kn) (hb:SlK B q cp 1 Za8 bs):Z1 (pj J) 234 [.slice q bs.length cp,.bool v] B (.int .i64 (Zb5 (fun y=>decide (v=y)) bs)):=by
 refine cB 19 Tryz.func234 (h:=?_)
 have hbn:=hb.len
 refine Za (xA (h:=Ze (Za (xM (h:=xV Tryz.underlying192 (h:=xM (h:=Zg (Zv (α:=Nat) [0,1,7] (fun k=>[(8,.int .i64 k)]) [] (fun k=>[]) (fun k Bx=>Bx=B∧k≤bs.length∧∀y,y∈bs.take k→decide (v=y)=false) (fun k=>bs.length - k) 0 t1 rfl (⟨rfl,Nat.zero_le _,by simp⟩) (fun k B1 hle1 hI=>?_)))))))))
 obtain ⟨rfl,hk,ha⟩:=hI
 refine Zz [(0,_),(1,_),(7,_),(8,_)] [] t4 rfl (Za (ZC (h:=Ze (Zb rfl (fun g1=>?_) (fun g1=>?_)))))
 try simp only [sQ,ne_eq] at g1
 refine wSk (Ze (Zg (Za (xM (h:=xA (h:=Za (xM (h:=xM (h:=xM (h:=?_))))))))))
 obtain ⟨y,hy⟩:=ZM (xs:=bs) (i:=k) om
 obtain ⟨bb3,oo3,rfl⟩:=hb.base hy
 obtain ⟨_,rfl,hc4⟩:=hb.elem hy
 refine xIx Tryz.underlying192 sz4 (h:=y1 lk4 hc4 0 (h:=Zh (ZqG rfl rfl rfl rfl rfl (ZAq Tryz.underlying4) (Zb rfl (fun g2=>?_) (fun g2=>?_)))))
 try simp only [sQ,ne_eq] at g2
 refine Za (xM (h:=xA (h:=Zf (Zt (Zj (ZJ (Zt (Zj ?_))))))))
 exact eR t1 ⟨ZH (Zgs hy (decide_eq_true g2) ha).symm,rfl,rfl⟩
 try simp only [sQ,ne_eq] at g2
 refine ZK (ZD (Zm (Zd (xD (h:=xM (h:=?_))))))
 exact Zx (k+1) [] so2 ⟨rfl,oz,ZaW hy ha (decide_eq_false g2)⟩ t4 rfl
 try simp only [sQ,ne_eq] at g1
 refine ZA (ZQ (ZB (Zs (Zm (Za (xA (h:=Zf ?_)))))))
 exact eR t1 ⟨ZH (Zec (Za0 oz ha)).symm,rfl,rfl⟩

theorem ZnN (q:Option Addr) (cp:Nat) (bs:List Bool) (v:Bool) (B:Kn) (hb:SlK B q cp 1 Za8 bs):Z1 (pj J) 183 [.slice q bs.length cp,.bool v] B (.bool (decide (0≤Zb5 (fun y=>decide (v=y)) bs))):=by
 refine cB 9 Tryz.func183 (h:=?_)
 refine Za (xA (h:=Za (xM (h:=xM (h:=xR ZCY rfl (Zu6 _ _ _ _ _ hb) (h:=Zc9 (h:=xA (h:=Zf ?_))))))))
 exact eR t1 ⟨rfl,rfl,rfl⟩

theorem Zl0 (l:Str) (hl:l.length≤2000000) (B:Kn):Z1 (pj J) 135 [str l] B (.bool (ZcY l)):=by
 refine cB 16 Tryz.func135 (h:=?_)
 refine Za (xA (h:=Za (xM (h:=xB [(0,_)] [_,_] [_,_] ZzE ZtH (h:=xAl [_,_] ZtH (h:=fun b1=>xS [_,_] 0 [_,_] Zzv (h:=tL1 (Za (Zh (ZiX 0 rfl rfl rfl ZDu rfl (ZvF _ _ 0 oz oz _) ?_))))))))))
 refine xM (h:=xE (h:=xE (h:=xA (h:=xA (h:=Za (xM (h:=xM (h:=Zq (d:=13) rfl (fun g1=>?_) (fun g1=>?_)))))))))
 refine Zh (Zfw 0 rfl rfl rfl ZvC rfl (ZoR _ _ (dom l 0).2 (ZAL (Nat.zero_le _)) oz _) ?_)
 refine xT (h:=xA (h:=Zf ?_))
 exact eR t1 ⟨Zc (by rw [Bool.eq_iff_iff,← Zme];simp [ZnK] at g1;simp [g1];try omega),rfl,rfl⟩
 refine xP (h:=xF (h:=xA (h:=Zf ?_)))
 exact eR t1 ⟨Zc (by symm;rw [Bool.eq_false_iff,ne_eq,← Zme];intro hc;simp [ZnK,hc.1] at g1;omega),rfl,rfl⟩

theorem Zkm (Wg C n i b o b1 b3 b5 b6:Nat) (q1 q2 q3:Option Addr) (c1 c2 c3:Nat) (x:DHost) (m:DFolder) (qg qm:Option Addr) (cg cm:Nat) (hin:i<n) (B:Kn) (hc900:Zam B b o [str x.domain,.slice q1 x.users.length c1,.slice q2 x.folders.length c2,.int .i64 x.queue.next,.slice q3 x.queue.items.length c3]) (hu:SlK B q1 c1 3 ZL x.users) (hc901:Zam B b1 0 [ptr ⟨b,o,none⟩]) (hc903:Zam B b3 0 [.slice (some ⟨C,0,none⟩) n n]) (hc905:Zam B b5 0 [.int .i64 i]) (hc906:Zam B b6 0 [str m.owner,str m.name,.slice qg m.grants.length cg,.int .i64 m.next,.slice qm m.mail.length cm]) (hg:SlK B qg cg 2 Zaf m.grants) (hm:SlK B qm cm 3 Zah m.mail) (ho:m.owner.length≤2000000) (hnm:m.name.length≤2000000):@ZeF ⟨4⟩ Tryz.prog wgL.tWg Wg C n i (.bool (ZaP x.users m)) (Go.Conc.G (Frame.enter Tryz.prog 177 #[ptr ⟨Wg,0,none⟩,ptr ⟨b1,0,none⟩,ptr ⟨b6,0,none⟩,ptr ⟨b3,0,none⟩,ptr ⟨b5,0,none⟩] .deferred) [Zf2 Tryz.prog]) B []:=by
 letI:Go.ConcR.Payload:=⟨4⟩
 refine ZwS (Lk:=wgL) (P:=Tryz.prog) (caps:=[ptr ⟨Wg,0,none⟩,ptr ⟨b1,0,none⟩,ptr ⟨b6,0,none⟩,ptr ⟨b3,0,none⟩,ptr ⟨b5,0,none⟩]) (nt:=27) (I:=keeps B [] []) (K:=fun _ _ _ _=>False) ZmI Tryz.func177 rfl rfl (Nat.le_of_ble_eq_true rfl) rfl mo kr ⟨Kn.le.refl _,ZaH.refl _ _⟩ (fun _ _ _ _ h=>h) ?_
 refine aT 0 rfl (ZO fun D B L hI=>Zn rfl rfl Zz0 rfl ((hc903.mono hI.1) _ 0 _ rfl) r4) (h:=aT 1 rfl (ZO fun D B L hI=>Zn rfl rfl lk3 rfl ((hc905.mono hI.1) _ 0 _ rfl) r4) (h:=aT 2 rfl (ZO fun D B L hI=>Zn rfl rfl ZBZ rfl ((hc901.mono hI.1) _ 0 _ rfl) r4) (h:=aW 3 rfl Zcy (h:=aT 4 rfl (ZO fun D B L hI=>Zn rfl rfl lk9 rfl ((hc906.mono hI.1) _ 0 _ rfl) r4) (h:=aT 5 rfl (ZO fun D B L hI=>Z5 rfl rfl ZvB rfl (ZhG _ _ _ _ _ _ _ _ x m.owner om2 _ (hc900.mono hI.1) (hu.mono ZL.mono hI.1)) r4) (h:=?_))))))
 refine aM 6 rfl (h:=Zax (d:=11) rfl (fun g1=>?_) (fun g1=>?_))
 refine aW 7 rfl ZeJ (h:=aT 8 rfl (ZO fun D B L hI=>Zn rfl rfl lk9 rfl ((hc906.mono hI.1) _ 1 _ rfl) r4) (h:=aT 9 rfl (ZO fun D B L hI=>Z5 rfl rfl Zkz rfl (ZbI _ om2 _) r4) (h:=?_)))
 refine aPT 10 rfl (h:=aM 11 rfl (h:=Zax (d:=16) rfl (fun g2=>?_) (fun g2=>?_)))
 refine aW 12 rfl ZfB (h:=aT 13 rfl (ZO fun D B L hI=>Zn rfl rfl Zwt rfl ((hc906.mono hI.1) _ 2 _ rfl) r4) (h:=aT 14 rfl (ZO fun D B L hI=>Z5 rfl rfl ZDp rfl (Zse _ _ _ _ (hg.mono Zaf.mono hI.1)) r4) (h:=aPT 15 rfl (h:=aM 16 rfl (h:=Zax (d:=21) rfl (fun g3=>?_) (fun g3=>?_))))))
 refine aW 17 rfl Zed (h:=aT 18 rfl (ZO fun D B L hI=>ZI [_,_] rfl rfl Zhm rfl (Zhh (hc906.mono hI.1) 3 rfl rfl) r4) (h:=aT 19 rfl (ZO fun D B L hI=>Z5 rfl rfl ZCp rfl (Zih _ _ (⟨m.next,m.mail⟩:DBox) _ (hm.mono Zah.mono hI.1)) r4) (h:=aPT 20 rfl (h:=aT 21 rfl (ZO fun D B L hI=>Zb3 rfl rfl Tryz.underlying192 sz4 rfl rfl oz oz r4) (h:=?_)))))
 refine ZhI 22 kr rfl kr kr kr (fun T hn hT=>?_)
 refine Zf7 (L:=[]) hT ZmI (by simp [ZaP,DFolder.box,g1,g2,g3]) rfl hin rfl Tryz.sizeOf4 (Zdb sz4) (by exact ZhE C i) rfl kr Tryz.func177 rfl
 refine aZ 17 rfl (h:=aZ 18 rfl (h:=aZ 19 rfl (h:=aPF 20 rfl (h:=aT 21 rfl (ZO fun D B L hI=>Zb3 rfl rfl Tryz.underlying192 sz4 rfl rfl oz oz r4) (h:=?_)))))
 refine ZhI 22 kr rfl kr kr kr (fun T hn hT=>?_)
 refine Zf7 (L:=[]) hT ZmI (by simp [ZaP,DFolder.box,g1,g2,g3]) rfl hin rfl Tryz.sizeOf4 (Zdb sz4) (by exact ZhE C i) rfl kr Tryz.func177 rfl
 refine aZ 12 rfl (h:=aZ 13 rfl (h:=aZ 14 rfl (h:=aPF 15 rfl (h:=aM 16 rfl (h:=aZ 17 rfl (h:=aZ 18 rfl (h:=aZ 19 rfl (h:=aPF 20 rfl (h:=aT 21 rfl (ZO fun D B L hI=>Zb3 rfl rfl Tryz.underlying192 sz4 rfl rfl oz oz r4) (h:=?_))))))))))
 refine ZhI 22 kr rfl kr kr kr (fun T hn hT=>?_)
 refine Zf7 (L:=[]) hT ZmI (by simp [ZaP,DFolder.box,g1,g2]) rfl hin rfl Tryz.sizeOf4 (Zdb sz4) (by exact ZhE C i) rfl kr Tryz.func177 rfl
 refine aZ 7 rfl (h:=aZ 8 rfl (h:=aZ 9 rfl (h:=aPF 10 rfl (h:=aM 11 rfl (h:=aZ 12 rfl (h:=aZ 13 rfl (h:=aZ 14 rfl (h:=aPF 15 rfl (h:=aM 16 rfl (h:=aZ 17 rfl (h:=aZ 18 rfl (h:=aZ 19 rfl (h:=aPF 20 rfl (h:=aT 21 rfl (ZO fun D B L hI=>Zb3 rfl rfl Tryz.underlying192 sz4 rfl rfl oz oz r4) (h:=?_)))))))))))))))
 refine ZhI 22 kr rfl kr kr kr (fun T hn hT=>?_)
 refine Zf7 (L:=[]) hT ZmI (by simp [ZaP,DFolder.box,g1]) rfl hin rfl Tryz.sizeOf4 (Zdb sz4) (by exact ZhE C i) rfl kr Tryz.func177 rfl

theorem ZiR (hJ:Joins Tryz.prog J) (b o:Nat) (q1 q2 q3:Option Addr) (c1 c2 c3:Nat) (x:DHost) (B:Kn) (hc900:Zam B b o [str x.domain,.slice q1 x.users.length c1,.slice q2 x.folders.length c2,.int .i64 x.queue.next,.slice q3 x.queue.items.length c3]) (hu:SlK B q1 c1 3 ZL x.users) (hf:SlK B q2 c2 5 ZF x.folders):Zu (pj J) 139 [ptr ⟨b,o,none⟩] B [] (fun v B' Ls=>Ls=[]∧v = .bool (x.folders.all (ZaP x.users))):=by
 have hfn:=hf.len
 letI:Go.ConcR.Payload:=⟨4⟩
 refine ZhH 30 Tryz.func139 rfl rfl (Nat.le_of_ble_eq_true rfl) fun X kind c cs F T0 hk hke hA hn0 hT0=>?_
 let C0:Cx (pj J):=⟨X,fb 139 kind,c :: cs,F,hke⟩
 refine Zbl (C:=C0) (L:=[]) (Zjw (C:=C0) (L:=[]) hn0 hT0 (xBx [_] (h:=fun b1=>xA (h:=?_))))
 intro T1 hn1 hT1
 refine Zmg (C:=C0) rfl 0 rfl fun B1 hle1 hm1=>?_
 have hc901:=ZbA hm1
 replace hc900:=hc900.mono hle1
 obtain ⟨hu,hf⟩:=up2 hle1 hu hf
 replace hA:=fun v B' Ls' h=>hA v B' Ls' (hle1.trans h)
 refine Zbl (C:=C0) (L:=[[]]) (Zjw (C:=C0) (L:=[[]]) hn1 hT1 (y1 ZBZ hc901 0 (h:=xNc (h:=xW Za5 (h:=y1 ZgE hc900 2 (h:=xV Tryz.underlying36 (h:=Zh (Zab (m:=x.folders.length) (c:=x.folders.length) (by_:=1) [.bool false] rfl rfl Zmb zo4 rfl rfl ⟨_,_,rfl,rfl⟩ ⟨_,_,rfl,rfl⟩ (Nat.le_refl _) oz (fun Cb=>?_)))))))))
 refine xAl [_] ZBe (h:=fun b2=>xS [_] 2 [_] ZBG (h:=?_))
 intro T2 hn2 hT2
 refine Zmg (C:=C0) rfl 2 rfl fun B2 hle2 hm2=>?_
 have hc903:=ZbA hm2
 replace hc900:=hc900.mono hle2
 obtain ⟨hu,hf⟩:=up2 hle2 hu hf
 replace hc901:=hc901.mono hle2
 replace hA:=fun v B' Ls' h=>hA v B' Ls' (hle2.trans h)
 refine Zbl (C:=C0) (L:=[[],ZP Cb (zrow [.bool false] x.folders.length) 4,[]]) (ZaD (C:=C0) (L:=[[],ZP Cb (zrow [.bool false] x.folders.length) 4,[]]) (ZuC (C:=Cb) (n:=x.folders.length) (val:=ZtF x) (L₁:=F) (cells:=(zrow [.bool false] x.folders.length).toArray) (i:=0) (todo:=[]) hJ rfl hke ZBd rfl oz (by simp [Zci]) (.refl _) (fun hmain Wg hW1 hW2=>?_)))
 let C1:Cx (.lone Tryz.prog):=⟨phL Tryz.prog 262 Wg Cb x.folders.length (ZtF x) X.R .a5 (0),fb 139 kind,c :: cs,F,hke⟩
 have hT3:=hT2.putT (n:=30) (dst:=some 4) hn2 rfl (ptr ⟨Wg,0,none⟩)
 have hn3:(putT T2 (some 4) (ptr ⟨Wg,0,none⟩)).size=30:=by rw [Zao,hn2]
 refine ZY (C:=C1) (L:=[]) (Zbl (C:=C1) (L:=[]) (Zbl (C:=C1) (L:=[]) (Zjw (C:=C1) (L:=[]) hn3 hT3 (y1 ZBZ hc901 0 (h:=xNc (h:=xW Za5 (h:=y1 ZgE hc900 2 (h:=xV Tryz.underlying36 (h:=xM (h:=?_))))))))))
 intro T4 hn4 hT4
 refine ZoT (C:=C1) (L:=[]) (Zxv (nt:=30) (fun j=>[(1,ptr ⟨b1,0,none⟩),(3,ptr ⟨b2,0,none⟩),(4,ptr ⟨Wg,0,none⟩),(16,.slice q2 x.folders.length c2),(17,.int .i64 x.folders.length),(18,.int .i64 ((j:Nat):Int))]) (fun j hj B3 T5 hle3 hn5 hT5 hnext=>?_) hn4 (hT4.sub' t6))
 replace hc900:=hc900.mono hle3
 obtain ⟨hu,hf⟩:=up2 hle3 hu hf
 replace hc901:=hc901.mono hle3
 replace hc903:=hc903.mono hle3
 replace hA:=fun v B' Ls' h=>hA v B' Ls' (hle3.trans h)
 let C2:Cx (.lone Tryz.prog):=⟨phL Tryz.prog 262 Wg Cb x.folders.length (ZtF x) X.R .a5 (j),fb 139 kind,c :: cs,F,hke⟩
 refine Zbl (C:=C2) (L:=[]) (Zjw (C:=C2) (L:=[]) hn5 hT5 (ZC (h:=?_)))
 intro T6 hn6 hT6
 refine Zbl (C:=C2) (L:=[]) ?_
 rcases Nat.lt_or_ge j x.folders.length with hlt | hge
 refine Zg3 (C:=C2) (L:=[]) (t:=true) (by exact congrArg (fun t=>some (Value.bool t)) (decide_eq_true oz)) hT6 ?_
 refine Ztc (C:=C2) (L:=[]) (Zbl (C:=C2) (L:=[]) (ZoT (C:=C2) (L:=[]) (Zbl (C:=C2) (L:=[]) (Zjw (C:=C2) (L:=[]) hn6 hT6 (xM (h:=?_))))))
 obtain ⟨m,hm⟩:=ZM (xs:=x.folders) (i:=j) om
 obtain ⟨bb4,oo4,rfl⟩:=hf.base hm
 obtain ⟨_,⟨qg5,cg5,qm5,cm5,rfl,hg5,hm5,hb5,hb5b⟩,hc5⟩:=hf.elem hm
 have hg5n:=hg5.len
 have hm5n:=hm5.len
 have hm5s:=ZaN hm5
 refine xIx Tryz.underlying36 ZeO (h:=yL [_,_,_,_,_] Zj5 hc5 0 (h:=xAl [_] zo3 (h:=fun b6=>xAl [_,_,_,_,_] Zqk (h:=fun b7=>xS [_] 0 [_] sz3 (h:=xS [_,_,_,_,_] 1 [_,_,_,_,_] ZeO (h:=?_))))))
 intro T7 hn7 hT7
 refine Zmg (C:=C2) rfl 0 rfl fun B4 hle4 hpm4=>?_
 have hc905:=ZbA hpm4
 refine Zmg (C:=C2) rfl 1 rfl fun B5 hle5 hpm5=>?_
 have hc906:=ZbA hpm5
 replace hc905:=hc905.mono hle5
 replace hc900:=hc900.mono (hle4.trans hle5)
 replace hu:=hu.mono ZL.mono (hle4.trans hle5)
 replace hc901:=hc901.mono (hle4.trans hle5)
 replace hc903:=hc903.mono (hle4.trans hle5)
 replace hg5:=hg5.mono Zaf.mono (hle4.trans hle5)
 replace hm5:=hm5.mono Zah.mono (hle4.trans hle5)
 refine Zbl (C:=C2) (L:=[[],[]]) (ZaD (C:=C2) (L:=[[],[]]) (ZzH (Lk:=wgL) (i:=0) (todo:=[]) ZmI hlt rfl ZDq rfl rfl hT7 hke ?_))
 let C3:Cx (.lone Tryz.prog):=⟨phL Tryz.prog 262 Wg Cb x.folders.length (ZtF x) X.R .a2 (j),fb 139 kind,c :: cs,F,hke⟩
 have hT8:=hT7.putT (n:=30) (dst:=(some 23)) hn7 rfl (.tuple #[])
 have hn8:(putT T7 (some 23) (.tuple #[])).size=30:=by rw [Zao,hn7]
 refine ZY (C:=C3) (L:=[]) (ZaD (C:=C3) (L:=[]) (Zch (C:=C3) (L:=[]) (i:=0) (todo:=[1]) rfl hn8 hT8 (Zh (Zdj (xs:=[]) (ys:=[.tmp 4,.tmp 1,.tmp 6,.tmp 3,.tmp 5]) rfl rfl rfl rfl ?_))))
 intro T9 hn9 hT9
 refine ZBV (i:=1) (todo:=[]) rfl rfl hT9 hke Tryz.func177 rfl rfl (by rw [Zoa hm];exact Zkm Wg Cb x.folders.length j b o b1 b2 b6 b7 _ _ _ _ _ _ x m _ _ _ _ hlt B5 hc900 hu hc901 hc903 hc905 hc906 hg5 hm5 hb5 hb5b) ?_
 let C4:Cx (.lone Tryz.prog):=⟨phL Tryz.prog 262 Wg Cb x.folders.length (ZtF x) X.R .a5 (j+1),fb 139 kind,c :: cs,F,hke⟩
 refine ZY (C:=C4) (L:=[]) (Zp9 (C:=C4) (L:=[]) ?_)
 have hn10:=hn9
 have hT10:=hT9
 refine Zjw (C:=C4) (L:=[]) hn10 hT10 (xD (h:=xM (h:=?_)))
 intro T11 hn11 hT11
 exact hnext hlt _ _ (hle4.trans hle5) hn11 (hT11.sub' t6)
 obtain rfl:j=x.folders.length:=by omega
 refine Zg3 (C:=C2) (L:=[]) (t:=false) (by exact congrArg (fun t=>some (Value.bool t)) (decide_eq_false oz)) hT6 ?_
 refine ZyI (C:=C2) (L:=[]) (by rfl) ?_
 refine Zbl (C:=C2) (L:=[]) (ZaD (C:=C2) (L:=[]) (Zxu (Lk:=wgL) (X:=X) (i:=0) (todo:=[]) ZmI oz rfl ZDo rfl hT6 hke (fun _ _ _ h=>h) ?_))
 have hT7:=hT6.putT (n:=30) (dst:=(some 26)) hn6 rfl (.tuple #[])
 have hn7:(putT T6 (some 26) (.tuple #[])).size=30:=by rw [Zao,hn6]
 refine ZY (C:=C0) (L:=[[(Cb,Obj.cells ((List.range x.folders.length).map (ZtF x)).toArray 4 (0,0))]]) (Zmg (C:=C0) (L:=[[(Cb,Obj.cells ((List.range x.folders.length).map (ZtF x)).toArray 4 (0,0))]]) rfl 0 rfl fun B4 hle4 hm4=>?_)
 have hvb:=ZqN hm4 hfn
 replace hc903:=hc903.mono hle4
 replace hA:=fun v B' Ls' h=>hA v B' Ls' (hle4.trans h)
 refine Zys Tryz.func139 rfl hk hke hn7 hT7 hA ?_
 rw [show (x.folders.length:Nat)=(x.folders.map (ZaP x.users)).length from (List.length_map ..).symm] at hc903
 refine Za (y1 Zz0 hc903 0 (h:=xR ZDn rfl (ZnN _ _ _ _ _ hvb) (h:=xN (h:=xA (h:=tL1 (Zf ?_))))))
 exact eR t1 ⟨rfl,congrArg Value.bool ZkM⟩

theorem ZnA (hJ:Joins Tryz.prog J) (q1 q2 q3:Option Addr) (c1 c2 c3:Nat) (x:DHost) (hd:x.domain.length≤2000000) (B:Kn) (hu:SlK B q1 c1 3 ZL x.users) (hf:SlK B q2 c2 5 ZF x.folders) (hi:SlK B q3 c3 4 Zar x.queue.items):Zu (pj J) 92 [.agg #[str x.domain,.slice q1 x.users.length c1,.slice q2 x.folders.length c2,.int .i64 x.queue.next,.slice q3 x.queue.items.length c3]] B [] (fun v B' Ls=>Ls=[]∧v = .bool (ZaB x)):=by
 refine cB 63 Tryz.func92 (h:=?_)
 rw [← ZpV]
 have hfn:=hf.len
 have hun:=hu.len
 have hin:=hi.len
 refine Za (xBx [_,_,_,_,_] (h:=fun b1=>xA (h:=tL1 (ZqB 0 rfl (fun B2 hle2 hpm2=>?_)))))
 have hc2:=ZbA hpm2
 obtain ⟨hu,hf,hi⟩:=up3 hle2 hu hf hi
 refine Ze (Za (xW Zjo (h:=y1 lk9 hc2 0 (h:=xR ZDW rfl (Zl0 _ om2 _) (h:=?_)))))
 refine xN (h:=xM (h:=Zq (d:=10) rfl (fun g1=>?_) (fun g1=>?_)))
 try simp only [sQ,ne_eq] at g1
 refine xP (h:=xP (h:=xP (h:=xP (h:=xT (h:=xM (h:=xP (h:=xP (h:=xP (h:=xP (h:=xT (h:=xM (h:=xP (h:=xP (h:=xP (h:=xP (h:=xT (h:=tL1 (Zb (t:=true) rfl (fun _=>Za (xA (h:=Zf (Zj ?_)))) (fun h=>Bool.noConfusion h)))))))))))))))))))
 exact eR t1 ⟨rfl,Zc (by simp [Zdu,g1])⟩
 try simp only [sQ,ne_eq] at g1
 refine xW Zcz (h:=y1 ZlN hc2 1 (h:=xR ZAE rfl (Zif _ _ _ _ hu) (h:=xN (h:=xF (h:=xM (h:=Zq (d:=16) rfl (fun g2=>?_) (fun g2=>?_)))))))
 try simp only [sQ,ne_eq] at g2
 refine xP (h:=xP (h:=xP (h:=xP (h:=xT (h:=xM (h:=xP (h:=xP (h:=xP (h:=xP (h:=xT (h:=tL1 (Zb (t:=true) rfl (fun _=>Za (xA (h:=Zf (Zj ?_)))) (fun h=>Bool.noConfusion h)))))))))))))
 exact eR t1 ⟨rfl,Zc (by simp [Zdu,g1,g2])⟩
 try simp only [sQ,ne_eq] at g2
 refine xW ZfC (h:=yL [_,_] Zqn hc2 3 (h:=xR ZDV rfl (Znx _ _ x.queue _ hi) (h:=xN (h:=xF (h:=xM (h:=Zq (d:=22) rfl (fun g3=>?_) (fun g3=>?_)))))))
 try simp only [sQ,ne_eq] at g3
 refine xP (h:=xP (h:=xP (h:=xP (h:=xT (h:=tL1 (Zb (t:=true) rfl (fun _=>Za (xA (h:=Zf (Zj ?_)))) (fun h=>Bool.noConfusion h)))))))
 exact eR t1 ⟨rfl,Zc (by simp [Zdu,g1,g2,g3])⟩
 try simp only [sQ,ne_eq] at g3
 refine xW Za5 (h:=y1 ZgE hc2 2 (h:=xV Tryz.underlying36 (h:=Zc8 (h:=xF (h:=tL1 (Zb rfl (fun g4=>?_) (fun g4=>?_)))))))
 try simp only [sQ,ne_eq] at g4
 refine Za (xA (h:=Zf (Zj ?_)))
 exact eR t1 ⟨rfl,Zc (by simp [Zdu];intros;omega)⟩
 try simp only [sQ,ne_eq] at g4
 refine wSk (Ze (Za (xW Za5 (h:=y1 ZgE hc2 2 (h:=xW Za5 (h:=y1 ZgE hc2 2 (h:=xV Tryz.underlying36 (h:=xU (h:=Zh (ZBm (m:=(x.folders.length - 1)) rfl rfl rfl rfl om ?_))))))))))
 have hsl:((x.folders.take (x.folders.length - 1)).drop 0).length=x.folders.length - 1:=by simp
 obtain ⟨hq6,q6,cp6,hv6,hr6⟩:=hf.cutE 0 (x.folders.length - 1) om om
 have hr6n:=hr6.len
 refine Zh (Zn7 (a:=0) (b:=(x.folders.length - 1)) hv6 om hq6 rfl rfl Tryz.underlying36 ZeO rfl rfl ⟨_,_,rfl,by first | omega | (simp;done) | (simp;omega)⟩ ?_)
 refine xV Tryz.underlying36 (h:=xM (h:=Zg (Zv (α:=Nat) [0,1,27,35,36] (fun k=>[(37,.int .i64 k)]) [] (fun k=>[]) (fun k Bx=>Bx=B2∧k≤x.folders.length - 1∧Zv4 x.folders k) (fun k=>x.folders.length - k) 0 t1 rfl (⟨rfl,Nat.zero_le _,Zps⟩) (fun k B7 hle7 hI=>?_))))
 obtain ⟨rfl,hk,hord⟩:=hI
 refine Zz [(0,_),(1,_),(27,_),(35,_),(36,_),(37,_)] [_] t6 rfl (Za (ZC (h:=Ze (Zb rfl (fun g5=>?_) (fun g5=>?_)))))
 try simp only [sQ,ne_eq] at g5
 refine wSk (Ze (Zg (Za (xM (h:=?_)))))
 obtain ⟨fa,hfa⟩:=ZM (xs:=((x.folders.take (x.folders.length - 1)).drop 0)) (i:=k) om
 obtain ⟨bb9,oo9,rfl⟩:=hr6.base hfa
 obtain ⟨_,⟨qg10,cg10,qm10,cm10,rfl,hg10,hm10,hb10,hb10b⟩,hc10⟩:=hr6.elem hfa
 have hg10n:=hg10.len
 have hm10n:=hm10.len
 have hm10s:=ZaN hm10
 refine xIx Tryz.underlying36 ZeO (h:=?_)
 have hfa0:x.folders[k]? = some fa:=by rw [List.drop_zero,List.getElem?_take] at hfa;split at hfa <;> simp_all
 refine yL [_,_,_,_,_] Zj5 hc10 0 (h:=xAl [_,_,_,_,_] Zqk (h:=fun b11=>xA (h:=xS [_,_,_,_,_] 1 [_,_,_,_,_] ZeO (h:=tL2 (Za (xW Za5 (h:=y1 ZgE hc2 2 (h:=xM (h:=xD (h:=?_))))))))))
 obtain ⟨fb,hfb⟩:=ZM (xs:=x.folders) (i:=(k+1)) om
 obtain ⟨bb13,oo13,rfl⟩:=hf.base hfb
 obtain ⟨_,⟨qg14,cg14,qm14,cm14,rfl,hg14,hm14,hb14,hb14b⟩,hc14⟩:=hf.elem hfb
 have hg14n:=hg14.len
 have hm14n:=hm14.len
 have hm14s:=ZaN hm14
 refine xIx Tryz.underlying36 ZeO (h:=yL [_,_,_,_,_] Zj5 hc14 0 (h:=xAl [_,_,_,_,_] Zqk (h:=fun b15=>xS [_,_,_,_,_] 2 [_,_,_,_,_] ZeO (h:=tL3 (Za (xL [_,_,_,_,_] Zj5 1 (h:=xW Zcy (h:=x1 lk9 2 (h:=xW ZeJ (h:=x1 lk9 2 (h:=xR ZDU rfl (ZnD fa _ _ _ _ fb.owner fb.name _) (h:=Zc9 (h:=Zb rfl (fun g6=>?_) (fun g6=>?_))))))))))))))
 try simp only [sQ,ne_eq] at g6
 refine Za (xA (h:=Zf (Zt (Zj (ZJ (Zt (Zj ?_)))))))
 exact eR t1 ⟨rfl,Zc (by simp [Zdu,ZuG hfa0 hfb ((Zmi fa fb).1 g6)])⟩
 try simp only [sQ,ne_eq] at g6
 refine ZK (ZD (Zm (Zd (xD (h:=xM (h:=?_))))))
 exact Zx (k+1) [0] so2 ⟨rfl,oz,Zpt hord hfa0 hfb (by rw [← Bool.not_eq_false,← Zmi];omega)⟩ t6 rfl
 try simp only [sQ,ne_eq] at g5
 have ho:=ZuF (fs:=x.folders) (fun i a b h=>hord i a b oz)
 refine ZA (ZQ (ZB (Zs (Zm (Za (xQ ZDT rfl (ZiR hJ _ _ _ _ _ _ _ _ x _ hc2 hu hf) (h:=?_)))))))
 intro v17 B17 hle17
 rintro rfl
 obtain ⟨hu,hf,hi⟩:=up3 hle17 hu hf hi
 replace hc2:=hc2.mono hle17
 refine xM (h:=Zq (d:=57) rfl (fun g7=>?_) (fun g7=>?_))
 try simp only [sQ,ne_eq] at g7
 refine xR ZDS rfl (Zo6 _ _ _ _ _ _ _ _ x _ hc2 hu hf) (h:=xT (h:=xM (h:=Zq (d:=60) rfl (fun g8=>?_) (fun g8=>?_))))
 try simp only [sQ,ne_eq] at g8
 refine xR ZDR rfl (Zna _ _ _ _ _ _ _ _ x _ hc2 hu hi) (h:=xT (h:=xA (h:=Zf ?_)))
 exact eR t1 ⟨rfl,Zc (by simp [Zdu,g1,g2,g3,ho,g7,g8];try omega)⟩
 try simp only [sQ,ne_eq] at g8
 refine xP (h:=xF (h:=xA (h:=Zf ?_)))
 exact eR t1 ⟨rfl,Zc (by simp [Zdu,g1,g2,g3,ho,g7,g8];try omega)⟩
 try simp only [sQ,ne_eq] at g7
 refine xP (h:=xF (h:=xM (h:=xP (h:=xF (h:=xA (h:=Zf ?_))))))
 exact eR t1 ⟨rfl,Zc (by simp [Zdu,g7])⟩

theorem Zug (x:DUser) (h1:x.name.length≤140737488355328) (h2:x.pass.length≤140737488355328) (left:Int) (hl0:0≤left) (hl1:left≤1048576) (B:Kn)  : Z1 (pj J) 67 [.agg #[str x.name,str x.pass,.int .i64 x.quota],.int .i64 left] B (.int .i64 (szI left (Zdo x))):=by
 refine cB 20 Tryz.func67 (h:=?_)
 refine Za (xBx [_,_,_] (h:=fun b1=>xA (h:=tL1 (Za (xM (h:=xW ZsL (h:=x1 lk9 0 (h:=xVs Tryz.underlying9 (h:=xU (h:=xA (h:=Ze (Za (xM (h:=ZC (h:=Zb rfl (fun g1=>?_) (fun g1=>?_))))))))))))))))
 try simp only [sQ,ne_eq] at g1
 refine Za (xA (h:=Zf (Zj ?_)))
 exact eR t1 ⟨ZH (by first | (unfold szI Zdo;split <;> omega)),rfl,rfl⟩
 try simp only [sQ,ne_eq] at g1
 refine wSk (Za (xM (h:=xW ZsK (h:=x1 lk9 0 (h:=xVs Tryz.underlying9 (h:=xU (h:=xA (h:=Ze (Za (xM (h:=ZC (h:=Zb rfl (fun g2=>?_) (fun g2=>?_)))))))))))))
 try simp only [sQ,ne_eq] at g2
 refine Za (xA (h:=Zf (Zj ?_)))
 exact eR t1 ⟨ZH (by first | (unfold szI Zdo;split <;> omega)),rfl,rfl⟩
 try simp only [sQ,ne_eq] at g2
 refine wSk (Za (xM (h:=xA (h:=Zf ?_))))
 exact eR t1 ⟨ZH (by first | (unfold szI Zdo;split <;> omega)),rfl,rfl⟩

theorem Zq5 (x:DGrant) (h1:x.user.length≤140737488355328) (left:Int) (hl0:0≤left) (hl1:left≤1048576) (B:Kn)  : Z1 (pj J) 162 [.agg #[str x.user,.int .i64 x.rights],.int .i64 left] B (.int .i64 (szI left (ZcA x))):=by
 refine cB 13 Tryz.func162 (h:=?_)
 refine Za (xBx [_,_] (h:=fun b1=>xA (h:=tL1 (Za (xM (h:=xW Zsv (h:=x1 lk9 0 (h:=xVs Tryz.underlying9 (h:=xU (h:=xA (h:=Ze (Za (xM (h:=ZC (h:=Zb rfl (fun g1=>?_) (fun g1=>?_))))))))))))))))
 try simp only [sQ,ne_eq] at g1
 refine Za (xA (h:=Zf (Zj ?_)))
 exact eR t1 ⟨ZH (by first | (unfold szI ZcA;split <;> omega)),rfl,rfl⟩
 try simp only [sQ,ne_eq] at g1
 refine wSk (Za (xM (h:=xA (h:=Zf ?_))))
 exact eR t1 ⟨ZH (by first | (unfold szI ZcA;split <;> omega)),rfl,rfl⟩

theorem Zui (x:DMail) (h1:x.text.length≤140737488355328) (left:Int) (hl0:0≤left) (hl1:left≤1048576) (B:Kn)  : Z1 (pj J) 204 [.agg #[.int .i64 x.uid,.int .i64 x.flags,str x.text],.int .i64 left] B (.int .i64 (szI left (ZdI x))):=by
 refine cB 13 Tryz.func204 (h:=?_)
 refine Za (xBx [_,_,_] (h:=fun b1=>xA (h:=tL1 (Za (xM (h:=xW Zsu (h:=x1 lk9 0 (h:=xVs Tryz.underlying9 (h:=xU (h:=xA (h:=Ze (Za (xM (h:=ZC (h:=Zb rfl (fun g1=>?_) (fun g1=>?_))))))))))))))))
 try simp only [sQ,ne_eq] at g1
 refine Za (xA (h:=Zf (Zj ?_)))
 exact eR t1 ⟨ZH (by first | (unfold szI ZdI;split <;> omega)),rfl,rfl⟩
 try simp only [sQ,ne_eq] at g1
 refine wSk (Za (xM (h:=xA (h:=Zf ?_))))
 exact eR t1 ⟨ZH (by first | (unfold szI ZdI;split <;> omega)),rfl,rfl⟩

theorem Zuh (q:Option Addr) (cp:Nat) (xs:List Str) (left:Int) (hl0:0≤left) (hl1:left≤1048576) (B:Kn) (hx:SlB B q cp 1 ZiJ xs):Z1 (pj J) 164 [.slice q xs.length cp,.int .i64 left] B (.int .i64 (szI left (szL List.length xs))):=by
 refine cB 28 Tryz.func164 (h:=?_)
 have hxn:=hx.len
 refine Za (xA (h:=Za (xM (h:=xM (h:=xV Tryz.underlying134 (h:=xU (h:=xA (h:=Ze (Za (xM (h:=ZC (h:=Zb rfl (fun g1=>?_) (fun g1=>?_)))))))))))))
 try simp only [sQ,ne_eq] at g1
 refine Za (xA (h:=Zf (Zj ?_)))
 exact eR t1 ⟨ZH (ZfO oz).symm,rfl,rfl⟩
 try simp only [sQ,ne_eq] at g1
 refine ZK ?_
 refine Zm ?_
 refine Ze ?_
 refine Za ?_
 refine Zh (ZbF rfl rfl rfl ?_)
 refine Zg ?_
 refine Zv (α:=Nat × Int) [0,11] (fun g=>[(1,.int .i64 g.2),(5,.int .i64 g.1)]) [] (fun g=>[]) (fun g Bx=>Bx=B∧g.1≤xs.length∧g.2=left - xs.length - ((xs.take g.1).map List.length).sum∧0≤g.2) (fun g=>xs.length - g.1) (0,left - ↑xs.length) ⟨rfl,rfl,trivial⟩ rfl (⟨rfl,Nat.zero_le _,by simp,g1⟩) (fun g B1 hle1 hI=>?_)
 obtain ⟨rfl,hk,hs,hl⟩:=hI
 refine Zz [(0,_),(1,_),(5,_),(11,_)] [] t4 rfl (Ze (Za (xM (h:=xM (h:=xV Tryz.underlying134 (h:=ZC (h:=Zb rfl (fun g2=>?_) (fun g2=>?_))))))))
 try simp only [sQ,ne_eq] at g2
 refine wSk (Ze (Zg (Za (xM (h:=xM (h:=xM (h:=?_)))))))
 obtain ⟨z,hz⟩:=ZM (xs:=xs) (i:=g.1) om
 obtain ⟨bb3,oo3,rfl⟩:=hx.base hz
 obtain ⟨_,⟨rfl,hb4⟩,hc4⟩:=hx.elem hz
 refine xIx Tryz.underlying134 sz9 (h:=y1 lk9 hc4 0 (h:=xVs Tryz.underlying9 (h:=xU (h:=xA (h:=Za (xM (h:=ZC (h:=Zb rfl (fun g3=>?_) (fun g3=>?_)))))))))
 try simp only [sQ,ne_eq] at g3
 refine Za (xA (h:=Zf (Zt (Zj (ZJ (Zt (Zj ?_)))))))
 exact eR t1 ⟨ZH (ZfM hz hs oz).symm,rfl,rfl⟩
 try simp only [sQ,ne_eq] at g3
 refine ZK (ZD (Zm (Zd (xM (h:=xD (h:=xA (h:=?_)))))))
 exact Zx (g.1+1,g.2 - z.length) [] so2 ⟨rfl,so,by rw [ZdJ _ hz,hs];omega,g3⟩ t4 rfl
 try simp only [sQ,ne_eq] at g2
 refine ZA (ZQ (ZB (Zs (Zm (Za (xM (h:=xA (h:=Zf ?_))))))))
 exact eR t1 ⟨ZH (ZfN hs hl oz).symm,rfl,rfl⟩

theorem ZqZ (q:Option Addr) (cp:Nat) (xs:List DUser) (left:Int) (hl0:0≤left) (hl1:left≤1048576) (B:Kn) (hx:SlB B q cp 3 ZmB xs):Z1 (pj J) 27 [.slice q xs.length cp,.int .i64 left] B (.int .i64 (szI left (szL Zdo xs))):=by
 refine cB 27 Tryz.func27 (h:=?_)
 have hxn:=hx.len
 refine Za (xA (h:=Za (xM (h:=xM (h:=xV Tryz.underlying22 (h:=xU (h:=xA (h:=Ze (Za (xM (h:=ZC (h:=Zb rfl (fun g1=>?_) (fun g1=>?_)))))))))))))
 try simp only [sQ,ne_eq] at g1
 refine Za (xA (h:=Zf (Zj ?_)))
 exact eR t1 ⟨ZH (ZfO oz).symm,rfl,rfl⟩
 try simp only [sQ,ne_eq] at g1
 refine ZK ?_
 refine Zm ?_
 refine Ze ?_
 refine Za ?_
 refine Zh (ZbF rfl rfl rfl ?_)
 refine Zg ?_
 refine Zv (α:=Nat × Int) [0,11] (fun g=>[(1,.int .i64 g.2),(5,.int .i64 g.1)]) [] (fun g=>[]) (fun g Bx=>Bx=B∧g.1≤xs.length∧g.2=left - xs.length - ((xs.take g.1).map Zdo).sum∧0≤g.2) (fun g=>xs.length - g.1) (0,left - ↑xs.length) ⟨rfl,rfl,trivial⟩ rfl (⟨rfl,Nat.zero_le _,by simp,g1⟩) (fun g B1 hle1 hI=>?_)
 obtain ⟨rfl,hk,hs,hl⟩:=hI
 refine Zz [(0,_),(1,_),(5,_),(11,_)] [] t4 rfl (Ze (Za (xM (h:=xM (h:=xV Tryz.underlying22 (h:=ZC (h:=Zb rfl (fun g2=>?_) (fun g2=>?_))))))))
 try simp only [sQ,ne_eq] at g2
 refine wSk (Ze (Zg (Za (xM (h:=xM (h:=?_))))))
 obtain ⟨z,hz⟩:=ZM (xs:=xs) (i:=g.1) om
 obtain ⟨bb3,oo3,rfl⟩:=hx.base hz
 obtain ⟨_,⟨rfl,hb4,hb4b⟩,hc4⟩:=hx.elem hz
 refine xIx Tryz.underlying22 ZzA (h:=yL [_,_,_] Zz5 hc4 0 (h:=xM (h:=xR ZFu rfl (Zug z om om g.2 om om _) (h:=?_))))
 refine xA (h:=Za (xM (h:=ZC (h:=Zb rfl (fun g3=>?_) (fun g3=>?_)))))
 try simp only [sQ,ne_eq] at g3
 refine Za (xA (h:=Zf (Zt (Zj (ZJ (Zt (Zj ?_)))))))
 exact eR t1 ⟨ZH (ZfM hz hs ((ZbN hl).1 g3)).symm,rfl,rfl⟩
 try simp only [sQ,ne_eq] at g3
 refine ZK (ZD (Zm (Zd (xM (h:=xD (h:=xA (h:=?_)))))))
 exact Zx (g.1+1,szI g.2 (Zdo z)) [] so2 ⟨rfl,so,by have:=(Zby hl g3).1;rw [ZdJ _ hz];simp only [];omega,g3⟩ t4 rfl
 try simp only [sQ,ne_eq] at g2
 refine ZA (ZQ (ZB (Zs (Zm (Za (xM (h:=xA (h:=Zf ?_))))))))
 exact eR t1 ⟨ZH (ZfN hs hl oz).symm,rfl,rfl⟩

theorem Zpa (q:Option Addr) (cp:Nat) (xs:List DGrant) (left:Int) (hl0:0≤left) (hl1:left≤1048576) (B:Kn) (hx:SlB B q cp 2 ZiM xs):Z1 (pj J) 116 [.slice q xs.length cp,.int .i64 left] B (.int .i64 (szI left (szL ZcA xs))):=by
 refine cB 27 Tryz.func116 (h:=?_)
 have hxn:=hx.len
 refine Za (xA (h:=Za (xM (h:=xM (h:=xV Tryz.underlying121 (h:=xU (h:=xA (h:=Ze (Za (xM (h:=ZC (h:=Zb rfl (fun g1=>?_) (fun g1=>?_)))))))))))))
 try simp only [sQ,ne_eq] at g1
 refine Za (xA (h:=Zf (Zj ?_)))
 exact eR t1 ⟨ZH (ZfO oz).symm,rfl,rfl⟩
 try simp only [sQ,ne_eq] at g1
 refine ZK ?_
 refine Zm ?_
 refine Ze ?_
 refine Za ?_
 refine Zh (ZbF rfl rfl rfl ?_)
 refine Zg ?_
 refine Zv (α:=Nat × Int) [0,11] (fun g=>[(1,.int .i64 g.2),(5,.int .i64 g.1)]) [] (fun g=>[]) (fun g Bx=>Bx=B∧g.1≤xs.length∧g.2=left - xs.length - ((xs.take g.1).map ZcA).sum∧0≤g.2) (fun g=>xs.length - g.1) (0,left - ↑xs.length) ⟨rfl,rfl,trivial⟩ rfl (⟨rfl,Nat.zero_le _,by simp,g1⟩) (fun g B1 hle1 hI=>?_)
 obtain ⟨rfl,hk,hs,hl⟩:=hI
 refine Zz [(0,_),(1,_),(5,_),(11,_)] [] t4 rfl (Ze (Za (xM (h:=xM (h:=xV Tryz.underlying121 (h:=ZC (h:=Zb rfl (fun g2=>?_) (fun g2=>?_))))))))
 try simp only [sQ,ne_eq] at g2
 refine wSk (Ze (Zg (Za (xM (h:=xM (h:=?_))))))
 obtain ⟨z,hz⟩:=ZM (xs:=xs) (i:=g.1) om
 obtain ⟨bb3,oo3,rfl⟩:=hx.base hz
 obtain ⟨_,⟨rfl,hb4⟩,hc4⟩:=hx.elem hz
 refine xIx Tryz.underlying121 Zzw (h:=yL [_,_] ZzY hc4 0 (h:=xM (h:=xR ZDC rfl (Zq5 z om g.2 om om _) (h:=?_))))
 refine xA (h:=Za (xM (h:=ZC (h:=Zb rfl (fun g3=>?_) (fun g3=>?_)))))
 try simp only [sQ,ne_eq] at g3
 refine Za (xA (h:=Zf (Zt (Zj (ZJ (Zt (Zj ?_)))))))
 exact eR t1 ⟨ZH (ZfM hz hs ((ZbN hl).1 g3)).symm,rfl,rfl⟩
 try simp only [sQ,ne_eq] at g3
 refine ZK (ZD (Zm (Zd (xM (h:=xD (h:=xA (h:=?_)))))))
 exact Zx (g.1+1,szI g.2 (ZcA z)) [] so2 ⟨rfl,so,by have:=(Zby hl g3).1;rw [ZdJ _ hz];simp only [];omega,g3⟩ t4 rfl
 try simp only [sQ,ne_eq] at g2
 refine ZA (ZQ (ZB (Zs (Zm (Za (xM (h:=xA (h:=Zf ?_))))))))
 exact eR t1 ⟨ZH (ZfN hs hl oz).symm,rfl,rfl⟩

theorem Zq2 (q:Option Addr) (cp:Nat) (xs:List DMail) (left:Int) (hl0:0≤left) (hl1:left≤1048576) (B:Kn) (hx:SlB B q cp 3 ZiV xs):Z1 (pj J) 163 [.slice q xs.length cp,.int .i64 left] B (.int .i64 (szI left (szL ZdI xs))):=by
 refine cB 27 Tryz.func163 (h:=?_)
 have hxn:=hx.len
 refine Za (xA (h:=Za (xM (h:=xM (h:=xV Tryz.underlying122 (h:=xU (h:=xA (h:=Ze (Za (xM (h:=ZC (h:=Zb rfl (fun g1=>?_) (fun g1=>?_)))))))))))))
 try simp only [sQ,ne_eq] at g1
 refine Za (xA (h:=Zf (Zj ?_)))
 exact eR t1 ⟨ZH (ZfO oz).symm,rfl,rfl⟩
 try simp only [sQ,ne_eq] at g1
 refine ZK ?_
 refine Zm ?_
 refine Ze ?_
 refine Za ?_
 refine Zh (ZbF rfl rfl rfl ?_)
 refine Zg ?_
 refine Zv (α:=Nat × Int) [0,11] (fun g=>[(1,.int .i64 g.2),(5,.int .i64 g.1)]) [] (fun g=>[]) (fun g Bx=>Bx=B∧g.1≤xs.length∧g.2=left - xs.length - ((xs.take g.1).map ZdI).sum∧0≤g.2) (fun g=>xs.length - g.1) (0,left - ↑xs.length) ⟨rfl,rfl,trivial⟩ rfl (⟨rfl,Nat.zero_le _,by simp,g1⟩) (fun g B1 hle1 hI=>?_)
 obtain ⟨rfl,hk,hs,hl⟩:=hI
 refine Zz [(0,_),(1,_),(5,_),(11,_)] [] t4 rfl (Ze (Za (xM (h:=xM (h:=xV Tryz.underlying122 (h:=ZC (h:=Zb rfl (fun g2=>?_) (fun g2=>?_))))))))
 try simp only [sQ,ne_eq] at g2
 refine wSk (Ze (Zg (Za (xM (h:=xM (h:=?_))))))
 obtain ⟨z,hz⟩:=ZM (xs:=xs) (i:=g.1) om
 obtain ⟨bb3,oo3,rfl⟩:=hx.base hz
 obtain ⟨_,⟨rfl,hb4⟩,hc4⟩:=hx.elem hz
 refine xIx Tryz.underlying122 Zzu (h:=yL [_,_,_] ZzX hc4 0 (h:=xM (h:=xR ZC7 rfl (Zui z om g.2 om om _) (h:=?_))))
 refine xA (h:=Za (xM (h:=ZC (h:=Zb rfl (fun g3=>?_) (fun g3=>?_)))))
 try simp only [sQ,ne_eq] at g3
 refine Za (xA (h:=Zf (Zt (Zj (ZJ (Zt (Zj ?_)))))))
 exact eR t1 ⟨ZH (ZfM hz hs ((ZbN hl).1 g3)).symm,rfl,rfl⟩
 try simp only [sQ,ne_eq] at g3
 refine ZK (ZD (Zm (Zd (xM (h:=xD (h:=xA (h:=?_)))))))
 exact Zx (g.1+1,szI g.2 (ZdI z)) [] so2 ⟨rfl,so,by have:=(Zby hl g3).1;rw [ZdJ _ hz];simp only [];omega,g3⟩ t4 rfl
 try simp only [sQ,ne_eq] at g2
 refine ZA (ZQ (ZB (Zs (Zm (Za (xM (h:=xA (h:=Zf ?_))))))))
 exact eR t1 ⟨ZH (ZfN hs hl oz).symm,rfl,rfl⟩

theorem Zuk (q:Option Addr) (cp:Nat) (x:DItem) (h1:x.fr.length≤140737488355328) (h2:x.text.length≤140737488355328) (left:Int) (hl0:0≤left) (hl1:left≤1048576) (B:Kn) (hx:SlB B q cp 1 ZiJ x.left):Z1 (pj J) 118 [.agg #[.int .i64 x.id,str x.fr,str x.text,.slice q x.left.length cp],.int .i64 left] B (.int .i64 (szI left (ZbQ x))):=by
 refine cB 26 Tryz.func118 (h:=?_)
 have hxn:=hx.len
 refine Za (xBx [_,_,_,_] (h:=fun b1=>xA (h:=tL1 (Za (xM (h:=xW ZsA (h:=x1 lk9 0 (h:=xVs Tryz.underlying9 (h:=xU (h:=xA (h:=Ze (Za (xM (h:=ZC (h:=Zb rfl (fun g1=>?_) (fun g1=>?_))))))))))))))))
 try simp only [sQ,ne_eq] at g1
 refine Za (xA (h:=Zf (Zj ?_)))
 exact eR t1 ⟨ZH (by rw [Zbn (by unfold ZbQ;omega)]),rfl,rfl⟩
 try simp only [sQ,ne_eq] at g1
 refine wSk (Za (xM (h:=xW Zsz (h:=x1 lk9 0 (h:=xVs Tryz.underlying9 (h:=xU (h:=xA (h:=Ze (Za (xM (h:=ZC (h:=Zb rfl (fun g2=>?_) (fun g2=>?_)))))))))))))
 try simp only [sQ,ne_eq] at g2
 refine Za (xA (h:=Zf (Zj ?_)))
 exact eR t1 ⟨ZH (by rw [Zbn (by unfold ZbQ;omega)]),rfl,rfl⟩
 try simp only [sQ,ne_eq] at g2
 refine wSk (Za (xW Zsy (h:=x1 ZgU 0 (h:=xM (h:=?_)))))
 have hq2:=Zuh (J:=J) _ _ x.left ((left - ↑x.fr.length) - ↑x.text.length) om om _ hx
 refine xR ZDA rfl hq2 (h:=xA (h:=Ze (Za (xM (h:=ZC (h:=Zb rfl (fun g3=>?_) (fun g3=>?_)))))))
 try simp only [sQ,ne_eq] at g3
 have g3x:=(ZbN oz).1 g3
 refine Za (xA (h:=Zf (Zj ?_)))
 exact eR t1 ⟨ZH (by rw [Zbn (by unfold ZbQ Zfy;omega)]),rfl,rfl⟩
 try simp only [sQ,ne_eq] at g3
 have g3x:=Zby oz g3
 refine wSk (Za (xM (h:=xA (h:=Zf ?_))))
 exact eR t1 ⟨ZH (by (try dsimp only at *);rw [Zlb (left:=left) (s:=ZbQ x) (by unfold ZbQ Zfy;omega)];unfold ZbQ Zfy;omega),rfl,rfl⟩

theorem Zq4 (q:Option Addr) (cp:Nat) (xs:List DItem) (left:Int) (hl0:0≤left) (hl1:left≤1048576) (B:Kn) (hx:SlB B q cp 4 ZiK xs):Z1 (pj J) 69 [.slice q xs.length cp,.int .i64 left] B (.int .i64 (szI left (szL ZbQ xs))):=by
 refine cB 27 Tryz.func69 (h:=?_)
 have hxn:=hx.len
 refine Za (xA (h:=Za (xM (h:=xM (h:=xV Tryz.underlying24 (h:=xU (h:=xA (h:=Ze (Za (xM (h:=ZC (h:=Zb rfl (fun g1=>?_) (fun g1=>?_)))))))))))))
 try simp only [sQ,ne_eq] at g1
 refine Za (xA (h:=Zf (Zj ?_)))
 exact eR t1 ⟨ZH (ZfO oz).symm,rfl,rfl⟩
 try simp only [sQ,ne_eq] at g1
 refine ZK ?_
 refine Zm ?_
 refine Ze ?_
 refine Za ?_
 refine Zh (ZbF rfl rfl rfl ?_)
 refine Zg ?_
 refine Zv (α:=Nat × Int) [0,11] (fun g=>[(1,.int .i64 g.2),(5,.int .i64 g.1)]) [] (fun g=>[]) (fun g Bx=>Bx=B∧g.1≤xs.length∧g.2=left - xs.length - ((xs.take g.1).map ZbQ).sum∧0≤g.2) (fun g=>xs.length - g.1) (0,left - ↑xs.length) ⟨rfl,rfl,trivial⟩ rfl (⟨rfl,Nat.zero_le _,by simp,g1⟩) (fun g B1 hle1 hI=>?_)
 obtain ⟨rfl,hk,hs,hl⟩:=hI
 refine Zz [(0,_),(1,_),(5,_),(11,_)] [] t4 rfl (Ze (Za (xM (h:=xM (h:=xV Tryz.underlying24 (h:=ZC (h:=Zb rfl (fun g2=>?_) (fun g2=>?_))))))))
 try simp only [sQ,ne_eq] at g2
 refine wSk (Ze (Zg (Za (xM (h:=xM (h:=?_))))))
 obtain ⟨z,hz⟩:=ZM (xs:=xs) (i:=g.1) om
 obtain ⟨bb3,oo3,rfl⟩:=hx.base hz
 obtain ⟨_,⟨qi4,ci4,rfl,hi4,hb4,hb4b⟩,hc4⟩:=hx.elem hz
 have hi4n:=hi4.len
 refine xIx Tryz.underlying24 Zzx (h:=yL [_,_,_,_] ZzZ hc4 0 (h:=xM (h:=?_)))
 have hq5:=Zuk (J:=J) _ _ z om om g.2 om om _ hi4
 refine xR ZD6 rfl hq5 (h:=xA (h:=Za (xM (h:=ZC (h:=Zb rfl (fun g3=>?_) (fun g3=>?_))))))
 try simp only [sQ,ne_eq] at g3
 refine Za (xA (h:=Zf (Zt (Zj (ZJ (Zt (Zj ?_)))))))
 exact eR t1 ⟨ZH (ZfM hz hs ((ZbN hl).1 g3)).symm,rfl,rfl⟩
 try simp only [sQ,ne_eq] at g3
 refine ZK (ZD (Zm (Zd (xM (h:=xD (h:=xA (h:=?_)))))))
 exact Zx (g.1+1,szI g.2 (ZbQ z)) [] so2 ⟨rfl,so,by have:=(Zby hl g3).1;rw [ZdJ _ hz];simp only [];omega,g3⟩ t4 rfl
 try simp only [sQ,ne_eq] at g2
 refine ZA (ZQ (ZB (Zs (Zm (Za (xM (h:=xA (h:=Zf ?_))))))))
 exact eR t1 ⟨ZH (ZfN hs hl oz).symm,rfl,rfl⟩

theorem Zxf (q:Option Addr) (cp:Nat) (x:DBox) (left:Int) (hl0:0≤left) (hl1:left≤1048576) (B:Kn) (hx:SlB B q cp 3 ZiV x.mail):Z1 (pj J) 117 [.agg #[.int .i64 x.next,.slice q x.mail.length cp],.int .i64 left] B (.int .i64 (szI left (szL ZdI x.mail))):=by
 refine cB 12 Tryz.func117 (h:=?_)
 have hxn:=hx.len
 refine Za (xBx [_,_] (h:=fun b1=>xA (h:=tL1 (Za (xW ZsJ (h:=x1 Zz3 0 (h:=xM (h:=?_))))))))
 have hq2:=Zq2 (J:=J) _ _ x.mail left om om _ hx
 refine xR ZDB rfl hq2 (h:=xA (h:=Ze (Za (xM (h:=ZC (h:=Zb rfl (fun g1=>?_) (fun g1=>?_)))))))
 try simp only [sQ,ne_eq] at g1
 have g1x:=(ZbN oz).1 g1
 refine Za (xA (h:=Zf (Zj ?_)))
 exact eR t1 ⟨ZH (by rw [Zbn g1x]),rfl,rfl⟩
 try simp only [sQ,ne_eq] at g1
 refine wSk (Za (xM (h:=xA (h:=Zf ?_))))
 exact eR t1 ⟨rfl,rfl,rfl⟩

theorem Zq1 (q:Option Addr) (cp:Nat) (x:DQueue) (left:Int) (hl0:0≤left) (hl1:left≤1048576) (B:Kn) (hx:SlB B q cp 4 ZiK x.items):Z1 (pj J) 29 [.agg #[.int .i64 x.next,.slice q x.items.length cp],.int .i64 left] B (.int .i64 (szI left (szL ZbQ x.items))):=by
 refine cB 12 Tryz.func29 (h:=?_)
 have hxn:=hx.len
 refine Za (xBx [_,_] (h:=fun b1=>xA (h:=tL1 (Za (xW ZwF (h:=x1 ZEq 0 (h:=xM (h:=?_))))))))
 have hq2:=Zq4 (J:=J) _ _ x.items left om om _ hx
 refine xR ZFs rfl hq2 (h:=xA (h:=Ze (Za (xM (h:=ZC (h:=Zb rfl (fun g1=>?_) (fun g1=>?_)))))))
 try simp only [sQ,ne_eq] at g1
 have g1x:=(ZbN oz).1 g1
 refine Za (xA (h:=Zf (Zj ?_)))
 exact eR t1 ⟨ZH (by rw [Zbn g1x]),rfl,rfl⟩
 try simp only [sQ,ne_eq] at g1
 refine wSk (Za (xM (h:=xA (h:=Zf ?_))))
 exact eR t1 ⟨rfl,rfl,rfl⟩

theorem Zpb (qa qb:Option Addr) (ca cb:Nat) (x:DFolder) (h1:x.owner.length≤140737488355328) (h2:x.name.length≤140737488355328) (left:Int) (hl0:0≤left) (hl1:left≤1048576) (B:Kn) (hx:SlB B qa ca 2 ZiM x.grants) (hy:SlB B qb cb 3 ZiV x.mail):Z1 (pj J) 68 [.agg #[str x.owner,str x.name,.slice qa x.grants.length ca,.int .i64 x.next,.slice qb x.mail.length cb],.int .i64 left] B (.int .i64 (szI left (Zay x))):=by
 refine cB 32 Tryz.func68 (h:=?_)
 have hxn:=hx.len
 have hyn:=hy.len
 refine Za (xBx [_,_,_,_,_] (h:=fun b1=>xA (h:=tL1 (Za (xM (h:=xW ZsI (h:=x1 lk9 0 (h:=xVs Tryz.underlying9 (h:=xU (h:=xA (h:=Ze (Za (xM (h:=ZC (h:=Zb rfl (fun g1=>?_) (fun g1=>?_))))))))))))))))
 try simp only [sQ,ne_eq] at g1
 refine Za (xA (h:=Zf (Zj ?_)))
 exact eR t1 ⟨ZH (by rw [Zbn (by unfold Zay;omega)]),rfl,rfl⟩
 try simp only [sQ,ne_eq] at g1
 refine wSk (Za (xM (h:=xW ZsH (h:=x1 lk9 0 (h:=xVs Tryz.underlying9 (h:=xU (h:=xA (h:=Ze (Za (xM (h:=ZC (h:=Zb rfl (fun g2=>?_) (fun g2=>?_)))))))))))))
 try simp only [sQ,ne_eq] at g2
 refine Za (xA (h:=Zf (Zj ?_)))
 exact eR t1 ⟨ZH (by rw [Zbn (by unfold Zay;omega)]),rfl,rfl⟩
 try simp only [sQ,ne_eq] at g2
 refine wSk (Za (xW ZsG (h:=x1 Zz4 0 (h:=xM (h:=?_)))))
 have hq2:=Zpa (J:=J) _ _ x.grants ((left - ↑x.owner.length) - ↑x.name.length) om om _ hx
 refine xR ZD8 rfl hq2 (h:=xA (h:=Ze (Za (xM (h:=ZC (h:=Zb rfl (fun g3=>?_) (fun g3=>?_)))))))
 try simp only [sQ,ne_eq] at g3
 have g3x:=(ZbN oz).1 g3
 refine Za (xA (h:=Zf (Zj ?_)))
 exact eR t1 ⟨ZH (by rw [Zbn (by unfold Zay;omega)]),rfl,rfl⟩
 try simp only [sQ,ne_eq] at g3
 have g3x:=Zby oz g3
 refine wSk (Za (xW ZsF (h:=xL [_,_] Zz2 0 (h:=xM (h:=?_)))))
 have hq3:=Zxf (J:=J) _ _ (⟨x.next,x.mail⟩:DBox) (szI ((left - ↑x.owner.length) - ↑x.name.length) (szL ZcA x.grants)) om om _ hy
 refine xR ZD7 rfl hq3 (h:=xA (h:=Ze (Za (xM (h:=ZC (h:=Zb rfl (fun g4=>?_) (fun g4=>?_)))))))
 try simp only [sQ,ne_eq] at g4
 have g4x:=(ZbN oz).1 g4
 refine Za (xA (h:=Zf (Zj ?_)))
 exact eR t1 ⟨ZH (by rw [Zbn (by unfold Zay;omega)]),rfl,rfl⟩
 try simp only [sQ,ne_eq] at g4
 have g4x:=Zby oz g4
 refine wSk (Za (xM (h:=xA (h:=Zf ?_))))
 exact eR t1 ⟨ZH (by (try dsimp only at *);rw [Zlb (left:=left) (s:=Zay x) (by unfold Zay;omega)];unfold Zay;omega),rfl,rfl⟩

theorem ZmT (q:Option Addr) (cp:Nat) (xs:List DFolder) (left:Int) (hl0:0≤left) (hl1:left≤1048576) (B:Kn) (hx:SlB B q cp 5 Zfa xs):Z1 (pj J) 28 [.slice q xs.length cp,.int .i64 left] B (.int .i64 (szI left (szL Zay xs))):=by
 refine cB 27 Tryz.func28 (h:=?_)
 have hxn:=hx.len
 refine Za (xA (h:=Za (xM (h:=xM (h:=xV Tryz.underlying23 (h:=xU (h:=xA (h:=Ze (Za (xM (h:=ZC (h:=Zb rfl (fun g1=>?_) (fun g1=>?_)))))))))))))
 try simp only [sQ,ne_eq] at g1
 refine Za (xA (h:=Zf (Zj ?_)))
 exact eR t1 ⟨ZH (ZfO oz).symm,rfl,rfl⟩
 try simp only [sQ,ne_eq] at g1
 refine ZK ?_
 refine Zm ?_
 refine Ze ?_
 refine Za ?_
 refine Zh (ZbF rfl rfl rfl ?_)
 refine Zg ?_
 refine Zv (α:=Nat × Int) [0,11] (fun g=>[(1,.int .i64 g.2),(5,.int .i64 g.1)]) [] (fun g=>[]) (fun g Bx=>Bx=B∧g.1≤xs.length∧g.2=left - xs.length - ((xs.take g.1).map Zay).sum∧0≤g.2) (fun g=>xs.length - g.1) (0,left - ↑xs.length) ⟨rfl,rfl,trivial⟩ rfl (⟨rfl,Nat.zero_le _,by simp,g1⟩) (fun g B1 hle1 hI=>?_)
 obtain ⟨rfl,hk,hs,hl⟩:=hI
 refine Zz [(0,_),(1,_),(5,_),(11,_)] [] t4 rfl (Ze (Za (xM (h:=xM (h:=xV Tryz.underlying23 (h:=ZC (h:=Zb rfl (fun g2=>?_) (fun g2=>?_))))))))
 try simp only [sQ,ne_eq] at g2
 refine wSk (Ze (Zg (Za (xM (h:=xM (h:=?_))))))
 obtain ⟨z,hz⟩:=ZM (xs:=xs) (i:=g.1) om
 obtain ⟨bb3,oo3,rfl⟩:=hx.base hz
 obtain ⟨_,⟨qg4,cg4,qm4,cm4,rfl,hg4,hm4,hb4,hb4b⟩,hc4⟩:=hx.elem hz
 have hg4n:=hg4.len
 have hm4n:=hm4.len
 refine xIx Tryz.underlying23 Zzz (h:=yL [_,_,_,_,_] Zz1 hc4 0 (h:=xM (h:=?_)))
 have hq5:=Zpb (J:=J) _ _ _ _ z om om g.2 om om _ hg4 hm4
 refine xR ZFt rfl hq5 (h:=xA (h:=Za (xM (h:=ZC (h:=Zb rfl (fun g3=>?_) (fun g3=>?_))))))
 try simp only [sQ,ne_eq] at g3
 refine Za (xA (h:=Zf (Zt (Zj (ZJ (Zt (Zj ?_)))))))
 exact eR t1 ⟨ZH (ZfM hz hs ((ZbN hl).1 g3)).symm,rfl,rfl⟩
 try simp only [sQ,ne_eq] at g3
 refine ZK (ZD (Zm (Zd (xM (h:=xD (h:=xA (h:=?_)))))))
 exact Zx (g.1+1,szI g.2 (Zay z)) [] so2 ⟨rfl,so,by have:=(Zby hl g3).1;rw [ZdJ _ hz];simp only [];omega,g3⟩ t4 rfl
 try simp only [sQ,ne_eq] at g2
 refine ZA (ZQ (ZB (Zs (Zm (Za (xM (h:=xA (h:=Zf ?_))))))))
 exact eR t1 ⟨ZH (ZfN hs hl oz).symm,rfl,rfl⟩

theorem Zul (q1 q2 q3:Option Addr) (c1 c2 c3:Nat) (x:DHost) (hd:x.domain.length≤140737488355328) (left:Int) (hl0:0≤left) (hl1:left≤1048576) (B:Kn) (hu:SlB B q1 c1 3 ZmB x.users) (hf:SlB B q2 c2 5 Zfa x.folders) (hi:SlB B q3 c3 4 ZiK x.queue.items):Z1 (pj J) 5 [.agg #[str x.domain,.slice q1 x.users.length c1,.slice q2 x.folders.length c2,.int .i64 x.queue.next,.slice q3 x.queue.items.length c3],.int .i64 left] B (.int .i64 (szI left (Zc3 x))):=by
 refine cB 31 Tryz.func5 (h:=?_)
 have hun:=hu.len
 have hfn:=hf.len
 have hin:=hi.len
 refine Za (xBx [_,_,_,_,_] (h:=fun b1=>xA (h:=tL1 (Za (xM (h:=xW ZwE (h:=x1 lk9 0 (h:=xVs Tryz.underlying9 (h:=xU (h:=xA (h:=Ze (Za (xM (h:=ZC (h:=Zb rfl (fun g1=>?_) (fun g1=>?_))))))))))))))))
 try simp only [sQ,ne_eq] at g1
 refine Za (xA (h:=Zf (Zj ?_)))
 exact eR t1 ⟨ZH (by rw [Zbn (by unfold Zc3;omega)]),rfl,rfl⟩
 try simp only [sQ,ne_eq] at g1
 refine wSk (Za (xW ZwD (h:=x1 ZEs 0 (h:=xM (h:=?_)))))
 have hq2:=ZqZ (J:=J) _ _ x.users (left - ↑x.domain.length) om om _ hu
 refine xR ZFR rfl hq2 (h:=xA (h:=Ze (Za (xM (h:=ZC (h:=Zb rfl (fun g2=>?_) (fun g2=>?_)))))))
 try simp only [sQ,ne_eq] at g2
 have g2x:=(ZbN oz).1 g2
 refine Za (xA (h:=Zf (Zj ?_)))
 exact eR t1 ⟨ZH (by rw [Zbn (by unfold Zc3;omega)]),rfl,rfl⟩
 try simp only [sQ,ne_eq] at g2
 have g2x:=Zby oz g2
 refine wSk (Za (xW ZwC (h:=x1 ZEr 0 (h:=xM (h:=?_)))))
 have hq3:=ZmT (J:=J) _ _ x.folders (szI (left - ↑x.domain.length) (szL Zdo x.users)) om om _ hf
 refine xR ZFQ rfl hq3 (h:=xA (h:=Ze (Za (xM (h:=ZC (h:=Zb rfl (fun g3=>?_) (fun g3=>?_)))))))
 try simp only [sQ,ne_eq] at g3
 have g3x:=(ZbN oz).1 g3
 refine Za (xA (h:=Zf (Zj ?_)))
 exact eR t1 ⟨ZH (by rw [Zbn (by unfold Zc3;omega)]),rfl,rfl⟩
 try simp only [sQ,ne_eq] at g3
 have g3x:=Zby oz g3
 refine wSk (Za (xW ZwB (h:=xL [_,_] ZEp 0 (h:=xM (h:=?_)))))
 have hq4:=Zq1 (J:=J) _ _ (⟨x.queue.next,x.queue.items⟩:DQueue) (szI (szI (left - ↑x.domain.length) (szL Zdo x.users)) (szL Zay x.folders)) om om _ hi
 refine xR ZFP rfl hq4 (h:=xA (h:=Ze (Za (xM (h:=ZC (h:=Zb rfl (fun g4=>?_) (fun g4=>?_)))))))
 try simp only [sQ,ne_eq] at g4
 have g4x:=(ZbN oz).1 g4
 refine Za (xA (h:=Zf (Zj ?_)))
 exact eR t1 ⟨ZH (by rw [Zbn (by unfold Zc3;omega)]),rfl,rfl⟩
 try simp only [sQ,ne_eq] at g4
 have g4x:=Zby oz g4
 refine wSk (Za (xM (h:=xA (h:=Zf ?_))))
 exact eR t1 ⟨ZH (by (try dsimp only at *);rw [Zlb (left:=left) (s:=Zc3 x) (by unfold Zc3;omega)];unfold Zc3;omega),rfl,rfl⟩

theorem Zt9 (x:DUser)  (B:Kn):Z1 (pj J) 86 [.agg #[str x.name,str x.pass,.int .i64 x.quota]] B (.agg #[str x.name,str x.pass,.int .i64 x.quota]):=by
 refine cB 14 Tryz.func86 (h:=?_)
 refine Za (xBx [_,_,_] (h:=fun b1=>xAl [_,_,_] Zf6 (h:=fun b2=>tL2 (Za (xAl [_,_,_] Zf6 (h:=fun b3=>tL3 (Za (xW ZsL (h:=x1 lk9 0 (h:=xW Zbp (h:=xS [_] 2 [_,_,_] sz9 (h:=tL3 (Za (xW ZsK (h:=x1 lk9 0 (h:=xW Zg1 (h:=xS [_] 2 [_,_,_] sz9 (h:=tL3 (Za (xW Zyl (h:=x1 lk3 0 (h:=xW ZeA (h:=xS [_] 2 [_,_,_] sz3 (h:=tL3 (Za (xL [_,_,_] Zfu 2 (h:=xS [_,_,_] 1 [_,_,_] Zcv (h:=tL3 (Zf ?_)))))))))))))))))))))))))))))
 exact eR ⟨⟨_,rfl,.inr ⟨[_,_,_],Zfu,ZbZ 1 rfl rfl rfl,rfl⟩⟩,trivial⟩ ⟨rfl,rfl,rfl⟩

theorem ZqW (x:DGrant)  (B:Kn):Z1 (pj J) 167 [.agg #[str x.user,.int .i64 x.rights]] B (.agg #[str x.user,.int .i64 x.rights]):=by
 refine cB 11 Tryz.func167 (h:=?_)
 refine Za (xBx [_,_] (h:=fun b1=>xAl [_,_] Zqs (h:=fun b2=>tL2 (Za (xAl [_,_] Zqs (h:=fun b3=>tL3 (Za (xW Zsv (h:=x1 lk9 0 (h:=xW ZcJ (h:=xS [_] 2 [_,_] sz9 (h:=tL3 (Za (xW Zya (h:=x1 lk3 0 (h:=xW ZdT (h:=xS [_] 2 [_,_] sz3 (h:=tL3 (Za (xL [_,_] ZrX 2 (h:=xS [_,_] 1 [_,_] ZeP (h:=tL3 (Zf ?_)))))))))))))))))))))))
 exact eR ⟨⟨_,rfl,.inr ⟨[_,_],ZrX,ZbZ 1 rfl rfl rfl,rfl⟩⟩,trivial⟩ ⟨rfl,rfl,rfl⟩

theorem Zuc (x:DMail)  (B:Kn):Z1 (pj J) 207 [.agg #[.int .i64 x.uid,.int .i64 x.flags,str x.text]] B (.agg #[.int .i64 x.uid,.int .i64 x.flags,str x.text]):=by
 refine cB 14 Tryz.func207 (h:=?_)
 refine Za (xBx [_,_,_] (h:=fun b1=>xAl [_,_,_] ZiN (h:=fun b2=>tL2 (Za (xAl [_,_,_] ZiN (h:=fun b3=>tL3 (Za (xW Zx9 (h:=x1 lk3 0 (h:=xW Zb7 (h:=xS [_] 2 [_,_,_] sz3 (h:=tL3 (Za (xW Zx8 (h:=x1 lk3 0 (h:=xW Ze5 (h:=xS [_] 2 [_,_,_] sz3 (h:=tL3 (Za (xW Zsu (h:=x1 lk9 0 (h:=xW ZdU (h:=xS [_] 2 [_,_,_] sz9 (h:=tL3 (Za (xL [_,_,_] ZhA 2 (h:=xS [_,_,_] 1 [_,_,_] ZcB (h:=tL3 (Zf ?_)))))))))))))))))))))))))))))
 exact eR ⟨⟨_,rfl,.inr ⟨[_,_,_],ZhA,ZbZ 1 rfl rfl rfl,rfl⟩⟩,trivial⟩ ⟨rfl,rfl,rfl⟩

theorem Zua (q:Option Addr) (cp:Nat) (xs:List Str) (hx20:Zfy xs≤1048576) (B:Kn) (hx:SlK B q cp 1 Zel xs):Zu (pj J) 169 [.slice q xs.length cp] B [] (fun v B' Ls=>∃q c l,v = .slice q xs.length c∧B'=B∧Ls=[l]∧ZR Kn.none l q c 9 1 Zel xs):=by
 refine cB 22 Tryz.func169 (h:=?_)
 have hxn:=hx.len
 have hx21:=Zxk hx20
 refine Za (xA (h:=Za (xM (h:=xV Tryz.underlying134 (h:=Zh (Zab (m:=xs.length) (c:=xs.length) (by_:=16) [.string ⟨#[]⟩] rfl rfl ZvA zo9 rfl rfl ⟨_,_,rfl,by first | omega | (simp;done) | (simp;omega)⟩ ⟨_,_,rfl,by first | omega | (simp;done) | (simp;omega)⟩ om om (fun b1=>?_)))))))
 have hv1:=ZR.zeros (B:=Kn.none) (b:=b1) (T:=9) (R:=Zel) (d:=([]:Str)) (m:=xs.length) (c:=xs.length) (zs:=[.string ⟨#[]⟩]) rfl (⟨rfl,by simp⟩) om
 refine xA (h:=tL1 (Ze (Za (xA (h:=Zg (Zv (α:=Nat × Cells) [0,2] (fun g=>[(3,.slice (some ⟨b1,0,none⟩) xs.length xs.length),(4,.int .i64 g.1)]) [0] (fun g=>[g.2]) (fun g Bx=>Bx=B∧g.1≤xs.length∧ZR Kn.none g.2 (some ⟨b1,0,none⟩) xs.length 9 1 Zel (fill xs ([]:Str) g.1)) (fun g=>xs.length - g.1) (0,_) t2 rfl (⟨rfl,Nat.zero_le _,by rw [Za6];exact hv1⟩) (fun g B2 hle2 hI=>?_)))))))
 obtain ⟨rfl,hk,hvl⟩:=hI
 have hfl:=Zbu (d:=([]:Str)) hk
 refine Zz [(0,_),(2,_),(3,_),(4,_)] [_] t4 rfl (Ze (Za (xM (h:=xM (h:=xV Tryz.underlying134 (h:=ZC (h:=Zb rfl (fun g1=>?_) (fun g1=>?_))))))))
 try simp only [sQ,ne_eq] at g1
 refine wSk (Ze (Zg (Zd (xM (h:=xM (h:=xM (h:=xM (h:=?_))))))))
 obtain ⟨z,hz⟩:=ZM (xs:=xs) (i:=g.1) om
 obtain ⟨bb4,oo4,rfl⟩:=hx.base hz
 obtain ⟨_,⟨rfl,hb5⟩,hc5⟩:=hx.elem hz
 refine xIx Tryz.underlying134 sz9 (h:=y1 lk9 hc5 0 (h:=xIp rfl Tryz.underlying134 sz9 (h:=Zh (ZfH (R:=Zel) (k:=g.1) (z) 0 rfl hvl rfl om rfl rfl sz9 rfl rfl rfl rfl rfl (⟨rfl,by first | assumption | omega | (simp;omega)⟩) (fun l7 hv7=>?_)))))
 refine ZD (Zm (Zd (xM (h:=xD (h:=xA (h:=?_))))))
 exact Zx (g.1+1,l7) [0] so2 ⟨rfl,so,by rw [← ZaC hz];exact hv7⟩ t4 rfl
 try simp only [sQ,ne_eq] at g1
 refine ZA (ZQ (ZB (Zs (Zm (Za (xM (h:=xA (h:=Zf ?_))))))))
 exact eN [0] rfl t1 ⟨_,_,_,rfl,rfl,rfl,by have e:=hvl;rw [Zbv oz] at e;exact e⟩

theorem ZqR (q:Option Addr) (cp:Nat) (xs:List DUser) (hx20:szL Zdo xs≤1048576) (B:Kn) (hx:SlK B q cp 3 ZL xs):Zu (pj J) 38 [.slice q xs.length cp] B [] (fun v B' Ls=>∃q c l,v = .slice q xs.length c∧B'=B∧Ls=[l]∧ZR Kn.none l q c 132 3 ZL xs):=by
 refine cB 23 Tryz.func38 (h:=?_)
 have hxn:=hx.len
 have hx21:=(Zaz hx20).1
 refine Za (xA (h:=Za (xM (h:=xV Tryz.underlying22 (h:=Zh (Zab (m:=xs.length) (c:=xs.length) (by_:=40) [.string ⟨#[]⟩,.string ⟨#[]⟩,.int .i64 0] rfl rfl ZEw Zf6 rfl rfl ⟨_,_,rfl,by first | omega | (simp;done) | (simp;omega)⟩ ⟨_,_,rfl,by first | omega | (simp;done) | (simp;omega)⟩ om om (fun b1=>?_)))))))
 have hv1:=ZR.zeros (B:=Kn.none) (b:=b1) (T:=132) (R:=ZL) (d:=(⟨[],[],0⟩:DUser)) (m:=xs.length) (c:=xs.length) (zs:=[.string ⟨#[]⟩,.string ⟨#[]⟩,.int .i64 0]) rfl (⟨rfl,by simp,by simp⟩) om
 refine xA (h:=tL1 (Ze (Za (xA (h:=Zg (Zv (α:=Nat × Cells) [0,2] (fun g=>[(3,.slice (some ⟨b1,0,none⟩) xs.length xs.length),(4,.int .i64 g.1)]) [0] (fun g=>[g.2]) (fun g Bx=>Bx=B∧g.1≤xs.length∧ZR Kn.none g.2 (some ⟨b1,0,none⟩) xs.length 132 3 ZL (fill xs (⟨[],[],0⟩:DUser) g.1)) (fun g=>xs.length - g.1) (0,_) t2 rfl (⟨rfl,Nat.zero_le _,by rw [Za6];exact hv1⟩) (fun g B2 hle2 hI=>?_)))))))
 obtain ⟨rfl,hk,hvl⟩:=hI
 have hfl:=Zbu (d:=(⟨[],[],0⟩:DUser)) hk
 refine Zz [(0,_),(2,_),(3,_),(4,_)] [_] t4 rfl (Ze (Za (xM (h:=xM (h:=xV Tryz.underlying22 (h:=ZC (h:=Zb rfl (fun g1=>?_) (fun g1=>?_))))))))
 try simp only [sQ,ne_eq] at g1
 refine wSk (Ze (Zg (Zd (xM (h:=xM (h:=xM (h:=xM (h:=?_))))))))
 obtain ⟨z,hz⟩:=ZM (xs:=xs) (i:=g.1) om
 obtain ⟨bb4,oo4,rfl⟩:=hx.base hz
 obtain ⟨_,⟨rfl,hb5,hb5b⟩,hc5⟩:=hx.elem hz
 refine xIx Tryz.underlying22 ZzA (h:=yL [_,_,_] Zz5 hc5 0 (h:=xR ZFl rfl (Zt9 z  _) (h:=xIp rfl Tryz.underlying35 Zcv (h:=Zh (ZfH (R:=ZL) (k:=g.1) (z) 0 rfl hvl rfl om rfl rfl Zcv rfl rfl rfl rfl rfl (⟨rfl,by first | assumption | omega | (simp;done) | (simp;omega),by first | assumption | omega | (simp;done) | (simp;omega)⟩) (fun l8 hv8=>?_))))))
 refine ZD (Zm (Zd (xM (h:=xD (h:=xA (h:=?_))))))
 exact Zx (g.1+1,l8) [0] so2 ⟨rfl,so,by rw [← ZaC hz];exact hv8⟩ t4 rfl
 try simp only [sQ,ne_eq] at g1
 refine ZA (ZQ (ZB (Zs (Zm (Za (xM (h:=xA (h:=Zf ?_))))))))
 exact eN [0] rfl t1 ⟨_,_,_,rfl,rfl,rfl,by have e:=hvl;rw [Zbv oz] at e;exact e⟩

theorem Zo8 (q:Option Addr) (cp:Nat) (xs:List DGrant) (hx20:szL ZcA xs≤1048576) (B:Kn) (hx:SlK B q cp 2 Zaf xs):Zu (pj J) 129 [.slice q xs.length cp] B [] (fun v B' Ls=>∃q c l,v = .slice q xs.length c∧B'=B∧Ls=[l]∧ZR Kn.none l q c 223 2 Zaf xs):=by
 refine cB 23 Tryz.func129 (h:=?_)
 have hxn:=hx.len
 have hx21:=(Zaz hx20).1
 refine Za (xA (h:=Za (xM (h:=xV Tryz.underlying121 (h:=Zh (Zab (m:=xs.length) (c:=xs.length) (by_:=24) [.string ⟨#[]⟩,.int .i64 0] rfl rfl ZEt Zqs rfl rfl ⟨_,_,rfl,by first | omega | (simp;done) | (simp;omega)⟩ ⟨_,_,rfl,by first | omega | (simp;done) | (simp;omega)⟩ om om (fun b1=>?_)))))))
 have hv1:=ZR.zeros (B:=Kn.none) (b:=b1) (T:=223) (R:=Zaf) (d:=(⟨[],0⟩:DGrant)) (m:=xs.length) (c:=xs.length) (zs:=[.string ⟨#[]⟩,.int .i64 0]) rfl (⟨rfl,by simp⟩) om
 refine xA (h:=tL1 (Ze (Za (xA (h:=Zg (Zv (α:=Nat × Cells) [0,2] (fun g=>[(3,.slice (some ⟨b1,0,none⟩) xs.length xs.length),(4,.int .i64 g.1)]) [0] (fun g=>[g.2]) (fun g Bx=>Bx=B∧g.1≤xs.length∧ZR Kn.none g.2 (some ⟨b1,0,none⟩) xs.length 223 2 Zaf (fill xs (⟨[],0⟩:DGrant) g.1)) (fun g=>xs.length - g.1) (0,_) t2 rfl (⟨rfl,Nat.zero_le _,by rw [Za6];exact hv1⟩) (fun g B2 hle2 hI=>?_)))))))
 obtain ⟨rfl,hk,hvl⟩:=hI
 have hfl:=Zbu (d:=(⟨[],0⟩:DGrant)) hk
 refine Zz [(0,_),(2,_),(3,_),(4,_)] [_] t4 rfl (Ze (Za (xM (h:=xM (h:=xV Tryz.underlying121 (h:=ZC (h:=Zb rfl (fun g1=>?_) (fun g1=>?_))))))))
 try simp only [sQ,ne_eq] at g1
 refine wSk (Ze (Zg (Zd (xM (h:=xM (h:=xM (h:=xM (h:=?_))))))))
 obtain ⟨z,hz⟩:=ZM (xs:=xs) (i:=g.1) om
 obtain ⟨bb4,oo4,rfl⟩:=hx.base hz
 obtain ⟨_,⟨rfl,hb5⟩,hc5⟩:=hx.elem hz
 refine xIx Tryz.underlying121 Zzw (h:=yL [_,_] ZzY hc5 0 (h:=xR ZDx rfl (ZqW z  _) (h:=xIp rfl Tryz.underlying85 ZeP (h:=Zh (ZfH (R:=Zaf) (k:=g.1) (z) 0 rfl hvl rfl om rfl rfl ZeP rfl rfl rfl rfl rfl (⟨rfl,by first | assumption | omega | (simp;done) | (simp;omega)⟩) (fun l8 hv8=>?_))))))
 refine ZD (Zm (Zd (xM (h:=xD (h:=xA (h:=?_))))))
 exact Zx (g.1+1,l8) [0] so2 ⟨rfl,so,by rw [← ZaC hz];exact hv8⟩ t4 rfl
 try simp only [sQ,ne_eq] at g1
 refine ZA (ZQ (ZB (Zs (Zm (Za (xM (h:=xA (h:=Zf ?_))))))))
 exact eN [0] rfl t1 ⟨_,_,_,rfl,rfl,rfl,by have e:=hvl;rw [Zbv oz] at e;exact e⟩

theorem Zub (x:DSpan)  (B:Kn):Z1 (pj J) 41 [.agg #[.int .i64 x.low,.int .i64 x.high]] B (.agg #[.int .i64 x.low,.int .i64 x.high]):=by
 refine cB 11 Tryz.func41 (h:=?_)
 refine Za (xBx [_,_] (h:=fun b1=>xAl [_,_] ZyU (h:=fun b2=>tL2 (Za (xAl [_,_] ZyU (h:=fun b3=>tL3 (Za (xW ZAf (h:=x1 lk3 0 (h:=xW Zhu (h:=xS [_] 2 [_,_] sz3 (h:=tL3 (Za (xW ZAe (h:=x1 lk3 0 (h:=xW Zht (h:=xS [_] 2 [_,_] sz3 (h:=tL3 (Za (xL [_,_] ZyT 2 (h:=xS [_,_] 1 [_,_] ZmU (h:=tL3 (Zf ?_)))))))))))))))))))))))
 exact eR ⟨⟨_,rfl,.inr ⟨[_,_],ZyT,ZbZ 1 rfl rfl rfl,rfl⟩⟩,trivial⟩ ⟨rfl,rfl,rfl⟩

theorem ZqS (q:Option Addr) (cp:Nat) (xs:List DSpan) (hx20:xs.length≤1048576) (B:Kn) (hx:SlK B q cp 2 ZN xs):Zu (pj J) 11 [.slice q xs.length cp] B [] (fun v B' Ls=>∃q c l,v = .slice q xs.length c∧B'=B∧Ls=[l]∧ZR Kn.none l q c 93 2 ZN xs):=by
 refine cB 23 Tryz.func11 (h:=?_)
 have hxn:=hx.len
 have hx21:=hx20
 refine Za (xA (h:=Za (xM (h:=xV Tryz.underlying31 (h:=Zh (Zab (m:=xs.length) (c:=xs.length) (by_:=16) [.int .i64 0,.int .i64 0] rfl rfl ZFg ZyU rfl rfl ⟨_,_,rfl,by first | omega | (simp;done) | (simp;omega)⟩ ⟨_,_,rfl,by first | omega | (simp;done) | (simp;omega)⟩ om om (fun b1=>?_)))))))
 have hv1:=ZR.zeros (B:=Kn.none) (b:=b1) (T:=93) (R:=ZN) (d:=(⟨0,0⟩:DSpan)) (m:=xs.length) (c:=xs.length) (zs:=[.int .i64 0,.int .i64 0]) rfl (rfl) om
 refine xA (h:=tL1 (Ze (Za (xA (h:=Zg (Zv (α:=Nat × Cells) [0,2] (fun g=>[(3,.slice (some ⟨b1,0,none⟩) xs.length xs.length),(4,.int .i64 g.1)]) [0] (fun g=>[g.2]) (fun g Bx=>Bx=B∧g.1≤xs.length∧ZR Kn.none g.2 (some ⟨b1,0,none⟩) xs.length 93 2 ZN (fill xs (⟨0,0⟩:DSpan) g.1)) (fun g=>xs.length - g.1) (0,_) t2 rfl (⟨rfl,Nat.zero_le _,by rw [Za6];exact hv1⟩) (fun g B2 hle2 hI=>?_)))))))
 obtain ⟨rfl,hk,hvl⟩:=hI
 have hfl:=Zbu (d:=(⟨0,0⟩:DSpan)) hk
 refine Zz [(0,_),(2,_),(3,_),(4,_)] [_] t4 rfl (Ze (Za (xM (h:=xM (h:=xV Tryz.underlying31 (h:=ZC (h:=Zb rfl (fun g1=>?_) (fun g1=>?_))))))))
 try simp only [sQ,ne_eq] at g1
 refine wSk (Ze (Zg (Zd (xM (h:=xM (h:=xM (h:=xM (h:=?_))))))))
 obtain ⟨z,hz⟩:=ZM (xs:=xs) (i:=g.1) om
 obtain ⟨bb4,oo4,rfl⟩:=hx.base hz
 obtain ⟨_,rfl,hc5⟩:=hx.elem hz
 refine xIx Tryz.underlying31 ZES (h:=yL [_,_] ZFc hc5 0 (h:=xR ZFI rfl (Zub z  _) (h:=xIp rfl Tryz.underlying47 ZmU (h:=Zh (ZfH (R:=ZN) (k:=g.1) (z) 0 rfl hvl rfl om rfl rfl ZmU rfl rfl rfl rfl rfl (rfl) (fun l8 hv8=>?_))))))
 refine ZD (Zm (Zd (xM (h:=xD (h:=xA (h:=?_))))))
 exact Zx (g.1+1,l8) [0] so2 ⟨rfl,so,by rw [← ZaC hz];exact hv8⟩ t4 rfl
 try simp only [sQ,ne_eq] at g1
 refine ZA (ZQ (ZB (Zs (Zm (Za (xM (h:=xA (h:=Zf ?_))))))))
 exact eN [0] rfl t1 ⟨_,_,_,rfl,rfl,rfl,by have e:=hvl;rw [Zbv oz] at e;exact e⟩

theorem ZqU (q:Option Addr) (cp:Nat) (xs:List DMail) (hx20:szL ZdI xs≤1048576) (B:Kn) (hx:SlK B q cp 3 Zah xs):Zu (pj J) 168 [.slice q xs.length cp] B [] (fun v B' Ls=>∃q c l,v = .slice q xs.length c∧B'=B∧Ls=[l]∧ZR Kn.none l q c 146 3 Zah xs):=by
 refine cB 23 Tryz.func168 (h:=?_)
 have hxn:=hx.len
 have hx21:=(Zaz hx20).1
 refine Za (xA (h:=Za (xM (h:=xV Tryz.underlying122 (h:=Zh (Zab (m:=xs.length) (c:=xs.length) (by_:=32) [.int .i64 0,.int .i64 0,.string ⟨#[]⟩] rfl rfl ZEu ZiN rfl rfl ⟨_,_,rfl,by first | omega | (simp;done) | (simp;omega)⟩ ⟨_,_,rfl,by first | omega | (simp;done) | (simp;omega)⟩ om om (fun b1=>?_)))))))
 have hv1:=ZR.zeros (B:=Kn.none) (b:=b1) (T:=146) (R:=Zah) (d:=(⟨0,0,[]⟩:DMail)) (m:=xs.length) (c:=xs.length) (zs:=[.int .i64 0,.int .i64 0,.string ⟨#[]⟩]) rfl (⟨rfl,by simp⟩) om
 refine xA (h:=tL1 (Ze (Za (xA (h:=Zg (Zv (α:=Nat × Cells) [0,2] (fun g=>[(3,.slice (some ⟨b1,0,none⟩) xs.length xs.length),(4,.int .i64 g.1)]) [0] (fun g=>[g.2]) (fun g Bx=>Bx=B∧g.1≤xs.length∧ZR Kn.none g.2 (some ⟨b1,0,none⟩) xs.length 146 3 Zah (fill xs (⟨0,0,[]⟩:DMail) g.1)) (fun g=>xs.length - g.1) (0,_) t2 rfl (⟨rfl,Nat.zero_le _,by rw [Za6];exact hv1⟩) (fun g B2 hle2 hI=>?_)))))))
 obtain ⟨rfl,hk,hvl⟩:=hI
 have hfl:=Zbu (d:=(⟨0,0,[]⟩:DMail)) hk
 refine Zz [(0,_),(2,_),(3,_),(4,_)] [_] t4 rfl (Ze (Za (xM (h:=xM (h:=xV Tryz.underlying122 (h:=ZC (h:=Zb rfl (fun g1=>?_) (fun g1=>?_))))))))
 try simp only [sQ,ne_eq] at g1
 refine wSk (Ze (Zg (Zd (xM (h:=xM (h:=xM (h:=xM (h:=?_))))))))
 obtain ⟨z,hz⟩:=ZM (xs:=xs) (i:=g.1) om
 obtain ⟨bb4,oo4,rfl⟩:=hx.base hz
 obtain ⟨_,⟨rfl,hb5⟩,hc5⟩:=hx.elem hz
 refine xIx Tryz.underlying122 Zzu (h:=yL [_,_,_] ZzX hc5 0 (h:=xR ZC5 rfl (Zuc z  _) (h:=xIp rfl Tryz.underlying80 ZcB (h:=Zh (ZfH (R:=Zah) (k:=g.1) (z) 0 rfl hvl rfl om rfl rfl ZcB rfl rfl rfl rfl rfl (⟨rfl,by first | assumption | omega | (simp;done) | (simp;omega)⟩) (fun l8 hv8=>?_))))))
 refine ZD (Zm (Zd (xM (h:=xD (h:=xA (h:=?_))))))
 exact Zx (g.1+1,l8) [0] so2 ⟨rfl,so,by rw [← ZaC hz];exact hv8⟩ t4 rfl
 try simp only [sQ,ne_eq] at g1
 refine ZA (ZQ (ZB (Zs (Zm (Za (xM (h:=xA (h:=Zf ?_))))))))
 exact eN [0] rfl t1 ⟨_,_,_,rfl,rfl,rfl,by have e:=hvl;rw [Zbv oz] at e;exact e⟩

theorem Zue (q:Option Addr) (cp:Nat) (x:DItem) (B:Kn) (hx:SlK B q cp 1 Zel x.left) (hl:Zfy x.left≤1048576):Zu (pj J) 131 [.agg #[.int .i64 x.id,str x.fr,str x.text,.slice q x.left.length cp]] B [] (fun v B' Ls=>∃q0 c0 l0,v = .agg #[.int .i64 x.id,str x.fr,str x.text,.slice q0 x.left.length c0]∧B'=B∧Ls=[l0]∧ZR Kn.none l0 q0 c0 9 1 Zel x.left):=by
 refine cB 18 Tryz.func131 (h:=?_)
 refine Za (xBx [_,_,_,_] (h:=fun b1=>xAl [_,_,_,_] ZgF (h:=fun b2=>tL2 (Za (xAl [_,_,_,_] ZgF (h:=fun b3=>tL3 (Za (xW Zyj (h:=x1 lk3 0 (h:=xW Ze7 (h:=xS [_] 2 [_,_,_,_] sz3 (h:=tL3 (Za (xW ZsA (h:=x1 lk9 0 (h:=xW Ze6 (h:=xS [_] 2 [_,_,_,_] sz9 (h:=tL3 (Za (xW Zsz (h:=x1 lk9 0 (h:=xW Zg0 (h:=xS [_] 2 [_,_,_,_] sz9 (h:=tL3 (Za (xW Zsy (h:=x1 ZgU 0 (h:=xC ZDv rfl (Zua _ _ x.left om2 _ hx) (h:=?_)))))))))))))))))))))))))))))
 rintro _ B4 _ hle4 ⟨q4,c4,l4,rfl,rfl,rfl,hv4⟩
 refine xW ZdV (h:=xS [_] 2 [_,_,_,_] Zzy (h:=tL4 (Za (xL [_,_,_,_] ZfX 2 (h:=xS [_,_,_,_] 1 [_,_,_,_] ZcR (h:=tL4 (Zf ?_)))))))
 exact eN [3] rfl ⟨⟨_,rfl,.inr ⟨[_,_,_,_],ZfX,ZbZ 1 rfl rfl rfl,rfl⟩⟩,trivial⟩ ⟨_,_,_,rfl,rfl,rfl,hv4⟩

theorem ZqV (q:Option Addr) (cp:Nat) (xs:List DItem) (hx20:szL ZbQ xs≤1048576) (B:Kn) (hx:SlK B q cp 4 Zar xs):Zu (pj J) 88 [.slice q xs.length cp] B [] (fun v B' Ls=>∃q c l,v = .slice q xs.length c∧B'=B∧Ls=[l]∧ZaM l q c 136 4 (ZbE 9) xs):=by
 refine cB 23 Tryz.func88 (h:=?_)
 have hxn:=hx.len
 have hx21:=(Zaz hx20).1
 refine Za (xA (h:=Za (xM (h:=xV Tryz.underlying24 (h:=Zh (Zab (m:=xs.length) (c:=xs.length) (by_:=64) [.int .i64 0,.string ⟨#[]⟩,.string ⟨#[]⟩,.slice none 0 0] rfl rfl ZEv ZgF rfl rfl ⟨_,_,rfl,by first | omega | (simp;done) | (simp;omega)⟩ ⟨_,_,rfl,by first | omega | (simp;done) | (simp;omega)⟩ om om (fun b1=>?_)))))))
 have hd1:=ZaM.zeros (b:=b1) (T:=136) (R:=ZbE 9) (d:=(⟨0,[],[],[]⟩:DItem)) (m:=xs.length) (c:=xs.length) (zs:=[.int .i64 0,.string ⟨#[]⟩,.string ⟨#[]⟩,.slice none 0 0]) rfl (⟨_,_,rfl,ZR.nil,by simp,by simp,by simp⟩) om
 refine xA (h:=tL1 (Ze (Za (xA (h:=Zg (Zv (α:=Nat × Cells) [0,2] (fun g=>[(3,.slice (some ⟨b1,0,none⟩) xs.length xs.length),(4,.int .i64 g.1)]) [0] (fun g=>[g.2]) (fun g Bx=>Bx=B∧g.1≤xs.length∧ZaM g.2 (some ⟨b1,0,none⟩) xs.length 136 4 (ZbE 9) (fill xs (⟨0,[],[],[]⟩:DItem) g.1)) (fun g=>xs.length - g.1) (0,_) t2 rfl (⟨rfl,Nat.zero_le _,by rw [Za6];exact hd1⟩) (fun g B2 hle2 hI=>?_)))))))
 obtain ⟨rfl,hk,hvl⟩:=hI
 have hfl:=Zbu (d:=(⟨0,[],[],[]⟩:DItem)) hk
 refine Zz [(0,_),(2,_),(3,_),(4,_)] [_] t4 rfl (Ze (Za (xM (h:=xM (h:=xV Tryz.underlying24 (h:=ZC (h:=Zb rfl (fun g1=>?_) (fun g1=>?_))))))))
 try simp only [sQ,ne_eq] at g1
 refine wSk (Ze (Zg (Zd (xM (h:=xM (h:=xM (h:=xM (h:=?_))))))))
 obtain ⟨z,hz⟩:=ZM (xs:=xs) (i:=g.1) om
 obtain ⟨bb4,oo4,rfl⟩:=hx.base hz
 obtain ⟨_,⟨qi5,ci5,rfl,hi5,hb5,hb5b⟩,hc5⟩:=hx.elem hz
 have hi5n:=hi5.len
 refine xIx Tryz.underlying24 Zzx (h:=?_)
 have hzz:=(Zaz hx20).2 z (List.mem_of_getElem? hz)
 have hza:=ZxT hzz
 refine yL [_,_,_,_] ZzZ hc5 0 (h:=xC ZDX rfl (Zue _ _ z _ hi5 om2) (h:=?_))
 rintro _ B6 _ hle6 ⟨q6,c6,l6,rfl,rfl,rfl,hv6⟩
 refine xIp rfl Tryz.underlying37 ZcR (h:=Zh (ZwW (R:=ZbE 9) (k:=g.1) (z) 0 [1] rfl rfl hvl rfl om rfl rfl ZcR rfl rfl rfl rfl rfl (l6) (by simp) (⟨_,_,rfl,hv6,by first | assumption | omega | (simp;done) | (simp;omega),by first | assumption | omega | (simp;done) | (simp;omega),by first | assumption | omega | (simp;done) | (simp;omega)⟩) (fun l8 hd8=>?_)))
 refine ZD (Zm (Zd (xM (h:=xD (h:=xA (h:=?_))))))
 exact Zx (g.1+1,l8) [0] so2 ⟨rfl,so,by rw [← ZaC hz];exact hd8⟩ t4 rfl
 try simp only [sQ,ne_eq] at g1
 refine ZA (ZQ (ZB (Zs (Zm (Za (xM (h:=xA (h:=Zf ?_))))))))
 exact eN [0] rfl t1 ⟨_,_,_,rfl,rfl,rfl,by have e:=hvl;rw [Zbv oz] at e;exact e⟩

theorem ZqT (q:Option Addr) (cp:Nat) (x:DQueue) (B:Kn) (hx:SlK B q cp 4 Zar x.items) (hl:szL ZbQ x.items≤1048576):Zu (pj J) 40 [.agg #[.int .i64 x.next,.slice q x.items.length cp]] B [] (fun v B' Ls=>∃q0 c0 l0,v = .agg #[.int .i64 x.next,.slice q0 x.items.length c0]∧B'=B∧Ls=[l0]∧ZaM l0 q0 c0 136 4 (ZbE 9) x.items):=by
 refine cB 12 Tryz.func40 (h:=?_)
 refine Za (xBx [_,_] (h:=fun b1=>xAl [_,_] ZyS (h:=fun b2=>tL2 (Za (xAl [_,_] ZyS (h:=fun b3=>tL3 (Za (xW ZAi (h:=x1 lk3 0 (h:=xW Zhw (h:=xS [_] 2 [_,_] sz3 (h:=tL3 (Za (xW ZwF (h:=x1 ZEq 0 (h:=xC ZFj rfl (ZqV _ _ x.items om2 _ hx) (h:=?_)))))))))))))))))
 rintro _ B4 _ hle4 ⟨q4,c4,l4,rfl,rfl,rfl,hv4⟩
 refine xW Zc7 (h:=xS [_] 2 [_,_] ZEm (h:=tL4 (Za (xL [_,_] Zqn 2 (h:=xS [_,_] 1 [_,_] Zzs (h:=tL4 (Zf ?_)))))))
 exact eN [3] rfl ⟨⟨_,rfl,.inr ⟨[_,_],Zqn,ZbZ 1 rfl rfl rfl,rfl⟩⟩,trivial⟩ ⟨_,_,_,rfl,rfl,rfl,hv4⟩

theorem Zxa (q:Option Addr) (cp:Nat) (x:DBox) (B:Kn) (hx:SlK B q cp 3 Zah x.mail) (hl:szL ZdI x.mail≤1048576):Zu (pj J) 130 [.agg #[.int .i64 x.next,.slice q x.mail.length cp]] B [] (fun v B' Ls=>∃q0 c0 l0,v = .agg #[.int .i64 x.next,.slice q0 x.mail.length c0]∧B'=B∧Ls=[l0]∧ZR Kn.none l0 q0 c0 146 3 Zah x.mail):=by
 refine cB 12 Tryz.func130 (h:=?_)
 refine Za (xBx [_,_] (h:=fun b1=>xAl [_,_] ZAZ (h:=fun b2=>tL2 (Za (xAl [_,_] ZAZ (h:=fun b3=>tL3 (Za (xW Zyk (h:=x1 lk3 0 (h:=xW Zhv (h:=xS [_] 2 [_,_] sz3 (h:=tL3 (Za (xW ZsJ (h:=x1 Zz3 0 (h:=xC ZDw rfl (ZqU _ _ x.mail om2 _ hx) (h:=?_)))))))))))))))))
 rintro _ B4 _ hle4 ⟨q4,c4,l4,rfl,rfl,rfl,hv4⟩
 refine xW ZaI (h:=xS [_] 2 [_,_] ZET (h:=tL4 (Za (xL [_,_] Zhm 2 (h:=xS [_,_] 1 [_,_] ZA0 (h:=tL4 (Zf ?_)))))))
 exact eN [3] rfl ⟨⟨_,rfl,.inr ⟨[_,_],Zhm,ZbZ 1 rfl rfl rfl,rfl⟩⟩,trivial⟩ ⟨_,_,_,rfl,rfl,rfl,hv4⟩

theorem Zo9 (qa qb:Option Addr) (ca cb:Nat) (x:DFolder) (B:Kn) (hx:SlK B qa ca 2 Zaf x.grants) (hy:SlK B qb cb 3 Zah x.mail) (hl:szL ZcA x.grants≤1048576) (hl2:szL ZdI x.mail≤1048576):Zu (pj J) 87 [.agg #[str x.owner,str x.name,.slice qa x.grants.length ca,.int .i64 x.next,.slice qb x.mail.length cb]] B [] (fun v B' Ls=>∃q0 c0 l0 q1 c1 l1,v = .agg #[str x.owner,str x.name,.slice q0 x.grants.length c0,.int .i64 x.next,.slice q1 x.mail.length c1]∧B'=B∧Ls=[l0,l1]∧ZR Kn.none l0 q0 c0 223 2 Zaf x.grants∧ZR Kn.none l1 q1 c1 146 3 Zah x.mail):=by
 refine cB 19 Tryz.func87 (h:=?_)
 refine Za (xBx [_,_,_,_,_] (h:=fun b1=>xAl [_,_,_,_,_] Zqk (h:=fun b2=>tL2 (Za (xAl [_,_,_,_,_] Zqk (h:=fun b3=>tL3 (Za (xW ZsI (h:=x1 lk9 0 (h:=xW Zcy (h:=xS [_] 2 [_,_,_,_,_] sz9 (h:=tL3 (Za (xW ZsH (h:=x1 lk9 0 (h:=xW ZeJ (h:=xS [_] 2 [_,_,_,_,_] sz9 (h:=tL3 (Za (xW ZsG (h:=x1 Zz4 0 (h:=xC ZDZ rfl (Zo8 _ _ x.grants om2 _ hx) (h:=?_)))))))))))))))))))))))
 rintro _ B4 _ hle4 ⟨q4,c4,l4,rfl,rfl,rfl,hv4⟩
 refine xW ZfB (h:=xS [_] 2 [_,_,_,_,_] ZEj (h:=tL4 (Za (xW ZsF (h:=xL [_,_] Zz2 0 (h:=xC ZDY rfl (Zxa _ _ ⟨x.next,x.mail⟩ _ hy om2) (h:=?_)))))))
 rintro _ B5 _ hle5 ⟨q5,c5,l5,rfl,rfl,rfl,hv5⟩
 refine xW Zed (h:=xS [_,_] 2 [_,_,_,_,_] ZA0 (h:=tL5 (Za (xL [_,_,_,_,_] Zj5 2 (h:=xS [_,_,_,_,_] 1 [_,_,_,_,_] ZeO (h:=tL5 (Zf ?_)))))))
 exact eN [3,4] rfl ⟨⟨_,rfl,.inr ⟨[_,_,_,_,_],Zj5,ZbZ 1 rfl rfl rfl,rfl⟩⟩,trivial⟩ ⟨_,_,_,_,_,_,rfl,rfl,rfl,hv4,hv5⟩

theorem ZmR (q:Option Addr) (cp:Nat) (xs:List DFolder) (hx20:szL Zay xs≤1048576) (B:Kn) (hx:SlK B q cp 5 ZF xs):Zu (pj J) 39 [.slice q xs.length cp] B [] (fun v B' Ls=>∃q c l,v = .slice q xs.length c∧B'=B∧Ls=[l]∧ZaM l q c 87 5 (Zai 223 146) xs):=by
 refine cB 23 Tryz.func39 (h:=?_)
 have hxn:=hx.len
 have hx21:=(Zaz hx20).1
 refine Za (xA (h:=Za (xM (h:=xV Tryz.underlying23 (h:=Zh (Zab (m:=xs.length) (c:=xs.length) (by_:=88) [.string ⟨#[]⟩,.string ⟨#[]⟩,.slice none 0 0,.int .i64 0,.slice none 0 0] rfl rfl ZCm Zqk rfl rfl ⟨_,_,rfl,by first | omega | (simp;done) | (simp;omega)⟩ ⟨_,_,rfl,by first | omega | (simp;done) | (simp;omega)⟩ om om (fun b1=>?_)))))))
 have hd1:=ZaM.zeros (b:=b1) (T:=87) (R:=(Zai 223 146)) (d:=(⟨[],[],[],0,[]⟩:DFolder)) (m:=xs.length) (c:=xs.length) (zs:=[.string ⟨#[]⟩,.string ⟨#[]⟩,.slice none 0 0,.int .i64 0,.slice none 0 0]) rfl (⟨_,_,_,_,[],[],rfl,rfl,ZR.nil,ZR.nil,by simp,by simp,by simp,by simp⟩) om
 refine xA (h:=tL1 (Ze (Za (xA (h:=Zg (Zv (α:=Nat × Cells) [0,2] (fun g=>[(3,.slice (some ⟨b1,0,none⟩) xs.length xs.length),(4,.int .i64 g.1)]) [0] (fun g=>[g.2]) (fun g Bx=>Bx=B∧g.1≤xs.length∧ZaM g.2 (some ⟨b1,0,none⟩) xs.length 87 5 (Zai 223 146) (fill xs (⟨[],[],[],0,[]⟩:DFolder) g.1)) (fun g=>xs.length - g.1) (0,_) t2 rfl (⟨rfl,Nat.zero_le _,by rw [Za6];exact hd1⟩) (fun g B2 hle2 hI=>?_)))))))
 obtain ⟨rfl,hk,hvl⟩:=hI
 have hfl:=Zbu (d:=(⟨[],[],[],0,[]⟩:DFolder)) hk
 refine Zz [(0,_),(2,_),(3,_),(4,_)] [_] t4 rfl (Ze (Za (xM (h:=xM (h:=xV Tryz.underlying23 (h:=ZC (h:=Zb rfl (fun g1=>?_) (fun g1=>?_))))))))
 try simp only [sQ,ne_eq] at g1
 refine wSk (Ze (Zg (Zd (xM (h:=xM (h:=xM (h:=xM (h:=?_))))))))
 obtain ⟨z,hz⟩:=ZM (xs:=xs) (i:=g.1) om
 obtain ⟨bb4,oo4,rfl⟩:=hx.base hz
 obtain ⟨_,⟨qg5,cg5,qm5,cm5,rfl,hg5,hm5,hb5,hb5b⟩,hc5⟩:=hx.elem hz
 have hg5n:=hg5.len
 have hm5n:=hm5.len
 have hm5s:=ZaN hm5
 refine xIx Tryz.underlying23 Zzz (h:=?_)
 have hzz:=(Zaz hx20).2 z (List.mem_of_getElem? hz)
 have hza:=Zsr hzz
 refine yL [_,_,_,_,_] Zz1 hc5 0 (h:=xC ZFk rfl (Zo9 _ _ _ _ z _ hg5 hm5 om2 om2) (h:=?_))
 rintro _ B6 _ hle6 ⟨q6,c6,l6,q6b,c6b,l6b,rfl,rfl,rfl,hv6,hv6b⟩
 refine xIp rfl Tryz.underlying36 ZeO (h:=Zh (ZwW (R:=(Zai 223 146)) (k:=g.1) (z) 0 [1,2] rfl rfl hvl rfl om rfl rfl ZeO rfl rfl rfl rfl rfl (l6 ++ l6b) (by simp) (⟨_,_,_,_,_,_,rfl,rfl,(hv6.anyK Zaf.any),(hv6b.anyK Zah.any),by first | assumption | omega | (simp;done) | (simp;omega),by first | assumption | omega | (simp;done) | (simp;omega),by first | assumption | omega | (simp;done) | (simp;omega),by first | assumption | omega | (simp;done) | (simp;omega)⟩) (fun l8 hd8=>?_)))
 refine ZD (Zm (Zd (xM (h:=xD (h:=xA (h:=?_))))))
 exact Zx (g.1+1,l8) [0] so2 ⟨rfl,so,by rw [← ZaC hz];exact hd8⟩ t4 rfl
 try simp only [sQ,ne_eq] at g1
 refine ZA (ZQ (ZB (Zs (Zm (Za (xM (h:=xA (h:=Zf ?_))))))))
 exact eN [0] rfl t1 ⟨_,_,_,rfl,rfl,rfl,by have e:=hvl;rw [Zbv oz] at e;exact e⟩

theorem ZhD (q1 q2 q3:Option Addr) (c1 c2 c3:Nat) (x:DHost) (B:Kn) (hu:SlK B q1 c1 3 ZL x.users) (hf:SlK B q2 c2 5 ZF x.folders) (hi:SlK B q3 c3 4 Zar x.queue.items) (hsz:Zc3 x≤1048576):Zu (pj J) 9 [.agg #[str x.domain,.slice q1 x.users.length c1,.slice q2 x.folders.length c2,.int .i64 x.queue.next,.slice q3 x.queue.items.length c3]] B [] (fun v B' Ls=>∃q0 c0 l0 q1 c1 l1 q2 c2 l2,v = .agg #[str x.domain,.slice q0 x.users.length c0,.slice q1 x.folders.length c1,.int .i64 x.queue.next,.slice q2 x.queue.items.length c2]∧B'=B∧Ls=[l0,l1,l2]∧ZR Kn.none l0 q0 c0 132 3 ZL x.users∧ZaM l1 q1 c1 87 5 (Zai 223 146) x.folders∧ZaM l2 q2 c2 136 4 (ZbE 9) x.queue.items):=by
 refine cB 20 Tryz.func9 (h:=?_)
 have hsz2:=Zsj hsz
 refine Za (xBx [_,_,_,_,_] (h:=fun b1=>xAl [_,_,_,_,_] Zqq (h:=fun b2=>tL2 (Za (xAl [_,_,_,_,_] Zqq (h:=fun b3=>tL3 (Za (xW ZwE (h:=x1 lk9 0 (h:=xW Zjo (h:=xS [_] 2 [_,_,_,_,_] sz9 (h:=tL3 (Za (xW ZwD (h:=x1 ZEs 0 (h:=xC ZFL rfl (ZqR _ _ x.users om2 _ hu) (h:=?_)))))))))))))))))
 rintro _ B4 _ hle4 ⟨q4,c4,l4,rfl,rfl,rfl,hv4⟩
 refine xW Zcz (h:=xS [_] 2 [_,_,_,_,_] ZEX (h:=tL4 (Za (xW ZwC (h:=x1 ZEr 0 (h:=xC ZFK rfl (ZmR _ _ x.folders om2 _ hf) (h:=?_)))))))
 rintro _ B5 _ hle5 ⟨q5,c5,l5,rfl,rfl,rfl,hv5⟩
 refine xW Za5 (h:=xS [_] 2 [_,_,_,_,_] ZEW (h:=tL5 (Za (xW ZwB (h:=xL [_,_] ZEp 0 (h:=xC ZFJ rfl (ZqT _ _ ⟨x.queue.next,x.queue.items⟩ _ hi om2) (h:=?_)))))))
 rintro _ B6 _ hle6 ⟨q6,c6,l6,rfl,rfl,rfl,hv6⟩
 refine xW ZfC (h:=xS [_,_] 2 [_,_,_,_,_] Zzs (h:=tL6 (Za (xL [_,_,_,_,_] ZgD 2 (h:=xS [_,_,_,_,_] 1 [_,_,_,_,_] Zq6 (h:=tL6 (Zf ?_)))))))
 exact eN [3,4,5] rfl ⟨⟨_,rfl,.inr ⟨[_,_,_,_,_],ZgD,ZbZ 1 rfl rfl rfl,rfl⟩⟩,trivial⟩ ⟨_,_,_,_,_,_,_,_,_,rfl,rfl,rfl,hv4,hv5,hv6⟩

theorem Zvu   (a b:DUser) (B:Kn)   : Z1 (pj J) 101 [.agg #[str a.name,str a.pass,.int .i64 a.quota],.agg #[str b.name,str b.pass,.int .i64 b.quota]] B (.bool (decide (a=b))):=by
 refine cB 20 Tryz.func101 (h:=?_)
 refine Za (xBx [_,_,_] (h:=fun b1=>xBx [_,_,_] (h:=fun b2=>xA (h:=tL2 (Ze (Za (xW Zbp (h:=x1 lk9 0 (h:=xW Zbp (h:=x1 lk9 1 (h:=Zd0 (h:=Zb rfl (fun g1=>?_) (fun g1=>?_)))))))))))))
 try simp only [sQ,ne_eq] at g1
 refine Za (xA (h:=Zf (Zj ?_)))
 exact eR t1 ⟨Zc (by symm;rw [decide_eq_false_iff_not];rintro rfl;exact g1 rfl),rfl,rfl⟩
 try simp only [sQ,ne_eq] at g1
 refine wSk (Ze (Za (xW Zg1 (h:=x1 lk9 0 (h:=xW Zg1 (h:=x1 lk9 1 (h:=Zd0 (h:=Zb rfl (fun g2=>?_) (fun g2=>?_)))))))))
 try simp only [sQ,ne_eq] at g2
 refine Za (xA (h:=Zf (Zj ?_)))
 exact eR t1 ⟨Zc (by symm;rw [decide_eq_false_iff_not];rintro rfl;exact g2 rfl),rfl,rfl⟩
 try simp only [sQ,ne_eq] at g2
 refine wSk (Ze (Za (xW ZeA (h:=x1 lk3 0 (h:=xW ZeA (h:=x1 lk3 1 (h:=Zaa (h:=Zb rfl (fun g3=>?_) (fun g3=>?_)))))))))
 try simp only [sQ,ne_eq] at g3
 refine Za (xA (h:=Zf (Zj ?_)))
 exact eR t1 ⟨Zc (by symm;rw [decide_eq_false_iff_not];rintro rfl;exact g3 rfl),rfl,rfl⟩
 try simp only [sQ,ne_eq] at g3
 refine wSk (Za (xA (h:=Zf ?_)))
 exact eR t1 ⟨Zc (by symm;rw [decide_eq_true_eq];cases a;cases b;simp_all),rfl,rfl⟩

theorem Zs3   (a b:DGrant) (B:Kn)   : Z1 (pj J) 194 [.agg #[str a.user,.int .i64 a.rights],.agg #[str b.user,.int .i64 b.rights]] B (.bool (decide (a=b))):=by
 refine cB 15 Tryz.func194 (h:=?_)
 refine Za (xBx [_,_] (h:=fun b1=>xBx [_,_] (h:=fun b2=>xA (h:=tL2 (Ze (Za (xW ZcJ (h:=x1 lk9 0 (h:=xW ZcJ (h:=x1 lk9 1 (h:=Zd0 (h:=Zb rfl (fun g1=>?_) (fun g1=>?_)))))))))))))
 try simp only [sQ,ne_eq] at g1
 refine Za (xA (h:=Zf (Zj ?_)))
 exact eR t1 ⟨Zc (by symm;rw [decide_eq_false_iff_not];rintro rfl;exact g1 rfl),rfl,rfl⟩
 try simp only [sQ,ne_eq] at g1
 refine wSk (Ze (Za (xW ZdT (h:=x1 lk3 0 (h:=xW ZdT (h:=x1 lk3 1 (h:=Zaa (h:=Zb rfl (fun g2=>?_) (fun g2=>?_)))))))))
 try simp only [sQ,ne_eq] at g2
 refine Za (xA (h:=Zf (Zj ?_)))
 exact eR t1 ⟨Zc (by symm;rw [decide_eq_false_iff_not];rintro rfl;exact g2 rfl),rfl,rfl⟩
 try simp only [sQ,ne_eq] at g2
 refine wSk (Za (xA (h:=Zf ?_)))
 exact eR t1 ⟨Zc (by symm;rw [decide_eq_true_eq];cases a;cases b;simp_all),rfl,rfl⟩

theorem Zvw   (a b:DMail) (B:Kn)   : Z1 (pj J) 246 [.agg #[.int .i64 a.uid,.int .i64 a.flags,str a.text],.agg #[.int .i64 b.uid,.int .i64 b.flags,str b.text]] B (.bool (decide (a=b))):=by
 refine cB 20 Tryz.func246 (h:=?_)
 refine Za (xBx [_,_,_] (h:=fun b1=>xBx [_,_,_] (h:=fun b2=>xA (h:=tL2 (Ze (Za (xW Zb7 (h:=x1 lk3 0 (h:=xW Zb7 (h:=x1 lk3 1 (h:=Zaa (h:=Zb rfl (fun g1=>?_) (fun g1=>?_)))))))))))))
 try simp only [sQ,ne_eq] at g1
 refine Za (xA (h:=Zf (Zj ?_)))
 exact eR t1 ⟨Zc (by symm;rw [decide_eq_false_iff_not];rintro rfl;exact g1 rfl),rfl,rfl⟩
 try simp only [sQ,ne_eq] at g1
 refine wSk (Ze (Za (xW Ze5 (h:=x1 lk3 0 (h:=xW Ze5 (h:=x1 lk3 1 (h:=Zaa (h:=Zb rfl (fun g2=>?_) (fun g2=>?_)))))))))
 try simp only [sQ,ne_eq] at g2
 refine Za (xA (h:=Zf (Zj ?_)))
 exact eR t1 ⟨Zc (by symm;rw [decide_eq_false_iff_not];rintro rfl;exact g2 rfl),rfl,rfl⟩
 try simp only [sQ,ne_eq] at g2
 refine wSk (Ze (Za (xW ZdU (h:=x1 lk9 0 (h:=xW ZdU (h:=x1 lk9 1 (h:=Zd0 (h:=Zb rfl (fun g3=>?_) (fun g3=>?_)))))))))
 try simp only [sQ,ne_eq] at g3
 refine Za (xA (h:=Zf (Zj ?_)))
 exact eR t1 ⟨Zc (by symm;rw [decide_eq_false_iff_not];rintro rfl;exact g3 rfl),rfl,rfl⟩
 try simp only [sQ,ne_eq] at g3
 refine wSk (Za (xA (h:=Zf ?_)))
 exact eR t1 ⟨Zc (by symm;rw [decide_eq_true_eq];cases a;cases b;simp_all),rfl,rfl⟩

theorem Zvv   (a b:DSpan) (B:Kn)   : Z1 (pj J) 51 [.agg #[.int .i64 a.low,.int .i64 a.high],.agg #[.int .i64 b.low,.int .i64 b.high]] B (.bool (decide (a=b))):=by
 refine cB 15 Tryz.func51 (h:=?_)
 refine Za (xBx [_,_] (h:=fun b1=>xBx [_,_] (h:=fun b2=>xA (h:=tL2 (Ze (Za (xW Zhu (h:=x1 lk3 0 (h:=xW Zhu (h:=x1 lk3 1 (h:=Zaa (h:=Zb rfl (fun g1=>?_) (fun g1=>?_)))))))))))))
 try simp only [sQ,ne_eq] at g1
 refine Za (xA (h:=Zf (Zj ?_)))
 exact eR t1 ⟨Zc (by symm;rw [decide_eq_false_iff_not];rintro rfl;exact g1 rfl),rfl,rfl⟩
 try simp only [sQ,ne_eq] at g1
 refine wSk (Ze (Za (xW Zht (h:=x1 lk3 0 (h:=xW Zht (h:=x1 lk3 1 (h:=Zaa (h:=Zb rfl (fun g2=>?_) (fun g2=>?_)))))))))
 try simp only [sQ,ne_eq] at g2
 refine Za (xA (h:=Zf (Zj ?_)))
 exact eR t1 ⟨Zc (by symm;rw [decide_eq_false_iff_not];rintro rfl;exact g2 rfl),rfl,rfl⟩
 try simp only [sQ,ne_eq] at g2
 refine wSk (Za (xA (h:=Zf ?_)))
 exact eR t1 ⟨Zc (by symm;rw [decide_eq_true_eq];cases a;cases b;simp_all),rfl,rfl⟩

theorem ZsX (q q':Option Addr) (cp cp':Nat) (xs ys:List DSpan) (B:Kn) (ha:SlK B q cp 2 ZN xs) (hb:SlK B q' cp' 2 ZN ys):Z1 (pj J) 14 [.slice q xs.length cp,.slice q' ys.length cp'] B (.bool (decide (xs=ys))):=by
 refine cB 27 Tryz.func14 (h:=?_)
 have han:=ha.len
 have hbn:=hb.len
 refine Za (xA (h:=Ze (Za (xM (h:=xV Tryz.underlying47 (h:=xM (h:=xV Tryz.underlying47 (h:=Zaa (h:=Zb rfl (fun g1=>?_) (fun g1=>?_))))))))))
 try simp only [sQ,ne_eq] at g1
 refine Za (xA (h:=Zf (Zj ?_)))
 exact eR t1 ⟨Zc (ZeC g1),rfl,rfl⟩
 try simp only [sQ,ne_eq] at g1
 refine wSk (Ze (Za (xA (h:=Zg (Zv (α:=Nat) [0,1,10] (fun k=>[(5,.int .i64 k)]) [] (fun k=>[]) (fun k Bx=>Bx=B∧k≤xs.length∧xs.take k=ys.take k) (fun k=>xs.length - k) 0 t1 rfl (⟨rfl,Nat.zero_le _,by simp⟩) (fun k B1 hle1 hI=>?_))))))
 obtain ⟨rfl,hk,he⟩:=hI
 refine Zz [(0,_),(1,_),(5,_),(10,_)] [] t4 rfl (Ze (Za (xM (h:=xM (h:=xV Tryz.underlying47 (h:=ZC (h:=Zb rfl (fun g2=>?_) (fun g2=>?_))))))))
 try simp only [sQ,ne_eq] at g2
 refine wSk (Ze (Zg (Ze (ZW (same _ _) mo kr ⟨rfl,rfl⟩ (fun _ _=>?_)))))
 refine aM 0 rfl (h:=aM 1 rfl (h:=?_))
 obtain ⟨x,hx⟩:=ZM (xs:=xs) (i:=k) om
 obtain ⟨bb3,oo3,rfl⟩:=ha.base hx
 obtain ⟨_,rfl,hc4⟩:=ha.elem hx
 refine aIx 2 rfl Tryz.underlying47 ZmU (h:=aT 3 rfl (Z3 fun D=>ZI [_,_] rfl rfl ZyT rfl (Zhh hc4 0 rfl rfl) r4) (h:=aM 4 rfl (h:=aM 5 rfl (h:=?_))))
 obtain ⟨y,hy⟩:=ZM (xs:=ys) (i:=k) om
 obtain ⟨bb6,oo6,rfl⟩:=hb.base hy
 obtain ⟨_,rfl,hc7⟩:=hb.elem hy
 refine aIx 6 rfl Tryz.underlying47 ZmU (h:=aT 7 rfl (Z3 fun D=>ZI [_,_] rfl rfl ZyT rfl (Zhh hc7 0 rfl rfl) r4) (h:=aT 8 rfl (Z3 fun D=>Z5 rfl rfl ZFE rfl (Zvv x y _ ) r4) (h:=aN 9 rfl (h:=Zy kr kr ?_))))
 refine Zm (Zb rfl (fun g3=>?_) (fun g3=>?_))
 try simp only [sQ,ne_eq] at g3
 refine Za (xA (h:=Zf (Zt (Zj (ZJ (Zt (Zj ?_)))))))
 exact eR t1 ⟨Zc (Zdg hx hy g3),rfl,rfl⟩
 try simp only [sQ,ne_eq] at g3
 refine ZK (ZD (Zm (Zd (xM (h:=xD (h:=xA (h:=?_)))))))
 exact Zx (k+1) [] so2 ⟨rfl,oz,ZaZ hx hy g3 he⟩ t4 rfl
 try simp only [sQ,ne_eq] at g2
 refine ZA (ZQ (ZB (Zs (Zm (Za (xA (h:=Zf ?_)))))))
 exact eR t1 ⟨Zc (eqT oz oz he),rfl,rfl⟩

theorem Zky (q q':Option Addr) (cp cp':Nat) (xs ys:List Int) (B:Kn) (ha:SlK B q cp 1 Z9 xs) (hb:SlK B q' cp' 1 Z9 ys):Z1 (pj J) 22 [.slice q xs.length cp,.slice q' ys.length cp'] B (.bool (decide (xs=ys))):=by
 refine cB 26 Tryz.func22 (h:=?_)
 have han:=ha.len
 have hbn:=hb.len
 refine Za (xA (h:=Ze (Za (xM (h:=xV Tryz.underlying58 (h:=xM (h:=xV Tryz.underlying58 (h:=Zaa (h:=Zb rfl (fun g1=>?_) (fun g1=>?_))))))))))
 try simp only [sQ,ne_eq] at g1
 refine Za (xA (h:=Zf (Zj ?_)))
 exact eR t1 ⟨Zc (ZeC g1),rfl,rfl⟩
 try simp only [sQ,ne_eq] at g1
 refine wSk (Ze (Za (xA (h:=Zg (Zv (α:=Nat) [0,1,10] (fun k=>[(5,.int .i64 k)]) [] (fun k=>[]) (fun k Bx=>Bx=B∧k≤xs.length∧xs.take k=ys.take k) (fun k=>xs.length - k) 0 t1 rfl (⟨rfl,Nat.zero_le _,by simp⟩) (fun k B1 hle1 hI=>?_))))))
 obtain ⟨rfl,hk,he⟩:=hI
 refine Zz [(0,_),(1,_),(5,_),(10,_)] [] t4 rfl (Ze (Za (xM (h:=xM (h:=xV Tryz.underlying58 (h:=ZC (h:=Zb rfl (fun g2=>?_) (fun g2=>?_))))))))
 try simp only [sQ,ne_eq] at g2
 refine wSk (Ze (Zg (Ze (ZW (same _ _) mo kr ⟨rfl,rfl⟩ (fun _ _=>?_)))))
 refine aM 0 rfl (h:=aM 1 rfl (h:=?_))
 obtain ⟨x,hx⟩:=ZM (xs:=xs) (i:=k) om
 obtain ⟨bb3,oo3,rfl⟩:=ha.base hx
 obtain ⟨_,rfl,hc4⟩:=ha.elem hx
 refine aIx 2 rfl Tryz.underlying58 sz3 (h:=aT 3 rfl (Z3 fun D=>Zn rfl rfl lk3 rfl (hc4 _ 0 _ rfl) r4) (h:=aM 4 rfl (h:=aM 5 rfl (h:=?_))))
 obtain ⟨y,hy⟩:=ZM (xs:=ys) (i:=k) om
 obtain ⟨bb6,oo6,rfl⟩:=hb.base hy
 obtain ⟨_,rfl,hc7⟩:=hb.elem hy
 refine aIx 6 rfl Tryz.underlying58 sz3 (h:=aT 7 rfl (Z3 fun D=>Zn rfl rfl lk3 rfl (hc7 _ 0 _ rfl) r4) (h:=ZwM 8 rfl (h:=Zy kr kr ?_)))
 refine Zm (Zb rfl (fun g3=>?_) (fun g3=>?_))
 try simp only [sQ,ne_eq] at g3
 refine Za (xA (h:=Zf (Zt (Zj (ZJ (Zt (Zj ?_)))))))
 exact eR t1 ⟨Zc (Zdg hx hy g3),rfl,rfl⟩
 try simp only [sQ,ne_eq] at g3
 refine ZK (ZD (Zm (Zd (xM (h:=xD (h:=xA (h:=?_)))))))
 exact Zx (k+1) [] so2 ⟨rfl,oz,ZaZ hx hy g3 he⟩ t4 rfl
 try simp only [sQ,ne_eq] at g2
 refine ZA (ZQ (ZB (Zs (Zm (Za (xA (h:=Zf ?_)))))))
 exact eR t1 ⟨Zc (eqT oz oz he),rfl,rfl⟩

theorem ZsW (q q':Option Addr) (cp cp':Nat) (xs ys:List DUser) (B:Kn) (ha:SlK B q cp 3 ZL xs) (hb:SlK B q' cp' 3 ZL ys):Z1 (pj J) 48 [.slice q xs.length cp,.slice q' ys.length cp'] B (.bool (decide (xs=ys))):=by
 refine cB 27 Tryz.func48 (h:=?_)
 have han:=ha.len
 have hbn:=hb.len
 refine Za (xA (h:=Ze (Za (xM (h:=xV Tryz.underlying35 (h:=xM (h:=xV Tryz.underlying35 (h:=Zaa (h:=Zb rfl (fun g1=>?_) (fun g1=>?_))))))))))
 try simp only [sQ,ne_eq] at g1
 refine Za (xA (h:=Zf (Zj ?_)))
 exact eR t1 ⟨Zc (ZeC g1),rfl,rfl⟩
 try simp only [sQ,ne_eq] at g1
 refine wSk (Ze (Za (xA (h:=Zg (Zv (α:=Nat) [0,1,10] (fun k=>[(5,.int .i64 k)]) [] (fun k=>[]) (fun k Bx=>Bx=B∧k≤xs.length∧xs.take k=ys.take k) (fun k=>xs.length - k) 0 t1 rfl (⟨rfl,Nat.zero_le _,by simp⟩) (fun k B1 hle1 hI=>?_))))))
 obtain ⟨rfl,hk,he⟩:=hI
 refine Zz [(0,_),(1,_),(5,_),(10,_)] [] t4 rfl (Ze (Za (xM (h:=xM (h:=xV Tryz.underlying35 (h:=ZC (h:=Zb rfl (fun g2=>?_) (fun g2=>?_))))))))
 try simp only [sQ,ne_eq] at g2
 refine wSk (Ze (Zg (Ze (ZW (same _ _) mo kr ⟨rfl,rfl⟩ (fun _ _=>?_)))))
 refine aM 0 rfl (h:=aM 1 rfl (h:=?_))
 obtain ⟨x,hx⟩:=ZM (xs:=xs) (i:=k) om
 obtain ⟨bb3,oo3,rfl⟩:=ha.base hx
 obtain ⟨_,⟨rfl,hb4,hb4b⟩,hc4⟩:=ha.elem hx
 refine aIx 2 rfl Tryz.underlying35 Zcv (h:=aT 3 rfl (Z3 fun D=>ZI [_,_,_] rfl rfl Zfu rfl (Zhh hc4 0 rfl rfl) r4) (h:=aM 4 rfl (h:=aM 5 rfl (h:=?_))))
 obtain ⟨y,hy⟩:=ZM (xs:=ys) (i:=k) om
 obtain ⟨bb6,oo6,rfl⟩:=hb.base hy
 obtain ⟨_,⟨rfl,hb7,hb7b⟩,hc7⟩:=hb.elem hy
 refine aIx 6 rfl Tryz.underlying35 Zcv (h:=aT 7 rfl (Z3 fun D=>ZI [_,_,_] rfl rfl Zfu rfl (Zhh hc7 0 rfl rfl) r4) (h:=aT 8 rfl (Z3 fun D=>Z5 rfl rfl ZEe rfl (Zvu x y _ ) r4) (h:=aN 9 rfl (h:=Zy kr kr ?_))))
 refine Zm (Zb rfl (fun g3=>?_) (fun g3=>?_))
 try simp only [sQ,ne_eq] at g3
 refine Za (xA (h:=Zf (Zt (Zj (ZJ (Zt (Zj ?_)))))))
 exact eR t1 ⟨Zc (Zdg hx hy g3),rfl,rfl⟩
 try simp only [sQ,ne_eq] at g3
 refine ZK (ZD (Zm (Zd (xM (h:=xD (h:=xA (h:=?_)))))))
 exact Zx (k+1) [] so2 ⟨rfl,oz,ZaZ hx hy g3 he⟩ t4 rfl
 try simp only [sQ,ne_eq] at g2
 refine ZA (ZQ (ZB (Zs (Zm (Za (xA (h:=Zf ?_)))))))
 exact eR t1 ⟨Zc (eqT oz oz he),rfl,rfl⟩

theorem Zp5 (q q':Option Addr) (cp cp':Nat) (xs ys:List DGrant) (B:Kn) (ha:SlK B q cp 2 Zaf xs) (hb:SlK B q' cp' 2 Zaf ys):Z1 (pj J) 150 [.slice q xs.length cp,.slice q' ys.length cp'] B (.bool (decide (xs=ys))):=by
 refine cB 27 Tryz.func150 (h:=?_)
 have han:=ha.len
 have hbn:=hb.len
 refine Za (xA (h:=Ze (Za (xM (h:=xV Tryz.underlying85 (h:=xM (h:=xV Tryz.underlying85 (h:=Zaa (h:=Zb rfl (fun g1=>?_) (fun g1=>?_))))))))))
 try simp only [sQ,ne_eq] at g1
 refine Za (xA (h:=Zf (Zj ?_)))
 exact eR t1 ⟨Zc (ZeC g1),rfl,rfl⟩
 try simp only [sQ,ne_eq] at g1
 refine wSk (Ze (Za (xA (h:=Zg (Zv (α:=Nat) [0,1,10] (fun k=>[(5,.int .i64 k)]) [] (fun k=>[]) (fun k Bx=>Bx=B∧k≤xs.length∧xs.take k=ys.take k) (fun k=>xs.length - k) 0 t1 rfl (⟨rfl,Nat.zero_le _,by simp⟩) (fun k B1 hle1 hI=>?_))))))
 obtain ⟨rfl,hk,he⟩:=hI
 refine Zz [(0,_),(1,_),(5,_),(10,_)] [] t4 rfl (Ze (Za (xM (h:=xM (h:=xV Tryz.underlying85 (h:=ZC (h:=Zb rfl (fun g2=>?_) (fun g2=>?_))))))))
 try simp only [sQ,ne_eq] at g2
 refine wSk (Ze (Zg (Ze (ZW (same _ _) mo kr ⟨rfl,rfl⟩ (fun _ _=>?_)))))
 refine aM 0 rfl (h:=aM 1 rfl (h:=?_))
 obtain ⟨x,hx⟩:=ZM (xs:=xs) (i:=k) om
 obtain ⟨bb3,oo3,rfl⟩:=ha.base hx
 obtain ⟨_,⟨rfl,hb4⟩,hc4⟩:=ha.elem hx
 refine aIx 2 rfl Tryz.underlying85 ZeP (h:=aT 3 rfl (Z3 fun D=>ZI [_,_] rfl rfl ZrX rfl (Zhh hc4 0 rfl rfl) r4) (h:=aM 4 rfl (h:=aM 5 rfl (h:=?_))))
 obtain ⟨y,hy⟩:=ZM (xs:=ys) (i:=k) om
 obtain ⟨bb6,oo6,rfl⟩:=hb.base hy
 obtain ⟨_,⟨rfl,hb7⟩,hc7⟩:=hb.elem hy
 refine aIx 6 rfl Tryz.underlying85 ZeP (h:=aT 7 rfl (Z3 fun D=>ZI [_,_] rfl rfl ZrX rfl (Zhh hc7 0 rfl rfl) r4) (h:=aT 8 rfl (Z3 fun D=>Z5 rfl rfl ZDg rfl (Zs3 x y _ ) r4) (h:=aN 9 rfl (h:=Zy kr kr ?_))))
 refine Zm (Zb rfl (fun g3=>?_) (fun g3=>?_))
 try simp only [sQ,ne_eq] at g3
 refine Za (xA (h:=Zf (Zt (Zj (ZJ (Zt (Zj ?_)))))))
 exact eR t1 ⟨Zc (Zdg hx hy g3),rfl,rfl⟩
 try simp only [sQ,ne_eq] at g3
 refine ZK (ZD (Zm (Zd (xM (h:=xD (h:=xA (h:=?_)))))))
 exact Zx (k+1) [] so2 ⟨rfl,oz,ZaZ hx hy g3 he⟩ t4 rfl
 try simp only [sQ,ne_eq] at g2
 refine ZA (ZQ (ZB (Zs (Zm (Za (xA (h:=Zf ?_)))))))
 exact eR t1 ⟨Zc (eqT oz oz he),rfl,rfl⟩

theorem Zs0 (q q':Option Addr) (cp cp':Nat) (xs ys:List DMail) (B:Kn) (ha:SlK B q cp 3 Zah xs) (hb:SlK B q' cp' 3 Zah ys):Z1 (pj J) 195 [.slice q xs.length cp,.slice q' ys.length cp'] B (.bool (decide (xs=ys))):=by
 refine cB 27 Tryz.func195 (h:=?_)
 have han:=ha.len
 have hbn:=hb.len
 refine Za (xA (h:=Ze (Za (xM (h:=xV Tryz.underlying80 (h:=xM (h:=xV Tryz.underlying80 (h:=Zaa (h:=Zb rfl (fun g1=>?_) (fun g1=>?_))))))))))
 try simp only [sQ,ne_eq] at g1
 refine Za (xA (h:=Zf (Zj ?_)))
 exact eR t1 ⟨Zc (ZeC g1),rfl,rfl⟩
 try simp only [sQ,ne_eq] at g1
 refine wSk (Ze (Za (xA (h:=Zg (Zv (α:=Nat) [0,1,10] (fun k=>[(5,.int .i64 k)]) [] (fun k=>[]) (fun k Bx=>Bx=B∧k≤xs.length∧xs.take k=ys.take k) (fun k=>xs.length - k) 0 t1 rfl (⟨rfl,Nat.zero_le _,by simp⟩) (fun k B1 hle1 hI=>?_))))))
 obtain ⟨rfl,hk,he⟩:=hI
 refine Zz [(0,_),(1,_),(5,_),(10,_)] [] t4 rfl (Ze (Za (xM (h:=xM (h:=xV Tryz.underlying80 (h:=ZC (h:=Zb rfl (fun g2=>?_) (fun g2=>?_))))))))
 try simp only [sQ,ne_eq] at g2
 refine wSk (Ze (Zg (Ze (ZW (same _ _) mo kr ⟨rfl,rfl⟩ (fun _ _=>?_)))))
 refine aM 0 rfl (h:=aM 1 rfl (h:=?_))
 obtain ⟨x,hx⟩:=ZM (xs:=xs) (i:=k) om
 obtain ⟨bb3,oo3,rfl⟩:=ha.base hx
 obtain ⟨_,⟨rfl,hb4⟩,hc4⟩:=ha.elem hx
 refine aIx 2 rfl Tryz.underlying80 ZcB (h:=aT 3 rfl (Z3 fun D=>ZI [_,_,_] rfl rfl ZhA rfl (Zhh hc4 0 rfl rfl) r4) (h:=aM 4 rfl (h:=aM 5 rfl (h:=?_))))
 obtain ⟨y,hy⟩:=ZM (xs:=ys) (i:=k) om
 obtain ⟨bb6,oo6,rfl⟩:=hb.base hy
 obtain ⟨_,⟨rfl,hb7⟩,hc7⟩:=hb.elem hy
 refine aIx 6 rfl Tryz.underlying80 ZcB (h:=aT 7 rfl (Z3 fun D=>ZI [_,_,_] rfl rfl ZhA rfl (Zhh hc7 0 rfl rfl) r4) (h:=aT 8 rfl (Z3 fun D=>Z5 rfl rfl ZCQ rfl (Zvw x y _ ) r4) (h:=aN 9 rfl (h:=Zy kr kr ?_))))
 refine Zm (Zb rfl (fun g3=>?_) (fun g3=>?_))
 try simp only [sQ,ne_eq] at g3
 refine Za (xA (h:=Zf (Zt (Zj (ZJ (Zt (Zj ?_)))))))
 exact eR t1 ⟨Zc (Zdg hx hy g3),rfl,rfl⟩
 try simp only [sQ,ne_eq] at g3
 refine ZK (ZD (Zm (Zd (xM (h:=xD (h:=xA (h:=?_)))))))
 exact Zx (k+1) [] so2 ⟨rfl,oz,ZaZ hx hy g3 he⟩ t4 rfl
 try simp only [sQ,ne_eq] at g2
 refine ZA (ZQ (ZB (Zs (Zm (Za (xA (h:=Zf ?_)))))))
 exact eR t1 ⟨Zc (eqT oz oz he),rfl,rfl⟩

theorem Zvy (q1:Option Addr) (cp1:Nat) (q2:Option Addr) (cp2:Nat) (a b:DItem) (B:Kn) (h1:SlK B q1 cp1 1 Zel a.left) (h2:SlK B q2 cp2 1 Zel b.left):Z1 (pj J) 152 [.agg #[.int .i64 a.id,str a.fr,str a.text,.slice q1 a.left.length cp1],.agg #[.int .i64 b.id,str b.fr,str b.text,.slice q2 b.left.length cp2]] B (.bool (decide (a=b))):=by
 refine cB 26 Tryz.func152 (h:=?_)
 refine Za (xBx [_,_,_,_] (h:=fun b1=>xBx [_,_,_,_] (h:=fun b2=>xA (h:=tL2 (Ze (Za (xW Ze7 (h:=x1 lk3 0 (h:=xW Ze7 (h:=x1 lk3 1 (h:=Zaa (h:=Zb rfl (fun g1=>?_) (fun g1=>?_)))))))))))))
 try simp only [sQ,ne_eq] at g1
 refine Za (xA (h:=Zf (Zj ?_)))
 exact eR t1 ⟨Zc (by symm;rw [decide_eq_false_iff_not];rintro rfl;exact g1 rfl),rfl,rfl⟩
 try simp only [sQ,ne_eq] at g1
 refine wSk (Ze (Za (xW Ze6 (h:=x1 lk9 0 (h:=xW Ze6 (h:=x1 lk9 1 (h:=Zd0 (h:=Zb rfl (fun g2=>?_) (fun g2=>?_)))))))))
 try simp only [sQ,ne_eq] at g2
 refine Za (xA (h:=Zf (Zj ?_)))
 exact eR t1 ⟨Zc (by symm;rw [decide_eq_false_iff_not];rintro rfl;exact g2 rfl),rfl,rfl⟩
 try simp only [sQ,ne_eq] at g2
 refine wSk (Ze (Za (xW Zg0 (h:=x1 lk9 0 (h:=xW Zg0 (h:=x1 lk9 1 (h:=Zd0 (h:=Zb rfl (fun g3=>?_) (fun g3=>?_)))))))))
 try simp only [sQ,ne_eq] at g3
 refine Za (xA (h:=Zf (Zj ?_)))
 exact eR t1 ⟨Zc (by symm;rw [decide_eq_false_iff_not];rintro rfl;exact g3 rfl),rfl,rfl⟩
 try simp only [sQ,ne_eq] at g3
 refine wSk (Ze (Za (xW ZdV (h:=x1 ZgU 0 (h:=xW ZdV (h:=x1 ZgU 1 (h:=xR ZDe rfl (ZnH _ _ _ _ _ _ _ h1 h2) (h:=xN (h:=Zb rfl (fun g4=>?_) (fun g4=>?_))))))))))
 try simp only [sQ,ne_eq] at g4
 refine Za (xA (h:=Zf (Zj ?_)))
 exact eR t1 ⟨Zc (by symm;rw [decide_eq_false_iff_not];rintro rfl;exact g4 rfl),rfl,rfl⟩
 try simp only [sQ,ne_eq] at g4
 refine wSk (Za (xA (h:=Zf ?_)))
 exact eR t1 ⟨Zc (by symm;rw [decide_eq_true_eq];cases a;cases b;simp_all),rfl,rfl⟩

theorem Zs2 (q q':Option Addr) (cp cp':Nat) (xs ys:List DItem) (B:Kn) (ha:SlK B q cp 4 Zar xs) (hb:SlK B q' cp' 4 Zar ys):Z1 (pj J) 103 [.slice q xs.length cp,.slice q' ys.length cp'] B (.bool (decide (xs=ys))):=by
 refine cB 27 Tryz.func103 (h:=?_)
 have han:=ha.len
 have hbn:=hb.len
 refine Za (xA (h:=Ze (Za (xM (h:=xV Tryz.underlying37 (h:=xM (h:=xV Tryz.underlying37 (h:=Zaa (h:=Zb rfl (fun g1=>?_) (fun g1=>?_))))))))))
 try simp only [sQ,ne_eq] at g1
 refine Za (xA (h:=Zf (Zj ?_)))
 exact eR t1 ⟨Zc (ZeC g1),rfl,rfl⟩
 try simp only [sQ,ne_eq] at g1
 refine wSk (Ze (Za (xA (h:=Zg (Zv (α:=Nat) [0,1,10] (fun k=>[(5,.int .i64 k)]) [] (fun k=>[]) (fun k Bx=>Bx=B∧k≤xs.length∧xs.take k=ys.take k) (fun k=>xs.length - k) 0 t1 rfl (⟨rfl,Nat.zero_le _,by simp⟩) (fun k B1 hle1 hI=>?_))))))
 obtain ⟨rfl,hk,he⟩:=hI
 refine Zz [(0,_),(1,_),(5,_),(10,_)] [] t4 rfl (Ze (Za (xM (h:=xM (h:=xV Tryz.underlying37 (h:=ZC (h:=Zb rfl (fun g2=>?_) (fun g2=>?_))))))))
 try simp only [sQ,ne_eq] at g2
 refine wSk (Ze (Zg (Ze (ZW (same _ _) mo kr ⟨rfl,rfl⟩ (fun _ _=>?_)))))
 refine aM 0 rfl (h:=aM 1 rfl (h:=?_))
 obtain ⟨x,hx⟩:=ZM (xs:=xs) (i:=k) om
 obtain ⟨bb3,oo3,rfl⟩:=ha.base hx
 obtain ⟨_,⟨qi4,ci4,rfl,hi4,hb4,hb4b⟩,hc4⟩:=ha.elem hx
 have hi4n:=hi4.len
 refine aIx 2 rfl Tryz.underlying37 ZcR (h:=aT 3 rfl (Z3 fun D=>ZI [_,_,_,_] rfl rfl ZfX rfl (Zhh hc4 0 rfl rfl) r4) (h:=aM 4 rfl (h:=aM 5 rfl (h:=?_))))
 obtain ⟨y,hy⟩:=ZM (xs:=ys) (i:=k) om
 obtain ⟨bb6,oo6,rfl⟩:=hb.base hy
 obtain ⟨_,⟨qi7,ci7,rfl,hi7,hb7,hb7b⟩,hc7⟩:=hb.elem hy
 have hi7n:=hi7.len
 refine aIx 6 rfl Tryz.underlying37 ZcR (h:=aT 7 rfl (Z3 fun D=>ZI [_,_,_,_] rfl rfl ZfX rfl (Zhh hc7 0 rfl rfl) r4) (h:=aT 8 rfl (Z3 fun D=>Z5 rfl rfl ZDK rfl (Zvy _ _ _ _ x y _ hi4 hi7) r4) (h:=aN 9 rfl (h:=Zy kr kr ?_))))
 refine Zm (Zb rfl (fun g3=>?_) (fun g3=>?_))
 try simp only [sQ,ne_eq] at g3
 refine Za (xA (h:=Zf (Zt (Zj (ZJ (Zt (Zj ?_)))))))
 exact eR t1 ⟨Zc (Zdg hx hy g3),rfl,rfl⟩
 try simp only [sQ,ne_eq] at g3
 refine ZK (ZD (Zm (Zd (xM (h:=xD (h:=xA (h:=?_)))))))
 exact Zx (k+1) [] so2 ⟨rfl,oz,ZaZ hx hy g3 he⟩ t4 rfl
 try simp only [sQ,ne_eq] at g2
 refine ZA (ZQ (ZB (Zs (Zm (Za (xA (h:=Zf ?_)))))))
 exact eR t1 ⟨Zc (eqT oz oz he),rfl,rfl⟩

theorem ZsY (q1:Option Addr) (cp1:Nat) (q2:Option Addr) (cp2:Nat) (a b:DQueue) (B:Kn) (h1:SlK B q1 cp1 4 Zar a.items) (h2:SlK B q2 cp2 4 Zar b.items):Z1 (pj J) 50 [.agg #[.int .i64 a.next,.slice q1 a.items.length cp1],.agg #[.int .i64 b.next,.slice q2 b.items.length cp2]] B (.bool (decide (a=b))):=by
 refine cB 16 Tryz.func50 (h:=?_)
 refine Za (xBx [_,_] (h:=fun b1=>xBx [_,_] (h:=fun b2=>xA (h:=tL2 (Ze (Za (xW Zhw (h:=x1 lk3 0 (h:=xW Zhw (h:=x1 lk3 1 (h:=Zaa (h:=Zb rfl (fun g1=>?_) (fun g1=>?_)))))))))))))
 try simp only [sQ,ne_eq] at g1
 refine Za (xA (h:=Zf (Zj ?_)))
 exact eR t1 ⟨Zc (by symm;rw [decide_eq_false_iff_not];rintro rfl;exact g1 rfl),rfl,rfl⟩
 try simp only [sQ,ne_eq] at g1
 refine wSk (Ze (Za (xW Zc7 (h:=x1 ZmC 0 (h:=xW Zc7 (h:=x1 ZmC 1 (h:=xR ZEc rfl (Zs2 _ _ _ _ _ _ _ h1 h2) (h:=xN (h:=Zb rfl (fun g2=>?_) (fun g2=>?_))))))))))
 try simp only [sQ,ne_eq] at g2
 refine Za (xA (h:=Zf (Zj ?_)))
 exact eR t1 ⟨Zc (by symm;rw [decide_eq_false_iff_not];rintro rfl;exact g2 rfl),rfl,rfl⟩
 try simp only [sQ,ne_eq] at g2
 refine wSk (Za (xA (h:=Zf ?_)))
 exact eR t1 ⟨Zc (by symm;rw [decide_eq_true_eq];cases a;cases b;simp_all),rfl,rfl⟩

theorem Zyz (q1:Option Addr) (cp1:Nat) (q2:Option Addr) (cp2:Nat) (a b:DBox) (B:Kn) (h1:SlK B q1 cp1 3 Zah a.mail) (h2:SlK B q2 cp2 3 Zah b.mail):Z1 (pj J) 151 [.agg #[.int .i64 a.next,.slice q1 a.mail.length cp1],.agg #[.int .i64 b.next,.slice q2 b.mail.length cp2]] B (.bool (decide (a=b))):=by
 refine cB 16 Tryz.func151 (h:=?_)
 refine Za (xBx [_,_] (h:=fun b1=>xBx [_,_] (h:=fun b2=>xA (h:=tL2 (Ze (Za (xW Zhv (h:=x1 lk3 0 (h:=xW Zhv (h:=x1 lk3 1 (h:=Zaa (h:=Zb rfl (fun g1=>?_) (fun g1=>?_)))))))))))))
 try simp only [sQ,ne_eq] at g1
 refine Za (xA (h:=Zf (Zj ?_)))
 exact eR t1 ⟨Zc (by symm;rw [decide_eq_false_iff_not];rintro rfl;exact g1 rfl),rfl,rfl⟩
 try simp only [sQ,ne_eq] at g1
 refine wSk (Ze (Za (xW ZaI (h:=x1 Zfs 0 (h:=xW ZaI (h:=x1 Zfs 1 (h:=xR ZDf rfl (Zs0 _ _ _ _ _ _ _ h1 h2) (h:=xN (h:=Zb rfl (fun g2=>?_) (fun g2=>?_))))))))))
 try simp only [sQ,ne_eq] at g2
 refine Za (xA (h:=Zf (Zj ?_)))
 exact eR t1 ⟨Zc (by symm;rw [decide_eq_false_iff_not];rintro rfl;exact g2 rfl),rfl,rfl⟩
 try simp only [sQ,ne_eq] at g2
 refine wSk (Za (xA (h:=Zf ?_)))
 exact eR t1 ⟨Zc (by symm;rw [decide_eq_true_eq];cases a;cases b;simp_all),rfl,rfl⟩

theorem Zp6 (qa1 qb1:Option Addr) (ca1 cb1:Nat) (qa2 qb2:Option Addr) (ca2 cb2:Nat) (a b:DFolder) (B:Kn) (hg1:SlK B qa1 ca1 2 Zaf a.grants) (hm1:SlK B qb1 cb1 3 Zah a.mail) (hg2:SlK B qa2 ca2 2 Zaf b.grants) (hm2:SlK B qb2 cb2 3 Zah b.mail):Z1 (pj J) 102 [.agg #[str a.owner,str a.name,.slice qa1 a.grants.length ca1,.int .i64 a.next,.slice qb1 a.mail.length cb1],.agg #[str b.owner,str b.name,.slice qa2 b.grants.length ca2,.int .i64 b.next,.slice qb2 b.mail.length cb2]] B (.bool (decide (a=b))):=by
 refine cB 27 Tryz.func102 (h:=?_)
 refine Za (xBx [_,_,_,_,_] (h:=fun b1=>xBx [_,_,_,_,_] (h:=fun b2=>xA (h:=tL2 (Ze (Za (xW Zcy (h:=x1 lk9 0 (h:=xW Zcy (h:=x1 lk9 1 (h:=Zd0 (h:=Zb rfl (fun g1=>?_) (fun g1=>?_)))))))))))))
 try simp only [sQ,ne_eq] at g1
 refine Za (xA (h:=Zf (Zj ?_)))
 exact eR t1 ⟨Zc (by symm;rw [decide_eq_false_iff_not];rintro rfl;exact g1 rfl),rfl,rfl⟩
 try simp only [sQ,ne_eq] at g1
 refine wSk (Ze (Za (xW ZeJ (h:=x1 lk9 0 (h:=xW ZeJ (h:=x1 lk9 1 (h:=Zd0 (h:=Zb rfl (fun g2=>?_) (fun g2=>?_)))))))))
 try simp only [sQ,ne_eq] at g2
 refine Za (xA (h:=Zf (Zj ?_)))
 exact eR t1 ⟨Zc (by symm;rw [decide_eq_false_iff_not];rintro rfl;exact g2 rfl),rfl,rfl⟩
 try simp only [sQ,ne_eq] at g2
 refine wSk (Ze (Za (xW ZfB (h:=x1 Zwt 0 (h:=xW ZfB (h:=x1 Zwt 1 (h:=xR ZDM rfl (Zp5 _ _ _ _ _ _ _ hg1 hg2) (h:=xN (h:=Zb rfl (fun g3=>?_) (fun g3=>?_))))))))))
 try simp only [sQ,ne_eq] at g3
 refine Za (xA (h:=Zf (Zj ?_)))
 exact eR t1 ⟨Zc (by symm;rw [decide_eq_false_iff_not];rintro rfl;exact g3 rfl),rfl,rfl⟩
 try simp only [sQ,ne_eq] at g3
 refine wSk (Ze (Za (xW Zed (h:=xL [_,_] Zhm 0 (h:=xW Zed (h:=xL [_,_] Zhm 1 (h:=xR ZDL rfl (Zyz _ _ _ _ (⟨a.next,a.mail⟩:DBox) (⟨b.next,b.mail⟩:DBox) _ hm1 hm2) (h:=xN (h:=Zb rfl (fun g4=>?_) (fun g4=>?_))))))))))
 try simp only [sQ,ne_eq] at g4
 refine Za (xA (h:=Zf (Zj ?_)))
 exact eR t1 ⟨Zc (by symm;rw [decide_eq_false_iff_not];rintro rfl;exact g4 rfl),rfl,rfl⟩
 try simp only [sQ,ne_eq] at g4
 refine wSk (Za (xA (h:=Zf ?_)))
 exact eR t1 ⟨Zc (by symm;rw [decide_eq_true_eq];cases a;cases b;simp_all),rfl,rfl⟩

theorem ZnI (q q':Option Addr) (cp cp':Nat) (xs ys:List DFolder) (B:Kn) (ha:SlK B q cp 5 ZF xs) (hb:SlK B q' cp' 5 ZF ys):Z1 (pj J) 49 [.slice q xs.length cp,.slice q' ys.length cp'] B (.bool (decide (xs=ys))):=by
 refine cB 27 Tryz.func49 (h:=?_)
 have han:=ha.len
 have hbn:=hb.len
 refine Za (xA (h:=Ze (Za (xM (h:=xV Tryz.underlying36 (h:=xM (h:=xV Tryz.underlying36 (h:=Zaa (h:=Zb rfl (fun g1=>?_) (fun g1=>?_))))))))))
 try simp only [sQ,ne_eq] at g1
 refine Za (xA (h:=Zf (Zj ?_)))
 exact eR t1 ⟨Zc (ZeC g1),rfl,rfl⟩
 try simp only [sQ,ne_eq] at g1
 refine wSk (Ze (Za (xA (h:=Zg (Zv (α:=Nat) [0,1,10] (fun k=>[(5,.int .i64 k)]) [] (fun k=>[]) (fun k Bx=>Bx=B∧k≤xs.length∧xs.take k=ys.take k) (fun k=>xs.length - k) 0 t1 rfl (⟨rfl,Nat.zero_le _,by simp⟩) (fun k B1 hle1 hI=>?_))))))
 obtain ⟨rfl,hk,he⟩:=hI
 refine Zz [(0,_),(1,_),(5,_),(10,_)] [] t4 rfl (Ze (Za (xM (h:=xM (h:=xV Tryz.underlying36 (h:=ZC (h:=Zb rfl (fun g2=>?_) (fun g2=>?_))))))))
 try simp only [sQ,ne_eq] at g2
 refine wSk (Ze (Zg (Ze (ZW (same _ _) mo kr ⟨rfl,rfl⟩ (fun _ _=>?_)))))
 refine aM 0 rfl (h:=aM 1 rfl (h:=?_))
 obtain ⟨x,hx⟩:=ZM (xs:=xs) (i:=k) om
 obtain ⟨bb3,oo3,rfl⟩:=ha.base hx
 obtain ⟨_,⟨qg4,cg4,qm4,cm4,rfl,hg4,hm4,hb4,hb4b⟩,hc4⟩:=ha.elem hx
 have hg4n:=hg4.len
 have hm4n:=hm4.len
 have hm4s:=ZaN hm4
 refine aIx 2 rfl Tryz.underlying36 ZeO (h:=aT 3 rfl (Z3 fun D=>ZI [_,_,_,_,_] rfl rfl Zj5 rfl (Zhh hc4 0 rfl rfl) r4) (h:=aM 4 rfl (h:=aM 5 rfl (h:=?_))))
 obtain ⟨y,hy⟩:=ZM (xs:=ys) (i:=k) om
 obtain ⟨bb6,oo6,rfl⟩:=hb.base hy
 obtain ⟨_,⟨qg7,cg7,qm7,cm7,rfl,hg7,hm7,hb7,hb7b⟩,hc7⟩:=hb.elem hy
 have hg7n:=hg7.len
 have hm7n:=hm7.len
 have hm7s:=ZaN hm7
 refine aIx 6 rfl Tryz.underlying36 ZeO (h:=aT 7 rfl (Z3 fun D=>ZI [_,_,_,_,_] rfl rfl Zj5 rfl (Zhh hc7 0 rfl rfl) r4) (h:=aT 8 rfl (Z3 fun D=>Z5 rfl rfl ZEd rfl (Zp6 _ _ _ _ _ _ _ _ x y _ hg4 hm4 hg7 hm7) r4) (h:=aN 9 rfl (h:=Zy kr kr ?_))))
 refine Zm (Zb rfl (fun g3=>?_) (fun g3=>?_))
 try simp only [sQ,ne_eq] at g3
 refine Za (xA (h:=Zf (Zt (Zj (ZJ (Zt (Zj ?_)))))))
 exact eR t1 ⟨Zc (Zdg hx hy g3),rfl,rfl⟩
 try simp only [sQ,ne_eq] at g3
 refine ZK (ZD (Zm (Zd (xM (h:=xD (h:=xA (h:=?_)))))))
 exact Zx (k+1) [] so2 ⟨rfl,oz,ZaZ hx hy g3 he⟩ t4 rfl
 try simp only [sQ,ne_eq] at g2
 refine ZA (ZQ (ZB (Zs (Zm (Za (xA (h:=Zf ?_)))))))
 exact eR t1 ⟨Zc (eqT oz oz he),rfl,rfl⟩

theorem Zvz (qa1 qb1 qc1:Option Addr) (ca1 cb1 cc1:Nat) (qa2 qb2 qc2:Option Addr) (ca2 cb2 cc2:Nat) (a b:DHost) (B:Kn) (hu1:SlK B qa1 ca1 3 ZL a.users) (hf1:SlK B qb1 cb1 5 ZF a.folders) (hi1:SlK B qc1 cc1 4 Zar a.queue.items) (hu2:SlK B qa2 ca2 3 ZL b.users) (hf2:SlK B qb2 cb2 5 ZF b.folders) (hi2:SlK B qc2 cc2 4 Zar b.queue.items):Z1 (pj J) 13 [.agg #[str a.domain,.slice qa1 a.users.length ca1,.slice qb1 a.folders.length cb1,.int .i64 a.queue.next,.slice qc1 a.queue.items.length cc1],.agg #[str b.domain,.slice qa2 b.users.length ca2,.slice qb2 b.folders.length cb2,.int .i64 b.queue.next,.slice qc2 b.queue.items.length cc2]] B (.bool (decide (a=b))):=by
 refine cB 28 Tryz.func13 (h:=?_)
 refine Za (xBx [_,_,_,_,_] (h:=fun b1=>xBx [_,_,_,_,_] (h:=fun b2=>xA (h:=tL2 (Ze (Za (xW Zjo (h:=x1 lk9 0 (h:=xW Zjo (h:=x1 lk9 1 (h:=Zd0 (h:=Zb rfl (fun g1=>?_) (fun g1=>?_)))))))))))))
 try simp only [sQ,ne_eq] at g1
 refine Za (xA (h:=Zf (Zj ?_)))
 exact eR t1 ⟨Zc (by symm;rw [decide_eq_false_iff_not];rintro rfl;exact g1 rfl),rfl,rfl⟩
 try simp only [sQ,ne_eq] at g1
 refine wSk (Ze (Za (xW Zcz (h:=x1 ZlN 0 (h:=xW Zcz (h:=x1 ZlN 1 (h:=xR ZFH rfl (ZsW _ _ _ _ _ _ _ hu1 hu2) (h:=xN (h:=Zb rfl (fun g2=>?_) (fun g2=>?_))))))))))
 try simp only [sQ,ne_eq] at g2
 refine Za (xA (h:=Zf (Zj ?_)))
 exact eR t1 ⟨Zc (by symm;rw [decide_eq_false_iff_not];rintro rfl;exact g2 rfl),rfl,rfl⟩
 try simp only [sQ,ne_eq] at g2
 refine wSk (Ze (Za (xW Za5 (h:=x1 ZgE 0 (h:=xW Za5 (h:=x1 ZgE 1 (h:=xR ZFG rfl (ZnI _ _ _ _ _ _ _ hf1 hf2) (h:=xN (h:=Zb rfl (fun g3=>?_) (fun g3=>?_))))))))))
 try simp only [sQ,ne_eq] at g3
 refine Za (xA (h:=Zf (Zj ?_)))
 exact eR t1 ⟨Zc (by symm;rw [decide_eq_false_iff_not];rintro rfl;exact g3 rfl),rfl,rfl⟩
 try simp only [sQ,ne_eq] at g3
 refine wSk (Ze (Za (xW ZfC (h:=xL [_,_] Zqn 0 (h:=xW ZfC (h:=xL [_,_] Zqn 1 (h:=xR ZFF rfl (ZsY _ _ _ _ a.queue b.queue _ hi1 hi2) (h:=xN (h:=Zb rfl (fun g4=>?_) (fun g4=>?_))))))))))
 try simp only [sQ,ne_eq] at g4
 refine Za (xA (h:=Zf (Zj ?_)))
 exact eR t1 ⟨Zc (by symm;rw [decide_eq_false_iff_not];rintro rfl;exact g4 rfl),rfl,rfl⟩
 try simp only [sQ,ne_eq] at g4
 refine wSk (Za (xA (h:=Zf ?_)))
 exact eR t1 ⟨Zc (by symm;rw [decide_eq_true_eq];cases a;cases b;simp_all),rfl,rfl⟩

theorem Zqc (q:Option Addr) (cp:Nat) (x:DBox) (B:Kn) (hm:SlK B q cp 3 Zah x.mail):Zu (pj J) 238 [.agg #[.int .i64 x.next,.slice q x.mail.length cp]] B [] (fun v B' Ls=>B'=B∧∃l a c,Ls=[l]∧v = .agg #[.int .i64 x.next,.slice a x.mail.length c]∧ZR B l a c 146 3 Zah x.mail):=by
 refine cB 10 Tryz.func238 (h:=?_)
 have hxn:=hm.len
 refine Za (xBx [_,_] (h:=fun b1=>xAl [_,_] ZAZ (h:=fun b2=>tL2 (Ze (ZW (keeps _ [0] _) mo kr ⟨Kn.le.refl _,ZaH.refl _ _⟩ (fun _ _=>?_))))))
 refine aW 0 rfl Zhv (h:=aT 1 rfl (ZO fun D B L hI=>Zn rfl rfl lk3 rfl (atL 0 (hI.2.1.trans rfl) rfl rfl) r4) (h:=aW 3 rfl ZaI (h:=aT 4 rfl (ZO fun D B L hI=>Zn rfl rfl Zfs rfl (atL 0 (hI.2.1.trans rfl) rfl rfl) r4) (h:=ZV 2 kr rfl kr (ZcP (parts:=[]) [] rfl rfl Tryz.underlying80 ZcB ZiN rfl rfl rfl rfl rfl (fun b3=>?_))))))
 refine ⟨⟨Kn.le.refl _,t1⟩,(ZV 5 kr rfl kr (Zn8 (R:=Zah) 2 rfl (ZR.lit0 (R:=Zah)) rfl rfl rfl ZEu ZEZ rfl rfl rfl hm.rows Zah.one rfl om (fun l4 p4 c4 hv4=>?_)))⟩
 refine ⟨⟨Kn.le.refl _,t1⟩,(aT 6 rfl (ZO fun D B L hI=>Zcl (parts:=[(0,_),(1,_)]) [_,_] [_,_] rfl rfl ZE5 ZAZ rfl rfl rfl r4) (h:=Zb8 7 kr rfl kr kr kr (Zav [_,_] 1 [_,_] rfl rfl ZA0 rfl rfl rfl rfl rfl rfl rfl rfl ?_)))⟩
 refine Zm (tL3 (Zf ?_))
 exact eN [2] rfl ⟨⟨_,rfl,.inr ⟨[_,_],Zhm,ZbZ 1 rfl rfl rfl,rfl⟩⟩,trivial⟩ ⟨rfl,_,_,_,rfl,rfl,hv4⟩

theorem Zko (qa qb:Option Addr) (ca cb:Nat) (x:DFolder) (B:Kn) (hg:SlK B qa ca 2 Zaf x.grants) (hm:SlK B qb cb 3 Zah x.mail):Zu (pj J) 186 [.agg #[str x.owner,str x.name,.slice qa x.grants.length ca,.int .i64 x.next,.slice qb x.mail.length cb]] B [] (fun v B' Ls=>B'=B∧∃l a c l' a' c',Ls=[l,l']∧v = .agg #[str x.owner,str x.name,.slice a x.grants.length c,.int .i64 x.next,.slice a' x.mail.length c']∧ZR B l a c 223 2 Zaf x.grants∧ZR B l' a' c' 146 3 Zah x.mail):=by
 refine cB 13 Tryz.func186 (h:=?_)
 have hgn:=hg.len
 have hmn:=hm.len
 refine Za (xBx [_,_,_,_,_] (h:=fun b1=>xAl [_,_,_,_,_] Zqk (h:=fun b2=>tL2 (Za (xBs [] [] Tryz.underlying85 ZeP Zqs (h:=fun b3=>xW ZfB (h:=x1 Zwt 0 (h:=Zh (Zn8 (R:=Zaf) 2 rfl (ZR.lit0 (R:=Zaf)) rfl rfl rfl ZEt ZEY rfl rfl rfl hg.rows Zaf.one rfl om (fun l4 p4 c4 hv4=>?_))))))))))
 refine xW ZfB (h:=xS [_] 0 [_,_,_,_,_] ZEj (h:=tL3 (Za (xW Zed (h:=xL [_,_] Zhm 0 (h:=xC ZCU rfl (Zqc _ _ (⟨x.next,x.mail⟩:DBox) _ hm) (h:=?_)))))))
 rintro _ B5 _ hle5 ⟨rfl,l5,a5,c5,rfl,rfl,hs5⟩
 refine xW Zed (h:=xS [_,_] 0 [_,_,_,_,_] ZA0 (h:=tL4 (Za (xL [_,_,_,_,_] Zj5 0 (h:=xS [_,_,_,_,_] 1 [_,_,_,_,_] ZeO (h:=tL4 (Zf ?_)))))))
 exact eN [2,3] rfl ⟨⟨_,rfl,.inr ⟨[_,_,_,_,_],Zj5,ZbZ 1 rfl rfl rfl,rfl⟩⟩,trivial⟩ ⟨rfl,_,_,_,_,_,_,rfl,rfl,hv4,hs5⟩

theorem Zbm (k:Nat) (hk:k≤1000000000000000) (B:Kn):Z1 (pj J) 104 [.int .i64 k] B (str (ZU k)):=by
 refine cB 20 Tryz.func104 (h:=?_)
 refine Za (xA (h:=Ze (Za (xM (h:=Zbd (h:=Zb rfl (fun g1=>?_) (fun g1=>?_)))))))
 try simp only [sQ,ne_eq] at g1
 refine Za (xA (h:=Zf (Zj ?_)))
 exact eR t1 ⟨Zwm (by rw [ZU,if_pos oz]),rfl,rfl⟩
 try simp only [sQ,ne_eq] at g1
 refine wSk (Za (xA (h:=Ze (Zg (Zv (α:=Nat × Str) [2,5] (fun g=>[(0,.int .i64 g.1),(3,str g.2)]) [] (fun g=>[]) (fun g Bx=>Bx=B∧g.1≤k∧digs k=digs g.1 ++ g.2) (fun g=>g.1) (k,[]) t2 rfl (⟨rfl,Nat.le_refl _,by simp⟩) (fun g B1 hle1 hI=>?_))))))
 obtain ⟨rfl,hl,hs⟩:=hI
 have hgl:=ZyH hk hs
 refine Zz [(0,_),(2,_),(3,_),(5,_)] [] t4 rfl (Ze (Za (xM (h:=Zc8 (h:=Zb rfl (fun g2=>?_) (fun g2=>?_))))))
 try simp only [sQ,ne_eq] at g2
 refine wSk (Zg (Za (xM (h:=Zh (ZqA (a:=(g.1:Int)) (b:=10) (r:=((g.1 % 10:Nat):Int)) rfl rfl rfl rfl (by decide) rfl ?_)))))
 refine xD (h:=Zh (ZhS rfl rfl Tryz.underlying3 Tryz.underlying5 rfl (by first | exact Zb2 om om | rfl) ?_))
 refine xBs [(0,_)] [_] Tryz.underlying221 sz5 zo5 (h:=fun b2=>Zh (ZqH rfl rfl Tryz.underlying221 Tryz.underlying9 Tryz.underlying5 rfl (ZcX.box 0 rfl) (xM (h:=Zh (Zzi (a:=dig g.1) (b:=g.2) rfl rfl rfl rfl (by simp [dig];omega) ?_)))))
 refine xA (h:=tL1 (Zd (xM (h:=Zh (Zo4 (a:=(g.1:Int)) (b:=10) (r:=((g.1 / 10:Nat):Int)) rfl rfl rfl rfl (by decide) (by rw [show Int.tdiv (g.1:Int) 10=((g.1 / 10:Nat):Int) from rfl];exact Zb2 oz oz) ?_)))))
 refine xA (h:=ZD ?_)
 exact Zx (g.1 / 10,dig g.1 ++ g.2) [] so2 ⟨rfl,so,Zta hs oz⟩ t4 rfl
 try simp only [sQ,ne_eq] at g2
 refine ZA (ZQ (ZB (Zs (Zm (Za (xM (h:=Zh (Zzi rfl rfl rfl rfl (by first | omega | (simp;omega)) ?_))))))))
 refine xA (h:=Zf ?_)
 exact eR t1 ⟨Zwm (by rw [ZU,if_neg oz,hs,show g.1=0 from by omega,Zmf];rfl),rfl,rfl⟩

theorem Znk (q:Option Addr) (cp:Nat) (xs:List DMail) (l:Cells) (k:Nat) (hk:k≤900000000000000) (hn:xs.length≤2000000) (B:Kn) (hv:ZR B l q cp 146 3 Zah xs):Zu (pj J) 106 [.slice q xs.length cp,.int .i64 k] B [l] (fun v B' Ls=>B'=B∧∃l',Ls=[l']∧v = .int .i64 ((k+3*xs.length:Nat):Int)∧ZR B l' q cp 146 3 Zah (ZcZ k xs.length)):=by
 refine cB 35 Tryz.func106 (h:=?_)
 have hvc:=hv.cap
 refine Za (xA (h:=Ze (Za (xA (h:=Zg (Zv (α:=Nat × Cells × List DMail) [4] (fun g=>[(0,.slice q xs.length cp),(1,.int .i64 ((k+3*g.1:Nat):Int)),(5,.int .i64 g.1)]) [0] (fun g=>[g.2.1]) (fun g Bx=>Bx=B∧g.1≤xs.length∧g.2.2.length=xs.length∧g.2.2.take g.1=ZcZ k g.1∧ZR Bx g.2.1 q cp 146 3 Zah g.2.2) (fun g=>xs.length - g.1) (0,l,xs) t3 rfl (⟨rfl,Nat.zero_le _,rfl,rfl,hv⟩) (fun g B1 hle1 hI=>?_)))))))
 obtain ⟨rfl,hi,hle,ht,hw⟩:=hI
 refine Zz [(0,_),(1,_),(4,_),(5,_)] [_] t4 rfl (Ze (Za (xM (h:=xM (h:=xV Tryz.underlying80 (h:=ZC (h:=Zb rfl (fun g1=>?_) (fun g1=>?_))))))))
 try simp only [sQ,ne_eq] at g1
 refine wSk (Ze (Zg (Za (xM (h:=xM (h:=xM (h:=?_)))))))
 obtain ⟨z1,hz1⟩:=ZM (xs:=g.2.2) (i:=g.1) om
 obtain ⟨bb3,_,hp3,⟨rfl,hb3⟩,hw3,hc3⟩:=hw.row hz1
 refine xIp hp3 Tryz.underlying80 ZcB (h:=xW Zb7 (h:=Zh (Zf9 (k:=g.1) (off:=0) (⟨((k+3*g.1:Nat):Int),z1.flags,z1.text⟩) [_] 0 hw hp3 hz1 rfl rfl sz3 rfl rfl rfl rfl rfl rfl (by rintro _ ⟨rfl,e1⟩;exact ⟨rfl,e1⟩) (fun l4 hv4=>?_))))
 refine tL1 (Za (xM (h:=xD (h:=xA (h:=Za (xM (h:=xM (h:=xM (h:=?_)))))))))
 obtain ⟨z2,hz2⟩:=ZM (xs:=(g.2.2.set g.1 (⟨((k+3*g.1:Nat):Int),z1.flags,z1.text⟩))) (i:=g.1) om
 obtain ⟨bb6,_,hp6,⟨rfl,hb6⟩,hw6,hc6⟩:=hv4.row hz2
 refine xIp hp6 Tryz.underlying80 ZcB (h:=xW Ze5 (h:=Zh (Zf9 (k:=g.1) (off:=1) (⟨z2.uid,((k+3*g.1+1:Nat):Int),z2.text⟩) [_] 0 hv4 hp6 hz2 rfl rfl sz3 rfl rfl rfl rfl rfl rfl (by rintro _ ⟨rfl,e1⟩;exact ⟨rfl,e1⟩) (fun l7 hv7=>?_))))
 refine tL1 (Za (xM (h:=xD (h:=xA (h:=Za (xM (h:=xM (h:=xM (h:=xR ZiT rfl (Zbm (((k+3*g.1)+1)+1) oz _) (h:=?_))))))))))
 obtain ⟨z3,hz3⟩:=ZM (xs:=((g.2.2.set g.1 (⟨((k+3*g.1:Nat):Int),z1.flags,z1.text⟩)).set g.1 (⟨z2.uid,((k+3*g.1+1:Nat):Int),z2.text⟩))) (i:=g.1) om
 obtain ⟨bb10,_,hp10,⟨rfl,hb10⟩,hw10,hc10⟩:=hv7.row hz3
 refine xIp hp10 Tryz.underlying80 ZcB (h:=xW ZdU (h:=Zh (Zf9 (k:=g.1) (off:=2) (⟨z3.uid,z3.flags,ZU (k+3*g.1+1+1)⟩) [_] 0 hv7 hp10 hz3 rfl rfl sz9 rfl rfl rfl rfl rfl rfl (by rintro _ ⟨rfl,e1⟩;exact ⟨rfl,show (ZU (k+3*g.1+1+1)).length≤2000000 from Nat.le_trans (Zbi (k:=k+3*g.1+1+1) oz) (by decide)⟩) (fun l11 hv11=>?_))))
 refine tL1 (Zd (xM (h:=xD (h:=xA (h:=ZD (Zm (Zd (xM (h:=xD (h:=xA (h:=?_)))))))))))
 exact Zx (g.1+1,l11,(((g.2.2.set g.1 (⟨((k+3*g.1:Nat):Int),z1.flags,z1.text⟩)).set g.1 (⟨z2.uid,((k+3*g.1+1:Nat):Int),z2.text⟩)).set g.1 (⟨z3.uid,z3.flags,ZU (k+3*g.1+1+1)⟩))) [0] so2 ⟨rfl,so,by simp only [List.length_set];exact hle,ZlF ht hz1 hz2 hz3,hv11⟩ t4 rfl
 try simp only [sQ,ne_eq] at g1
 have he:=Zje ht oz
 have hgi:g.1=xs.length:=by omega
 rw [hgi] at he
 refine ZA (ZQ (ZB (Zs (Zm (Za (xM (h:=xA (h:=Zf ?_))))))))
 exact Zdh .ret (.inl rfl) [_] [0] rfl ⟨rfl,trivial⟩ ⟨rfl,_,rfl,by rw [hgi];rfl,by rw [← he];exact hw⟩

theorem ZlL (q:Option Addr) (cp:Nat) (xs:List DGrant) (l:Cells) (k:Nat) (hk:k≤900000000000000) (hn:xs.length≤2000000) (B:Kn) (hv:ZR B l q cp 223 2 Zaf xs):Zu (pj J) 105 [.slice q xs.length cp,.int .i64 k] B [l] (fun v B' Ls=>B'=B∧∃l',Ls=[l']∧v = .int .i64 ((k+2*xs.length:Nat):Int)∧ZR B l' q cp 223 2 Zaf (Za2 k xs.length)):=by
 refine cB 28 Tryz.func105 (h:=?_)
 have hvc:=hv.cap
 refine Za (xA (h:=Ze (Za (xA (h:=Zg (Zv (α:=Nat × Cells × List DGrant) [4] (fun g=>[(0,.slice q xs.length cp),(1,.int .i64 ((k+2*g.1:Nat):Int)),(5,.int .i64 g.1)]) [0] (fun g=>[g.2.1]) (fun g Bx=>Bx=B∧g.1≤xs.length∧g.2.2.length=xs.length∧g.2.2.take g.1=Za2 k g.1∧ZR Bx g.2.1 q cp 223 2 Zaf g.2.2) (fun g=>xs.length - g.1) (0,l,xs) t3 rfl (⟨rfl,Nat.zero_le _,rfl,rfl,hv⟩) (fun g B1 hle1 hI=>?_)))))))
 obtain ⟨rfl,hi,hle,ht,hw⟩:=hI
 refine Zz [(0,_),(1,_),(4,_),(5,_)] [_] t4 rfl (Ze (Za (xM (h:=xM (h:=xV Tryz.underlying85 (h:=ZC (h:=Zb rfl (fun g1=>?_) (fun g1=>?_))))))))
 try simp only [sQ,ne_eq] at g1
 refine wSk (Ze (Zg (Za (xM (h:=xM (h:=xM (h:=xR ZiT rfl (Zbm (k+2*g.1) oz _) (h:=?_))))))))
 obtain ⟨z1,hz1⟩:=ZM (xs:=g.2.2) (i:=g.1) om
 obtain ⟨bb4,_,hp4,⟨rfl,hb4⟩,hw4,hc4⟩:=hw.row hz1
 refine xIp hp4 Tryz.underlying85 ZeP (h:=xW ZcJ (h:=Zh (Zf9 (k:=g.1) (off:=0) (⟨ZU (k+2*g.1),z1.rights⟩) [_] 0 hw hp4 hz1 rfl rfl sz9 rfl rfl rfl rfl rfl rfl (by rintro _ ⟨rfl,e1⟩;exact ⟨rfl,show (ZU (k+2*g.1)).length≤2000000 from Nat.le_trans (Zbi (k:=k+2*g.1) oz) (by decide)⟩) (fun l5 hv5=>?_))))
 refine tL1 (Za (xM (h:=xD (h:=xA (h:=Za (xM (h:=xM (h:=xM (h:=?_)))))))))
 obtain ⟨z2,hz2⟩:=ZM (xs:=(g.2.2.set g.1 (⟨ZU (k+2*g.1),z1.rights⟩))) (i:=g.1) om
 obtain ⟨bb7,_,hp7,⟨rfl,hb7⟩,hw7,hc7⟩:=hv5.row hz2
 refine xIp hp7 Tryz.underlying85 ZeP (h:=xW ZdT (h:=Zh (Zf9 (k:=g.1) (off:=1) (⟨z2.user,((k+2*g.1+1:Nat):Int)⟩) [_] 0 hv5 hp7 hz2 rfl rfl sz3 rfl rfl rfl rfl rfl rfl (by rintro _ ⟨rfl,e1⟩;exact ⟨rfl,e1⟩) (fun l8 hv8=>?_))))
 refine tL1 (Zd (xM (h:=xD (h:=xA (h:=ZD (Zm (Zd (xM (h:=xD (h:=xA (h:=?_)))))))))))
 exact Zx (g.1+1,l8,((g.2.2.set g.1 (⟨ZU (k+2*g.1),z1.rights⟩)).set g.1 (⟨z2.user,((k+2*g.1+1:Nat):Int)⟩))) [0] so2 ⟨rfl,so,by simp only [List.length_set];exact hle,Zj1 ht hz1 hz2,hv8⟩ t4 rfl
 try simp only [sQ,ne_eq] at g1
 have he:=Zje ht oz
 have hgi:g.1=xs.length:=by omega
 rw [hgi] at he
 refine ZA (ZQ (ZB (Zs (Zm (Za (xM (h:=xA (h:=Zf ?_))))))))
 exact Zdh .ret (.inl rfl) [_] [0] rfl ⟨rfl,trivial⟩ ⟨rfl,_,rfl,by rw [hgi];rfl,by rw [← he];exact hw⟩

theorem Zni (q:Option Addr) (cp:Nat) (xs:List DUser) (l:Cells) (k:Nat) (hk:k≤900000000000000) (hn:xs.length≤2000000) (B:Kn) (hv:ZR B l q cp 132 3 ZL xs):Zu (pj J) 52 [.slice q xs.length cp,.int .i64 k] B [l] (fun v B' Ls=>B'=B∧∃l',Ls=[l']∧v = .int .i64 ((k+3*xs.length:Nat):Int)∧ZR B l' q cp 132 3 ZL (ZfV k xs.length)):=by
 refine cB 36 Tryz.func52 (h:=?_)
 have hvc:=hv.cap
 refine Za (xA (h:=Ze (Za (xA (h:=Zg (Zv (α:=Nat × Cells × List DUser) [4] (fun g=>[(0,.slice q xs.length cp),(1,.int .i64 ((k+3*g.1:Nat):Int)),(5,.int .i64 g.1)]) [0] (fun g=>[g.2.1]) (fun g Bx=>Bx=B∧g.1≤xs.length∧g.2.2.length=xs.length∧g.2.2.take g.1=ZfV k g.1∧ZR Bx g.2.1 q cp 132 3 ZL g.2.2) (fun g=>xs.length - g.1) (0,l,xs) t3 rfl (⟨rfl,Nat.zero_le _,rfl,rfl,hv⟩) (fun g B1 hle1 hI=>?_)))))))
 obtain ⟨rfl,hi,hle,ht,hw⟩:=hI
 refine Zz [(0,_),(1,_),(4,_),(5,_)] [_] t4 rfl (Ze (Za (xM (h:=xM (h:=xV Tryz.underlying35 (h:=ZC (h:=Zb rfl (fun g1=>?_) (fun g1=>?_))))))))
 try simp only [sQ,ne_eq] at g1
 refine wSk (Ze (Zg (Za (xM (h:=xM (h:=xM (h:=xR ZiT rfl (Zbm (k+3*g.1) oz _) (h:=?_))))))))
 obtain ⟨z1,hz1⟩:=ZM (xs:=g.2.2) (i:=g.1) om
 obtain ⟨bb4,_,hp4,⟨rfl,hb4,hb4b⟩,hw4,hc4⟩:=hw.row hz1
 refine xIp hp4 Tryz.underlying35 Zcv (h:=xW Zbp (h:=Zh (Zf9 (k:=g.1) (off:=0) (⟨ZU (k+3*g.1),z1.pass,z1.quota⟩) [_] 0 hw hp4 hz1 rfl rfl sz9 rfl rfl rfl rfl rfl rfl (by rintro _ ⟨rfl,e1,e2⟩;exact ⟨rfl,show (ZU (k+3*g.1)).length≤2000000 from Nat.le_trans (Zbi (k:=k+3*g.1) oz) (by decide),e2⟩) (fun l5 hv5=>?_))))
 refine tL1 (Za (xM (h:=xD (h:=xA (h:=Za (xM (h:=xM (h:=xM (h:=xR ZiT rfl (Zbm ((k+3*g.1)+1) oz _) (h:=?_))))))))))
 obtain ⟨z2,hz2⟩:=ZM (xs:=(g.2.2.set g.1 (⟨ZU (k+3*g.1),z1.pass,z1.quota⟩))) (i:=g.1) om
 obtain ⟨bb8,_,hp8,⟨rfl,hb8,hb8b⟩,hw8,hc8⟩:=hv5.row hz2
 refine xIp hp8 Tryz.underlying35 Zcv (h:=xW Zg1 (h:=Zh (Zf9 (k:=g.1) (off:=1) (⟨z2.name,ZU (k+3*g.1+1),z2.quota⟩) [_] 0 hv5 hp8 hz2 rfl rfl sz9 rfl rfl rfl rfl rfl rfl (by rintro _ ⟨rfl,e1,e2⟩;exact ⟨rfl,e1,show (ZU (k+3*g.1+1)).length≤2000000 from Nat.le_trans (Zbi (k:=k+3*g.1+1) oz) (by decide)⟩) (fun l9 hv9=>?_))))
 refine tL1 (Za (xM (h:=xD (h:=xA (h:=Za (xM (h:=xM (h:=xM (h:=?_)))))))))
 obtain ⟨z3,hz3⟩:=ZM (xs:=((g.2.2.set g.1 (⟨ZU (k+3*g.1),z1.pass,z1.quota⟩)).set g.1 (⟨z2.name,ZU (k+3*g.1+1),z2.quota⟩))) (i:=g.1) om
 obtain ⟨bb11,_,hp11,⟨rfl,hb11,hb11b⟩,hw11,hc11⟩:=hv9.row hz3
 refine xIp hp11 Tryz.underlying35 Zcv (h:=xW ZeA (h:=Zh (Zf9 (k:=g.1) (off:=2) (⟨z3.name,z3.pass,((k+3*g.1+1+1:Nat):Int)⟩) [_] 0 hv9 hp11 hz3 rfl rfl sz3 rfl rfl rfl rfl rfl rfl (by rintro _ ⟨rfl,e1,e2⟩;exact ⟨rfl,e1,e2⟩) (fun l12 hv12=>?_))))
 refine tL1 (Zd (xM (h:=xD (h:=xA (h:=ZD (Zm (Zd (xM (h:=xD (h:=xA (h:=?_)))))))))))
 exact Zx (g.1+1,l12,(((g.2.2.set g.1 (⟨ZU (k+3*g.1),z1.pass,z1.quota⟩)).set g.1 (⟨z2.name,ZU (k+3*g.1+1),z2.quota⟩)).set g.1 (⟨z3.name,z3.pass,((k+3*g.1+1+1:Nat):Int)⟩))) [0] so2 ⟨rfl,so,by simp only [List.length_set];exact hle,ZlD ht hz1 hz2 hz3,hv12⟩ t4 rfl
 try simp only [sQ,ne_eq] at g1
 have he:=Zje ht oz
 have hgi:g.1=xs.length:=by omega
 rw [hgi] at he
 refine ZA (ZQ (ZB (Zs (Zm (Za (xM (h:=xA (h:=Zf ?_))))))))
 exact Zdh .ret (.inl rfl) [_] [0] rfl ⟨rfl,trivial⟩ ⟨rfl,_,rfl,by rw [hgi];rfl,by rw [← he];exact hw⟩

theorem Zj3 (q:Option Addr) (cp:Nat) (xs:List Str) (l:Cells) (k:Nat) (hk:k≤900000000000000) (hn:xs.length≤2000000) (B:Kn) (hv:ZR B l q cp 9 1 Zel xs):Zu (pj J) 153 [.slice q xs.length cp,.int .i64 k] B [l] (fun v B' Ls=>B'=B∧∃l',Ls=[l']∧v = .int .i64 ((k+1*xs.length:Nat):Int)∧ZR B l' q cp 9 1 Zel (ZeG k xs.length)):=by
 refine cB 20 Tryz.func153 (h:=?_)
 have hvc:=hv.cap
 refine Za (xA (h:=Ze (Za (xA (h:=Zg (Zv (α:=Nat × Cells × List Str) [4] (fun g=>[(0,.slice q xs.length cp),(1,.int .i64 ((k+1*g.1:Nat):Int)),(5,.int .i64 g.1)]) [0] (fun g=>[g.2.1]) (fun g Bx=>Bx=B∧g.1≤xs.length∧g.2.2.length=xs.length∧g.2.2.take g.1=ZeG k g.1∧ZR Bx g.2.1 q cp 9 1 Zel g.2.2) (fun g=>xs.length - g.1) (0,l,xs) t3 rfl (⟨rfl,Nat.zero_le _,rfl,rfl,hv⟩) (fun g B1 hle1 hI=>?_)))))))
 obtain ⟨rfl,hi,hle,ht,hw⟩:=hI
 refine Zz [(0,_),(1,_),(4,_),(5,_)] [_] t4 rfl (Ze (Za (xM (h:=xM (h:=xV Tryz.underlying134 (h:=ZC (h:=Zb rfl (fun g1=>?_) (fun g1=>?_))))))))
 try simp only [sQ,ne_eq] at g1
 refine wSk (Ze (Zg (Za (xM (h:=xM (h:=xM (h:=xR ZiT rfl (Zbm (k+1*g.1) oz _) (h:=?_))))))))
 obtain ⟨z1,hz1⟩:=ZM (xs:=g.2.2) (i:=g.1) om
 obtain ⟨bb4,_,hp4,⟨rfl,hb4⟩,hw4,hc4⟩:=hw.row hz1
 refine xIp hp4 Tryz.underlying134 sz9 (h:=Zh (Zf9 (k:=g.1) (off:=0) (ZU (k+1*g.1)) [_] 0 hw hp4 hz1 rfl rfl sz9 rfl rfl rfl rfl rfl rfl (by rintro _ ⟨rfl,e1⟩;exact ⟨rfl,show (ZU (k+1*g.1)).length≤2000000 from Nat.le_trans (Zbi (k:=k+1*g.1) oz) (by decide)⟩) (fun l5 hv5=>?_)))
 refine tL1 (Zd (xM (h:=xD (h:=xA (h:=ZD (Zm (Zd (xM (h:=xD (h:=xA (h:=?_)))))))))))
 exact Zx (g.1+1,l5,(g.2.2.set g.1 (ZU (k+1*g.1)))) [0] so2 ⟨rfl,so,by simp only [List.length_set];exact hle,Zne ht hz1,hv5⟩ t4 rfl
 try simp only [sQ,ne_eq] at g1
 have he:=Zje ht oz
 have hgi:g.1=xs.length:=by omega
 rw [hgi] at he
 refine ZA (ZQ (ZB (Zs (Zm (Za (xM (h:=xA (h:=Zf ?_))))))))
 exact Zdh .ret (.inl rfl) [_] [0] rfl ⟨rfl,trivial⟩ ⟨rfl,_,rfl,by rw [hgi];rfl,by rw [← he];exact hw⟩

theorem Zka (k:Nat) (hk:k<6) (B:Kn):Z1 (pj J) 206 [.int .i64 k] B (.int .i64 (Zcw k)):=by
 refine cB 7 Tryz.func206 (h:=?_)
 refine Za (xA (h:=Za (xBs [(0,_),(1,_),(2,_),(3,_),(4,_),(5,_)] [_,_,_,_,_,_] Tryz.underlying58 sz3 zo3 (h:=fun b1=>?_))))
 have hvq:ZR B (ZP b1 (([1,2,4,8,16,32]:List Int).map fun x=>.int .i64 x) 3) (some ⟨b1,0,none⟩) 6 3 1 Z9 ([1,2,4,8,16,32]:List Int):=ZR.ints
 refine xM (h:=?_)
 obtain ⟨e,he⟩:=ZM (xs:=([1,2,4,8,16,32]:List Int)) (i:=k) om
 obtain ⟨bb3,_,hp3,rfl,hw3,hc3⟩:=hvq.row he
 refine xIp hp3 Tryz.underlying58 sz3 (h:=Zh (Zn rfl rfl lk3 rfl (hc3 _ 0 rfl 0 _ rfl) (xA (h:=tL1 (Zf ?_)))))
 exact eR t1 ⟨ZH (Zuz he),rfl,rfl⟩

end Go.Proofs.YtonfijmgahdgeaaGreatDoor
