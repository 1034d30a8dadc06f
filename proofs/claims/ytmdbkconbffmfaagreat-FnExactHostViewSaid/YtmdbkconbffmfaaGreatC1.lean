/-
  WHAT THE FUNCTIONS THAT THE LAWS REACH COMPUTE: each function's contract, proved off its printed body (the text is written by program). No condition beyond those that each theorem states.
-/
import Derived.Test.YtmdbkconbffmfaaGreatC0
namespace Go.Proofs.YtmdbkconbffmfaaGreat
open Go Go.BL
set_option linter.unusedVariables false
set_option linter.unusedSimpArgs false
set_option maxRecDepth 4000
variable {J : JoinT}
set_option maxHeartbeats 400000 in
theorem ZfN (q1 q2 q3:Option Addr) (c1 c2 c3:Nat) (x:DHost) (hd:x.domain.length≤2000000) (B:Kn) (hu:SlK B q1 c1 3 Zq x.users) (hf:SlK B q2 c2 5 Ze x.folders) (hi:SlK B q3 c3 4 ZG x.queue.items):Zaa (pj J) 27 [.agg #[str x.domain,.slice q1 x.users.length c1,.slice q2 x.folders.length c2,.int .i64 x.queue.next,.slice q3 x.queue.items.length c3]] B (.bool (Z9 x)):=by
 refine Zb 87 Tryz.func27 rfl rfl rfl (Nat.le_of_ble_eq_true rfl) ?_
 have hfn:=hf.len
 have hun:=hu.len
 have hin:=hi.len
 refine Za (xBx [_,_,_,_,_] (h:=fun b1=>xA (h:=ZH [_] rfl (Zg (Za (xW ZjE (h:=x1 lk9 0 (h:=xR ZvC rfl (Zi7 _ om2 _) (h:=?_)))))))))
 refine xN (h:=xM (h:=Zw (d:=10) rfl (fun g1=>?_) (fun g1=>?_)))
 try simp only [sQ,ne_eq] at g1
 refine xP (h:=xP (h:=xP (h:=xP (h:=xT (h:=xM (h:=xP (h:=xP (h:=xP (h:=xP (h:=xT (h:=xM (h:=xP (h:=?_)))))))))))))
 refine xP (h:=xP (h:=xT (h:=Zc (t:=true) rfl (fun _=>Za (xA (h:=Zi (Zn ?_)))) (fun h=>Bool.noConfusion h))))
 exact ZB .ret (.inl rfl) [_] t1 ⟨Zh (by simp [Z9,g1]),rfl,rfl⟩
 try simp only [sQ,ne_eq] at g1
 refine xW ZbI (h:=x1 ZiM 0 (h:=xR ZvB rfl (Zkg _ _ _ _ hu) (h:=xN (h:=xF (h:=xM (h:=Zw (d:=16) rfl (fun g2=>?_) (fun g2=>?_)))))))
 try simp only [sQ,ne_eq] at g2
 refine xP (h:=xP (h:=xP (h:=xP (h:=xT (h:=xM (h:=xP (h:=xP (h:=xP (h:=xT (h:=Zc (t:=true) rfl (fun _=>Za (xA (h:=?_))) (fun h=>Bool.noConfusion h)))))))))))
 refine Zi (Zn ?_)
 exact ZB .ret (.inl rfl) [_] t1 ⟨Zh (by simp [Z9,g1,g2]),rfl,rfl⟩
 try simp only [sQ,ne_eq] at g2
 refine xW Zfz (h:=xL [_,_] ZqW 0 (h:=xR ZvA rfl (Zkh _ _ x.queue _ hi) (h:=xN (h:=xF (h:=xM (h:=Zw (d:=22) rfl (fun g3=>?_) (fun g3=>?_)))))))
 try simp only [sQ,ne_eq] at g3
 refine xP (h:=xP (h:=xP (h:=xT (h:=Zc (t:=true) rfl (fun _=>Za (xA (h:=Zi (Zn ?_)))) (fun h=>Bool.noConfusion h)))))
 exact ZB .ret (.inl rfl) [_] t1 ⟨Zh (by simp [Z9,g1,g2,g3]),rfl,rfl⟩
 try simp only [sQ,ne_eq] at g3
 refine xL [_,_,_,_,_] Ze7 0 (h:=xR Zvz rfl (Zjs _ _ _ _ _ _ x _ hu hf) (h:=xN (h:=xF (h:=Zc rfl (fun g4=>?_) (fun g4=>?_)))))
 try simp only [sQ,ne_eq] at g4
 refine Za (xA (h:=Zi (Zn ?_)))
 exact ZB .ret (.inl rfl) [_] t1 ⟨Zh (by simp [Z9,g1,g2,g3,g4]),rfl,rfl⟩
 try simp only [sQ,ne_eq] at g4
 refine Zf (Zd (Zg (Za (xA (h:=Zl (ZC (α:=Nat) [0,1,26] (fun k=>[(3,.int .i64 k)]) [] (fun k=>[]) (fun k Bx=>Bx=B∧k≤x.users.length∧∀z,z∈x.users.take k→ZaY x.folders z=true) (fun k=>x.users.length - k) 0 t1 rfl (⟨rfl,Nat.zero_le _,by simp⟩) (fun k B6 hle6 hI=>?_)))))))
 obtain ⟨rfl,hk,ha⟩:=hI
 refine ZL [(0,_),(1,_),(3,_),(26,_)] [_] t4 rfl (Zg (Za (xM (h:=xW ZbI (h:=x1 ZiM 0 (h:=xV Tryz.underlying38 (h:=ZF (h:=Zc rfl (fun g5=>?_) (fun g5=>?_)))))))))
 try simp only [sQ,ne_eq] at g5
 refine Zf (Zd (Zg (Zl (Zg (Zan (same _ _) mo kr ⟨rfl,rfl⟩ (fun _ _=>?_))))))
 refine aT 0 rfl (Zaq fun D=>Z8 [_,_,_,_,_] rfl rfl Ze7 rfl (ZcQ 0 rfl rfl rfl) r4) (h:=aW 1 rfl ZbI (h:=aT 2 rfl (Zaq fun D=>Zs rfl rfl ZiM rfl (atL 0 rfl rfl rfl) r4) (h:=aM 3 rfl (h:=?_))))
 obtain ⟨w,hw⟩:=ZW (xs:=x.users) (i:=k) om
 obtain ⟨bb8,oo8,rfl⟩:=hu.base hw
 obtain ⟨_,⟨rfl,hb9,hb9b⟩,hc9⟩:=hu.elem hw
 refine aIx 4 rfl Tryz.underlying38 ZbV (h:=aW 5 rfl ZaX (h:=aT 6 rfl (Zaq fun D=>Zs rfl rfl lk9 rfl (hc9 _ 0 _ rfl) r4) (h:=aT 7 rfl (Zaq fun D=>Zam rfl rfl Ztv rfl (Zg7 _ _ _ _ _ _ x w.name [105,110,98,111,120] om2 om2 _ hf) r4) (h:=?_))))
 refine ZpQ 8 rfl (h:=aM 9 rfl (h:=Zav (d:=43) rfl (fun g6=>?_) (fun g6=>?_)))
 try simp only [sQ,ne_eq] at g6
 refine aZ 10 rfl (h:=aZ 11 rfl (h:=aZ 12 rfl (h:=aZ 13 rfl (h:=aZ 14 rfl (h:=aZ 15 rfl (h:=aZ 16 rfl (h:=aZ 17 rfl (h:=aZ 18 rfl (h:=aZ 19 rfl (h:=aZ 20 rfl (h:=aZ 21 rfl (h:=aZ 22 rfl (h:=?_)))))))))))))
 refine aZ 23 rfl (h:=aZ 24 rfl (h:=aPT 25 rfl (h:=Zz kr kr ?_)))
 refine Zd (Zc (t:=true) rfl (fun _=>Za (xA (h:=Zi (ZE (Zn (ZS (ZE (Zn ?_)))))))) (fun h=>Bool.noConfusion h))
 exact ZB .ret (.inl rfl) [_] t1 ⟨Zh (Zhb hw (Zi1 g6)).symm,rfl,rfl⟩
 try simp only [sQ,ne_eq] at g6
 refine aT 10 rfl (Zaq fun D=>Z8 [_,_,_,_,_] rfl rfl Ze7 rfl (ZcQ 0 rfl rfl rfl) r4) (h:=aW 11 rfl ZbI (h:=aT 12 rfl (Zaq fun D=>Zs rfl rfl ZiM rfl (atL 0 rfl rfl rfl) r4) (h:=aM 13 rfl (h:=aIx 14 rfl Tryz.underlying38 ZbV (h:=aW 15 rfl ZaX (h:=aT 16 rfl (Zaq fun D=>Zs rfl rfl lk9 rfl (hc9 _ 0 _ rfl) r4) (h:=aT 17 rfl (Zaq fun D=>Zam rfl rfl Zvy rfl (ZnB _ _ _ _ _ _ x _ _ hf) r4) (h:=aW 18 rfl ZbI (h:=aT 19 rfl (Zaq fun D=>Zs rfl rfl ZiM rfl (atL 0 rfl rfl rfl) r4) (h:=aM 20 rfl (h:=aIx 21 rfl Tryz.underlying38 ZbV (h:=aW 22 rfl ZdN (h:=?_)))))))))))))
 refine aT 23 rfl (Zaq fun D=>Zs rfl rfl lk3 rfl (hc9 _ 2 _ rfl) r4) (h:=Zow 24 rfl (h:=aPF 25 rfl (h:=Zz kr kr ?_)))
 refine Zd (Zc rfl (fun g7=>?_) (fun g7=>?_))
 try simp only [sQ,ne_eq] at g7
 refine Za (xA (h:=Zi (ZE (Zn (ZS (ZE (Zn ?_)))))))
 exact ZB .ret (.inl rfl) [_] t1 ⟨Zh (Zhb hw (Zi0 g7)).symm,rfl,rfl⟩
 try simp only [sQ,ne_eq] at g7
 refine Zf (ZP (Zd (Zk (xM (h:=xD (h:=xA (h:=?_)))))))
 exact ZD (k+1) [0] so2 ⟨rfl,oz,Za1 hw ha (ZiZ g6 g7)⟩ t4 rfl
 try simp only [sQ,ne_eq] at g5
 refine ZI (ZY (ZM (Zv (Zd (Zg (Za (xA (h:=Zl (ZC (α:=Nat) [0,1,3,26,31] (fun j=>[(4,.int .i64 j)]) [] (fun j=>[]) (fun j Bx=>Bx=B6∧j≤x.queue.items.length∧∀z,z∈x.queue.items.take j→ZaE x.users z=true) (fun j=>x.queue.items.length - j) 0 t1 rfl (⟨rfl,Nat.zero_le _,by simp⟩) (fun j B12 hle12 hI=>?_))))))))))
 obtain ⟨rfl,hj,hb⟩:=hI
 refine ZL [(0,_),(1,_),(3,_),(4,_),(26,_),(31,_)] [_] t6 rfl (Zg (Za (xM (h:=xW Zfz (h:=xW Zdl (h:=x1 Zmw 0 (h:=xV Tryz.underlying40 (h:=ZF (h:=Zc rfl (fun g8=>?_) (fun g8=>?_))))))))))
 try simp only [sQ,ne_eq] at g8
 refine Zf (Zd (Zg (Zl (Za (xW Zfz (h:=xW Zdl (h:=x1 Zmw 0 (h:=xM (h:=?_)))))))))
 obtain ⟨y,hy⟩:=ZW (xs:=x.queue.items) (i:=j) om
 obtain ⟨bb14,oo14,rfl⟩:=hi.base hy
 obtain ⟨_,⟨qi15,ci15,rfl,hi15,hb15,hb15b⟩,hc15⟩:=hi.elem hy
 have hi15n:=hi15.len
 refine xIx Tryz.underlying40 Zc3 (h:=yL [_,_,_,_] ZhB hc15 0 (h:=xAl [_,_,_,_] Zh9 (h:=fun b16=>xS [_,_,_,_] 1 [_,_,_,_] Zc3 (h:=ZH [_,_] rfl (Za (xW ZbI (h:=x1 ZiM 0 (h:=xW Zef (h:=x1 lk9 1 (h:=xR ZrG rfl (Zdi _ _ _ _ _ hu) (h:=ZF (h:=xM (h:=?_)))))))))))))
 refine Zw (d:=80) rfl (fun g9=>?_) (fun g9=>?_)
 try simp only [sQ,ne_eq] at g9
 refine xP (h:=xP (h:=xP (h:=xP (h:=xP (h:=xT (h:=Zc (t:=true) rfl (fun _=>Za (xA (h:=Zi (ZE (Zn (ZS (ZE (Zn ?_)))))))) (fun h=>Bool.noConfusion h)))))))
 exact ZB .ret (.inl rfl) [_] t1 ⟨Zh (Zhc hy (Ziy g9)).symm,rfl,rfl⟩
 try simp only [sQ,ne_eq] at g9
 refine xL [_,_,_,_,_] Ze7 0 (h:=xW Zee (h:=x1 Zgn 1 (h:=xR Zvx rfl (Zl7 _ _ _ _ _ _ x _ _ y.left _ hu hi15) (h:=xN (h:=xF (h:=Zc rfl (fun ga=>?_) (fun ga=>?_)))))))
 try simp only [sQ,ne_eq] at ga
 refine Za (xA (h:=Zi (ZE (Zn (ZS (ZE (Zn ?_)))))))
 exact ZB .ret (.inl rfl) [_] t1 ⟨Zh (Zhc hy (Zix ga)).symm,rfl,rfl⟩
 try simp only [sQ,ne_eq] at ga
 refine Zf (ZP (Zd (Zk (xM (h:=xD (h:=xA (h:=?_)))))))
 exact ZD (j+1) [0] so2 ⟨rfl,oz,Za1 hy hb (Ziw g9 ga)⟩ t6 rfl
 try simp only [sQ,ne_eq] at g8
 refine ZI (ZY (ZM (Zv (Zd (Za (xA (h:=Zi ?_)))))))
 exact ZB .ret (.inl rfl) [_] t1 ⟨Zh (Zmc g1 g2 g3 g4 (Zey (Za6 oz ha)) (Zey (Za6 oz hb))).symm,rfl,rfl⟩

set_option maxHeartbeats 400000 in
theorem ZlI (q:Option Addr) (cp:Nat) (gs:List DGrant) (B:Kn) (hg:SlK B q cp 2 Zu gs):ZJ (pj J) 117 [.slice q gs.length cp] B [] (ZkV gs B):=by
 refine Zb 46 Tryz.func117 rfl rfl rfl (Nat.le_of_ble_eq_true rfl) ?_
 have hgn:=hg.len
 refine Za (xA (h:=xA (h:=Zg (Za (xM (h:=xV Tryz.underlying30 (h:=ZdV (h:=Zc rfl (fun g0=>?_) (fun g0=>?_)))))))))
 try simp only [sQ,ne_eq] at g0
 refine Za (xA (h:=xA (h:=Zi (Zn ?_))))
 exact Zhn .ret (.inl rfl) [_,_] t2 (by simp [ZcS];omega)
 try simp only [sQ,ne_eq] at g0
 refine Zf (Zd (Za (Zo (ZmH rfl rfl (fun b1 l1 hl1=>xA (h:=ZH [_] rfl (Za (xA (h:=Zg (Za (xM (h:=xV Tryz.underlying30 (h:=xM (h:=?_))))))))))))))
 refine Zl (ZC (α:=Nat × Str × Cells) [0,4,10,12,13] (fun g=>[(5,str g.2.1),(14,.int .i64 g.1)]) [0] (fun g=>[g.2.2]) (fun g Bx=>Bx=B∧g.1≤gs.length∧Zb7 (gs.take g.1)=(true,g.2.1)∧g.2.1.length≤2000000∧ZrA g.2.2 b1 (Zd9 (gs.take g.1))) (fun g=>gs.length - g.1) (0,[],_) t2 rfl (⟨rfl,Nat.zero_le _,ZeW,by simp,hl1⟩) (fun g B2 hle2 hI=>?_))
 obtain ⟨rfl,hk,hs,hnm,hml⟩:=hI
 refine ZL [(0,_),(4,_),(5,_),(10,_),(12,_),(13,_),(14,_)] [_] t7 rfl (Za (ZF (h:=Zg (Zc rfl (fun g1=>?_) (fun g1=>?_)))))
 try simp only [sQ,ne_eq] at g1
 refine Zf (Zd (Zg (Zl (Za ?_))))
 obtain ⟨m,hm⟩:=ZW (xs:=gs) (i:=g.1) om
 obtain ⟨bb4,oo4,rfl⟩:=hg.base hm
 obtain ⟨_,⟨rfl,hb5⟩,hc5⟩:=hg.elem hm
 refine xIx Tryz.underlying30 ZbO (h:=yL [_,_] Znz hc5 0 (h:=xAl [_,_] ZfG (h:=fun b6=>xS [_,_] 1 [_,_] ZbO (h:=ZH [_,_] rfl (Zg (Za (xW ZbK (h:=x1 lk9 1 (h:=xR ZjJ rfl (Zbr _ om2 _) (h:=?_))))))))))
 refine xN (h:=xM (h:=Zw (d:=22) rfl (fun g2=>?_) (fun g2=>?_)))
 try simp only [sQ,ne_eq] at g2
 refine xP (h:=xP (h:=xP (h:=xP (h:=xT (h:=Zc (t:=true) rfl (fun _=>Za (xA (h:=xA (h:=Zi (Zn (ZE (Zn (ZS (ZE (Zn ?_)))))))))) (fun h=>Bool.noConfusion h))))))
 exact Zhn .ret (.inl rfl) [_,_] t2 (ZcL hm hs (by rw [Zbt,Za7 g.2.1 m.user];simp [g2];try omega))
 try simp only [sQ,ne_eq] at g2
 refine xW ZbK (h:=x1 lk9 1 (h:=xM (h:=Zo (Zp2 rfl rfl rfl rfl (xF (h:=Zc rfl (fun g3=>?_) (fun g3=>?_)))))))
 try simp only [sQ,ne_eq] at g3
 refine Za (xA (h:=xA (h:=Zi (Zn (ZE (Zn (ZS (ZE (Zn ?_)))))))))
 exact Zhn .ret (.inl rfl) [_,_] t2 (ZcL hm hs (by rw [Zbt,Za7 g.2.1 m.user];simp [g3];try omega))
 try simp only [sQ,ne_eq] at g3
 refine Zf (Zd (Zg (Za (xW ZcH (h:=x1 lk3 1 (h:=ZF (h:=xM (h:=Zw (d:=31) rfl (fun g4=>?_) (fun g4=>?_)))))))))
 try simp only [sQ,ne_eq] at g4
 refine xP (h:=xP (h:=xP (h:=xP (h:=xT (h:=Zc (t:=true) rfl (fun _=>Za (xA (h:=xA (h:=Zi (Zn (ZE (Zn (ZS (ZE (Zn ?_)))))))))) (fun h=>Bool.noConfusion h))))))
 exact Zhn .ret (.inl rfl) [_,_] t2 (ZcL hm hs (by rw [Zbt,Za7 g.2.1 m.user];simp [g4];try omega))
 try simp only [sQ,ne_eq] at g4
 refine xW ZcH (h:=x1 lk3 1 (h:=xR ZtO rfl (ZoW _ _) (h:=xN (h:=xF (h:=Zc rfl (fun g5=>?_) (fun g5=>?_))))))
 try simp only [sQ,ne_eq] at g5
 refine Za (xA (h:=xA (h:=Zi (Zn (ZE (Zn (ZS (ZE (Zn ?_)))))))))
 exact Zhn .ret (.inl rfl) [_,_] t2 (ZcL hm hs (Bool.eq_false_iff.2 fun hc=>by simp only [Zbt,Bool.and_eq_true,decide_eq_true_eq] at hc;simp only [Bool.and_eq_false_iff,decide_eq_false_iff_not] at g5;omega))
 try simp only [sQ,ne_eq] at g5
 refine Zf (Zd (Za (xM (h:=xW ZbK (h:=x1 lk9 1 (h:=xW ZcH (h:=x1 lk3 1 (h:=Zo (Zj3 (k:=m.user) (v:=m.rights) 0 rfl hml rfl rfl Tryz.underlying166 Tryz.underlying9 rfl rfl rfl (fun l9 hl9=>ZH [_,_] rfl (Zk (xW ZbK (h:=x1 lk9 1 (h:=?_))))))))))))))
 refine xA (h:=ZP (Zd (Zk (xD (h:=xM (h:=?_))))))
 exact ZD (g.1+1,m.user,l9) [0] so2 ⟨rfl,so,Zb4 hm hs (by rw [Zbt,Za7 g.2.1 m.user,g2,g3];simp at g5 ⊢;omega),oy,by rw [← Zq2 hm hs (by rw [Za7 g.2.1 m.user,g3];rfl)];exact hl9⟩ t7 rfl
 try simp only [sQ,ne_eq] at g1
 refine ZI (ZY (ZM (Zv (Zd (Za (xM (h:=xA (h:=xA (h:=Zi ?_)))))))))
 exact Zro .ret (.inl rfl) [_,_] rfl t2 (by rw [ZjW (ZdE hs oz)];simp;omega) (by have e:=hml;rw [List.take_of_length_le oz] at e;exact e)

set_option maxHeartbeats 400000 in
theorem ZnJ (q:Option Addr) (cp:Nat) (gs:List DGrant) (B:Kn) (hg:SlK B q cp 2 Zu gs):Zaa (pj J) 108 [.slice q gs.length cp] B (.bool (ZcS gs)):=by
 refine Zb 11 Tryz.func108 rfl rfl rfl (Nat.le_of_ble_eq_true rfl) ?_
 refine Za (xA (h:=Za (xM (h:=Zo (Zao rfl rfl Zsz rfl (ZlI _ _ _ _ hg) ?_)))))
 rintro _ B1 _ hle1 ⟨m1,l1,rfl,rfl,rfl,hl1⟩
 refine xM (h:=xE (h:=xE (h:=xA (h:=xA (h:=ZH [_] rfl (Za (xM (h:=xA (h:=Zi ?_)))))))))
 exact ZB .ret (.inl rfl) [_] t1 ⟨rfl,rfl,rfl⟩

set_option maxHeartbeats 400000 in
theorem ZsE (a b:Str) (B:Kn):Zaa (pj J) 132 [str a,str b] B (.int .i64 (Lib.compareBytes a b)):=by
 refine Zb 8 Tryz.func132 rfl rfl rfl (Nat.le_of_ble_eq_true rfl) ?_
 refine Za (xA (h:=Za (xM (h:=xM (h:=Zo (Zs7 (fn:=Tryz.f166) rfl rfl Tryz.func166 rfl rfl Zsu Zsv rfl rfl (xA (h:=Zi ?_))))))))
 exact ZB .ret (.inl rfl) [_] t1 ⟨rfl,rfl,rfl⟩

set_option maxHeartbeats 400000 in
theorem Zqq (a b:Str) (B:Kn):Zaa (pj J) 103 [str a,str b] B (.int .i64 (Lib.compareBytes a b)):=by
 refine Zb 8 Tryz.func103 rfl rfl rfl (Nat.le_of_ble_eq_true rfl) ?_
 refine Za (xA (h:=Za (xM (h:=xM (h:=xR ZtT rfl (ZsE a b _) (h:=xA (h:=Zi ?_)))))))
 exact ZB .ret (.inl rfl) [_] t1 ⟨rfl,rfl,rfl⟩

set_option maxHeartbeats 400000 in
theorem ZkG (f:DFolder) (qa qb:Option Addr) (ca cb:Nat) (ow nm:Str) (B:Kn):Zaa (pj J) 70 [.agg #[str f.owner,str f.name,.slice qa f.grants.length ca,.int .i64 f.next,.slice qb f.mail.length cb],str ow,str nm] B (.int .i64 (ZsD f ow nm)):=by
 refine Zb 19 Tryz.func70 rfl rfl rfl (Nat.le_of_ble_eq_true rfl) ?_
 refine Za (xBx [_,_,_,_,_] (h:=fun b1=>xA (h:=ZH [_] rfl (Zg (Za (xW Za0 (h:=x1 lk9 0 (h:=xM (h:=xR ZsB rfl (Zqq f.owner ow _) (h:=xA (h:=Za (xM (h:=?_)))))))))))))
 refine ZaL (h:=Zc rfl (fun g1=>?_) (fun g1=>?_))
 try simp only [sQ,ne_eq] at g1
 refine Za (xM (h:=xA (h:=Zi (Zn ?_))))
 exact ZB .ret (.inl rfl) [_] t1 ⟨ZN (by rw [ZsD,if_pos g1]),rfl,rfl⟩
 try simp only [sQ,ne_eq] at g1
 refine Zf (Zd (Za (xW ZbP (h:=x1 lk9 0 (h:=xM (h:=xR ZsB rfl (Zqq f.name nm _) (h:=xA (h:=Zi ?_))))))))
 exact ZB .ret (.inl rfl) [_] t1 ⟨ZN (by rw [ZsD,if_neg (fun h=>h g1)]),rfl,rfl⟩

set_option maxHeartbeats 400000 in
theorem Zr2 (b o:Nat) (q1 q2 q3:Option Addr) (c1 c2 c3:Nat) (x:DHost) (u:Str) (B:Kn) (hh:ZaI B b o [str x.domain,.slice q1 x.users.length c1,.slice q2 x.folders.length c2,.int .i64 x.queue.next,.slice q3 x.queue.items.length c3]) (hf:SlK B q2 c2 5 Ze x.folders):Zaa (pj J) 153 [ptr ⟨b,o,none⟩,str u] B (.int .i64 (ZeR x.folders u)):=by
 refine Zb 28 Tryz.func153 rfl rfl rfl (Nat.le_of_ble_eq_true rfl) ?_
 have hfn:=hf.len
 refine Za (xA (h:=Za (xA (h:=Zg (Za (xM (h:=xNc (h:=xW Zar (h:=Zo (Zs rfl rfl Zd7 rfl (hh _ 2 _ rfl) (xV Tryz.underlying39 (h:=xM (h:=Zl ?_)))))))))))))
 refine ZC (α:=Nat × Int) [0,1,4,11,12] (fun g=>[(5,.int .i64 g.2),(13,.int .i64 g.1)]) [] (fun g=>[]) (fun g Bx=>Bx=B∧g.1≤x.folders.length∧g.2=ZeR (x.folders.take g.1) u∧-1*g.1≤g.2∧g.2≤g.1*200) (fun g=>x.folders.length - g.1) (0,0) t2 rfl (⟨rfl,Nat.zero_le _,by simp [ZeR],by simp,by simp⟩) (fun g B1 hle1 hI=>?_)
 obtain ⟨rfl,hk,hs,hl0,hl1⟩:=hI
 refine ZL [(0,_),(1,_),(4,_),(5,_),(11,_),(12,_),(13,_)] [] t7 rfl (Za (ZF (h:=Zg (Zc rfl (fun g1=>?_) (fun g1=>?_)))))
 try simp only [sQ,ne_eq] at g1
 refine Zf (Zd (Zg (Zl (Za ?_))))
 obtain ⟨m,hm⟩:=ZW (xs:=x.folders) (i:=g.1) om
 obtain ⟨bb3,oo3,rfl⟩:=hf.base hm
 obtain ⟨_,⟨qg4,cg4,qm4,cm4,rfl,hg4,hm4,hb4,hb4b⟩,hc4⟩:=hf.elem hm
 have hg4n:=hg4.len
 have hm4n:=hm4.len
 have hm4s:=Z5 hm4
 refine xIx Tryz.underlying39 ZaQ (h:=yL [_,_,_,_,_] Zcd hc4 0 (h:=xAl [_,_,_,_,_] Zca (h:=fun b5=>xS [_,_,_,_,_] 0 [_,_,_,_,_] ZaQ (h:=ZH [_] rfl (Za (xW Za0 (h:=x1 lk9 0 (h:=xM (h:=Zc9 (h:=Zc rfl (fun g2=>?_) (fun g2=>?_)))))))))))
 try simp only [sQ,ne_eq] at g2
 have hbs:=Zh7 (⟨m.next,m.mail⟩:DBox)
 refine Zk (xM (h:=xW ZbJ (h:=xL [_,_] ZiN 0 (h:=xR ZtB rfl (Zon _ _ (⟨m.next,m.mail⟩:DBox) _ hm4) (h:=xD (h:=xA (h:=ZP (Zd (Zk (xD (h:=xM (h:=?_))))))))))))
 exact ZD (g.1+1,g.2+Zc7 ⟨m.next,m.mail⟩) [] so2 ⟨rfl,so,by rw [ZhM hm,← hs,if_pos g2],so,so⟩ t7 rfl
 try simp only [sQ,ne_eq] at g2
 refine Zf (ZP (Zd (Zk (xD (h:=xM (h:=?_))))))
 exact ZD (g.1+1,g.2) [] so2 ⟨rfl,so,by rw [ZhM hm,← hs,if_neg g2,Int.add_zero],so,so⟩ t7 rfl
 try simp only [sQ,ne_eq] at g1
 refine ZI (ZY (ZM (Zv (Zd (Za (xM (h:=xA (h:=Zi ?_))))))))
 exact ZB .ret (.inl rfl) [_] t1 ⟨ZN (by rw [← ZmN hs oz]),rfl,rfl⟩

set_option maxHeartbeats 400000 in
theorem Zn6 (b o:Nat) (q1 q2 q3:Option Addr) (c1 c2 c3:Nat) (x:DHost) (u:Str) (more:Int) (hn:u.length≤2000000) (hm0:0≤more) (hm1:more≤2000000) (B:Kn) (hh:ZaI B b o [str x.domain,.slice q1 x.users.length c1,.slice q2 x.folders.length c2,.int .i64 x.queue.next,.slice q3 x.queue.items.length c3]) (hu:SlK B q1 c1 3 Zq x.users) (hf:SlK B q2 c2 5 Ze x.folders):Zaa (pj J) 112 [ptr ⟨b,o,none⟩,str u,.int .i64 more] B (.bool (ZdO x u more)):=by
 refine Zb 30 Tryz.func112 rfl rfl rfl (Nat.le_of_ble_eq_true rfl) ?_
 have hfn:=hf.len
 have hub:=ZoJ x.folders u
 refine Za (xA (h:=Za (xM (h:=xNc (h:=xW ZbI (h:=Zo (Zs rfl rfl ZiM rfl (hh _ 1 _ rfl) (xM (h:=xR Zsy rfl (ZgI _ _ _ u om2 _ hu) (h:=?_))))))))))
 refine xM (h:=xE (h:=xE (h:=xAl [_,_,_] ZfH (h:=fun b2=>xS [_,_,_] 0 [_,_,_] ZbV (h:=xA (h:=ZH [_] rfl (Zg (Zan (same _ _) mo kr ⟨rfl,rfl⟩ (fun _ _=>?_)))))))))
 refine aM 0 rfl (h:=aN 1 rfl (h:=aM 2 rfl (h:=Zav (d:=20) rfl (fun g1=>?_) (fun g1=>?_))))
 try simp only [sQ,ne_eq] at g1
 refine aZ 3 rfl (h:=aZ 4 rfl (h:=aZ 5 rfl (h:=aZ 6 rfl (h:=aZ 7 rfl (h:=aZ 8 rfl (h:=aZ 9 rfl (h:=aZ 10 rfl (h:=aPT 11 rfl (h:=aA 12 rfl (h:=Zz kr kr ?_))))))))))
 refine Zd (Zi ?_)
 exact ZB .ret (.inl rfl) [_] t1 ⟨Zh (by rw [ZdO,g1];rfl),rfl,rfl⟩
 try simp only [sQ,ne_eq] at g1
 refine aM 3 rfl (h:=aM 4 rfl (h:=aT 5 rfl (Zaq fun D=>Zam rfl rfl ZtQ rfl (Zr2 _ _ _ _ _ _ _ _ x u _ hh hf) r4) (h:=aM 6 rfl (h:=aD 7 rfl (h:=aW 8 rfl ZdN (h:=aT 9 rfl (Zaq fun D=>Zs rfl rfl lk3 rfl (atL 0 rfl rfl rfl) r4) (h:=Zow 10 rfl (h:=aPF 11 rfl (h:=aA 12 rfl (h:=Zz kr kr ?_))))))))))
 refine Zd (Zi ?_)
 exact ZB .ret (.inl rfl) [_] t1 ⟨Zh (by rw [ZdO,g1];rfl),rfl,rfl⟩

set_option maxHeartbeats 400000 in
theorem ZlL (b o:Nat) (q1 q2 q3:Option Addr) (c1 c2 c3:Nat) (x:DHost) (B:Kn) (hh:ZaI B b o [str x.domain,.slice q1 x.users.length c1,.slice q2 x.folders.length c2,.int .i64 x.queue.next,.slice q3 x.queue.items.length c3]) (hu:SlK B q1 c1 3 Zq x.users) (hf:SlK B q2 c2 5 Ze x.folders):Zaa (pj J) 72 [ptr ⟨b,o,none⟩] B (.bool (ZgH x)):=by
 refine Zb 26 Tryz.func72 rfl rfl rfl (Nat.le_of_ble_eq_true rfl) ?_
 have hfn:=hf.len
 have hun:=hu.len
 refine Za (xA (h:=Zg (Za (xM (h:=xNc (h:=xW ZbI (h:=Zo (Zs rfl rfl ZiM rfl (hh _ 1 _ rfl) (xV Tryz.underlying38 (h:=xM (h:=Zl (ZC (α:=Nat) [0,8,9] (fun k=>[(10,.int .i64 k)]) [] (fun k=>[]) (fun k Bx=>Bx=B∧k≤x.users.length∧∀z,z∈x.users.take k→Zb3 x z=true) (fun k=>x.users.length - k) 0 t1 rfl (⟨rfl,Nat.zero_le _,by simp⟩) (fun k B1 hle1 hI=>?_)))))))))))))
 obtain ⟨rfl,hk,ha⟩:=hI
 refine ZL [(0,_),(8,_),(9,_),(10,_)] [] t4 rfl (Za (ZF (h:=Zg (Zc rfl (fun g1=>?_) (fun g1=>?_)))))
 try simp only [sQ,ne_eq] at g1
 refine Zf (Zd (Zg (Zl (Za ?_))))
 obtain ⟨w,hw⟩:=ZW (xs:=x.users) (i:=k) om
 obtain ⟨bb3,oo3,rfl⟩:=hu.base hw
 obtain ⟨_,⟨rfl,hb4,hb4b⟩,hc4⟩:=hu.elem hw
 refine xIx Tryz.underlying38 ZbV (h:=yL [_,_,_] ZeA hc4 0 (h:=xAl [_,_,_] ZfH (h:=fun b5=>xS [_,_,_] 0 [_,_,_] ZbV (h:=ZH [_] rfl (Za (xM (h:=xW ZaX (h:=x1 lk9 0 (h:=xR Ztu rfl (Zn2 _ _ _ _ _ _ _ _ x w.name [105,110,98,111,120] om2 om2 _ hh hf) (h:=?_))))))))))
 refine ZF (h:=xM (h:=Zw (d:=19) rfl (fun g2=>?_) (fun g2=>?_)))
 try simp only [sQ,ne_eq] at g2
 refine xP (h:=xP (h:=xP (h:=xP (h:=xT (h:=Zc (t:=true) rfl (fun _=>Za (xA (h:=Zi (ZE (Zn (ZS (ZE (Zn ?_)))))))) (fun h=>Bool.noConfusion h))))))
 exact ZB .ret (.inl rfl) [_] t1 ⟨Zh (Zc1 hw (Zi4 g2)).symm,rfl,rfl⟩
 try simp only [sQ,ne_eq] at g2
 refine xM (h:=xW ZaX (h:=x1 lk9 0 (h:=xR Zua rfl (Zn6 _ _ _ _ _ _ _ _ x w.name 0 om2 om2 om2 _ hh hu hf) (h:=?_))))
 refine xF (h:=Zc rfl (fun g3=>?_) (fun g3=>?_))
 try simp only [sQ,ne_eq] at g3
 refine Za (xA (h:=Zi (ZE (Zn (ZS (ZE (Zn ?_)))))))
 exact ZB .ret (.inl rfl) [_] t1 ⟨Zh (Zc1 hw (Zi3 g3)).symm,rfl,rfl⟩
 try simp only [sQ,ne_eq] at g3
 refine Zf (ZP (Zd (Zk (xD (h:=xM (h:=?_))))))
 exact ZD (k+1) [] so2 ⟨rfl,oz,Za1 hw ha (Zi2 g2 g3)⟩ t4 rfl
 try simp only [sQ,ne_eq] at g1
 refine ZI (ZY (ZM (Zv (Zd (Za (xA (h:=Zi ?_)))))))
 exact ZB .ret (.inl rfl) [_] t1 ⟨Zh (Zey (Za6 oz ha)).symm,rfl,rfl⟩

set_option maxHeartbeats 400000 in
theorem Zpk (q:Option Addr) (cp:Nat) (bs:List Bool) (v:Bool) (B:Kn) (hb:SlK B q cp 1 ZkW bs):Zaa (pj J) 152 [.slice q bs.length cp,.bool v] B (.int .i64 (ZeG (fun y=>decide (v=y)) bs)):=by
 refine Zb 19 Tryz.func152 rfl rfl rfl (Nat.le_of_ble_eq_true rfl) ?_
 have hbn:=hb.len
 refine Za (xA (h:=Zg (Za (xM (h:=xV Tryz.underlying148 (h:=xM (h:=Zl (ZC (α:=Nat) [0,1,7] (fun k=>[(8,.int .i64 k)]) [] (fun k=>[]) (fun k Bx=>Bx=B∧k≤bs.length∧∀y,y∈bs.take k→decide (v=y)=false) (fun k=>bs.length - k) 0 t1 rfl (⟨rfl,Nat.zero_le _,by simp⟩) (fun k B1 hle1 hI=>?_)))))))))
 obtain ⟨rfl,hk,ha⟩:=hI
 refine ZL [(0,_),(1,_),(7,_),(8,_)] [] t4 rfl (Za (ZF (h:=Zg (Zc rfl (fun g1=>?_) (fun g1=>?_)))))
 try simp only [sQ,ne_eq] at g1
 refine Zf (Zd (Zg (Zl (Za (xM (h:=xA (h:=Za (xM (h:=xM (h:=xM (h:=?_)))))))))))
 obtain ⟨y,hy⟩:=ZW (xs:=bs) (i:=k) om
 obtain ⟨bb3,oo3,rfl⟩:=hb.base hy
 obtain ⟨_,rfl,hc4⟩:=hb.elem hy
 refine xIx Tryz.underlying148 sz4 (h:=y1 lk4 hc4 0 (h:=Zo (ZrX rfl rfl rfl rfl rfl (Zlz Tryz.underlying4) (Zc rfl (fun g2=>?_) (fun g2=>?_)))))
 try simp only [sQ,ne_eq] at g2
 refine Za (xM (h:=xA (h:=Zi (ZE (Zn (ZS (ZE (Zn ?_))))))))
 exact ZB .ret (.inl rfl) [_] t1 ⟨ZN (Zgv hy (decide_eq_true g2) ha).symm,rfl,rfl⟩
 try simp only [sQ,ne_eq] at g2
 refine Zf (ZP (Zd (Zk (xD (h:=xM (h:=?_))))))
 exact ZD (k+1) [] so2 ⟨rfl,oz,Za1 hy ha (decide_eq_false g2)⟩ t4 rfl
 try simp only [sQ,ne_eq] at g1
 refine ZI (ZY (ZM (Zv (Zd (Za (xA (h:=Zi ?_)))))))
 exact ZB .ret (.inl rfl) [_] t1 ⟨ZN (Zeb (Za6 oz ha)).symm,rfl,rfl⟩

set_option maxHeartbeats 400000 in
theorem ZkM (q:Option Addr) (cp:Nat) (bs:List Bool) (v:Bool) (B:Kn) (hb:SlK B q cp 1 ZkW bs):Zaa (pj J) 111 [.slice q bs.length cp,.bool v] B (.bool (decide (0≤ZeG (fun y=>decide (v=y)) bs))):=by
 refine Zb 9 Tryz.func111 rfl rfl rfl (Nat.le_of_ble_eq_true rfl) ?_
 refine Za (xA (h:=Za (xM (h:=xM (h:=xR ZtR rfl (Zpk _ _ _ _ _ hb) (h:=ZdW (h:=xA (h:=Zi ?_))))))))
 exact ZB .ret (.inl rfl) [_] t1 ⟨rfl,rfl,rfl⟩

set_option maxHeartbeats 400000 in
theorem Zjv (l:Str) (hl:l.length≤2000000) (B:Kn):Zaa (pj J) 67 [str l] B (.bool (Zb8 l)):=by
 refine Zb 16 Tryz.func67 rfl rfl rfl (Nat.le_of_ble_eq_true rfl) ?_
 refine Za (xA (h:=Za (xM (h:=xB [(0,_)] [_,_] [_,_] Zsc ZoB (h:=xAl [_,_] ZoB (h:=fun b1=>xS [_,_] 0 [_,_] Zr7 (h:=ZH [_] rfl (Za (Zo (ZhJ 0 rfl rfl rfl Zu1 rfl (ZpC _ _ 0 oz oz _) ?_))))))))))
 refine xM (h:=xE (h:=xE (h:=xA (h:=xA (h:=Za (xM (h:=xM (h:=Zw (d:=13) rfl (fun g1=>?_) (fun g1=>?_)))))))))
 try simp only [sQ,ne_eq] at g1
 refine Zo (ZiQ 0 rfl rfl rfl ZsU rfl (ZlC _ _ (dom l 0).2 (ZsC (Nat.zero_le _)) oz _) ?_)
 refine xT (h:=xA (h:=Zi ?_))
 exact ZB .ret (.inl rfl) [_] t1 ⟨Zh (by rw [Bool.eq_iff_iff,← ZjK];simp [ZkK] at g1;simp [g1];try omega),rfl,rfl⟩
 try simp only [sQ,ne_eq] at g1
 refine xP (h:=xF (h:=xA (h:=Zi ?_)))
 exact ZB .ret (.inl rfl) [_] t1 ⟨Zh (by symm;rw [Bool.eq_false_iff,ne_eq,← ZjK];intro hc;simp [ZkK,hc.1] at g1;omega),rfl,rfl⟩

set_option maxHeartbeats 800000 in
theorem ZiB (Wg C n i b o b1 b3 b5 b6:Nat) (q1 q2 q3:Option Addr) (c1 c2 c3:Nat) (x:DHost) (m:DFolder) (qg qm:Option Addr) (cg cm:Nat) (hin:i<n) (B:Kn) (hc900:ZaI B b o [str x.domain,.slice q1 x.users.length c1,.slice q2 x.folders.length c2,.int .i64 x.queue.next,.slice q3 x.queue.items.length c3]) (hu:SlK B q1 c1 3 Zq x.users) (hc901:ZaI B b1 0 [ptr ⟨b,o,none⟩]) (hc903:ZaI B b3 0 [.slice (some ⟨C,0,none⟩) n n]) (hc905:ZaI B b5 0 [.int .i64 i]) (hc906:ZaI B b6 0 [str m.owner,str m.name,.slice qg m.grants.length cg,.int .i64 m.next,.slice qm m.mail.length cm]) (hg:SlK B qg cg 2 Zu m.grants) (hm:SlK B qm cm 3 ZK m.mail) (ho:m.owner.length≤2000000) (hnm:m.name.length≤2000000):@ZdP ⟨4⟩ Tryz.prog wgL.tWg Wg C n i (.bool (Zax x.users m)) (Go.Conc.G (Frame.enter Tryz.prog 105 #[ptr ⟨Wg,0,none⟩,ptr ⟨b1,0,none⟩,ptr ⟨b6,0,none⟩,ptr ⟨b3,0,none⟩,ptr ⟨b5,0,none⟩] .deferred) [Ze5 Tryz.prog]) B []:=by
 letI:Go.ConcR.Payload:=⟨4⟩
 refine Zqx (Lk:=wgL) (P:=Tryz.prog) (caps:=[ptr ⟨Wg,0,none⟩,ptr ⟨b1,0,none⟩,ptr ⟨b6,0,none⟩,ptr ⟨b3,0,none⟩,ptr ⟨b5,0,none⟩]) (nt:=27) (I:=keeps B [] []) (K:=fun _ _ _ _=>False) Zj0 Tryz.func105 rfl rfl (Nat.le_of_ble_eq_true rfl) rfl mo kr ⟨Kn.le.refl _,ZbF.refl _ _⟩ (fun _ _ _ _ h=>h) ?_
 refine aT 0 rfl (Zah fun D B L hI=>Zs rfl rfl Zsk rfl ((hc903.mono hI.1) _ 0 _ rfl) r4) (h:=aT 1 rfl (Zah fun D B L hI=>Zs rfl rfl lk3 rfl ((hc905.mono hI.1) _ 0 _ rfl) r4) (h:=aT 2 rfl (Zah fun D B L hI=>Zs rfl rfl ZqX rfl ((hc901.mono hI.1) _ 0 _ rfl) r4) (h:=aW 3 rfl Za0 (h:=aT 4 rfl (Zah fun D B L hI=>Zs rfl rfl lk9 rfl ((hc906.mono hI.1) _ 0 _ rfl) r4) (h:=aT 5 rfl (Zah fun D B L hI=>Zam rfl rfl ZsV rfl (Zgu _ _ _ _ _ _ _ _ x m.owner om2 _ (hc900.mono hI.1) (hu.mono Zq.mono hI.1)) r4) (h:=?_))))))
 refine aM 6 rfl (h:=Zav (d:=11) rfl (fun g1=>?_) (fun g1=>?_))
 try simp only [sQ,ne_eq] at g1
 refine aW 7 rfl ZbP (h:=aT 8 rfl (Zah fun D B L hI=>Zs rfl rfl lk9 rfl ((hc906.mono hI.1) _ 1 _ rfl) r4) (h:=aT 9 rfl (Zah fun D B L hI=>Zam rfl rfl ZjJ rfl (Zbr _ om2 _) r4) (h:=?_)))
 refine aPT 10 rfl (h:=aM 11 rfl (h:=Zav (d:=16) rfl (fun g2=>?_) (fun g2=>?_)))
 try simp only [sQ,ne_eq] at g2
 refine aW 12 rfl Zce (h:=aT 13 rfl (Zah fun D B L hI=>Zs rfl rfl Zmx rfl ((hc906.mono hI.1) _ 2 _ rfl) r4) (h:=aT 14 rfl (Zah fun D B L hI=>Zam rfl rfl Zue rfl (ZnJ _ _ _ _ (hg.mono Zu.mono hI.1)) r4) (h:=aPT 15 rfl (h:=aM 16 rfl (h:=Zav (d:=21) rfl (fun g3=>?_) (fun g3=>?_))))))
 try simp only [sQ,ne_eq] at g3
 refine aW 17 rfl ZbJ (h:=aT 18 rfl (Zah fun D B L hI=>Z8 [_,_] rfl rfl ZiN rfl (Zlg (hc906.mono hI.1) 3 rfl rfl) r4) (h:=aT 19 rfl (Zah fun D B L hI=>Zam rfl rfl ZsA rfl (Zjw _ _ (⟨m.next,m.mail⟩:DBox) _ (hm.mono ZK.mono hI.1)) r4) (h:=aPT 20 rfl (h:=aT 21 rfl (Zah fun D B L hI=>Zbk rfl rfl Tryz.underlying148 sz4 rfl rfl oz oz r4) (h:=?_)))))
 refine Zgx 22 kr rfl kr kr kr (fun T hn hT=>?_)
 refine Ze8 (L:=[]) hT Zj0 (by simp [Zax,DFolder.box,g1,g2,g3]) rfl hin rfl Tryz.sizeOf4 (Zch sz4) (by exact Zgt C i) rfl kr Tryz.func105 rfl
 try simp only [sQ,ne_eq] at g3
 refine aZ 17 rfl (h:=aZ 18 rfl (h:=aZ 19 rfl (h:=aPF 20 rfl (h:=aT 21 rfl (Zah fun D B L hI=>Zbk rfl rfl Tryz.underlying148 sz4 rfl rfl oz oz r4) (h:=?_)))))
 refine Zgx 22 kr rfl kr kr kr (fun T hn hT=>?_)
 refine Ze8 (L:=[]) hT Zj0 (by simp [Zax,DFolder.box,g1,g2,g3]) rfl hin rfl Tryz.sizeOf4 (Zch sz4) (by exact Zgt C i) rfl kr Tryz.func105 rfl
 try simp only [sQ,ne_eq] at g2
 refine aZ 12 rfl (h:=aZ 13 rfl (h:=aZ 14 rfl (h:=aPF 15 rfl (h:=aM 16 rfl (h:=aZ 17 rfl (h:=aZ 18 rfl (h:=aZ 19 rfl (h:=aPF 20 rfl (h:=aT 21 rfl (Zah fun D B L hI=>Zbk rfl rfl Tryz.underlying148 sz4 rfl rfl oz oz r4) (h:=?_))))))))))
 refine Zgx 22 kr rfl kr kr kr (fun T hn hT=>?_)
 refine Ze8 (L:=[]) hT Zj0 (by simp [Zax,DFolder.box,g1,g2]) rfl hin rfl Tryz.sizeOf4 (Zch sz4) (by exact Zgt C i) rfl kr Tryz.func105 rfl
 try simp only [sQ,ne_eq] at g1
 refine aZ 7 rfl (h:=aZ 8 rfl (h:=aZ 9 rfl (h:=aPF 10 rfl (h:=aM 11 rfl (h:=aZ 12 rfl (h:=aZ 13 rfl (h:=aZ 14 rfl (h:=aPF 15 rfl (h:=aM 16 rfl (h:=aZ 17 rfl (h:=aZ 18 rfl (h:=aZ 19 rfl (h:=?_)))))))))))))
 refine aPF 20 rfl (h:=aT 21 rfl (Zah fun D B L hI=>Zbk rfl rfl Tryz.underlying148 sz4 rfl rfl oz oz r4) (h:=?_))
 refine Zgx 22 kr rfl kr kr kr (fun T hn hT=>?_)
 refine Ze8 (L:=[]) hT Zj0 (by simp [Zax,DFolder.box,g1]) rfl hin rfl Tryz.sizeOf4 (Zch sz4) (by exact Zgt C i) rfl kr Tryz.func105 rfl

set_option maxHeartbeats 1600000 in
theorem ZhD (hJ:Joins Tryz.prog J) (b o:Nat) (q1 q2 q3:Option Addr) (c1 c2 c3:Nat) (x:DHost) (B:Kn) (hc900:ZaI B b o [str x.domain,.slice q1 x.users.length c1,.slice q2 x.folders.length c2,.int .i64 x.queue.next,.slice q3 x.queue.items.length c3]) (hu:SlK B q1 c1 3 Zq x.users) (hf:SlK B q2 c2 5 Ze x.folders):ZJ (pj J) 71 [ptr ⟨b,o,none⟩] B [] (fun v B' Ls=>Ls=[]∧v = .bool (x.folders.all (Zax x.users))):=by
 have hfn:=hf.len
 letI:Go.ConcR.Payload:=⟨4⟩
 refine ZpG 30 Tryz.func71 rfl rfl (Nat.le_of_ble_eq_true rfl) fun X kind c cs F T0 hk hke hA hn0 hT0=>?_
 let C0:Cx (pj J):=⟨X,fb 71 kind,c :: cs,F,hke⟩
 refine Zeh (C:=C0) (L:=[]) (Zh5 (C:=C0) (L:=[]) hn0 hT0 (xBx [_] (h:=fun b1=>xA (h:=?_))))
 intro T1 hn1 hT1
 refine ZjM (C:=C0) rfl 0 rfl fun B1 hle1 hm1=>?_
 have hc901:=Za2 hm1
 replace hc900:=hc900.mono hle1
 replace hu:=hu.mono Zq.mono hle1
 replace hf:=hf.mono Ze.mono hle1
 replace hA:=fun v B' Ls' h=>hA v B' Ls' (hle1.trans h)
 refine Zeh (C:=C0) (L:=[[]]) (Zh5 (C:=C0) (L:=[[]]) hn1 hT1 (y1 ZqX hc901 0 (h:=xNc (h:=xW Zar (h:=y1 Zd7 hc900 2 (h:=xV Tryz.underlying39 (h:=Zo (Zbj (m:=x.folders.length) (c:=x.folders.length) (by_:=1) [.bool false] rfl rfl Zts zo4 rfl rfl ⟨_,_,rfl,rfl⟩ ⟨_,_,rfl,rfl⟩ (Nat.le_refl _) oz (fun Cb=>?_)))))))))
 refine xAl [_] Zs0 (h:=fun b2=>xS [_] 2 [_] Ztd (h:=?_))
 intro T2 hn2 hT2
 refine ZjM (C:=C0) rfl 2 rfl fun B2 hle2 hm2=>?_
 have hc903:=Za2 hm2
 replace hc900:=hc900.mono hle2
 replace hu:=hu.mono Zq.mono hle2
 replace hf:=hf.mono Ze.mono hle2
 replace hc901:=hc901.mono hle2
 replace hA:=fun v B' Ls' h=>hA v B' Ls' (hle2.trans h)
 refine Zeh (C:=C0) (L:=[[],ZaK Cb (zrow [.bool false] x.folders.length) 4,[]]) (ZfC (C:=C0) (L:=[[],ZaK Cb (zrow [.bool false] x.folders.length) 4,[]]) (Zo3 (C:=Cb) (n:=x.folders.length) (val:=Zoz x) (L₁:=F) (cells:=(zrow [.bool false] x.folders.length).toArray) (i:=0) (todo:=[]) hJ rfl hke ZsZ rfl oz (by simp [Zbz]) (.refl _) (fun hmain Wg hW1 hW2=>?_)))
 let C1:Cx (.lone Tryz.prog):=⟨phL Tryz.prog 158 Wg Cb x.folders.length (Zoz x) X.R .a5 (0),fb 71 kind,c :: cs,F,hke⟩
 have hT3:=hT2.putT (n:=30) (dst:=some 4) hn2 rfl (ptr ⟨Wg,0,none⟩)
 have hn3:(putT T2 (some 4) (ptr ⟨Wg,0,none⟩)).size=30:=by rw [ZaR,hn2]
 refine Zcm (C:=C1) (L:=[]) (Zeh (C:=C1) (L:=[]) (Zeh (C:=C1) (L:=[]) (Zh5 (C:=C1) (L:=[]) hn3 hT3 (y1 ZqX hc901 0 (h:=xNc (h:=xW Zar (h:=y1 Zd7 hc900 2 (h:=xV Tryz.underlying39 (h:=xM (h:=?_))))))))))
 intro T4 hn4 hT4
 refine ZlE (C:=C1) (L:=[]) (ZqO (nt:=30) (fun j=>[(1,ptr ⟨b1,0,none⟩),(3,ptr ⟨b2,0,none⟩),(4,ptr ⟨Wg,0,none⟩),(16,.slice q2 x.folders.length c2),(17,.int .i64 x.folders.length),(18,.int .i64 ((j:Nat):Int))]) (fun j hj B3 T5 hle3 hn5 hT5 hnext=>?_) hn4 (hT4.sub' t6))
 replace hc900:=hc900.mono hle3
 replace hu:=hu.mono Zq.mono hle3
 replace hf:=hf.mono Ze.mono hle3
 replace hc901:=hc901.mono hle3
 replace hc903:=hc903.mono hle3
 replace hA:=fun v B' Ls' h=>hA v B' Ls' (hle3.trans h)
 let C2:Cx (.lone Tryz.prog):=⟨phL Tryz.prog 158 Wg Cb x.folders.length (Zoz x) X.R .a5 (j),fb 71 kind,c :: cs,F,hke⟩
 refine Zeh (C:=C2) (L:=[]) (Zh5 (C:=C2) (L:=[]) hn5 hT5 (ZF (h:=?_)))
 intro T6 hn6 hT6
 refine Zeh (C:=C2) (L:=[]) ?_
 rcases Nat.lt_or_ge j x.folders.length with hlt | hge
 refine Zoj (C:=C2) (L:=[]) (t:=true) (by exact congrArg (fun t=>some (Value.bool t)) (decide_eq_true oz)) hT6 ?_
 refine Zru (C:=C2) (L:=[]) (Zeh (C:=C2) (L:=[]) (ZlE (C:=C2) (L:=[]) (Zeh (C:=C2) (L:=[]) (Zh5 (C:=C2) (L:=[]) hn6 hT6 (xM (h:=?_))))))
 obtain ⟨m,hm⟩:=ZW (xs:=x.folders) (i:=j) om
 obtain ⟨bb4,oo4,rfl⟩:=hf.base hm
 obtain ⟨_,⟨qg5,cg5,qm5,cm5,rfl,hg5,hm5,hb5,hb5b⟩,hc5⟩:=hf.elem hm
 have hg5n:=hg5.len
 have hm5n:=hm5.len
 have hm5s:=Z5 hm5
 refine xIx Tryz.underlying39 ZaQ (h:=yL [_,_,_,_,_] Zcd hc5 0 (h:=xAl [_] zo3 (h:=fun b6=>xAl [_,_,_,_,_] Zca (h:=fun b7=>xS [_] 0 [_] sz3 (h:=xS [_,_,_,_,_] 1 [_,_,_,_,_] ZaQ (h:=?_))))))
 intro T7 hn7 hT7
 refine ZjM (C:=C2) rfl 0 rfl fun B4 hle4 hpm4=>?_
 have hc905:=Za2 hpm4
 refine ZjM (C:=C2) rfl 1 rfl fun B5 hle5 hpm5=>?_
 have hc906:=Za2 hpm5
 replace hc905:=hc905.mono hle5
 replace hc900:=hc900.mono (hle4.trans hle5)
 replace hu:=hu.mono Zq.mono (hle4.trans hle5)
 replace hf:=hf.mono Ze.mono (hle4.trans hle5)
 replace hc901:=hc901.mono (hle4.trans hle5)
 replace hc903:=hc903.mono (hle4.trans hle5)
 replace hg5:=hg5.mono Zu.mono (hle4.trans hle5)
 replace hm5:=hm5.mono ZK.mono (hle4.trans hle5)
 refine Zeh (C:=C2) (L:=[[],[]]) (ZfC (C:=C2) (L:=[[],[]]) (Zse (Lk:=wgL) (i:=0) (todo:=[]) Zj0 hlt rfl Zuf rfl rfl hT7 hke ?_))
 let C3:Cx (.lone Tryz.prog):=⟨phL Tryz.prog 158 Wg Cb x.folders.length (Zoz x) X.R .a2 (j),fb 71 kind,c :: cs,F,hke⟩
 have hT8:=hT7.putT (n:=30) (dst:=(some 23)) hn7 rfl (.tuple #[])
 have hn8:(putT T7 (some 23) (.tuple #[])).size=30:=by rw [ZaR,hn7]
 refine Zcm (C:=C3) (L:=[]) (ZfC (C:=C3) (L:=[]) (Zuj (C:=C3) (L:=[]) (i:=0) (todo:=[1]) rfl hn8 hT8 (Zo (ZfI (xs:=[]) (ys:=[.tmp 4,.tmp 1,.tmp 6,.tmp 3,.tmp 5]) rfl rfl rfl rfl ?_))))
 intro T9 hn9 hT9
 refine Ztj (i:=1) (todo:=[]) rfl rfl hT9 hke Tryz.func105 rfl rfl (by rw [Zk5 hm];exact ZiB Wg Cb x.folders.length j b o b1 b2 b6 b7 _ _ _ _ _ _ x m _ _ _ _ hlt B5 hc900 hu hc901 hc903 hc905 hc906 hg5 hm5 hb5 hb5b) ?_
 let C4:Cx (.lone Tryz.prog):=⟨phL Tryz.prog 158 Wg Cb x.folders.length (Zoz x) X.R .a5 (j+1),fb 71 kind,c :: cs,F,hke⟩
 refine Zcm (C:=C4) (L:=[]) (Zmn (C:=C4) (L:=[]) ?_)
 have hn10:=hn9
 have hT10:=hT9
 refine Zh5 (C:=C4) (L:=[]) hn10 hT10 (xD (h:=xM (h:=?_)))
 intro T11 hn11 hT11
 exact hnext hlt _ _ (hle4.trans hle5) hn11 (hT11.sub' t6)
 obtain rfl:j=x.folders.length:=by omega
 refine Zoj (C:=C2) (L:=[]) (t:=false) (by exact congrArg (fun t=>some (Value.bool t)) (decide_eq_false oz)) hT6 ?_
 refine Zrv (C:=C2) (L:=[]) (by rfl) ?_
 refine Zeh (C:=C2) (L:=[]) (ZfC (C:=C2) (L:=[]) (ZqN (Lk:=wgL) (X:=X) (i:=0) (todo:=[]) Zj0 oz rfl Zuc rfl hT6 hke (fun _ _ _ h=>h) ?_))
 have hT7:=hT6.putT (n:=30) (dst:=(some 26)) hn6 rfl (.tuple #[])
 have hn7:(putT T6 (some 26) (.tuple #[])).size=30:=by rw [ZaR,hn6]
 refine Zcm (C:=C0) (L:=[[(Cb,Obj.cells ((List.range x.folders.length).map (Zoz x)).toArray 4 (0,0))]]) (ZjM (C:=C0) (L:=[[(Cb,Obj.cells ((List.range x.folders.length).map (Zoz x)).toArray 4 (0,0))]]) rfl 0 rfl fun B4 hle4 hm4=>?_)
 have hvb:=ZmM hm4 hfn
 replace hc900:=hc900.mono hle4
 replace hu:=hu.mono Zq.mono hle4
 replace hf:=hf.mono Ze.mono hle4
 replace hc901:=hc901.mono hle4
 replace hc903:=hc903.mono hle4
 replace hA:=fun v B' Ls' h=>hA v B' Ls' (hle4.trans h)
 refine Zrk Tryz.func71 rfl hk hke hn7 hT7 hA ?_
 rw [show (x.folders.length:Nat)=(x.folders.map (Zax x.users)).length from (List.length_map ..).symm] at hc903
 refine Za (y1 Zsk hc903 0 (h:=xR Zub rfl (ZkM _ _ _ _ _ hvb) (h:=xN (h:=xA (h:=ZH [_] rfl (Zi ?_))))))
 exact ZB .ret (.inl rfl) [_] t1 ⟨rfl,congrArg Value.bool ZiI⟩

set_option maxHeartbeats 400000 in
theorem ZbY (hJ:Joins Tryz.prog J) (q1 q2 q3:Option Addr) (c1 c2 c3:Nat) (x:DHost) (hd:x.domain.length≤2000000) (B:Kn) (hu:SlK B q1 c1 3 Zq x.users) (hf:SlK B q2 c2 5 Ze x.folders) (hi:SlK B q3 c3 4 ZG x.queue.items):ZJ (pj J) 33 [.agg #[str x.domain,.slice q1 x.users.length c1,.slice q2 x.folders.length c2,.int .i64 x.queue.next,.slice q3 x.queue.items.length c3]] B [] (fun v B' Ls=>Ls=[]∧v = .bool (Z9 x)):=by
 refine Zb 63 Tryz.func33 rfl rfl rfl (Nat.le_of_ble_eq_true rfl) ?_
 rw [← Zmd]
 have hfn:=hf.len
 have hun:=hu.len
 have hin:=hi.len
 refine Za (xBx [_,_,_,_,_] (h:=fun b1=>xA (h:=ZH [_] rfl (Zj2 0 rfl (fun B2 hle2 hpm2=>?_)))))
 have hc2:=Za2 hpm2
 replace hu:=hu.mono Zq.mono hle2
 replace hf:=hf.mono Ze.mono hle2
 replace hi:=hi.mono ZG.mono hle2
 refine Zg (Za (xW ZjE (h:=y1 lk9 hc2 0 (h:=xR Zvs rfl (Zjv _ om2 _) (h:=?_)))))
 refine xN (h:=xM (h:=Zw (d:=10) rfl (fun g1=>?_) (fun g1=>?_)))
 try simp only [sQ,ne_eq] at g1
 refine xP (h:=xP (h:=xP (h:=xP (h:=xT (h:=xM (h:=xP (h:=xP (h:=xP (h:=xP (h:=xT (h:=xM (h:=xP (h:=?_)))))))))))))
 refine xP (h:=xP (h:=xP (h:=xT (h:=ZH [_] rfl (Zc (t:=true) rfl (fun _=>Za (xA (h:=Zi (Zn ?_)))) (fun h=>Bool.noConfusion h))))))
 exact ZB .ret (.inl rfl) [_] t1 ⟨rfl,Zh (by simp [ZcE,g1])⟩
 try simp only [sQ,ne_eq] at g1
 refine xW ZbI (h:=y1 ZiM hc2 1 (h:=xR ZuE rfl (Zg9 _ _ _ _ hu) (h:=xN (h:=xF (h:=xM (h:=Zw (d:=16) rfl (fun g2=>?_) (fun g2=>?_)))))))
 try simp only [sQ,ne_eq] at g2
 refine xP (h:=xP (h:=xP (h:=xP (h:=xT (h:=xM (h:=xP (h:=xP (h:=xP (h:=xP (h:=xT (h:=ZH [_] rfl (Zc (t:=true) rfl (fun _=>?_) (fun h=>Bool.noConfusion h)))))))))))))
 refine Za (xA (h:=Zi (Zn ?_)))
 exact ZB .ret (.inl rfl) [_] t1 ⟨rfl,Zh (by simp [ZcE,g1,g2])⟩
 try simp only [sQ,ne_eq] at g2
 refine xW Zfz (h:=yL [_,_] ZqW hc2 3 (h:=xR Zvr rfl (ZkB _ _ x.queue _ hi) (h:=xN (h:=xF (h:=xM (h:=Zw (d:=22) rfl (fun g3=>?_) (fun g3=>?_)))))))
 try simp only [sQ,ne_eq] at g3
 refine xP (h:=xP (h:=xP (h:=xP (h:=xT (h:=ZH [_] rfl (Zc (t:=true) rfl (fun _=>Za (xA (h:=Zi (Zn ?_)))) (fun h=>Bool.noConfusion h)))))))
 exact ZB .ret (.inl rfl) [_] t1 ⟨rfl,Zh (by simp [ZcE,g1,g2,g3])⟩
 try simp only [sQ,ne_eq] at g3
 refine xW Zar (h:=y1 Zd7 hc2 2 (h:=xV Tryz.underlying39 (h:=ZdV (h:=xF (h:=ZH [_] rfl (Zc rfl (fun g4=>?_) (fun g4=>?_)))))))
 try simp only [sQ,ne_eq] at g4
 refine Za (xA (h:=Zi (Zn ?_)))
 exact ZB .ret (.inl rfl) [_] t1 ⟨rfl,Zh (by simp [ZcE];intros;omega)⟩
 try simp only [sQ,ne_eq] at g4
 refine Zf (Zd (Zg (Za (xW Zar (h:=y1 Zd7 hc2 2 (h:=xW Zar (h:=y1 Zd7 hc2 2 (h:=xV Tryz.underlying39 (h:=xU (h:=Zo (Zs6 (m:=(x.folders.length - 1)) rfl rfl rfl rfl om ?_)))))))))))
 have hsl:((x.folders.take (x.folders.length - 1)).drop 0).length=x.folders.length - 1:=by simp
 obtain ⟨hq6,q6,cp6,hv6,hr6⟩:=hf.cutE 0 (x.folders.length - 1) om om
 have hr6n:=hr6.len
 refine Zo (ZmK (a:=0) (b:=(x.folders.length - 1)) hv6 om hq6 rfl rfl Tryz.underlying39 ZaQ rfl rfl ⟨_,_,rfl,by first | omega | (simp;done) | (simp;omega)⟩ ?_)
 refine xV Tryz.underlying39 (h:=xM (h:=Zl (ZC (α:=Nat) [0,1,27,35,36] (fun k=>[(37,.int .i64 k)]) [] (fun k=>[]) (fun k Bx=>Bx=B2∧k≤x.folders.length - 1∧ZpS x.folders k) (fun k=>x.folders.length - k) 0 t1 rfl (⟨rfl,Nat.zero_le _,ZlZ⟩) (fun k B7 hle7 hI=>?_))))
 obtain ⟨rfl,hk,hord⟩:=hI
 refine ZL [(0,_),(1,_),(27,_),(35,_),(36,_),(37,_)] [_] t6 rfl (Za (ZF (h:=Zg (Zc rfl (fun g5=>?_) (fun g5=>?_)))))
 try simp only [sQ,ne_eq] at g5
 refine Zf (Zd (Zg (Zl (Za (xM (h:=?_))))))
 obtain ⟨fa,hfa⟩:=ZW (xs:=((x.folders.take (x.folders.length - 1)).drop 0)) (i:=k) om
 obtain ⟨bb9,oo9,rfl⟩:=hr6.base hfa
 obtain ⟨_,⟨qg10,cg10,qm10,cm10,rfl,hg10,hm10,hb10,hb10b⟩,hc10⟩:=hr6.elem hfa
 have hg10n:=hg10.len
 have hm10n:=hm10.len
 have hm10s:=Z5 hm10
 refine xIx Tryz.underlying39 ZaQ (h:=?_)
 have hfa0:x.folders[k]? = some fa:=by rw [List.drop_zero,List.getElem?_take] at hfa;split at hfa <;> simp_all
 refine yL [_,_,_,_,_] Zcd hc10 0 (h:=xAl [_,_,_,_,_] Zca (h:=fun b11=>xA (h:=xS [_,_,_,_,_] 1 [_,_,_,_,_] ZaQ (h:=ZH [_,_] rfl (Za (xW Zar (h:=y1 Zd7 hc2 2 (h:=xM (h:=xD (h:=?_))))))))))
 obtain ⟨fb,hfb⟩:=ZW (xs:=x.folders) (i:=(k+1)) om
 obtain ⟨bb13,oo13,rfl⟩:=hf.base hfb
 obtain ⟨_,⟨qg14,cg14,qm14,cm14,rfl,hg14,hm14,hb14,hb14b⟩,hc14⟩:=hf.elem hfb
 have hg14n:=hg14.len
 have hm14n:=hm14.len
 have hm14s:=Z5 hm14
 refine xIx Tryz.underlying39 ZaQ (h:=yL [_,_,_,_,_] Zcd hc14 0 (h:=xAl [_,_,_,_,_] Zca (h:=fun b15=>xS [_,_,_,_,_] 2 [_,_,_,_,_] ZaQ (h:=ZH [_,_,_] rfl (Za (xL [_,_,_,_,_] Zcd 1 (h:=xW Za0 (h:=x1 lk9 2 (h:=xW ZbP (h:=x1 lk9 2 (h:=xR Zvq rfl (ZkG fa _ _ _ _ fb.owner fb.name _) (h:=ZdW (h:=?_)))))))))))))
 refine Zc rfl (fun g6=>?_) (fun g6=>?_)
 try simp only [sQ,ne_eq] at g6
 refine Za (xA (h:=Zi (ZE (Zn (ZS (ZE (Zn ?_)))))))
 exact ZB .ret (.inl rfl) [_] t1 ⟨rfl,Zh (by simp [ZcE,Zo7 hfa0 hfb ((ZjO fa fb).1 g6)])⟩
 try simp only [sQ,ne_eq] at g6
 refine Zf (ZP (Zd (Zk (xD (h:=xM (h:=?_))))))
 exact ZD (k+1) [0] so2 ⟨rfl,oz,Zl0 hord hfa0 hfb (by rw [← Bool.not_eq_false,← ZjO];omega)⟩ t6 rfl
 try simp only [sQ,ne_eq] at g5
 have ho:=Zo6 (fs:=x.folders) (fun i a b h=>hord i a b oz)
 refine ZI (ZY (ZM (Zv (Zd (Za (Zo (ZbS rfl rfl Zvp rfl (ZhD hJ _ _ _ _ _ _ _ _ x _ hc2 hu hf) ?_)))))))
 intro v17 B17 hle17
 rintro rfl
 replace hu:=hu.mono Zq.mono hle17
 replace hf:=hf.mono Ze.mono hle17
 replace hi:=hi.mono ZG.mono hle17
 replace hc2:=hc2.mono hle17
 replace hr6:=hr6.mono Ze.mono hle17
 refine xM (h:=Zw (d:=57) rfl (fun g7=>?_) (fun g7=>?_))
 try simp only [sQ,ne_eq] at g7
 refine xR Zvo rfl (ZlL _ _ _ _ _ _ _ _ x _ hc2 hu hf) (h:=xT (h:=xM (h:=Zw (d:=60) rfl (fun g8=>?_) (fun g8=>?_))))
 try simp only [sQ,ne_eq] at g8
 refine xR Zvn rfl (Zko _ _ _ _ _ _ _ _ x _ hc2 hu hi) (h:=xT (h:=xA (h:=Zi ?_)))
 exact ZB .ret (.inl rfl) [_] t1 ⟨rfl,Zh (by simp [ZcE,g1,g2,g3,ho,g7,g8];try omega)⟩
 try simp only [sQ,ne_eq] at g8
 refine xP (h:=xF (h:=xA (h:=Zi ?_)))
 exact ZB .ret (.inl rfl) [_] t1 ⟨rfl,Zh (by simp [ZcE,g1,g2,g3,ho,g7,g8];try omega)⟩
 try simp only [sQ,ne_eq] at g7
 refine xP (h:=xF (h:=xM (h:=xP (h:=xF (h:=xA (h:=Zi ?_))))))
 exact ZB .ret (.inl rfl) [_] t1 ⟨rfl,Zh (by simp [ZcE,g7])⟩

set_option maxHeartbeats 400000 in
theorem ZoO (x:DUser) (h1:x.name.length≤140737488355328) (h2:x.pass.length≤140737488355328) (left:Int) (hl0:0≤left) (hl1:left≤1048576) (B:Kn)  : Zaa (pj J) 54 [.agg #[str x.name,str x.pass,.int .i64 x.quota],.int .i64 left] B (.int .i64 (szI left (Zcu x))):=by
 refine Zb 20 Tryz.func54 rfl rfl rfl (Nat.le_of_ble_eq_true rfl) ?_
 refine Za (xBx [_,_,_] (h:=fun b1=>xA (h:=ZH [_] rfl (Za (xM (h:=xW Zqh (h:=x1 lk9 0 (h:=xVs Tryz.underlying9 (h:=xU (h:=xA (h:=Zg (Za ?_))))))))))))
 refine xM (h:=ZF (h:=Zc rfl (fun g1=>?_) (fun g1=>?_)))
 try simp only [sQ,ne_eq] at g1
 refine Za (xA (h:=Zi (Zn ?_)))
 exact ZB .ret (.inl rfl) [_] t1 ⟨ZN (by first | (unfold szI Zcu;split <;> omega)),rfl,rfl⟩
 try simp only [sQ,ne_eq] at g1
 refine Zf (Zd (Za (xM (h:=xW Zqg (h:=x1 lk9 0 (h:=xVs Tryz.underlying9 (h:=xU (h:=xA (h:=Zg (Za (xM (h:=ZF (h:=?_)))))))))))))
 refine Zc rfl (fun g2=>?_) (fun g2=>?_)
 try simp only [sQ,ne_eq] at g2
 refine Za (xA (h:=Zi (Zn ?_)))
 exact ZB .ret (.inl rfl) [_] t1 ⟨ZN (by first | (unfold szI Zcu;split <;> omega)),rfl,rfl⟩
 try simp only [sQ,ne_eq] at g2
 refine Zf (Zd (Za (xM (h:=xA (h:=Zi ?_)))))
 exact ZB .ret (.inl rfl) [_] t1 ⟨ZN (by first | (unfold szI Zcu;split <;> omega)),rfl,rfl⟩

set_option maxHeartbeats 400000 in
theorem Zm0 (x:DGrant) (h1:x.user.length≤140737488355328) (left:Int) (hl0:0≤left) (hl1:left≤1048576) (B:Kn)  : Zaa (pj J) 119 [.agg #[str x.user,.int .i64 x.rights],.int .i64 left] B (.int .i64 (szI left (ZbU x))):=by
 refine Zb 13 Tryz.func119 rfl rfl rfl (Nat.le_of_ble_eq_true rfl) ?_
 refine Za (xBx [_,_] (h:=fun b1=>xA (h:=ZH [_] rfl (Za (xM (h:=xW ZnW (h:=x1 lk9 0 (h:=xVs Tryz.underlying9 (h:=xU (h:=xA (h:=Zg (Za ?_))))))))))))
 refine xM (h:=ZF (h:=Zc rfl (fun g1=>?_) (fun g1=>?_)))
 try simp only [sQ,ne_eq] at g1
 refine Za (xA (h:=Zi (Zn ?_)))
 exact ZB .ret (.inl rfl) [_] t1 ⟨ZN (by first | (unfold szI ZbU;split <;> omega)),rfl,rfl⟩
 try simp only [sQ,ne_eq] at g1
 refine Zf (Zd (Za (xM (h:=xA (h:=Zi ?_)))))
 exact ZB .ret (.inl rfl) [_] t1 ⟨ZN (by first | (unfold szI ZbU;split <;> omega)),rfl,rfl⟩

set_option maxHeartbeats 400000 in
theorem ZoQ (x:DMail) (h1:x.text.length≤140737488355328) (left:Int) (hl0:0≤left) (hl1:left≤1048576) (B:Kn)  : Zaa (pj J) 158 [.agg #[.int .i64 x.uid,.int .i64 x.flags,str x.text],.int .i64 left] B (.int .i64 (szI left (ZcV x))):=by
 refine Zb 13 Tryz.func158 rfl rfl rfl (Nat.le_of_ble_eq_true rfl) ?_
 refine Za (xBx [_,_,_] (h:=fun b1=>xA (h:=ZH [_] rfl (Za (xM (h:=xW ZnV (h:=x1 lk9 0 (h:=xVs Tryz.underlying9 (h:=xU (h:=xA (h:=Zg (Za ?_))))))))))))
 refine xM (h:=ZF (h:=Zc rfl (fun g1=>?_) (fun g1=>?_)))
 try simp only [sQ,ne_eq] at g1
 refine Za (xA (h:=Zi (Zn ?_)))
 exact ZB .ret (.inl rfl) [_] t1 ⟨ZN (by first | (unfold szI ZcV;split <;> omega)),rfl,rfl⟩
 try simp only [sQ,ne_eq] at g1
 refine Zf (Zd (Za (xM (h:=xA (h:=Zi ?_)))))
 exact ZB .ret (.inl rfl) [_] t1 ⟨ZN (by first | (unfold szI ZcV;split <;> omega)),rfl,rfl⟩

set_option maxRecDepth 4000 in
set_option maxHeartbeats 400000 in
theorem ZoP (q : Option Addr) (cp : Nat) (xs : List Str) (left : Int) (hl0 : 0 ≤ left) (hl1 : left ≤ 1048576) (B : Kn) (hx : SlB B q cp 1 ZcM xs) : Zaa (pj J) 121 [.slice q xs.length cp, .int .i64 left] B (.int .i64 (szI left (szL List.length xs))) := by
  refine Zb 28 Tryz.func121 rfl rfl rfl (Nat.le_of_ble_eq_true rfl) ?_
  have hxn := hx.len
  refine Za (xA (h:=Za (xM (h:=xM (h:=xV Tryz.underlying103 (h:=xU (h:=xA (h:=Zg (Za (xM (h:=ZF (h:=Zc rfl (fun g1 => ?_) (fun g1 => ?_)))))))))))))
  try simp only [sQ, ne_eq] at g1
  refine Za (xA (h:=Zi (Zn ?_)))
  exact ZB .ret (.inl rfl) [_] ⟨rfl, trivial⟩ ⟨ZN (ZfL (by omega)).symm, rfl, rfl⟩
  try simp only [sQ, ne_eq] at g1
  refine Zf (Zd (Zg (Za (xA (h:=Zl (ZC (α := Nat × Int) [0, 11] (fun g => [(1, .int .i64 g.2), (5, .int .i64 g.1)]) [] (fun g => []) (fun g Bx => Bx = B ∧ g.1 ≤ xs.length ∧ g.2 = left - xs.length - ((xs.take g.1).map List.length).sum ∧ 0 ≤ g.2) (fun g => xs.length - g.1) (0, left - ↑xs.length) ⟨rfl, rfl, trivial⟩ rfl (⟨rfl, Nat.zero_le _, by simp, g1⟩) (fun g B1 hle1 hI => ?_)))))))
  obtain ⟨rfl, hk, hs, hl⟩ := hI
  refine ZL [(0, _), (1, _), (5, _), (11, _)] [] ⟨rfl, rfl, rfl, rfl, trivial⟩ rfl (Zg (Za (xM (h:=xM (h:=xV Tryz.underlying103 (h:=ZF (h:=Zc rfl (fun g2 => ?_) (fun g2 => ?_))))))))
  try simp only [sQ, ne_eq] at g2
  refine Zf (Zd (Zg (Zl (Za (xM (h:=xM (h:=xM (h:=?_))))))))
  obtain ⟨z, hz⟩ := ZW (xs := xs) (i := g.1) (by first | omega | (simp; done) | (simp; omega))
  obtain ⟨bb3, oo3, rfl⟩ := hx.base hz
  obtain ⟨_, ⟨rfl, hb4⟩, hc4⟩ := hx.elem hz
  refine xIx Tryz.underlying103 sz9 (h:=y1 lk9 hc4 0 (h:=xVs Tryz.underlying9 (h:=xU (h:=xA (h:=Za (xM (h:=ZF (h:=Zc rfl (fun g3 => ?_) (fun g3 => ?_)))))))))
  try simp only [sQ, ne_eq] at g3
  refine Za (xA (h:=Zi (ZE (Zn (ZS (ZE (Zn ?_)))))))
  exact ZB .ret (.inl rfl) [_] ⟨rfl, trivial⟩ ⟨ZN (ZfJ hz hs (by omega)).symm, rfl, rfl⟩
  try simp only [sQ, ne_eq] at g3
  refine Zf (ZP (Zd (Zk (xM (h:=xD (h:=xA (h:=?_)))))))
  exact ZD (g.1 + 1, g.2 - z.length) [] (by first | omega | (simp only []; omega)) ⟨rfl, by simp only []; omega, by rw [Zdz _ hz, hs]; omega, g3⟩ ⟨rfl, rfl, rfl, rfl, trivial⟩ rfl
  try simp only [sQ, ne_eq] at g2
  refine ZI (ZY (ZM (Zv (Zd (Za (xM (h:=xA (h:=Zi ?_))))))))
  exact ZB .ret (.inl rfl) [_] ⟨rfl, trivial⟩ ⟨ZN (ZfK hs hl (by omega)).symm, rfl, rfl⟩

set_option maxRecDepth 4000 in
set_option maxHeartbeats 400000 in
theorem ZmW (q : Option Addr) (cp : Nat) (xs : List DUser) (left : Int) (hl0 : 0 ≤ left) (hl1 : left ≤ 1048576) (B : Kn) (hx : SlB B q cp 3 Zdt xs) : Zaa (pj J) 24 [.slice q xs.length cp, .int .i64 left] B (.int .i64 (szI left (szL Zcu xs))) := by
  refine Zb 27 Tryz.func24 rfl rfl rfl (Nat.le_of_ble_eq_true rfl) ?_
  have hxn := hx.len
  refine Za (xA (h:=Za (xM (h:=xM (h:=xV Tryz.underlying22 (h:=xU (h:=xA (h:=Zg (Za (xM (h:=ZF (h:=Zc rfl (fun g1 => ?_) (fun g1 => ?_)))))))))))))
  try simp only [sQ, ne_eq] at g1
  refine Za (xA (h:=Zi (Zn ?_)))
  exact ZB .ret (.inl rfl) [_] ⟨rfl, trivial⟩ ⟨ZN (ZfL (by omega)).symm, rfl, rfl⟩
  try simp only [sQ, ne_eq] at g1
  refine Zf (Zd (Zg (Za (xA (h:=Zl (ZC (α := Nat × Int) [0, 11] (fun g => [(1, .int .i64 g.2), (5, .int .i64 g.1)]) [] (fun g => []) (fun g Bx => Bx = B ∧ g.1 ≤ xs.length ∧ g.2 = left - xs.length - ((xs.take g.1).map Zcu).sum ∧ 0 ≤ g.2) (fun g => xs.length - g.1) (0, left - ↑xs.length) ⟨rfl, rfl, trivial⟩ rfl (⟨rfl, Nat.zero_le _, by simp, g1⟩) (fun g B1 hle1 hI => ?_)))))))
  obtain ⟨rfl, hk, hs, hl⟩ := hI
  refine ZL [(0, _), (1, _), (5, _), (11, _)] [] ⟨rfl, rfl, rfl, rfl, trivial⟩ rfl (Zg (Za (xM (h:=xM (h:=xV Tryz.underlying22 (h:=ZF (h:=Zc rfl (fun g2 => ?_) (fun g2 => ?_))))))))
  try simp only [sQ, ne_eq] at g2
  refine Zf (Zd (Zg (Zl (Za (xM (h:=xM (h:=?_)))))))
  obtain ⟨z, hz⟩ := ZW (xs := xs) (i := g.1) (by first | omega | (simp; done) | (simp; omega))
  obtain ⟨bb3, oo3, rfl⟩ := hx.base hz
  obtain ⟨_, ⟨rfl, hb4, hb4b⟩, hc4⟩ := hx.elem hz
  refine xIx Tryz.underlying22 Zup (h:=yL [_, _, _] Zuy hc4 0 (h:=xM (h:=xR ZvF rfl (ZoO z (by first | omega | (simp; done) | (simp; omega)) (by first | omega | (simp; done) | (simp; omega)) g.2 (by first | omega | (simp; done) | (simp; omega)) (by first | omega | (simp; done) | (simp; omega)) _) (h:=?_))))
  refine xA (h:=Za (xM (h:=ZF (h:=Zc rfl (fun g3 => ?_) (fun g3 => ?_)))))
  try simp only [sQ, ne_eq] at g3
  refine Za (xA (h:=Zi (ZE (Zn (ZS (ZE (Zn ?_)))))))
  exact ZB .ret (.inl rfl) [_] ⟨rfl, trivial⟩ ⟨ZN (ZfJ hz hs ((ZbT hl).1 g3)).symm, rfl, rfl⟩
  try simp only [sQ, ne_eq] at g3
  refine Zf (ZP (Zd (Zk (xM (h:=xD (h:=xA (h:=?_)))))))
  exact ZD (g.1 + 1, szI g.2 (Zcu z)) [] (by first | omega | (simp only []; omega)) ⟨rfl, by simp only []; omega, by have := (Zba hl g3).1; rw [Zdz _ hz]; simp only []; omega, g3⟩ ⟨rfl, rfl, rfl, rfl, trivial⟩ rfl
  try simp only [sQ, ne_eq] at g2
  refine ZI (ZY (ZM (Zv (Zd (Za (xM (h:=xA (h:=Zi ?_))))))))
  exact ZB .ret (.inl rfl) [_] ⟨rfl, trivial⟩ ⟨ZN (ZfK hs hl (by omega)).symm, rfl, rfl⟩

set_option maxRecDepth 4000 in
set_option maxHeartbeats 400000 in
theorem ZlO (q : Option Addr) (cp : Nat) (xs : List DGrant) (left : Int) (hl0 : 0 ≤ left) (hl1 : left ≤ 1048576) (B : Kn) (hx : SlB B q cp 2 Zcf xs) : Zaa (pj J) 84 [.slice q xs.length cp, .int .i64 left] B (.int .i64 (szI left (szL ZbU xs))) := by
  refine Zb 27 Tryz.func84 rfl rfl rfl (Nat.le_of_ble_eq_true rfl) ?_
  have hxn := hx.len
  refine Za (xA (h:=Za (xM (h:=xM (h:=xV Tryz.underlying91 (h:=xU (h:=xA (h:=Zg (Za (xM (h:=ZF (h:=Zc rfl (fun g1 => ?_) (fun g1 => ?_)))))))))))))
  try simp only [sQ, ne_eq] at g1
  refine Za (xA (h:=Zi (Zn ?_)))
  exact ZB .ret (.inl rfl) [_] ⟨rfl, trivial⟩ ⟨ZN (ZfL (by omega)).symm, rfl, rfl⟩
  try simp only [sQ, ne_eq] at g1
  refine Zf (Zd (Zg (Za (xA (h:=Zl (ZC (α := Nat × Int) [0, 11] (fun g => [(1, .int .i64 g.2), (5, .int .i64 g.1)]) [] (fun g => []) (fun g Bx => Bx = B ∧ g.1 ≤ xs.length ∧ g.2 = left - xs.length - ((xs.take g.1).map ZbU).sum ∧ 0 ≤ g.2) (fun g => xs.length - g.1) (0, left - ↑xs.length) ⟨rfl, rfl, trivial⟩ rfl (⟨rfl, Nat.zero_le _, by simp, g1⟩) (fun g B1 hle1 hI => ?_)))))))
  obtain ⟨rfl, hk, hs, hl⟩ := hI
  refine ZL [(0, _), (1, _), (5, _), (11, _)] [] ⟨rfl, rfl, rfl, rfl, trivial⟩ rfl (Zg (Za (xM (h:=xM (h:=xV Tryz.underlying91 (h:=ZF (h:=Zc rfl (fun g2 => ?_) (fun g2 => ?_))))))))
  try simp only [sQ, ne_eq] at g2
  refine Zf (Zd (Zg (Zl (Za (xM (h:=xM (h:=?_)))))))
  obtain ⟨z, hz⟩ := ZW (xs := xs) (i := g.1) (by first | omega | (simp; done) | (simp; omega))
  obtain ⟨bb3, oo3, rfl⟩ := hx.base hz
  obtain ⟨_, ⟨rfl, hb4⟩, hc4⟩ := hx.elem hz
  refine xIx Tryz.underlying91 Zr6 (h:=yL [_, _] Zsj hc4 0 (h:=xM (h:=xR Zt6 rfl (Zm0 z (by first | omega | (simp; done) | (simp; omega)) g.2 (by first | omega | (simp; done) | (simp; omega)) (by first | omega | (simp; done) | (simp; omega)) _) (h:=?_))))
  refine xA (h:=Za (xM (h:=ZF (h:=Zc rfl (fun g3 => ?_) (fun g3 => ?_)))))
  try simp only [sQ, ne_eq] at g3
  refine Za (xA (h:=Zi (ZE (Zn (ZS (ZE (Zn ?_)))))))
  exact ZB .ret (.inl rfl) [_] ⟨rfl, trivial⟩ ⟨ZN (ZfJ hz hs ((ZbT hl).1 g3)).symm, rfl, rfl⟩
  try simp only [sQ, ne_eq] at g3
  refine Zf (ZP (Zd (Zk (xM (h:=xD (h:=xA (h:=?_)))))))
  exact ZD (g.1 + 1, szI g.2 (ZbU z)) [] (by first | omega | (simp only []; omega)) ⟨rfl, by simp only []; omega, by have := (Zba hl g3).1; rw [Zdz _ hz]; simp only []; omega, g3⟩ ⟨rfl, rfl, rfl, rfl, trivial⟩ rfl
  try simp only [sQ, ne_eq] at g2
  refine ZI (ZY (ZM (Zv (Zd (Za (xM (h:=xA (h:=Zi ?_))))))))
  exact ZB .ret (.inl rfl) [_] ⟨rfl, trivial⟩ ⟨ZN (ZfK hs hl (by omega)).symm, rfl, rfl⟩

set_option maxRecDepth 4000 in
set_option maxHeartbeats 400000 in
theorem ZmY (q : Option Addr) (cp : Nat) (xs : List DMail) (left : Int) (hl0 : 0 ≤ left) (hl1 : left ≤ 1048576) (B : Kn) (hx : SlB B q cp 3 ZcO xs) : Zaa (pj J) 120 [.slice q xs.length cp, .int .i64 left] B (.int .i64 (szI left (szL ZcV xs))) := by
  refine Zb 27 Tryz.func120 rfl rfl rfl (Nat.le_of_ble_eq_true rfl) ?_
  have hxn := hx.len
  refine Za (xA (h:=Za (xM (h:=xM (h:=xV Tryz.underlying92 (h:=xU (h:=xA (h:=Zg (Za (xM (h:=ZF (h:=Zc rfl (fun g1 => ?_) (fun g1 => ?_)))))))))))))
  try simp only [sQ, ne_eq] at g1
  refine Za (xA (h:=Zi (Zn ?_)))
  exact ZB .ret (.inl rfl) [_] ⟨rfl, trivial⟩ ⟨ZN (ZfL (by omega)).symm, rfl, rfl⟩
  try simp only [sQ, ne_eq] at g1
  refine Zf (Zd (Zg (Za (xA (h:=Zl (ZC (α := Nat × Int) [0, 11] (fun g => [(1, .int .i64 g.2), (5, .int .i64 g.1)]) [] (fun g => []) (fun g Bx => Bx = B ∧ g.1 ≤ xs.length ∧ g.2 = left - xs.length - ((xs.take g.1).map ZcV).sum ∧ 0 ≤ g.2) (fun g => xs.length - g.1) (0, left - ↑xs.length) ⟨rfl, rfl, trivial⟩ rfl (⟨rfl, Nat.zero_le _, by simp, g1⟩) (fun g B1 hle1 hI => ?_)))))))
  obtain ⟨rfl, hk, hs, hl⟩ := hI
  refine ZL [(0, _), (1, _), (5, _), (11, _)] [] ⟨rfl, rfl, rfl, rfl, trivial⟩ rfl (Zg (Za (xM (h:=xM (h:=xV Tryz.underlying92 (h:=ZF (h:=Zc rfl (fun g2 => ?_) (fun g2 => ?_))))))))
  try simp only [sQ, ne_eq] at g2
  refine Zf (Zd (Zg (Zl (Za (xM (h:=xM (h:=?_)))))))
  obtain ⟨z, hz⟩ := ZW (xs := xs) (i := g.1) (by first | omega | (simp; done) | (simp; omega))
  obtain ⟨bb3, oo3, rfl⟩ := hx.base hz
  obtain ⟨_, ⟨rfl, hb4⟩, hc4⟩ := hx.elem hz
  refine xIx Tryz.underlying92 Zr4 (h:=yL [_, _, _] Zsi hc4 0 (h:=xM (h:=xR ZtL rfl (ZoQ z (by first | omega | (simp; done) | (simp; omega)) g.2 (by first | omega | (simp; done) | (simp; omega)) (by first | omega | (simp; done) | (simp; omega)) _) (h:=?_))))
  refine xA (h:=Za (xM (h:=ZF (h:=Zc rfl (fun g3 => ?_) (fun g3 => ?_)))))
  try simp only [sQ, ne_eq] at g3
  refine Za (xA (h:=Zi (ZE (Zn (ZS (ZE (Zn ?_)))))))
  exact ZB .ret (.inl rfl) [_] ⟨rfl, trivial⟩ ⟨ZN (ZfJ hz hs ((ZbT hl).1 g3)).symm, rfl, rfl⟩
  try simp only [sQ, ne_eq] at g3
  refine Zf (ZP (Zd (Zk (xM (h:=xD (h:=xA (h:=?_)))))))
  exact ZD (g.1 + 1, szI g.2 (ZcV z)) [] (by first | omega | (simp only []; omega)) ⟨rfl, by simp only []; omega, by have := (Zba hl g3).1; rw [Zdz _ hz]; simp only []; omega, g3⟩ ⟨rfl, rfl, rfl, rfl, trivial⟩ rfl
  try simp only [sQ, ne_eq] at g2
  refine ZI (ZY (ZM (Zv (Zd (Za (xM (h:=xA (h:=Zi ?_))))))))
  exact ZB .ret (.inl rfl) [_] ⟨rfl, trivial⟩ ⟨ZN (ZfK hs hl (by omega)).symm, rfl, rfl⟩

set_option maxHeartbeats 400000 in
theorem ZoR (q:Option Addr) (cp:Nat) (x:DItem) (h1:x.fr.length≤140737488355328) (h2:x.text.length≤140737488355328) (left:Int) (hl0:0≤left) (hl1:left≤1048576) (B:Kn) (hx:SlB B q cp 1 ZcM x.left):Zaa (pj J) 86 [.agg #[.int .i64 x.id,str x.fr,str x.text,.slice q x.left.length cp],.int .i64 left] B (.int .i64 (szI left (Zbb x))):=by
 refine Zb 26 Tryz.func86 rfl rfl rfl (Nat.le_of_ble_eq_true rfl) ?_
 have hxn:=hx.len
 refine Za (xBx [_,_,_,_] (h:=fun b1=>xA (h:=ZH [_] rfl (Za (xM (h:=xW Zn1 (h:=x1 lk9 0 (h:=xVs Tryz.underlying9 (h:=xU (h:=xA (h:=Zg (Za ?_))))))))))))
 refine xM (h:=ZF (h:=Zc rfl (fun g1=>?_) (fun g1=>?_)))
 try simp only [sQ,ne_eq] at g1
 refine Za (xA (h:=Zi (Zn ?_)))
 exact ZB .ret (.inl rfl) [_] t1 ⟨ZN (by rw [Zbl (by unfold Zbb;omega)]),rfl,rfl⟩
 try simp only [sQ,ne_eq] at g1
 refine Zf (Zd (Za (xM (h:=xW Zn0 (h:=x1 lk9 0 (h:=xVs Tryz.underlying9 (h:=xU (h:=xA (h:=Zg (Za (xM (h:=ZF (h:=?_)))))))))))))
 refine Zc rfl (fun g2=>?_) (fun g2=>?_)
 try simp only [sQ,ne_eq] at g2
 refine Za (xA (h:=Zi (Zn ?_)))
 exact ZB .ret (.inl rfl) [_] t1 ⟨ZN (by rw [Zbl (by unfold Zbb;omega)]),rfl,rfl⟩
 try simp only [sQ,ne_eq] at g2
 refine Zf (Zd (Za (xW ZnZ (h:=x1 Zgn 0 (h:=xM (h:=?_))))))
 have hq2:=ZoP (J:=J) _ _ x.left ((left - ↑x.fr.length) - ↑x.text.length) om om _ hx
 refine xR Zt3 rfl hq2 (h:=xA (h:=Zg (Za (xM (h:=ZF (h:=Zc rfl (fun g3=>?_) (fun g3=>?_)))))))
 try simp only [sQ,ne_eq] at g3
 have g3x:=(ZbT oz).1 g3
 refine Za (xA (h:=Zi (Zn ?_)))
 exact ZB .ret (.inl rfl) [_] t1 ⟨ZN (by rw [Zbl (by unfold Zbb ZeE;omega)]),rfl,rfl⟩
 try simp only [sQ,ne_eq] at g3
 have g3x:=Zba oz g3
 refine Zf (Zd (Za (xM (h:=xA (h:=Zi ?_)))))
 exact ZB .ret (.inl rfl) [_] t1 ⟨ZN (by (try dsimp only at *);rw [Zk8 (left:=left) (s:=Zbb x) (by unfold Zbb ZeE;omega)];unfold Zbb ZeE;omega),rfl,rfl⟩

set_option maxRecDepth 4000 in
set_option maxHeartbeats 400000 in
theorem ZmZ (q : Option Addr) (cp : Nat) (xs : List DItem) (left : Int) (hl0 : 0 ≤ left) (hl1 : left ≤ 1048576) (B : Kn) (hx : SlB B q cp 4 Zb2 xs) : Zaa (pj J) 56 [.slice q xs.length cp, .int .i64 left] B (.int .i64 (szI left (szL Zbb xs))) := by
  refine Zb 27 Tryz.func56 rfl rfl rfl (Nat.le_of_ble_eq_true rfl) ?_
  have hxn := hx.len
  refine Za (xA (h:=Za (xM (h:=xM (h:=xV Tryz.underlying24 (h:=xU (h:=xA (h:=Zg (Za (xM (h:=ZF (h:=Zc rfl (fun g1 => ?_) (fun g1 => ?_)))))))))))))
  try simp only [sQ, ne_eq] at g1
  refine Za (xA (h:=Zi (Zn ?_)))
  exact ZB .ret (.inl rfl) [_] ⟨rfl, trivial⟩ ⟨ZN (ZfL (by omega)).symm, rfl, rfl⟩
  try simp only [sQ, ne_eq] at g1
  refine Zf (Zd (Zg (Za (xA (h:=Zl (ZC (α := Nat × Int) [0, 11] (fun g => [(1, .int .i64 g.2), (5, .int .i64 g.1)]) [] (fun g => []) (fun g Bx => Bx = B ∧ g.1 ≤ xs.length ∧ g.2 = left - xs.length - ((xs.take g.1).map Zbb).sum ∧ 0 ≤ g.2) (fun g => xs.length - g.1) (0, left - ↑xs.length) ⟨rfl, rfl, trivial⟩ rfl (⟨rfl, Nat.zero_le _, by simp, g1⟩) (fun g B1 hle1 hI => ?_)))))))
  obtain ⟨rfl, hk, hs, hl⟩ := hI
  refine ZL [(0, _), (1, _), (5, _), (11, _)] [] ⟨rfl, rfl, rfl, rfl, trivial⟩ rfl (Zg (Za (xM (h:=xM (h:=xV Tryz.underlying24 (h:=ZF (h:=Zc rfl (fun g2 => ?_) (fun g2 => ?_))))))))
  try simp only [sQ, ne_eq] at g2
  refine Zf (Zd (Zg (Zl (Za (xM (h:=xM (h:=?_)))))))
  obtain ⟨z, hz⟩ := ZW (xs := xs) (i := g.1) (by first | omega | (simp; done) | (simp; omega))
  obtain ⟨bb3, oo3, rfl⟩ := hx.base hz
  obtain ⟨_, ⟨qi4, ci4, rfl, hi4, hb4, hb4b⟩, hc4⟩ := hx.elem hz
  have hi4n := hi4.len
  refine xIx Tryz.underlying24 Zr8 (h:=yL [_, _, _, _] Zsl hc4 0 (h:=xM (h:=?_)))
  have hq5 := ZoR (J := J) _ _ z (by first | omega | (simp; done) | (simp; omega)) (by first | omega | (simp; done) | (simp; omega)) g.2 (by first | omega | (simp; done) | (simp; omega)) (by first | omega | (simp; done) | (simp; omega)) _ hi4
  refine xR Zvb rfl hq5 (h:=xA (h:=Za (xM (h:=ZF (h:=Zc rfl (fun g3 => ?_) (fun g3 => ?_))))))
  try simp only [sQ, ne_eq] at g3
  refine Za (xA (h:=Zi (ZE (Zn (ZS (ZE (Zn ?_)))))))
  exact ZB .ret (.inl rfl) [_] ⟨rfl, trivial⟩ ⟨ZN (ZfJ hz hs ((ZbT hl).1 g3)).symm, rfl, rfl⟩
  try simp only [sQ, ne_eq] at g3
  refine Zf (ZP (Zd (Zk (xM (h:=xD (h:=xA (h:=?_)))))))
  exact ZD (g.1 + 1, szI g.2 (Zbb z)) [] (by first | omega | (simp only []; omega)) ⟨rfl, by simp only []; omega, by have := (Zba hl g3).1; rw [Zdz _ hz]; simp only []; omega, g3⟩ ⟨rfl, rfl, rfl, rfl, trivial⟩ rfl
  try simp only [sQ, ne_eq] at g2
  refine ZI (ZY (ZM (Zv (Zd (Za (xM (h:=xA (h:=Zi ?_))))))))
  exact ZB .ret (.inl rfl) [_] ⟨rfl, trivial⟩ ⟨ZN (ZfK hs hl (by omega)).symm, rfl, rfl⟩

set_option maxHeartbeats 400000 in
theorem ZqH (q:Option Addr) (cp:Nat) (x:DBox) (left:Int) (hl0:0≤left) (hl1:left≤1048576) (B:Kn) (hx:SlB B q cp 3 ZcO x.mail):Zaa (pj J) 85 [.agg #[.int .i64 x.next,.slice q x.mail.length cp],.int .i64 left] B (.int .i64 (szI left (szL ZcV x.mail))):=by
 refine Zb 12 Tryz.func85 rfl rfl rfl (Nat.le_of_ble_eq_true rfl) ?_
 have hxn:=hx.len
 refine Za (xBx [_,_] (h:=fun b1=>xA (h:=ZH [_] rfl (Za (xW Zqf (h:=x1 Zuw 0 (h:=xM (h:=?_))))))))
 have hq2:=ZmY (J:=J) _ _ x.mail left om om _ hx
 refine xR Zt4 rfl hq2 (h:=xA (h:=Zg (Za (xM (h:=ZF (h:=Zc rfl (fun g1=>?_) (fun g1=>?_)))))))
 try simp only [sQ,ne_eq] at g1
 have g1x:=(ZbT oz).1 g1
 refine Za (xA (h:=Zi (Zn ?_)))
 exact ZB .ret (.inl rfl) [_] t1 ⟨ZN (by rw [Zbl g1x]),rfl,rfl⟩
 try simp only [sQ,ne_eq] at g1
 refine Zf (Zd (Za (xM (h:=xA (h:=Zi ?_)))))
 exact ZB .ret (.inl rfl) [_] t1 ⟨rfl,rfl,rfl⟩

set_option maxHeartbeats 400000 in
theorem ZmX (q:Option Addr) (cp:Nat) (x:DQueue) (left:Int) (hl0:0≤left) (hl1:left≤1048576) (B:Kn) (hx:SlB B q cp 4 Zb2 x.items):Zaa (pj J) 26 [.agg #[.int .i64 x.next,.slice q x.items.length cp],.int .i64 left] B (.int .i64 (szI left (szL Zbb x.items))):=by
 refine Zb 12 Tryz.func26 rfl rfl rfl (Nat.le_of_ble_eq_true rfl) ?_
 have hxn:=hx.len
 refine Za (xBx [_,_] (h:=fun b1=>xA (h:=ZH [_] rfl (Za (xW Zqp (h:=x1 ZuB 0 (h:=xM (h:=?_))))))))
 have hq2:=ZmZ (J:=J) _ _ x.items left om om _ hx
 refine xR ZvD rfl hq2 (h:=xA (h:=Zg (Za (xM (h:=ZF (h:=Zc rfl (fun g1=>?_) (fun g1=>?_)))))))
 try simp only [sQ,ne_eq] at g1
 have g1x:=(ZbT oz).1 g1
 refine Za (xA (h:=Zi (Zn ?_)))
 exact ZB .ret (.inl rfl) [_] t1 ⟨ZN (by rw [Zbl g1x]),rfl,rfl⟩
 try simp only [sQ,ne_eq] at g1
 refine Zf (Zd (Za (xM (h:=xA (h:=Zi ?_)))))
 exact ZB .ret (.inl rfl) [_] t1 ⟨rfl,rfl,rfl⟩

set_option maxHeartbeats 400000 in
theorem ZlP (qa qb:Option Addr) (ca cb:Nat) (x:DFolder) (h1:x.owner.length≤140737488355328) (h2:x.name.length≤140737488355328) (left:Int) (hl0:0≤left) (hl1:left≤1048576) (B:Kn) (hx:SlB B qa ca 2 Zcf x.grants) (hy:SlB B qb cb 3 ZcO x.mail):Zaa (pj J) 55 [.agg #[str x.owner,str x.name,.slice qa x.grants.length ca,.int .i64 x.next,.slice qb x.mail.length cb],.int .i64 left] B (.int .i64 (szI left (Zas x))):=by
 refine Zb 32 Tryz.func55 rfl rfl rfl (Nat.le_of_ble_eq_true rfl) ?_
 have hxn:=hx.len
 have hyn:=hy.len
 refine Za (xBx [_,_,_,_,_] (h:=fun b1=>xA (h:=ZH [_] rfl (Za (xM (h:=xW Zqe (h:=x1 lk9 0 (h:=xVs Tryz.underlying9 (h:=xU (h:=xA (h:=Zg (Za ?_))))))))))))
 refine xM (h:=ZF (h:=Zc rfl (fun g1=>?_) (fun g1=>?_)))
 try simp only [sQ,ne_eq] at g1
 refine Za (xA (h:=Zi (Zn ?_)))
 exact ZB .ret (.inl rfl) [_] t1 ⟨ZN (by rw [Zbl (by unfold Zas;omega)]),rfl,rfl⟩
 try simp only [sQ,ne_eq] at g1
 refine Zf (Zd (Za (xM (h:=xW Zqd (h:=x1 lk9 0 (h:=xVs Tryz.underlying9 (h:=xU (h:=xA (h:=Zg (Za (xM (h:=ZF (h:=?_)))))))))))))
 refine Zc rfl (fun g2=>?_) (fun g2=>?_)
 try simp only [sQ,ne_eq] at g2
 refine Za (xA (h:=Zi (Zn ?_)))
 exact ZB .ret (.inl rfl) [_] t1 ⟨ZN (by rw [Zbl (by unfold Zas;omega)]),rfl,rfl⟩
 try simp only [sQ,ne_eq] at g2
 refine Zf (Zd (Za (xW Zqc (h:=x1 Zux 0 (h:=xM (h:=?_))))))
 have hq2:=ZlO (J:=J) _ _ x.grants ((left - ↑x.owner.length) - ↑x.name.length) om om _ hx
 refine xR Zvd rfl hq2 (h:=xA (h:=Zg (Za (xM (h:=ZF (h:=Zc rfl (fun g3=>?_) (fun g3=>?_)))))))
 try simp only [sQ,ne_eq] at g3
 have g3x:=(ZbT oz).1 g3
 refine Za (xA (h:=Zi (Zn ?_)))
 exact ZB .ret (.inl rfl) [_] t1 ⟨ZN (by rw [Zbl (by unfold Zas;omega)]),rfl,rfl⟩
 try simp only [sQ,ne_eq] at g3
 have g3x:=Zba oz g3
 refine Zf (Zd (Za (xW Zqb (h:=xL [_,_] Zuv 0 (h:=xM (h:=?_))))))
 have hq3:=ZqH (J:=J) _ _ (⟨x.next,x.mail⟩:DBox) (szI ((left - ↑x.owner.length) - ↑x.name.length) (szL ZbU x.grants)) om om _ hy
 refine xR Zvc rfl hq3 (h:=xA (h:=Zg (Za (xM (h:=ZF (h:=Zc rfl (fun g4=>?_) (fun g4=>?_)))))))
 try simp only [sQ,ne_eq] at g4
 have g4x:=(ZbT oz).1 g4
 refine Za (xA (h:=Zi (Zn ?_)))
 exact ZB .ret (.inl rfl) [_] t1 ⟨ZN (by rw [Zbl (by unfold Zas;omega)]),rfl,rfl⟩
 try simp only [sQ,ne_eq] at g4
 have g4x:=Zba oz g4
 refine Zf (Zd (Za (xM (h:=xA (h:=Zi ?_)))))
 exact ZB .ret (.inl rfl) [_] t1 ⟨ZN (by (try dsimp only at *);rw [Zk8 (left:=left) (s:=Zas x) (by unfold Zas;omega)];unfold Zas;omega),rfl,rfl⟩

set_option maxRecDepth 4000 in
set_option maxHeartbeats 400000 in
theorem Zka (q : Option Addr) (cp : Nat) (xs : List DFolder) (left : Int) (hl0 : 0 ≤ left) (hl1 : left ≤ 1048576) (B : Kn) (hx : SlB B q cp 5 ZaJ xs) : Zaa (pj J) 25 [.slice q xs.length cp, .int .i64 left] B (.int .i64 (szI left (szL Zas xs))) := by
  refine Zb 27 Tryz.func25 rfl rfl rfl (Nat.le_of_ble_eq_true rfl) ?_
  have hxn := hx.len
  refine Za (xA (h:=Za (xM (h:=xM (h:=xV Tryz.underlying23 (h:=xU (h:=xA (h:=Zg (Za (xM (h:=ZF (h:=Zc rfl (fun g1 => ?_) (fun g1 => ?_)))))))))))))
  try simp only [sQ, ne_eq] at g1
  refine Za (xA (h:=Zi (Zn ?_)))
  exact ZB .ret (.inl rfl) [_] ⟨rfl, trivial⟩ ⟨ZN (ZfL (by omega)).symm, rfl, rfl⟩
  try simp only [sQ, ne_eq] at g1
  refine Zf (Zd (Zg (Za (xA (h:=Zl (ZC (α := Nat × Int) [0, 11] (fun g => [(1, .int .i64 g.2), (5, .int .i64 g.1)]) [] (fun g => []) (fun g Bx => Bx = B ∧ g.1 ≤ xs.length ∧ g.2 = left - xs.length - ((xs.take g.1).map Zas).sum ∧ 0 ≤ g.2) (fun g => xs.length - g.1) (0, left - ↑xs.length) ⟨rfl, rfl, trivial⟩ rfl (⟨rfl, Nat.zero_le _, by simp, g1⟩) (fun g B1 hle1 hI => ?_)))))))
  obtain ⟨rfl, hk, hs, hl⟩ := hI
  refine ZL [(0, _), (1, _), (5, _), (11, _)] [] ⟨rfl, rfl, rfl, rfl, trivial⟩ rfl (Zg (Za (xM (h:=xM (h:=xV Tryz.underlying23 (h:=ZF (h:=Zc rfl (fun g2 => ?_) (fun g2 => ?_))))))))
  try simp only [sQ, ne_eq] at g2
  refine Zf (Zd (Zg (Zl (Za (xM (h:=xM (h:=?_)))))))
  obtain ⟨z, hz⟩ := ZW (xs := xs) (i := g.1) (by first | omega | (simp; done) | (simp; omega))
  obtain ⟨bb3, oo3, rfl⟩ := hx.base hz
  obtain ⟨_, ⟨qg4, cg4, qm4, cm4, rfl, hg4, hm4, hb4, hb4b⟩, hc4⟩ := hx.elem hz
  have hg4n := hg4.len
  have hm4n := hm4.len
  refine xIx Tryz.underlying23 Zuo (h:=yL [_, _, _, _, _] Zuu hc4 0 (h:=xM (h:=?_)))
  have hq5 := ZlP (J := J) _ _ _ _ z (by first | omega | (simp; done) | (simp; omega)) (by first | omega | (simp; done) | (simp; omega)) g.2 (by first | omega | (simp; done) | (simp; omega)) (by first | omega | (simp; done) | (simp; omega)) _ hg4 hm4
  refine xR ZvE rfl hq5 (h:=xA (h:=Za (xM (h:=ZF (h:=Zc rfl (fun g3 => ?_) (fun g3 => ?_))))))
  try simp only [sQ, ne_eq] at g3
  refine Za (xA (h:=Zi (ZE (Zn (ZS (ZE (Zn ?_)))))))
  exact ZB .ret (.inl rfl) [_] ⟨rfl, trivial⟩ ⟨ZN (ZfJ hz hs ((ZbT hl).1 g3)).symm, rfl, rfl⟩
  try simp only [sQ, ne_eq] at g3
  refine Zf (ZP (Zd (Zk (xM (h:=xD (h:=xA (h:=?_)))))))
  exact ZD (g.1 + 1, szI g.2 (Zas z)) [] (by first | omega | (simp only []; omega)) ⟨rfl, by simp only []; omega, by have := (Zba hl g3).1; rw [Zdz _ hz]; simp only []; omega, g3⟩ ⟨rfl, rfl, rfl, rfl, trivial⟩ rfl
  try simp only [sQ, ne_eq] at g2
  refine ZI (ZY (ZM (Zv (Zd (Za (xM (h:=xA (h:=Zi ?_))))))))
  exact ZB .ret (.inl rfl) [_] ⟨rfl, trivial⟩ ⟨ZN (ZfK hs hl (by omega)).symm, rfl, rfl⟩

set_option maxHeartbeats 400000 in
theorem Zid (q1 q2 q3:Option Addr) (c1 c2 c3:Nat) (x:DHost) (hd:x.domain.length≤140737488355328) (left:Int) (hl0:0≤left) (hl1:left≤1048576) (B:Kn) (hu:SlB B q1 c1 3 Zdt x.users) (hf:SlB B q2 c2 5 ZaJ x.folders) (hi:SlB B q3 c3 4 Zb2 x.queue.items):Zaa (pj J) 6 [.agg #[str x.domain,.slice q1 x.users.length c1,.slice q2 x.folders.length c2,.int .i64 x.queue.next,.slice q3 x.queue.items.length c3],.int .i64 left] B (.int .i64 (szI left (ZbA x))):=by
 refine Zb 31 Tryz.func6 rfl rfl rfl (Nat.le_of_ble_eq_true rfl) ?_
 have hun:=hu.len
 have hfn:=hf.len
 have hin:=hi.len
 refine Za (xBx [_,_,_,_,_] (h:=fun b1=>xA (h:=ZH [_] rfl (Za (xM (h:=xW Zqo (h:=x1 lk9 0 (h:=xVs Tryz.underlying9 (h:=xU (h:=xA (h:=Zg (Za ?_))))))))))))
 refine xM (h:=ZF (h:=Zc rfl (fun g1=>?_) (fun g1=>?_)))
 try simp only [sQ,ne_eq] at g1
 refine Za (xA (h:=Zi (Zn ?_)))
 exact ZB .ret (.inl rfl) [_] t1 ⟨ZN (by rw [Zbl (by unfold ZbA;omega)]),rfl,rfl⟩
 try simp only [sQ,ne_eq] at g1
 refine Zf (Zd (Za (xW Zqn (h:=x1 ZuD 0 (h:=xM (h:=?_))))))
 have hq2:=ZmW (J:=J) _ _ x.users (left - ↑x.domain.length) om om _ hu
 refine xR ZvU rfl hq2 (h:=xA (h:=Zg (Za (xM (h:=ZF (h:=Zc rfl (fun g2=>?_) (fun g2=>?_)))))))
 try simp only [sQ,ne_eq] at g2
 have g2x:=(ZbT oz).1 g2
 refine Za (xA (h:=Zi (Zn ?_)))
 exact ZB .ret (.inl rfl) [_] t1 ⟨ZN (by rw [Zbl (by unfold ZbA;omega)]),rfl,rfl⟩
 try simp only [sQ,ne_eq] at g2
 have g2x:=Zba oz g2
 refine Zf (Zd (Za (xW Zqm (h:=x1 ZuC 0 (h:=xM (h:=?_))))))
 have hq3:=Zka (J:=J) _ _ x.folders (szI (left - ↑x.domain.length) (szL Zcu x.users)) om om _ hf
 refine xR ZvT rfl hq3 (h:=xA (h:=Zg (Za (xM (h:=ZF (h:=Zc rfl (fun g3=>?_) (fun g3=>?_)))))))
 try simp only [sQ,ne_eq] at g3
 have g3x:=(ZbT oz).1 g3
 refine Za (xA (h:=Zi (Zn ?_)))
 exact ZB .ret (.inl rfl) [_] t1 ⟨ZN (by rw [Zbl (by unfold ZbA;omega)]),rfl,rfl⟩
 try simp only [sQ,ne_eq] at g3
 have g3x:=Zba oz g3
 refine Zf (Zd (Za (xW Zql (h:=xL [_,_] ZuA 0 (h:=xM (h:=?_))))))
 have hq4:=ZmX (J:=J) _ _ (⟨x.queue.next,x.queue.items⟩:DQueue) (szI (szI (left - ↑x.domain.length) (szL Zcu x.users)) (szL Zas x.folders)) om om _ hi
 refine xR ZvS rfl hq4 (h:=xA (h:=Zg (Za (xM (h:=ZF (h:=Zc rfl (fun g4=>?_) (fun g4=>?_)))))))
 try simp only [sQ,ne_eq] at g4
 have g4x:=(ZbT oz).1 g4
 refine Za (xA (h:=Zi (Zn ?_)))
 exact ZB .ret (.inl rfl) [_] t1 ⟨ZN (by rw [Zbl (by unfold ZbA;omega)]),rfl,rfl⟩
 try simp only [sQ,ne_eq] at g4
 have g4x:=Zba oz g4
 refine Zf (Zd (Za (xM (h:=xA (h:=Zi ?_)))))
 exact ZB .ret (.inl rfl) [_] t1 ⟨ZN (by (try dsimp only at *);rw [Zk8 (left:=left) (s:=ZbA x) (by unfold ZbA;omega)];unfold ZbA;omega),rfl,rfl⟩

set_option maxHeartbeats 400000 in
theorem ZoK (x:DUser)  (B:Kn):Zaa (pj J) 64 [.agg #[str x.name,str x.pass,.int .i64 x.quota]] B (.agg #[str x.name,str x.pass,.int .i64 x.quota]):=by
 refine Zb 14 Tryz.func64 rfl rfl rfl (Nat.le_of_ble_eq_true rfl) ?_
 refine Za (xBx [_,_,_] (h:=fun b1=>xAl [_,_,_] ZfH (h:=fun b2=>ZH [_,_] rfl (Za (xAl [_,_,_] ZfH (h:=fun b3=>ZH [_,_,_] rfl (Za (xW Zqh (h:=x1 lk9 0 (h:=xW ZaX (h:=xS [_] 2 [_,_,_] sz9 (h:=ZH [_,_,_] rfl ?_))))))))))))
 refine Za (xW Zqg (h:=x1 lk9 0 (h:=xW Zf1 (h:=xS [_] 2 [_,_,_] sz9 (h:=ZH [_,_,_] rfl (Za (xW Zsq (h:=x1 lk3 0 (h:=xW ZdN (h:=xS [_] 2 [_,_,_] sz3 (h:=ZH [_,_,_] rfl (Za ?_))))))))))))
 refine xL [_,_,_] ZeA 2 (h:=xS [_,_,_] 1 [_,_,_] ZbV (h:=ZH [_,_,_] rfl (Zi ?_)))
 exact ZB .ret (.inl rfl) [_] ⟨⟨_,rfl,.inr ⟨[_,_,_],ZeA,ZcQ 1 rfl rfl rfl,rfl⟩⟩,trivial⟩ ⟨rfl,rfl,rfl⟩

set_option maxHeartbeats 400000 in
theorem ZmT (x:DGrant)  (B:Kn):Zaa (pj J) 124 [.agg #[str x.user,.int .i64 x.rights]] B (.agg #[str x.user,.int .i64 x.rights]):=by
 refine Zb 11 Tryz.func124 rfl rfl rfl (Nat.le_of_ble_eq_true rfl) ?_
 refine Za (xBx [_,_] (h:=fun b1=>xAl [_,_] ZfG (h:=fun b2=>ZH [_,_] rfl (Za (xAl [_,_] ZfG (h:=fun b3=>ZH [_,_,_] rfl (Za (xW ZnW (h:=x1 lk9 0 (h:=xW ZbK (h:=xS [_] 2 [_,_] sz9 (h:=ZH [_,_,_] rfl ?_))))))))))))
 refine Za (xW Zrh (h:=x1 lk3 0 (h:=xW ZcH (h:=xS [_] 2 [_,_] sz3 (h:=ZH [_,_,_] rfl (Za (xL [_,_] Znz 2 (h:=xS [_,_] 1 [_,_] ZbO (h:=ZH [_,_,_] rfl (Zi ?_))))))))))
 exact ZB .ret (.inl rfl) [_] ⟨⟨_,rfl,.inr ⟨[_,_],Znz,ZcQ 1 rfl rfl rfl,rfl⟩⟩,trivial⟩ ⟨rfl,rfl,rfl⟩

set_option maxHeartbeats 400000 in
theorem ZoM (x:DMail)  (B:Kn):Zaa (pj J) 161 [.agg #[.int .i64 x.uid,.int .i64 x.flags,str x.text]] B (.agg #[.int .i64 x.uid,.int .i64 x.flags,str x.text]):=by
 refine Zb 14 Tryz.func161 rfl rfl rfl (Nat.le_of_ble_eq_true rfl) ?_
 refine Za (xBx [_,_,_] (h:=fun b1=>xAl [_,_,_] Zh8 (h:=fun b2=>ZH [_,_] rfl (Za (xAl [_,_,_] Zh8 (h:=fun b3=>ZH [_,_,_] rfl (Za (xW Zrg (h:=x1 lk3 0 (h:=xW Zb9 (h:=xS [_] 2 [_,_,_] sz3 (h:=ZH [_,_,_] rfl ?_))))))))))))
 refine Za (xW Zrf (h:=x1 lk3 0 (h:=xW Ze4 (h:=xS [_] 2 [_,_,_] sz3 (h:=ZH [_,_,_] rfl (Za (xW ZnV (h:=x1 lk9 0 (h:=xW ZdM (h:=xS [_] 2 [_,_,_] sz9 (h:=ZH [_,_,_] rfl (Za ?_))))))))))))
 refine xL [_,_,_] Zjq 2 (h:=xS [_,_,_] 1 [_,_,_] Zcv (h:=ZH [_,_,_] rfl (Zi ?_)))
 exact ZB .ret (.inl rfl) [_] ⟨⟨_,rfl,.inr ⟨[_,_,_],Zjq,ZcQ 1 rfl rfl rfl,rfl⟩⟩,trivial⟩ ⟨rfl,rfl,rfl⟩

set_option maxHeartbeats 400000 in
theorem ZoL (q:Option Addr) (cp:Nat) (xs:List Str) (hx20:ZeE xs≤1048576) (B:Kn) (hx:SlK B q cp 1 Zek xs):ZJ (pj J) 126 [.slice q xs.length cp] B [] (fun v B' Ls=>∃q c l,v = .slice q xs.length c∧B'=B∧Ls=[l]∧Z3 Kn.none l q c 9 1 Zek xs):=by
 refine Zb 22 Tryz.func126 rfl rfl rfl (Nat.le_of_ble_eq_true rfl) ?_
 have hxn:=hx.len
 have hx21:=ZqI hx20
 refine Za (xA (h:=Za (xM (h:=xV Tryz.underlying103 (h:=Zo (Zbj (m:=xs.length) (c:=xs.length) (by_:=16) [.string ⟨#[]⟩] rfl rfl Zrm zo9 rfl rfl ⟨_,_,rfl,by first | omega | (simp;done) | (simp;omega)⟩ ⟨_,_,rfl,by first | omega | (simp;done) | (simp;omega)⟩ om om (fun b1=>?_)))))))
 have hv1:=Z3.zeros (B:=Kn.none) (b:=b1) (T:=9) (R:=Zek) (d:=([]:Str)) (m:=xs.length) (c:=xs.length) (zs:=[.string ⟨#[]⟩]) rfl (⟨rfl,by simp⟩) om
 refine xA (h:=ZH [_] rfl (Zg (Za (xA (h:=Zl (ZC (α:=Nat × Cells) [0,2] (fun g=>[(3,.slice (some ⟨b1,0,none⟩) xs.length xs.length),(4,.int .i64 g.1)]) [0] (fun g=>[g.2]) (fun g Bx=>Bx=B∧g.1≤xs.length∧Z3 Kn.none g.2 (some ⟨b1,0,none⟩) xs.length 9 1 Zek (fill xs ([]:Str) g.1)) (fun g=>xs.length - g.1) (0,_) t2 rfl (⟨rfl,Nat.zero_le _,by rw [Zdo];exact hv1⟩) (fun g B2 hle2 hI=>?_)))))))
 obtain ⟨rfl,hk,hvl⟩:=hI
 have hfl:=Zes (d:=([]:Str)) hk
 refine ZL [(0,_),(2,_),(3,_),(4,_)] [_] t4 rfl (Zg (Za (xM (h:=xM (h:=xV Tryz.underlying103 (h:=ZF (h:=Zc rfl (fun g1=>?_) (fun g1=>?_))))))))
 try simp only [sQ,ne_eq] at g1
 refine Zf (Zd (Zg (Zl (Zk (xM (h:=xM (h:=xM (h:=xM (h:=?_)))))))))
 obtain ⟨z,hz⟩:=ZW (xs:=xs) (i:=g.1) om
 obtain ⟨bb4,oo4,rfl⟩:=hx.base hz
 obtain ⟨_,⟨rfl,hb5⟩,hc5⟩:=hx.elem hz
 refine xIx Tryz.underlying103 sz9 (h:=y1 lk9 hc5 0 (h:=xIp rfl Tryz.underlying103 sz9 (h:=Zo (ZoE (R:=Zek) (k:=g.1) (z) 0 rfl hvl rfl om rfl rfl sz9 rfl rfl rfl rfl rfl (⟨rfl,by first | assumption | omega | (simp;omega)⟩) (fun l7 hv7=>?_)))))
 refine ZP (Zd (Zk (xM (h:=xD (h:=xA (h:=?_))))))
 exact ZD (g.1+1,l7) [0] so2 ⟨rfl,so,by rw [← Zdp hz];exact hv7⟩ t4 rfl
 try simp only [sQ,ne_eq] at g1
 refine ZI (ZY (ZM (Zv (Zd (Za (xM (h:=xA (h:=Zi ?_))))))))
 exact Zbx .ret (.inl rfl) [_] [0] rfl t1 ⟨_,_,_,rfl,rfl,rfl,by have e:=hvl;rw [Zet oz] at e;exact e⟩

set_option maxHeartbeats 400000 in
theorem ZmP (q:Option Addr) (cp:Nat) (xs:List DUser) (hx20:szL Zcu xs≤1048576) (B:Kn) (hx:SlK B q cp 3 Zq xs):ZJ (pj J) 30 [.slice q xs.length cp] B [] (fun v B' Ls=>∃q c l,v = .slice q xs.length c∧B'=B∧Ls=[l]∧Z3 Kn.none l q c 101 3 Zq xs):=by
 refine Zb 23 Tryz.func30 rfl rfl rfl (Nat.le_of_ble_eq_true rfl) ?_
 have hxn:=hx.len
 have hx21:=(ZaA hx20).1
 refine Za (xA (h:=Za (xM (h:=xV Tryz.underlying22 (h:=Zo (Zbj (m:=xs.length) (c:=xs.length) (by_:=40) [.string ⟨#[]⟩,.string ⟨#[]⟩,.int .i64 0] rfl rfl ZuZ ZfH rfl rfl ⟨_,_,rfl,by first | omega | (simp;done) | (simp;omega)⟩ ⟨_,_,rfl,by first | omega | (simp;done) | (simp;omega)⟩ om om (fun b1=>?_)))))))
 have hv1:=Z3.zeros (B:=Kn.none) (b:=b1) (T:=101) (R:=Zq) (d:=(⟨[],[],0⟩:DUser)) (m:=xs.length) (c:=xs.length) (zs:=[.string ⟨#[]⟩,.string ⟨#[]⟩,.int .i64 0]) rfl (⟨rfl,by simp,by simp⟩) om
 refine xA (h:=ZH [_] rfl (Zg (Za (xA (h:=Zl (ZC (α:=Nat × Cells) [0,2] (fun g=>[(3,.slice (some ⟨b1,0,none⟩) xs.length xs.length),(4,.int .i64 g.1)]) [0] (fun g=>[g.2]) (fun g Bx=>Bx=B∧g.1≤xs.length∧Z3 Kn.none g.2 (some ⟨b1,0,none⟩) xs.length 101 3 Zq (fill xs (⟨[],[],0⟩:DUser) g.1)) (fun g=>xs.length - g.1) (0,_) t2 rfl (⟨rfl,Nat.zero_le _,by rw [Zdo];exact hv1⟩) (fun g B2 hle2 hI=>?_)))))))
 obtain ⟨rfl,hk,hvl⟩:=hI
 have hfl:=Zes (d:=(⟨[],[],0⟩:DUser)) hk
 refine ZL [(0,_),(2,_),(3,_),(4,_)] [_] t4 rfl (Zg (Za (xM (h:=xM (h:=xV Tryz.underlying22 (h:=ZF (h:=Zc rfl (fun g1=>?_) (fun g1=>?_))))))))
 try simp only [sQ,ne_eq] at g1
 refine Zf (Zd (Zg (Zl (Zk (xM (h:=xM (h:=xM (h:=xM (h:=?_)))))))))
 obtain ⟨z,hz⟩:=ZW (xs:=xs) (i:=g.1) om
 obtain ⟨bb4,oo4,rfl⟩:=hx.base hz
 obtain ⟨_,⟨rfl,hb5,hb5b⟩,hc5⟩:=hx.elem hz
 refine xIx Tryz.underlying22 Zup (h:=yL [_,_,_] Zuy hc5 0 (h:=xR Zvv rfl (ZoK z  _) (h:=xIp rfl Tryz.underlying38 ZbV (h:=Zo (ZoE (R:=Zq) (k:=g.1) (z) 0 rfl hvl rfl om rfl rfl ZbV rfl rfl rfl rfl rfl (⟨rfl,by first | assumption | omega | (simp;done) | (simp;omega),by first | assumption | omega | (simp;done) | (simp;omega)⟩) (fun l8 hv8=>?_))))))
 refine ZP (Zd (Zk (xM (h:=xD (h:=xA (h:=?_))))))
 exact ZD (g.1+1,l8) [0] so2 ⟨rfl,so,by rw [← Zdp hz];exact hv8⟩ t4 rfl
 try simp only [sQ,ne_eq] at g1
 refine ZI (ZY (ZM (Zv (Zd (Za (xM (h:=xA (h:=Zi ?_))))))))
 exact Zbx .ret (.inl rfl) [_] [0] rfl t1 ⟨_,_,_,rfl,rfl,rfl,by have e:=hvl;rw [Zet oz] at e;exact e⟩

set_option maxHeartbeats 400000 in
theorem ZlM (q:Option Addr) (cp:Nat) (xs:List DGrant) (hx20:szL ZbU xs≤1048576) (B:Kn) (hx:SlK B q cp 2 Zu xs):ZJ (pj J) 95 [.slice q xs.length cp] B [] (fun v B' Ls=>∃q c l,v = .slice q xs.length c∧B'=B∧Ls=[l]∧Z3 Kn.none l q c 117 2 Zu xs):=by
 refine Zb 23 Tryz.func95 rfl rfl rfl (Nat.le_of_ble_eq_true rfl) ?_
 have hxn:=hx.len
 have hx21:=(ZaA hx20).1
 refine Za (xA (h:=Za (xM (h:=xV Tryz.underlying91 (h:=Zo (Zbj (m:=xs.length) (c:=xs.length) (by_:=24) [.string ⟨#[]⟩,.int .i64 0] rfl rfl Ztq ZfG rfl rfl ⟨_,_,rfl,by first | omega | (simp;done) | (simp;omega)⟩ ⟨_,_,rfl,by first | omega | (simp;done) | (simp;omega)⟩ om om (fun b1=>?_)))))))
 have hv1:=Z3.zeros (B:=Kn.none) (b:=b1) (T:=117) (R:=Zu) (d:=(⟨[],0⟩:DGrant)) (m:=xs.length) (c:=xs.length) (zs:=[.string ⟨#[]⟩,.int .i64 0]) rfl (⟨rfl,by simp⟩) om
 refine xA (h:=ZH [_] rfl (Zg (Za (xA (h:=Zl (ZC (α:=Nat × Cells) [0,2] (fun g=>[(3,.slice (some ⟨b1,0,none⟩) xs.length xs.length),(4,.int .i64 g.1)]) [0] (fun g=>[g.2]) (fun g Bx=>Bx=B∧g.1≤xs.length∧Z3 Kn.none g.2 (some ⟨b1,0,none⟩) xs.length 117 2 Zu (fill xs (⟨[],0⟩:DGrant) g.1)) (fun g=>xs.length - g.1) (0,_) t2 rfl (⟨rfl,Nat.zero_le _,by rw [Zdo];exact hv1⟩) (fun g B2 hle2 hI=>?_)))))))
 obtain ⟨rfl,hk,hvl⟩:=hI
 have hfl:=Zes (d:=(⟨[],0⟩:DGrant)) hk
 refine ZL [(0,_),(2,_),(3,_),(4,_)] [_] t4 rfl (Zg (Za (xM (h:=xM (h:=xV Tryz.underlying91 (h:=ZF (h:=Zc rfl (fun g1=>?_) (fun g1=>?_))))))))
 try simp only [sQ,ne_eq] at g1
 refine Zf (Zd (Zg (Zl (Zk (xM (h:=xM (h:=xM (h:=xM (h:=?_)))))))))
 obtain ⟨z,hz⟩:=ZW (xs:=xs) (i:=g.1) om
 obtain ⟨bb4,oo4,rfl⟩:=hx.base hz
 obtain ⟨_,⟨rfl,hb5⟩,hc5⟩:=hx.elem hz
 refine xIx Tryz.underlying91 Zr6 (h:=yL [_,_] Zsj hc5 0 (h:=xR Zt0 rfl (ZmT z  _) (h:=xIp rfl Tryz.underlying30 ZbO (h:=Zo (ZoE (R:=Zu) (k:=g.1) (z) 0 rfl hvl rfl om rfl rfl ZbO rfl rfl rfl rfl rfl (⟨rfl,by first | assumption | omega | (simp;done) | (simp;omega)⟩) (fun l8 hv8=>?_))))))
 refine ZP (Zd (Zk (xM (h:=xD (h:=xA (h:=?_))))))
 exact ZD (g.1+1,l8) [0] so2 ⟨rfl,so,by rw [← Zdp hz];exact hv8⟩ t4 rfl
 try simp only [sQ,ne_eq] at g1
 refine ZI (ZY (ZM (Zv (Zd (Za (xM (h:=xA (h:=Zi ?_))))))))
 exact Zbx .ret (.inl rfl) [_] [0] rfl t1 ⟨_,_,_,rfl,rfl,rfl,by have e:=hvl;rw [Zet oz] at e;exact e⟩

set_option maxHeartbeats 400000 in
theorem ZmR (q:Option Addr) (cp:Nat) (xs:List DMail) (hx20:szL ZcV xs≤1048576) (B:Kn) (hx:SlK B q cp 3 ZK xs):ZJ (pj J) 125 [.slice q xs.length cp] B [] (fun v B' Ls=>∃q c l,v = .slice q xs.length c∧B'=B∧Ls=[l]∧Z3 Kn.none l q c 126 3 ZK xs):=by
 refine Zb 23 Tryz.func125 rfl rfl rfl (Nat.le_of_ble_eq_true rfl) ?_
 have hxn:=hx.len
 have hx21:=(ZaA hx20).1
 refine Za (xA (h:=Za (xM (h:=xV Tryz.underlying92 (h:=Zo (Zbj (m:=xs.length) (c:=xs.length) (by_:=32) [.int .i64 0,.int .i64 0,.string ⟨#[]⟩] rfl rfl Ztp Zh8 rfl rfl ⟨_,_,rfl,by first | omega | (simp;done) | (simp;omega)⟩ ⟨_,_,rfl,by first | omega | (simp;done) | (simp;omega)⟩ om om (fun b1=>?_)))))))
 have hv1:=Z3.zeros (B:=Kn.none) (b:=b1) (T:=126) (R:=ZK) (d:=(⟨0,0,[]⟩:DMail)) (m:=xs.length) (c:=xs.length) (zs:=[.int .i64 0,.int .i64 0,.string ⟨#[]⟩]) rfl (⟨rfl,by simp⟩) om
 refine xA (h:=ZH [_] rfl (Zg (Za (xA (h:=Zl (ZC (α:=Nat × Cells) [0,2] (fun g=>[(3,.slice (some ⟨b1,0,none⟩) xs.length xs.length),(4,.int .i64 g.1)]) [0] (fun g=>[g.2]) (fun g Bx=>Bx=B∧g.1≤xs.length∧Z3 Kn.none g.2 (some ⟨b1,0,none⟩) xs.length 126 3 ZK (fill xs (⟨0,0,[]⟩:DMail) g.1)) (fun g=>xs.length - g.1) (0,_) t2 rfl (⟨rfl,Nat.zero_le _,by rw [Zdo];exact hv1⟩) (fun g B2 hle2 hI=>?_)))))))
 obtain ⟨rfl,hk,hvl⟩:=hI
 have hfl:=Zes (d:=(⟨0,0,[]⟩:DMail)) hk
 refine ZL [(0,_),(2,_),(3,_),(4,_)] [_] t4 rfl (Zg (Za (xM (h:=xM (h:=xV Tryz.underlying92 (h:=ZF (h:=Zc rfl (fun g1=>?_) (fun g1=>?_))))))))
 try simp only [sQ,ne_eq] at g1
 refine Zf (Zd (Zg (Zl (Zk (xM (h:=xM (h:=xM (h:=xM (h:=?_)))))))))
 obtain ⟨z,hz⟩:=ZW (xs:=xs) (i:=g.1) om
 obtain ⟨bb4,oo4,rfl⟩:=hx.base hz
 obtain ⟨_,⟨rfl,hb5⟩,hc5⟩:=hx.elem hz
 refine xIx Tryz.underlying92 Zr4 (h:=yL [_,_,_] Zsi hc5 0 (h:=xR ZtI rfl (ZoM z  _) (h:=xIp rfl Tryz.underlying31 Zcv (h:=Zo (ZoE (R:=ZK) (k:=g.1) (z) 0 rfl hvl rfl om rfl rfl Zcv rfl rfl rfl rfl rfl (⟨rfl,by first | assumption | omega | (simp;done) | (simp;omega)⟩) (fun l8 hv8=>?_))))))
 refine ZP (Zd (Zk (xM (h:=xD (h:=xA (h:=?_))))))
 exact ZD (g.1+1,l8) [0] so2 ⟨rfl,so,by rw [← Zdp hz];exact hv8⟩ t4 rfl
 try simp only [sQ,ne_eq] at g1
 refine ZI (ZY (ZM (Zv (Zd (Za (xM (h:=xA (h:=Zi ?_))))))))
 exact Zbx .ret (.inl rfl) [_] [0] rfl t1 ⟨_,_,_,rfl,rfl,rfl,by have e:=hvl;rw [Zet oz] at e;exact e⟩

set_option maxHeartbeats 400000 in
theorem ZoN (q:Option Addr) (cp:Nat) (x:DItem) (B:Kn) (hx:SlK B q cp 1 Zek x.left) (hl:ZeE x.left≤1048576):ZJ (pj J) 97 [.agg #[.int .i64 x.id,str x.fr,str x.text,.slice q x.left.length cp]] B [] (fun v B' Ls=>∃q0 c0 l0,v = .agg #[.int .i64 x.id,str x.fr,str x.text,.slice q0 x.left.length c0]∧B'=B∧Ls=[l0]∧Z3 Kn.none l0 q0 c0 9 1 Zek x.left):=by
 refine Zb 18 Tryz.func97 rfl rfl rfl (Nat.le_of_ble_eq_true rfl) ?_
 refine Za (xBx [_,_,_,_] (h:=fun b1=>xAl [_,_,_,_] Zh9 (h:=fun b2=>ZH [_,_] rfl (Za (xAl [_,_,_,_] Zh9 (h:=fun b3=>ZH [_,_,_] rfl (Za (xW Zri (h:=x1 lk3 0 (h:=xW Zeg (h:=xS [_] 2 [_,_,_,_] sz3 (h:=ZH [_,_,_] rfl ?_))))))))))))
 refine Za (xW Zn1 (h:=x1 lk9 0 (h:=xW Zef (h:=xS [_] 2 [_,_,_,_] sz9 (h:=ZH [_,_,_] rfl (Za (xW Zn0 (h:=x1 lk9 0 (h:=xW Zf0 (h:=xS [_] 2 [_,_,_,_] sz9 (h:=ZH [_,_,_] rfl (Za ?_))))))))))))
 refine xW ZnZ (h:=x1 Zgn 0 (h:=Zo (Zao rfl rfl ZtY rfl (ZoL _ _ x.left om2 _ hx) ?_)))
 rintro _ B4 _ hle4 ⟨q4,c4,l4,rfl,rfl,rfl,hv4⟩
 refine xW Zee (h:=xS [_] 2 [_,_,_,_] Zte (h:=ZH [_,_,_,_] rfl (Za (xL [_,_,_,_] ZhB 2 (h:=xS [_,_,_,_] 1 [_,_,_,_] Zc3 (h:=ZH [_,_,_,_] rfl (Zi ?_)))))))
 exact Zbx .ret (.inl rfl) [_] [3] rfl ⟨⟨_,rfl,.inr ⟨[_,_,_,_],ZhB,ZcQ 1 rfl rfl rfl,rfl⟩⟩,trivial⟩ ⟨_,_,_,rfl,rfl,rfl,hv4⟩

set_option maxHeartbeats 400000 in
theorem ZmS (q:Option Addr) (cp:Nat) (xs:List DItem) (hx20:szL Zbb xs≤1048576) (B:Kn) (hx:SlK B q cp 4 ZG xs):ZJ (pj J) 66 [.slice q xs.length cp] B [] (fun v B' Ls=>∃q c l,v = .slice q xs.length c∧B'=B∧Ls=[l]∧Zby l q c 105 4 (Zbf 9) xs):=by
 refine Zb 23 Tryz.func66 rfl rfl rfl (Nat.le_of_ble_eq_true rfl) ?_
 have hxn:=hx.len
 have hx21:=(ZaA hx20).1
 refine Za (xA (h:=Za (xM (h:=xV Tryz.underlying24 (h:=Zo (Zbj (m:=xs.length) (c:=xs.length) (by_:=64) [.int .i64 0,.string ⟨#[]⟩,.string ⟨#[]⟩,.slice none 0 0] rfl rfl ZuY Zh9 rfl rfl ⟨_,_,rfl,by first | omega | (simp;done) | (simp;omega)⟩ ⟨_,_,rfl,by first | omega | (simp;done) | (simp;omega)⟩ om om (fun b1=>?_)))))))
 have hd1:=Zby.zeros (b:=b1) (T:=105) (R:=Zbf 9) (d:=(⟨0,[],[],[]⟩:DItem)) (m:=xs.length) (c:=xs.length) (zs:=[.int .i64 0,.string ⟨#[]⟩,.string ⟨#[]⟩,.slice none 0 0]) rfl (⟨_,_,rfl,Z3.nil,by simp,by simp,by simp⟩) om
 refine xA (h:=ZH [_] rfl (Zg (Za (xA (h:=Zl (ZC (α:=Nat × Cells) [0,2] (fun g=>[(3,.slice (some ⟨b1,0,none⟩) xs.length xs.length),(4,.int .i64 g.1)]) [0] (fun g=>[g.2]) (fun g Bx=>Bx=B∧g.1≤xs.length∧Zby g.2 (some ⟨b1,0,none⟩) xs.length 105 4 (Zbf 9) (fill xs (⟨0,[],[],[]⟩:DItem) g.1)) (fun g=>xs.length - g.1) (0,_) t2 rfl (⟨rfl,Nat.zero_le _,by rw [Zdo];exact hd1⟩) (fun g B2 hle2 hI=>?_)))))))
 obtain ⟨rfl,hk,hvl⟩:=hI
 have hfl:=Zes (d:=(⟨0,[],[],[]⟩:DItem)) hk
 refine ZL [(0,_),(2,_),(3,_),(4,_)] [_] t4 rfl (Zg (Za (xM (h:=xM (h:=xV Tryz.underlying24 (h:=ZF (h:=Zc rfl (fun g1=>?_) (fun g1=>?_))))))))
 try simp only [sQ,ne_eq] at g1
 refine Zf (Zd (Zg (Zl (Zk (xM (h:=xM (h:=xM (h:=xM (h:=?_)))))))))
 obtain ⟨z,hz⟩:=ZW (xs:=xs) (i:=g.1) om
 obtain ⟨bb4,oo4,rfl⟩:=hx.base hz
 obtain ⟨_,⟨qi5,ci5,rfl,hi5,hb5,hb5b⟩,hc5⟩:=hx.elem hz
 have hi5n:=hi5.len
 refine xIx Tryz.underlying24 Zr8 (h:=?_)
 have hzz:=(ZaA hx20).2 z (List.mem_of_getElem? hz)
 have hza:=Zq7 hzz
 refine yL [_,_,_,_] Zsl hc5 0 (h:=Zo (Zao rfl rfl Zu2 rfl (ZoN _ _ z _ hi5 om2) ?_))
 rintro _ B6 _ hle6 ⟨q6,c6,l6,rfl,rfl,rfl,hv6⟩
 refine xIp rfl Tryz.underlying40 Zc3 (h:=Zo (ZrM (R:=Zbf 9) (k:=g.1) (z) 0 [1] rfl rfl hvl rfl om rfl rfl Zc3 rfl rfl rfl rfl rfl (l6) (by simp) (⟨_,_,rfl,hv6,by first | assumption | omega | (simp;done) | (simp;omega),by first | assumption | omega | (simp;done) | (simp;omega),by first | assumption | omega | (simp;done) | (simp;omega)⟩) (fun l8 hd8=>?_)))
 refine ZP (Zd (Zk (xM (h:=xD (h:=xA (h:=?_))))))
 exact ZD (g.1+1,l8) [0] so2 ⟨rfl,so,by rw [← Zdp hz];exact hd8⟩ t4 rfl
 try simp only [sQ,ne_eq] at g1
 refine ZI (ZY (ZM (Zv (Zd (Za (xM (h:=xA (h:=Zi ?_))))))))
 exact Zbx .ret (.inl rfl) [_] [0] rfl t1 ⟨_,_,_,rfl,rfl,rfl,by have e:=hvl;rw [Zet oz] at e;exact e⟩

set_option maxHeartbeats 400000 in
theorem ZmQ (q:Option Addr) (cp:Nat) (x:DQueue) (B:Kn) (hx:SlK B q cp 4 ZG x.items) (hl:szL Zbb x.items≤1048576):ZJ (pj J) 32 [.agg #[.int .i64 x.next,.slice q x.items.length cp]] B [] (fun v B' Ls=>∃q0 c0 l0,v = .agg #[.int .i64 x.next,.slice q0 x.items.length c0]∧B'=B∧Ls=[l0]∧Zby l0 q0 c0 105 4 (Zbf 9) x.items):=by
 refine Zb 12 Tryz.func32 rfl rfl rfl (Nat.le_of_ble_eq_true rfl) ?_
 refine Za (xBx [_,_] (h:=fun b1=>xAl [_,_] Zum (h:=fun b2=>ZH [_,_] rfl (Za (xAl [_,_] Zum (h:=fun b3=>ZH [_,_,_] rfl (Za (xW Zst (h:=x1 lk3 0 (h:=xW Zhi (h:=xS [_] 2 [_,_] sz3 (h:=ZH [_,_,_] rfl ?_))))))))))))
 refine Za (xW Zqp (h:=x1 ZuB 0 (h:=Zo (Zao rfl rfl Zvt rfl (ZmS _ _ x.items om2 _ hx) ?_))))
 rintro _ B4 _ hle4 ⟨q4,c4,l4,rfl,rfl,rfl,hv4⟩
 refine xW Zdl (h:=xS [_] 2 [_,_] ZuR (h:=ZH [_,_,_,_] rfl (Za (xL [_,_] ZqW 2 (h:=xS [_,_] 1 [_,_] Zuq (h:=ZH [_,_,_,_] rfl (Zi ?_)))))))
 exact Zbx .ret (.inl rfl) [_] [3] rfl ⟨⟨_,rfl,.inr ⟨[_,_],ZqW,ZcQ 1 rfl rfl rfl,rfl⟩⟩,trivial⟩ ⟨_,_,_,rfl,rfl,rfl,hv4⟩

set_option maxHeartbeats 400000 in
theorem ZqG (q:Option Addr) (cp:Nat) (x:DBox) (B:Kn) (hx:SlK B q cp 3 ZK x.mail) (hl:szL ZcV x.mail≤1048576):ZJ (pj J) 96 [.agg #[.int .i64 x.next,.slice q x.mail.length cp]] B [] (fun v B' Ls=>∃q0 c0 l0,v = .agg #[.int .i64 x.next,.slice q0 x.mail.length c0]∧B'=B∧Ls=[l0]∧Z3 Kn.none l0 q0 c0 126 3 ZK x.mail):=by
 refine Zb 12 Tryz.func96 rfl rfl rfl (Nat.le_of_ble_eq_true rfl) ?_
 refine Za (xBx [_,_] (h:=fun b1=>xAl [_,_] Zqw (h:=fun b2=>ZH [_,_] rfl (Za (xAl [_,_] Zqw (h:=fun b3=>ZH [_,_,_] rfl (Za (xW Zsp (h:=x1 lk3 0 (h:=xW ZfA (h:=xS [_] 2 [_,_] sz3 (h:=ZH [_,_,_] rfl ?_))))))))))))
 refine Za (xW Zqf (h:=x1 Zuw 0 (h:=Zo (Zao rfl rfl ZtZ rfl (ZmR _ _ x.mail om2 _ hx) ?_))))
 rintro _ B4 _ hle4 ⟨q4,c4,l4,rfl,rfl,rfl,hv4⟩
 refine xW Zbu (h:=xS [_] 2 [_,_] Zur (h:=ZH [_,_,_,_] rfl (Za (xL [_,_] ZiN 2 (h:=xS [_,_] 1 [_,_] ZrD (h:=ZH [_,_,_,_] rfl (Zi ?_)))))))
 exact Zbx .ret (.inl rfl) [_] [3] rfl ⟨⟨_,rfl,.inr ⟨[_,_],ZiN,ZcQ 1 rfl rfl rfl,rfl⟩⟩,trivial⟩ ⟨_,_,_,rfl,rfl,rfl,hv4⟩

set_option maxHeartbeats 400000 in
theorem ZlN (qa qb:Option Addr) (ca cb:Nat) (x:DFolder) (B:Kn) (hx:SlK B qa ca 2 Zu x.grants) (hy:SlK B qb cb 3 ZK x.mail) (hl:szL ZbU x.grants≤1048576) (hl2:szL ZcV x.mail≤1048576):ZJ (pj J) 65 [.agg #[str x.owner,str x.name,.slice qa x.grants.length ca,.int .i64 x.next,.slice qb x.mail.length cb]] B [] (fun v B' Ls=>∃q0 c0 l0 q1 c1 l1,v = .agg #[str x.owner,str x.name,.slice q0 x.grants.length c0,.int .i64 x.next,.slice q1 x.mail.length c1]∧B'=B∧Ls=[l0,l1]∧Z3 Kn.none l0 q0 c0 117 2 Zu x.grants∧Z3 Kn.none l1 q1 c1 126 3 ZK x.mail):=by
 refine Zb 19 Tryz.func65 rfl rfl rfl (Nat.le_of_ble_eq_true rfl) ?_
 refine Za (xBx [_,_,_,_,_] (h:=fun b1=>xAl [_,_,_,_,_] Zca (h:=fun b2=>ZH [_,_] rfl (Za (xAl [_,_,_,_,_] Zca (h:=fun b3=>ZH [_,_,_] rfl (Za (xW Zqe (h:=x1 lk9 0 (h:=xW Za0 (h:=xS [_] 2 [_,_,_,_,_] sz9 (h:=ZH [_,_,_] rfl ?_))))))))))))
 refine Za (xW Zqd (h:=x1 lk9 0 (h:=xW ZbP (h:=xS [_] 2 [_,_,_,_,_] sz9 (h:=ZH [_,_,_] rfl (Za (xW Zqc (h:=x1 Zux 0 (h:=Zo (Zao rfl rfl Zu4 rfl (ZlM _ _ x.grants om2 _ hx) ?_))))))))))
 rintro _ B4 _ hle4 ⟨q4,c4,l4,rfl,rfl,rfl,hv4⟩
 refine xW Zce (h:=xS [_] 2 [_,_,_,_,_] ZsR (h:=ZH [_,_,_,_] rfl (Za (xW Zqb (h:=xL [_,_] Zuv 0 (h:=Zo (Zao rfl rfl Zu3 rfl (ZqG _ _ ⟨x.next,x.mail⟩ _ hy om2) ?_)))))))
 rintro _ B5 _ hle5 ⟨q5,c5,l5,rfl,rfl,rfl,hv5⟩
 refine xW ZbJ (h:=xS [_,_] 2 [_,_,_,_,_] ZrD (h:=ZH [_,_,_,_,_] rfl (Za (xL [_,_,_,_,_] Zcd 2 (h:=xS [_,_,_,_,_] 1 [_,_,_,_,_] ZaQ (h:=ZH [_,_,_,_,_] rfl (Zi ?_)))))))
 exact Zbx .ret (.inl rfl) [_] [3,4] rfl ⟨⟨_,rfl,.inr ⟨[_,_,_,_,_],Zcd,ZcQ 1 rfl rfl rfl,rfl⟩⟩,trivial⟩ ⟨_,_,_,_,_,_,rfl,rfl,rfl,hv4,hv5⟩

set_option maxHeartbeats 400000 in
theorem Zj8 (q:Option Addr) (cp:Nat) (xs:List DFolder) (hx20:szL Zas xs≤1048576) (B:Kn) (hx:SlK B q cp 5 Ze xs):ZJ (pj J) 31 [.slice q xs.length cp] B [] (fun v B' Ls=>∃q c l,v = .slice q xs.length c∧B'=B∧Ls=[l]∧Zby l q c 35 5 (ZV 117 126) xs):=by
 refine Zb 23 Tryz.func31 rfl rfl rfl (Nat.le_of_ble_eq_true rfl) ?_
 have hxn:=hx.len
 have hx21:=(ZaA hx20).1
 refine Za (xA (h:=Za (xM (h:=xV Tryz.underlying23 (h:=Zo (Zbj (m:=xs.length) (c:=xs.length) (by_:=88) [.string ⟨#[]⟩,.string ⟨#[]⟩,.slice none 0 0,.int .i64 0,.slice none 0 0] rfl rfl ZoA Zca rfl rfl ⟨_,_,rfl,by first | omega | (simp;done) | (simp;omega)⟩ ⟨_,_,rfl,by first | omega | (simp;done) | (simp;omega)⟩ om om (fun b1=>?_)))))))
 have hd1:=Zby.zeros (b:=b1) (T:=35) (R:=(ZV 117 126)) (d:=(⟨[],[],[],0,[]⟩:DFolder)) (m:=xs.length) (c:=xs.length) (zs:=[.string ⟨#[]⟩,.string ⟨#[]⟩,.slice none 0 0,.int .i64 0,.slice none 0 0]) rfl (⟨_,_,_,_,[],[],rfl,rfl,Z3.nil,Z3.nil,by simp,by simp,by simp,by simp⟩) om
 refine xA (h:=ZH [_] rfl (Zg (Za (xA (h:=Zl (ZC (α:=Nat × Cells) [0,2] (fun g=>[(3,.slice (some ⟨b1,0,none⟩) xs.length xs.length),(4,.int .i64 g.1)]) [0] (fun g=>[g.2]) (fun g Bx=>Bx=B∧g.1≤xs.length∧Zby g.2 (some ⟨b1,0,none⟩) xs.length 35 5 (ZV 117 126) (fill xs (⟨[],[],[],0,[]⟩:DFolder) g.1)) (fun g=>xs.length - g.1) (0,_) t2 rfl (⟨rfl,Nat.zero_le _,by rw [Zdo];exact hd1⟩) (fun g B2 hle2 hI=>?_)))))))
 obtain ⟨rfl,hk,hvl⟩:=hI
 have hfl:=Zes (d:=(⟨[],[],[],0,[]⟩:DFolder)) hk
 refine ZL [(0,_),(2,_),(3,_),(4,_)] [_] t4 rfl (Zg (Za (xM (h:=xM (h:=xV Tryz.underlying23 (h:=ZF (h:=Zc rfl (fun g1=>?_) (fun g1=>?_))))))))
 try simp only [sQ,ne_eq] at g1
 refine Zf (Zd (Zg (Zl (Zk (xM (h:=xM (h:=xM (h:=xM (h:=?_)))))))))
 obtain ⟨z,hz⟩:=ZW (xs:=xs) (i:=g.1) om
 obtain ⟨bb4,oo4,rfl⟩:=hx.base hz
 obtain ⟨_,⟨qg5,cg5,qm5,cm5,rfl,hg5,hm5,hb5,hb5b⟩,hc5⟩:=hx.elem hz
 have hg5n:=hg5.len
 have hm5n:=hm5.len
 have hm5s:=Z5 hm5
 refine xIx Tryz.underlying23 Zuo (h:=?_)
 have hzz:=(ZaA hx20).2 z (List.mem_of_getElem? hz)
 have hza:=ZjC hzz
 refine yL [_,_,_,_,_] Zuu hc5 0 (h:=Zo (Zao rfl rfl Zvu rfl (ZlN _ _ _ _ z _ hg5 hm5 om2 om2) ?_))
 rintro _ B6 _ hle6 ⟨q6,c6,l6,q6b,c6b,l6b,rfl,rfl,rfl,hv6,hv6b⟩
 refine xIp rfl Tryz.underlying39 ZaQ (h:=Zo (ZrM (R:=(ZV 117 126)) (k:=g.1) (z) 0 [1,2] rfl rfl hvl rfl om rfl rfl ZaQ rfl rfl rfl rfl rfl (l6 ++ l6b) (by simp) (⟨_,_,_,_,_,_,rfl,rfl,(hv6.anyK Zu.any),(hv6b.anyK ZK.any),by first | assumption | omega | (simp;done) | (simp;omega),by first | assumption | omega | (simp;done) | (simp;omega),by first | assumption | omega | (simp;done) | (simp;omega),by first | assumption | omega | (simp;done) | (simp;omega)⟩) (fun l8 hd8=>?_)))
 refine ZP (Zd (Zk (xM (h:=xD (h:=xA (h:=?_))))))
 exact ZD (g.1+1,l8) [0] so2 ⟨rfl,so,by rw [← Zdp hz];exact hd8⟩ t4 rfl
 try simp only [sQ,ne_eq] at g1
 refine ZI (ZY (ZM (Zv (Zd (Za (xM (h:=xA (h:=Zi ?_))))))))
 exact Zbx .ret (.inl rfl) [_] [0] rfl t1 ⟨_,_,_,rfl,rfl,rfl,by have e:=hvl;rw [Zet oz] at e;exact e⟩

set_option maxHeartbeats 400000 in
theorem Zbg (q1 q2 q3:Option Addr) (c1 c2 c3:Nat) (x:DHost) (B:Kn) (hu:SlK B q1 c1 3 Zq x.users) (hf:SlK B q2 c2 5 Ze x.folders) (hi:SlK B q3 c3 4 ZG x.queue.items) (hsz:ZbA x≤1048576):ZJ (pj J) 8 [.agg #[str x.domain,.slice q1 x.users.length c1,.slice q2 x.folders.length c2,.int .i64 x.queue.next,.slice q3 x.queue.items.length c3]] B [] (fun v B' Ls=>∃q0 c0 l0 q1 c1 l1 q2 c2 l2,v = .agg #[str x.domain,.slice q0 x.users.length c0,.slice q1 x.folders.length c1,.int .i64 x.queue.next,.slice q2 x.queue.items.length c2]∧B'=B∧Ls=[l0,l1,l2]∧Z3 Kn.none l0 q0 c0 101 3 Zq x.users∧Zby l1 q1 c1 35 5 (ZV 117 126) x.folders∧Zby l2 q2 c2 105 4 (Zbf 9) x.queue.items):=by
 refine Zb 20 Tryz.func8 rfl rfl rfl (Nat.le_of_ble_eq_true rfl) ?_
 have hsz2:=ZfW hsz
 refine Za (xBx [_,_,_,_,_] (h:=fun b1=>xAl [_,_,_,_,_] ZrJ (h:=fun b2=>ZH [_,_] rfl (Za (xAl [_,_,_,_,_] ZrJ (h:=fun b3=>ZH [_,_,_] rfl (Za (xW Zqo (h:=x1 lk9 0 (h:=xW ZjE (h:=xS [_] 2 [_,_,_,_,_] sz9 (h:=ZH [_,_,_] rfl ?_))))))))))))
 refine Za (xW Zqn (h:=x1 ZuD 0 (h:=Zo (Zao rfl rfl ZvR rfl (ZmP _ _ x.users om2 _ hu) ?_))))
 rintro _ B4 _ hle4 ⟨q4,c4,l4,rfl,rfl,rfl,hv4⟩
 refine xW ZbI (h:=xS [_] 2 [_,_,_,_,_] ZuT (h:=ZH [_,_,_,_] rfl (Za (xW Zqm (h:=x1 ZuC 0 (h:=Zo (Zao rfl rfl ZvQ rfl (Zj8 _ _ x.folders om2 _ hf) ?_)))))))
 rintro _ B5 _ hle5 ⟨q5,c5,l5,rfl,rfl,rfl,hv5⟩
 refine xW Zar (h:=xS [_] 2 [_,_,_,_,_] ZuS (h:=ZH [_,_,_,_,_] rfl (Za (xW Zql (h:=xL [_,_] ZuA 0 (h:=Zo (Zao rfl rfl ZvP rfl (ZmQ _ _ ⟨x.queue.next,x.queue.items⟩ _ hi om2) ?_)))))))
 rintro _ B6 _ hle6 ⟨q6,c6,l6,rfl,rfl,rfl,hv6⟩
 refine xW Zfz (h:=xS [_,_] 2 [_,_,_,_,_] Zuq (h:=ZH [_,_,_,_,_,_] rfl (Za (xL [_,_,_,_,_] Ze7 2 (h:=xS [_,_,_,_,_] 1 [_,_,_,_,_] ZsQ (h:=ZH [_,_,_,_,_,_] rfl (Zi ?_)))))))
 exact Zbx .ret (.inl rfl) [_] [3,4,5] rfl ⟨⟨_,rfl,.inr ⟨[_,_,_,_,_],Ze7,ZcQ 1 rfl rfl rfl,rfl⟩⟩,trivial⟩ ⟨_,_,_,_,_,_,_,_,_,rfl,rfl,rfl,hv4,hv5,hv6⟩

set_option maxHeartbeats 400000 in
theorem Zpx   (a b:DUser) (B:Kn)   : Zaa (pj J) 78 [.agg #[str a.name,str a.pass,.int .i64 a.quota],.agg #[str b.name,str b.pass,.int .i64 b.quota]] B (.bool (decide (a=b))):=by
 refine Zb 20 Tryz.func78 rfl rfl rfl (Nat.le_of_ble_eq_true rfl) ?_
 refine Za (xBx [_,_,_] (h:=fun b1=>xBx [_,_,_] (h:=fun b2=>xA (h:=ZH [_,_] rfl (Zg (Za (xW ZaX (h:=x1 lk9 0 (h:=xW ZaX (h:=x1 lk9 1 (h:=ZeC (h:=Zc rfl (fun g1=>?_) (fun g1=>?_)))))))))))))
 try simp only [sQ,ne_eq] at g1
 refine Za (xA (h:=Zi (Zn ?_)))
 exact ZB .ret (.inl rfl) [_] t1 ⟨Zh (by symm;rw [decide_eq_false_iff_not];rintro rfl;exact g1 rfl),rfl,rfl⟩
 try simp only [sQ,ne_eq] at g1
 refine Zf (Zd (Zg (Za (xW Zf1 (h:=x1 lk9 0 (h:=xW Zf1 (h:=x1 lk9 1 (h:=ZeC (h:=Zc rfl (fun g2=>?_) (fun g2=>?_))))))))))
 try simp only [sQ,ne_eq] at g2
 refine Za (xA (h:=Zi (Zn ?_)))
 exact ZB .ret (.inl rfl) [_] t1 ⟨Zh (by symm;rw [decide_eq_false_iff_not];rintro rfl;exact g2 rfl),rfl,rfl⟩
 try simp only [sQ,ne_eq] at g2
 refine Zf (Zd (Zg (Za (xW ZdN (h:=x1 lk3 0 (h:=xW ZdN (h:=x1 lk3 1 (h:=ZaL (h:=Zc rfl (fun g3=>?_) (fun g3=>?_))))))))))
 try simp only [sQ,ne_eq] at g3
 refine Za (xA (h:=Zi (Zn ?_)))
 exact ZB .ret (.inl rfl) [_] t1 ⟨Zh (by symm;rw [decide_eq_false_iff_not];rintro rfl;exact g3 rfl),rfl,rfl⟩
 try simp only [sQ,ne_eq] at g3
 refine Zf (Zd (Za (xA (h:=Zi ?_))))
 exact ZB .ret (.inl rfl) [_] t1 ⟨Zh (by symm;rw [decide_eq_true_eq];cases a;cases b;simp_all),rfl,rfl⟩

set_option maxHeartbeats 400000 in
theorem Zob   (a b:DGrant) (B:Kn)   : Zaa (pj J) 76 [.agg #[str a.user,.int .i64 a.rights],.agg #[str b.user,.int .i64 b.rights]] B (.bool (decide (a=b))):=by
 refine Zb 15 Tryz.func76 rfl rfl rfl (Nat.le_of_ble_eq_true rfl) ?_
 refine Za (xBx [_,_] (h:=fun b1=>xBx [_,_] (h:=fun b2=>xA (h:=ZH [_,_] rfl (Zg (Za (xW ZbK (h:=x1 lk9 0 (h:=xW ZbK (h:=x1 lk9 1 (h:=ZeC (h:=Zc rfl (fun g1=>?_) (fun g1=>?_)))))))))))))
 try simp only [sQ,ne_eq] at g1
 refine Za (xA (h:=Zi (Zn ?_)))
 exact ZB .ret (.inl rfl) [_] t1 ⟨Zh (by symm;rw [decide_eq_false_iff_not];rintro rfl;exact g1 rfl),rfl,rfl⟩
 try simp only [sQ,ne_eq] at g1
 refine Zf (Zd (Zg (Za (xW ZcH (h:=x1 lk3 0 (h:=xW ZcH (h:=x1 lk3 1 (h:=ZaL (h:=Zc rfl (fun g2=>?_) (fun g2=>?_))))))))))
 try simp only [sQ,ne_eq] at g2
 refine Za (xA (h:=Zi (Zn ?_)))
 exact ZB .ret (.inl rfl) [_] t1 ⟨Zh (by symm;rw [decide_eq_false_iff_not];rintro rfl;exact g2 rfl),rfl,rfl⟩
 try simp only [sQ,ne_eq] at g2
 refine Zf (Zd (Za (xA (h:=Zi ?_))))
 exact ZB .ret (.inl rfl) [_] t1 ⟨Zh (by symm;rw [decide_eq_true_eq];cases a;cases b;simp_all),rfl,rfl⟩

set_option maxHeartbeats 400000 in
theorem Zpy   (a b:DMail) (B:Kn)   : Zaa (pj J) 113 [.agg #[.int .i64 a.uid,.int .i64 a.flags,str a.text],.agg #[.int .i64 b.uid,.int .i64 b.flags,str b.text]] B (.bool (decide (a=b))):=by
 refine Zb 20 Tryz.func113 rfl rfl rfl (Nat.le_of_ble_eq_true rfl) ?_
 refine Za (xBx [_,_,_] (h:=fun b1=>xBx [_,_,_] (h:=fun b2=>xA (h:=ZH [_,_] rfl (Zg (Za (xW Zb9 (h:=x1 lk3 0 (h:=xW Zb9 (h:=x1 lk3 1 (h:=ZaL (h:=Zc rfl (fun g1=>?_) (fun g1=>?_)))))))))))))
 try simp only [sQ,ne_eq] at g1
 refine Za (xA (h:=Zi (Zn ?_)))
 exact ZB .ret (.inl rfl) [_] t1 ⟨Zh (by symm;rw [decide_eq_false_iff_not];rintro rfl;exact g1 rfl),rfl,rfl⟩
 try simp only [sQ,ne_eq] at g1
 refine Zf (Zd (Zg (Za (xW Ze4 (h:=x1 lk3 0 (h:=xW Ze4 (h:=x1 lk3 1 (h:=ZaL (h:=Zc rfl (fun g2=>?_) (fun g2=>?_))))))))))
 try simp only [sQ,ne_eq] at g2
 refine Za (xA (h:=Zi (Zn ?_)))
 exact ZB .ret (.inl rfl) [_] t1 ⟨Zh (by symm;rw [decide_eq_false_iff_not];rintro rfl;exact g2 rfl),rfl,rfl⟩
 try simp only [sQ,ne_eq] at g2
 refine Zf (Zd (Zg (Za (xW ZdM (h:=x1 lk9 0 (h:=xW ZdM (h:=x1 lk9 1 (h:=ZeC (h:=Zc rfl (fun g3=>?_) (fun g3=>?_))))))))))
 try simp only [sQ,ne_eq] at g3
 refine Za (xA (h:=Zi (Zn ?_)))
 exact ZB .ret (.inl rfl) [_] t1 ⟨Zh (by symm;rw [decide_eq_false_iff_not];rintro rfl;exact g3 rfl),rfl,rfl⟩
 try simp only [sQ,ne_eq] at g3
 refine Zf (Zd (Za (xA (h:=Zi ?_))))
 exact ZB .ret (.inl rfl) [_] t1 ⟨Zh (by symm;rw [decide_eq_true_eq];cases a;cases b;simp_all),rfl,rfl⟩

set_option maxHeartbeats 400000 in
theorem Zn7 (q q':Option Addr) (cp cp':Nat) (xs ys:List DUser) (B:Kn) (ha:SlK B q cp 3 Zq xs) (hb:SlK B q' cp' 3 Zq ys):Zaa (pj J) 38 [.slice q xs.length cp,.slice q' ys.length cp'] B (.bool (decide (xs=ys))):=by
 refine Zb 27 Tryz.func38 rfl rfl rfl (Nat.le_of_ble_eq_true rfl) ?_
 have han:=ha.len
 have hbn:=hb.len
 refine Za (xA (h:=Zg (Za (xM (h:=xV Tryz.underlying38 (h:=xM (h:=xV Tryz.underlying38 (h:=ZaL (h:=Zc rfl (fun g1=>?_) (fun g1=>?_))))))))))
 try simp only [sQ,ne_eq] at g1
 refine Za (xA (h:=Zi (Zn ?_)))
 exact ZB .ret (.inl rfl) [_] t1 ⟨Zh (Zf3 g1),rfl,rfl⟩
 try simp only [sQ,ne_eq] at g1
 refine Zf (Zd (Zg (Za (xA (h:=Zl (ZC (α:=Nat) [0,1,10] (fun k=>[(5,.int .i64 k)]) [] (fun k=>[]) (fun k Bx=>Bx=B∧k≤xs.length∧xs.take k=ys.take k) (fun k=>xs.length - k) 0 t1 rfl (⟨rfl,Nat.zero_le _,by simp⟩) (fun k B1 hle1 hI=>?_)))))))
 obtain ⟨rfl,hk,he⟩:=hI
 refine ZL [(0,_),(1,_),(5,_),(10,_)] [] t4 rfl (Zg (Za (xM (h:=xM (h:=xV Tryz.underlying38 (h:=ZF (h:=Zc rfl (fun g2=>?_) (fun g2=>?_))))))))
 try simp only [sQ,ne_eq] at g2
 refine Zf (Zd (Zg (Zl (Zg (Zan (same _ _) mo kr ⟨rfl,rfl⟩ (fun _ _=>?_))))))
 refine aM 0 rfl (h:=aM 1 rfl (h:=?_))
 obtain ⟨x,hx⟩:=ZW (xs:=xs) (i:=k) om
 obtain ⟨bb3,oo3,rfl⟩:=ha.base hx
 obtain ⟨_,⟨rfl,hb4,hb4b⟩,hc4⟩:=ha.elem hx
 refine aIx 2 rfl Tryz.underlying38 ZbV (h:=aT 3 rfl (Zaq fun D=>Z8 [_,_,_] rfl rfl ZeA rfl (Zlg hc4 0 rfl rfl) r4) (h:=aM 4 rfl (h:=aM 5 rfl (h:=?_))))
 obtain ⟨y,hy⟩:=ZW (xs:=ys) (i:=k) om
 obtain ⟨bb6,oo6,rfl⟩:=hb.base hy
 obtain ⟨_,⟨rfl,hb7,hb7b⟩,hc7⟩:=hb.elem hy
 refine aIx 6 rfl Tryz.underlying38 ZbV (h:=aT 7 rfl (Zaq fun D=>Z8 [_,_,_] rfl rfl ZeA rfl (Zlg hc7 0 rfl rfl) r4) (h:=aT 8 rfl (Zaq fun D=>Zam rfl rfl Zvi rfl (Zpx x y _ ) r4) (h:=aN 9 rfl (h:=Zz kr kr ?_))))
 refine Zd (Zc rfl (fun g3=>?_) (fun g3=>?_))
 try simp only [sQ,ne_eq] at g3
 refine Za (xA (h:=Zi (ZE (Zn (ZS (ZE (Zn ?_)))))))
 exact ZB .ret (.inl rfl) [_] t1 ⟨Zh (Zew hx hy g3),rfl,rfl⟩
 try simp only [sQ,ne_eq] at g3
 refine Zf (ZP (Zd (Zk (xM (h:=xD (h:=xA (h:=?_)))))))
 exact ZD (k+1) [] so2 ⟨rfl,oz,Zbo hx hy g3 he⟩ t4 rfl
 try simp only [sQ,ne_eq] at g2
 refine ZI (ZY (ZM (Zv (Zd (Za (xA (h:=Zi ?_)))))))
 exact ZB .ret (.inl rfl) [_] t1 ⟨Zh (eqT oz oz he),rfl,rfl⟩

set_option maxHeartbeats 400000 in
theorem Zml (q q':Option Addr) (cp cp':Nat) (xs ys:List DGrant) (B:Kn) (ha:SlK B q cp 2 Zu xs) (hb:SlK B q' cp' 2 Zu ys):Zaa (pj J) 36 [.slice q xs.length cp,.slice q' ys.length cp'] B (.bool (decide (xs=ys))):=by
 refine Zb 27 Tryz.func36 rfl rfl rfl (Nat.le_of_ble_eq_true rfl) ?_
 have han:=ha.len
 have hbn:=hb.len
 refine Za (xA (h:=Zg (Za (xM (h:=xV Tryz.underlying30 (h:=xM (h:=xV Tryz.underlying30 (h:=ZaL (h:=Zc rfl (fun g1=>?_) (fun g1=>?_))))))))))
 try simp only [sQ,ne_eq] at g1
 refine Za (xA (h:=Zi (Zn ?_)))
 exact ZB .ret (.inl rfl) [_] t1 ⟨Zh (Zf3 g1),rfl,rfl⟩
 try simp only [sQ,ne_eq] at g1
 refine Zf (Zd (Zg (Za (xA (h:=Zl (ZC (α:=Nat) [0,1,10] (fun k=>[(5,.int .i64 k)]) [] (fun k=>[]) (fun k Bx=>Bx=B∧k≤xs.length∧xs.take k=ys.take k) (fun k=>xs.length - k) 0 t1 rfl (⟨rfl,Nat.zero_le _,by simp⟩) (fun k B1 hle1 hI=>?_)))))))
 obtain ⟨rfl,hk,he⟩:=hI
 refine ZL [(0,_),(1,_),(5,_),(10,_)] [] t4 rfl (Zg (Za (xM (h:=xM (h:=xV Tryz.underlying30 (h:=ZF (h:=Zc rfl (fun g2=>?_) (fun g2=>?_))))))))
 try simp only [sQ,ne_eq] at g2
 refine Zf (Zd (Zg (Zl (Zg (Zan (same _ _) mo kr ⟨rfl,rfl⟩ (fun _ _=>?_))))))
 refine aM 0 rfl (h:=aM 1 rfl (h:=?_))
 obtain ⟨x,hx⟩:=ZW (xs:=xs) (i:=k) om
 obtain ⟨bb3,oo3,rfl⟩:=ha.base hx
 obtain ⟨_,⟨rfl,hb4⟩,hc4⟩:=ha.elem hx
 refine aIx 2 rfl Tryz.underlying30 ZbO (h:=aT 3 rfl (Zaq fun D=>Z8 [_,_] rfl rfl Znz rfl (Zlg hc4 0 rfl rfl) r4) (h:=aM 4 rfl (h:=aM 5 rfl (h:=?_))))
 obtain ⟨y,hy⟩:=ZW (xs:=ys) (i:=k) om
 obtain ⟨bb6,oo6,rfl⟩:=hb.base hy
 obtain ⟨_,⟨rfl,hb7⟩,hc7⟩:=hb.elem hy
 refine aIx 6 rfl Tryz.underlying30 ZbO (h:=aT 7 rfl (Zaq fun D=>Z8 [_,_] rfl rfl Znz rfl (Zlg hc7 0 rfl rfl) r4) (h:=aT 8 rfl (Zaq fun D=>Zam rfl rfl Zvk rfl (Zob x y _ ) r4) (h:=aN 9 rfl (h:=Zz kr kr ?_))))
 refine Zd (Zc rfl (fun g3=>?_) (fun g3=>?_))
 try simp only [sQ,ne_eq] at g3
 refine Za (xA (h:=Zi (ZE (Zn (ZS (ZE (Zn ?_)))))))
 exact ZB .ret (.inl rfl) [_] t1 ⟨Zh (Zew hx hy g3),rfl,rfl⟩
 try simp only [sQ,ne_eq] at g3
 refine Zf (ZP (Zd (Zk (xM (h:=xD (h:=xA (h:=?_)))))))
 exact ZD (k+1) [] so2 ⟨rfl,oz,Zbo hx hy g3 he⟩ t4 rfl
 try simp only [sQ,ne_eq] at g2
 refine ZI (ZY (ZM (Zv (Zd (Za (xA (h:=Zi ?_)))))))
 exact ZB .ret (.inl rfl) [_] t1 ⟨Zh (eqT oz oz he),rfl,rfl⟩

set_option maxHeartbeats 400000 in
theorem Zn9 (q q':Option Addr) (cp cp':Nat) (xs ys:List DMail) (B:Kn) (ha:SlK B q cp 3 ZK xs) (hb:SlK B q' cp' 3 ZK ys):Zaa (pj J) 77 [.slice q xs.length cp,.slice q' ys.length cp'] B (.bool (decide (xs=ys))):=by
 refine Zb 27 Tryz.func77 rfl rfl rfl (Nat.le_of_ble_eq_true rfl) ?_
 have han:=ha.len
 have hbn:=hb.len
 refine Za (xA (h:=Zg (Za (xM (h:=xV Tryz.underlying31 (h:=xM (h:=xV Tryz.underlying31 (h:=ZaL (h:=Zc rfl (fun g1=>?_) (fun g1=>?_))))))))))
 try simp only [sQ,ne_eq] at g1
 refine Za (xA (h:=Zi (Zn ?_)))
 exact ZB .ret (.inl rfl) [_] t1 ⟨Zh (Zf3 g1),rfl,rfl⟩
 try simp only [sQ,ne_eq] at g1
 refine Zf (Zd (Zg (Za (xA (h:=Zl (ZC (α:=Nat) [0,1,10] (fun k=>[(5,.int .i64 k)]) [] (fun k=>[]) (fun k Bx=>Bx=B∧k≤xs.length∧xs.take k=ys.take k) (fun k=>xs.length - k) 0 t1 rfl (⟨rfl,Nat.zero_le _,by simp⟩) (fun k B1 hle1 hI=>?_)))))))
 obtain ⟨rfl,hk,he⟩:=hI
 refine ZL [(0,_),(1,_),(5,_),(10,_)] [] t4 rfl (Zg (Za (xM (h:=xM (h:=xV Tryz.underlying31 (h:=ZF (h:=Zc rfl (fun g2=>?_) (fun g2=>?_))))))))
 try simp only [sQ,ne_eq] at g2
 refine Zf (Zd (Zg (Zl (Zg (Zan (same _ _) mo kr ⟨rfl,rfl⟩ (fun _ _=>?_))))))
 refine aM 0 rfl (h:=aM 1 rfl (h:=?_))
 obtain ⟨x,hx⟩:=ZW (xs:=xs) (i:=k) om
 obtain ⟨bb3,oo3,rfl⟩:=ha.base hx
 obtain ⟨_,⟨rfl,hb4⟩,hc4⟩:=ha.elem hx
 refine aIx 2 rfl Tryz.underlying31 Zcv (h:=aT 3 rfl (Zaq fun D=>Z8 [_,_,_] rfl rfl Zjq rfl (Zlg hc4 0 rfl rfl) r4) (h:=aM 4 rfl (h:=aM 5 rfl (h:=?_))))
 obtain ⟨y,hy⟩:=ZW (xs:=ys) (i:=k) om
 obtain ⟨bb6,oo6,rfl⟩:=hb.base hy
 obtain ⟨_,⟨rfl,hb7⟩,hc7⟩:=hb.elem hy
 refine aIx 6 rfl Tryz.underlying31 Zcv (h:=aT 7 rfl (Zaq fun D=>Z8 [_,_,_] rfl rfl Zjq rfl (Zlg hc7 0 rfl rfl) r4) (h:=aT 8 rfl (Zaq fun D=>Zam rfl rfl Zt9 rfl (Zpy x y _ ) r4) (h:=aN 9 rfl (h:=Zz kr kr ?_))))
 refine Zd (Zc rfl (fun g3=>?_) (fun g3=>?_))
 try simp only [sQ,ne_eq] at g3
 refine Za (xA (h:=Zi (ZE (Zn (ZS (ZE (Zn ?_)))))))
 exact ZB .ret (.inl rfl) [_] t1 ⟨Zh (Zew hx hy g3),rfl,rfl⟩
 try simp only [sQ,ne_eq] at g3
 refine Zf (ZP (Zd (Zk (xM (h:=xD (h:=xA (h:=?_)))))))
 exact ZD (k+1) [] so2 ⟨rfl,oz,Zbo hx hy g3 he⟩ t4 rfl
 try simp only [sQ,ne_eq] at g2
 refine ZI (ZY (ZM (Zv (Zd (Za (xA (h:=Zi ?_)))))))
 exact ZB .ret (.inl rfl) [_] t1 ⟨Zh (eqT oz oz he),rfl,rfl⟩

set_option maxHeartbeats 400000 in
theorem Zpz (q1:Option Addr) (cp1:Nat) (q2:Option Addr) (cp2:Nat) (a b:DItem) (B:Kn) (h1:SlK B q1 cp1 1 Zek a.left) (h2:SlK B q2 cp2 1 Zek b.left):Zaa (pj J) 114 [.agg #[.int .i64 a.id,str a.fr,str a.text,.slice q1 a.left.length cp1],.agg #[.int .i64 b.id,str b.fr,str b.text,.slice q2 b.left.length cp2]] B (.bool (decide (a=b))):=by
 refine Zb 26 Tryz.func114 rfl rfl rfl (Nat.le_of_ble_eq_true rfl) ?_
 refine Za (xBx [_,_,_,_] (h:=fun b1=>xBx [_,_,_,_] (h:=fun b2=>xA (h:=ZH [_,_] rfl (Zg (Za (xW Zeg (h:=x1 lk3 0 (h:=xW Zeg (h:=x1 lk3 1 (h:=ZaL (h:=Zc rfl (fun g1=>?_) (fun g1=>?_)))))))))))))
 try simp only [sQ,ne_eq] at g1
 refine Za (xA (h:=Zi (Zn ?_)))
 exact ZB .ret (.inl rfl) [_] t1 ⟨Zh (by symm;rw [decide_eq_false_iff_not];rintro rfl;exact g1 rfl),rfl,rfl⟩
 try simp only [sQ,ne_eq] at g1
 refine Zf (Zd (Zg (Za (xW Zef (h:=x1 lk9 0 (h:=xW Zef (h:=x1 lk9 1 (h:=ZeC (h:=Zc rfl (fun g2=>?_) (fun g2=>?_))))))))))
 try simp only [sQ,ne_eq] at g2
 refine Za (xA (h:=Zi (Zn ?_)))
 exact ZB .ret (.inl rfl) [_] t1 ⟨Zh (by symm;rw [decide_eq_false_iff_not];rintro rfl;exact g2 rfl),rfl,rfl⟩
 try simp only [sQ,ne_eq] at g2
 refine Zf (Zd (Zg (Za (xW Zf0 (h:=x1 lk9 0 (h:=xW Zf0 (h:=x1 lk9 1 (h:=ZeC (h:=Zc rfl (fun g3=>?_) (fun g3=>?_))))))))))
 try simp only [sQ,ne_eq] at g3
 refine Za (xA (h:=Zi (Zn ?_)))
 exact ZB .ret (.inl rfl) [_] t1 ⟨Zh (by symm;rw [decide_eq_false_iff_not];rintro rfl;exact g3 rfl),rfl,rfl⟩
 try simp only [sQ,ne_eq] at g3
 refine Zf (Zd (Zg (Za (xW Zee (h:=x1 Zgn 0 (h:=xW Zee (h:=x1 Zgn 1 (h:=xR ZtP rfl (ZkI _ _ _ _ _ _ _ h1 h2) (h:=xN (h:=Zc rfl (fun g4=>?_) (fun g4=>?_)))))))))))
 try simp only [sQ,ne_eq] at g4
 refine Za (xA (h:=Zi (Zn ?_)))
 exact ZB .ret (.inl rfl) [_] t1 ⟨Zh (by symm;rw [decide_eq_false_iff_not];rintro rfl;exact g4 rfl),rfl,rfl⟩
 try simp only [sQ,ne_eq] at g4
 refine Zf (Zd (Za (xA (h:=Zi ?_))))
 exact ZB .ret (.inl rfl) [_] t1 ⟨Zh (by symm;rw [decide_eq_true_eq];cases a;cases b;simp_all),rfl,rfl⟩

set_option maxHeartbeats 400000 in
theorem Zoa (q q':Option Addr) (cp cp':Nat) (xs ys:List DItem) (B:Kn) (ha:SlK B q cp 4 ZG xs) (hb:SlK B q' cp' 4 ZG ys):Zaa (pj J) 79 [.slice q xs.length cp,.slice q' ys.length cp'] B (.bool (decide (xs=ys))):=by
 refine Zb 27 Tryz.func79 rfl rfl rfl (Nat.le_of_ble_eq_true rfl) ?_
 have han:=ha.len
 have hbn:=hb.len
 refine Za (xA (h:=Zg (Za (xM (h:=xV Tryz.underlying40 (h:=xM (h:=xV Tryz.underlying40 (h:=ZaL (h:=Zc rfl (fun g1=>?_) (fun g1=>?_))))))))))
 try simp only [sQ,ne_eq] at g1
 refine Za (xA (h:=Zi (Zn ?_)))
 exact ZB .ret (.inl rfl) [_] t1 ⟨Zh (Zf3 g1),rfl,rfl⟩
 try simp only [sQ,ne_eq] at g1
 refine Zf (Zd (Zg (Za (xA (h:=Zl (ZC (α:=Nat) [0,1,10] (fun k=>[(5,.int .i64 k)]) [] (fun k=>[]) (fun k Bx=>Bx=B∧k≤xs.length∧xs.take k=ys.take k) (fun k=>xs.length - k) 0 t1 rfl (⟨rfl,Nat.zero_le _,by simp⟩) (fun k B1 hle1 hI=>?_)))))))
 obtain ⟨rfl,hk,he⟩:=hI
 refine ZL [(0,_),(1,_),(5,_),(10,_)] [] t4 rfl (Zg (Za (xM (h:=xM (h:=xV Tryz.underlying40 (h:=ZF (h:=Zc rfl (fun g2=>?_) (fun g2=>?_))))))))
 try simp only [sQ,ne_eq] at g2
 refine Zf (Zd (Zg (Zl (Zg (Zan (same _ _) mo kr ⟨rfl,rfl⟩ (fun _ _=>?_))))))
 refine aM 0 rfl (h:=aM 1 rfl (h:=?_))
 obtain ⟨x,hx⟩:=ZW (xs:=xs) (i:=k) om
 obtain ⟨bb3,oo3,rfl⟩:=ha.base hx
 obtain ⟨_,⟨qi4,ci4,rfl,hi4,hb4,hb4b⟩,hc4⟩:=ha.elem hx
 have hi4n:=hi4.len
 refine aIx 2 rfl Tryz.underlying40 Zc3 (h:=aT 3 rfl (Zaq fun D=>Z8 [_,_,_,_] rfl rfl ZhB rfl (Zlg hc4 0 rfl rfl) r4) (h:=aM 4 rfl (h:=aM 5 rfl (h:=?_))))
 obtain ⟨y,hy⟩:=ZW (xs:=ys) (i:=k) om
 obtain ⟨bb6,oo6,rfl⟩:=hb.base hy
 obtain ⟨_,⟨qi7,ci7,rfl,hi7,hb7,hb7b⟩,hc7⟩:=hb.elem hy
 have hi7n:=hi7.len
 refine aIx 6 rfl Tryz.underlying40 Zc3 (h:=aT 7 rfl (Zaq fun D=>Z8 [_,_,_,_] rfl rfl ZhB rfl (Zlg hc7 0 rfl rfl) r4) (h:=aT 8 rfl (Zaq fun D=>Zam rfl rfl Zt8 rfl (Zpz _ _ _ _ x y _ hi4 hi7) r4) (h:=aN 9 rfl (h:=Zz kr kr ?_))))
 refine Zd (Zc rfl (fun g3=>?_) (fun g3=>?_))
 try simp only [sQ,ne_eq] at g3
 refine Za (xA (h:=Zi (ZE (Zn (ZS (ZE (Zn ?_)))))))
 exact ZB .ret (.inl rfl) [_] t1 ⟨Zh (Zew hx hy g3),rfl,rfl⟩
 try simp only [sQ,ne_eq] at g3
 refine Zf (ZP (Zd (Zk (xM (h:=xD (h:=xA (h:=?_)))))))
 exact ZD (k+1) [] so2 ⟨rfl,oz,Zbo hx hy g3 he⟩ t4 rfl
 try simp only [sQ,ne_eq] at g2
 refine ZI (ZY (ZM (Zv (Zd (Za (xA (h:=Zi ?_)))))))
 exact ZB .ret (.inl rfl) [_] t1 ⟨Zh (eqT oz oz he),rfl,rfl⟩

set_option maxHeartbeats 400000 in
theorem Zn8 (q1:Option Addr) (cp1:Nat) (q2:Option Addr) (cp2:Nat) (a b:DQueue) (B:Kn) (h1:SlK B q1 cp1 4 ZG a.items) (h2:SlK B q2 cp2 4 ZG b.items):Zaa (pj J) 39 [.agg #[.int .i64 a.next,.slice q1 a.items.length cp1],.agg #[.int .i64 b.next,.slice q2 b.items.length cp2]] B (.bool (decide (a=b))):=by
 refine Zb 16 Tryz.func39 rfl rfl rfl (Nat.le_of_ble_eq_true rfl) ?_
 refine Za (xBx [_,_] (h:=fun b1=>xBx [_,_] (h:=fun b2=>xA (h:=ZH [_,_] rfl (Zg (Za (xW Zhi (h:=x1 lk3 0 (h:=xW Zhi (h:=x1 lk3 1 (h:=ZaL (h:=Zc rfl (fun g1=>?_) (fun g1=>?_)))))))))))))
 try simp only [sQ,ne_eq] at g1
 refine Za (xA (h:=Zi (Zn ?_)))
 exact ZB .ret (.inl rfl) [_] t1 ⟨Zh (by symm;rw [decide_eq_false_iff_not];rintro rfl;exact g1 rfl),rfl,rfl⟩
 try simp only [sQ,ne_eq] at g1
 refine Zf (Zd (Zg (Za (xW Zdl (h:=x1 Zmw 0 (h:=xW Zdl (h:=x1 Zmw 1 (h:=xR Zvh rfl (Zoa _ _ _ _ _ _ _ h1 h2) (h:=xN (h:=Zc rfl (fun g2=>?_) (fun g2=>?_)))))))))))
 try simp only [sQ,ne_eq] at g2
 refine Za (xA (h:=Zi (Zn ?_)))
 exact ZB .ret (.inl rfl) [_] t1 ⟨Zh (by symm;rw [decide_eq_false_iff_not];rintro rfl;exact g2 rfl),rfl,rfl⟩
 try simp only [sQ,ne_eq] at g2
 refine Zf (Zd (Za (xA (h:=Zi ?_))))
 exact ZB .ret (.inl rfl) [_] t1 ⟨Zh (by symm;rw [decide_eq_true_eq];cases a;cases b;simp_all),rfl,rfl⟩

set_option maxHeartbeats 400000 in
theorem Zrl (q1:Option Addr) (cp1:Nat) (q2:Option Addr) (cp2:Nat) (a b:DBox) (B:Kn) (h1:SlK B q1 cp1 3 ZK a.mail) (h2:SlK B q2 cp2 3 ZK b.mail):Zaa (pj J) 37 [.agg #[.int .i64 a.next,.slice q1 a.mail.length cp1],.agg #[.int .i64 b.next,.slice q2 b.mail.length cp2]] B (.bool (decide (a=b))):=by
 refine Zb 16 Tryz.func37 rfl rfl rfl (Nat.le_of_ble_eq_true rfl) ?_
 refine Za (xBx [_,_] (h:=fun b1=>xBx [_,_] (h:=fun b2=>xA (h:=ZH [_,_] rfl (Zg (Za (xW ZfA (h:=x1 lk3 0 (h:=xW ZfA (h:=x1 lk3 1 (h:=ZaL (h:=Zc rfl (fun g1=>?_) (fun g1=>?_)))))))))))))
 try simp only [sQ,ne_eq] at g1
 refine Za (xA (h:=Zi (Zn ?_)))
 exact ZB .ret (.inl rfl) [_] t1 ⟨Zh (by symm;rw [decide_eq_false_iff_not];rintro rfl;exact g1 rfl),rfl,rfl⟩
 try simp only [sQ,ne_eq] at g1
 refine Zf (Zd (Zg (Za (xW Zbu (h:=x1 ZiO 0 (h:=xW Zbu (h:=x1 ZiO 1 (h:=xR Zvj rfl (Zn9 _ _ _ _ _ _ _ h1 h2) (h:=xN (h:=Zc rfl (fun g2=>?_) (fun g2=>?_)))))))))))
 try simp only [sQ,ne_eq] at g2
 refine Za (xA (h:=Zi (Zn ?_)))
 exact ZB .ret (.inl rfl) [_] t1 ⟨Zh (by symm;rw [decide_eq_false_iff_not];rintro rfl;exact g2 rfl),rfl,rfl⟩
 try simp only [sQ,ne_eq] at g2
 refine Zf (Zd (Za (xA (h:=Zi ?_))))
 exact ZB .ret (.inl rfl) [_] t1 ⟨Zh (by symm;rw [decide_eq_true_eq];cases a;cases b;simp_all),rfl,rfl⟩

set_option maxHeartbeats 400000 in
theorem Zev (qa1 qb1:Option Addr) (ca1 cb1:Nat) (qa2 qb2:Option Addr) (ca2 cb2:Nat) (a b:DFolder) (B:Kn) (hg1:SlK B qa1 ca1 2 Zu a.grants) (hm1:SlK B qb1 cb1 3 ZK a.mail) (hg2:SlK B qa2 ca2 2 Zu b.grants) (hm2:SlK B qb2 cb2 3 ZK b.mail):Zaa (pj J) 10 [.agg #[str a.owner,str a.name,.slice qa1 a.grants.length ca1,.int .i64 a.next,.slice qb1 a.mail.length cb1],.agg #[str b.owner,str b.name,.slice qa2 b.grants.length ca2,.int .i64 b.next,.slice qb2 b.mail.length cb2]] B (.bool (decide (a=b))):=by
 refine Zb 27 Tryz.func10 rfl rfl rfl (Nat.le_of_ble_eq_true rfl) ?_
 refine Za (xBx [_,_,_,_,_] (h:=fun b1=>xBx [_,_,_,_,_] (h:=fun b2=>xA (h:=ZH [_,_] rfl (Zg (Za (xW Za0 (h:=x1 lk9 0 (h:=xW Za0 (h:=x1 lk9 1 (h:=ZeC (h:=Zc rfl (fun g1=>?_) (fun g1=>?_)))))))))))))
 try simp only [sQ,ne_eq] at g1
 refine Za (xA (h:=Zi (Zn ?_)))
 exact ZB .ret (.inl rfl) [_] t1 ⟨Zh (by symm;rw [decide_eq_false_iff_not];rintro rfl;exact g1 rfl),rfl,rfl⟩
 try simp only [sQ,ne_eq] at g1
 refine Zf (Zd (Zg (Za (xW ZbP (h:=x1 lk9 0 (h:=xW ZbP (h:=x1 lk9 1 (h:=ZeC (h:=Zc rfl (fun g2=>?_) (fun g2=>?_))))))))))
 try simp only [sQ,ne_eq] at g2
 refine Za (xA (h:=Zi (Zn ?_)))
 exact ZB .ret (.inl rfl) [_] t1 ⟨Zh (by symm;rw [decide_eq_false_iff_not];rintro rfl;exact g2 rfl),rfl,rfl⟩
 try simp only [sQ,ne_eq] at g2
 refine Zf (Zd (Zg (Za (xW Zce (h:=x1 Zmx 0 (h:=xW Zce (h:=x1 Zmx 1 (h:=xR ZvO rfl (Zml _ _ _ _ _ _ _ hg1 hg2) (h:=xN (h:=Zc rfl (fun g3=>?_) (fun g3=>?_)))))))))))
 try simp only [sQ,ne_eq] at g3
 refine Za (xA (h:=Zi (Zn ?_)))
 exact ZB .ret (.inl rfl) [_] t1 ⟨Zh (by symm;rw [decide_eq_false_iff_not];rintro rfl;exact g3 rfl),rfl,rfl⟩
 try simp only [sQ,ne_eq] at g3
 refine Zf (Zd (Zg (Za (xW ZbJ (h:=xL [_,_] ZiN 0 (h:=xW ZbJ (h:=xL [_,_] ZiN 1 (h:=xR ZvN rfl (Zrl _ _ _ _ (⟨a.next,a.mail⟩:DBox) (⟨b.next,b.mail⟩:DBox) _ hm1 hm2) (h:=xN (h:=Zc rfl (fun g4=>?_) (fun g4=>?_)))))))))))
 try simp only [sQ,ne_eq] at g4
 refine Za (xA (h:=Zi (Zn ?_)))
 exact ZB .ret (.inl rfl) [_] t1 ⟨Zh (by symm;rw [decide_eq_false_iff_not];rintro rfl;exact g4 rfl),rfl,rfl⟩
 try simp only [sQ,ne_eq] at g4
 refine Zf (Zd (Za (xA (h:=Zi ?_))))
 exact ZB .ret (.inl rfl) [_] t1 ⟨Zh (by symm;rw [decide_eq_true_eq];cases a;cases b;simp_all),rfl,rfl⟩

set_option maxHeartbeats 400000 in
theorem Zbn (q q':Option Addr) (cp cp':Nat) (xs ys:List DFolder) (B:Kn) (ha:SlK B q cp 5 Ze xs) (hb:SlK B q' cp' 5 Ze ys):Zaa (pj J) 19 [.slice q xs.length cp,.slice q' ys.length cp'] B (.bool (decide (xs=ys))):=by
 refine Zb 27 Tryz.func19 rfl rfl rfl (Nat.le_of_ble_eq_true rfl) ?_
 have han:=ha.len
 have hbn:=hb.len
 refine Za (xA (h:=Zg (Za (xM (h:=xV Tryz.underlying39 (h:=xM (h:=xV Tryz.underlying39 (h:=ZaL (h:=Zc rfl (fun g1=>?_) (fun g1=>?_))))))))))
 try simp only [sQ,ne_eq] at g1
 refine Za (xA (h:=Zi (Zn ?_)))
 exact ZB .ret (.inl rfl) [_] t1 ⟨Zh (Zf3 g1),rfl,rfl⟩
 try simp only [sQ,ne_eq] at g1
 refine Zf (Zd (Zg (Za (xA (h:=Zl (ZC (α:=Nat) [0,1,10] (fun k=>[(5,.int .i64 k)]) [] (fun k=>[]) (fun k Bx=>Bx=B∧k≤xs.length∧xs.take k=ys.take k) (fun k=>xs.length - k) 0 t1 rfl (⟨rfl,Nat.zero_le _,by simp⟩) (fun k B1 hle1 hI=>?_)))))))
 obtain ⟨rfl,hk,he⟩:=hI
 refine ZL [(0,_),(1,_),(5,_),(10,_)] [] t4 rfl (Zg (Za (xM (h:=xM (h:=xV Tryz.underlying39 (h:=ZF (h:=Zc rfl (fun g2=>?_) (fun g2=>?_))))))))
 try simp only [sQ,ne_eq] at g2
 refine Zf (Zd (Zg (Zl (Zg (Zan (same _ _) mo kr ⟨rfl,rfl⟩ (fun _ _=>?_))))))
 refine aM 0 rfl (h:=aM 1 rfl (h:=?_))
 obtain ⟨x,hx⟩:=ZW (xs:=xs) (i:=k) om
 obtain ⟨bb3,oo3,rfl⟩:=ha.base hx
 obtain ⟨_,⟨qg4,cg4,qm4,cm4,rfl,hg4,hm4,hb4,hb4b⟩,hc4⟩:=ha.elem hx
 have hg4n:=hg4.len
 have hm4n:=hm4.len
 have hm4s:=Z5 hm4
 refine aIx 2 rfl Tryz.underlying39 ZaQ (h:=aT 3 rfl (Zaq fun D=>Z8 [_,_,_,_,_] rfl rfl Zcd rfl (Zlg hc4 0 rfl rfl) r4) (h:=aM 4 rfl (h:=aM 5 rfl (h:=?_))))
 obtain ⟨y,hy⟩:=ZW (xs:=ys) (i:=k) om
 obtain ⟨bb6,oo6,rfl⟩:=hb.base hy
 obtain ⟨_,⟨qg7,cg7,qm7,cm7,rfl,hg7,hm7,hb7,hb7b⟩,hc7⟩:=hb.elem hy
 have hg7n:=hg7.len
 have hm7n:=hm7.len
 have hm7s:=Z5 hm7
 refine aIx 6 rfl Tryz.underlying39 ZaQ (h:=aT 7 rfl (Zaq fun D=>Z8 [_,_,_,_,_] rfl rfl Zcd rfl (Zlg hc7 0 rfl rfl) r4) (h:=aT 8 rfl (Zaq fun D=>Zam rfl rfl ZsX rfl (Zev _ _ _ _ _ _ _ _ x y _ hg4 hm4 hg7 hm7) r4) (h:=aN 9 rfl (h:=Zz kr kr ?_))))
 refine Zd (Zc rfl (fun g3=>?_) (fun g3=>?_))
 try simp only [sQ,ne_eq] at g3
 refine Za (xA (h:=Zi (ZE (Zn (ZS (ZE (Zn ?_)))))))
 exact ZB .ret (.inl rfl) [_] t1 ⟨Zh (Zew hx hy g3),rfl,rfl⟩
 try simp only [sQ,ne_eq] at g3
 refine Zf (ZP (Zd (Zk (xM (h:=xD (h:=xA (h:=?_)))))))
 exact ZD (k+1) [] so2 ⟨rfl,oz,Zbo hx hy g3 he⟩ t4 rfl
 try simp only [sQ,ne_eq] at g2
 refine ZI (ZY (ZM (Zv (Zd (Za (xA (h:=Zi ?_)))))))
 exact ZB .ret (.inl rfl) [_] t1 ⟨Zh (eqT oz oz he),rfl,rfl⟩

set_option maxHeartbeats 400000 in
theorem ZiD (qa1 qb1 qc1:Option Addr) (ca1 cb1 cc1:Nat) (qa2 qb2 qc2:Option Addr) (ca2 cb2 cc2:Nat) (a b:DHost) (B:Kn) (hu1:SlK B qa1 ca1 3 Zq a.users) (hf1:SlK B qb1 cb1 5 Ze a.folders) (hi1:SlK B qc1 cc1 4 ZG a.queue.items) (hu2:SlK B qa2 ca2 3 Zq b.users) (hf2:SlK B qb2 cb2 5 Ze b.folders) (hi2:SlK B qc2 cc2 4 ZG b.queue.items):Zaa (pj J) 11 [.agg #[str a.domain,.slice qa1 a.users.length ca1,.slice qb1 a.folders.length cb1,.int .i64 a.queue.next,.slice qc1 a.queue.items.length cc1],.agg #[str b.domain,.slice qa2 b.users.length ca2,.slice qb2 b.folders.length cb2,.int .i64 b.queue.next,.slice qc2 b.queue.items.length cc2]] B (.bool (decide (a=b))):=by
 refine Zb 28 Tryz.func11 rfl rfl rfl (Nat.le_of_ble_eq_true rfl) ?_
 refine Za (xBx [_,_,_,_,_] (h:=fun b1=>xBx [_,_,_,_,_] (h:=fun b2=>xA (h:=ZH [_,_] rfl (Zg (Za (xW ZjE (h:=x1 lk9 0 (h:=xW ZjE (h:=x1 lk9 1 (h:=ZeC (h:=Zc rfl (fun g1=>?_) (fun g1=>?_)))))))))))))
 try simp only [sQ,ne_eq] at g1
 refine Za (xA (h:=Zi (Zn ?_)))
 exact ZB .ret (.inl rfl) [_] t1 ⟨Zh (by symm;rw [decide_eq_false_iff_not];rintro rfl;exact g1 rfl),rfl,rfl⟩
 try simp only [sQ,ne_eq] at g1
 refine Zf (Zd (Zg (Za (xW ZbI (h:=x1 ZiM 0 (h:=xW ZbI (h:=x1 ZiM 1 (h:=xR ZvM rfl (Zn7 _ _ _ _ _ _ _ hu1 hu2) (h:=xN (h:=Zc rfl (fun g2=>?_) (fun g2=>?_)))))))))))
 try simp only [sQ,ne_eq] at g2
 refine Za (xA (h:=Zi (Zn ?_)))
 exact ZB .ret (.inl rfl) [_] t1 ⟨Zh (by symm;rw [decide_eq_false_iff_not];rintro rfl;exact g2 rfl),rfl,rfl⟩
 try simp only [sQ,ne_eq] at g2
 refine Zf (Zd (Zg (Za (xW Zar (h:=x1 Zd7 0 (h:=xW Zar (h:=x1 Zd7 1 (h:=xR Zrq rfl (Zbn _ _ _ _ _ _ _ hf1 hf2) (h:=xN (h:=Zc rfl (fun g3=>?_) (fun g3=>?_)))))))))))
 try simp only [sQ,ne_eq] at g3
 refine Za (xA (h:=Zi (Zn ?_)))
 exact ZB .ret (.inl rfl) [_] t1 ⟨Zh (by symm;rw [decide_eq_false_iff_not];rintro rfl;exact g3 rfl),rfl,rfl⟩
 try simp only [sQ,ne_eq] at g3
 refine Zf (Zd (Zg (Za (xW Zfz (h:=xL [_,_] ZqW 0 (h:=xW Zfz (h:=xL [_,_] ZqW 1 (h:=xR ZvL rfl (Zn8 _ _ _ _ a.queue b.queue _ hi1 hi2) (h:=xN (h:=Zc rfl (fun g4=>?_) (fun g4=>?_)))))))))))
 try simp only [sQ,ne_eq] at g4
 refine Za (xA (h:=Zi (Zn ?_)))
 exact ZB .ret (.inl rfl) [_] t1 ⟨Zh (by symm;rw [decide_eq_false_iff_not];rintro rfl;exact g4 rfl),rfl,rfl⟩
 try simp only [sQ,ne_eq] at g4
 refine Zf (Zd (Za (xA (h:=Zi ?_))))
 exact ZB .ret (.inl rfl) [_] t1 ⟨Zh (by symm;rw [decide_eq_true_eq];cases a;cases b;simp_all),rfl,rfl⟩

set_option maxHeartbeats 400000 in
theorem Zdr (q:Option Addr) (cp:Nat) (x:DBox) (B:Kn) (hm:SlK B q cp 3 ZK x.mail):ZJ (pj J) 53 [.agg #[.int .i64 x.next,.slice q x.mail.length cp]] B [] (fun v B' Ls=>B'=B∧∃l a c,Ls=[l]∧v = .agg #[.int .i64 x.next,.slice a x.mail.length c]∧Z3 B l a c 126 3 ZK x.mail):=by
 refine Zb 10 Tryz.func53 rfl rfl rfl (Nat.le_of_ble_eq_true rfl) ?_
 have hxn:=hm.len
 refine Za (xBx [_,_] (h:=fun b1=>xAl [_,_] Zqw (h:=fun b2=>ZH [_,_] rfl (Zg (Zan (keeps _ [0] _) mo kr ⟨Kn.le.refl _,ZbF.refl _ _⟩ (fun _ _=>?_))))))
 refine aW 0 rfl ZfA (h:=aT 1 rfl (Zah fun D B L hI=>Zs rfl rfl lk3 rfl (atL 0 (hI.2.1.trans rfl) rfl rfl) r4) (h:=aW 3 rfl Zbu (h:=aT 4 rfl (Zah fun D B L hI=>Zs rfl rfl ZiO rfl (atL 0 (hI.2.1.trans rfl) rfl rfl) r4) (h:=Z4 2 kr rfl kr (ZZ (parts:=[]) [] rfl rfl Tryz.underlying31 Zcv Zh8 rfl rfl rfl rfl rfl (fun b3=>?_))))))
 refine ⟨⟨Kn.le.refl _,t1⟩,(Z4 5 kr rfl kr (Zk3 (R:=ZK) 2 rfl (Z3.lit0 (R:=ZK)) rfl rfl rfl Ztp Zus rfl rfl rfl hm.rows ZK.one rfl om (fun l4 p4 c4 hv4=>?_)))⟩
 refine ⟨⟨Kn.le.refl _,t1⟩,(aT 6 rfl (Zah fun D B L hI=>Zc2 (parts:=[(0,_),(1,_)]) [_,_] [_,_] rfl rfl Zth Zqw rfl rfl rfl r4) (h:=ZkS 7 kr rfl kr kr kr (Zd0 [_,_] 1 [_,_] rfl rfl ZrD rfl rfl rfl rfl rfl rfl rfl rfl ?_)))⟩
 refine Zd (ZH [_,_,_] rfl (Zi ?_))
 exact Zbx .ret (.inl rfl) [_] [2] rfl ⟨⟨_,rfl,.inr ⟨[_,_],ZiN,ZcQ 1 rfl rfl rfl,rfl⟩⟩,trivial⟩ ⟨rfl,_,_,_,rfl,rfl,hv4⟩

set_option maxHeartbeats 400000 in
theorem Zfy (qa qb:Option Addr) (ca cb:Nat) (x:DFolder) (B:Kn) (hg:SlK B qa ca 2 Zu x.grants) (hm:SlK B qb cb 3 ZK x.mail):ZJ (pj J) 35 [.agg #[str x.owner,str x.name,.slice qa x.grants.length ca,.int .i64 x.next,.slice qb x.mail.length cb]] B [] (fun v B' Ls=>B'=B∧∃l a c l' a' c',Ls=[l,l']∧v = .agg #[str x.owner,str x.name,.slice a x.grants.length c,.int .i64 x.next,.slice a' x.mail.length c']∧Z3 B l a c 117 2 Zu x.grants∧Z3 B l' a' c' 126 3 ZK x.mail):=by
 refine Zb 13 Tryz.func35 rfl rfl rfl (Nat.le_of_ble_eq_true rfl) ?_
 have hgn:=hg.len
 have hmn:=hm.len
 refine Za (xBx [_,_,_,_,_] (h:=fun b1=>xAl [_,_,_,_,_] Zca (h:=fun b2=>ZH [_,_] rfl (Za (xBs [] [] Tryz.underlying30 ZbO ZfG (h:=fun b3=>xW Zce (h:=x1 Zmx 0 (h:=Zo (Zk3 (R:=Zu) 2 rfl (Z3.lit0 (R:=Zu)) rfl rfl rfl Ztq Zut rfl rfl rfl hg.rows Zu.one rfl om (fun l4 p4 c4 hv4=>?_))))))))))
 refine xW Zce (h:=xS [_] 0 [_,_,_,_,_] ZsR (h:=ZH [_,_,_] rfl (Za (xW ZbJ (h:=xL [_,_] ZiN 0 (h:=Zo (Zao rfl rfl Zsw rfl (Zdr _ _ (⟨x.next,x.mail⟩:DBox) _ hm) ?_)))))))
 rintro _ B5 _ hle5 ⟨rfl,l5,a5,c5,rfl,rfl,hs5⟩
 refine xW ZbJ (h:=xS [_,_] 0 [_,_,_,_,_] ZrD (h:=ZH [_,_,_,_] rfl (Za (xL [_,_,_,_,_] Zcd 0 (h:=xS [_,_,_,_,_] 1 [_,_,_,_,_] ZaQ (h:=ZH [_,_,_,_] rfl (Zi ?_)))))))
 exact Zbx .ret (.inl rfl) [_] [2,3] rfl ⟨⟨_,rfl,.inr ⟨[_,_,_,_,_],Zcd,ZcQ 1 rfl rfl rfl,rfl⟩⟩,trivial⟩ ⟨rfl,_,_,_,_,_,_,rfl,rfl,hv4,hs5⟩

set_option maxHeartbeats 400000 in
theorem Zjx (hJ:Joins Tryz.prog J) (q1 q2 q3:Option Addr) (c1 c2 c3:Nat) (x:DHost) (o n:Str) (ho:o.length≤2000000) (hn:n.length≤2000000) (hd:x.domain.length≤2000000) (B:Kn) (hu:SlK B q1 c1 3 Zq x.users) (hf:SlK B q2 c2 5 Ze x.folders) (hi:SlK B q3 c3 4 ZG x.queue.items):ZJ (pj J) 9 [.agg #[str x.domain,.slice q1 x.users.length c1,.slice q2 x.folders.length c2,.int .i64 x.queue.next,.slice q3 x.queue.items.length c3],str o,str n] B [] (fun v B' Ls=>Ls=[]∧∃qa ca qb cb,v = .tuple #[.agg #[str (ZA x o n).1.owner,str (ZA x o n).1.name,.slice qa (ZA x o n).1.grants.length ca,.int .i64 (ZA x o n).1.next,.slice qb (ZA x o n).1.mail.length cb],.bool (ZA x o n).2]∧SlK B' qa ca 2 Zu (ZA x o n).1.grants∧SlK B' qb cb 3 ZK (ZA x o n).1.mail):=by
 refine Zb 25 Tryz.func9 rfl rfl rfl (Nat.le_of_ble_eq_true rfl) ?_
 have hfn:=hf.len
 have hix:=ZkD (inF o n) x.folders
 refine Za (xBx [_,_,_,_,_] (h:=fun b1=>xAl [_,_,_,_,_] Zca (h:=fun b2=>xA (h:=ZH [_,_] rfl (Zj2 0 rfl (fun B3 hle3 hpm3=>?_))))))
 have hc3:=Za2 hpm3
 replace hu:=hu.mono Zq.mono hle3
 replace hf:=hf.mono Ze.mono hle3
 replace hi:=hi.mono ZG.mono hle3
 refine Zg (Za (yL [_,_,_,_,_] Ze7 hc3 0 (h:=Zo (ZbS rfl rfl ZrH rfl (ZbY hJ _ _ _ _ _ _ x om2 _ hu hf hi) ?_))))
 intro v4 B4 hle4
 rintro rfl
 replace hu:=hu.mono Zq.mono hle4
 replace hf:=hf.mono Ze.mono hle4
 replace hi:=hi.mono ZG.mono hle4
 replace hc3:=hc3.mono hle4
 refine xN (h:=ZH [_,_] rfl (Zc rfl (fun g1=>?_) (fun g1=>?_)))
 try simp only [sQ,ne_eq] at g1
 rw [Zc5 (x:=x) (o:=o) (n:=n) (by simpa using g1)]
 refine Za (xB [] [_,_,_,_,_] [_,_,_,_,_] Zlk Zca (h:=xS [_,_,_,_,_] 1 [_,_,_,_,_] ZaQ (h:=xA (h:=ZH [_,_] rfl (Zi (Zn ?_))))))
 exact Zbx .ret (.inl rfl) [_,_] [] rfl ⟨⟨_,rfl,.inr ⟨[_,_,_,_,_],Zcd,ZcQ 1 rfl rfl rfl,rfl⟩⟩,rfl,trivial⟩ ⟨rfl,none,0,none,0,rfl,SlK.nil,SlK.nil⟩
 try simp only [sQ,ne_eq] at g1
 refine Zf (Zd (Za (xM (h:=xM (h:=xR Ztu rfl (Zn2 _ _ _ _ _ _ _ _ x o n om2 om2 _ hc3 hf) (h:=?_))))))
 refine xA (h:=Zg (Za (xM (h:=ZF (h:=Zc rfl (fun g2=>?_) (fun g2=>?_))))))
 try simp only [sQ,ne_eq] at g2
 rw [ZcG (x:=x) (o:=o) (n:=n) oz]
 refine Za (xB [] [_,_,_,_,_] [_,_,_,_,_] Zlk Zca (h:=xS [_,_,_,_,_] 1 [_,_,_,_,_] ZaQ (h:=xA (h:=ZH [_,_] rfl (Zi (Zn ?_))))))
 exact Zbx .ret (.inl rfl) [_,_] [] rfl ⟨⟨_,rfl,.inr ⟨[_,_,_,_,_],Zcd,ZcQ 1 rfl rfl rfl,rfl⟩⟩,rfl,trivial⟩ ⟨rfl,none,0,none,0,rfl,SlK.nil,SlK.nil⟩
 try simp only [sQ,ne_eq] at g2
 refine Zf (Zd (Za (xW Zar (h:=y1 Zd7 hc3 2 (h:=xM (h:=?_))))))
 obtain ⟨w,hw⟩:=ZrE (xs:=x.folders) (i:=(ZeG (inF o n) x.folders)) om om
 obtain ⟨bb7,oo7,rfl⟩:=hf.base hw
 obtain ⟨_,⟨qg8,cg8,qm8,cm8,rfl,hg8,hm8,hb8,hb8b⟩,hc8⟩:=hf.elem hw
 have hg8n:=hg8.len
 have hm8n:=hm8.len
 have hm8s:=Z5 hm8
 refine xIx Tryz.underlying39 ZaQ (h:=yL [_,_,_,_,_] Zcd hc8 0 (h:=Zo (Zao rfl rfl ZuJ rfl (Zfy _ _ _ _ w _ hg8 hm8) ?_)))
 rintro _ B9 _ hle9 ⟨rfl,l9,a9,c9,l9b,a9b,c9b,rfl,rfl,hs9,hs9b⟩
 refine ZdR 2 rfl hs9 Zu.mono om3 (fun B10 hle10 hr10=>?_)
 replace hu:=hu.mono Zq.mono hle10
 replace hf:=hf.mono Ze.mono hle10
 replace hi:=hi.mono ZG.mono hle10
 replace hc3:=hc3.mono hle10
 replace hg8:=hg8.mono Zu.mono hle10
 replace hm8:=hm8.mono ZK.mono hle10
 replace hc8:=hc8.mono hle10
 replace hs9b:=hs9b.mono ZK.mono hle10
 have hr10n:=hr10.len
 refine ZdR 3 rfl hs9b ZK.mono om3 (fun B11 hle11 hr11=>?_)
 replace hu:=hu.mono Zq.mono hle11
 replace hf:=hf.mono Ze.mono hle11
 replace hi:=hi.mono ZG.mono hle11
 replace hc3:=hc3.mono hle11
 replace hg8:=hg8.mono Zu.mono hle11
 replace hm8:=hm8.mono ZK.mono hle11
 replace hc8:=hc8.mono hle11
 replace hr10:=hr10.mono Zu.mono hle11
 have hr11n:=hr11.len
 refine xS [_,_,_,_,_] 1 [_,_,_,_,_] ZaQ (h:=xA (h:=ZH [_,_,_,_] rfl (Zi ?_)))
 exact Zbx .ret (.inl rfl) [_,_] [] rfl ⟨⟨_,rfl,.inr ⟨[_,_,_,_,_],Zcd,ZcQ 1 rfl rfl rfl,rfl⟩⟩,rfl,trivial⟩ (by rw [ZcF (x:=x) (o:=o) (n:=n) (by simpa using g1) oz hw];exact ⟨rfl,_,_,_,_,rfl,hr10,hr11⟩)

set_option maxHeartbeats 400000 in
theorem Zaz (k:Nat) (hk:k≤1000000000000000) (B:Kn):Zaa (pj J) 49 [.int .i64 k] B (str (ZT k)):=by
 refine Zb 20 Tryz.func49 rfl rfl rfl (Nat.le_of_ble_eq_true rfl) ?_
 refine Za (xA (h:=Zg (Za (xM (h:=ZbQ (h:=Zc rfl (fun g1=>?_) (fun g1=>?_)))))))
 try simp only [sQ,ne_eq] at g1
 refine Za (xA (h:=Zi (Zn ?_)))
 exact ZB .ret (.inl rfl) [_] t1 ⟨Zp7 (by rw [ZT,if_pos oz]),rfl,rfl⟩
 try simp only [sQ,ne_eq] at g1
 refine Zf (Zd (Za (xA (h:=Zg (Zl (ZC (α:=Nat × Str) [2,5] (fun g=>[(0,.int .i64 g.1),(3,str g.2)]) [] (fun g=>[]) (fun g Bx=>Bx=B∧g.1≤k∧digs k=digs g.1 ++ g.2) (fun g=>g.1) (k,[]) t2 rfl (⟨rfl,Nat.le_refl _,by simp⟩) (fun g B1 hle1 hI=>?_)))))))
 obtain ⟨rfl,hl,hs⟩:=hI
 have hgl:=Zrt hk hs
 refine ZL [(0,_),(2,_),(3,_),(5,_)] [] t4 rfl (Zg (Za (xM (h:=ZdV (h:=Zc rfl (fun g2=>?_) (fun g2=>?_))))))
 try simp only [sQ,ne_eq] at g2
 refine Zf (Zd (Zl (Za (xM (h:=Zo (ZoG (a:=(g.1:Int)) (b:=10) (r:=((g.1 % 10:Nat):Int)) rfl rfl rfl rfl (by decide) rfl ?_))))))
 refine xD (h:=Zo (Zqy rfl rfl Tryz.underlying3 Tryz.underlying5 rfl (by first | exact ZbR om om | rfl) ?_))
 refine xBs [(0,_)] [_] Tryz.underlying124 sz5 zo5 (h:=fun b2=>Zo (ZmL rfl rfl Tryz.underlying124 Tryz.underlying9 Tryz.underlying5 rfl (ZbL.box 0 rfl) (xM (h:=Zo (Zr0 (a:=dig g.1) (b:=g.2) rfl rfl rfl rfl (by simp [dig];omega) ?_)))))
 refine xA (h:=ZH [_] rfl (Zk (xM (h:=Zo (ZmD (a:=(g.1:Int)) (b:=10) (r:=((g.1 / 10:Nat):Int)) rfl rfl rfl rfl (by decide) (by rw [show Int.tdiv (g.1:Int) 10=((g.1 / 10:Nat):Int) from rfl];exact ZbR oz oz) ?_)))))
 refine xA (h:=ZP ?_)
 exact ZD (g.1 / 10,dig g.1 ++ g.2) [] so2 ⟨rfl,so,Zoh hs oz⟩ t4 rfl
 try simp only [sQ,ne_eq] at g2
 refine ZI (ZY (ZM (Zv (Zd (Za (xM (h:=Zo (Zr0 rfl rfl rfl rfl (by first | omega | (simp;omega)) ?_))))))))
 refine xA (h:=Zi ?_)
 exact ZB .ret (.inl rfl) [_] t1 ⟨Zp7 (by rw [ZT,if_neg oz,hs,show g.1=0 from by omega,ZjL];rfl),rfl,rfl⟩

set_option maxHeartbeats 400000 in
theorem Zg4 (q:Option Addr) (cp:Nat) (xs:List DMail) (l:Cells) (k:Nat) (hk:k≤900000000000000) (hn:xs.length≤2000000) (B:Kn) (hv:Z3 B l q cp 126 3 ZK xs):ZJ (pj J) 50 [.slice q xs.length cp,.int .i64 k] B [l] (fun v B' Ls=>B'=B∧∃l',Ls=[l']∧v = .int .i64 ((k+3*xs.length:Nat):Int)∧Z3 B l' q cp 126 3 ZK (ZaP k xs.length)):=by
 refine Zb 35 Tryz.func50 rfl rfl rfl (Nat.le_of_ble_eq_true rfl) ?_
 have hvc:=hv.cap
 refine Za (xA (h:=Zg (Za (xA (h:=Zl (ZC (α:=Nat × Cells × List DMail) [4] (fun g=>[(0,.slice q xs.length cp),(1,.int .i64 ((k+3*g.1:Nat):Int)),(5,.int .i64 g.1)]) [0] (fun g=>[g.2.1]) (fun g Bx=>Bx=B∧g.1≤xs.length∧g.2.2.length=xs.length∧g.2.2.take g.1=ZaP k g.1∧Z3 Bx g.2.1 q cp 126 3 ZK g.2.2) (fun g=>xs.length - g.1) (0,l,xs) t3 rfl (⟨rfl,Nat.zero_le _,rfl,rfl,hv⟩) (fun g B1 hle1 hI=>?_)))))))
 obtain ⟨rfl,hi,hle,ht,hw⟩:=hI
 refine ZL [(0,_),(1,_),(4,_),(5,_)] [_] t4 rfl (Zg (Za (xM (h:=xM (h:=xV Tryz.underlying31 (h:=ZF (h:=Zc rfl (fun g1=>?_) (fun g1=>?_))))))))
 try simp only [sQ,ne_eq] at g1
 refine Zf (Zd (Zg (Zl (Za (xM (h:=xM (h:=xM (h:=?_))))))))
 obtain ⟨z1,hz1⟩:=ZW (xs:=g.2.2) (i:=g.1) om
 obtain ⟨bb3,_,hp3,⟨rfl,hb3⟩,hw3,hc3⟩:=hw.row hz1
 refine xIp hp3 Tryz.underlying31 Zcv (h:=xW Zb9 (h:=Zo (ZgA (k:=g.1) (off:=0) (⟨((k+3*g.1:Nat):Int),z1.flags,z1.text⟩) [_] 0 hw hp3 hz1 rfl rfl sz3 rfl rfl rfl rfl rfl rfl (by rintro _ ⟨rfl,e1⟩;exact ⟨rfl,e1⟩) (fun l4 hv4=>?_))))
 refine ZH [_] rfl (Za (xM (h:=xD (h:=xA (h:=Za (xM (h:=xM (h:=xM (h:=?_)))))))))
 obtain ⟨z2,hz2⟩:=ZW (xs:=(g.2.2.set g.1 (⟨((k+3*g.1:Nat):Int),z1.flags,z1.text⟩))) (i:=g.1) om
 obtain ⟨bb6,_,hp6,⟨rfl,hb6⟩,hw6,hc6⟩:=hv4.row hz2
 refine xIp hp6 Tryz.underlying31 Zcv (h:=xW Ze4 (h:=Zo (ZgA (k:=g.1) (off:=1) (⟨z2.uid,((k+3*g.1+1:Nat):Int),z2.text⟩) [_] 0 hv4 hp6 hz2 rfl rfl sz3 rfl rfl rfl rfl rfl rfl (by rintro _ ⟨rfl,e1⟩;exact ⟨rfl,e1⟩) (fun l7 hv7=>?_))))
 refine ZH [_] rfl (Za (xM (h:=xD (h:=xA (h:=Za (xM (h:=xM (h:=xM (h:=xR Zmm rfl (Zaz (((k+3*g.1)+1)+1) oz _) (h:=?_))))))))))
 obtain ⟨z3,hz3⟩:=ZW (xs:=((g.2.2.set g.1 (⟨((k+3*g.1:Nat):Int),z1.flags,z1.text⟩)).set g.1 (⟨z2.uid,((k+3*g.1+1:Nat):Int),z2.text⟩))) (i:=g.1) om
 obtain ⟨bb10,_,hp10,⟨rfl,hb10⟩,hw10,hc10⟩:=hv7.row hz3
 refine xIp hp10 Tryz.underlying31 Zcv (h:=xW ZdM (h:=Zo (ZgA (k:=g.1) (off:=2) (⟨z3.uid,z3.flags,ZT (k+3*g.1+1+1)⟩) [_] 0 hv7 hp10 hz3 rfl rfl sz9 rfl rfl rfl rfl rfl rfl (by rintro _ ⟨rfl,e1⟩;exact ⟨rfl,show (ZT (k+3*g.1+1+1)).length≤2000000 from Nat.le_trans (ZbE (k:=k+3*g.1+1+1) oz) (by decide)⟩) (fun l11 hv11=>?_))))
 refine ZH [_] rfl (Zk (xM (h:=xD (h:=xA (h:=ZP (Zd (Zk (xM (h:=xD (h:=xA (h:=?_)))))))))))
 exact ZD (g.1+1,l11,(((g.2.2.set g.1 (⟨((k+3*g.1:Nat):Int),z1.flags,z1.text⟩)).set g.1 (⟨z2.uid,((k+3*g.1+1:Nat):Int),z2.text⟩)).set g.1 (⟨z3.uid,z3.flags,ZT (k+3*g.1+1+1)⟩))) [0] so2 ⟨rfl,so,by simp only [List.length_set];exact hle,Zjk ht hz1 hz2 hz3,hv11⟩ t4 rfl
 try simp only [sQ,ne_eq] at g1
 have he:=Zlo ht oz
 have hgi:g.1=xs.length:=by omega
 rw [hgi] at he
 refine ZI (ZY (ZM (Zv (Zd (Za (xM (h:=xA (h:=Zi ?_))))))))
 exact Zbx .ret (.inl rfl) [_] [0] rfl t1 ⟨rfl,_,rfl,by rw [hgi];rfl,by rw [← he];exact hw⟩

set_option maxHeartbeats 400000 in
theorem Zgf (q:Option Addr) (cp:Nat) (xs:List DGrant) (l:Cells) (k:Nat) (hk:k≤900000000000000) (hn:xs.length≤2000000) (B:Kn) (hv:Z3 B l q cp 117 2 Zu xs):ZJ (pj J) 42 [.slice q xs.length cp,.int .i64 k] B [l] (fun v B' Ls=>B'=B∧∃l',Ls=[l']∧v = .int .i64 ((k+2*xs.length:Nat):Int)∧Z3 B l' q cp 117 2 Zu (Zal k xs.length)):=by
 refine Zb 28 Tryz.func42 rfl rfl rfl (Nat.le_of_ble_eq_true rfl) ?_
 have hvc:=hv.cap
 refine Za (xA (h:=Zg (Za (xA (h:=Zl (ZC (α:=Nat × Cells × List DGrant) [4] (fun g=>[(0,.slice q xs.length cp),(1,.int .i64 ((k+2*g.1:Nat):Int)),(5,.int .i64 g.1)]) [0] (fun g=>[g.2.1]) (fun g Bx=>Bx=B∧g.1≤xs.length∧g.2.2.length=xs.length∧g.2.2.take g.1=Zal k g.1∧Z3 Bx g.2.1 q cp 117 2 Zu g.2.2) (fun g=>xs.length - g.1) (0,l,xs) t3 rfl (⟨rfl,Nat.zero_le _,rfl,rfl,hv⟩) (fun g B1 hle1 hI=>?_)))))))
 obtain ⟨rfl,hi,hle,ht,hw⟩:=hI
 refine ZL [(0,_),(1,_),(4,_),(5,_)] [_] t4 rfl (Zg (Za (xM (h:=xM (h:=xV Tryz.underlying30 (h:=ZF (h:=Zc rfl (fun g1=>?_) (fun g1=>?_))))))))
 try simp only [sQ,ne_eq] at g1
 refine Zf (Zd (Zg (Zl (Za (xM (h:=xM (h:=xM (h:=xR Zmm rfl (Zaz (k+2*g.1) oz _) (h:=?_)))))))))
 obtain ⟨z1,hz1⟩:=ZW (xs:=g.2.2) (i:=g.1) om
 obtain ⟨bb4,_,hp4,⟨rfl,hb4⟩,hw4,hc4⟩:=hw.row hz1
 refine xIp hp4 Tryz.underlying30 ZbO (h:=xW ZbK (h:=Zo (ZgA (k:=g.1) (off:=0) (⟨ZT (k+2*g.1),z1.rights⟩) [_] 0 hw hp4 hz1 rfl rfl sz9 rfl rfl rfl rfl rfl rfl (by rintro _ ⟨rfl,e1⟩;exact ⟨rfl,show (ZT (k+2*g.1)).length≤2000000 from Nat.le_trans (ZbE (k:=k+2*g.1) oz) (by decide)⟩) (fun l5 hv5=>?_))))
 refine ZH [_] rfl (Za (xM (h:=xD (h:=xA (h:=Za (xM (h:=xM (h:=xM (h:=?_)))))))))
 obtain ⟨z2,hz2⟩:=ZW (xs:=(g.2.2.set g.1 (⟨ZT (k+2*g.1),z1.rights⟩))) (i:=g.1) om
 obtain ⟨bb7,_,hp7,⟨rfl,hb7⟩,hw7,hc7⟩:=hv5.row hz2
 refine xIp hp7 Tryz.underlying30 ZbO (h:=xW ZcH (h:=Zo (ZgA (k:=g.1) (off:=1) (⟨z2.user,((k+2*g.1+1:Nat):Int)⟩) [_] 0 hv5 hp7 hz2 rfl rfl sz3 rfl rfl rfl rfl rfl rfl (by rintro _ ⟨rfl,e1⟩;exact ⟨rfl,e1⟩) (fun l8 hv8=>?_))))
 refine ZH [_] rfl (Zk (xM (h:=xD (h:=xA (h:=ZP (Zd (Zk (xM (h:=xD (h:=xA (h:=?_)))))))))))
 exact ZD (g.1+1,l8,((g.2.2.set g.1 (⟨ZT (k+2*g.1),z1.rights⟩)).set g.1 (⟨z2.user,((k+2*g.1+1:Nat):Int)⟩))) [0] so2 ⟨rfl,so,by simp only [List.length_set];exact hle,Zil ht hz1 hz2,hv8⟩ t4 rfl
 try simp only [sQ,ne_eq] at g1
 have he:=Zlo ht oz
 have hgi:g.1=xs.length:=by omega
 rw [hgi] at he
 refine ZI (ZY (ZM (Zv (Zd (Za (xM (h:=xA (h:=Zi ?_))))))))
 exact Zbx .ret (.inl rfl) [_] [0] rfl t1 ⟨rfl,_,rfl,by rw [hgi];rfl,by rw [← he];exact hw⟩

end Go.Proofs.YtmdbkconbffmfaaGreat
