/-
  WHAT THE FUNCTIONS THAT THE LAWS REACH COMPUTE: each function's contract, proved off its printed body (the text is written by program). No condition beyond those that each theorem states.
-/
import Derived.Test.YthgggppcgbglkaaGreatDoorC1
namespace Go.Proofs.YthgggppcgbglkaaGreatDoor
open Go Go.BL
set_option linter.unusedVariables false
set_option linter.unusedSimpArgs false
set_option maxRecDepth 4000
variable {J : JoinT}
set_option maxHeartbeats 400000 in
theorem Zq7   (a b:DMail) (B:Kn)   : Zag (pj J) 228 [.agg #[.int .i64 a.uid,.int .i64 a.flags,str a.text],.agg #[.int .i64 b.uid,.int .i64 b.flags,str b.text]] B (.bool (decide (a=b))):=by
 refine Zb 20 Tryz.func228 rfl rfl rfl (Nat.le_of_ble_eq_true rfl) ?_
 refine Za (xBx [_,_,_] (h:=fun b1=>xBx [_,_,_] (h:=fun b2=>xA (h:=ZB [_,_] rfl (Ze (Za (xW ZcB (h:=x1 lk3 0 (h:=xW ZcB (h:=x1 lk3 1 (h:=ZaT (h:=Zc rfl (fun g1=>?_) (fun g1=>?_)))))))))))))
 try simp only [sQ,ne_eq] at g1
 refine Za (xA (h:=Zh (Zq ?_)))
 exact ZE .ret (.inl rfl) [_] t1 ⟨Zi (by symm;rw [decide_eq_false_iff_not];rintro rfl;exact g1 rfl),rfl,rfl⟩
 try simp only [sQ,ne_eq] at g1
 refine Zf (Zd (Ze (Za (xW Zfw (h:=x1 lk3 0 (h:=xW Zfw (h:=x1 lk3 1 (h:=ZaT (h:=Zc rfl (fun g2=>?_) (fun g2=>?_))))))))))
 try simp only [sQ,ne_eq] at g2
 refine Za (xA (h:=Zh (Zq ?_)))
 exact ZE .ret (.inl rfl) [_] t1 ⟨Zi (by symm;rw [decide_eq_false_iff_not];rintro rfl;exact g2 rfl),rfl,rfl⟩
 try simp only [sQ,ne_eq] at g2
 refine Zf (Zd (Ze (Za (xW Zd3 (h:=x1 lk9 0 (h:=xW Zd3 (h:=x1 lk9 1 (h:=Zek (h:=Zc rfl (fun g3=>?_) (fun g3=>?_))))))))))
 try simp only [sQ,ne_eq] at g3
 refine Za (xA (h:=Zh (Zq ?_)))
 exact ZE .ret (.inl rfl) [_] t1 ⟨Zi (by symm;rw [decide_eq_false_iff_not];rintro rfl;exact g3 rfl),rfl,rfl⟩
 try simp only [sQ,ne_eq] at g3
 refine Zf (Zd (Za (xA (h:=Zh ?_))))
 exact ZE .ret (.inl rfl) [_] t1 ⟨Zi (by symm;rw [decide_eq_true_eq];cases a;cases b;simp_all),rfl,rfl⟩

set_option maxHeartbeats 400000 in
theorem Zpx (q q':Option Addr) (cp cp':Nat) (xs ys:List DUser) (B:Kn) (ha:SlK B q cp 3 Zm xs) (hb:SlK B q' cp' 3 Zm ys):Zag (pj J) 46 [.slice q xs.length cp,.slice q' ys.length cp'] B (.bool (decide (xs=ys))):=by
 refine Zb 27 Tryz.func46 rfl rfl rfl (Nat.le_of_ble_eq_true rfl) ?_
 have han:=ha.len
 have hbn:=hb.len
 refine Za (xA (h:=Ze (Za (xM (h:=xV Tryz.underlying30 (h:=xM (h:=xV Tryz.underlying30 (h:=ZaT (h:=Zc rfl (fun g1=>?_) (fun g1=>?_))))))))))
 try simp only [sQ,ne_eq] at g1
 refine Za (xA (h:=Zh (Zq ?_)))
 exact ZE .ret (.inl rfl) [_] t1 ⟨Zi (Zgt g1),rfl,rfl⟩
 try simp only [sQ,ne_eq] at g1
 refine Zf (Zd (Ze (Za (xA (h:=Zl (ZA (α:=Nat) [0,1,10] (fun k=>[(5,.int .i64 k)]) [] (fun k=>[]) (fun k Bx=>Bx=B∧k≤xs.length∧xs.take k=ys.take k) (fun k=>xs.length - k) 0 t1 rfl (⟨rfl,Nat.zero_le _,by simp⟩) (fun k B1 hle1 hI=>?_)))))))
 obtain ⟨rfl,hk,he⟩:=hI
 refine ZG [(0,_),(1,_),(5,_),(10,_)] [] t4 rfl (Ze (Za (xM (h:=xM (h:=xV Tryz.underlying30 (h:=ZI (h:=Zc rfl (fun g2=>?_) (fun g2=>?_))))))))
 try simp only [sQ,ne_eq] at g2
 refine Zf (Zd (Ze (Zl (Ze (Zaa (same _ _) mo kr ⟨rfl,rfl⟩ (fun _ _=>?_))))))
 refine aM 0 rfl (h:=aM 1 rfl (h:=?_))
 obtain ⟨x,hx⟩:=ZZ (xs:=xs) (i:=k) om
 obtain ⟨bb3,oo3,rfl⟩:=ha.base hx
 obtain ⟨_,⟨rfl,hb4,hb4b⟩,hc4⟩:=ha.elem hx
 refine aIx 2 rfl Tryz.underlying30 Zbe (h:=aT 3 rfl (Zam fun D=>Zab [_,_,_] rfl rfl Ze2 rfl (Zl7 hc4 0 rfl rfl) r4) (h:=aM 4 rfl (h:=aM 5 rfl (h:=?_))))
 obtain ⟨y,hy⟩:=ZZ (xs:=ys) (i:=k) om
 obtain ⟨bb6,oo6,rfl⟩:=hb.base hy
 obtain ⟨_,⟨rfl,hb7,hb7b⟩,hc7⟩:=hb.elem hy
 refine aIx 6 rfl Tryz.underlying30 Zbe (h:=aT 7 rfl (Zam fun D=>Zab [_,_,_] rfl rfl Ze2 rfl (Zl7 hc7 0 rfl rfl) r4) (h:=aT 8 rfl (Zam fun D=>Zak rfl rfl Zw8 rfl (Zq6 x y _ ) r4) (h:=aN 9 rfl (h:=ZC kr kr ?_))))
 refine Zd (Zc rfl (fun g3=>?_) (fun g3=>?_))
 try simp only [sQ,ne_eq] at g3
 refine Za (xA (h:=Zh (ZD (Zq (ZS (ZD (Zq ?_)))))))
 exact ZE .ret (.inl rfl) [_] t1 ⟨Zi (ZeT hx hy g3),rfl,rfl⟩
 try simp only [sQ,ne_eq] at g3
 refine Zf (ZT (Zd (Zg (xM (h:=xD (h:=xA (h:=?_)))))))
 exact ZF (k+1) [] so2 ⟨rfl,oz,ZbS hx hy g3 he⟩ t4 rfl
 try simp only [sQ,ne_eq] at g2
 refine ZH (Z0 (ZJ (Zw (Zd (Za (xA (h:=Zh ?_)))))))
 exact ZE .ret (.inl rfl) [_] t1 ⟨Zi (eqT oz oz he),rfl,rfl⟩

set_option maxHeartbeats 400000 in
theorem Znp (q q':Option Addr) (cp cp':Nat) (xs ys:List DGrant) (B:Kn) (ha:SlK B q cp 2 Z5 xs) (hb:SlK B q' cp' 2 Z5 ys):Zag (pj J) 160 [.slice q xs.length cp,.slice q' ys.length cp'] B (.bool (decide (xs=ys))):=by
 refine Zb 27 Tryz.func160 rfl rfl rfl (Nat.le_of_ble_eq_true rfl) ?_
 have han:=ha.len
 have hbn:=hb.len
 refine Za (xA (h:=Ze (Za (xM (h:=xV Tryz.underlying68 (h:=xM (h:=xV Tryz.underlying68 (h:=ZaT (h:=Zc rfl (fun g1=>?_) (fun g1=>?_))))))))))
 try simp only [sQ,ne_eq] at g1
 refine Za (xA (h:=Zh (Zq ?_)))
 exact ZE .ret (.inl rfl) [_] t1 ⟨Zi (Zgt g1),rfl,rfl⟩
 try simp only [sQ,ne_eq] at g1
 refine Zf (Zd (Ze (Za (xA (h:=Zl (ZA (α:=Nat) [0,1,10] (fun k=>[(5,.int .i64 k)]) [] (fun k=>[]) (fun k Bx=>Bx=B∧k≤xs.length∧xs.take k=ys.take k) (fun k=>xs.length - k) 0 t1 rfl (⟨rfl,Nat.zero_le _,by simp⟩) (fun k B1 hle1 hI=>?_)))))))
 obtain ⟨rfl,hk,he⟩:=hI
 refine ZG [(0,_),(1,_),(5,_),(10,_)] [] t4 rfl (Ze (Za (xM (h:=xM (h:=xV Tryz.underlying68 (h:=ZI (h:=Zc rfl (fun g2=>?_) (fun g2=>?_))))))))
 try simp only [sQ,ne_eq] at g2
 refine Zf (Zd (Ze (Zl (Ze (Zaa (same _ _) mo kr ⟨rfl,rfl⟩ (fun _ _=>?_))))))
 refine aM 0 rfl (h:=aM 1 rfl (h:=?_))
 obtain ⟨x,hx⟩:=ZZ (xs:=xs) (i:=k) om
 obtain ⟨bb3,oo3,rfl⟩:=ha.base hx
 obtain ⟨_,⟨rfl,hb4⟩,hc4⟩:=ha.elem hx
 refine aIx 2 rfl Tryz.underlying68 Zer (h:=aT 3 rfl (Zam fun D=>Zab [_,_] rfl rfl ZoO rfl (Zl7 hc4 0 rfl rfl) r4) (h:=aM 4 rfl (h:=aM 5 rfl (h:=?_))))
 obtain ⟨y,hy⟩:=ZZ (xs:=ys) (i:=k) om
 obtain ⟨bb6,oo6,rfl⟩:=hb.base hy
 obtain ⟨_,⟨rfl,hb7⟩,hc7⟩:=hb.elem hy
 refine aIx 6 rfl Tryz.underlying68 Zer (h:=aT 7 rfl (Zam fun D=>Zab [_,_] rfl rfl ZoO rfl (Zl7 hc7 0 rfl rfl) r4) (h:=aT 8 rfl (Zam fun D=>Zak rfl rfl Zwb rfl (ZpB x y _ ) r4) (h:=aN 9 rfl (h:=ZC kr kr ?_))))
 refine Zd (Zc rfl (fun g3=>?_) (fun g3=>?_))
 try simp only [sQ,ne_eq] at g3
 refine Za (xA (h:=Zh (ZD (Zq (ZS (ZD (Zq ?_)))))))
 exact ZE .ret (.inl rfl) [_] t1 ⟨Zi (ZeT hx hy g3),rfl,rfl⟩
 try simp only [sQ,ne_eq] at g3
 refine Zf (ZT (Zd (Zg (xM (h:=xD (h:=xA (h:=?_)))))))
 exact ZF (k+1) [] so2 ⟨rfl,oz,ZbS hx hy g3 he⟩ t4 rfl
 try simp only [sQ,ne_eq] at g2
 refine ZH (Z0 (ZJ (Zw (Zd (Za (xA (h:=Zh ?_)))))))
 exact ZE .ret (.inl rfl) [_] t1 ⟨Zi (eqT oz oz he),rfl,rfl⟩

set_option maxHeartbeats 400000 in
theorem Zpz (q q':Option Addr) (cp cp':Nat) (xs ys:List DMail) (B:Kn) (ha:SlK B q cp 3 Z3 xs) (hb:SlK B q' cp' 3 Z3 ys):Zag (pj J) 195 [.slice q xs.length cp,.slice q' ys.length cp'] B (.bool (decide (xs=ys))):=by
 refine Zb 27 Tryz.func195 rfl rfl rfl (Nat.le_of_ble_eq_true rfl) ?_
 have han:=ha.len
 have hbn:=hb.len
 refine Za (xA (h:=Ze (Za (xM (h:=xV Tryz.underlying71 (h:=xM (h:=xV Tryz.underlying71 (h:=ZaT (h:=Zc rfl (fun g1=>?_) (fun g1=>?_))))))))))
 try simp only [sQ,ne_eq] at g1
 refine Za (xA (h:=Zh (Zq ?_)))
 exact ZE .ret (.inl rfl) [_] t1 ⟨Zi (Zgt g1),rfl,rfl⟩
 try simp only [sQ,ne_eq] at g1
 refine Zf (Zd (Ze (Za (xA (h:=Zl (ZA (α:=Nat) [0,1,10] (fun k=>[(5,.int .i64 k)]) [] (fun k=>[]) (fun k Bx=>Bx=B∧k≤xs.length∧xs.take k=ys.take k) (fun k=>xs.length - k) 0 t1 rfl (⟨rfl,Nat.zero_le _,by simp⟩) (fun k B1 hle1 hI=>?_)))))))
 obtain ⟨rfl,hk,he⟩:=hI
 refine ZG [(0,_),(1,_),(5,_),(10,_)] [] t4 rfl (Ze (Za (xM (h:=xM (h:=xV Tryz.underlying71 (h:=ZI (h:=Zc rfl (fun g2=>?_) (fun g2=>?_))))))))
 try simp only [sQ,ne_eq] at g2
 refine Zf (Zd (Ze (Zl (Ze (Zaa (same _ _) mo kr ⟨rfl,rfl⟩ (fun _ _=>?_))))))
 refine aM 0 rfl (h:=aM 1 rfl (h:=?_))
 obtain ⟨x,hx⟩:=ZZ (xs:=xs) (i:=k) om
 obtain ⟨bb3,oo3,rfl⟩:=ha.base hx
 obtain ⟨_,⟨rfl,hb4⟩,hc4⟩:=ha.elem hx
 refine aIx 2 rfl Tryz.underlying71 Zcx (h:=aT 3 rfl (Zam fun D=>Zab [_,_,_] rfl rfl Zgl rfl (Zl7 hc4 0 rfl rfl) r4) (h:=aM 4 rfl (h:=aM 5 rfl (h:=?_))))
 obtain ⟨y,hy⟩:=ZZ (xs:=ys) (i:=k) om
 obtain ⟨bb6,oo6,rfl⟩:=hb.base hy
 obtain ⟨_,⟨rfl,hb7⟩,hc7⟩:=hb.elem hy
 refine aIx 6 rfl Tryz.underlying71 Zcx (h:=aT 7 rfl (Zam fun D=>Zab [_,_,_] rfl rfl Zgl rfl (Zl7 hc7 0 rfl rfl) r4) (h:=aT 8 rfl (Zam fun D=>Zak rfl rfl Zv0 rfl (Zq7 x y _ ) r4) (h:=aN 9 rfl (h:=ZC kr kr ?_))))
 refine Zd (Zc rfl (fun g3=>?_) (fun g3=>?_))
 try simp only [sQ,ne_eq] at g3
 refine Za (xA (h:=Zh (ZD (Zq (ZS (ZD (Zq ?_)))))))
 exact ZE .ret (.inl rfl) [_] t1 ⟨Zi (ZeT hx hy g3),rfl,rfl⟩
 try simp only [sQ,ne_eq] at g3
 refine Zf (ZT (Zd (Zg (xM (h:=xD (h:=xA (h:=?_)))))))
 exact ZF (k+1) [] so2 ⟨rfl,oz,ZbS hx hy g3 he⟩ t4 rfl
 try simp only [sQ,ne_eq] at g2
 refine ZH (Z0 (ZJ (Zw (Zd (Za (xA (h:=Zh ?_)))))))
 exact ZE .ret (.inl rfl) [_] t1 ⟨Zi (eqT oz oz he),rfl,rfl⟩

set_option maxHeartbeats 400000 in
theorem Zq8 (q1:Option Addr) (cp1:Nat) (q2:Option Addr) (cp2:Nat) (a b:DItem) (B:Kn) (h1:SlK B q1 cp1 1 Zbv a.left) (h2:SlK B q2 cp2 1 Zbv b.left):Zag (pj J) 162 [.agg #[.int .i64 a.id,str a.fr,str a.text,.slice q1 a.left.length cp1],.agg #[.int .i64 b.id,str b.fr,str b.text,.slice q2 b.left.length cp2]] B (.bool (decide (a=b))):=by
 refine Zb 26 Tryz.func162 rfl rfl rfl (Nat.le_of_ble_eq_true rfl) ?_
 refine Za (xBx [_,_,_,_] (h:=fun b1=>xBx [_,_,_,_] (h:=fun b2=>xA (h:=ZB [_,_] rfl (Ze (Za (xW Zc4 (h:=x1 lk3 0 (h:=xW Zc4 (h:=x1 lk3 1 (h:=ZaT (h:=Zc rfl (fun g1=>?_) (fun g1=>?_)))))))))))))
 try simp only [sQ,ne_eq] at g1
 refine Za (xA (h:=Zh (Zq ?_)))
 exact ZE .ret (.inl rfl) [_] t1 ⟨Zi (by symm;rw [decide_eq_false_iff_not];rintro rfl;exact g1 rfl),rfl,rfl⟩
 try simp only [sQ,ne_eq] at g1
 refine Zf (Zd (Ze (Za (xW Zd6 (h:=x1 lk9 0 (h:=xW Zd6 (h:=x1 lk9 1 (h:=Zek (h:=Zc rfl (fun g2=>?_) (fun g2=>?_))))))))))
 try simp only [sQ,ne_eq] at g2
 refine Za (xA (h:=Zh (Zq ?_)))
 exact ZE .ret (.inl rfl) [_] t1 ⟨Zi (by symm;rw [decide_eq_false_iff_not];rintro rfl;exact g2 rfl),rfl,rfl⟩
 try simp only [sQ,ne_eq] at g2
 refine Zf (Zd (Ze (Za (xW Zd5 (h:=x1 lk9 0 (h:=xW Zd5 (h:=x1 lk9 1 (h:=Zek (h:=Zc rfl (fun g3=>?_) (fun g3=>?_))))))))))
 try simp only [sQ,ne_eq] at g3
 refine Za (xA (h:=Zh (Zq ?_)))
 exact ZE .ret (.inl rfl) [_] t1 ⟨Zi (by symm;rw [decide_eq_false_iff_not];rintro rfl;exact g3 rfl),rfl,rfl⟩
 try simp only [sQ,ne_eq] at g3
 refine Zf (Zd (Ze (Za (xW ZaE (h:=x1 ZgW 0 (h:=xW ZaE (h:=x1 ZgW 1 (h:=xR Zx4 rfl (ZlD _ _ _ _ _ _ _ h1 h2) (h:=xN (h:=Zc rfl (fun g4=>?_) (fun g4=>?_)))))))))))
 try simp only [sQ,ne_eq] at g4
 refine Za (xA (h:=Zh (Zq ?_)))
 exact ZE .ret (.inl rfl) [_] t1 ⟨Zi (by symm;rw [decide_eq_false_iff_not];rintro rfl;exact g4 rfl),rfl,rfl⟩
 try simp only [sQ,ne_eq] at g4
 refine Zf (Zd (Za (xA (h:=Zh ?_))))
 exact ZE .ret (.inl rfl) [_] t1 ⟨Zi (by symm;rw [decide_eq_true_eq];cases a;cases b;simp_all),rfl,rfl⟩

set_option maxHeartbeats 400000 in
theorem ZpA (q q':Option Addr) (cp cp':Nat) (xs ys:List DItem) (B:Kn) (ha:SlK B q cp 4 Zs xs) (hb:SlK B q' cp' 4 Zs ys):Zag (pj J) 107 [.slice q xs.length cp,.slice q' ys.length cp'] B (.bool (decide (xs=ys))):=by
 refine Zb 27 Tryz.func107 rfl rfl rfl (Nat.le_of_ble_eq_true rfl) ?_
 have han:=ha.len
 have hbn:=hb.len
 refine Za (xA (h:=Ze (Za (xM (h:=xV Tryz.underlying32 (h:=xM (h:=xV Tryz.underlying32 (h:=ZaT (h:=Zc rfl (fun g1=>?_) (fun g1=>?_))))))))))
 try simp only [sQ,ne_eq] at g1
 refine Za (xA (h:=Zh (Zq ?_)))
 exact ZE .ret (.inl rfl) [_] t1 ⟨Zi (Zgt g1),rfl,rfl⟩
 try simp only [sQ,ne_eq] at g1
 refine Zf (Zd (Ze (Za (xA (h:=Zl (ZA (α:=Nat) [0,1,10] (fun k=>[(5,.int .i64 k)]) [] (fun k=>[]) (fun k Bx=>Bx=B∧k≤xs.length∧xs.take k=ys.take k) (fun k=>xs.length - k) 0 t1 rfl (⟨rfl,Nat.zero_le _,by simp⟩) (fun k B1 hle1 hI=>?_)))))))
 obtain ⟨rfl,hk,he⟩:=hI
 refine ZG [(0,_),(1,_),(5,_),(10,_)] [] t4 rfl (Ze (Za (xM (h:=xM (h:=xV Tryz.underlying32 (h:=ZI (h:=Zc rfl (fun g2=>?_) (fun g2=>?_))))))))
 try simp only [sQ,ne_eq] at g2
 refine Zf (Zd (Ze (Zl (Ze (Zaa (same _ _) mo kr ⟨rfl,rfl⟩ (fun _ _=>?_))))))
 refine aM 0 rfl (h:=aM 1 rfl (h:=?_))
 obtain ⟨x,hx⟩:=ZZ (xs:=xs) (i:=k) om
 obtain ⟨bb3,oo3,rfl⟩:=ha.base hx
 obtain ⟨_,⟨qi4,ci4,rfl,hi4,hb4,hb4b⟩,hc4⟩:=ha.elem hx
 have hi4n:=hi4.len
 refine aIx 2 rfl Tryz.underlying32 Za0 (h:=aT 3 rfl (Zam fun D=>Zab [_,_,_,_] rfl rfl Zdq rfl (Zl7 hc4 0 rfl rfl) r4) (h:=aM 4 rfl (h:=aM 5 rfl (h:=?_))))
 obtain ⟨y,hy⟩:=ZZ (xs:=ys) (i:=k) om
 obtain ⟨bb6,oo6,rfl⟩:=hb.base hy
 obtain ⟨_,⟨qi7,ci7,rfl,hi7,hb7,hb7b⟩,hc7⟩:=hb.elem hy
 have hi7n:=hi7.len
 refine aIx 6 rfl Tryz.underlying32 Za0 (h:=aT 7 rfl (Zam fun D=>Zab [_,_,_,_] rfl rfl Zdq rfl (Zl7 hc7 0 rfl rfl) r4) (h:=aT 8 rfl (Zam fun D=>Zak rfl rfl Zwx rfl (Zq8 _ _ _ _ x y _ hi4 hi7) r4) (h:=aN 9 rfl (h:=ZC kr kr ?_))))
 refine Zd (Zc rfl (fun g3=>?_) (fun g3=>?_))
 try simp only [sQ,ne_eq] at g3
 refine Za (xA (h:=Zh (ZD (Zq (ZS (ZD (Zq ?_)))))))
 exact ZE .ret (.inl rfl) [_] t1 ⟨Zi (ZeT hx hy g3),rfl,rfl⟩
 try simp only [sQ,ne_eq] at g3
 refine Zf (ZT (Zd (Zg (xM (h:=xD (h:=xA (h:=?_)))))))
 exact ZF (k+1) [] so2 ⟨rfl,oz,ZbS hx hy g3 he⟩ t4 rfl
 try simp only [sQ,ne_eq] at g2
 refine ZH (Z0 (ZJ (Zw (Zd (Za (xA (h:=Zh ?_)))))))
 exact ZE .ret (.inl rfl) [_] t1 ⟨Zi (eqT oz oz he),rfl,rfl⟩

set_option maxHeartbeats 400000 in
theorem Zpy (q1:Option Addr) (cp1:Nat) (q2:Option Addr) (cp2:Nat) (a b:DQueue) (B:Kn) (h1:SlK B q1 cp1 4 Zs a.items) (h2:SlK B q2 cp2 4 Zs b.items):Zag (pj J) 48 [.agg #[.int .i64 a.next,.slice q1 a.items.length cp1],.agg #[.int .i64 b.next,.slice q2 b.items.length cp2]] B (.bool (decide (a=b))):=by
 refine Zb 16 Tryz.func48 rfl rfl rfl (Nat.le_of_ble_eq_true rfl) ?_
 refine Za (xBx [_,_] (h:=fun b1=>xBx [_,_] (h:=fun b2=>xA (h:=ZB [_,_] rfl (Ze (Za (xW Zef (h:=x1 lk3 0 (h:=xW Zef (h:=x1 lk3 1 (h:=ZaT (h:=Zc rfl (fun g1=>?_) (fun g1=>?_)))))))))))))
 try simp only [sQ,ne_eq] at g1
 refine Za (xA (h:=Zh (Zq ?_)))
 exact ZE .ret (.inl rfl) [_] t1 ⟨Zi (by symm;rw [decide_eq_false_iff_not];rintro rfl;exact g1 rfl),rfl,rfl⟩
 try simp only [sQ,ne_eq] at g1
 refine Zf (Zd (Ze (Za (xW ZaV (h:=x1 ZgP 0 (h:=xW ZaV (h:=x1 ZgP 1 (h:=xR Zw6 rfl (ZpA _ _ _ _ _ _ _ h1 h2) (h:=xN (h:=Zc rfl (fun g2=>?_) (fun g2=>?_)))))))))))
 try simp only [sQ,ne_eq] at g2
 refine Za (xA (h:=Zh (Zq ?_)))
 exact ZE .ret (.inl rfl) [_] t1 ⟨Zi (by symm;rw [decide_eq_false_iff_not];rintro rfl;exact g2 rfl),rfl,rfl⟩
 try simp only [sQ,ne_eq] at g2
 refine Zf (Zd (Za (xA (h:=Zh ?_))))
 exact ZE .ret (.inl rfl) [_] t1 ⟨Zi (by symm;rw [decide_eq_true_eq];cases a;cases b;simp_all),rfl,rfl⟩

set_option maxHeartbeats 400000 in
theorem Zs5 (q1:Option Addr) (cp1:Nat) (q2:Option Addr) (cp2:Nat) (a b:DBox) (B:Kn) (h1:SlK B q1 cp1 3 Z3 a.mail) (h2:SlK B q2 cp2 3 Z3 b.mail):Zag (pj J) 161 [.agg #[.int .i64 a.next,.slice q1 a.mail.length cp1],.agg #[.int .i64 b.next,.slice q2 b.mail.length cp2]] B (.bool (decide (a=b))):=by
 refine Zb 16 Tryz.func161 rfl rfl rfl (Nat.le_of_ble_eq_true rfl) ?_
 refine Za (xBx [_,_] (h:=fun b1=>xBx [_,_] (h:=fun b2=>xA (h:=ZB [_,_] rfl (Ze (Za (xW ZcG (h:=x1 lk3 0 (h:=xW ZcG (h:=x1 lk3 1 (h:=ZaT (h:=Zc rfl (fun g1=>?_) (fun g1=>?_)))))))))))))
 try simp only [sQ,ne_eq] at g1
 refine Za (xA (h:=Zh (Zq ?_)))
 exact ZE .ret (.inl rfl) [_] t1 ⟨Zi (by symm;rw [decide_eq_false_iff_not];rintro rfl;exact g1 rfl),rfl,rfl⟩
 try simp only [sQ,ne_eq] at g1
 refine Zf (Zd (Ze (Za (xW Zbu (h:=x1 Zir 0 (h:=xW Zbu (h:=x1 Zir 1 (h:=xR Zwa rfl (Zpz _ _ _ _ _ _ _ h1 h2) (h:=xN (h:=Zc rfl (fun g2=>?_) (fun g2=>?_)))))))))))
 try simp only [sQ,ne_eq] at g2
 refine Za (xA (h:=Zh (Zq ?_)))
 exact ZE .ret (.inl rfl) [_] t1 ⟨Zi (by symm;rw [decide_eq_false_iff_not];rintro rfl;exact g2 rfl),rfl,rfl⟩
 try simp only [sQ,ne_eq] at g2
 refine Zf (Zd (Za (xA (h:=Zh ?_))))
 exact ZE .ret (.inl rfl) [_] t1 ⟨Zi (by symm;rw [decide_eq_true_eq];cases a;cases b;simp_all),rfl,rfl⟩

set_option maxHeartbeats 400000 in
theorem Znq (qa1 qb1:Option Addr) (ca1 cb1:Nat) (qa2 qb2:Option Addr) (ca2 cb2:Nat) (a b:DFolder) (B:Kn) (hg1:SlK B qa1 ca1 2 Z5 a.grants) (hm1:SlK B qb1 cb1 3 Z3 a.mail) (hg2:SlK B qa2 ca2 2 Z5 b.grants) (hm2:SlK B qb2 cb2 3 Z3 b.mail):Zag (pj J) 106 [.agg #[str a.owner,str a.name,.slice qa1 a.grants.length ca1,.int .i64 a.next,.slice qb1 a.mail.length cb1],.agg #[str b.owner,str b.name,.slice qa2 b.grants.length ca2,.int .i64 b.next,.slice qb2 b.mail.length cb2]] B (.bool (decide (a=b))):=by
 refine Zb 27 Tryz.func106 rfl rfl rfl (Nat.le_of_ble_eq_true rfl) ?_
 refine Za (xBx [_,_,_,_,_] (h:=fun b1=>xBx [_,_,_,_,_] (h:=fun b2=>xA (h:=ZB [_,_] rfl (Ze (Za (xW Zca (h:=x1 lk9 0 (h:=xW Zca (h:=x1 lk9 1 (h:=Zek (h:=Zc rfl (fun g1=>?_) (fun g1=>?_)))))))))))))
 try simp only [sQ,ne_eq] at g1
 refine Za (xA (h:=Zh (Zq ?_)))
 exact ZE .ret (.inl rfl) [_] t1 ⟨Zi (by symm;rw [decide_eq_false_iff_not];rintro rfl;exact g1 rfl),rfl,rfl⟩
 try simp only [sQ,ne_eq] at g1
 refine Zf (Zd (Ze (Za (xW ZdF (h:=x1 lk9 0 (h:=xW ZdF (h:=x1 lk9 1 (h:=Zek (h:=Zc rfl (fun g2=>?_) (fun g2=>?_))))))))))
 try simp only [sQ,ne_eq] at g2
 refine Za (xA (h:=Zh (Zq ?_)))
 exact ZE .ret (.inl rfl) [_] t1 ⟨Zi (by symm;rw [decide_eq_false_iff_not];rintro rfl;exact g2 rfl),rfl,rfl⟩
 try simp only [sQ,ne_eq] at g2
 refine Zf (Zd (Ze (Za (xW ZeC (h:=x1 ZrJ 0 (h:=xW ZeC (h:=x1 ZrJ 1 (h:=xR Zwz rfl (Znp _ _ _ _ _ _ _ hg1 hg2) (h:=xN (h:=Zc rfl (fun g3=>?_) (fun g3=>?_)))))))))))
 try simp only [sQ,ne_eq] at g3
 refine Za (xA (h:=Zh (Zq ?_)))
 exact ZE .ret (.inl rfl) [_] t1 ⟨Zi (by symm;rw [decide_eq_false_iff_not];rintro rfl;exact g3 rfl),rfl,rfl⟩
 try simp only [sQ,ne_eq] at g3
 refine Zf (Zd (Ze (Za (xW Zb9 (h:=xL [_,_] Zfs 0 (h:=xW Zb9 (h:=xL [_,_] Zfs 1 (h:=xR Zwy rfl (Zs5 _ _ _ _ (⟨a.next,a.mail⟩:DBox) (⟨b.next,b.mail⟩:DBox) _ hm1 hm2) (h:=xN (h:=Zc rfl (fun g4=>?_) (fun g4=>?_)))))))))))
 try simp only [sQ,ne_eq] at g4
 refine Za (xA (h:=Zh (Zq ?_)))
 exact ZE .ret (.inl rfl) [_] t1 ⟨Zi (by symm;rw [decide_eq_false_iff_not];rintro rfl;exact g4 rfl),rfl,rfl⟩
 try simp only [sQ,ne_eq] at g4
 refine Zf (Zd (Za (xA (h:=Zh ?_))))
 exact ZE .ret (.inl rfl) [_] t1 ⟨Zi (by symm;rw [decide_eq_true_eq];cases a;cases b;simp_all),rfl,rfl⟩

set_option maxHeartbeats 400000 in
theorem ZlE (q q':Option Addr) (cp cp':Nat) (xs ys:List DFolder) (B:Kn) (ha:SlK B q cp 5 Zk xs) (hb:SlK B q' cp' 5 Zk ys):Zag (pj J) 47 [.slice q xs.length cp,.slice q' ys.length cp'] B (.bool (decide (xs=ys))):=by
 refine Zb 27 Tryz.func47 rfl rfl rfl (Nat.le_of_ble_eq_true rfl) ?_
 have han:=ha.len
 have hbn:=hb.len
 refine Za (xA (h:=Ze (Za (xM (h:=xV Tryz.underlying31 (h:=xM (h:=xV Tryz.underlying31 (h:=ZaT (h:=Zc rfl (fun g1=>?_) (fun g1=>?_))))))))))
 try simp only [sQ,ne_eq] at g1
 refine Za (xA (h:=Zh (Zq ?_)))
 exact ZE .ret (.inl rfl) [_] t1 ⟨Zi (Zgt g1),rfl,rfl⟩
 try simp only [sQ,ne_eq] at g1
 refine Zf (Zd (Ze (Za (xA (h:=Zl (ZA (α:=Nat) [0,1,10] (fun k=>[(5,.int .i64 k)]) [] (fun k=>[]) (fun k Bx=>Bx=B∧k≤xs.length∧xs.take k=ys.take k) (fun k=>xs.length - k) 0 t1 rfl (⟨rfl,Nat.zero_le _,by simp⟩) (fun k B1 hle1 hI=>?_)))))))
 obtain ⟨rfl,hk,he⟩:=hI
 refine ZG [(0,_),(1,_),(5,_),(10,_)] [] t4 rfl (Ze (Za (xM (h:=xM (h:=xV Tryz.underlying31 (h:=ZI (h:=Zc rfl (fun g2=>?_) (fun g2=>?_))))))))
 try simp only [sQ,ne_eq] at g2
 refine Zf (Zd (Ze (Zl (Ze (Zaa (same _ _) mo kr ⟨rfl,rfl⟩ (fun _ _=>?_))))))
 refine aM 0 rfl (h:=aM 1 rfl (h:=?_))
 obtain ⟨x,hx⟩:=ZZ (xs:=xs) (i:=k) om
 obtain ⟨bb3,oo3,rfl⟩:=ha.base hx
 obtain ⟨_,⟨qg4,cg4,qm4,cm4,rfl,hg4,hm4,hb4,hb4b⟩,hc4⟩:=ha.elem hx
 have hg4n:=hg4.len
 have hm4n:=hm4.len
 have hm4s:=Zay hm4
 refine aIx 2 rfl Tryz.underlying31 Zcb (h:=aT 3 rfl (Zam fun D=>Zab [_,_,_,_,_] rfl rfl Ziq rfl (Zl7 hc4 0 rfl rfl) r4) (h:=aM 4 rfl (h:=aM 5 rfl (h:=?_))))
 obtain ⟨y,hy⟩:=ZZ (xs:=ys) (i:=k) om
 obtain ⟨bb6,oo6,rfl⟩:=hb.base hy
 obtain ⟨_,⟨qg7,cg7,qm7,cm7,rfl,hg7,hm7,hb7,hb7b⟩,hc7⟩:=hb.elem hy
 have hg7n:=hg7.len
 have hm7n:=hm7.len
 have hm7s:=Zay hm7
 refine aIx 6 rfl Tryz.underlying31 Zcb (h:=aT 7 rfl (Zam fun D=>Zab [_,_,_,_,_] rfl rfl Ziq rfl (Zl7 hc7 0 rfl rfl) r4) (h:=aT 8 rfl (Zam fun D=>Zak rfl rfl Zw7 rfl (Znq _ _ _ _ _ _ _ _ x y _ hg4 hm4 hg7 hm7) r4) (h:=aN 9 rfl (h:=ZC kr kr ?_))))
 refine Zd (Zc rfl (fun g3=>?_) (fun g3=>?_))
 try simp only [sQ,ne_eq] at g3
 refine Za (xA (h:=Zh (ZD (Zq (ZS (ZD (Zq ?_)))))))
 exact ZE .ret (.inl rfl) [_] t1 ⟨Zi (ZeT hx hy g3),rfl,rfl⟩
 try simp only [sQ,ne_eq] at g3
 refine Zf (ZT (Zd (Zg (xM (h:=xD (h:=xA (h:=?_)))))))
 exact ZF (k+1) [] so2 ⟨rfl,oz,ZbS hx hy g3 he⟩ t4 rfl
 try simp only [sQ,ne_eq] at g2
 refine ZH (Z0 (ZJ (Zw (Zd (Za (xA (h:=Zh ?_)))))))
 exact ZE .ret (.inl rfl) [_] t1 ⟨Zi (eqT oz oz he),rfl,rfl⟩

set_option maxHeartbeats 400000 in
theorem ZgY (qa1 qb1 qc1:Option Addr) (ca1 cb1 cc1:Nat) (qa2 qb2 qc2:Option Addr) (ca2 cb2 cc2:Nat) (a b:DHost) (B:Kn) (hu1:SlK B qa1 ca1 3 Zm a.users) (hf1:SlK B qb1 cb1 5 Zk a.folders) (hi1:SlK B qc1 cc1 4 Zs a.queue.items) (hu2:SlK B qa2 ca2 3 Zm b.users) (hf2:SlK B qb2 cb2 5 Zk b.folders) (hi2:SlK B qc2 cc2 4 Zs b.queue.items):Zag (pj J) 12 [.agg #[str a.domain,.slice qa1 a.users.length ca1,.slice qb1 a.folders.length cb1,.int .i64 a.queue.next,.slice qc1 a.queue.items.length cc1],.agg #[str b.domain,.slice qa2 b.users.length ca2,.slice qb2 b.folders.length cb2,.int .i64 b.queue.next,.slice qc2 b.queue.items.length cc2]] B (.bool (decide (a=b))):=by
 refine Zb 28 Tryz.func12 rfl rfl rfl (Nat.le_of_ble_eq_true rfl) ?_
 refine Za (xBx [_,_,_,_,_] (h:=fun b1=>xBx [_,_,_,_,_] (h:=fun b2=>xA (h:=ZB [_,_] rfl (Ze (Za (xW ZhG (h:=x1 lk9 0 (h:=xW ZhG (h:=x1 lk9 1 (h:=Zek (h:=Zc rfl (fun g1=>?_) (fun g1=>?_)))))))))))))
 try simp only [sQ,ne_eq] at g1
 refine Za (xA (h:=Zh (Zq ?_)))
 exact ZE .ret (.inl rfl) [_] t1 ⟨Zi (by symm;rw [decide_eq_false_iff_not];rintro rfl;exact g1 rfl),rfl,rfl⟩
 try simp only [sQ,ne_eq] at g1
 refine Zf (Zd (Ze (Za (xW ZbK (h:=x1 Zis 0 (h:=xW ZbK (h:=x1 Zis 1 (h:=xR Zyi rfl (Zpx _ _ _ _ _ _ _ hu1 hu2) (h:=xN (h:=Zc rfl (fun g2=>?_) (fun g2=>?_)))))))))))
 try simp only [sQ,ne_eq] at g2
 refine Za (xA (h:=Zh (Zq ?_)))
 exact ZE .ret (.inl rfl) [_] t1 ⟨Zi (by symm;rw [decide_eq_false_iff_not];rintro rfl;exact g2 rfl),rfl,rfl⟩
 try simp only [sQ,ne_eq] at g2
 refine Zf (Zd (Ze (Za (xW ZaI (h:=x1 ZfF 0 (h:=xW ZaI (h:=x1 ZfF 1 (h:=xR Zyh rfl (ZlE _ _ _ _ _ _ _ hf1 hf2) (h:=xN (h:=Zc rfl (fun g3=>?_) (fun g3=>?_)))))))))))
 try simp only [sQ,ne_eq] at g3
 refine Za (xA (h:=Zh (Zq ?_)))
 exact ZE .ret (.inl rfl) [_] t1 ⟨Zi (by symm;rw [decide_eq_false_iff_not];rintro rfl;exact g3 rfl),rfl,rfl⟩
 try simp only [sQ,ne_eq] at g3
 refine Zf (Zd (Ze (Za (xW ZbE (h:=xL [_,_] Zed 0 (h:=xW ZbE (h:=xL [_,_] Zed 1 (h:=xR Zyg rfl (Zpy _ _ _ _ a.queue b.queue _ hi1 hi2) (h:=xN (h:=Zc rfl (fun g4=>?_) (fun g4=>?_)))))))))))
 try simp only [sQ,ne_eq] at g4
 refine Za (xA (h:=Zh (Zq ?_)))
 exact ZE .ret (.inl rfl) [_] t1 ⟨Zi (by symm;rw [decide_eq_false_iff_not];rintro rfl;exact g4 rfl),rfl,rfl⟩
 try simp only [sQ,ne_eq] at g4
 refine Zf (Zd (Za (xA (h:=Zh ?_))))
 exact ZE .ret (.inl rfl) [_] t1 ⟨Zi (by symm;rw [decide_eq_true_eq];cases a;cases b;simp_all),rfl,rfl⟩

set_option maxHeartbeats 400000 in
theorem Zgu (q:Option Addr) (cp:Nat) (x:DBox) (B:Kn) (hm:SlK B q cp 3 Z3 x.mail):Zx (pj J) 168 [.agg #[.int .i64 x.next,.slice q x.mail.length cp]] B [] (fun v B' Ls=>B'=B∧∃l a c,Ls=[l]∧v = .agg #[.int .i64 x.next,.slice a x.mail.length c]∧ZW B l a c 205 3 Z3 x.mail):=by
 refine Zb 10 Tryz.func168 rfl rfl rfl (Nat.le_of_ble_eq_true rfl) ?_
 have hxn:=hm.len
 refine Za (xBx [_,_] (h:=fun b1=>xAl [_,_] ZnI (h:=fun b2=>ZB [_,_] rfl (Ze (Zaa (keeps _ [0] _) mo kr ⟨Kn.le.refl _,ZbD.refl _ _⟩ (fun _ _=>?_))))))
 refine aW 0 rfl ZcG (h:=aT 1 rfl (Z6 fun D B L hI=>Zr rfl rfl lk3 rfl (atL 0 (hI.2.1.trans rfl) rfl rfl) r4) (h:=aW 3 rfl Zbu (h:=aT 4 rfl (Z6 fun D B L hI=>Zr rfl rfl Zir rfl (atL 0 (hI.2.1.trans rfl) rfl rfl) r4) (h:=ZL 2 kr rfl kr (ZK (parts:=[]) [] rfl rfl Tryz.underlying71 Zcx Zga rfl rfl rfl rfl rfl (fun b3=>?_))))))
 refine ⟨⟨Kn.le.refl _,t1⟩,(ZL 5 kr rfl kr (ZbY (R:=Z3) 2 rfl (ZW.lit0 (R:=Z3)) rfl rfl rfl Ztr Zu5 rfl rfl rfl hm.rows Z3.one rfl om (fun l4 p4 c4 hv4=>?_)))⟩
 refine ⟨⟨Kn.le.refl _,t1⟩,(aT 6 rfl (Z6 fun D B L hI=>ZaB (parts:=[(0,_),(1,_)]) [_,_] [_,_] rfl rfl Zxk ZnI rfl rfl rfl r4) (h:=Zat 7 kr rfl kr kr kr (Z4 [_,_] 1 [_,_] rfl rfl ZjO rfl rfl rfl rfl rfl rfl rfl rfl ?_)))⟩
 refine Zd (ZB [_,_,_] rfl (Zh ?_))
 exact ZaW .ret (.inl rfl) [_] [2] rfl ⟨⟨_,rfl,.inr ⟨[_,_],Zfs,ZbH 1 rfl rfl rfl,rfl⟩⟩,trivial⟩ ⟨rfl,_,_,_,rfl,rfl,hv4⟩

set_option maxHeartbeats 400000 in
theorem Zjf (qa qb:Option Addr) (ca cb:Nat) (x:DFolder) (B:Kn) (hg:SlK B qa ca 2 Z5 x.grants) (hm:SlK B qb cb 3 Z3 x.mail):Zx (pj J) 190 [.agg #[str x.owner,str x.name,.slice qa x.grants.length ca,.int .i64 x.next,.slice qb x.mail.length cb]] B [] (fun v B' Ls=>B'=B∧∃l a c l' a' c',Ls=[l,l']∧v = .agg #[str x.owner,str x.name,.slice a x.grants.length c,.int .i64 x.next,.slice a' x.mail.length c']∧ZW B l a c 133 2 Z5 x.grants∧ZW B l' a' c' 205 3 Z3 x.mail):=by
 refine Zb 13 Tryz.func190 rfl rfl rfl (Nat.le_of_ble_eq_true rfl) ?_
 have hgn:=hg.len
 have hmn:=hm.len
 refine Za (xBx [_,_,_,_,_] (h:=fun b1=>xAl [_,_,_,_,_] Zf9 (h:=fun b2=>ZB [_,_] rfl (Za (xBs [] [] Tryz.underlying68 Zer ZmB (h:=fun b3=>xW ZeC (h:=x1 ZrJ 0 (h:=Zp (ZbY (R:=Z5) 2 rfl (ZW.lit0 (R:=Z5)) rfl rfl rfl ZvQ Zxi rfl rfl rfl hg.rows Z5.one rfl om (fun l4 p4 c4 hv4=>?_))))))))))
 refine xW ZeC (h:=xS [_] 0 [_,_,_,_,_] ZvD (h:=ZB [_,_,_] rfl (Za (xW Zb9 (h:=xL [_,_] Zfs 0 (h:=Zp (ZX rfl rfl Zta rfl (Zgu _ _ (⟨x.next,x.mail⟩:DBox) _ hm) ?_)))))))
 rintro _ B5 _ hle5 ⟨rfl,l5,a5,c5,rfl,rfl,hs5⟩
 refine xW Zb9 (h:=xS [_,_] 0 [_,_,_,_,_] ZjO (h:=ZB [_,_,_,_] rfl (Za (xL [_,_,_,_,_] Ziq 0 (h:=xS [_,_,_,_,_] 1 [_,_,_,_,_] Zcb (h:=ZB [_,_,_,_] rfl (Zh ?_)))))))
 exact ZaW .ret (.inl rfl) [_] [2,3] rfl ⟨⟨_,rfl,.inr ⟨[_,_,_,_,_],Ziq,ZbH 1 rfl rfl rfl,rfl⟩⟩,trivial⟩ ⟨rfl,_,_,_,_,_,_,rfl,rfl,hv4,hs5⟩

set_option maxHeartbeats 400000 in
theorem Zae (k:Nat) (hk:k≤1000000000000000) (B:Kn):Zag (pj J) 108 [.int .i64 k] B (str (ZU k)):=by
 refine Zb 20 Tryz.func108 rfl rfl rfl (Nat.le_of_ble_eq_true rfl) ?_
 refine Za (xA (h:=Ze (Za (xM (h:=Zce (h:=Zc rfl (fun g1=>?_) (fun g1=>?_)))))))
 try simp only [sQ,ne_eq] at g1
 refine Za (xA (h:=Zh (Zq ?_)))
 exact ZE .ret (.inl rfl) [_] t1 ⟨ZrF (by rw [ZU,if_pos oz]),rfl,rfl⟩
 try simp only [sQ,ne_eq] at g1
 refine Zf (Zd (Za (xA (h:=Ze (Zl (ZA (α:=Nat × Str) [2,5] (fun g=>[(0,.int .i64 g.1),(3,str g.2)]) [] (fun g=>[]) (fun g Bx=>Bx=B∧g.1≤k∧digs k=digs g.1 ++ g.2) (fun g=>g.1) (k,[]) t2 rfl (⟨rfl,Nat.le_refl _,by simp⟩) (fun g B1 hle1 hI=>?_)))))))
 obtain ⟨rfl,hl,hs⟩:=hI
 have hgl:=Ztf hk hs
 refine ZG [(0,_),(2,_),(3,_),(5,_)] [] t4 rfl (Ze (Za (xM (h:=Zdb (h:=Zc rfl (fun g2=>?_) (fun g2=>?_))))))
 try simp only [sQ,ne_eq] at g2
 refine Zf (Zd (Zl (Za (xM (h:=Zp (Zvq (a:=(g.1:Int)) (b:=10) (r:=((g.1 % 10:Nat):Int)) rfl rfl rfl rfl (by decide) rfl ?_))))))
 refine xD (h:=Zp (Zr5 rfl rfl Tryz.underlying3 Tryz.underlying5 rfl (by first | exact Zcq om om | rfl) ?_))
 refine xBs [(0,_)] [_] Tryz.underlying203 sz5 zo5 (h:=fun b2=>Zp (ZnV rfl rfl Tryz.underlying203 Tryz.underlying9 Tryz.underlying5 rfl (ZbG.box 0 rfl) (xM (h:=Zp (ZtP (a:=dig g.1) (b:=g.2) rfl rfl rfl rfl (by simp [dig];omega) ?_)))))
 refine xA (h:=ZB [_] rfl (Zg (xM (h:=Zp (ZtB (a:=(g.1:Int)) (b:=10) (r:=((g.1 / 10:Nat):Int)) rfl rfl rfl rfl (by decide) (by rw [show Int.tdiv (g.1:Int) 10=((g.1 / 10:Nat):Int) from rfl];exact Zcq oz oz) ?_)))))
 refine xA (h:=ZT ?_)
 exact ZF (g.1 / 10,dig g.1 ++ g.2) [] so2 ⟨rfl,so,ZpI hs oz⟩ t4 rfl
 try simp only [sQ,ne_eq] at g2
 refine ZH (Z0 (ZJ (Zw (Zd (Za (xM (h:=Zp (ZtP rfl rfl rfl rfl (by first | omega | (simp;omega)) ?_))))))))
 refine xA (h:=Zh ?_)
 exact ZE .ret (.inl rfl) [_] t1 ⟨ZrF (by rw [ZU,if_neg oz,hs,show g.1=0 from by omega,Zkw];rfl),rfl,rfl⟩

set_option maxHeartbeats 400000 in
theorem Zld (q:Option Addr) (cp:Nat) (xs:List DMail) (l:Cells) (k:Nat) (hk:k≤900000000000000) (hn:xs.length≤2000000) (B:Kn) (hv:ZW B l q cp 205 3 Z3 xs):Zx (pj J) 110 [.slice q xs.length cp,.int .i64 k] B [l] (fun v B' Ls=>B'=B∧∃l',Ls=[l']∧v = .int .i64 ((k+3*xs.length:Nat):Int)∧ZW B l' q cp 205 3 Z3 (ZbQ k xs.length)):=by
 refine Zb 35 Tryz.func110 rfl rfl rfl (Nat.le_of_ble_eq_true rfl) ?_
 have hvc:=hv.cap
 refine Za (xA (h:=Ze (Za (xA (h:=Zl (ZA (α:=Nat × Cells × List DMail) [4] (fun g=>[(0,.slice q xs.length cp),(1,.int .i64 ((k+3*g.1:Nat):Int)),(5,.int .i64 g.1)]) [0] (fun g=>[g.2.1]) (fun g Bx=>Bx=B∧g.1≤xs.length∧g.2.2.length=xs.length∧g.2.2.take g.1=ZbQ k g.1∧ZW Bx g.2.1 q cp 205 3 Z3 g.2.2) (fun g=>xs.length - g.1) (0,l,xs) t3 rfl (⟨rfl,Nat.zero_le _,rfl,rfl,hv⟩) (fun g B1 hle1 hI=>?_)))))))
 obtain ⟨rfl,hi,hle,ht,hw⟩:=hI
 refine ZG [(0,_),(1,_),(4,_),(5,_)] [_] t4 rfl (Ze (Za (xM (h:=xM (h:=xV Tryz.underlying71 (h:=ZI (h:=Zc rfl (fun g1=>?_) (fun g1=>?_))))))))
 try simp only [sQ,ne_eq] at g1
 refine Zf (Zd (Ze (Zl (Za (xM (h:=xM (h:=xM (h:=?_))))))))
 obtain ⟨z1,hz1⟩:=ZZ (xs:=g.2.2) (i:=g.1) om
 obtain ⟨bb3,_,hp3,⟨rfl,hb3⟩,hw3,hc3⟩:=hw.row hz1
 refine xIp hp3 Tryz.underlying71 Zcx (h:=xW ZcB (h:=Zp (ZgM (k:=g.1) (off:=0) (⟨((k+3*g.1:Nat):Int),z1.flags,z1.text⟩) [_] 0 hw hp3 hz1 rfl rfl sz3 rfl rfl rfl rfl rfl rfl (by rintro _ ⟨rfl,e1⟩;exact ⟨rfl,e1⟩) (fun l4 hv4=>?_))))
 refine ZB [_] rfl (Za (xM (h:=xD (h:=xA (h:=Za (xM (h:=xM (h:=xM (h:=?_)))))))))
 obtain ⟨z2,hz2⟩:=ZZ (xs:=(g.2.2.set g.1 (⟨((k+3*g.1:Nat):Int),z1.flags,z1.text⟩))) (i:=g.1) om
 obtain ⟨bb6,_,hp6,⟨rfl,hb6⟩,hw6,hc6⟩:=hv4.row hz2
 refine xIp hp6 Tryz.underlying71 Zcx (h:=xW Zfw (h:=Zp (ZgM (k:=g.1) (off:=1) (⟨z2.uid,((k+3*g.1+1:Nat):Int),z2.text⟩) [_] 0 hv4 hp6 hz2 rfl rfl sz3 rfl rfl rfl rfl rfl rfl (by rintro _ ⟨rfl,e1⟩;exact ⟨rfl,e1⟩) (fun l7 hv7=>?_))))
 refine ZB [_] rfl (Za (xM (h:=xD (h:=xA (h:=Za (xM (h:=xM (h:=xM (h:=xR Zej rfl (Zae (((k+3*g.1)+1)+1) oz _) (h:=?_))))))))))
 obtain ⟨z3,hz3⟩:=ZZ (xs:=((g.2.2.set g.1 (⟨((k+3*g.1:Nat):Int),z1.flags,z1.text⟩)).set g.1 (⟨z2.uid,((k+3*g.1+1:Nat):Int),z2.text⟩))) (i:=g.1) om
 obtain ⟨bb10,_,hp10,⟨rfl,hb10⟩,hw10,hc10⟩:=hv7.row hz3
 refine xIp hp10 Tryz.underlying71 Zcx (h:=xW Zd3 (h:=Zp (ZgM (k:=g.1) (off:=2) (⟨z3.uid,z3.flags,ZU (k+3*g.1+1+1)⟩) [_] 0 hv7 hp10 hz3 rfl rfl sz9 rfl rfl rfl rfl rfl rfl (by rintro _ ⟨rfl,e1⟩;exact ⟨rfl,show (ZU (k+3*g.1+1+1)).length≤2000000 from Nat.le_trans (Zb2 (k:=k+3*g.1+1+1) oz) (by decide)⟩) (fun l11 hv11=>?_))))
 refine ZB [_] rfl (Zg (xM (h:=xD (h:=xA (h:=ZT (Zd (Zg (xM (h:=xD (h:=xA (h:=?_)))))))))))
 exact ZF (g.1+1,l11,(((g.2.2.set g.1 (⟨((k+3*g.1:Nat):Int),z1.flags,z1.text⟩)).set g.1 (⟨z2.uid,((k+3*g.1+1:Nat):Int),z2.text⟩)).set g.1 (⟨z3.uid,z3.flags,ZU (k+3*g.1+1+1)⟩))) [0] so2 ⟨rfl,so,by simp only [List.length_set];exact hle,Zj3 ht hz1 hz2 hz3,hv11⟩ t4 rfl
 try simp only [sQ,ne_eq] at g1
 have he:=Zmg ht oz
 have hgi:g.1=xs.length:=by omega
 rw [hgi] at he
 refine ZH (Z0 (ZJ (Zw (Zd (Za (xM (h:=xA (h:=Zh ?_))))))))
 exact ZaW .ret (.inl rfl) [_] [0] rfl t1 ⟨rfl,_,rfl,by rw [hgi];rfl,by rw [← he];exact hw⟩

set_option maxHeartbeats 400000 in
theorem Zj7 (q:Option Addr) (cp:Nat) (xs:List DGrant) (l:Cells) (k:Nat) (hk:k≤900000000000000) (hn:xs.length≤2000000) (B:Kn) (hv:ZW B l q cp 133 2 Z5 xs):Zx (pj J) 109 [.slice q xs.length cp,.int .i64 k] B [l] (fun v B' Ls=>B'=B∧∃l',Ls=[l']∧v = .int .i64 ((k+2*xs.length:Nat):Int)∧ZW B l' q cp 133 2 Z5 (Zaz k xs.length)):=by
 refine Zb 28 Tryz.func109 rfl rfl rfl (Nat.le_of_ble_eq_true rfl) ?_
 have hvc:=hv.cap
 refine Za (xA (h:=Ze (Za (xA (h:=Zl (ZA (α:=Nat × Cells × List DGrant) [4] (fun g=>[(0,.slice q xs.length cp),(1,.int .i64 ((k+2*g.1:Nat):Int)),(5,.int .i64 g.1)]) [0] (fun g=>[g.2.1]) (fun g Bx=>Bx=B∧g.1≤xs.length∧g.2.2.length=xs.length∧g.2.2.take g.1=Zaz k g.1∧ZW Bx g.2.1 q cp 133 2 Z5 g.2.2) (fun g=>xs.length - g.1) (0,l,xs) t3 rfl (⟨rfl,Nat.zero_le _,rfl,rfl,hv⟩) (fun g B1 hle1 hI=>?_)))))))
 obtain ⟨rfl,hi,hle,ht,hw⟩:=hI
 refine ZG [(0,_),(1,_),(4,_),(5,_)] [_] t4 rfl (Ze (Za (xM (h:=xM (h:=xV Tryz.underlying68 (h:=ZI (h:=Zc rfl (fun g1=>?_) (fun g1=>?_))))))))
 try simp only [sQ,ne_eq] at g1
 refine Zf (Zd (Ze (Zl (Za (xM (h:=xM (h:=xM (h:=xR Zej rfl (Zae (k+2*g.1) oz _) (h:=?_)))))))))
 obtain ⟨z1,hz1⟩:=ZZ (xs:=g.2.2) (i:=g.1) om
 obtain ⟨bb4,_,hp4,⟨rfl,hb4⟩,hw4,hc4⟩:=hw.row hz1
 refine xIp hp4 Tryz.underlying68 Zer (h:=xW ZcC (h:=Zp (ZgM (k:=g.1) (off:=0) (⟨ZU (k+2*g.1),z1.rights⟩) [_] 0 hw hp4 hz1 rfl rfl sz9 rfl rfl rfl rfl rfl rfl (by rintro _ ⟨rfl,e1⟩;exact ⟨rfl,show (ZU (k+2*g.1)).length≤2000000 from Nat.le_trans (Zb2 (k:=k+2*g.1) oz) (by decide)⟩) (fun l5 hv5=>?_))))
 refine ZB [_] rfl (Za (xM (h:=xD (h:=xA (h:=Za (xM (h:=xM (h:=xM (h:=?_)))))))))
 obtain ⟨z2,hz2⟩:=ZZ (xs:=(g.2.2.set g.1 (⟨ZU (k+2*g.1),z1.rights⟩))) (i:=g.1) om
 obtain ⟨bb7,_,hp7,⟨rfl,hb7⟩,hw7,hc7⟩:=hv5.row hz2
 refine xIp hp7 Tryz.underlying68 Zer (h:=xW Zd4 (h:=Zp (ZgM (k:=g.1) (off:=1) (⟨z2.user,((k+2*g.1+1:Nat):Int)⟩) [_] 0 hv5 hp7 hz2 rfl rfl sz3 rfl rfl rfl rfl rfl rfl (by rintro _ ⟨rfl,e1⟩;exact ⟨rfl,e1⟩) (fun l8 hv8=>?_))))
 refine ZB [_] rfl (Zg (xM (h:=xD (h:=xA (h:=ZT (Zd (Zg (xM (h:=xD (h:=xA (h:=?_)))))))))))
 exact ZF (g.1+1,l8,((g.2.2.set g.1 (⟨ZU (k+2*g.1),z1.rights⟩)).set g.1 (⟨z2.user,((k+2*g.1+1:Nat):Int)⟩))) [0] so2 ⟨rfl,so,by simp only [List.length_set];exact hle,ZiZ ht hz1 hz2,hv8⟩ t4 rfl
 try simp only [sQ,ne_eq] at g1
 have he:=Zmg ht oz
 have hgi:g.1=xs.length:=by omega
 rw [hgi] at he
 refine ZH (Z0 (ZJ (Zw (Zd (Za (xM (h:=xA (h:=Zh ?_))))))))
 exact ZaW .ret (.inl rfl) [_] [0] rfl t1 ⟨rfl,_,rfl,by rw [hgi];rfl,by rw [← he];exact hw⟩

set_option maxHeartbeats 400000 in
theorem Zlb (q:Option Addr) (cp:Nat) (xs:List DUser) (l:Cells) (k:Nat) (hk:k≤900000000000000) (hn:xs.length≤2000000) (B:Kn) (hv:ZW B l q cp 123 3 Zm xs):Zx (pj J) 49 [.slice q xs.length cp,.int .i64 k] B [l] (fun v B' Ls=>B'=B∧∃l',Ls=[l']∧v = .int .i64 ((k+3*xs.length:Nat):Int)∧ZW B l' q cp 123 3 Zm (Zck k xs.length)):=by
 refine Zb 36 Tryz.func49 rfl rfl rfl (Nat.le_of_ble_eq_true rfl) ?_
 have hvc:=hv.cap
 refine Za (xA (h:=Ze (Za (xA (h:=Zl (ZA (α:=Nat × Cells × List DUser) [4] (fun g=>[(0,.slice q xs.length cp),(1,.int .i64 ((k+3*g.1:Nat):Int)),(5,.int .i64 g.1)]) [0] (fun g=>[g.2.1]) (fun g Bx=>Bx=B∧g.1≤xs.length∧g.2.2.length=xs.length∧g.2.2.take g.1=Zck k g.1∧ZW Bx g.2.1 q cp 123 3 Zm g.2.2) (fun g=>xs.length - g.1) (0,l,xs) t3 rfl (⟨rfl,Nat.zero_le _,rfl,rfl,hv⟩) (fun g B1 hle1 hI=>?_)))))))
 obtain ⟨rfl,hi,hle,ht,hw⟩:=hI
 refine ZG [(0,_),(1,_),(4,_),(5,_)] [_] t4 rfl (Ze (Za (xM (h:=xM (h:=xV Tryz.underlying30 (h:=ZI (h:=Zc rfl (fun g1=>?_) (fun g1=>?_))))))))
 try simp only [sQ,ne_eq] at g1
 refine Zf (Zd (Ze (Zl (Za (xM (h:=xM (h:=xM (h:=xR Zej rfl (Zae (k+3*g.1) oz _) (h:=?_)))))))))
 obtain ⟨z1,hz1⟩:=ZZ (xs:=g.2.2) (i:=g.1) om
 obtain ⟨bb4,_,hp4,⟨rfl,hb4,hb4b⟩,hw4,hc4⟩:=hw.row hz1
 refine xIp hp4 Tryz.underlying30 Zbe (h:=xW Za5 (h:=Zp (ZgM (k:=g.1) (off:=0) (⟨ZU (k+3*g.1),z1.pass,z1.quota⟩) [_] 0 hw hp4 hz1 rfl rfl sz9 rfl rfl rfl rfl rfl rfl (by rintro _ ⟨rfl,e1,e2⟩;exact ⟨rfl,show (ZU (k+3*g.1)).length≤2000000 from Nat.le_trans (Zb2 (k:=k+3*g.1) oz) (by decide),e2⟩) (fun l5 hv5=>?_))))
 refine ZB [_] rfl (Za (xM (h:=xD (h:=xA (h:=Za (xM (h:=xM (h:=xM (h:=xR Zej rfl (Zae ((k+3*g.1)+1) oz _) (h:=?_))))))))))
 obtain ⟨z2,hz2⟩:=ZZ (xs:=(g.2.2.set g.1 (⟨ZU (k+3*g.1),z1.pass,z1.quota⟩))) (i:=g.1) om
 obtain ⟨bb8,_,hp8,⟨rfl,hb8,hb8b⟩,hw8,hc8⟩:=hv5.row hz2
 refine xIp hp8 Tryz.underlying30 Zbe (h:=xW Zfx (h:=Zp (ZgM (k:=g.1) (off:=1) (⟨z2.name,ZU (k+3*g.1+1),z2.quota⟩) [_] 0 hv5 hp8 hz2 rfl rfl sz9 rfl rfl rfl rfl rfl rfl (by rintro _ ⟨rfl,e1,e2⟩;exact ⟨rfl,e1,show (ZU (k+3*g.1+1)).length≤2000000 from Nat.le_trans (Zb2 (k:=k+3*g.1+1) oz) (by decide)⟩) (fun l9 hv9=>?_))))
 refine ZB [_] rfl (Za (xM (h:=xD (h:=xA (h:=Za (xM (h:=xM (h:=xM (h:=?_)))))))))
 obtain ⟨z3,hz3⟩:=ZZ (xs:=((g.2.2.set g.1 (⟨ZU (k+3*g.1),z1.pass,z1.quota⟩)).set g.1 (⟨z2.name,ZU (k+3*g.1+1),z2.quota⟩))) (i:=g.1) om
 obtain ⟨bb11,_,hp11,⟨rfl,hb11,hb11b⟩,hw11,hc11⟩:=hv9.row hz3
 refine xIp hp11 Tryz.underlying30 Zbe (h:=xW Zc5 (h:=Zp (ZgM (k:=g.1) (off:=2) (⟨z3.name,z3.pass,((k+3*g.1+1+1:Nat):Int)⟩) [_] 0 hv9 hp11 hz3 rfl rfl sz3 rfl rfl rfl rfl rfl rfl (by rintro _ ⟨rfl,e1,e2⟩;exact ⟨rfl,e1,e2⟩) (fun l12 hv12=>?_))))
 refine ZB [_] rfl (Zg (xM (h:=xD (h:=xA (h:=ZT (Zd (Zg (xM (h:=xD (h:=xA (h:=?_)))))))))))
 exact ZF (g.1+1,l12,(((g.2.2.set g.1 (⟨ZU (k+3*g.1),z1.pass,z1.quota⟩)).set g.1 (⟨z2.name,ZU (k+3*g.1+1),z2.quota⟩)).set g.1 (⟨z3.name,z3.pass,((k+3*g.1+1+1:Nat):Int)⟩))) [0] so2 ⟨rfl,so,by simp only [List.length_set];exact hle,Zj2 ht hz1 hz2 hz3,hv12⟩ t4 rfl
 try simp only [sQ,ne_eq] at g1
 have he:=Zmg ht oz
 have hgi:g.1=xs.length:=by omega
 rw [hgi] at he
 refine ZH (Z0 (ZJ (Zw (Zd (Za (xM (h:=xA (h:=Zh ?_))))))))
 exact ZaW .ret (.inl rfl) [_] [0] rfl t1 ⟨rfl,_,rfl,by rw [hgi];rfl,by rw [← he];exact hw⟩

set_option maxHeartbeats 400000 in
theorem Zi0 (q:Option Addr) (cp:Nat) (xs:List Str) (l:Cells) (k:Nat) (hk:k≤900000000000000) (hn:xs.length≤2000000) (B:Kn) (hv:ZW B l q cp 9 1 Zbv xs):Zx (pj J) 64 [.slice q xs.length cp,.int .i64 k] B [l] (fun v B' Ls=>B'=B∧∃l',Ls=[l']∧v = .int .i64 ((k+1*xs.length:Nat):Int)∧ZW B l' q cp 9 1 Zbv (Zc0 k xs.length)):=by
 refine Zb 20 Tryz.func64 rfl rfl rfl (Nat.le_of_ble_eq_true rfl) ?_
 have hvc:=hv.cap
 refine Za (xA (h:=Ze (Za (xA (h:=Zl (ZA (α:=Nat × Cells × List Str) [4] (fun g=>[(0,.slice q xs.length cp),(1,.int .i64 ((k+1*g.1:Nat):Int)),(5,.int .i64 g.1)]) [0] (fun g=>[g.2.1]) (fun g Bx=>Bx=B∧g.1≤xs.length∧g.2.2.length=xs.length∧g.2.2.take g.1=Zc0 k g.1∧ZW Bx g.2.1 q cp 9 1 Zbv g.2.2) (fun g=>xs.length - g.1) (0,l,xs) t3 rfl (⟨rfl,Nat.zero_le _,rfl,rfl,hv⟩) (fun g B1 hle1 hI=>?_)))))))
 obtain ⟨rfl,hi,hle,ht,hw⟩:=hI
 refine ZG [(0,_),(1,_),(4,_),(5,_)] [_] t4 rfl (Ze (Za (xM (h:=xM (h:=xV Tryz.underlying43 (h:=ZI (h:=Zc rfl (fun g1=>?_) (fun g1=>?_))))))))
 try simp only [sQ,ne_eq] at g1
 refine Zf (Zd (Ze (Zl (Za (xM (h:=xM (h:=xM (h:=xR Zej rfl (Zae (k+1*g.1) oz _) (h:=?_)))))))))
 obtain ⟨z1,hz1⟩:=ZZ (xs:=g.2.2) (i:=g.1) om
 obtain ⟨bb4,_,hp4,⟨rfl,hb4⟩,hw4,hc4⟩:=hw.row hz1
 refine xIp hp4 Tryz.underlying43 sz9 (h:=Zp (ZgM (k:=g.1) (off:=0) (ZU (k+1*g.1)) [_] 0 hw hp4 hz1 rfl rfl sz9 rfl rfl rfl rfl rfl rfl (by rintro _ ⟨rfl,e1⟩;exact ⟨rfl,show (ZU (k+1*g.1)).length≤2000000 from Nat.le_trans (Zb2 (k:=k+1*g.1) oz) (by decide)⟩) (fun l5 hv5=>?_)))
 refine ZB [_] rfl (Zg (xM (h:=xD (h:=xA (h:=ZT (Zd (Zg (xM (h:=xD (h:=xA (h:=?_)))))))))))
 exact ZF (g.1+1,l5,(g.2.2.set g.1 (ZU (k+1*g.1)))) [0] so2 ⟨rfl,so,by simp only [List.length_set];exact hle,Zk7 ht hz1,hv5⟩ t4 rfl
 try simp only [sQ,ne_eq] at g1
 have he:=Zmg ht oz
 have hgi:g.1=xs.length:=by omega
 rw [hgi] at he
 refine ZH (Z0 (ZJ (Zw (Zd (Za (xM (h:=xA (h:=Zh ?_))))))))
 exact ZaW .ret (.inl rfl) [_] [0] rfl t1 ⟨rfl,_,rfl,by rw [hgi];rfl,by rw [← he];exact hw⟩

set_option maxHeartbeats 400000 in
theorem Zkf (q:Option Addr) (cp:Nat) (x:DBox) (B:Kn) (hm:SlK B q cp 3 Z3 x.mail):Zx (pj J) 144 [.agg #[.int .i64 x.next,.slice q x.mail.length cp]] B [] (fun v B' Ls=>B'=B∧∃l a c,Ls=[l]∧v = .agg #[.int .i64 x.next,.slice a x.mail.length c]∧ZW B l a c 205 3 Z3 x.mail):=by
 refine Zb 9 Tryz.func144 rfl rfl rfl (Nat.le_of_ble_eq_true rfl) ?_
 have hxn:=hm.len
 refine Za (xBx [_,_] (h:=fun b1=>xAl [_,_] ZnI (h:=fun b2=>ZB [_,_] rfl (Za (xBs [] [] Tryz.underlying71 Zcx Zga (h:=fun b3=>xW Zbu (h:=x1 Zir 0 (h:=Zp (ZbY (R:=Z3) 2 rfl (ZW.lit0 (R:=Z3)) rfl rfl rfl Ztr Zu5 rfl rfl rfl hm.rows Z3.one rfl om (fun l4 p4 c4 hv4=>?_))))))))))
 refine xW Zbu (h:=xS [_] 0 [_,_] ZvC (h:=ZB [_,_,_] rfl (Za (xL [_,_] Zfs 0 (h:=xS [_,_] 1 [_,_] ZjO (h:=ZB [_,_,_] rfl (Zh ?_)))))))
 exact ZaW .ret (.inl rfl) [_] [2] rfl ⟨⟨_,rfl,.inr ⟨[_,_],Zfs,ZbH 1 rfl rfl rfl,rfl⟩⟩,trivial⟩ ⟨rfl,_,_,_,rfl,rfl,hv4⟩

set_option maxHeartbeats 400000 in
theorem Zli (qa qb:Option Addr) (ca cb:Nat) (x:DFolder) (B:Kn) (hg:SlK B qa ca 2 Z5 x.grants) (hm:SlK B qb cb 3 Z3 x.mail):Zx (pj J) 92 [.agg #[str x.owner,str x.name,.slice qa x.grants.length ca,.int .i64 x.next,.slice qb x.mail.length cb]] B [] (fun v B' Ls=>B'=B∧∃l a c l' a' c',Ls=[l,l']∧v = .agg #[str x.owner,str x.name,.slice a x.grants.length c,.int .i64 x.next,.slice a' x.mail.length c']∧ZW B l a c 133 2 Z5 x.grants∧ZW B l' a' c' 205 3 Z3 x.mail):=by
 refine Zb 13 Tryz.func92 rfl rfl rfl (Nat.le_of_ble_eq_true rfl) ?_
 have hgn:=hg.len
 have hmn:=hm.len
 refine Za (xBx [_,_,_,_,_] (h:=fun b1=>xAl [_,_,_,_,_] Zf9 (h:=fun b2=>ZB [_,_] rfl (Za (xBs [] [] Tryz.underlying68 Zer ZmB (h:=fun b3=>xW ZeC (h:=x1 ZrJ 0 (h:=Zp (ZbY (R:=Z5) 2 rfl (ZW.lit0 (R:=Z5)) rfl rfl rfl ZvQ Zxi rfl rfl rfl hg.rows Z5.one rfl om (fun l4 p4 c4 hv4=>?_))))))))))
 refine xW ZeC (h:=xS [_] 0 [_,_,_,_,_] ZvD (h:=ZB [_,_,_] rfl (Za (xW Zb9 (h:=xL [_,_] Zfs 0 (h:=Zp (ZX rfl rfl ZuG rfl (Zkf _ _ (⟨x.next,x.mail⟩:DBox) _ hm) ?_)))))))
 rintro _ B5 _ hle5 ⟨hB5,l5,a5,c5,rfl,rfl,hs5⟩
 have hB5:=hB5.symm
 subst hB5
 refine xW Zb9 (h:=xS [_,_] 0 [_,_,_,_,_] ZjO (h:=ZB [_,_,_,_] rfl (Za (xL [_,_,_,_,_] Ziq 0 (h:=xS [_,_,_,_,_] 1 [_,_,_,_,_] Zcb (h:=ZB [_,_,_,_] rfl (Zh ?_)))))))
 exact ZaW .ret (.inl rfl) [_] [2,3] rfl ⟨⟨_,rfl,.inr ⟨[_,_,_,_,_],Ziq,ZbH 1 rfl rfl rfl,rfl⟩⟩,trivial⟩ ⟨rfl,_,_,_,_,_,_,rfl,rfl,hv4,hs5⟩

set_option maxHeartbeats 400000 in
theorem Zkd (q1 q2 q3:Option Addr) (c1 c2 c3:Nat) (x:DHost) (B:Kn) (hu:SlK B q1 c1 3 Zm x.users) (hf:SlK B q2 c2 5 Zk x.folders) (hi:SlK B q3 c3 4 Zs x.queue.items):Zx (pj J) 32 [.agg #[str x.domain,.slice q1 x.users.length c1,.slice q2 x.folders.length c2,.int .i64 x.queue.next,.slice q3 x.queue.items.length c3]] B [] (fun v B' Ls=>∃l a c p1 d1 p3 d3,Ls=[l]∧v = .agg #[str x.domain,.slice p1 x.users.length d1,.slice a x.folders.length c,.int .i64 x.queue.next,.slice p3 x.queue.items.length d3]∧SlK B' p1 d1 3 Zm x.users∧ZW B' l a c 75 5 Zk x.folders∧SlK B' p3 d3 4 Zs x.queue.items):=by
 refine Zb 35 Tryz.func32 rfl rfl rfl (Nat.le_of_ble_eq_true rfl) ?_
 have hun:=hu.len
 have hfn:=hf.len
 have hin:=hi.len
 refine Za (xBx [_,_,_,_,_] (h:=fun b1=>xAl [_,_,_,_,_] Zcn (h:=fun b2=>ZB [_,_] rfl (ZtE (α:=GHC × Gh DFolder) [0,1,2] (fun o=>[(3,ptr ⟨o.1.b,0,none⟩)]) (fun o=>[Z7 b1 [str x.domain,.slice q1 x.users.length c1,.slice q2 x.folders.length c2,.int .i64 x.queue.next,.slice q3 x.queue.items.length c3] 36,Z7 b2 [str [],.slice none 0 0,.slice none 0 0,.int .i64 0,.slice none 0 0] 36,o.2.l,Z7 o.1.b [str x.domain,.slice o.1.q1 x.users.length o.1.c1,.slice o.2.a o.2.xs.length o.2.c,.int .i64 x.queue.next,.slice o.1.q3 x.queue.items.length o.1.c3] 36]) (fun o Bx=>SlK Bx o.1.q1 o.1.c1 3 Zm x.users∧o.2.xs=[]∧ZW Bx o.2.l o.2.a o.2.c 75 5 Zk o.2.xs∧SlK Bx o.1.q3 o.1.c3 4 Zs x.queue.items) ?_ (fun o B3 hle3 hF=>?_)))))
 refine Zaa (keeps _ [0] _) mo kr ⟨Kn.le.refl _,ZbD.refl _ _⟩ (fun _ _=>?_)
 refine aW 0 rfl ZhG (h:=aT 1 rfl (Z6 fun D B L hI=>Zr rfl rfl lk9 rfl (atL 0 (hI.2.1.trans rfl) rfl rfl) r4) (h:=aW 3 rfl ZbK (h:=aT 4 rfl (Z6 fun D B L hI=>Zr rfl rfl Zis rfl (atL 0 (hI.2.1.trans rfl) rfl rfl) r4) (h:=aW 7 rfl ZbE (h:=aT 8 rfl (Z6 fun D B L hI=>Zab [_,_] rfl rfl Zed rfl (ZbH 0 (hI.2.1.trans rfl) rfl rfl) r4) (h:=Za6 [2,6,11] kr kr kr ⟨?_,?_,?_⟩))))))
 refine (ZK (parts:=[]) [] rfl rfl Tryz.underlying30 Zbe ZdP rfl rfl rfl rfl rfl (fun b4=>⟨⟨Kn.le.refl _,t1⟩,(Za6 [5,6,11] kr kr kr ⟨?_,?_,?_⟩)⟩))
 refine (ZbY (R:=Zm) 2 rfl (ZW.lit0 (R:=Zm)) rfl rfl rfl Znr ZnF rfl rfl rfl hu.rows Zm.one rfl om (fun l5 p5 c5 hv5=>?_))
 refine ⟨⟨Kn.le.refl _,t1⟩,(ZaJ 2 rfl hv5 Zm.mono om3 (fun B' hle'=>⟨hle',t1⟩) (fun B6 hle6 hr6=>?_))⟩
 replace hu:=hu.mono Zm.mono hle6
 replace hf:=hf.mono Zk.mono hle6
 replace hi:=hi.mono Zs.mono hle6
 have hr6n:=hr6.len
 refine Za6 [6,9,11] kr kr kr ⟨?_,?_,?_⟩
 refine (ZK (parts:=[]) [] rfl rfl Tryz.underlying31 Zcb Zf9 rfl rfl rfl rfl rfl (fun b7=>⟨⟨hle6,t1⟩,(Za6 [9,11] kr kr kr ⟨?_,?_⟩)⟩))
 refine (ZX rfl rfl Zji rfl (Zan _ _ x.queue _ hi) ?_)
 rintro _ B8 _ hle8 ⟨l8,a8,c8,rfl,rfl,hv8⟩
 replace hu:=hu.mono Zm.mono hle8
 replace hf:=hf.mono Zk.mono hle8
 replace hi:=hi.mono Zs.mono hle8
 replace hr6:=hr6.mono Zm.mono hle8
 replace hv8:=hv8.mono Zs.mono Kn.less_le
 refine ⟨⟨(hle6.trans hle8),t1⟩,(ZaJ 4 rfl hv8 Zs.mono om3 (fun B' hle'=>⟨(hle6.trans hle8).trans hle',t1⟩) (fun B9 hle9 hr9=>?_))⟩
 replace hu:=hu.mono Zm.mono hle9
 replace hf:=hf.mono Zk.mono hle9
 replace hi:=hi.mono Zs.mono hle9
 replace hr6:=hr6.mono Zm.mono hle9
 have hr9n:=hr9.len
 refine aT 10 rfl (Z6 fun D B L hI=>ZaB (parts:=[(0,_),(1,_),(2,_),(3,_)]) [_,_,_,_,_] [_,_,_,_,_] rfl rfl ZgU Zcn rfl rfl rfl r4) (h:=ZL 11 kr rfl kr (ZaY (l:=[_,_,_,_,_]) rfl rfl Zcn rfl (fun b10=>?_)))
 refine ⟨⟨((hle6.trans hle8).trans hle9),t1⟩,(Zat 12 kr rfl kr kr kr (Z4 [_,_,_,_,_] 5 [_,_,_,_,_] rfl rfl Zde rfl rfl rfl rfl rfl rfl rfl rfl ?_))⟩
 exact ZaA ⟨⟨_,_,_,_,_⟩,⟨0,0,_,_,_,[]⟩⟩ [0,1,3,5] ⟨hr6,rfl,ZW.lit0,hr9⟩ t4 rfl
 refine (ZaY (l:=[_,_,_,_,_]) rfl rfl Zcn rfl (fun b11=>⟨⟨hle6,t1⟩,(ZL 9 kr rfl kr (ZX rfl rfl Zji rfl (Zan _ _ x.queue _ hi) ?_))⟩))
 rintro _ B12 _ hle12 ⟨l12,a12,c12,rfl,rfl,hv12⟩
 replace hu:=hu.mono Zm.mono hle12
 replace hf:=hf.mono Zk.mono hle12
 replace hi:=hi.mono Zs.mono hle12
 replace hr6:=hr6.mono Zm.mono hle12
 replace hv12:=hv12.mono Zs.mono Kn.less_le
 refine ⟨⟨(hle6.trans hle12),t1⟩,(ZaJ 5 rfl hv12 Zs.mono om3 (fun B' hle'=>⟨(hle6.trans hle12).trans hle',t1⟩) (fun B13 hle13 hr13=>?_))⟩
 replace hu:=hu.mono Zm.mono hle13
 replace hf:=hf.mono Zk.mono hle13
 replace hi:=hi.mono Zs.mono hle13
 replace hr6:=hr6.mono Zm.mono hle13
 have hr13n:=hr13.len
 refine aT 10 rfl (Z6 fun D B L hI=>ZaB (parts:=[(0,_),(1,_),(2,_),(3,_)]) [_,_,_,_,_] [_,_,_,_,_] rfl rfl ZgU Zcn rfl rfl rfl r4) (h:=Zat 12 kr rfl kr kr kr (Z4 [_,_,_,_,_] 4 [_,_,_,_,_] rfl rfl Zde rfl rfl rfl rfl rfl rfl rfl rfl ?_))
 exact ZaA ⟨⟨_,_,_,_,_⟩,⟨0,0,_,_,_,[]⟩⟩ [0,1,3,4] ⟨hr6,rfl,ZW.lit0,hr13⟩ t4 rfl
 refine (ZX rfl rfl Zji rfl (Zan _ _ x.queue _ hi) ?_)
 rintro _ B14 _ hle14 ⟨l14,a14,c14,rfl,rfl,hv14⟩
 replace hu:=hu.mono Zm.mono hle14
 replace hf:=hf.mono Zk.mono hle14
 replace hi:=hi.mono Zs.mono hle14
 replace hr6:=hr6.mono Zm.mono hle14
 replace hv14:=hv14.mono Zs.mono Kn.less_le
 refine ⟨⟨(hle6.trans hle14),t1⟩,(ZaJ 3 rfl hv14 Zs.mono om3 (fun B' hle'=>⟨(hle6.trans hle14).trans hle',t1⟩) (fun B15 hle15 hr15=>?_))⟩
 replace hu:=hu.mono Zm.mono hle15
 replace hf:=hf.mono Zk.mono hle15
 replace hi:=hi.mono Zs.mono hle15
 replace hr6:=hr6.mono Zm.mono hle15
 have hr15n:=hr15.len
 refine Za6 [6,11] kr kr kr ⟨?_,?_⟩
 refine (ZK (parts:=[]) [] rfl rfl Tryz.underlying31 Zcb Zf9 rfl rfl rfl rfl rfl (fun b16=>⟨⟨((hle6.trans hle14).trans hle15),t1⟩,(aT 10 rfl (Z6 fun D B L hI=>ZaB (parts:=[(0,_),(1,_),(2,_),(3,_)]) [_,_,_,_,_] [_,_,_,_,_] rfl rfl ZgU Zcn rfl rfl rfl r4) (h:=ZL 11 kr rfl kr (ZaY (l:=[_,_,_,_,_]) rfl rfl Zcn rfl (fun b17=>?_))))⟩))
 refine ⟨⟨((hle6.trans hle14).trans hle15),t1⟩,(Zat 12 kr rfl kr kr kr (Z4 [_,_,_,_,_] 5 [_,_,_,_,_] rfl rfl Zde rfl rfl rfl rfl rfl rfl rfl rfl ?_))⟩
 exact ZaA ⟨⟨_,_,_,_,_⟩,⟨0,0,_,_,_,[]⟩⟩ [0,1,4,5] ⟨hr6,rfl,ZW.lit0,hr15⟩ t4 rfl
 refine (ZaY (l:=[_,_,_,_,_]) rfl rfl Zcn rfl (fun b18=>⟨⟨((hle6.trans hle14).trans hle15),t1⟩,(ZL 6 kr rfl kr (ZK (parts:=[]) [] rfl rfl Tryz.underlying31 Zcb Zf9 rfl rfl rfl rfl rfl (fun b19=>?_)))⟩))
 refine ⟨⟨((hle6.trans hle14).trans hle15),t1⟩,(aT 10 rfl (Z6 fun D B L hI=>ZaB (parts:=[(0,_),(1,_),(2,_),(3,_)]) [_,_,_,_,_] [_,_,_,_,_] rfl rfl ZgU Zcn rfl rfl rfl r4) (h:=Zat 12 kr rfl kr kr kr (Z4 [_,_,_,_,_] 4 [_,_,_,_,_] rfl rfl Zde rfl rfl rfl rfl rfl rfl rfl rfl ?_)))⟩
 exact ZaA ⟨⟨_,_,_,_,_⟩,⟨0,0,_,_,_,[]⟩⟩ [0,1,5,4] ⟨hr6,rfl,ZW.lit0,hr15⟩ t4 rfl
 refine (ZaY (l:=[_,_,_,_,_]) rfl rfl Zcn rfl (fun b20=>⟨⟨hle6,t1⟩,(Za6 [6,9] kr kr kr ⟨?_,?_⟩)⟩))
 refine (ZK (parts:=[]) [] rfl rfl Tryz.underlying31 Zcb Zf9 rfl rfl rfl rfl rfl (fun b21=>⟨⟨hle6,t1⟩,(ZL 9 kr rfl kr (ZX rfl rfl Zji rfl (Zan _ _ x.queue _ hi) ?_))⟩))
 rintro _ B22 _ hle22 ⟨l22,a22,c22,rfl,rfl,hv22⟩
 replace hu:=hu.mono Zm.mono hle22
 replace hf:=hf.mono Zk.mono hle22
 replace hi:=hi.mono Zs.mono hle22
 replace hr6:=hr6.mono Zm.mono hle22
 replace hv22:=hv22.mono Zs.mono Kn.less_le
 refine ⟨⟨(hle6.trans hle22),t1⟩,(ZaJ 5 rfl hv22 Zs.mono om3 (fun B' hle'=>⟨(hle6.trans hle22).trans hle',t1⟩) (fun B23 hle23 hr23=>?_))⟩
 replace hu:=hu.mono Zm.mono hle23
 replace hf:=hf.mono Zk.mono hle23
 replace hi:=hi.mono Zs.mono hle23
 replace hr6:=hr6.mono Zm.mono hle23
 have hr23n:=hr23.len
 refine aT 10 rfl (Z6 fun D B L hI=>ZaB (parts:=[(0,_),(1,_),(2,_),(3,_)]) [_,_,_,_,_] [_,_,_,_,_] rfl rfl ZgU Zcn rfl rfl rfl r4) (h:=Zat 12 kr rfl kr kr kr (Z4 [_,_,_,_,_] 3 [_,_,_,_,_] rfl rfl Zde rfl rfl rfl rfl rfl rfl rfl rfl ?_))
 exact ZaA ⟨⟨_,_,_,_,_⟩,⟨0,0,_,_,_,[]⟩⟩ [0,1,4,3] ⟨hr6,rfl,ZW.lit0,hr23⟩ t4 rfl
 refine (ZX rfl rfl Zji rfl (Zan _ _ x.queue _ hi) ?_)
 rintro _ B24 _ hle24 ⟨l24,a24,c24,rfl,rfl,hv24⟩
 replace hu:=hu.mono Zm.mono hle24
 replace hf:=hf.mono Zk.mono hle24
 replace hi:=hi.mono Zs.mono hle24
 replace hr6:=hr6.mono Zm.mono hle24
 replace hv24:=hv24.mono Zs.mono Kn.less_le
 refine ⟨⟨(hle6.trans hle24),t1⟩,(ZaJ 4 rfl hv24 Zs.mono om3 (fun B' hle'=>⟨(hle6.trans hle24).trans hle',t1⟩) (fun B25 hle25 hr25=>?_))⟩
 replace hu:=hu.mono Zm.mono hle25
 replace hf:=hf.mono Zk.mono hle25
 replace hi:=hi.mono Zs.mono hle25
 replace hr6:=hr6.mono Zm.mono hle25
 have hr25n:=hr25.len
 refine ZL 6 kr rfl kr (ZK (parts:=[]) [] rfl rfl Tryz.underlying31 Zcb Zf9 rfl rfl rfl rfl rfl (fun b26=>?_))
 refine ⟨⟨((hle6.trans hle24).trans hle25),t1⟩,(aT 10 rfl (Z6 fun D B L hI=>ZaB (parts:=[(0,_),(1,_),(2,_),(3,_)]) [_,_,_,_,_] [_,_,_,_,_] rfl rfl ZgU Zcn rfl rfl rfl r4) (h:=Zat 12 kr rfl kr kr kr (Z4 [_,_,_,_,_] 3 [_,_,_,_,_] rfl rfl Zde rfl rfl rfl rfl rfl rfl rfl rfl ?_)))⟩
 exact ZaA ⟨⟨_,_,_,_,_⟩,⟨0,0,_,_,_,[]⟩⟩ [0,1,5,3] ⟨hr6,rfl,ZW.lit0,hr25⟩ t4 rfl
 refine (ZK (parts:=[]) [] rfl rfl Tryz.underlying31 Zcb Zf9 rfl rfl rfl rfl rfl (fun b27=>⟨⟨Kn.le.refl _,t1⟩,(Za6 [5,11] kr kr kr ⟨?_,?_⟩)⟩))
 refine (ZbY (R:=Zm) 2 rfl (ZW.lit0 (R:=Zm)) rfl rfl rfl Znr ZnF rfl rfl rfl hu.rows Zm.one rfl om (fun l28 p28 c28 hv28=>?_))
 refine ⟨⟨Kn.le.refl _,t1⟩,(ZaJ 2 rfl hv28 Zm.mono om3 (fun B' hle'=>⟨hle',t1⟩) (fun B29 hle29 hr29=>?_))⟩
 replace hu:=hu.mono Zm.mono hle29
 replace hf:=hf.mono Zk.mono hle29
 replace hi:=hi.mono Zs.mono hle29
 have hr29n:=hr29.len
 refine Za6 [9,11] kr kr kr ⟨?_,?_⟩
 refine (ZX rfl rfl Zji rfl (Zan _ _ x.queue _ hi) ?_)
 rintro _ B30 _ hle30 ⟨l30,a30,c30,rfl,rfl,hv30⟩
 replace hu:=hu.mono Zm.mono hle30
 replace hf:=hf.mono Zk.mono hle30
 replace hi:=hi.mono Zs.mono hle30
 replace hr29:=hr29.mono Zm.mono hle30
 replace hv30:=hv30.mono Zs.mono Kn.less_le
 refine ⟨⟨(hle29.trans hle30),t1⟩,(ZaJ 4 rfl hv30 Zs.mono om3 (fun B' hle'=>⟨(hle29.trans hle30).trans hle',t1⟩) (fun B31 hle31 hr31=>?_))⟩
 replace hu:=hu.mono Zm.mono hle31
 replace hf:=hf.mono Zk.mono hle31
 replace hi:=hi.mono Zs.mono hle31
 replace hr29:=hr29.mono Zm.mono hle31
 have hr31n:=hr31.len
 refine aT 10 rfl (Z6 fun D B L hI=>ZaB (parts:=[(0,_),(1,_),(2,_),(3,_)]) [_,_,_,_,_] [_,_,_,_,_] rfl rfl ZgU Zcn rfl rfl rfl r4) (h:=ZL 11 kr rfl kr (ZaY (l:=[_,_,_,_,_]) rfl rfl Zcn rfl (fun b32=>?_)))
 refine ⟨⟨((hle29.trans hle30).trans hle31),t1⟩,(Zat 12 kr rfl kr kr kr (Z4 [_,_,_,_,_] 5 [_,_,_,_,_] rfl rfl Zde rfl rfl rfl rfl rfl rfl rfl rfl ?_))⟩
 exact ZaA ⟨⟨_,_,_,_,_⟩,⟨0,0,_,_,_,[]⟩⟩ [0,1,3,5] ⟨hr29,rfl,ZW.lit0,hr31⟩ t4 rfl
 refine (ZaY (l:=[_,_,_,_,_]) rfl rfl Zcn rfl (fun b33=>⟨⟨hle29,t1⟩,(ZL 9 kr rfl kr (ZX rfl rfl Zji rfl (Zan _ _ x.queue _ hi) ?_))⟩))
 rintro _ B34 _ hle34 ⟨l34,a34,c34,rfl,rfl,hv34⟩
 replace hu:=hu.mono Zm.mono hle34
 replace hf:=hf.mono Zk.mono hle34
 replace hi:=hi.mono Zs.mono hle34
 replace hr29:=hr29.mono Zm.mono hle34
 replace hv34:=hv34.mono Zs.mono Kn.less_le
 refine ⟨⟨(hle29.trans hle34),t1⟩,(ZaJ 5 rfl hv34 Zs.mono om3 (fun B' hle'=>⟨(hle29.trans hle34).trans hle',t1⟩) (fun B35 hle35 hr35=>?_))⟩
 replace hu:=hu.mono Zm.mono hle35
 replace hf:=hf.mono Zk.mono hle35
 replace hi:=hi.mono Zs.mono hle35
 replace hr29:=hr29.mono Zm.mono hle35
 have hr35n:=hr35.len
 refine aT 10 rfl (Z6 fun D B L hI=>ZaB (parts:=[(0,_),(1,_),(2,_),(3,_)]) [_,_,_,_,_] [_,_,_,_,_] rfl rfl ZgU Zcn rfl rfl rfl r4) (h:=Zat 12 kr rfl kr kr kr (Z4 [_,_,_,_,_] 4 [_,_,_,_,_] rfl rfl Zde rfl rfl rfl rfl rfl rfl rfl rfl ?_))
 exact ZaA ⟨⟨_,_,_,_,_⟩,⟨0,0,_,_,_,[]⟩⟩ [0,1,3,4] ⟨hr29,rfl,ZW.lit0,hr35⟩ t4 rfl
 refine (ZaY (l:=[_,_,_,_,_]) rfl rfl Zcn rfl (fun b36=>⟨⟨Kn.le.refl _,t1⟩,(ZL 5 kr rfl kr (ZbY (R:=Zm) 2 rfl (ZW.lit0 (R:=Zm)) rfl rfl rfl Znr ZnF rfl rfl rfl hu.rows Zm.one rfl om (fun l37 p37 c37 hv37=>?_)))⟩))
 refine ⟨⟨Kn.le.refl _,t1⟩,(ZaJ 2 rfl hv37 Zm.mono om3 (fun B' hle'=>⟨hle',t1⟩) (fun B38 hle38 hr38=>?_))⟩
 replace hu:=hu.mono Zm.mono hle38
 replace hf:=hf.mono Zk.mono hle38
 replace hi:=hi.mono Zs.mono hle38
 have hr38n:=hr38.len
 refine ZL 9 kr rfl kr (ZX rfl rfl Zji rfl (Zan _ _ x.queue _ hi) ?_)
 rintro _ B39 _ hle39 ⟨l39,a39,c39,rfl,rfl,hv39⟩
 replace hu:=hu.mono Zm.mono hle39
 replace hf:=hf.mono Zk.mono hle39
 replace hi:=hi.mono Zs.mono hle39
 replace hr38:=hr38.mono Zm.mono hle39
 replace hv39:=hv39.mono Zs.mono Kn.less_le
 refine ⟨⟨(hle38.trans hle39),t1⟩,(ZaJ 5 rfl hv39 Zs.mono om3 (fun B' hle'=>⟨(hle38.trans hle39).trans hle',t1⟩) (fun B40 hle40 hr40=>?_))⟩
 replace hu:=hu.mono Zm.mono hle40
 replace hf:=hf.mono Zk.mono hle40
 replace hi:=hi.mono Zs.mono hle40
 replace hr38:=hr38.mono Zm.mono hle40
 have hr40n:=hr40.len
 refine aT 10 rfl (Z6 fun D B L hI=>ZaB (parts:=[(0,_),(1,_),(2,_),(3,_)]) [_,_,_,_,_] [_,_,_,_,_] rfl rfl ZgU Zcn rfl rfl rfl r4) (h:=Zat 12 kr rfl kr kr kr (Z4 [_,_,_,_,_] 4 [_,_,_,_,_] rfl rfl Zde rfl rfl rfl rfl rfl rfl rfl rfl ?_))
 exact ZaA ⟨⟨_,_,_,_,_⟩,⟨0,0,_,_,_,[]⟩⟩ [0,1,3,4] ⟨hr38,rfl,ZW.lit0,hr40⟩ t4 rfl
 refine (ZaY (l:=[_,_,_,_,_]) rfl rfl Zcn rfl (fun b41=>⟨⟨Kn.le.refl _,t1⟩,(Za6 [5,6] kr kr kr ⟨?_,?_⟩)⟩))
 refine (ZbY (R:=Zm) 2 rfl (ZW.lit0 (R:=Zm)) rfl rfl rfl Znr ZnF rfl rfl rfl hu.rows Zm.one rfl om (fun l42 p42 c42 hv42=>?_))
 refine ⟨⟨Kn.le.refl _,t1⟩,(ZaJ 2 rfl hv42 Zm.mono om3 (fun B' hle'=>⟨hle',t1⟩) (fun B43 hle43 hr43=>?_))⟩
 replace hu:=hu.mono Zm.mono hle43
 replace hf:=hf.mono Zk.mono hle43
 replace hi:=hi.mono Zs.mono hle43
 have hr43n:=hr43.len
 refine Za6 [6,9] kr kr kr ⟨?_,?_⟩
 refine (ZK (parts:=[]) [] rfl rfl Tryz.underlying31 Zcb Zf9 rfl rfl rfl rfl rfl (fun b44=>⟨⟨hle43,t1⟩,(ZL 9 kr rfl kr (ZX rfl rfl Zji rfl (Zan _ _ x.queue _ hi) ?_))⟩))
 rintro _ B45 _ hle45 ⟨l45,a45,c45,rfl,rfl,hv45⟩
 replace hu:=hu.mono Zm.mono hle45
 replace hf:=hf.mono Zk.mono hle45
 replace hi:=hi.mono Zs.mono hle45
 replace hr43:=hr43.mono Zm.mono hle45
 replace hv45:=hv45.mono Zs.mono Kn.less_le
 refine ⟨⟨(hle43.trans hle45),t1⟩,(ZaJ 5 rfl hv45 Zs.mono om3 (fun B' hle'=>⟨(hle43.trans hle45).trans hle',t1⟩) (fun B46 hle46 hr46=>?_))⟩
 replace hu:=hu.mono Zm.mono hle46
 replace hf:=hf.mono Zk.mono hle46
 replace hi:=hi.mono Zs.mono hle46
 replace hr43:=hr43.mono Zm.mono hle46
 have hr46n:=hr46.len
 refine aT 10 rfl (Z6 fun D B L hI=>ZaB (parts:=[(0,_),(1,_),(2,_),(3,_)]) [_,_,_,_,_] [_,_,_,_,_] rfl rfl ZgU Zcn rfl rfl rfl r4) (h:=Zat 12 kr rfl kr kr kr (Z4 [_,_,_,_,_] 3 [_,_,_,_,_] rfl rfl Zde rfl rfl rfl rfl rfl rfl rfl rfl ?_))
 exact ZaA ⟨⟨_,_,_,_,_⟩,⟨0,0,_,_,_,[]⟩⟩ [0,1,4,3] ⟨hr43,rfl,ZW.lit0,hr46⟩ t4 rfl
 refine (ZX rfl rfl Zji rfl (Zan _ _ x.queue _ hi) ?_)
 rintro _ B47 _ hle47 ⟨l47,a47,c47,rfl,rfl,hv47⟩
 replace hu:=hu.mono Zm.mono hle47
 replace hf:=hf.mono Zk.mono hle47
 replace hi:=hi.mono Zs.mono hle47
 replace hr43:=hr43.mono Zm.mono hle47
 replace hv47:=hv47.mono Zs.mono Kn.less_le
 refine ⟨⟨(hle43.trans hle47),t1⟩,(ZaJ 4 rfl hv47 Zs.mono om3 (fun B' hle'=>⟨(hle43.trans hle47).trans hle',t1⟩) (fun B48 hle48 hr48=>?_))⟩
 replace hu:=hu.mono Zm.mono hle48
 replace hf:=hf.mono Zk.mono hle48
 replace hi:=hi.mono Zs.mono hle48
 replace hr43:=hr43.mono Zm.mono hle48
 have hr48n:=hr48.len
 refine ZL 6 kr rfl kr (ZK (parts:=[]) [] rfl rfl Tryz.underlying31 Zcb Zf9 rfl rfl rfl rfl rfl (fun b49=>?_))
 refine ⟨⟨((hle43.trans hle47).trans hle48),t1⟩,(aT 10 rfl (Z6 fun D B L hI=>ZaB (parts:=[(0,_),(1,_),(2,_),(3,_)]) [_,_,_,_,_] [_,_,_,_,_] rfl rfl ZgU Zcn rfl rfl rfl r4) (h:=Zat 12 kr rfl kr kr kr (Z4 [_,_,_,_,_] 3 [_,_,_,_,_] rfl rfl Zde rfl rfl rfl rfl rfl rfl rfl rfl ?_)))⟩
 exact ZaA ⟨⟨_,_,_,_,_⟩,⟨0,0,_,_,_,[]⟩⟩ [0,1,5,3] ⟨hr43,rfl,ZW.lit0,hr48⟩ t4 rfl
 refine (ZK (parts:=[]) [] rfl rfl Tryz.underlying31 Zcb Zf9 rfl rfl rfl rfl rfl (fun b50=>⟨⟨Kn.le.refl _,t1⟩,(ZL 5 kr rfl kr (ZbY (R:=Zm) 2 rfl (ZW.lit0 (R:=Zm)) rfl rfl rfl Znr ZnF rfl rfl rfl hu.rows Zm.one rfl om (fun l51 p51 c51 hv51=>?_)))⟩))
 refine ⟨⟨Kn.le.refl _,t1⟩,(ZaJ 2 rfl hv51 Zm.mono om3 (fun B' hle'=>⟨hle',t1⟩) (fun B52 hle52 hr52=>?_))⟩
 replace hu:=hu.mono Zm.mono hle52
 replace hf:=hf.mono Zk.mono hle52
 replace hi:=hi.mono Zs.mono hle52
 have hr52n:=hr52.len
 refine ZL 9 kr rfl kr (ZX rfl rfl Zji rfl (Zan _ _ x.queue _ hi) ?_)
 rintro _ B53 _ hle53 ⟨l53,a53,c53,rfl,rfl,hv53⟩
 replace hu:=hu.mono Zm.mono hle53
 replace hf:=hf.mono Zk.mono hle53
 replace hi:=hi.mono Zs.mono hle53
 replace hr52:=hr52.mono Zm.mono hle53
 replace hv53:=hv53.mono Zs.mono Kn.less_le
 refine ⟨⟨(hle52.trans hle53),t1⟩,(ZaJ 5 rfl hv53 Zs.mono om3 (fun B' hle'=>⟨(hle52.trans hle53).trans hle',t1⟩) (fun B54 hle54 hr54=>?_))⟩
 replace hu:=hu.mono Zm.mono hle54
 replace hf:=hf.mono Zk.mono hle54
 replace hi:=hi.mono Zs.mono hle54
 replace hr52:=hr52.mono Zm.mono hle54
 have hr54n:=hr54.len
 refine aT 10 rfl (Z6 fun D B L hI=>ZaB (parts:=[(0,_),(1,_),(2,_),(3,_)]) [_,_,_,_,_] [_,_,_,_,_] rfl rfl ZgU Zcn rfl rfl rfl r4) (h:=Zat 12 kr rfl kr kr kr (Z4 [_,_,_,_,_] 3 [_,_,_,_,_] rfl rfl Zde rfl rfl rfl rfl rfl rfl rfl rfl ?_))
 exact ZaA ⟨⟨_,_,_,_,_⟩,⟨0,0,_,_,_,[]⟩⟩ [0,1,4,3] ⟨hr52,rfl,ZW.lit0,hr54⟩ t4 rfl
 refine (ZK (parts:=[]) [] rfl rfl Tryz.underlying31 Zcb Zf9 rfl rfl rfl rfl rfl (fun b55=>⟨⟨Kn.le.refl _,t1⟩,(Za6 [2,11] kr kr kr ⟨?_,?_⟩)⟩))
 refine (ZK (parts:=[]) [] rfl rfl Tryz.underlying30 Zbe ZdP rfl rfl rfl rfl rfl (fun b56=>⟨⟨Kn.le.refl _,t1⟩,(Za6 [5,11] kr kr kr ⟨?_,?_⟩)⟩))
 refine (ZbY (R:=Zm) 3 rfl (ZW.lit0 (R:=Zm)) rfl rfl rfl Znr ZnF rfl rfl rfl hu.rows Zm.one rfl om (fun l57 p57 c57 hv57=>?_))
 refine ⟨⟨Kn.le.refl _,t1⟩,(ZaJ 3 rfl hv57 Zm.mono om3 (fun B' hle'=>⟨hle',t1⟩) (fun B58 hle58 hr58=>?_))⟩
 replace hu:=hu.mono Zm.mono hle58
 replace hf:=hf.mono Zk.mono hle58
 replace hi:=hi.mono Zs.mono hle58
 have hr58n:=hr58.len
 refine Za6 [9,11] kr kr kr ⟨?_,?_⟩
 refine (ZX rfl rfl Zji rfl (Zan _ _ x.queue _ hi) ?_)
 rintro _ B59 _ hle59 ⟨l59,a59,c59,rfl,rfl,hv59⟩
 replace hu:=hu.mono Zm.mono hle59
 replace hf:=hf.mono Zk.mono hle59
 replace hi:=hi.mono Zs.mono hle59
 replace hr58:=hr58.mono Zm.mono hle59
 replace hv59:=hv59.mono Zs.mono Kn.less_le
 refine ⟨⟨(hle58.trans hle59),t1⟩,(ZaJ 4 rfl hv59 Zs.mono om3 (fun B' hle'=>⟨(hle58.trans hle59).trans hle',t1⟩) (fun B60 hle60 hr60=>?_))⟩
 replace hu:=hu.mono Zm.mono hle60
 replace hf:=hf.mono Zk.mono hle60
 replace hi:=hi.mono Zs.mono hle60
 replace hr58:=hr58.mono Zm.mono hle60
 have hr60n:=hr60.len
 refine aT 10 rfl (Z6 fun D B L hI=>ZaB (parts:=[(0,_),(1,_),(2,_),(3,_)]) [_,_,_,_,_] [_,_,_,_,_] rfl rfl ZgU Zcn rfl rfl rfl r4) (h:=ZL 11 kr rfl kr (ZaY (l:=[_,_,_,_,_]) rfl rfl Zcn rfl (fun b61=>?_)))
 refine ⟨⟨((hle58.trans hle59).trans hle60),t1⟩,(Zat 12 kr rfl kr kr kr (Z4 [_,_,_,_,_] 5 [_,_,_,_,_] rfl rfl Zde rfl rfl rfl rfl rfl rfl rfl rfl ?_))⟩
 exact ZaA ⟨⟨_,_,_,_,_⟩,⟨0,0,_,_,_,[]⟩⟩ [0,1,2,5] ⟨hr58,rfl,ZW.lit0,hr60⟩ t4 rfl
 refine (ZaY (l:=[_,_,_,_,_]) rfl rfl Zcn rfl (fun b62=>⟨⟨hle58,t1⟩,(ZL 9 kr rfl kr (ZX rfl rfl Zji rfl (Zan _ _ x.queue _ hi) ?_))⟩))
 rintro _ B63 _ hle63 ⟨l63,a63,c63,rfl,rfl,hv63⟩
 replace hu:=hu.mono Zm.mono hle63
 replace hf:=hf.mono Zk.mono hle63
 replace hi:=hi.mono Zs.mono hle63
 replace hr58:=hr58.mono Zm.mono hle63
 replace hv63:=hv63.mono Zs.mono Kn.less_le
 refine ⟨⟨(hle58.trans hle63),t1⟩,(ZaJ 5 rfl hv63 Zs.mono om3 (fun B' hle'=>⟨(hle58.trans hle63).trans hle',t1⟩) (fun B64 hle64 hr64=>?_))⟩
 replace hu:=hu.mono Zm.mono hle64
 replace hf:=hf.mono Zk.mono hle64
 replace hi:=hi.mono Zs.mono hle64
 replace hr58:=hr58.mono Zm.mono hle64
 have hr64n:=hr64.len
 refine aT 10 rfl (Z6 fun D B L hI=>ZaB (parts:=[(0,_),(1,_),(2,_),(3,_)]) [_,_,_,_,_] [_,_,_,_,_] rfl rfl ZgU Zcn rfl rfl rfl r4) (h:=Zat 12 kr rfl kr kr kr (Z4 [_,_,_,_,_] 4 [_,_,_,_,_] rfl rfl Zde rfl rfl rfl rfl rfl rfl rfl rfl ?_))
 exact ZaA ⟨⟨_,_,_,_,_⟩,⟨0,0,_,_,_,[]⟩⟩ [0,1,2,4] ⟨hr58,rfl,ZW.lit0,hr64⟩ t4 rfl
 refine (ZaY (l:=[_,_,_,_,_]) rfl rfl Zcn rfl (fun b65=>⟨⟨Kn.le.refl _,t1⟩,(ZL 5 kr rfl kr (ZbY (R:=Zm) 3 rfl (ZW.lit0 (R:=Zm)) rfl rfl rfl Znr ZnF rfl rfl rfl hu.rows Zm.one rfl om (fun l66 p66 c66 hv66=>?_)))⟩))
 refine ⟨⟨Kn.le.refl _,t1⟩,(ZaJ 3 rfl hv66 Zm.mono om3 (fun B' hle'=>⟨hle',t1⟩) (fun B67 hle67 hr67=>?_))⟩
 replace hu:=hu.mono Zm.mono hle67
 replace hf:=hf.mono Zk.mono hle67
 replace hi:=hi.mono Zs.mono hle67
 have hr67n:=hr67.len
 refine ZL 9 kr rfl kr (ZX rfl rfl Zji rfl (Zan _ _ x.queue _ hi) ?_)
 rintro _ B68 _ hle68 ⟨l68,a68,c68,rfl,rfl,hv68⟩
 replace hu:=hu.mono Zm.mono hle68
 replace hf:=hf.mono Zk.mono hle68
 replace hi:=hi.mono Zs.mono hle68
 replace hr67:=hr67.mono Zm.mono hle68
 replace hv68:=hv68.mono Zs.mono Kn.less_le
 refine ⟨⟨(hle67.trans hle68),t1⟩,(ZaJ 5 rfl hv68 Zs.mono om3 (fun B' hle'=>⟨(hle67.trans hle68).trans hle',t1⟩) (fun B69 hle69 hr69=>?_))⟩
 replace hu:=hu.mono Zm.mono hle69
 replace hf:=hf.mono Zk.mono hle69
 replace hi:=hi.mono Zs.mono hle69
 replace hr67:=hr67.mono Zm.mono hle69
 have hr69n:=hr69.len
 refine aT 10 rfl (Z6 fun D B L hI=>ZaB (parts:=[(0,_),(1,_),(2,_),(3,_)]) [_,_,_,_,_] [_,_,_,_,_] rfl rfl ZgU Zcn rfl rfl rfl r4) (h:=Zat 12 kr rfl kr kr kr (Z4 [_,_,_,_,_] 4 [_,_,_,_,_] rfl rfl Zde rfl rfl rfl rfl rfl rfl rfl rfl ?_))
 exact ZaA ⟨⟨_,_,_,_,_⟩,⟨0,0,_,_,_,[]⟩⟩ [0,1,2,4] ⟨hr67,rfl,ZW.lit0,hr69⟩ t4 rfl
 refine (ZaY (l:=[_,_,_,_,_]) rfl rfl Zcn rfl (fun b70=>⟨⟨Kn.le.refl _,t1⟩,(ZL 2 kr rfl kr (ZK (parts:=[]) [] rfl rfl Tryz.underlying30 Zbe ZdP rfl rfl rfl rfl rfl (fun b71=>?_)))⟩))
 refine ⟨⟨Kn.le.refl _,t1⟩,(ZL 5 kr rfl kr (ZbY (R:=Zm) 4 rfl (ZW.lit0 (R:=Zm)) rfl rfl rfl Znr ZnF rfl rfl rfl hu.rows Zm.one rfl om (fun l72 p72 c72 hv72=>?_)))⟩
 refine ⟨⟨Kn.le.refl _,t1⟩,(ZaJ 4 rfl hv72 Zm.mono om3 (fun B' hle'=>⟨hle',t1⟩) (fun B73 hle73 hr73=>?_))⟩
 replace hu:=hu.mono Zm.mono hle73
 replace hf:=hf.mono Zk.mono hle73
 replace hi:=hi.mono Zs.mono hle73
 have hr73n:=hr73.len
 refine ZL 9 kr rfl kr (ZX rfl rfl Zji rfl (Zan _ _ x.queue _ hi) ?_)
 rintro _ B74 _ hle74 ⟨l74,a74,c74,rfl,rfl,hv74⟩
 replace hu:=hu.mono Zm.mono hle74
 replace hf:=hf.mono Zk.mono hle74
 replace hi:=hi.mono Zs.mono hle74
 replace hr73:=hr73.mono Zm.mono hle74
 replace hv74:=hv74.mono Zs.mono Kn.less_le
 refine ⟨⟨(hle73.trans hle74),t1⟩,(ZaJ 5 rfl hv74 Zs.mono om3 (fun B' hle'=>⟨(hle73.trans hle74).trans hle',t1⟩) (fun B75 hle75 hr75=>?_))⟩
 replace hu:=hu.mono Zm.mono hle75
 replace hf:=hf.mono Zk.mono hle75
 replace hi:=hi.mono Zs.mono hle75
 replace hr73:=hr73.mono Zm.mono hle75
 have hr75n:=hr75.len
 refine aT 10 rfl (Z6 fun D B L hI=>ZaB (parts:=[(0,_),(1,_),(2,_),(3,_)]) [_,_,_,_,_] [_,_,_,_,_] rfl rfl ZgU Zcn rfl rfl rfl r4) (h:=Zat 12 kr rfl kr kr kr (Z4 [_,_,_,_,_] 3 [_,_,_,_,_] rfl rfl Zde rfl rfl rfl rfl rfl rfl rfl rfl ?_))
 exact ZaA ⟨⟨_,_,_,_,_⟩,⟨0,0,_,_,_,[]⟩⟩ [0,1,2,3] ⟨hr73,rfl,ZW.lit0,hr75⟩ t4 rfl
 refine (ZaY (l:=[_,_,_,_,_]) rfl rfl Zcn rfl (fun b76=>⟨⟨Kn.le.refl _,t1⟩,(Za6 [2,6] kr kr kr ⟨?_,?_⟩)⟩))
 refine (ZK (parts:=[]) [] rfl rfl Tryz.underlying30 Zbe ZdP rfl rfl rfl rfl rfl (fun b77=>⟨⟨Kn.le.refl _,t1⟩,(Za6 [5,6] kr kr kr ⟨?_,?_⟩)⟩))
 refine (ZbY (R:=Zm) 3 rfl (ZW.lit0 (R:=Zm)) rfl rfl rfl Znr ZnF rfl rfl rfl hu.rows Zm.one rfl om (fun l78 p78 c78 hv78=>?_))
 refine ⟨⟨Kn.le.refl _,t1⟩,(ZaJ 3 rfl hv78 Zm.mono om3 (fun B' hle'=>⟨hle',t1⟩) (fun B79 hle79 hr79=>?_))⟩
 replace hu:=hu.mono Zm.mono hle79
 replace hf:=hf.mono Zk.mono hle79
 replace hi:=hi.mono Zs.mono hle79
 have hr79n:=hr79.len
 refine Za6 [6,9] kr kr kr ⟨?_,?_⟩
 refine (ZK (parts:=[]) [] rfl rfl Tryz.underlying31 Zcb Zf9 rfl rfl rfl rfl rfl (fun b80=>⟨⟨hle79,t1⟩,(ZL 9 kr rfl kr (ZX rfl rfl Zji rfl (Zan _ _ x.queue _ hi) ?_))⟩))
 rintro _ B81 _ hle81 ⟨l81,a81,c81,rfl,rfl,hv81⟩
 replace hu:=hu.mono Zm.mono hle81
 replace hf:=hf.mono Zk.mono hle81
 replace hi:=hi.mono Zs.mono hle81
 replace hr79:=hr79.mono Zm.mono hle81
 replace hv81:=hv81.mono Zs.mono Kn.less_le
 refine ⟨⟨(hle79.trans hle81),t1⟩,(ZaJ 5 rfl hv81 Zs.mono om3 (fun B' hle'=>⟨(hle79.trans hle81).trans hle',t1⟩) (fun B82 hle82 hr82=>?_))⟩
 replace hu:=hu.mono Zm.mono hle82
 replace hf:=hf.mono Zk.mono hle82
 replace hi:=hi.mono Zs.mono hle82
 replace hr79:=hr79.mono Zm.mono hle82
 have hr82n:=hr82.len
 refine aT 10 rfl (Z6 fun D B L hI=>ZaB (parts:=[(0,_),(1,_),(2,_),(3,_)]) [_,_,_,_,_] [_,_,_,_,_] rfl rfl ZgU Zcn rfl rfl rfl r4) (h:=Zat 12 kr rfl kr kr kr (Z4 [_,_,_,_,_] 2 [_,_,_,_,_] rfl rfl Zde rfl rfl rfl rfl rfl rfl rfl rfl ?_))
 exact ZaA ⟨⟨_,_,_,_,_⟩,⟨0,0,_,_,_,[]⟩⟩ [0,1,4,2] ⟨hr79,rfl,ZW.lit0,hr82⟩ t4 rfl
 refine (ZX rfl rfl Zji rfl (Zan _ _ x.queue _ hi) ?_)
 rintro _ B83 _ hle83 ⟨l83,a83,c83,rfl,rfl,hv83⟩
 replace hu:=hu.mono Zm.mono hle83
 replace hf:=hf.mono Zk.mono hle83
 replace hi:=hi.mono Zs.mono hle83
 replace hr79:=hr79.mono Zm.mono hle83
 replace hv83:=hv83.mono Zs.mono Kn.less_le
 refine ⟨⟨(hle79.trans hle83),t1⟩,(ZaJ 4 rfl hv83 Zs.mono om3 (fun B' hle'=>⟨(hle79.trans hle83).trans hle',t1⟩) (fun B84 hle84 hr84=>?_))⟩
 replace hu:=hu.mono Zm.mono hle84
 replace hf:=hf.mono Zk.mono hle84
 replace hi:=hi.mono Zs.mono hle84
 replace hr79:=hr79.mono Zm.mono hle84
 have hr84n:=hr84.len
 refine ZL 6 kr rfl kr (ZK (parts:=[]) [] rfl rfl Tryz.underlying31 Zcb Zf9 rfl rfl rfl rfl rfl (fun b85=>?_))
 refine ⟨⟨((hle79.trans hle83).trans hle84),t1⟩,(aT 10 rfl (Z6 fun D B L hI=>ZaB (parts:=[(0,_),(1,_),(2,_),(3,_)]) [_,_,_,_,_] [_,_,_,_,_] rfl rfl ZgU Zcn rfl rfl rfl r4) (h:=Zat 12 kr rfl kr kr kr (Z4 [_,_,_,_,_] 2 [_,_,_,_,_] rfl rfl Zde rfl rfl rfl rfl rfl rfl rfl rfl ?_)))⟩
 exact ZaA ⟨⟨_,_,_,_,_⟩,⟨0,0,_,_,_,[]⟩⟩ [0,1,5,2] ⟨hr79,rfl,ZW.lit0,hr84⟩ t4 rfl
 refine (ZK (parts:=[]) [] rfl rfl Tryz.underlying31 Zcb Zf9 rfl rfl rfl rfl rfl (fun b86=>⟨⟨Kn.le.refl _,t1⟩,(ZL 5 kr rfl kr (ZbY (R:=Zm) 3 rfl (ZW.lit0 (R:=Zm)) rfl rfl rfl Znr ZnF rfl rfl rfl hu.rows Zm.one rfl om (fun l87 p87 c87 hv87=>?_)))⟩))
 refine ⟨⟨Kn.le.refl _,t1⟩,(ZaJ 3 rfl hv87 Zm.mono om3 (fun B' hle'=>⟨hle',t1⟩) (fun B88 hle88 hr88=>?_))⟩
 replace hu:=hu.mono Zm.mono hle88
 replace hf:=hf.mono Zk.mono hle88
 replace hi:=hi.mono Zs.mono hle88
 have hr88n:=hr88.len
 refine ZL 9 kr rfl kr (ZX rfl rfl Zji rfl (Zan _ _ x.queue _ hi) ?_)
 rintro _ B89 _ hle89 ⟨l89,a89,c89,rfl,rfl,hv89⟩
 replace hu:=hu.mono Zm.mono hle89
 replace hf:=hf.mono Zk.mono hle89
 replace hi:=hi.mono Zs.mono hle89
 replace hr88:=hr88.mono Zm.mono hle89
 replace hv89:=hv89.mono Zs.mono Kn.less_le
 refine ⟨⟨(hle88.trans hle89),t1⟩,(ZaJ 5 rfl hv89 Zs.mono om3 (fun B' hle'=>⟨(hle88.trans hle89).trans hle',t1⟩) (fun B90 hle90 hr90=>?_))⟩
 replace hu:=hu.mono Zm.mono hle90
 replace hf:=hf.mono Zk.mono hle90
 replace hi:=hi.mono Zs.mono hle90
 replace hr88:=hr88.mono Zm.mono hle90
 have hr90n:=hr90.len
 refine aT 10 rfl (Z6 fun D B L hI=>ZaB (parts:=[(0,_),(1,_),(2,_),(3,_)]) [_,_,_,_,_] [_,_,_,_,_] rfl rfl ZgU Zcn rfl rfl rfl r4) (h:=Zat 12 kr rfl kr kr kr (Z4 [_,_,_,_,_] 2 [_,_,_,_,_] rfl rfl Zde rfl rfl rfl rfl rfl rfl rfl rfl ?_))
 exact ZaA ⟨⟨_,_,_,_,_⟩,⟨0,0,_,_,_,[]⟩⟩ [0,1,4,2] ⟨hr88,rfl,ZW.lit0,hr90⟩ t4 rfl
 refine (ZK (parts:=[]) [] rfl rfl Tryz.underlying31 Zcb Zf9 rfl rfl rfl rfl rfl (fun b91=>⟨⟨Kn.le.refl _,t1⟩,(ZL 2 kr rfl kr (ZK (parts:=[]) [] rfl rfl Tryz.underlying30 Zbe ZdP rfl rfl rfl rfl rfl (fun b92=>?_)))⟩))
 refine ⟨⟨Kn.le.refl _,t1⟩,(ZL 5 kr rfl kr (ZbY (R:=Zm) 4 rfl (ZW.lit0 (R:=Zm)) rfl rfl rfl Znr ZnF rfl rfl rfl hu.rows Zm.one rfl om (fun l93 p93 c93 hv93=>?_)))⟩
 refine ⟨⟨Kn.le.refl _,t1⟩,(ZaJ 4 rfl hv93 Zm.mono om3 (fun B' hle'=>⟨hle',t1⟩) (fun B94 hle94 hr94=>?_))⟩
 replace hu:=hu.mono Zm.mono hle94
 replace hf:=hf.mono Zk.mono hle94
 replace hi:=hi.mono Zs.mono hle94
 have hr94n:=hr94.len
 refine ZL 9 kr rfl kr (ZX rfl rfl Zji rfl (Zan _ _ x.queue _ hi) ?_)
 rintro _ B95 _ hle95 ⟨l95,a95,c95,rfl,rfl,hv95⟩
 replace hu:=hu.mono Zm.mono hle95
 replace hf:=hf.mono Zk.mono hle95
 replace hi:=hi.mono Zs.mono hle95
 replace hr94:=hr94.mono Zm.mono hle95
 replace hv95:=hv95.mono Zs.mono Kn.less_le
 refine ⟨⟨(hle94.trans hle95),t1⟩,(ZaJ 5 rfl hv95 Zs.mono om3 (fun B' hle'=>⟨(hle94.trans hle95).trans hle',t1⟩) (fun B96 hle96 hr96=>?_))⟩
 replace hu:=hu.mono Zm.mono hle96
 replace hf:=hf.mono Zk.mono hle96
 replace hi:=hi.mono Zs.mono hle96
 replace hr94:=hr94.mono Zm.mono hle96
 have hr96n:=hr96.len
 refine aT 10 rfl (Z6 fun D B L hI=>ZaB (parts:=[(0,_),(1,_),(2,_),(3,_)]) [_,_,_,_,_] [_,_,_,_,_] rfl rfl ZgU Zcn rfl rfl rfl r4) (h:=Zat 12 kr rfl kr kr kr (Z4 [_,_,_,_,_] 2 [_,_,_,_,_] rfl rfl Zde rfl rfl rfl rfl rfl rfl rfl rfl ?_))
 exact ZaA ⟨⟨_,_,_,_,_⟩,⟨0,0,_,_,_,[]⟩⟩ [0,1,3,2] ⟨hr94,rfl,ZW.lit0,hr96⟩ t4 rfl
 obtain ⟨hou,hoe,hv0,hoi⟩:=hF
 replace hu:=hu.mono Zm.mono hle3
 replace hf:=hf.mono Zk.mono hle3
 replace hi:=hi.mono Zs.mono hle3
 refine ZG [(0,_),(1,_),(2,_),(3,_)] [_,_,_,_] t4 rfl (Ze (Za (xA (h:=Zl (ZA (α:=Gh DFolder) [0,1,2,3] (fun g=>[(4,.int .i64 g.k)]) [2,3] (fun g=>[g.l,Z7 o.1.b [str x.domain,.slice o.1.q1 x.users.length o.1.c1,.slice g.a g.xs.length g.c,.int .i64 x.queue.next,.slice o.1.q3 x.queue.items.length o.1.c3] 36]) (fun g Bx=>g.k≤x.folders.length∧g.xs=x.folders.take g.k∧ZW Bx g.l g.a g.c 75 5 Zk g.xs) (fun g=>x.folders.length - g.k) ⟨0,0,_,_,_,_⟩ t1 rfl (⟨Nat.zero_le _,by rw [hoe];rfl,hv0⟩) (fun g B97 hle97 hI=>?_))))))
 obtain ⟨hk,hxs,hv⟩:=hI
 have hxn:=congrArg List.length hxs
 rw [List.length_take] at hxn
 replace hu:=hu.mono Zm.mono hle97
 replace hf:=hf.mono Zk.mono hle97
 replace hi:=hi.mono Zs.mono hle97
 replace hou:=hou.mono Zm.mono hle97
 replace hoi:=hoi.mono Zs.mono hle97
 refine ZG [(0,_),(1,_),(2,_),(3,_),(4,_)] [_,_,_,_] t5 rfl (Ze (Za (xM (h:=xW ZaI (h:=x1 ZfF 0 (h:=xV Tryz.underlying31 (h:=ZI (h:=Zc rfl (fun g1=>?_) (fun g1=>?_)))))))))
 try simp only [sQ,ne_eq] at g1
 refine Zf (Zd (Ze (Zl (Zaa (keeps _ [0,3] _) mo kr ⟨Kn.le.refl _,ZbD.refl _ _⟩ (fun _ _=>?_)))))
 refine aW 0 rfl ZaI (h:=aT 1 rfl (Z6 fun D B L hI=>Zr rfl rfl ZfF rfl (atL 3 (hI.2.2.1.trans rfl) rfl rfl) r4) (h:=aW 2 rfl ZaI (h:=aT 3 rfl (Z6 fun D B L hI=>Zr rfl rfl ZfF rfl (atL 0 (hI.2.1.trans rfl) rfl rfl) r4) (h:=aM 4 rfl (h:=?_)))))
 obtain ⟨w,hw⟩:=ZZ (xs:=x.folders) (i:=g.k) om
 obtain ⟨bb99,oo99,rfl⟩:=hf.base hw
 obtain ⟨_,⟨qg100,cg100,qm100,cm100,rfl,hg100,hm100,hb100,hb100b⟩,hc100⟩:=hf.elem hw
 have hg100n:=hg100.len
 have hm100n:=hm100.len
 have hm100s:=Zay hm100
 refine aIx 5 rfl Tryz.underlying31 Zcb (h:=aT 6 rfl (Z6 fun D B L hI=>Zab [_,_,_,_,_] rfl rfl Ziq rfl (Zl7 (hc100.mono hI.1) 0 rfl rfl) r4) (h:=ZL 7 kr rfl kr (ZX rfl rfl ZxQ rfl (Zli _ _ _ _ w _ hg100 hm100) ?_)))
 rintro _ B101 _ hle101 ⟨rfl,l101,a101,c101,l101b,a101b,c101b,rfl,rfl,hs101,hs101b⟩
 refine ⟨⟨Kn.le.refl _,t2⟩,(ZaJ 4 rfl hs101 Z5.mono om3 (fun B' hle'=>⟨hle',t2⟩) (fun B102 hle102 hr102=>?_))⟩
 replace hu:=hu.mono Zm.mono hle102
 replace hf:=hf.mono Zk.mono hle102
 replace hi:=hi.mono Zs.mono hle102
 replace hg100:=hg100.mono Z5.mono hle102
 replace hm100:=hm100.mono Z3.mono hle102
 replace hc100:=hc100.mono hle102
 replace hv:=hv.mono Zk.mono hle102
 replace hou:=hou.mono Zm.mono hle102
 replace hoi:=hoi.mono Zs.mono hle102
 replace hs101b:=hs101b.mono Z3.mono hle102
 have hr102n:=hr102.len
 refine ZaJ 5 rfl hs101b Z3.mono om3 (fun B' hle'=>⟨hle102.trans hle',t2⟩) (fun B103 hle103 hr103=>?_)
 replace hu:=hu.mono Zm.mono hle103
 replace hf:=hf.mono Zk.mono hle103
 replace hi:=hi.mono Zs.mono hle103
 replace hg100:=hg100.mono Z5.mono hle103
 replace hm100:=hm100.mono Z3.mono hle103
 replace hc100:=hc100.mono hle103
 replace hr102:=hr102.mono Z5.mono hle103
 replace hv:=hv.mono Zk.mono hle103
 replace hou:=hou.mono Zm.mono hle103
 replace hoi:=hoi.mono Zs.mono hle103
 have hr103n:=hr103.len
 refine ZL 8 kr rfl kr (ZK (parts:=[(0,_)]) [_,_,_,_,_] rfl rfl Tryz.underlying31 Zcb Zf9 rfl rfl rfl rfl rfl (fun b104=>?_))
 refine ⟨⟨(hle102.trans hle103),t2⟩,(ZL 9 kr rfl kr (ZfK (z:=⟨w.owner,w.name,w.grants,w.next,w.mail⟩) (R:=Zk) 2 rfl hv rfl rfl rfl Zu9 Zxj rfl rfl (ZbG.box 6 rfl) rfl rfl (⟨_,_,_,_,rfl,hr102,hr103,by first | assumption | omega | (simp;done) | (simp;omega),by first | assumption | omega | (simp;done) | (simp;omega)⟩) om (fun l105 p105 c105 hv105=>?_)))⟩
 refine ⟨⟨(hle102.trans hle103),t2⟩,(aW 10 rfl ZaI (h:=Zat 11 kr rfl kr kr kr (Z4 [_] 3 [_,_,_,_,_] rfl rfl Zxh rfl rfl rfl rfl rfl rfl rfl rfl ?_)))⟩
 refine ZT (Zd (Zg (xM (h:=xD (h:=xA (h:=?_))))))
 exact ZF ⟨g.k+1,0,l105,p105,c105,(g.xs ++ [⟨w.owner,w.name,w.grants,w.next,w.mail⟩])⟩ [0,1,2,3] so2 ⟨so,by simp only [];rw [ZaF hw,hxs],hv105⟩ t5 rfl
 try simp only [sQ,ne_eq] at g1
 have hxe:g.xs=x.folders:=by rw [hxs];exact List.take_of_length_le oz
 refine ZH (Z0 (ZJ (Zw (Zd (Za (xL [_,_,_,_,_] ZcA 3 (h:=xS [_,_,_,_,_] 1 [_,_,_,_,_] Zde (h:=ZB [_,_,_,_] rfl (Zh ?_)))))))))
 exact ZaW .ret (.inl rfl) [_] [2] rfl ⟨⟨_,rfl,.inr ⟨[_,_,_,_,_],ZcA,ZbH 1 rfl rfl rfl,rfl⟩⟩,trivial⟩ ⟨_,_,_,_,_,_,_,rfl,by rw [← hxe];rfl,hou,hxe ▸ hv,hoi⟩

set_option maxHeartbeats 400000 in
theorem Zlj (q:Option Addr) (cp:Nat) (x:DBox) (fl:Int) (t:Str) (ht:t.length≤2000000) (hb:ZdL x=true) (B:Kn) (hm:SlK B q cp 3 Z3 x.mail):Zx (pj J) 120 [.agg #[.int .i64 x.next,.slice q x.mail.length cp],.int .i64 fl,str t] B [] (fun v B' Ls=>∃l a c,Ls=[l]∧v = .tuple #[.agg #[.int .i64 (Zfd x fl t).1.next,.slice a (Zfd x fl t).1.mail.length c],.bool (Zfd x fl t).2]∧ZW B' l a c 205 3 Z3 (Zfd x fl t).1.mail):=by
 refine Zb 36 Tryz.func120 rfl rfl rfl (Nat.le_of_ble_eq_true rfl) ?_
 have hxn:=hm.len
 have hbn:=ZeW hb
 refine Za (xBx [_,_] (h:=fun b1=>xAl [_,_] ZnI (h:=fun b2=>xA (h:=ZB [_,_] rfl (Za (xL [_,_] Zfs 0 (h:=Zp (ZX rfl rfl ZuG rfl (Zkf _ _ (⟨x.next,x.mail⟩:DBox) _ hm) ?_))))))))
 rintro _ B3 _ hle3 ⟨hB3,l3,a3,c3,rfl,rfl,hs3⟩
 have hB3:=hB3.symm
 subst hB3
 refine xAl [_,_] ZnI (h:=fun b4=>xS [_,_] 3 [_,_] ZjO (h:=ZB [_,_,_,_] rfl (Ze (Za (xW Zbu (h:=x1 Zir 0 (h:=xV Tryz.underlying71 (h:=Zel (h:=xM (h:=Zz (d:=15) rfl (fun g1=>?_) (fun g1=>?_)))))))))))
 try simp only [sQ,ne_eq] at g1
 have hae:=Zf7 (fl:=fl) (t:=t) (b:=x) (.inl oz)
 rw [hae]
 refine xP (h:=xP (h:=xP (h:=xT (h:=Zc (t:=true) rfl (fun _=>Za (xL [_,_] Zfs 3 (h:=xS [_,_] 1 [_,_] ZjO (h:=xA (h:=ZB [_,_,_,_] rfl (Zh (Zq ?_))))))) (fun h=>Bool.noConfusion h)))))
 exact ZaW .ret (.inl rfl) [_,_] [2] rfl ⟨⟨_,rfl,.inr ⟨[_,_],Zfs,ZbH 1 rfl rfl rfl,rfl⟩⟩,rfl,trivial⟩ ⟨_,_,_,rfl,rfl,hs3⟩
 try simp only [sQ,ne_eq] at g1
 refine xW ZcG (h:=x1 lk3 0 (h:=Zdb (h:=xF (h:=Zc rfl (fun g2=>?_) (fun g2=>?_)))))
 try simp only [sQ,ne_eq] at g2
 have hae:=Zf7 (fl:=fl) (t:=t) (b:=x) (.inr oz)
 rw [hae]
 refine Za (xL [_,_] Zfs 3 (h:=xS [_,_] 1 [_,_] ZjO (h:=xA (h:=ZB [_,_,_,_] rfl (Zh (Zq ?_))))))
 exact ZaW .ret (.inl rfl) [_,_] [2] rfl ⟨⟨_,rfl,.inr ⟨[_,_],Zfs,ZbH 1 rfl rfl rfl,rfl⟩⟩,rfl,trivial⟩ ⟨_,_,_,rfl,rfl,hs3⟩
 try simp only [sQ,ne_eq] at g2
 have hae:=ZpT (fl:=fl) (t:=t) (b:=x) oz
 rw [hae]
 refine Zf (Zd (Za (xW Zbu (h:=x1 Zir 3 (h:=xW ZcG (h:=x1 lk3 0 (h:=xM (h:=xM (h:=xB [(0,_),(1,_),(2,_)] [_,_,_] [_,_,_] Zt8 Zga (h:=xBs [(0,_)] [_,_,_] Tryz.underlying71 Zcx Zga (h:=fun b5=>Zp (ZfK (z:=⟨x.next,fl,t⟩) (R:=Z3) 2 rfl hs3 rfl rfl rfl Ztr Zu5 rfl rfl (ZbG.box 4 rfl) rfl rfl (⟨rfl,by first | assumption | omega | (simp;done) | (simp;omega)⟩) om (fun l6 p6 c6 hv6=>?_)))))))))))))
 refine xW Zbu (h:=xS [_] 3 [_,_] ZvC (h:=ZB [_,_,_,_,_] rfl (Za (xW ZcG (h:=x1 lk3 0 (h:=xD (h:=xW ZcG (h:=xS [_] 3 [_,_] sz3 (h:=ZB [_,_,_,_,_] rfl (Za (xL [_,_] Zfs 3 (h:=xS [_,_] 1 [_,_] ZjO (h:=?_)))))))))))))
 refine xA (h:=ZB [_,_,_,_,_] rfl (Zh ?_))
 exact ZaW .ret (.inl rfl) [_,_] [2] rfl ⟨⟨_,rfl,.inr ⟨[_,_],Zfs,ZbH 1 rfl rfl rfl,rfl⟩⟩,rfl,trivial⟩ ⟨_,_,_,rfl,rfl,hv6⟩

set_option maxHeartbeats 400000 in
theorem Zmj (q1 q2 q3:Option Addr) (c1 c2 c3:Nat) (x:DHost) (k fl:Int) (t:Str) (ht:t.length≤20) (hok:Zad x=true) (hk0:0≤k) (hk1:k<x.folders.length) (hd:x.domain.length≤2000000) (B:Kn) (hu:SlK B q1 c1 3 Zm x.users) (hf:SlK B q2 c2 5 Zk x.folders) (hi:SlK B q3 c3 4 Zs x.queue.items):Zx (pj J) 66 [.agg #[str x.domain,.slice q1 x.users.length c1,.slice q2 x.folders.length c2,.int .i64 x.queue.next,.slice q3 x.queue.items.length c3],.int .i64 k,.int .i64 fl,str t] B [] (fun v B' Ls=>Ls=[]∧∃p1 d1 p2 d2 p3 d3,v = .tuple #[.agg #[str (Zaf x k.toNat fl t).1.domain,.slice p1 (Zaf x k.toNat fl t).1.users.length d1,.slice p2 (Zaf x k.toNat fl t).1.folders.length d2,.int .i64 (Zaf x k.toNat fl t).1.queue.next,.slice p3 (Zaf x k.toNat fl t).1.queue.items.length d3],.int .i64 (Zaf x k.toNat fl t).2]∧SlK B' p1 d1 3 Zm (Zaf x k.toNat fl t).1.users∧SlK B' p2 d2 5 Zk (Zaf x k.toNat fl t).1.folders∧SlK B' p3 d3 4 Zs (Zaf x k.toNat fl t).1.queue.items∧(Zaf x k.toNat fl t).1.domain.length≤2000000):=by
 refine Zb 61 Tryz.func66 rfl rfl rfl (Nat.le_of_ble_eq_true rfl) ?_
 have hun:=hu.len
 have hfn:=hf.len
 have hin:=hi.len
 obtain ⟨f,hf0⟩ :∃f,x.folders[k.toNat]? = some f:=⟨_,List.getElem?_eq_getElem oz⟩
 have hfo:=ZeB hok hf0
 have hbo:=Zgq hfo
 have hub:=Zlr hok f.owner
 have hoi:0≤ZfG x.users f.owner:=ZaX.2 (ZgV hfo)
 have hol:=Zo2 x.users f.owner
 refine Za (xBx [_,_,_,_,_] (h:=fun b1=>xAl [_,_,_,_,_] Zcn (h:=fun b2=>xA (h:=ZB [_,_] rfl (Za (xL [_,_,_,_,_] ZcA 0 (h:=Zp (ZX rfl rfl Zxx rfl (Zkd _ _ _ _ _ _ x _ hu hf hi) ?_))))))))
 rintro _ B3 _ hle3 ⟨l3,a3,c3,q13,c13,q33,c33,rfl,rfl,hu3,hs3,hi3⟩
 replace hu:=hu.mono Zm.mono hle3
 replace hf:=hf.mono Zk.mono hle3
 replace hi:=hi.mono Zs.mono hle3
 have hu3n:=hu3.len
 have hi3n:=hi3.len
 refine xAl [_,_,_,_,_] Zcn (h:=fun b4=>xS [_,_,_,_,_] 3 [_,_,_,_,_] Zde (h:=ZB [_,_,_,_] rfl (Za (xW ZaI (h:=x1 ZfF 0 (h:=xM (h:=?_)))))))
 obtain ⟨bb5,oo5,rfl⟩:=hf.base hf0
 obtain ⟨_,⟨qg6,cg6,qm6,cm6,rfl,hg6,hm6,hb6,hb6b⟩,hc6⟩:=hf.elem hf0
 have hg6n:=hg6.len
 have hm6n:=hm6.len
 have hm6s:=Zay hm6
 refine xIx Tryz.underlying31 Zcb (h:=xW Zca (h:=y1 lk9 hc6 0 (h:=xA (h:=Ze (Ze (Zaa (same _ _) mo kr ⟨rfl,rfl⟩ (fun _ _=>?_)))))))
 refine aT 0 rfl (Zam fun D=>Zab [_,_,_,_,_] rfl rfl ZcA rfl (ZbH 0 rfl rfl rfl) r4) (h:=aM 1 rfl (h:=aT 2 rfl (Zam fun D=>Zak rfl rfl Zxt rfl (Zka _ _ _ _ _ _ x _ _ hf) r4) (h:=aM 3 rfl (h:=aT 4 rfl (Zam fun D=>ZnT rfl rfl Tryz.underlying9 rfl r4) (h:=aD 5 rfl (h:=aW 6 rfl ZbK (h:=aT 7 rfl (Zam fun D=>Zr rfl rfl Zis rfl (atL 0 rfl rfl rfl) r4) (h:=aW 8 rfl ZbK (h:=aT 9 rfl (Zam fun D=>Zr rfl rfl Zis rfl (atL 0 rfl rfl rfl) r4) (h:=aM 10 rfl (h:=aT 11 rfl (Zam fun D=>Zak rfl rfl Zvb rfl (ZfZ _ _ _ _ _ hu) r4) (h:=?_))))))))))))
 obtain ⟨w,hw⟩:=Zuu (xs:=x.users) (i:=(ZfG x.users f.owner)) om om
 obtain ⟨bb10,oo10,rfl⟩:=hu.base hw
 obtain ⟨_,⟨rfl,hb11,hb11b⟩,hc11⟩:=hu.elem hw
 refine aIx 12 rfl Tryz.underlying30 Zbe (h:=?_)
 have hqe:Zdp x.users f.owner=w.quota:=by simp only [Zdp,hw]
 refine aW 13 rfl Zc5 (h:=aT 14 rfl (Zam fun D=>Zr rfl rfl lk3 rfl (hc11 _ 2 _ rfl) r4) (h:=ZnA 15 rfl (h:=ZC kr kr ?_)))
 refine Zd (Zc rfl (fun g1=>?_) (fun g1=>?_))
 try simp only [sQ,ne_eq] at g1
 refine Za (xL [_,_,_,_,_] ZcA 3 (h:=Zih 2 rfl hs3 Zk.mono om3 (fun B12 hle12 hr12=>?_)))
 replace hu:=hu.mono Zm.mono hle12
 replace hf:=hf.mono Zk.mono hle12
 replace hi:=hi.mono Zs.mono hle12
 replace hu3:=hu3.mono Zm.mono hle12
 replace hi3:=hi3.mono Zs.mono hle12
 have hr12n:=hr12.len
 refine xS [_,_,_,_,_] 1 [_,_,_,_,_] Zde (h:=?_)
 rw [Zhl hf0 oz]
 refine xA (h:=ZB [_,_,_,_] rfl (Zh (Zq ?_)))
 exact ZaW .ret (.inl rfl) [_,_] [] rfl ⟨⟨_,rfl,.inr ⟨[_,_,_,_,_],ZcA,ZbH 1 rfl rfl rfl,rfl⟩⟩,rfl,trivial⟩ ⟨rfl,_,_,_,_,_,_,(by first | rfl | (simp only [DHost.withFolders,List.length_set];rfl)),hu3,hr12,hi3,by first | assumption | (rw [ZbT.2.2.1];assumption)⟩
 try simp only [sQ,ne_eq] at g1
 have hal:=Zjq (⟨f.next,f.mail⟩:DBox) fl t
 have hfl:=hbo
 have hfm:f.mail.length≤10:=(ZeW hbo).2.2
 replace hal:(Zfd (⟨f.next,f.mail⟩:DBox) fl t).1.mail.length≤f.mail.length+1:=hal
 refine Zf (Zd (Za (xW ZaI (h:=x1 ZfF 0 (h:=xM (h:=xIx Tryz.underlying31 Zcb (h:=xW Zb9 (h:=yL [_,_] Zfs hc6 3 (h:=xM (h:=xM (h:=Zp (ZX rfl rfl ZwW rfl (Zlj _ _ (⟨f.next,f.mail⟩:DBox) fl t oz (oy) _ hm6) ?_))))))))))))
 rintro _ B13 _ hle13 ⟨l13,a13,c13,rfl,rfl,hs13⟩
 replace hu:=hu.mono Zm.mono hle13
 replace hf:=hf.mono Zk.mono hle13
 replace hi:=hi.mono Zs.mono hle13
 replace hg6:=hg6.mono Z5.mono hle13
 replace hm6:=hm6.mono Z3.mono hle13
 replace hc6:=hc6.mono hle13
 replace hs3:=hs3.mono Zk.mono hle13
 replace hu3:=hu3.mono Zm.mono hle13
 replace hi3:=hi3.mono Zs.mono hle13
 replace hs13:=hs13.anyK (B':=B13) Z3.any
 refine xM (h:=xE (h:=Zih 4 rfl hs13 Z3.mono om3 (fun B14 hle14 hr14=>?_)))
 replace hu:=hu.mono Zm.mono hle14
 replace hf:=hf.mono Zk.mono hle14
 replace hi:=hi.mono Zs.mono hle14
 replace hg6:=hg6.mono Z5.mono hle14
 replace hm6:=hm6.mono Z3.mono hle14
 replace hc6:=hc6.mono hle14
 replace hs3:=hs3.mono Zk.mono hle14
 replace hu3:=hu3.mono Zm.mono hle14
 replace hi3:=hi3.mono Zs.mono hle14
 have hr14n:=hr14.len
 refine xE (h:=xAl [_,_] ZnI (h:=fun b15=>xS [_,_] 5 [_,_] ZjO (h:=xA (h:=ZB [_,_,_,_,_,_] rfl (Ze (Za (xM (h:=xN (h:=Zc rfl (fun g2=>?_) (fun g2=>?_))))))))))
 try simp only [sQ,ne_eq] at g2
 refine Za (xL [_,_,_,_,_] ZcA 3 (h:=Zih 2 rfl hs3 Zk.mono om3 (fun B16 hle16 hr16=>?_)))
 replace hu:=hu.mono Zm.mono hle16
 replace hf:=hf.mono Zk.mono hle16
 replace hi:=hi.mono Zs.mono hle16
 replace hu3:=hu3.mono Zm.mono hle16
 replace hi3:=hi3.mono Zs.mono hle16
 replace hr14:=hr14.mono Z3.mono hle16
 have hr16n:=hr16.len
 refine xS [_,_,_,_,_] 1 [_,_,_,_,_] Zde (h:=?_)
 rw [Zii hf0 oz g2]
 refine xA (h:=ZB [_,_,_,_,_,_] rfl (Zh (Zq ?_)))
 exact ZaW .ret (.inl rfl) [_,_] [] rfl ⟨⟨_,rfl,.inr ⟨[_,_,_,_,_],ZcA,ZbH 1 rfl rfl rfl,rfl⟩⟩,rfl,trivial⟩ ⟨rfl,_,_,_,_,_,_,(by first | rfl | (simp only [DHost.withFolders,List.length_set];rfl)),hu3,hr16,hi3,by first | assumption | (rw [ZbT.2.2.1];assumption)⟩
 try simp only [sQ,ne_eq] at g2
 refine Zf (Zd (Za (xW ZaI (h:=x1 ZfF 3 (h:=xM (h:=xL [_,_] Zfs 5 (h:=?_)))))))
 obtain ⟨bb17,_,hp17,⟨qg17,cg17,qm17,cm17,rfl,hg17,hm17,hb17,hb17b⟩,hw17,hc17⟩:=hs3.row hf0
 have hg17n:=hg17.len
 have hm17n:=hm17.len
 have hm17s:=Zay hm17
 refine xIp hp17 Tryz.underlying31 Zcb (h:=xW Zb9 (h:=Zp (ZgM (k:=(k).toNat) (off:=3) (⟨f.owner,f.name,f.grants,(Zfd f.box fl t).1.next,(Zfd f.box fl t).1.mail⟩) [_,_] 2 hs3 hp17 hf0 rfl rfl ZjO rfl rfl rfl rfl rfl rfl (by rintro _ ⟨_,_,_,_,rfl,e1,_,e3,e4⟩;exact ⟨_,_,_,_,rfl,e1,hr14,e3,e4⟩) (fun l18 hv18=>?_))))
 refine ZB [_,_,_,_,_,_] rfl (Za (xL [_,_,_,_,_] ZcA 3 (h:=Zih 2 rfl hv18 Zk.mono om3 (fun B19 hle19 hr19=>?_))))
 replace hu:=hu.mono Zm.mono hle19
 replace hf:=hf.mono Zk.mono hle19
 replace hi:=hi.mono Zs.mono hle19
 replace hu3:=hu3.mono Zm.mono hle19
 replace hi3:=hi3.mono Zs.mono hle19
 replace hr14:=hr14.mono Z3.mono hle19
 have hr19n:=hr19.len
 refine xS [_,_,_,_,_] 1 [_,_,_,_,_] Zde (h:=?_)
 rw [Zij hf0 oz (show (Zfd (⟨f.next,f.mail⟩:DBox) fl t).2=true by simpa using g2)]
 refine xA (h:=ZB [_,_,_,_,_,_] rfl (Zh ?_))
 exact ZaW .ret (.inl rfl) [_,_] [] rfl ⟨⟨_,rfl,.inr ⟨[_,_,_,_,_],ZcA,ZbH 1 rfl rfl rfl,rfl⟩⟩,rfl,trivial⟩ ⟨rfl,_,_,_,_,_,_,(by first | rfl | (simp only [DHost.withFolders,List.length_set];rfl)),hu3,hr19,hi3,by first | assumption | (rw [ZbT.2.2.1];assumption)⟩

set_option maxHeartbeats 400000 in
theorem ZiO (q1 q2 q3:Option Addr) (c1 c2 c3:Nat) (x:DHost) (id:Int) (u:Str) (hul:u.length≤2000000) (hd:x.domain.length≤2000000) (B:Kn) (hu:SlK B q1 c1 3 Zm x.users) (hf:SlK B q2 c2 5 Zk x.folders) (hi:SlK B q3 c3 4 Zs x.queue.items):Zx (pj J) 25 [.agg #[str x.domain,.slice q1 x.users.length c1,.slice q2 x.folders.length c2,.int .i64 x.queue.next,.slice q3 x.queue.items.length c3],.int .i64 id,str u] B [] (fun v B' Ls=>Ls=[]∧∃p1 d1 p2 d2 p3 d3,v = .tuple #[.agg #[str (ZO x id u).1.domain,.slice p1 (ZO x id u).1.users.length d1,.slice p2 (ZO x id u).1.folders.length d2,.int .i64 (ZO x id u).1.queue.next,.slice p3 (ZO x id u).1.queue.items.length d3],.int .i64 (ZO x id u).2]∧SlK B' p1 d1 3 Zm (ZO x id u).1.users∧SlK B' p2 d2 5 Zk (ZO x id u).1.folders∧SlK B' p3 d3 4 Zs (ZO x id u).1.queue.items∧(ZO x id u).1.domain.length≤2000000):=by
 refine Zb 45 Tryz.func25 rfl rfl rfl (Nat.le_of_ble_eq_true rfl) ?_
 have hun:=hu.len
 have hfn:=hf.len
 have hin:=hi.len
 have hix:=Zo3 (inF u inbox) x.folders
 refine Za (xBx [_,_,_,_,_] (h:=fun b1=>xAl [_,_,_,_,_] Zcn (h:=fun b2=>xA (h:=ZB [_,_] rfl (Ze (Za (xL [_,_,_,_,_] ZcA 0 (h:=xR Zyo rfl (ZmS _ _ _ _ _ _ x om2 _ hu hf hi) (h:=?_)))))))))
 refine xN (h:=Zc rfl (fun g1=>?_) (fun g1=>?_))
 try simp only [sQ,ne_eq] at g1
 rw [ZO,if_pos g1]
 refine Za (xB [] [_,_,_,_,_] [_,_,_,_,_] ZgU Zcn (h:=xS [_,_,_,_,_] 1 [_,_,_,_,_] Zde (h:=xA (h:=ZB [_,_] rfl (Zh (Zq ?_))))))
 exact ZaW .ret (.inl rfl) [_,_] [] rfl ⟨⟨_,rfl,.inr ⟨[_,_,_,_,_],ZcA,ZbH 1 rfl rfl rfl,rfl⟩⟩,rfl,trivial⟩ ⟨rfl,none,0,none,0,none,0,rfl,SlK.nil,SlK.nil,SlK.nil,by simp [Zho]⟩
 try simp only [sQ,ne_eq] at g1
 have hok:Zad x=true:=by simpa using g1
 have hnn : ¬ Zad x=false:=by simp [hok]
 have htl:(ZaZ x.queue id u).1.items.length≤x.queue.items.length:=Zhc id u x.queue.items
 refine Zf (Zd (Za (xW ZbE (h:=xL [_,_] Zed 0 (h:=xM (h:=xM (h:=Zp (ZX rfl rfl ZxZ rfl (ZoT _ _ x.queue id u _ hi) ?_))))))))
 rintro _ B4 _ hle4 ⟨l4,a4,c4,rfl,rfl,hv4,ht4⟩
 replace hu:=hu.mono Zm.mono hle4
 replace hf:=hf.mono Zk.mono hle4
 replace hi:=hi.mono Zs.mono hle4
 replace hv4:=hv4.mono Zs.mono Kn.less_le
 refine xM (h:=xE (h:=Zih 2 rfl hv4 Zs.mono om3 (fun B5 hle5 hr5=>?_)))
 replace hu:=hu.mono Zm.mono hle5
 replace hf:=hf.mono Zk.mono hle5
 replace hi:=hi.mono Zs.mono hle5
 have hr5n:=hr5.len
 refine xE (h:=xE (h:=xAl [_,_] Zjr (h:=fun b6=>xS [_,_] 3 [_,_] ZgF (h:=xA (h:=xA (h:=ZB [_,_,_,_] rfl (Ze (Za (xM (h:=xN (h:=Zc rfl (fun g2=>?_) (fun g2=>?_))))))))))))
 try simp only [sQ,ne_eq] at g2
 refine Za (xL [_,_,_,_,_] ZcA 0 (h:=Zp (ZX rfl rfl Zxx rfl (Zkd _ _ _ _ _ _ x _ hu hf hi) ?_)))
 rintro _ B7 _ hle7 ⟨l7,a7,c7,q17,c17,q37,c37,rfl,rfl,hu7,hs7,hi7⟩
 replace hu:=hu.mono Zm.mono hle7
 replace hf:=hf.mono Zk.mono hle7
 replace hi:=hi.mono Zs.mono hle7
 replace hr5:=hr5.mono Zs.mono hle7
 have hu7n:=hu7.len
 have hi7n:=hi7.len
 refine Zih 4 rfl hs7 Zk.mono om3 (fun B8 hle8 hr8=>?_)
 replace hu:=hu.mono Zm.mono hle8
 replace hf:=hf.mono Zk.mono hle8
 replace hi:=hi.mono Zs.mono hle8
 replace hu7:=hu7.mono Zm.mono hle8
 replace hi7:=hi7.mono Zs.mono hle8
 replace hr5:=hr5.mono Zs.mono hle8
 have hr8n:=hr8.len
 refine xS [_,_,_,_,_] 1 [_,_,_,_,_] Zde (h:=?_)
 rw [ZO,if_neg hnn,if_pos g2]
 refine xA (h:=ZB [_,_,_,_,_] rfl (Zh (Zq ?_)))
 exact ZaW .ret (.inl rfl) [_,_] [] rfl ⟨⟨_,rfl,.inr ⟨[_,_,_,_,_],ZcA,ZbH 1 rfl rfl rfl,rfl⟩⟩,rfl,trivial⟩ ⟨rfl,_,_,_,_,_,_,(by first | rfl | (simp only [DHost.withFolders,List.length_set];rfl)),hu7,hr8,hi7,by first | assumption | (rw [ZbT.2.2.1];assumption)⟩
 try simp only [sQ,ne_eq] at g2
 have hn2 : ¬ (ZaZ x.queue id u).2.2=false:=by simpa using g2
 have hdt:=ZgL (id:=id) (u:=u) hok
 have hda:0≤Zb4 (inF u inbox) x.folders:=ZeU hok (by simpa using g2)
 have hda2:0≤Zb4 (inF u [105,110,98,111,120]) x.folders:=hda
 have hix2:Zb4 (inF u [105,110,98,111,120]) x.folders<x.folders.length:=hix.1
 refine Zf (Zd (Ze (Zaa (keeps _ [0] _) mo kr ⟨Kn.le.refl _,ZbD.refl _ _⟩ (fun _ _=>?_))))
 refine aT 0 rfl (Z6 fun D B L hI=>Zab [_,_,_,_,_] rfl rfl ZcA rfl (ZbH 0 (hI.2.1.trans rfl) rfl rfl) r4) (h:=aT 1 rfl (Z6 fun D B L hI=>Zab [_,_,_,_,_] rfl rfl ZcA rfl (ZbH 0 (hI.2.1.trans rfl) rfl rfl) r4) (h:=aM 2 rfl (h:=aT 3 rfl (Z6 fun D B L hI=>Zak rfl rfl Zxw rfl (Zkc _ _ _ _ _ _ x u [105,110,98,111,120] om2 om2 _ (hf.mono Zk.mono hI.1)) r4) (h:=?_))))
 refine aM 4 rfl (h:=Za6 [5,9] kr kr kr ⟨?_,?_⟩)
 refine (Zgb rfl rfl Zxv rfl (Zmj _ _ _ _ _ _ x (Zb4 (inF u [105,110,98,111,120]) x.folders) 0 ((ZaZ x.queue id u).2.1) om2 (oy) oz oz om2 _ hu hf hi) ?_)
 intro v10 B10 hle10
 rintro ⟨p110,d110,p210,d210,p310,d310,rfl,hu10,hf10,hi10,hd10⟩
 replace hu:=hu.mono Zm.mono hle10
 replace hf:=hf.mono Zk.mono hle10
 replace hi:=hi.mono Zs.mono hle10
 replace hr5:=hr5.mono Zs.mono hle10
 have hu10n:=hu10.len
 have hf10n:=hf10.len
 have hi10n:=hi10.len
 refine ⟨⟨hle10,t1⟩,(aM 6 rfl (h:=aE 7 rfl (h:=aE 8 rfl (h:=ZL 9 kr rfl kr (ZaY (l:=[_,_,_,_,_]) rfl rfl Zcn rfl (fun b11=>?_))))))⟩
 refine ⟨⟨hle10,t1⟩,(ZeG 10 kr rfl kr kr (Z4 [_,_,_,_,_] 4 [_,_,_,_,_] rfl rfl Zde rfl rfl rfl rfl rfl rfl rfl rfl ?_))⟩
 refine aA 11 rfl (h:=ZC kr kr ?_)
 refine Zd (ZB [_,_,_,_,_] rfl (Ze (Za (xM (h:=ZaT (h:=Zc rfl (fun g3=>?_) (fun g3=>?_)))))))
 try simp only [sQ,ne_eq] at g3
 rw [ZO,if_neg hnn,if_neg hn2,if_pos (show (Zaf x (Zb4 (inF u inbox) x.folders).toNat 0 (ZaZ x.queue id u).2.1).2≠4 from g3)]
 refine Zg (xL [_,_] Zed 3 (h:=xW ZbE (h:=xS [_,_] 4 [_,_,_,_,_] ZgF (h:=Zd (Za (xL [_,_,_,_,_] ZcA 4 (h:=xM (h:=xS [_,_,_,_,_] 1 [_,_,_,_,_] Zde (h:=xA (h:=ZB [_,_,_,_,_] rfl (Zh ?_)))))))))))
 exact ZaW .ret (.inl rfl) [_,_] [] rfl ⟨⟨_,rfl,.inr ⟨[_,_,_,_,_],ZcA,ZbH 1 rfl rfl rfl,rfl⟩⟩,rfl,trivial⟩ ⟨rfl,_,_,_,_,_,_,(by first | rfl | (simp only [DHost.withFolders,List.length_set];rfl)),hu10,hf10,hr5,by first | assumption | (rw [ZbT.2.2.1];assumption)⟩
 try simp only [sQ,ne_eq] at g3
 rw [ZO,if_neg hnn,if_neg hn2,if_neg (show ¬ (Zaf x (Zb4 (inF u inbox) x.folders).toNat 0 (ZaZ x.queue id u).2.1).2≠4 from fun h=>h g3)]
 refine Zf (Zd (Za (xL [_,_,_,_,_] ZcA 4 (h:=xM (h:=xS [_,_,_,_,_] 1 [_,_,_,_,_] Zde (h:=xA (h:=ZB [_,_,_,_,_] rfl (Zh ?_))))))))
 exact ZaW .ret (.inl rfl) [_,_] [] rfl ⟨⟨_,rfl,.inr ⟨[_,_,_,_,_],ZcA,ZbH 1 rfl rfl rfl,rfl⟩⟩,rfl,trivial⟩ ⟨rfl,_,_,_,_,_,_,(by first | rfl | (simp only [DHost.withFolders,List.length_set];rfl)),hu10,hf10,hi10,by first | assumption | (rw [ZbT.2.2.1];assumption)⟩
 refine (ZaY (l:=[_,_,_,_,_]) rfl rfl Zcn rfl (fun b12=>⟨⟨Kn.le.refl _,t1⟩,(ZL 5 kr rfl kr (Zgb rfl rfl Zxv rfl (Zmj _ _ _ _ _ _ x (Zb4 (inF u [105,110,98,111,120]) x.folders) 0 ((ZaZ x.queue id u).2.1) om2 (oy) oz oz om2 _ hu hf hi) ?_))⟩))
 intro v13 B13 hle13
 rintro ⟨p113,d113,p213,d213,p313,d313,rfl,hu13,hf13,hi13,hd13⟩
 replace hu:=hu.mono Zm.mono hle13
 replace hf:=hf.mono Zk.mono hle13
 replace hi:=hi.mono Zs.mono hle13
 replace hr5:=hr5.mono Zs.mono hle13
 have hu13n:=hu13.len
 have hf13n:=hf13.len
 have hi13n:=hi13.len
 refine ⟨⟨hle13,t1⟩,(aM 6 rfl (h:=aE 7 rfl (h:=aE 8 rfl (h:=ZeG 10 kr rfl kr kr (Z4 [_,_,_,_,_] 4 [_,_,_,_,_] rfl rfl Zde rfl rfl rfl rfl rfl rfl rfl rfl ?_)))))⟩
 refine aA 11 rfl (h:=ZC kr kr ?_)
 refine Zd (ZB [_,_,_,_,_] rfl (Ze (Za (xM (h:=ZaT (h:=Zc rfl (fun g3=>?_) (fun g3=>?_)))))))
 try simp only [sQ,ne_eq] at g3
 rw [ZO,if_neg hnn,if_neg hn2,if_pos (show (Zaf x (Zb4 (inF u inbox) x.folders).toNat 0 (ZaZ x.queue id u).2.1).2≠4 from g3)]
 refine Zg (xL [_,_] Zed 3 (h:=xW ZbE (h:=xS [_,_] 4 [_,_,_,_,_] ZgF (h:=Zd (Za (xL [_,_,_,_,_] ZcA 4 (h:=xM (h:=xS [_,_,_,_,_] 1 [_,_,_,_,_] Zde (h:=xA (h:=ZB [_,_,_,_,_] rfl (Zh ?_)))))))))))
 exact ZaW .ret (.inl rfl) [_,_] [] rfl ⟨⟨_,rfl,.inr ⟨[_,_,_,_,_],ZcA,ZbH 1 rfl rfl rfl,rfl⟩⟩,rfl,trivial⟩ ⟨rfl,_,_,_,_,_,_,(by first | rfl | (simp only [DHost.withFolders,List.length_set];rfl)),hu13,hf13,hr5,by first | assumption | (rw [ZbT.2.2.1];assumption)⟩
 try simp only [sQ,ne_eq] at g3
 rw [ZO,if_neg hnn,if_neg hn2,if_neg (show ¬ (Zaf x (Zb4 (inF u inbox) x.folders).toNat 0 (ZaZ x.queue id u).2.1).2≠4 from fun h=>h g3)]
 refine Zf (Zd (Za (xL [_,_,_,_,_] ZcA 4 (h:=xM (h:=xS [_,_,_,_,_] 1 [_,_,_,_,_] Zde (h:=xA (h:=ZB [_,_,_,_,_] rfl (Zh ?_))))))))
 exact ZaW .ret (.inl rfl) [_,_] [] rfl ⟨⟨_,rfl,.inr ⟨[_,_,_,_,_],ZcA,ZbH 1 rfl rfl rfl,rfl⟩⟩,rfl,trivial⟩ ⟨rfl,_,_,_,_,_,_,(by first | rfl | (simp only [DHost.withFolders,List.length_set];rfl)),hu13,hf13,hi13,by first | assumption | (rw [ZbT.2.2.1];assumption)⟩

set_option maxHeartbeats 400000 in
theorem Zlu (q:Option Addr) (cp:Nat) (xs:List DMail) (k m n:Nat) (hmn:m=n) (he:xs=ZbQ k n) (hk:k+3*n≤900000000000000) (B:Kn) (hx0:SlK B q cp 3 Z3 xs):Zag (pj J) 113 [.slice q m cp,.int .i64 k] B (.int .i64 ((k+3*n:Nat):Int)):=by
 refine Zb 41 Tryz.func113 rfl rfl rfl (Nat.le_of_ble_eq_true rfl) ?_
 have hxn:=hx0.len
 have hxl:xs.length=n:=by rw [he];exact ZaD _ _
 refine Za (xA (h:=Ze (Za (xA (h:=Zl (ZA (α:=Nat) [0] (fun g=>[(1,.int .i64 ((k+3*g:Nat):Int)),(5,.int .i64 g)]) [] (fun g=>[]) (fun g Bx=>Bx=B∧g≤n) (fun g=>n - g) 0 t2 rfl (⟨rfl,Nat.zero_le _⟩) (fun g B1 hle1 hI=>?_)))))))
 obtain ⟨rfl,hi⟩:=hI
 refine ZG [(0,_),(1,_),(5,_)] [] t3 rfl (Ze (Za (xM (h:=xM (h:=xV Tryz.underlying71 (h:=ZI (h:=Zc rfl (fun g1=>?_) (fun g1=>?_))))))))
 try simp only [sQ,ne_eq] at g1
 have hx:xs[g]? = some (⟨((k+3*g:Nat):Int),((k+3*g+1:Nat):Int),ZU (k+3*g+1+1)⟩:DMail):=by rw [he];exact Zk8 oz
 refine Zf (Zd (Ze (Zl (Ze (Za (xM (h:=xM (h:=?_))))))))
 obtain ⟨bb2,oo2,rfl⟩:=hx0.base hx
 obtain ⟨_,⟨rfl,hb3⟩,hc3⟩:=hx0.elem hx
 refine xIx Tryz.underlying71 Zcx (h:=xW ZcB (h:=y1 lk3 hc3 0 (h:=xM (h:=ZaT (h:=Zc rfl (fun h1=>by simp at h1) (fun h1=>?_))))))
 try simp only [sQ,ne_eq] at h1
 refine Zf (Zd (Za (xM (h:=xD (h:=xA (h:=Ze (Za (xM (h:=xM (h:=xIx Tryz.underlying71 Zcx (h:=xW Zfw (h:=y1 lk3 hc3 1 (h:=?_)))))))))))))
 refine xM (h:=ZaT (h:=Zc rfl (fun h2=>by simp at h2) (fun h2=>?_)))
 try simp only [sQ,ne_eq] at h2
 refine Zf (Zd (Za (xM (h:=xD (h:=xA (h:=Ze (Ze (Zaa (same _ _) mo kr ⟨rfl,rfl⟩ (fun _ _=>?_)))))))))
 refine aM 0 rfl (h:=aM 1 rfl (h:=aIx 2 rfl Tryz.underlying71 Zcx (h:=aW 3 rfl Zd3 (h:=aT 4 rfl (Zam fun D=>Zr rfl rfl lk9 rfl (hc3 _ 2 _ rfl) r4) (h:=aM 5 rfl (h:=aT 6 rfl (Zam fun D=>Zak rfl rfl Zej rfl (Zae (((k+3*g)+1)+1) oz _) r4) (h:=?_)))))))
 refine Zfe 7 rfl (h:=ZC kr kr ?_)
 refine Zd (Zc rfl (fun h3=>by simp at h3) (fun h3=>?_))
 try simp only [sQ,ne_eq] at h3
 refine Zf (Zd (Zg (xM (h:=xD (h:=xA (h:=ZT (Zd (Zg (xM (h:=xD (h:=xA (h:=?_))))))))))))
 exact ZF (g+1) [] so2 ⟨rfl,oz⟩ t3 rfl
 try simp only [sQ,ne_eq] at g1
 refine ZH (Z0 (ZJ (Zw (Zd (Za (xM (h:=xA (h:=Zh ?_))))))))
 exact ZE .ret (.inl rfl) [_] t1 ⟨ZN (by rw [show g=n from by omega]),rfl,rfl⟩

set_option maxHeartbeats 400000 in
theorem Zkl (q:Option Addr) (cp:Nat) (xs:List DGrant) (k m n:Nat) (hmn:m=n) (he:xs=Zaz k n) (hk:k+2*n≤900000000000000) (B:Kn) (hx0:SlK B q cp 2 Z5 xs):Zag (pj J) 112 [.slice q m cp,.int .i64 k] B (.int .i64 ((k+2*n:Nat):Int)):=by
 refine Zb 32 Tryz.func112 rfl rfl rfl (Nat.le_of_ble_eq_true rfl) ?_
 have hxn:=hx0.len
 have hxl:xs.length=n:=by rw [he];exact Zaq _ _
 refine Za (xA (h:=Ze (Za (xA (h:=Zl (ZA (α:=Nat) [0] (fun g=>[(1,.int .i64 ((k+2*g:Nat):Int)),(5,.int .i64 g)]) [] (fun g=>[]) (fun g Bx=>Bx=B∧g≤n) (fun g=>n - g) 0 t2 rfl (⟨rfl,Nat.zero_le _⟩) (fun g B1 hle1 hI=>?_)))))))
 obtain ⟨rfl,hi⟩:=hI
 refine ZG [(0,_),(1,_),(5,_)] [] t3 rfl (Ze (Za (xM (h:=xM (h:=xV Tryz.underlying68 (h:=ZI (h:=Zc rfl (fun g1=>?_) (fun g1=>?_))))))))
 try simp only [sQ,ne_eq] at g1
 have hx:xs[g]? = some (⟨ZU (k+2*g),((k+2*g+1:Nat):Int)⟩:DGrant):=by rw [he];exact Zj5 oz
 refine Zf (Zd (Ze (Zl (Ze (Ze (Zaa (same _ _) mo kr ⟨rfl,rfl⟩ (fun _ _=>?_)))))))
 refine aM 0 rfl (h:=aM 1 rfl (h:=?_))
 obtain ⟨bb2,oo2,rfl⟩:=hx0.base hx
 obtain ⟨_,⟨rfl,hb3⟩,hc3⟩:=hx0.elem hx
 refine aIx 2 rfl Tryz.underlying68 Zer (h:=aW 3 rfl ZcC (h:=aT 4 rfl (Zam fun D=>Zr rfl rfl lk9 rfl (hc3 _ 0 _ rfl) r4) (h:=aM 5 rfl (h:=aT 6 rfl (Zam fun D=>Zak rfl rfl Zej rfl (Zae (k+2*g) oz _) r4) (h:=?_)))))
 refine Zfe 7 rfl (h:=ZC kr kr ?_)
 refine Zd (Zc rfl (fun h1=>by simp at h1) (fun h1=>?_))
 try simp only [sQ,ne_eq] at h1
 refine Zf (Zd (Za (xM (h:=xD (h:=xA (h:=Ze (Za (xM (h:=xM (h:=xIx Tryz.underlying68 Zer (h:=xW Zd4 (h:=y1 lk3 hc3 1 (h:=?_)))))))))))))
 refine xM (h:=ZaT (h:=Zc rfl (fun h2=>by simp at h2) (fun h2=>?_)))
 try simp only [sQ,ne_eq] at h2
 refine Zf (Zd (Zg (xM (h:=xD (h:=xA (h:=ZT (Zd (Zg (xM (h:=xD (h:=xA (h:=?_))))))))))))
 exact ZF (g+1) [] so2 ⟨rfl,oz⟩ t3 rfl
 try simp only [sQ,ne_eq] at g1
 refine ZH (Z0 (ZJ (Zw (Zd (Za (xM (h:=xA (h:=Zh ?_))))))))
 exact ZE .ret (.inl rfl) [_] t1 ⟨ZN (by rw [show g=n from by omega]),rfl,rfl⟩

set_option maxHeartbeats 400000 in
theorem Zls (q:Option Addr) (cp:Nat) (xs:List DUser) (k m n:Nat) (hmn:m=n) (he:xs=Zck k n) (hk:k+3*n≤900000000000000) (B:Kn) (hx0:SlK B q cp 3 Zm xs):Zag (pj J) 52 [.slice q m cp,.int .i64 k] B (.int .i64 ((k+3*n:Nat):Int)):=by
 refine Zb 42 Tryz.func52 rfl rfl rfl (Nat.le_of_ble_eq_true rfl) ?_
 have hxn:=hx0.len
 have hxl:xs.length=n:=by rw [he];exact Zbq _ _
 refine Za (xA (h:=Ze (Za (xA (h:=Zl (ZA (α:=Nat) [0] (fun g=>[(1,.int .i64 ((k+3*g:Nat):Int)),(5,.int .i64 g)]) [] (fun g=>[]) (fun g Bx=>Bx=B∧g≤n) (fun g=>n - g) 0 t2 rfl (⟨rfl,Nat.zero_le _⟩) (fun g B1 hle1 hI=>?_)))))))
 obtain ⟨rfl,hi⟩:=hI
 refine ZG [(0,_),(1,_),(5,_)] [] t3 rfl (Ze (Za (xM (h:=xM (h:=xV Tryz.underlying30 (h:=ZI (h:=Zc rfl (fun g1=>?_) (fun g1=>?_))))))))
 try simp only [sQ,ne_eq] at g1
 have hx:xs[g]? = some (⟨ZU (k+3*g),ZU (k+3*g+1),((k+3*g+1+1:Nat):Int)⟩:DUser):=by rw [he];exact Zk6 oz
 refine Zf (Zd (Ze (Zl (Ze (Ze (Zaa (same _ _) mo kr ⟨rfl,rfl⟩ (fun _ _=>?_)))))))
 refine aM 0 rfl (h:=aM 1 rfl (h:=?_))
 obtain ⟨bb2,oo2,rfl⟩:=hx0.base hx
 obtain ⟨_,⟨rfl,hb3,hb3b⟩,hc3⟩:=hx0.elem hx
 refine aIx 2 rfl Tryz.underlying30 Zbe (h:=aW 3 rfl Za5 (h:=aT 4 rfl (Zam fun D=>Zr rfl rfl lk9 rfl (hc3 _ 0 _ rfl) r4) (h:=aM 5 rfl (h:=aT 6 rfl (Zam fun D=>Zak rfl rfl Zej rfl (Zae (k+3*g) oz _) r4) (h:=?_)))))
 refine Zfe 7 rfl (h:=ZC kr kr ?_)
 refine Zd (Zc rfl (fun h1=>by simp at h1) (fun h1=>?_))
 try simp only [sQ,ne_eq] at h1
 refine Zf (Zd (Za (xM (h:=xD (h:=xA (h:=Ze (Ze (Zaa (same _ _) mo kr ⟨rfl,rfl⟩ (fun _ _=>?_)))))))))
 refine aM 0 rfl (h:=aM 1 rfl (h:=aIx 2 rfl Tryz.underlying30 Zbe (h:=aW 3 rfl Zfx (h:=aT 4 rfl (Zam fun D=>Zr rfl rfl lk9 rfl (hc3 _ 1 _ rfl) r4) (h:=aM 5 rfl (h:=aT 6 rfl (Zam fun D=>Zak rfl rfl Zej rfl (Zae ((k+3*g)+1) oz _) r4) (h:=?_)))))))
 refine Zfe 7 rfl (h:=ZC kr kr ?_)
 refine Zd (Zc rfl (fun h2=>by simp at h2) (fun h2=>?_))
 try simp only [sQ,ne_eq] at h2
 refine Zf (Zd (Za (xM (h:=xD (h:=xA (h:=Ze (Za (xM (h:=xM (h:=xIx Tryz.underlying30 Zbe (h:=xW Zc5 (h:=y1 lk3 hc3 2 (h:=?_)))))))))))))
 refine xM (h:=ZaT (h:=Zc rfl (fun h3=>by simp at h3) (fun h3=>?_)))
 try simp only [sQ,ne_eq] at h3
 refine Zf (Zd (Zg (xM (h:=xD (h:=xA (h:=ZT (Zd (Zg (xM (h:=xD (h:=xA (h:=?_))))))))))))
 exact ZF (g+1) [] so2 ⟨rfl,oz⟩ t3 rfl
 try simp only [sQ,ne_eq] at g1
 refine ZH (Z0 (ZJ (Zw (Zd (Za (xM (h:=xA (h:=Zh ?_))))))))
 exact ZE .ret (.inl rfl) [_] t1 ⟨ZN (by rw [show g=n from by omega]),rfl,rfl⟩

set_option maxHeartbeats 400000 in
theorem Znf (q:Option Addr) (cp:Nat) (xs:List Str) (k m n:Nat) (hmn:m=n) (he:xs=Zc0 k n) (hk:k+1*n≤900000000000000) (B:Kn) (hx0:SlK B q cp 1 Zbv xs):Zag (pj J) 163 [.slice q m cp,.int .i64 k] B (.int .i64 ((k+1*n:Nat):Int)):=by
 refine Zb 22 Tryz.func163 rfl rfl rfl (Nat.le_of_ble_eq_true rfl) ?_
 have hxn:=hx0.len
 have hxl:xs.length=n:=by rw [he];exact Zbd _ _
 refine Za (xA (h:=Ze (Za (xA (h:=Zl (ZA (α:=Nat) [0] (fun g=>[(1,.int .i64 ((k+1*g:Nat):Int)),(5,.int .i64 g)]) [] (fun g=>[]) (fun g Bx=>Bx=B∧g≤n) (fun g=>n - g) 0 t2 rfl (⟨rfl,Nat.zero_le _⟩) (fun g B1 hle1 hI=>?_)))))))
 obtain ⟨rfl,hi⟩:=hI
 refine ZG [(0,_),(1,_),(5,_)] [] t3 rfl (Ze (Za (xM (h:=xM (h:=xV Tryz.underlying43 (h:=ZI (h:=Zc rfl (fun g1=>?_) (fun g1=>?_))))))))
 try simp only [sQ,ne_eq] at g1
 have hx:xs[g]? = some (ZU (k+1*g):Str):=by rw [he];exact Zm3 oz
 refine Zf (Zd (Ze (Zl (Ze (Ze (Zaa (same _ _) mo kr ⟨rfl,rfl⟩ (fun _ _=>?_)))))))
 refine aM 0 rfl (h:=aM 1 rfl (h:=?_))
 obtain ⟨bb2,oo2,rfl⟩:=hx0.base hx
 obtain ⟨_,⟨rfl,hb3⟩,hc3⟩:=hx0.elem hx
 refine aIx 2 rfl Tryz.underlying43 sz9 (h:=aT 3 rfl (Zam fun D=>Zr rfl rfl lk9 rfl (hc3 _ 0 _ rfl) r4) (h:=aM 4 rfl (h:=aT 5 rfl (Zam fun D=>Zak rfl rfl Zej rfl (Zae (k+1*g) oz _) r4) (h:=?_))))
 refine Zfe 6 rfl (h:=ZC kr kr ?_)
 refine Zd (Zc rfl (fun h1=>by simp at h1) (fun h1=>?_))
 try simp only [sQ,ne_eq] at h1
 refine Zf (Zd (Zg (xM (h:=xD (h:=xA (h:=ZT (Zd (Zg (xM (h:=xD (h:=xA (h:=?_))))))))))))
 exact ZF (g+1) [] so2 ⟨rfl,oz⟩ t3 rfl
 try simp only [sQ,ne_eq] at g1
 refine ZH (Z0 (ZJ (Zw (Zd (Za (xM (h:=xA (h:=Zh ?_))))))))
 exact ZE .ret (.inl rfl) [_] t1 ⟨ZN (by rw [show g=n from by omega]),rfl,rfl⟩

set_option maxHeartbeats 400000 in
theorem Zi1 (q:Option Addr) (cp:Nat) (xs:List DFolder) (l:Cells) (k:Nat) (hk:kL Zbk k xs≤800000000000000) (hn:xs.length≤2000000) (B:Kn) (hv:ZaP l q cp 75 5 (Z1 133 205) xs):Zx (pj J) 50 [.slice q xs.length cp,.int .i64 k] B [l] (fun v B' Ls=>B'=B∧∃l',Ls=[l']∧v = .int .i64 ((kL Zbk k xs:Nat):Int)∧ZaP l' q cp 75 5 (Z1 133 205) (mkL Zbk mkF k xs)):=by
 refine Zb 52 Tryz.func50 rfl rfl rfl (Nat.le_of_ble_eq_true rfl) ?_
 have hvc:=hv.cap
 refine Za ?_
 refine xA (h:=?_)
 refine Ze ?_
 refine Za ?_
 refine xA (h:=?_)
 refine Zl ?_
 refine ZA (α:=Nat × Nat × Cells × List DFolder) [4] (fun g=>[(0,.slice q xs.length cp),(1,.int .i64 ((g.2.1:Nat):Int)),(5,.int .i64 g.1)]) [0] (fun g=>[g.2.2.1]) (fun g Bx=>Bx=B∧g.1≤xs.length∧g.2.1=kL Zbk k (xs.take g.1)∧g.2.2.2.length=xs.length∧g.2.2.2.take g.1=mkL Zbk mkF k (xs.take g.1)∧g.2.2.2.drop g.1=xs.drop g.1∧ZaP g.2.2.1 q cp 75 5 (Z1 133 205) g.2.2.2) (fun g=>xs.length - g.1) (0,k,l,xs) t3 rfl (⟨rfl,Nat.zero_le _,Zml.symm,rfl,rfl,rfl,hv⟩) (fun g B1 hle1 hI=>?_)
 obtain ⟨rfl,hi,hs,hle,ht,hd,hw⟩:=hI
 refine ZG [(0,_),(1,_),(4,_),(5,_)] [_] t4 rfl ?_
 refine Ze ?_
 refine Za ?_
 refine xM (h:=?_)
 refine xM (h:=?_)
 refine xV Tryz.underlying31 (h:=?_)
 refine ZI (h:=?_)
 refine Zc rfl (fun g1=>?_) (fun g1=>?_)
 try simp only [sQ,ne_eq] at g1
 obtain ⟨x,hx⟩:=ZZ (xs:=xs) (i:=g.1) oz
 have hy:=(Zmv hd).trans hx
 have hkl:=Nat.le_trans (ZqM (st:=Zbk) (k:=k) hx) hk
 rw [← hs] at hkl
 have hst:Zbk x=3+2*x.grants.length+3*x.mail.length:=rfl
 refine Zf ?_
 refine Zd ?_
 refine Ze ?_
 refine Zl ?_
 refine Za ?_
 refine xM (h:=?_)
 refine xM (h:=?_)
 refine xM (h:=?_)
 refine xR Zej rfl (Zae (g.2.1) oz _) (h:=?_)
 obtain ⟨bb3,_,li3,lr3,hp3,⟨qg3,cg3,qm3,cm3,ia3,ib3,rfl,rfl,hg3,hm3,ho3,hn3,hx3,hy3⟩,hw3,hq3,hc3,hk3⟩:=hw.cell (B:=B1) (L:=[g.2.2.1]) hy 0 rfl
 refine xIp hp3 Tryz.underlying31 Zcb (h:=?_)
 refine xW Zca (h:=?_)
 refine Zp (Zh6 (k:=g.1) (us:=[_]) ((⟨ZU (g.2.1),x.name,x.grants,x.next,x.mail⟩:DFolder)) 0 0 rfl hw hp3 hy rfl rfl sz9 rfl rfl rfl rfl (Nat.le_of_ble_eq_true rfl) (by rintro _ _ ⟨_,_,_,_,_,_,rfl,rfl,h1,h2,h3,h4,h5,h6⟩;exact ⟨_,_,_,_,_,_,rfl,rfl,h1,h2,show (ZU (g.2.1)).length≤2000000 from Nat.le_trans (Zb2 (k:=g.2.1) oz) (by decide),h4,h5,h6⟩) (fun l4 hv4=>?_))
 have hs4:=ZdX (z:=((⟨ZU (g.2.1),x.name,x.grants,x.next,x.mail⟩:DFolder))) hy
 refine ZB [_] rfl ?_
 refine Za ?_
 refine xM (h:=?_)
 refine xD (h:=?_)
 refine xA (h:=?_)
 refine Za ?_
 refine xM (h:=?_)
 refine xM (h:=?_)
 refine xM (h:=?_)
 refine xR Zej rfl (Zae ((g.2.1)+1) oz _) (h:=?_)
 obtain ⟨bb6,_,li6,lr6,hp6,⟨qg6,cg6,qm6,cm6,ia6,ib6,rfl,rfl,hg6,hm6,ho6,hn6,hx6,hy6⟩,hw6,hq6,hc6,hk6⟩:=hv4.cell (B:=B1) (L:=[l4]) hs4 0 rfl
 refine xIp hp6 Tryz.underlying31 Zcb (h:=?_)
 refine xW ZdF (h:=?_)
 refine Zp (Zh6 (k:=g.1) (us:=[_]) ((⟨ZU (g.2.1),ZU (g.2.1+1),x.grants,x.next,x.mail⟩:DFolder)) 1 0 rfl hv4 hp6 hs4 rfl rfl sz9 rfl rfl rfl rfl (Nat.le_of_ble_eq_true rfl) (by rintro _ _ ⟨_,_,_,_,_,_,rfl,rfl,h1,h2,h3,h4,h5,h6⟩;exact ⟨_,_,_,_,_,_,rfl,rfl,h1,h2,h3,show (ZU (g.2.1+1)).length≤2000000 from Nat.le_trans (Zb2 (k:=g.2.1+1) oz) (by decide),h5,h6⟩) (fun l7 hv7=>?_))
 rw [List.set_set] at hv7
 have hs7:=ZdX (z:=((⟨ZU (g.2.1),ZU (g.2.1+1),x.grants,x.next,x.mail⟩:DFolder))) hy
 refine ZB [_] rfl ?_
 obtain ⟨bb8,_,li8,lr8,hp8,⟨qg8,cg8,qm8,cm8,ia8,ib8,rfl,rfl,hg8,hm8,ho8,hn8,hx8,hy8⟩,hw8,hq8,hc8,hk8⟩:=hv7.cell (B:=B1) (L:=[_]) hs7 0 rfl
 replace hc8:=fun m u h=>(hc8 m u h).perm (ZeK 0 rfl (Zou hq8))
 refine Zfh 0 rfl (Zou hq8) ?_
 refine Za ?_
 refine xM (h:=?_)
 refine xD (h:=?_)
 refine xA (h:=?_)
 refine ZB [_,_,_] rfl ?_
 refine Za ?_
 refine xM (h:=?_)
 refine xM (h:=?_)
 refine xIp hp8 Tryz.underlying31 Zcb (h:=?_)
 refine xW ZeC (h:=?_)
 refine Zp (Zr rfl rfl ZrJ rfl (hc8 2 _ rfl) ?_)
 refine xM (h:=?_)
 refine Zp (Zaj [1] rfl rfl rfl rfl Zw5 rfl (Zj7 _ _ (((⟨ZU (g.2.1),ZU (g.2.1+1),x.grants,x.next,x.mail⟩:DFolder)).grants) _ (((g.2.1)+1)+1) oz oz _ (hg8.anyK Z5.any)) ?_)
 rintro _ B9 _ hle9 ⟨rfl,l9,rfl,rfl,hs9⟩
 refine xA (h:=?_)
 refine ZB [_,_,_] rfl ?_
 refine Zfj 0 2 rfl rfl (by decide) ?_
 refine Zfj 0 1 rfl rfl (by decide) ?_
 have hv10:=hk8 (⟨ZU (g.2.1),ZU (g.2.1+1),Zaz (g.2.1+1+1) x.grants.length,x.next,x.mail⟩:DFolder) _ ⟨qg8,cg8,qm8,cm8,_,_,by simp only [Zaq,ZaD],rfl,hs9.anyK Z5.any,hm8.anyK Z3.any,ho8,hn8,by first | assumption | (rw [Zaq];assumption),by first | assumption | (rw [ZaD];assumption)⟩
 rw [List.append_assoc,List.set_set] at hv10
 have hs10:=ZdX (z:=((⟨ZU (g.2.1),ZU (g.2.1+1),Zaz (g.2.1+1+1) x.grants.length,x.next,x.mail⟩:DFolder))) hy
 refine ZnN [0] rfl ?_
 refine Za ?_
 refine xM (h:=?_)
 refine xM (h:=?_)
 refine xM (h:=?_)
 obtain ⟨bb11,_,li11,lr11,hp11,⟨qg11,cg11,qm11,cm11,ia11,ib11,rfl,rfl,hg11,hm11,ho11,hn11,hx11,hy11⟩,hw11,hq11,hc11,hk11⟩:=hv10.cell (B:=B9) (L:=[_]) hs10 0 rfl
 refine xIp hp11 Tryz.underlying31 Zcb (h:=?_)
 refine xW Zb9 (h:=?_)
 refine xW ZcG (h:=?_)
 refine Zp (Zh6 (k:=g.1) (us:=[_]) ((⟨ZU (g.2.1),ZU (g.2.1+1),Zaz (g.2.1+1+1) x.grants.length,((g.2.1+1+1+2*x.grants.length:Nat):Int),x.mail⟩:DFolder)) 3 0 rfl hv10 hp11 hs10 rfl rfl sz3 rfl rfl rfl rfl (Nat.le_of_ble_eq_true rfl) (by rintro _ _ ⟨_,_,_,_,_,_,rfl,rfl,h1,h2,h3,h4,h5,h6⟩;exact ⟨_,_,_,_,_,_,rfl,rfl,h1,h2,h3,h4,h5,h6⟩) (fun l12 hv12=>?_))
 rw [List.set_set] at hv12
 have hs12:=ZdX (z:=((⟨ZU (g.2.1),ZU (g.2.1+1),Zaz (g.2.1+1+1) x.grants.length,((g.2.1+1+1+2*x.grants.length:Nat):Int),x.mail⟩:DFolder))) hy
 refine ZB [_] rfl ?_
 obtain ⟨bb13,_,li13,lr13,hp13,⟨qg13,cg13,qm13,cm13,ia13,ib13,rfl,rfl,hg13,hm13,ho13,hn13,hx13,hy13⟩,hw13,hq13,hc13,hk13⟩:=hv12.cell (B:=B9) (L:=[_]) hs12 0 rfl
 replace hc13:=fun m u h=>(hc13 m u h).perm (ZeK 0 rfl (Zou hq13))
 refine Zfh 0 rfl (Zou hq13) ?_
 refine Za ?_
 refine xM (h:=?_)
 refine xD (h:=?_)
 refine xA (h:=?_)
 refine ZB [_,_,_] rfl ?_
 refine Zg ?_
 refine xM (h:=?_)
 refine xM (h:=?_)
 refine xIp hp13 Tryz.underlying31 Zcb (h:=?_)
 refine xW Zb9 (h:=?_)
 refine xW Zbu (h:=?_)
 refine Zp (Zr rfl rfl Zir rfl (hc13 4 _ rfl) ?_)
 refine xM (h:=?_)
 refine Zp (Zaj [2] rfl rfl rfl rfl Zw4 rfl (Zld _ _ (((⟨ZU (g.2.1),ZU (g.2.1+1),Zaz (g.2.1+1+1) x.grants.length,((g.2.1+1+1+2*x.grants.length:Nat):Int),x.mail⟩:DFolder)).mail) _ (((((g.2.1)+1)+1)+2*(((⟨ZU (g.2.1),ZU (g.2.1+1),x.grants,x.next,x.mail⟩:DFolder)).grants).length)+1) oz oz _ (hm13.anyK Z3.any)) ?_)
 rintro _ B14 _ hle14 ⟨rfl,l14,rfl,rfl,hs14⟩
 refine xA (h:=?_)
 refine ZT (Zd ?_)
 refine Zfj 0 2 rfl rfl (by decide) ?_
 refine Zfj 0 1 rfl rfl (by decide) ?_
 have hv15:=hk13 (⟨ZU (g.2.1),ZU (g.2.1+1),Zaz (g.2.1+1+1) x.grants.length,((g.2.1+1+1+2*x.grants.length:Nat):Int),ZbQ (g.2.1+1+1+2*x.grants.length+1) x.mail.length⟩:DFolder) _ ⟨qg13,cg13,qm13,cm13,_,_,by simp only [Zaq,ZaD],rfl,hg13.anyK Z5.any,hs14.anyK Z3.any,ho13,hn13,by first | assumption | (rw [Zaq];assumption),by first | assumption | (rw [ZaD];assumption)⟩
 rw [List.append_assoc,List.set_set] at hv15
 have hs15:=ZdX (z:=((⟨ZU (g.2.1),ZU (g.2.1+1),Zaz (g.2.1+1+1) x.grants.length,((g.2.1+1+1+2*x.grants.length:Nat):Int),ZbQ (g.2.1+1+1+2*x.grants.length+1) x.mail.length⟩:DFolder))) hy
 refine ZnN [0] rfl ?_
 refine Zg ?_
 refine xM (h:=?_)
 refine xD (h:=?_)
 refine xA (h:=?_)
 exact ZF (g.1+1,g.2.1+1+1+2*x.grants.length+1+3*x.mail.length,_,(g.2.2.2.set g.1 ((⟨ZU (g.2.1),ZU (g.2.1+1),Zaz (g.2.1+1+1) x.grants.length,((g.2.1+1+1+2*x.grants.length:Nat):Int),ZbQ (g.2.1+1+1+2*x.grants.length+1) x.mail.length⟩:DFolder)))) [0] so2 ⟨rfl,so,by simp only [];rw [Zht hx,← hs,hst];omega,ZlW hle,Zj4 ht hx hle hs,Zmu hd,hv15⟩ t4 rfl
 try simp only [sQ,ne_eq] at g1
 have he:=ZoL ht hle oz
 have hgi:g.1=xs.length:=by omega
 refine ZH (Z0 (ZJ (Zw (Zd ?_))))
 refine Za ?_
 refine xM (h:=?_)
 refine xA (h:=?_)
 refine Zh ?_
 exact ZaW .ret (.inl rfl) [_] [0] rfl t1 ⟨rfl,_,rfl,by rw [hs,Zmm oz];rfl,by rw [← he];exact hw⟩

set_option maxHeartbeats 400000 in
theorem Zle (q:Option Addr) (cp:Nat) (xs:List DItem) (l:Cells) (k:Nat) (hk:kL Zbf k xs≤800000000000000) (hn:xs.length≤2000000) (B:Kn) (hv:ZaP l q cp 126 4 (ZaQ 9) xs):Zx (pj J) 111 [.slice q xs.length cp,.int .i64 k] B [l] (fun v B' Ls=>B'=B∧∃l',Ls=[l']∧v = .int .i64 ((kL Zbf k xs:Nat):Int)∧ZaP l' q cp 126 4 (ZaQ 9) (mkL Zbf mkI k xs)):=by
 refine Zb 43 Tryz.func111 rfl rfl rfl (Nat.le_of_ble_eq_true rfl) ?_
 have hvc:=hv.cap
 refine Za ?_
 refine xA (h:=?_)
 refine Ze ?_
 refine Za ?_
 refine xA (h:=?_)
 refine Zl ?_
 refine ZA (α:=Nat × Nat × Cells × List DItem) [4] (fun g=>[(0,.slice q xs.length cp),(1,.int .i64 ((g.2.1:Nat):Int)),(5,.int .i64 g.1)]) [0] (fun g=>[g.2.2.1]) (fun g Bx=>Bx=B∧g.1≤xs.length∧g.2.1=kL Zbf k (xs.take g.1)∧g.2.2.2.length=xs.length∧g.2.2.2.take g.1=mkL Zbf mkI k (xs.take g.1)∧g.2.2.2.drop g.1=xs.drop g.1∧ZaP g.2.2.1 q cp 126 4 (ZaQ 9) g.2.2.2) (fun g=>xs.length - g.1) (0,k,l,xs) t3 rfl (⟨rfl,Nat.zero_le _,Zml.symm,rfl,rfl,rfl,hv⟩) (fun g B1 hle1 hI=>?_)
 obtain ⟨rfl,hi,hs,hle,ht,hd,hw⟩:=hI
 refine ZG [(0,_),(1,_),(4,_),(5,_)] [_] t4 rfl ?_
 refine Ze ?_
 refine Za ?_
 refine xM (h:=?_)
 refine xM (h:=?_)
 refine xV Tryz.underlying32 (h:=?_)
 refine ZI (h:=?_)
 refine Zc rfl (fun g1=>?_) (fun g1=>?_)
 try simp only [sQ,ne_eq] at g1
 obtain ⟨x,hx⟩:=ZZ (xs:=xs) (i:=g.1) oz
 have hy:=(Zmv hd).trans hx
 have hkl:=Nat.le_trans (ZqM (st:=Zbf) (k:=k) hx) hk
 rw [← hs] at hkl
 have hst:Zbf x=3+x.left.length:=rfl
 refine Zf ?_
 refine Zd ?_
 refine Ze ?_
 refine Zl ?_
 refine Za ?_
 refine xM (h:=?_)
 refine xM (h:=?_)
 refine xM (h:=?_)
 obtain ⟨bb2,_,li2,lr2,hp2,⟨qg2,cg2,rfl,hg2,ho2,hn2,hx2⟩,hw2,hq2,hc2,hk2⟩:=hw.cell (B:=B1) (L:=[g.2.2.1]) hy 0 rfl
 refine xIp hp2 Tryz.underlying32 Za0 (h:=?_)
 refine xW Zc4 (h:=?_)
 refine Zp (Zh6 (k:=g.1) (us:=[_]) ((⟨((g.2.1:Nat):Int),x.fr,x.text,x.left⟩:DItem)) 0 0 rfl hw hp2 hy rfl rfl sz3 rfl rfl rfl rfl (Nat.le_of_ble_eq_true rfl) (by rintro _ _ ⟨_,_,rfl,h1,h2,h3,h4⟩;exact ⟨_,_,rfl,h1,h2,h3,h4⟩) (fun l3 hv3=>?_))
 have hs3:=ZdX (z:=((⟨((g.2.1:Nat):Int),x.fr,x.text,x.left⟩:DItem))) hy
 refine ZB [_] rfl ?_
 refine Za ?_
 refine xM (h:=?_)
 refine xD (h:=?_)
 refine xA (h:=?_)
 refine Za ?_
 refine xM (h:=?_)
 refine xM (h:=?_)
 refine xM (h:=?_)
 refine xR Zej rfl (Zae ((g.2.1)+1) oz _) (h:=?_)
 obtain ⟨bb5,_,li5,lr5,hp5,⟨qg5,cg5,rfl,hg5,ho5,hn5,hx5⟩,hw5,hq5,hc5,hk5⟩:=hv3.cell (B:=B1) (L:=[l3]) hs3 0 rfl
 refine xIp hp5 Tryz.underlying32 Za0 (h:=?_)
 refine xW Zd6 (h:=?_)
 refine Zp (Zh6 (k:=g.1) (us:=[_]) ((⟨((g.2.1:Nat):Int),ZU (g.2.1+1),x.text,x.left⟩:DItem)) 1 0 rfl hv3 hp5 hs3 rfl rfl sz9 rfl rfl rfl rfl (Nat.le_of_ble_eq_true rfl) (by rintro _ _ ⟨_,_,rfl,h1,h2,h3,h4⟩;exact ⟨_,_,rfl,h1,show (ZU (g.2.1+1)).length≤2000000 from Nat.le_trans (Zb2 (k:=g.2.1+1) oz) (by decide),h3,h4⟩) (fun l6 hv6=>?_))
 rw [List.set_set] at hv6
 have hs6:=ZdX (z:=((⟨((g.2.1:Nat):Int),ZU (g.2.1+1),x.text,x.left⟩:DItem))) hy
 refine ZB [_] rfl ?_
 refine Za ?_
 refine xM (h:=?_)
 refine xD (h:=?_)
 refine xA (h:=?_)
 refine Za ?_
 refine xM (h:=?_)
 refine xM (h:=?_)
 refine xM (h:=?_)
 refine xR Zej rfl (Zae (((g.2.1)+1)+1) oz _) (h:=?_)
 obtain ⟨bb8,_,li8,lr8,hp8,⟨qg8,cg8,rfl,hg8,ho8,hn8,hx8⟩,hw8,hq8,hc8,hk8⟩:=hv6.cell (B:=B1) (L:=[l6]) hs6 0 rfl
 refine xIp hp8 Tryz.underlying32 Za0 (h:=?_)
 refine xW Zd5 (h:=?_)
 refine Zp (Zh6 (k:=g.1) (us:=[_]) ((⟨((g.2.1:Nat):Int),ZU (g.2.1+1),ZU (g.2.1+1+1),x.left⟩:DItem)) 2 0 rfl hv6 hp8 hs6 rfl rfl sz9 rfl rfl rfl rfl (Nat.le_of_ble_eq_true rfl) (by rintro _ _ ⟨_,_,rfl,h1,h2,h3,h4⟩;exact ⟨_,_,rfl,h1,h2,show (ZU (g.2.1+1+1)).length≤2000000 from Nat.le_trans (Zb2 (k:=g.2.1+1+1) oz) (by decide),h4⟩) (fun l9 hv9=>?_))
 rw [List.set_set] at hv9
 have hs9:=ZdX (z:=((⟨((g.2.1:Nat):Int),ZU (g.2.1+1),ZU (g.2.1+1+1),x.left⟩:DItem))) hy
 refine ZB [_] rfl ?_
 obtain ⟨bb10,_,li10,lr10,hp10,⟨qg10,cg10,rfl,hg10,ho10,hn10,hx10⟩,hw10,hq10,hc10,hk10⟩:=hv9.cell (B:=B1) (L:=[_]) hs9 0 rfl
 replace hc10:=fun m u h=>(hc10 m u h).perm (ZeK 0 rfl (Zub hq10))
 refine Zfh 0 rfl (Zub hq10) ?_
 refine Za ?_
 refine xM (h:=?_)
 refine xD (h:=?_)
 refine xA (h:=?_)
 refine ZB [_,_] rfl ?_
 refine Zg ?_
 refine xM (h:=?_)
 refine xM (h:=?_)
 refine xIp hp10 Tryz.underlying32 Za0 (h:=?_)
 refine xW ZaE (h:=?_)
 refine Zp (Zr rfl rfl ZgW rfl (hc10 3 _ rfl) ?_)
 refine xM (h:=?_)
 refine Zp (Zaj [1] rfl rfl rfl rfl Zx3 rfl (Zi0 _ _ (((⟨((g.2.1:Nat):Int),ZU (g.2.1+1),ZU (g.2.1+1+1),x.left⟩:DItem)).left) _ ((((g.2.1)+1)+1)+1) oz oz _ (hg10.anyK Zbv.any)) ?_)
 rintro _ B11 _ hle11 ⟨rfl,l11,rfl,rfl,hs11⟩
 refine xA (h:=?_)
 refine ZT (Zd ?_)
 refine Zfj 0 1 rfl rfl (by decide) ?_
 have hv12:=hk10 (⟨((g.2.1:Nat):Int),ZU (g.2.1+1),ZU (g.2.1+1+1),Zc0 (g.2.1+1+1+1) x.left.length⟩:DItem) _ ⟨qg10,cg10,by simp only [Zbd],hs11.anyK Zbv.any,ho10,hn10,by first | assumption | (rw [Zbd];assumption)⟩
 rw [List.set_set] at hv12
 have hs12:=ZdX (z:=((⟨((g.2.1:Nat):Int),ZU (g.2.1+1),ZU (g.2.1+1+1),Zc0 (g.2.1+1+1+1) x.left.length⟩:DItem))) hy
 refine ZnN [0] rfl ?_
 refine Zg ?_
 refine xM (h:=?_)
 refine xD (h:=?_)
 refine xA (h:=?_)
 exact ZF (g.1+1,g.2.1+1+1+1+1*x.left.length,_,(g.2.2.2.set g.1 ((⟨((g.2.1:Nat):Int),ZU (g.2.1+1),ZU (g.2.1+1+1),Zc0 (g.2.1+1+1+1) x.left.length⟩:DItem)))) [0] so2 ⟨rfl,so,by simp only [];rw [Zht hx,← hs,hst];omega,ZlW hle,Zj4 ht hx hle hs,Zmu hd,hv12⟩ t4 rfl
 try simp only [sQ,ne_eq] at g1
 have he:=ZoL ht hle oz
 refine ZH (Z0 (ZJ (Zw (Zd ?_))))
 refine Za ?_
 refine xM (h:=?_)
 refine xA (h:=?_)
 refine Zh ?_
 exact ZaW .ret (.inl rfl) [_] [0] rfl t1 ⟨rfl,_,rfl,by rw [hs,Zmm oz];rfl,by rw [← he];exact hw⟩

set_option maxHeartbeats 400000 in
theorem Zlc (q1:Option Addr) (c1:Nat) (x:DQueue) (l1:Cells) (k:Nat) (hk:kL Zbf k x.items≤800000000000000) (hn:x.items.length≤2000000) (B:Kn) (hv:ZaP l1 q1 c1 126 4 (ZaQ 9) x.items):Zx (pj J) 51 [.agg #[.int .i64 x.next,.slice q1 x.items.length c1],.int .i64 k] B [l1] (fun v B' Ls=>B'=B∧∃l',Ls=[l']∧v = .int .i64 ((kL Zbf k x.items:Nat):Int)∧ZaP l' q1 c1 126 4 (ZaQ 9) (mkL Zbf mkI k x.items)):=by
 refine Zb 10 Tryz.func51 rfl rfl rfl (Nat.le_of_ble_eq_true rfl) ?_
 refine Za (xBx [_,_] (h:=fun b1=>xA (h:=ZB [_,_] rfl (Za (xW ZaV (h:=x1 ZgP 1 (h:=xM (h:=Zp (Zaj [0] rfl rfl rfl rfl Zw3 rfl (Zle _ _ x.items _ k oa oz _ hv) ?_)))))))))
 rintro _ B2 _ hle2 ⟨rfl,l2,rfl,rfl,hs2⟩
 refine xA (h:=ZB [_,_] rfl (Za (xM (h:=xA (h:=Zh ?_)))))
 exact ZaW .ret (.inl rfl) [_] [0] rfl t1 ⟨rfl,_,rfl,rfl,hs2⟩

set_option maxHeartbeats 400000 in
theorem Zio (q1 q2 q3:Option Addr) (c1 c2 c3:Nat) (x:DHost) (l1 l2 l3:Cells) (k:Nat) (hk:kH k x≤800000000000000) (hn1:x.users.length≤2000000) (hn2:x.folders.length≤2000000) (hn3:x.queue.items.length≤2000000) (B:Kn) (hu:ZW Kn.none l1 q1 c1 123 3 Zm x.users) (hf:ZaP l2 q2 c2 75 5 (Z1 133 205) x.folders) (hi:ZaP l3 q3 c3 126 4 (ZaQ 9) x.queue.items):Zx (pj J) 13 [.agg #[str x.domain,.slice q1 x.users.length c1,.slice q2 x.folders.length c2,.int .i64 x.queue.next,.slice q3 x.queue.items.length c3],.int .i64 k] B [l1,l2,l3] (fun v B' Ls=>B'=B∧∃l1' l2' l3',Ls=[l1',l2',l3']∧v = .int .i64 ((kH k x:Nat):Int)∧ZW Kn.none l1' q1 c1 123 3 Zm (Zck k x.users.length)∧ZaP l2' q2 c2 75 5 (Z1 133 205) (mkL Zbk mkF (k+3*x.users.length) x.folders)∧ZaP l3' q3 c3 126 4 (ZaQ 9) (mkL Zbf mkI (kL Zbk (k+3*x.users.length) x.folders) x.queue.items)):=by
 refine Zb 18 Tryz.func13 rfl rfl rfl (Nat.le_of_ble_eq_true rfl) ?_
 have hk3:kL Zbf (kL Zbk (k+3*x.users.length) x.folders) x.queue.items≤800000000000000:=hk
 have hk2:(kL Zbk (k+3*x.users.length) x.folders)≤800000000000000:=Nat.le_trans ZoW hk3
 have hk1:(k+3*x.users.length)≤800000000000000:=Nat.le_trans ZoW hk2
 refine Za (xBx [_,_,_,_,_] (h:=fun b1=>xA (h:=ZB [_,_,_,_] rfl (Za (xW ZbK (h:=x1 Zis 3 (h:=xM (h:=Zp (Zaj [0] rfl rfl rfl rfl Zyf rfl (Zlb _ _ x.users _ k oz oz _ (hu.anyK Zm.any)) ?_)))))))))
 rintro _ B2 _ hle2 ⟨rfl,l2,rfl,rfl,hs2⟩
 refine xA (h:=ZB [_,_,_,_] rfl (Za (xW ZaI (h:=x1 ZfF 3 (h:=xM (h:=Zp (Zaj [1] rfl rfl rfl rfl Zye rfl (Zi1 _ _ x.folders _ (k+3*x.users.length) oa oz _ hf) ?_)))))))
 rintro _ B3 _ hle3 ⟨rfl,l3,rfl,rfl,hs3⟩
 refine xA (h:=ZB [_,_,_,_] rfl (Za (xW ZbE (h:=xL [_,_] Zed 3 (h:=xM (h:=Zp (Zaj [2] rfl rfl rfl rfl Zyd rfl (Zlc _ _ x.queue _ (kL Zbk (k+3*x.users.length) x.folders) oa oz _ hi) ?_)))))))
 rintro _ B4 _ hle4 ⟨rfl,l4a,rfl,rfl,hs4a⟩
 refine xA (h:=ZB [_,_,_,_] rfl (Za (xM (h:=xA (h:=Zh ?_)))))
 exact ZaW .ret (.inl rfl) [_] [0,1,2] rfl t1 ⟨rfl,_,_,_,rfl,rfl,hs2.anyK Zm.any,hs3,hs4a⟩

set_option maxHeartbeats 400000 in
theorem Zja (q:Option Addr) (cp:Nat) (xs:List DFolder) (k m:Nat) (hmn:m=xs.length) (hk:kL Zbk k xs≤800000000000000) (B:Kn) (hx0:SlK B q cp 5 Zk (mkL Zbk mkF k xs)):Zag (pj J) 53 [.slice q m cp,.int .i64 k] B (.int .i64 ((kL Zbk k xs:Nat):Int)):=by
 refine Zb 62 Tryz.func53 rfl rfl rfl (Nat.le_of_ble_eq_true rfl) ?_
 have hxn:=hx0.len
 have hml:=Zd0 (st:=Zbk) (mk:=mkF) (xs:=xs) k
 refine Za (xA (h:=Ze (Za (xA (h:=Zl (ZA (α:=Nat × Nat) [0] (fun g=>[(1,.int .i64 g.2),(5,.int .i64 g.1)]) [] (fun g=>[]) (fun g Bx=>Bx=B∧g.1≤xs.length∧g.2=kL Zbk k (xs.take g.1)) (fun g=>xs.length - g.1) (0,k) t2 rfl (⟨rfl,Nat.zero_le _,Zml.symm⟩) (fun g B1 hle1 hI=>?_)))))))
 obtain ⟨rfl,hi,hs⟩:=hI
 refine ZG [(0,_),(1,_),(5,_)] [] t3 rfl (Ze (Za (xM (h:=xM (h:=xV Tryz.underlying31 (h:=ZI (h:=Zc rfl (fun g1=>?_) (fun g1=>?_))))))))
 try simp only [sQ,ne_eq] at g1
 obtain ⟨x,hx⟩:=ZZ (xs:=xs) (i:=g.1) oz
 have hkl:=Nat.le_trans (ZqM (st:=Zbk) (k:=k) hx) hk
 rw [← hs] at hkl
 have hst:Zbk x=3+2*x.grants.length+3*x.mail.length:=rfl
 have hz:(mkL Zbk mkF k xs)[g.1]? = some (mkF g.2 x):=by rw [hs];exact Zk9 k hx
 refine Zf (Zd (Ze (Zl (Ze (Ze (Zaa (same _ _) mo kr ⟨rfl,rfl⟩ (fun _ _=>?_)))))))
 refine aM 0 rfl (h:=aM 1 rfl (h:=?_))
 obtain ⟨bb2,oo2,rfl⟩:=hx0.base hz
 obtain ⟨_,⟨qg3,cg3,qm3,cm3,rfl,hg3,hm3,hb3,hb3b⟩,hc3⟩:=hx0.elem hz
 have hg3n:=hg3.len
 have hm3n:=hm3.len
 have hm3s:=Zay hm3
 refine aIx 2 rfl Tryz.underlying31 Zcb (h:=aW 3 rfl Zca (h:=aT 4 rfl (Zam fun D=>Zr rfl rfl lk9 rfl (hc3 _ 0 _ rfl) r4) (h:=aM 5 rfl (h:=aT 6 rfl (Zam fun D=>Zak rfl rfl Zej rfl (Zae g.2 oz _) r4) (h:=?_)))))
 refine Zfe 7 rfl (h:=ZC kr kr ?_)
 refine Zd (Zc rfl (fun h1=>by simp [mkF] at h1) (fun h1=>?_))
 try simp only [sQ,ne_eq] at h1
 refine Zf (Zd (Za (xM (h:=xD (h:=xA (h:=Ze (Ze (Zaa (same _ _) mo kr ⟨rfl,rfl⟩ (fun _ _=>?_)))))))))
 refine aM 0 rfl (h:=aM 1 rfl (h:=aIx 2 rfl Tryz.underlying31 Zcb (h:=aW 3 rfl ZdF (h:=aT 4 rfl (Zam fun D=>Zr rfl rfl lk9 rfl (hc3 _ 1 _ rfl) r4) (h:=aM 5 rfl (h:=aT 6 rfl (Zam fun D=>Zak rfl rfl Zej rfl (Zae (g.2+1) oz _) r4) (h:=?_)))))))
 refine Zfe 7 rfl (h:=ZC kr kr ?_)
 refine Zd (Zc rfl (fun h2=>by simp [mkF] at h2) (fun h2=>?_))
 try simp only [sQ,ne_eq] at h2
 refine Zf (Zd (Za (xM (h:=xD (h:=xA (h:=Za (xM (h:=xM (h:=xIx Tryz.underlying31 Zcb (h:=xW ZeC (h:=y1 ZrJ hc3 2 (h:=xM (h:=?_)))))))))))))
 refine xR Zw2 rfl (Zkl _ _ _ ((g.2+1)+1) _ x.grants.length (by first | rfl | exact Zaq _ _) rfl oz _ hg3) (h:=?_)
 refine xA (h:=Ze (Za (xM (h:=ZI (h:=Zc rfl (fun h3=>by first | omega | (simp at h3;done) | (simp at h3;omega)) (fun h3=>?_))))))
 try simp only [sQ,ne_eq] at h3
 refine Zf (Zd (Ze (Za (xM (h:=xM (h:=xIx Tryz.underlying31 Zcb (h:=xW Zb9 (h:=xW ZcG (h:=y1 lk3 hc3 3 (h:=xM (h:=ZaT (h:=Zc rfl (fun h4=>by simp [mkF] at h4) (fun h4=>?_)))))))))))))
 try simp only [sQ,ne_eq] at h4
 refine Zf (Zd (Za (xM (h:=xD (h:=xA (h:=Za (xM (h:=xM (h:=xIx Tryz.underlying31 Zcb (h:=xW Zb9 (h:=xW Zbu (h:=y1 Zir hc3 4 (h:=?_)))))))))))))
 refine xM (h:=xR Zw1 rfl (Zlu _ _ _ ((((g.2+1)+1)+2*x.grants.length)+1) _ x.mail.length (by first | rfl | exact ZaD _ _) rfl oz _ hm3) (h:=?_))
 refine xA (h:=Za (xM (h:=ZI (h:=Zc rfl (fun h5=>by first | omega | (simp at h5;done) | (simp at h5;omega)) (fun h5=>?_)))))
 try simp only [sQ,ne_eq] at h5
 refine Zf (ZT (Zd (Zg (xM (h:=xD (h:=xA (h:=?_)))))))
 exact ZF (g.1+1,g.2+1+1+2*x.grants.length+1+3*x.mail.length) [] so2 ⟨rfl,so,by simp only [];rw [Zht hx,← hs,hst];omega⟩ t3 rfl
 try simp only [sQ,ne_eq] at g1
 refine ZH (Z0 (ZJ (Zw (Zd (Za (xM (h:=xA (h:=Zh ?_))))))))
 exact ZE .ret (.inl rfl) [_] t1 ⟨ZN (by rw [hs,Zmm oz]),rfl,rfl⟩

set_option maxHeartbeats 400000 in
theorem Zlv (q:Option Addr) (cp:Nat) (xs:List DItem) (k m:Nat) (hmn:m=xs.length) (hk:kL Zbf k xs≤800000000000000) (B:Kn) (hx0:SlK B q cp 4 Zs (mkL Zbf mkI k xs)):Zag (pj J) 114 [.slice q m cp,.int .i64 k] B (.int .i64 ((kL Zbf k xs:Nat):Int)):=by
 refine Zb 51 Tryz.func114 rfl rfl rfl (Nat.le_of_ble_eq_true rfl) ?_
 have hxn:=hx0.len
 have hml:=Zd0 (st:=Zbf) (mk:=mkI) (xs:=xs) k
 refine Za (xA (h:=Ze (Za (xA (h:=Zl (ZA (α:=Nat × Nat) [0] (fun g=>[(1,.int .i64 g.2),(5,.int .i64 g.1)]) [] (fun g=>[]) (fun g Bx=>Bx=B∧g.1≤xs.length∧g.2=kL Zbf k (xs.take g.1)) (fun g=>xs.length - g.1) (0,k) t2 rfl (⟨rfl,Nat.zero_le _,Zml.symm⟩) (fun g B1 hle1 hI=>?_)))))))
 obtain ⟨rfl,hi,hs⟩:=hI
 refine ZG [(0,_),(1,_),(5,_)] [] t3 rfl (Ze (Za (xM (h:=xM (h:=xV Tryz.underlying32 (h:=ZI (h:=Zc rfl (fun g1=>?_) (fun g1=>?_))))))))
 try simp only [sQ,ne_eq] at g1
 obtain ⟨x,hx⟩:=ZZ (xs:=xs) (i:=g.1) oz
 have hkl:=Nat.le_trans (ZqM (st:=Zbf) (k:=k) hx) hk
 rw [← hs] at hkl
 have hst:Zbf x=3+x.left.length:=rfl
 have hz:(mkL Zbf mkI k xs)[g.1]? = some (mkI g.2 x):=by rw [hs];exact Zk9 k hx
 refine Zf (Zd (Ze (Zl (Ze (Za (xM (h:=xM (h:=?_))))))))
 obtain ⟨bb2,oo2,rfl⟩:=hx0.base hz
 obtain ⟨_,⟨qi3,ci3,rfl,hi3,hb3,hb3b⟩,hc3⟩:=hx0.elem hz
 have hi3n:=hi3.len
 refine xIx Tryz.underlying32 Za0 (h:=xW Zc4 (h:=y1 lk3 hc3 0 (h:=xM (h:=ZaT (h:=Zc rfl (fun h1=>by simp [mkI] at h1) (fun h1=>?_))))))
 try simp only [sQ,ne_eq] at h1
 refine Zf (Zd (Za (xM (h:=xD (h:=xA (h:=Ze (Ze (Zaa (same _ _) mo kr ⟨rfl,rfl⟩ (fun _ _=>?_)))))))))
 refine aM 0 rfl (h:=aM 1 rfl (h:=aIx 2 rfl Tryz.underlying32 Za0 (h:=aW 3 rfl Zd6 (h:=aT 4 rfl (Zam fun D=>Zr rfl rfl lk9 rfl (hc3 _ 1 _ rfl) r4) (h:=aM 5 rfl (h:=aT 6 rfl (Zam fun D=>Zak rfl rfl Zej rfl (Zae (g.2+1) oz _) r4) (h:=?_)))))))
 refine Zfe 7 rfl (h:=ZC kr kr ?_)
 refine Zd (Zc rfl (fun h2=>by simp [mkI] at h2) (fun h2=>?_))
 try simp only [sQ,ne_eq] at h2
 refine Zf (Zd (Za (xM (h:=xD (h:=xA (h:=Ze (Ze (Zaa (same _ _) mo kr ⟨rfl,rfl⟩ (fun _ _=>?_)))))))))
 refine aM 0 rfl (h:=aM 1 rfl (h:=aIx 2 rfl Tryz.underlying32 Za0 (h:=aW 3 rfl Zd5 (h:=aT 4 rfl (Zam fun D=>Zr rfl rfl lk9 rfl (hc3 _ 2 _ rfl) r4) (h:=aM 5 rfl (h:=aT 6 rfl (Zam fun D=>Zak rfl rfl Zej rfl (Zae ((g.2+1)+1) oz _) r4) (h:=?_)))))))
 refine Zfe 7 rfl (h:=ZC kr kr ?_)
 refine Zd (Zc rfl (fun h3=>by simp [mkI] at h3) (fun h3=>?_))
 try simp only [sQ,ne_eq] at h3
 refine Zf (Zd (Za (xM (h:=xD (h:=xA (h:=Za (xM (h:=xM (h:=xIx Tryz.underlying32 Za0 (h:=xW ZaE (h:=y1 ZgW hc3 3 (h:=xM (h:=?_)))))))))))))
 refine xR Zww rfl (Znf _ _ _ (((g.2+1)+1)+1) _ x.left.length (by first | rfl | exact Zbd _ _) rfl oz _ hi3) (h:=?_)
 refine xA (h:=Za (xM (h:=ZI (h:=Zc rfl (fun h4=>by first | omega | (simp at h4;done) | (simp at h4;omega)) (fun h4=>?_)))))
 try simp only [sQ,ne_eq] at h4
 refine Zf (ZT (Zd (Zg (xM (h:=xD (h:=xA (h:=?_)))))))
 exact ZF (g.1+1,g.2+1+1+1+1*x.left.length) [] so2 ⟨rfl,so,by simp only [];rw [Zht hx,← hs,hst];omega⟩ t3 rfl
 try simp only [sQ,ne_eq] at g1
 refine ZH (Z0 (ZJ (Zw (Zd (Za (xM (h:=xA (h:=Zh ?_))))))))
 exact ZE .ret (.inl rfl) [_] t1 ⟨ZN (by rw [hs,Zmm oz]),rfl,rfl⟩

set_option maxHeartbeats 400000 in
theorem Zlt (q:Option Addr) (cp:Nat) (x:DQueue) (k:Nat) (hk:kL Zbf k x.items≤800000000000000) (B:Kn) (hi:SlK B q cp 4 Zs (mkL Zbf mkI k x.items)):Zag (pj J) 54 [.agg #[.int .i64 x.next,.slice q x.items.length cp],.int .i64 k] B (.int .i64 ((kL Zbf k x.items:Nat):Int)):=by
 refine Zb 12 Tryz.func54 rfl rfl rfl (Nat.le_of_ble_eq_true rfl) ?_
 refine Za (xBx [_,_] (h:=fun b1=>xA (h:=ZB [_] rfl (Za (xW ZaV (h:=x1 ZgP 0 (h:=xM (h:=xR Zw0 rfl (Zlv _ _ x.items k _ rfl oa _ hi) (h:=?_)))))))))
 refine xA (h:=Ze (Za (xM (h:=ZI (h:=Zc rfl (fun h1=>by first | omega | (simp at h1;done) | (simp at h1;omega)) (fun h1=>?_))))))
 try simp only [sQ,ne_eq] at h1
 refine Zf (Zd (Za (xM (h:=xA (h:=Zh ?_)))))
 exact ZE .ret (.inl rfl) [_] t1 ⟨rfl,rfl,rfl⟩

set_option maxHeartbeats 400000 in
theorem Ziw (q1 q2 q3:Option Addr) (c1 c2 c3:Nat) (x:DHost) (k:Nat) (hk:kH k x≤800000000000000) (B:Kn) (hu:SlK B q1 c1 3 Zm (Zck k x.users.length)) (hf:SlK B q2 c2 5 Zk (mkL Zbk mkF (k+3*x.users.length) x.folders)) (hi:SlK B q3 c3 4 Zs (mkL Zbf mkI (kL Zbk (k+3*x.users.length) x.folders) x.queue.items)):Zag (pj J) 14 [.agg #[str x.domain,.slice q1 x.users.length c1,.slice q2 x.folders.length c2,.int .i64 x.queue.next,.slice q3 x.queue.items.length c3],.int .i64 k] B (.int .i64 ((kH k x:Nat):Int)):=by
 refine Zb 24 Tryz.func14 rfl rfl rfl (Nat.le_of_ble_eq_true rfl) ?_
 have hk3:kL Zbf (kL Zbk (k+3*x.users.length) x.folders) x.queue.items≤800000000000000:=hk
 have hk2:(kL Zbk (k+3*x.users.length) x.folders)≤800000000000000:=Nat.le_trans ZoW hk3
 have hk1:(k+3*x.users.length)≤800000000000000:=Nat.le_trans ZoW hk2
 refine Za (xBx [_,_,_,_,_] (h:=fun b1=>xA (h:=ZB [_] rfl (Za (xW ZbK (h:=x1 Zis 0 (h:=xM (h:=xR Zyc rfl (Zls _ _ _ k _ x.users.length (by first | rfl | exact Zbq _ _) rfl oz _ hu) (h:=?_)))))))))
 refine xA (h:=Ze (Za (xM (h:=ZI (h:=Zc rfl (fun h1=>by first | omega | (simp at h1;done) | (simp at h1;omega)) (fun h1=>?_))))))
 try simp only [sQ,ne_eq] at h1
 refine Zf (Zd (Za (xW ZaI (h:=x1 ZfF 0 (h:=xM (h:=xR Zyb rfl (Zja _ _ x.folders (k+3*x.users.length) _ rfl oa _ hf) (h:=?_)))))))
 refine xA (h:=Ze (Za (xM (h:=ZI (h:=Zc rfl (fun h2=>by first | omega | (simp at h2;done) | (simp at h2;omega)) (fun h2=>?_))))))
 try simp only [sQ,ne_eq] at h2
 refine Zf (Zd (Za (xW ZbE (h:=xL [_,_] Zed 0 (h:=xM (h:=xR Zya rfl (Zlt _ _ x.queue (kL Zbk (k+3*x.users.length) x.folders) oa _ hi) (h:=?_)))))))
 refine xA (h:=Ze (Za (xM (h:=ZI (h:=Zc rfl (fun h3=>by first | omega | (simp at h3;done) | (simp at h3;omega)) (fun h3=>?_))))))
 try simp only [sQ,ne_eq] at h3
 refine Zf (Zd (Za (xM (h:=xA (h:=Zh ?_)))))
 exact ZE .ret (.inl rfl) [_] t1 ⟨rfl,rfl,rfl⟩

theorem Zuz (v:Value) (Q:Value→Kn→Cells→Prop) (B:Kn) (L:Cells):hb Tryz.prog (Extern.ReflectliteType.typeOf #[.iface 321 v]) Q B L=Q (.iface 218 (.agg #[.pointer (some ⟨5,321,none⟩)])) B L:=by kernel_rfl

theorem ZuA (v:Value) (k:Nat) (Q:FuncId × Value→Kn→Cells→Prop) (B:Kn) (L:Cells):hb Tryz.prog (Go.method (k+1) 218 v "Comparable") Q B L=Q (273,v) B L:=by kernel_rfl

theorem ZuB (Q:Value→Kn→Cells→Prop) (B:Kn) (L:Cells):hb Tryz.prog ((Extern.ReflectliteType.method fun t=>do Extern.Rtype.noPackHeld "Comparable" t;pure (.bool (← typeInfo t).comparable)) #[(.agg #[.pointer (some ⟨5,321,none⟩)])]) Q B L=Q (.bool true) B L:=by kernel_rfl

theorem Zs4:Extern.find Tryz.f273=some (Extern.ReflectliteType.method fun t=>do Extern.Rtype.noPackHeld "Comparable" t;pure (.bool (← typeInfo t).comparable)):=by kernel_rfl
theorem Zs3:Extern.find Tryz.f136=some Extern.ReflectliteType.typeOf:=by kernel_rfl

theorem ZvO:Extern.findNext Tryz.f136=none:=by kernel_rfl
theorem ZvP:Extern.findNext Tryz.f273=none:=by kernel_rfl

set_option maxHeartbeats 400000 in
theorem Zs1 (c k:Nat) (hc:c<4) (hk:k<4) (a:Nat→Addr)  (B:Kn) (hE:ErrsB 321 [0,3,2,1] B a):Zag (pj J) 137 [errv 321 a (c+1),errv 321 a (k+1),.bool true] B (.bool (decide (c+1=k+1))):=by
 refine Zb 54 Tryz.func137 rfl rfl rfl (Nat.le_of_ble_eq_true rfl) ?_
 refine Za (xA (h:=Zl (ZA (α:=Unit) [1,2] (fun u=>[(0,errv 321 a (c+1))]) [] (fun u=>[]) (fun u Bx=>Bx=B) (fun u=>0) () t1 rfl (rfl) (fun u B1 hle1 hI=>?_))))
 subst hI
 refine ZG [(0,_),(1,_),(2,_)] [] t3 rfl (Zl (Ze (Za (xM (h:=xM (h:=Zz (d:=15) rfl (fun g1=>?_) (fun g1=>by cases g1)))))))
 try simp only [sQ,ne_eq] at g1
 refine xM (h:=xM (h:=Zp (ZnU (a:=a) (c:=(c+1)) (k:=k) hE oz oz rfl rfl Tryz.underlying82 Tryz.underlying321 ZxB ZtW rfl rfl ?_)))
 refine xT (h:=Zc rfl (fun g2=>?_) (fun g2=>?_))
 try simp only [sQ,ne_eq] at g2
 refine Za (xA (h:=Zh (Zq (ZD (ZS (ZD ?_))))))
 exact ZE .ret (.inl rfl) [_] t1 ⟨Zi (decide_eq_true g2).symm,rfl,rfl⟩
 try simp only [sQ,ne_eq] at g2
 refine Zf (Zd (Ze (Za (xM (h:=Zp (Zg6 rfl rfl Tryz.underlying220 kr Zvl rfl ?_))))))
 refine xM (h:=xE (h:=xE (h:=xA (h:=xA (h:=Za (xM (h:=xM (h:=Zz (d:=26) rfl (fun g3=>by cases g3) (fun g3=>?_)))))))))
 try simp only [sQ,ne_eq] at g3
 refine xP (h:=xP (h:=xP (h:=xF (h:=Zc (t:=false) rfl (fun h=>Bool.noConfusion h) (fun _=>Zf (Zd (Za (xM (h:=Zl (Za (Zp (Zg6 rfl rfl Tryz.underlying223 kr Zvk rfl ?_))))))))))))
 refine xE (h:=xE (h:=Zc rfl (fun g5=>by cases g5) (fun g5=>?_)))
 try simp only [sQ,ne_eq] at g5
 refine Za (Zp (Zg6 rfl rfl Tryz.underlying225 kr Zvj rfl ?_))
 refine xE (h:=xE (h:=Zc rfl (fun g6=>by cases g6) (fun g6=>?_)))
 try simp only [sQ,ne_eq] at g6
 refine Za (xA (h:=Za (xA (h:=Zh (ZD (ZD (ZS (ZD ?_))))))))
 exact ZE .ret (.inl rfl) [_] t1 ⟨Zi (decide_eq_false g2).symm,rfl,rfl⟩

set_option maxHeartbeats 400000 in
theorem Zs0 (c k:Nat) (hc:c<4) (hk:k<4) (a:Nat→Addr)  (B:Kn) (hE:ErrsB 321 [0,3,2,1] B a):Zag (pj J) 81 [errv 321 a (c+1),errv 321 a (k+1)] B (.bool (decide (c+1=k+1))):=by
 refine Zb 22 Tryz.func81 rfl rfl rfl (Nat.le_of_ble_eq_true rfl) ?_
 refine Za (xA (h:=Ze (Za (xM (h:=Zp (Zg5 (tE:=321) (a:=a) (c:=(c+1)) rfl rfl Tryz.underlying82 rfl (xM (h:=Zz (d:=8) rfl (fun g1=>by simp at g1) (fun g1=>?_)))))))))
 try simp only [sQ,ne_eq] at g1
 refine xM (h:=Zp (Zg5 (tE:=321) (a:=a) (c:=(k+1)) rfl rfl Tryz.underlying82 rfl (xF (h:=Zc rfl (fun g2=>by simp at g2) (fun g2=>?_)))))
 try simp only [sQ,ne_eq] at g2
 refine Zf (Zd (Za (xM (h:=Zp (ZtN (fn:=Tryz.f136) rfl rfl Tryz.func136 rfl rfl ZvO Zs3 rfl (Zuz _) (Zp (ZtK (f:=273) (fn:=Tryz.f273) rfl rfl Tryz.func273 rfl rfl ZvP Zs4 rfl (ZuA _) ZuB (xA (h:=Za (xM (h:=xM (h:=xM (h:=xR ZwQ rfl (Zs1 c k oz oz a _ hE) (h:=?_))))))))))))))
 refine xA (h:=Zh ?_)
 exact ZE .ret (.inl rfl) [_] t1 ⟨rfl,rfl,rfl⟩

set_option maxHeartbeats 400000 in
theorem Zs2 (k:Nat) (hk:k<4) (a:Nat→Addr)  (B:Kn) (hE:ErrsB 321 [0,3,2,1] B a):Zag (pj J) 81 [.nilIface,errv 321 a (k+1)] B (.bool (decide (0=k+1))):=by
 refine Zb 22 Tryz.func81 rfl rfl rfl (Nat.le_of_ble_eq_true rfl) ?_
 refine Za (xA (h:=Ze (Za (xM (h:=Zp (Zg5 (tE:=321) (a:=a) (c:=0) rfl rfl Tryz.underlying82 rfl (xM (h:=Zz (d:=8) rfl (fun g1=>?_) (fun g1=>by simp at g1)))))))))
 try simp only [sQ,ne_eq] at g1
 refine xP (h:=xP (h:=xT (h:=Zc (t:=true) rfl (fun _=>Za (xM (h:=xM (h:=Zp (ZnU (a:=a) (c:=0) (k:=k) hE oz oz rfl rfl Tryz.underlying82 Tryz.underlying321 ZxB ZtW rfl rfl ?_))))) (fun h=>Bool.noConfusion h))))
 refine xA (h:=Zh (Zq ?_))
 exact ZE .ret (.inl rfl) [_] t1 ⟨rfl,rfl,rfl⟩

theorem ZhL (c k:Nat) (hc:c<5) (hk:k<4) (a:Nat→Addr)  (B:Kn) (hE:ErrsB 321 [0,3,2,1] B a):Zag (pj J) 81 [errv 321 a c,errv 321 a (k+1)] B (.bool (decide (c=k+1))):=by
 cases c with
 | zero=>exact Zs2 k hk a B hE
 | succ c=>exact Zs0 c k oz hk a B hE

set_option maxHeartbeats 400000 in
theorem Zne (c:Nat) (hc:c<5) (a:Nat→Addr)  (B:Kn) (hE:ErrsB 321 [0,3,2,1] B a):Zag (pj J) 100 [errv 321 a (c)] B (.int .i64 c):=by
 refine Zb 22 Tryz.func100 rfl rfl rfl (Nat.le_of_ble_eq_true rfl) ?_
 refine Za (xA (h:=Ze (Zl (Za (xM (h:=Zp (Zg5 (tE:=321) (a:=a) (c:=c) rfl rfl Tryz.underlying82 rfl (xA (h:=Zc rfl (fun g0=>?_) (fun g0=>?_))))))))))
 try simp only [sQ,ne_eq] at g0
 refine Za (xA (h:=Zh (ZD (Zq ?_))))
 exact ZE .ret (.inl rfl) [_] t1 ⟨ZN oz,rfl,rfl⟩
 try simp only [sQ,ne_eq] at g0
 refine Za (xM (h:=Zp (Zr rfl rfl ZnH rfl ((hE.row 0 (by decide)) _ 0 _ rfl) ?_)))
 refine xR Zs8 rfl (ZhL c 0 om2 om2 a _ hE) (h:=?_)
 refine xA (h:=Zc rfl (fun g1=>?_) (fun g1=>?_))
 try simp only [sQ,ne_eq] at g1
 refine Za (xA (h:=Zh (ZD (Zq ?_))))
 exact ZE .ret (.inl rfl) [_] t1 ⟨ZN oz,rfl,rfl⟩
 try simp only [sQ,ne_eq] at g1
 refine Za (xM (h:=Zp (Zr rfl rfl ZnH rfl ((hE.row 1 (by decide)) _ 0 _ rfl) ?_)))
 refine xR Zs8 rfl (ZhL c 1 om2 om2 a _ hE) (h:=?_)
 refine xA (h:=Zc rfl (fun g2=>?_) (fun g2=>?_))
 try simp only [sQ,ne_eq] at g2
 refine Za (xA (h:=Zh (ZD (Zq ?_))))
 exact ZE .ret (.inl rfl) [_] t1 ⟨ZN oz,rfl,rfl⟩
 try simp only [sQ,ne_eq] at g2
 refine Za (xM (h:=Zp (Zr rfl rfl ZnH rfl ((hE.row 2 (by decide)) _ 0 _ rfl) ?_)))
 refine xR Zs8 rfl (ZhL c 2 om2 om2 a _ hE) (h:=?_)
 refine xA (h:=Zc rfl (fun g3=>?_) (fun g3=>?_))
 try simp only [sQ,ne_eq] at g3
 refine Za (xA (h:=Zh (ZD (Zq ?_))))
 exact ZE .ret (.inl rfl) [_] t1 ⟨ZN oz,rfl,rfl⟩
 try simp only [sQ,ne_eq] at g3
 refine Za (xM (h:=Zp (Zr rfl rfl ZnH rfl ((hE.row 3 (by decide)) _ 0 _ rfl) ?_)))
 refine xR Zs8 rfl (ZhL c 3 om2 om2 a _ hE) (h:=?_)
 refine xA (h:=Zc rfl (fun g4=>?_) (fun g4=>?_))
 try simp only [sQ,ne_eq] at g4
 refine Za (xA (h:=Zh (ZD (Zq ?_))))
 exact ZE .ret (.inl rfl) [_] t1 ⟨ZN oz,rfl,rfl⟩
 try simp only [sQ,ne_eq] at g4
 refine Zf (ZT (Zd (Za (xA (h:=Zh ?_)))))
 exact ZE .ret (.inl rfl) [_] t1 ⟨ZN oz,rfl,rfl⟩

end Go.Proofs.YthgggppcgbglkaaGreatDoor
