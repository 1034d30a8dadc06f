/-
  WHAT THE FUNCTIONS THAT THE LAWS REACH COMPUTE: each function's contract, proved off its printed body (the text is written by program). No condition beyond those that each theorem states.
-/
import Derived.Test.YtnfoidafdcgdbaaGreatDoorC0
namespace Go.Proofs.YtnfoidafdcgdbaaGreatDoor
open Go Go.BL
set_option linter.unusedVariables false
set_option linter.unusedSimpArgs false
set_option maxRecDepth 4000
variable {J : JoinT}
set_option maxHeartbeats 400000 in
theorem Zml (aq:Option Addr) (cq:Nat) (q:DQueue) (B:Kn) (hq:SlK B aq cq 4 Zj q.items):Za1 (pj J) 28 [.agg #[.int .i64 q.next,.slice aq q.items.length cq]] B (.bool (Zab q)):=by
 refine Zc 42 Tryz.func28 rfl rfl rfl (Nat.le_of_ble_eq_true rfl) ?_
 have hqn:=hq.len
 refine Za (xBx [_,_] (h:=fun b1=>xA (h:=Zw [_] rfl (Zm (Za (xW ZaI (h:=x1 Zfz 0 (h:=xV Tryz.underlying25 (h:=ZbA (h:=xM (h:=Zt (d:=9) rfl (fun g1=>?_) (fun g1=>?_))))))))))))
 try simp only [sQ,ne_eq] at g1
 refine xP (h:=xP (h:=xP (h:=xT (h:=xM (h:=xP (h:=xP (h:=xP (h:=xT (h:=Zd (t:=true) rfl (fun _=>Za (xA (h:=Zg (Zs ?_)))) (fun h=>Bool.noConfusion h))))))))))
 exact ZW .ret (.inl rfl) [_] t1 ⟨Zp (Zgj oz),rfl,rfl⟩
 try simp only [sQ,ne_eq] at g1
 refine xW ZeN (h:=x1 lk3 0 (h:=Zai (h:=xF (h:=xM (h:=Zt (d:=14) rfl (fun g2=>?_) (fun g2=>?_))))))
 try simp only [sQ,ne_eq] at g2
 refine xP (h:=xP (h:=xP (h:=xT (h:=Zd (t:=true) rfl (fun _=>Za (xA (h:=Zg (Zs ?_)))) (fun h=>Bool.noConfusion h)))))
 exact ZW .ret (.inl rfl) [_] t1 ⟨Zp (Zgj oz),rfl,rfl⟩
 try simp only [sQ,ne_eq] at g2
 refine xW ZeN (h:=x1 lk3 0 (h:=ZbA (h:=xF (h:=Zd rfl (fun g3=>?_) (fun g3=>?_)))))
 try simp only [sQ,ne_eq] at g3
 refine Za (xA (h:=Zg (Zs ?_)))
 exact ZW .ret (.inl rfl) [_] t1 ⟨Zp (Zgj oz),rfl,rfl⟩
 try simp only [sQ,ne_eq] at g3
 refine Zi (Zf (Zm (Za (xW ZaI (h:=x1 Zfz 0 (h:=xV Tryz.underlying25 (h:=xM (h:=Zr (ZU (α:=Nat) [0,1,18,20,21] (fun k=>[(22,.int .i64 k)]) [] (fun k=>[]) (fun k Bx=>Bx=B∧k≤q.items.length∧(q.items.take k).all Zcw=true) (fun k=>q.items.length - k) 0 t1 rfl (⟨rfl,Nat.zero_le _,by simp⟩) (fun k B2 hle2 hI=>?_))))))))))
 obtain ⟨rfl,hk,ha⟩:=hI
 refine ZQ [(0,_),(1,_),(18,_),(20,_),(21,_),(22,_)] [_] t6 rfl (Za (Zai (h:=Zm (Zd rfl (fun g4=>?_) (fun g4=>?_)))))
 try simp only [sQ,ne_eq] at g4
 refine Zi (Zf (Zm (Zr (Za ?_))))
 obtain ⟨x,hx⟩:=Zax (xs:=q.items) (i:=k) om
 obtain ⟨bb4,oo4,rfl⟩:=hq.base hx
 obtain ⟨_,⟨qi5,ci5,rfl,hi5,hb5,hb5b⟩,hc5⟩:=hq.elem hx
 have hi5n:=hi5.len
 refine xIx Tryz.underlying25 Zer (h:=yL [_,_,_,_] ZlF hc5 0 (h:=xAl [_,_,_,_] ZiD (h:=fun b6=>xS [_,_,_,_] 1 [_,_,_,_] Zer (h:=Zw [_,_] rfl (Za (xW Zni (h:=x1 lk9 1 (h:=xW ZbG (h:=x1 Zhc 1 (h:=xW Zp6 (h:=x1 lk9 1 (h:=xB [(0,_),(1,_),(2,_)] [_,_,_] [_,_,_] Zri Znz (h:=?_)))))))))))))
 refine xR ZxC rfl (Zk5 _ _ ⟨x.fr,x.left,x.text⟩ _ hi5 oa oa) (h:=?_)
 refine xN (h:=Zd rfl (fun g5=>?_) (fun g5=>?_))
 try simp only [sQ,ne_eq] at g5
 refine Za (xA (h:=Zg (ZI (Zs (Z7 (ZI (Zs ?_)))))))
 exact ZW .ret (.inl rfl) [_] t1 ⟨Zp (Zl7 hx g5),rfl,rfl⟩
 try simp only [sQ,ne_eq] at g5
 refine Zi (Zz (Zf (Ze (xD (h:=xM (h:=?_))))))
 exact ZE (k+1) [0] so2 ⟨rfl,oz,Zvi hx g5 ha⟩ t6 rfl
 try simp only [sQ,ne_eq] at g4
 refine ZY (Zal (Z6 (ZN (Zf (Za (xW ZaI (h:=x1 Zfz 0 (h:=xW ZeN (h:=x1 lk3 0 (h:=xU (h:=xR ZxB rfl (Zmn _ _ _ _ _ hq) (h:=xA (h:=Zg ?_)))))))))))))
 exact ZW .ret (.inl rfl) [_] t1 ⟨Zp (Zl6 oz ha oz oz oz),rfl,rfl⟩

set_option maxHeartbeats 400000 in
theorem ZeH (n:Int) (B:Kn):Za1 (pj J) 132 [.int .i64 n] B (.bool (decide (0≤n) && decide (n≤31))):=by
 refine Zc 5 Tryz.func132 rfl rfl rfl (Nat.le_of_ble_eq_true rfl) ?_
 refine Za (xA (h:=Za (xM (h:=xR Zjt rfl (Zch _ _ _ _) (h:=xA (h:=Zg ?_))))))
 exact ZW .ret (.inl rfl) [_] t1 ⟨rfl,rfl,rfl⟩

set_option maxHeartbeats 400000 in
theorem Zmm (n:Int) (B:Kn):Za1 (pj J) 155 [.int .i64 n] B (.bool (decide (0≤n) && decide (n≤31))):=by
 refine Zc 9 Tryz.func155 rfl rfl rfl (Nat.le_of_ble_eq_true rfl) ?_
 refine Za (xA (h:=Za (xM (h:=ZdS (h:=xM (h:=Zt (d:=5) rfl (fun g1=>?_) (fun g1=>?_)))))))
 try simp only [sQ,ne_eq] at g1
 refine xM (h:=ZcB (h:=xT (h:=xA (h:=Zg ?_))))
 exact ZW .ret (.inl rfl) [_] t1 ⟨Zp (by rw [Bool.eq_iff_iff];simp [g1];try omega),rfl,rfl⟩
 try simp only [sQ,ne_eq] at g1
 refine xP (h:=xP (h:=xF (h:=xA (h:=Zg ?_))))
 exact ZW .ret (.inl rfl) [_] t1 ⟨Zp (by rw [Bool.eq_iff_iff];simp [g1];try omega),rfl,rfl⟩

set_option maxHeartbeats 400000 in
theorem ZpM (m:DMail) (hm:m.text.length≤2000000) (B:Kn):Za1 (pj J) 127 [.agg #[.int .i64 m.uid,.int .i64 m.flags,str m.text]] B (.bool (Zbw m)):=by
 refine Zc 17 Tryz.func127 rfl rfl rfl (Nat.le_of_ble_eq_true rfl) ?_
 refine Za (xBx [_,_,_] (h:=fun b1=>xA (h:=Zw [_] rfl (Za (xW ZeO (h:=x1 lk3 0 (h:=xR Zjt rfl (Zch _ _ _ _) (h:=xM (h:=Zt (d:=6) rfl (fun g1=>?_) (fun g1=>?_))))))))))
 try simp only [sQ,ne_eq] at g1
 refine xW ZfB (h:=x1 lk3 0 (h:=xR Zqo rfl (ZeH _ _) (h:=xT (h:=xM (h:=Zt (d:=11) rfl (fun g2=>?_) (fun g2=>?_))))))
 try simp only [sQ,ne_eq] at g2
 refine xW Zif (h:=x1 lk9 0 (h:=xVs Tryz.underlying9 (h:=ZcB (h:=xT (h:=xA (h:=Zg ?_))))))
 exact ZW .ret (.inl rfl) [_] t1 ⟨Zp (by rw [Bool.eq_iff_iff];simp [Zbw,g1,g2];try omega),rfl,rfl⟩
 try simp only [sQ,ne_eq] at g2
 refine xP (h:=xP (h:=xP (h:=xP (h:=xF (h:=xA (h:=Zg ?_))))))
 exact ZW .ret (.inl rfl) [_] t1 ⟨Zp (by rw [Bool.eq_iff_iff];simp [Zbw,g1,g2];try omega),rfl,rfl⟩
 try simp only [sQ,ne_eq] at g1
 refine xP (h:=xP (h:=xP (h:=xF (h:=xM (h:=xP (h:=xP (h:=xP (h:=xP (h:=xF (h:=xA (h:=Zg ?_)))))))))))
 exact ZW .ret (.inl rfl) [_] t1 ⟨Zp (by rw [Bool.eq_iff_iff];simp [Zbw,g1];try omega),rfl,rfl⟩

set_option maxHeartbeats 400000 in
theorem Zoe (m:DMail) (hm:m.text.length≤2000000) (B:Kn):Za1 (pj J) 118 [.agg #[.int .i64 m.uid,.int .i64 m.flags,str m.text]] B (.bool (Zbw m)):=by
 refine Zc 22 Tryz.func118 rfl rfl rfl (Nat.le_of_ble_eq_true rfl) ?_
 refine Za (xBx [_,_,_] (h:=fun b1=>xA (h:=Zw [_] rfl (Za (xW ZeO (h:=x1 lk3 0 (h:=ZdS (h:=xM (h:=Zt (d:=6) rfl (fun g1=>?_) (fun g1=>?_))))))))))
 try simp only [sQ,ne_eq] at g1
 refine xW ZeO (h:=x1 lk3 0 (h:=ZcB (h:=xT (h:=xM (h:=Zt (d:=11) rfl (fun g2=>?_) (fun g2=>?_))))))
 try simp only [sQ,ne_eq] at g2
 refine xW ZfB (h:=x1 lk3 0 (h:=xR Zwq rfl (Zmm _ _) (h:=xT (h:=xM (h:=Zt (d:=16) rfl (fun g3=>?_) (fun g3=>?_))))))
 try simp only [sQ,ne_eq] at g3
 refine xW Zif (h:=x1 lk9 0 (h:=xVs Tryz.underlying9 (h:=ZcB (h:=xT (h:=xA (h:=Zg ?_))))))
 exact ZW .ret (.inl rfl) [_] t1 ⟨Zp (by rw [Bool.eq_iff_iff];simp [Zbw,g1,g2,g3];try omega),rfl,rfl⟩
 try simp only [sQ,ne_eq] at g3
 refine xP (h:=xP (h:=xP (h:=xP (h:=xF (h:=xA (h:=Zg ?_))))))
 exact ZW .ret (.inl rfl) [_] t1 ⟨Zp (by rw [Bool.eq_iff_iff];simp [Zbw,g1,g2,g3];try omega),rfl,rfl⟩
 try simp only [sQ,ne_eq] at g2
 refine xP (h:=xP (h:=xP (h:=xF (h:=xM (h:=xP (h:=xP (h:=xP (h:=xP (h:=xF (h:=xA (h:=Zg ?_)))))))))))
 exact ZW .ret (.inl rfl) [_] t1 ⟨Zp (by rw [Bool.eq_iff_iff];simp [Zbw,g1,g2];try omega),rfl,rfl⟩
 try simp only [sQ,ne_eq] at g1
 refine xP (h:=xP (h:=xP (h:=xF (h:=xM (h:=xP (h:=xP (h:=xP (h:=xF (h:=xM (h:=xP (h:=xP (h:=xP (h:=?_)))))))))))))
 refine xP (h:=xF (h:=xA (h:=Zg ?_)))
 exact ZW .ret (.inl rfl) [_] t1 ⟨Zp (by rw [Bool.eq_iff_iff];simp [Zbw,g1];try omega),rfl,rfl⟩

set_option maxHeartbeats 400000 in
theorem ZfU (q:Option Addr) (cp:Nat) (x:DBox) (B:Kn) (hx:SlK B q cp 3 ZJ x.mail):Za1 (pj J) 81 [.agg #[.int .i64 x.next,.slice q x.mail.length cp]] B (.bool (Zbh x)):=by
 refine Zc 46 Tryz.func81 rfl rfl rfl (Nat.le_of_ble_eq_true rfl) ?_
 have hxn:=hx.len
 refine Za (xBx [_,_] (h:=fun b1=>xA (h:=Zw [_] rfl (Za (xA (h:=Zm (Za (xA (h:=Zr (ZU (α:=Nat × Int) [0,1] (fun g=>[(3,.int .i64 g.2),(4,.int .i64 g.1)]) [] (fun g=>[]) (fun g Bx=>Bx=B∧g.1≤x.mail.length∧Zca (x.mail.take g.1)=(true,g.2)∧0≤g.2∧g.2≤99) (fun g=>x.mail.length - g.1) (0,0) t2 rfl (⟨rfl,Nat.zero_le _,Zey,oz,oz⟩) (fun g B2 hle2 hI=>?_)))))))))))
 obtain ⟨rfl,hk,hs,hl0,hl1⟩:=hI
 refine ZQ [(0,_),(1,_),(3,_),(4,_)] [_] t4 rfl (Zm (Za (xM (h:=xW ZaU (h:=x1 ZfJ 0 (h:=xV Tryz.underlying54 (h:=Zai (h:=Zd rfl (fun g1=>?_) (fun g1=>?_)))))))))
 try simp only [sQ,ne_eq] at g1
 refine Zi (Zf (Zm (Zr (Zm (Za (xW ZaU (h:=x1 ZfJ 0 (h:=xM (h:=?_)))))))))
 obtain ⟨m,hm⟩:=Zax (xs:=x.mail) (i:=g.1) om
 obtain ⟨bb4,oo4,rfl⟩:=hx.base hm
 obtain ⟨_,⟨rfl,hb5⟩,hc5⟩:=hx.elem hm
 refine xIx Tryz.underlying54 ZcW (h:=yL [_,_,_] Zn5 hc5 0 (h:=xR ZwH rfl (ZpM m om2 _) (h:=?_)))
 refine xN (h:=xM (h:=Zt (d:=19) rfl (fun g2=>?_) (fun g2=>?_)))
 try simp only [sQ,ne_eq] at g2
 refine xP (h:=xP (h:=xP (h:=xP (h:=xP (h:=xP (h:=xP (h:=xP (h:=xT (h:=Zd (t:=true) rfl (fun _=>Za (xA (h:=Zg (Zs (ZI (Zs (Z7 (ZI (Zs ?_))))))))) (fun h=>Bool.noConfusion h))))))))))
 exact ZW .ret (.inl rfl) [_] t1 ⟨Zp (Zga (Zft hm (by rw [show (scn ZbJ (fun _ m=>m.uid) 0 (x.mail.take g.1)).2=g.2 from congrArg Prod.snd hs];simp [ZbJ,g2]))).symm,rfl,rfl⟩
 try simp only [sQ,ne_eq] at g2
 refine xW ZaU (h:=x1 ZfJ 0 (h:=xM (h:=xIx Tryz.underlying54 ZcW (h:=xW ZeO (h:=y1 lk3 hc5 0 (h:=xM (h:=ZcB (h:=xF (h:=Zd rfl (fun g3=>?_) (fun g3=>?_))))))))))
 try simp only [sQ,ne_eq] at g3
 refine Za (xA (h:=Zg (Zs (ZI (Zs (Z7 (ZI (Zs ?_))))))))
 exact ZW .ret (.inl rfl) [_] t1 ⟨Zp (Zga (Zft hm (by rw [show (scn ZbJ (fun _ m=>m.uid) 0 (x.mail.take g.1)).2=g.2 from congrArg Prod.snd hs];simp [ZbJ,g2];omega))).symm,rfl,rfl⟩
 try simp only [sQ,ne_eq] at g3
 refine Zi (Zf (Ze (xW ZaU (h:=x1 ZfJ 0 (h:=xM (h:=xIx Tryz.underlying54 ZcW (h:=xW ZeO (h:=y1 lk3 hc5 0 (h:=xA (h:=Zz (Zf (Ze (xM (h:=?_))))))))))))))
 refine xD (h:=xA (h:=?_))
 exact ZE (g.1+1,m.uid) [0] so2 ⟨rfl,oz,Zb9 hm hs (by simp [ZbJ,g2];omega),Zjh g2⟩ t4 rfl
 try simp only [sQ,ne_eq] at g1
 refine ZY (Zal (Z6 (ZN (Zf (Za (xW Zcz (h:=x1 lk3 0 (h:=xM (h:=xD (h:=xR Zjt rfl (Zch _ _ _ _) (h:=xM (h:=Zt (d:=40) rfl (fun g4=>?_) (fun g4=>?_)))))))))))))
 try simp only [sQ,ne_eq] at g4
 refine xW ZaU (h:=x1 ZfJ 0 (h:=xV Tryz.underlying54 (h:=ZcB (h:=xT (h:=xA (h:=Zg ?_))))))
 exact ZW .ret (.inl rfl) [_] t1 ⟨Zp (by rw [Zdr (ZdN hs oz),g4,Bool.true_and,Bool.eq_iff_iff];simp;omega),rfl,rfl⟩
 try simp only [sQ,ne_eq] at g4
 refine xP (h:=xP (h:=xP (h:=xP (h:=xF (h:=xA (h:=Zg ?_))))))
 exact ZW .ret (.inl rfl) [_] t1 ⟨Zp (by rw [Zdr (ZdN hs oz),g4,Bool.false_and]),rfl,rfl⟩

set_option maxHeartbeats 400000 in
theorem Zk7 (q:Option Addr) (cp:Nat) (x:DBox) (B:Kn) (hx:SlK B q cp 3 ZJ x.mail):Za1 (pj J) 68 [.agg #[.int .i64 x.next,.slice q x.mail.length cp]] B (.bool (Zbh x)):=by
 refine Zc 38 Tryz.func68 rfl rfl rfl (Nat.le_of_ble_eq_true rfl) ?_
 have hxn:=hx.len
 refine Za (xBx [_,_] (h:=fun b1=>xA (h:=Zw [_] rfl (Zm (Za (xW ZaU (h:=x1 ZfJ 0 (h:=xV Tryz.underlying54 (h:=ZbA (h:=Zd rfl (fun g0=>?_) (fun g0=>?_)))))))))))
 try simp only [sQ,ne_eq] at g0
 refine Za (xA (h:=Zg (Zs ?_)))
 exact ZW .ret (.inl rfl) [_] t1 ⟨Zp (by simp [Zbh];omega),rfl,rfl⟩
 try simp only [sQ,ne_eq] at g0
 refine Zi (Zf (Za (xA (h:=Zm (Za (xW ZaU (h:=x1 ZfJ 0 (h:=xV Tryz.underlying54 (h:=xM (h:=Zr (ZU (α:=Nat × Int) [0,1,9,11,12] (fun g=>[(3,.int .i64 g.2),(13,.int .i64 g.1)]) [] (fun g=>[]) (fun g Bx=>Bx=B∧g.1≤x.mail.length∧Zca (x.mail.take g.1)=(true,g.2)∧0≤g.2∧g.2≤99) (fun g=>x.mail.length - g.1) (0,0) t2 rfl (⟨rfl,Nat.zero_le _,Zey,oz,oz⟩) (fun g B2 hle2 hI=>?_))))))))))))
 obtain ⟨rfl,hk,hs,hl0,hl1⟩:=hI
 refine ZQ [(0,_),(1,_),(3,_),(9,_),(11,_),(12,_),(13,_)] [_] t7 rfl (Za (Zai (h:=Zm (Zd rfl (fun g1=>?_) (fun g1=>?_)))))
 try simp only [sQ,ne_eq] at g1
 refine Zi (Zf (Zm (Zr (Za ?_))))
 obtain ⟨m,hm⟩:=Zax (xs:=x.mail) (i:=g.1) om
 obtain ⟨bb4,oo4,rfl⟩:=hx.base hm
 obtain ⟨_,⟨rfl,hb5⟩,hc5⟩:=hx.elem hm
 refine xIx Tryz.underlying54 ZcW (h:=yL [_,_,_] Zn5 hc5 0 (h:=xAl [_,_,_] Zgf (h:=fun b6=>xS [_,_,_] 1 [_,_,_] ZcW (h:=Zw [_,_] rfl (Zm (Za (xL [_,_,_] Zn5 1 (h:=xR ZwL rfl (Zoe m om2 _) (h:=?_)))))))))
 refine xN (h:=xM (h:=Zt (d:=20) rfl (fun g2=>?_) (fun g2=>?_)))
 try simp only [sQ,ne_eq] at g2
 refine xP (h:=xP (h:=xP (h:=xP (h:=xT (h:=Zd (t:=true) rfl (fun _=>Za (xA (h:=Zg (Zs (ZI (Zs (Z7 (ZI (Zs ?_))))))))) (fun h=>Bool.noConfusion h))))))
 exact ZW .ret (.inl rfl) [_] t1 ⟨Zp (Zga (Zft hm (by rw [show (scn ZbJ (fun _ m=>m.uid) 0 (x.mail.take g.1)).2=g.2 from congrArg Prod.snd hs];simp [ZbJ,g2]))).symm,rfl,rfl⟩
 try simp only [sQ,ne_eq] at g2
 refine xW ZeO (h:=x1 lk3 1 (h:=xM (h:=ZcB (h:=xF (h:=Zd rfl (fun g3=>?_) (fun g3=>?_))))))
 try simp only [sQ,ne_eq] at g3
 refine Za (xA (h:=Zg (Zs (ZI (Zs (Z7 (ZI (Zs ?_))))))))
 exact ZW .ret (.inl rfl) [_] t1 ⟨Zp (Zga (Zft hm (by rw [show (scn ZbJ (fun _ m=>m.uid) 0 (x.mail.take g.1)).2=g.2 from congrArg Prod.snd hs];simp [ZbJ,g2];omega))).symm,rfl,rfl⟩
 try simp only [sQ,ne_eq] at g3
 refine Zi (Zf (Ze (xW ZeO (h:=x1 lk3 1 (h:=xA (h:=Zz (Zf (Ze (xD (h:=xM (h:=?_)))))))))))
 exact ZE (g.1+1,m.uid) [0] so2 ⟨rfl,oz,Zb9 hm hs (by simp [ZbJ,g2];omega),Zjh g2⟩ t7 rfl
 try simp only [sQ,ne_eq] at g1
 refine ZY (Zal (Z6 (ZN (Zf (Za (xW Zcz (h:=x1 lk3 0 (h:=xM (h:=ZbA (h:=xM (h:=Zt (d:=33) rfl (fun g4=>?_) (fun g4=>?_))))))))))))
 try simp only [sQ,ne_eq] at g4
 refine xW Zcz (h:=x1 lk3 0 (h:=ZcB (h:=xT (h:=xA (h:=Zg ?_)))))
 exact ZW .ret (.inl rfl) [_] t1 ⟨Zp (by rw [Zdr (ZdN hs oz),Bool.eq_iff_iff];simp;omega),rfl,rfl⟩
 try simp only [sQ,ne_eq] at g4
 refine xP (h:=xP (h:=xP (h:=xF (h:=xA (h:=Zg ?_)))))
 exact ZW .ret (.inl rfl) [_] t1 ⟨Zp (by rw [Zdr (ZdN hs oz),Bool.eq_iff_iff];simp;omega),rfl,rfl⟩

set_option maxHeartbeats 400000 in
theorem ZpL (q:Option Addr) (cp:Nat) (x:DBox) (B:Kn) (hx:SlK B q cp 3 ZJ x.mail):Za1 (pj J) 83 [.agg #[.int .i64 x.next,.slice q x.mail.length cp]] B (.int .i64 (Zah x.mail)):=by
 refine Zc 22 Tryz.func83 rfl rfl rfl (Nat.le_of_ble_eq_true rfl) ?_
 have hxn:=hx.len
 refine Za (xBx [_,_] (h:=fun b1=>xA (h:=Zw [_] rfl (Za (xA (h:=Zm (Za (xA (h:=Zr (ZU (α:=Nat × Nat) [0,1,2] (fun g=>[(3,.int .i64 g.2),(4,.int .i64 g.1)]) [] (fun g=>[]) (fun g Bx=>Bx=B∧g.1≤x.mail.length∧g.2=Zah (x.mail.take g.1)∧g.2≤g.1*2000000) (fun g=>x.mail.length - g.1) (0,0) t2 rfl (⟨rfl,Nat.zero_le _,by simp [Zah],oz⟩) (fun g B2 hle2 hI=>?_)))))))))))
 obtain ⟨rfl,hk,hs,hl⟩:=hI
 refine ZQ [(0,_),(1,_),(2,_),(3,_),(4,_)] [_] t5 rfl (Zm (Za (xM (h:=xW ZaU (h:=x1 ZfJ 0 (h:=xV Tryz.underlying54 (h:=Zai (h:=Zd rfl (fun g1=>?_) (fun g1=>?_)))))))))
 try simp only [sQ,ne_eq] at g1
 refine Zi (Zf (Zm (Zr (Ze (xM (h:=xW ZaU (h:=x1 ZfJ 0 (h:=xM (h:=?_)))))))))
 obtain ⟨m,hm⟩:=Zax (xs:=x.mail) (i:=g.1) om
 obtain ⟨bb4,oo4,rfl⟩:=hx.base hm
 obtain ⟨_,⟨rfl,hb5⟩,hc5⟩:=hx.elem hm
 refine xIx Tryz.underlying54 ZcW (h:=xW Zif (h:=y1 lk9 hc5 2 (h:=xVs Tryz.underlying9 (h:=xD (h:=xA (h:=Zz (Zf (Ze (xM (h:=xD (h:=xA (h:=?_))))))))))))
 exact ZE (g.1+1,g.2+m.text.length) [0] so2 ⟨rfl,oz,by rw [ZhD hm,← hs],oz⟩ t5 rfl
 try simp only [sQ,ne_eq] at g1
 refine ZY (Zal (Z6 (ZN (Zf (Za (xM (h:=xA (h:=Zg ?_))))))))
 exact ZW .ret (.inl rfl) [_] t1 ⟨ZaA (by rw [← Zi5 hs oz]),rfl,rfl⟩

set_option maxHeartbeats 400000 in
theorem ZqA (q:Option Addr) (cp:Nat) (x:DBox) (B:Kn) (hx:SlK B q cp 3 ZJ x.mail):Za1 (pj J) 157 [.agg #[.int .i64 x.next,.slice q x.mail.length cp]] B (.int .i64 (ZdR x)):=by
 refine Zc 23 Tryz.func157 rfl rfl rfl (Nat.le_of_ble_eq_true rfl) ?_
 have hxn:=hx.len
 refine Za (xBx [_,_] (h:=fun b1=>xA (h:=Zw [_] rfl (Zm (Za (xL [_,_] ZbN 0 (h:=xR Zw0 rfl (Zk7 _ _ (⟨x.next,x.mail⟩:DBox) _ hx) (h:=xN (h:=Zd rfl (fun g0=>?_) (fun g0=>?_))))))))))
 try simp only [sQ,ne_eq] at g0
 refine Za (xA (h:=Zg (Zs ?_)))
 exact ZW .ret (.inl rfl) [_] t1 ⟨ZaA (by simp [ZdR,g0]),rfl,rfl⟩
 try simp only [sQ,ne_eq] at g0
 refine Zi (Zf (Za (xA (h:=Zm (Za (xW ZaU (h:=x1 ZfJ 0 (h:=xV Tryz.underlying54 (h:=xM (h:=Zr (ZU (α:=Nat × Nat) [0,1,2,8,10,11] (fun g=>[(3,.int .i64 g.2),(12,.int .i64 g.1)]) [] (fun g=>[]) (fun g Bx=>Bx=B∧g.1≤x.mail.length∧g.2=Zah (x.mail.take g.1)∧g.2≤g.1*2000000) (fun g=>x.mail.length - g.1) (0,0) t2 rfl (⟨rfl,Nat.zero_le _,by simp [Zah],oz⟩) (fun g B3 hle3 hI=>?_))))))))))))
 obtain ⟨rfl,hk,hs,hl⟩:=hI
 refine ZQ [(0,_),(1,_),(2,_),(3,_),(8,_),(10,_),(11,_),(12,_)] [_] t8 rfl (Za (Zai (h:=Zm (Zd rfl (fun g1=>?_) (fun g1=>?_)))))
 try simp only [sQ,ne_eq] at g1
 refine Zi (Zf (Zm (Zr (Za ?_))))
 obtain ⟨m,hm⟩:=Zax (xs:=x.mail) (i:=g.1) om
 obtain ⟨bb5,oo5,rfl⟩:=hx.base hm
 obtain ⟨_,⟨rfl,hb6⟩,hc6⟩:=hx.elem hm
 refine xIx Tryz.underlying54 ZcW (h:=yL [_,_,_] Zn5 hc6 0 (h:=xAl [_,_,_] Zgf (h:=fun b7=>xS [_,_,_] 1 [_,_,_] ZcW (h:=Zw [_,_] rfl (Ze (xM (h:=xW Zif (h:=x1 lk9 1 (h:=xVs Tryz.underlying9 (h:=xD (h:=xA (h:=Zz (Zf ?_)))))))))))))
 refine Ze (xD (h:=xM (h:=?_)))
 exact ZE (g.1+1,g.2+m.text.length) [0] so2 ⟨rfl,oz,by rw [ZhD hm,← hs],oz⟩ t8 rfl
 try simp only [sQ,ne_eq] at g1
 refine ZY (Zal (Z6 (ZN (Zf (Za (xM (h:=xA (h:=Zg ?_))))))))
 exact ZW .ret (.inl rfl) [_] t1 ⟨ZaA (by rw [ZdR,if_pos g0,← Zi5 hs oz]),rfl,rfl⟩

set_option maxHeartbeats 400000 in
theorem Zra (n:Int) (B:Kn):Za1 (pj J) 86 [.int .i64 n] B (.bool (decide (0≤n) && decide (n≤63))):=by
 refine Zc 9 Tryz.func86 rfl rfl rfl (Nat.le_of_ble_eq_true rfl) ?_
 refine Za (xA (h:=Za (xM (h:=ZdS (h:=xM (h:=Zt (d:=5) rfl (fun g1=>?_) (fun g1=>?_)))))))
 try simp only [sQ,ne_eq] at g1
 refine xM (h:=ZcB (h:=xT (h:=xA (h:=Zg ?_))))
 exact ZW .ret (.inl rfl) [_] t1 ⟨Zp (by rw [Bool.eq_iff_iff];simp [g1];try omega),rfl,rfl⟩
 try simp only [sQ,ne_eq] at g1
 refine xP (h:=xP (h:=xF (h:=xA (h:=Zg ?_))))
 exact ZW .ret (.inl rfl) [_] t1 ⟨Zp (by rw [Bool.eq_iff_iff];simp [g1];try omega),rfl,rfl⟩

set_option maxHeartbeats 400000 in
theorem ZlO (u:DUser) (h1:u.name.length≤2000000) (h2:u.pass.length≤2000000) (B:Kn):Za1 (pj J) 59 [.agg #[str u.name,str u.pass,.int .i64 u.quota]] B (.bool (Zcq u)):=by
 refine Zc 26 Tryz.func59 rfl rfl rfl (Nat.le_of_ble_eq_true rfl) ?_
 refine Za (xBx [_,_,_] (h:=fun b1=>xA (h:=Zw [_] rfl (Za (xW Zc2 (h:=x1 lk9 0 (h:=xR ZsH rfl (Zci _ om2 _) (h:=?_))))))))
 refine xM (h:=Zt (d:=6) rfl (fun g1=>?_) (fun g1=>?_))
 try simp only [sQ,ne_eq] at g1
 refine xW Zc2 (h:=x1 lk9 0 (h:=ZiT (h:=xT (h:=xM (h:=Zt (d:=11) rfl (fun g2=>?_) (fun g2=>?_))))))
 try simp only [sQ,ne_eq] at g2
 refine xW Zp7 (h:=x1 lk9 0 (h:=xR ZsH rfl (Zci _ om2 _) (h:=?_)))
 refine xT (h:=xM (h:=Zt (d:=16) rfl (fun g3=>?_) (fun g3=>?_)))
 try simp only [sQ,ne_eq] at g3
 refine xW Zie (h:=x1 lk3 0 (h:=ZdS (h:=xT (h:=xM (h:=Zt (d:=21) rfl (fun g4=>?_) (fun g4=>?_))))))
 try simp only [sQ,ne_eq] at g4
 refine xW Zie (h:=x1 lk3 0 (h:=ZcB (h:=xT (h:=xA (h:=Zg ?_)))))
 exact ZW .ret (.inl rfl) [_] t1 ⟨Zp (by rw [Bool.eq_iff_iff];simp [Zcq,anyone,g1,g2,g3,g4];try omega),rfl,rfl⟩
 try simp only [sQ,ne_eq] at g4
 refine xP (h:=xP (h:=xP (h:=xF (h:=xA (h:=Zg ?_)))))
 exact ZW .ret (.inl rfl) [_] t1 ⟨Zp (by rw [Bool.eq_iff_iff];simp [Zcq,anyone,g1,g2,g3,g4];try omega),rfl,rfl⟩
 try simp only [sQ,ne_eq] at g3
 refine xP (h:=xP (h:=xP (h:=xF (h:=xM (h:=xP (h:=xP (h:=xP (h:=xF (h:=xA (h:=Zg ?_))))))))))
 exact ZW .ret (.inl rfl) [_] t1 ⟨Zp (by rw [Bool.eq_iff_iff];simp [Zcq,anyone,g1,g2,g3];try omega),rfl,rfl⟩
 try simp only [sQ,ne_eq] at g2
 refine xP (h:=xP (h:=xP (h:=xF (h:=xM (h:=xP (h:=xP (h:=xP (h:=xF (h:=xM (h:=xP (h:=xP (h:=xP (h:=?_)))))))))))))
 refine xF (h:=xA (h:=Zg ?_))
 exact ZW .ret (.inl rfl) [_] t1 ⟨Zp (by rw [Bool.eq_iff_iff];simp [Zcq,anyone,g1,g2];try omega),rfl,rfl⟩
 try simp only [sQ,ne_eq] at g1
 refine xP (h:=xP (h:=xP (h:=xF (h:=xM (h:=xP (h:=xP (h:=xP (h:=xF (h:=xM (h:=xP (h:=xP (h:=xP (h:=?_)))))))))))))
 refine xF (h:=xM (h:=xP (h:=xP (h:=xP (h:=xF (h:=xA (h:=Zg ?_)))))))
 exact ZW .ret (.inl rfl) [_] t1 ⟨Zp (by rw [Bool.eq_iff_iff];simp [Zcq,anyone,g1];try omega),rfl,rfl⟩

set_option maxHeartbeats 400000 in
theorem ZhZ (q:Option Addr) (cp:Nat) (us:List DUser) (B:Kn) (hu:SlK B q cp 3 Zh us):Za1 (pj J) 27 [.slice q us.length cp] B (.bool (Zaq us)):=by
 refine Zc 32 Tryz.func27 rfl rfl rfl (Nat.le_of_ble_eq_true rfl) ?_
 have hun:=hu.len
 refine Za (xA (h:=Zm (Za (xM (h:=xV Tryz.underlying23 (h:=Zai (h:=xM (h:=Zt (d:=9) rfl (fun g0=>?_) (fun g0=>?_)))))))))
 try simp only [sQ,ne_eq] at g0
 refine xP (h:=xP (h:=xP (h:=xT (h:=Zd (t:=true) rfl (fun _=>Za (xA (h:=Zg (Zs ?_)))) (fun h=>Bool.noConfusion h)))))
 exact ZW .ret (.inl rfl) [_] t1 ⟨Zp (by rw [Bool.eq_iff_iff];simp [Zaq];omega),rfl,rfl⟩
 try simp only [sQ,ne_eq] at g0
 refine xM (h:=xV Tryz.underlying23 (h:=ZbA (h:=xF (h:=Zd rfl (fun g0b=>?_) (fun g0b=>?_)))))
 try simp only [sQ,ne_eq] at g0b
 refine Za (xA (h:=Zg (Zs ?_)))
 exact ZW .ret (.inl rfl) [_] t1 ⟨Zp (by rw [Bool.eq_iff_iff];simp [Zaq];omega),rfl,rfl⟩
 try simp only [sQ,ne_eq] at g0b
 refine Zi (Zf (Za (xA (h:=Zm (Za (xM (h:=xV Tryz.underlying23 (h:=xM (h:=Zr (ZU (α:=Nat × Str) [0,13,14,15] (fun g=>[(3,str g.2),(16,.int .i64 g.1)]) [] (fun g=>[]) (fun g Bx=>Bx=B∧g.1≤us.length∧ZdB (us.take g.1)=(true,g.2)∧g.2.length≤2000000) (fun g=>us.length - g.1) (0,[]) t2 rfl (⟨rfl,Nat.zero_le _,Zey,by simp⟩) (fun g B1 hle1 hI=>?_)))))))))))
 obtain ⟨rfl,hk,hs,hl⟩:=hI
 refine ZQ [(0,_),(3,_),(13,_),(14,_),(15,_),(16,_)] [] t6 rfl (Za (Zai (h:=Zm (Zd rfl (fun g1=>?_) (fun g1=>?_)))))
 try simp only [sQ,ne_eq] at g1
 refine Zi (Zf (Zm (Zr (Za ?_))))
 obtain ⟨m,hm⟩:=Zax (xs:=us) (i:=g.1) om
 obtain ⟨bb3,oo3,rfl⟩:=hu.base hm
 obtain ⟨_,⟨rfl,hb4,hb4b⟩,hc4⟩:=hu.elem hm
 refine xIx Tryz.underlying23 ZeY (h:=yL [_,_,_] ZoI hc4 0 (h:=xAl [_,_,_] Zge (h:=fun b5=>xS [_,_,_] 0 [_,_,_] ZeY (h:=Zw [_] rfl (Zm (Za (xL [_,_,_] ZoI 0 (h:=xR ZxD rfl (ZlO m om2 om2 _) (h:=?_)))))))))
 refine xN (h:=xM (h:=Zt (d:=23) rfl (fun g2=>?_) (fun g2=>?_)))
 try simp only [sQ,ne_eq] at g2
 refine xP (h:=xP (h:=xP (h:=xP (h:=xT (h:=Zd (t:=true) rfl (fun _=>Za (xA (h:=Zg (Zs (ZI (Zs (Z7 (ZI (Zs ?_))))))))) (fun h=>Bool.noConfusion h))))))
 exact ZW .ret (.inl rfl) [_] t1 ⟨Zp (Zfl (Zft hm (by rw [show (scn Zdh (fun _ u=>u.name) [] (us.take g.1)).2=g.2 from congrArg Prod.snd hs];simp [Zdh,g2]))).symm,rfl,rfl⟩
 try simp only [sQ,ne_eq] at g2
 refine xW Zc2 (h:=x1 lk9 0 (h:=xM (h:=Zn (Zsy rfl rfl rfl rfl (xF (h:=Zd rfl (fun g3=>?_) (fun g3=>?_)))))))
 try simp only [sQ,ne_eq] at g3
 refine Za (xA (h:=Zg (Zs (ZI (Zs (Z7 (ZI (Zs ?_))))))))
 exact ZW .ret (.inl rfl) [_] t1 ⟨Zp (Zfl (Zft hm (by rw [show (scn Zdh (fun _ u=>u.name) [] (us.take g.1)).2=g.2 from congrArg Prod.snd hs,Zdh,Zbo g.2 m.name,g3];simp))).symm,rfl,rfl⟩
 try simp only [sQ,ne_eq] at g3
 refine Zi (Zf (Ze (xW Zc2 (h:=x1 lk9 0 (h:=xA (h:=Zz (Zf (Ze (xD (h:=xM (h:=?_)))))))))))
 exact ZE (g.1+1,m.name) [] so2 ⟨rfl,oz,Zb9 hm hs (by rw [Zdh,Zbo g.2 m.name,g2,g3];rfl),oy⟩ t6 rfl
 try simp only [sQ,ne_eq] at g1
 refine ZY (Zal (Z6 (ZN (Zf (Za (xA (h:=Zg ?_)))))))
 exact ZW .ret (.inl rfl) [_] t1 ⟨Zp (by rw [Zhu (ZdN hs oz),Bool.eq_iff_iff];simp;omega),rfl,rfl⟩

set_option maxHeartbeats 400000 in
theorem Zkq (x:DUser) (u:Str) (b:Nat) (h1:x.name.length≤2000000) (h2:u.length≤2000000) (B:Kn) (hb:Za9 B b 0 [str u]):Za1 (pj J) 154 [.agg #[str x.name,str x.pass,.int .i64 x.quota],ptr ⟨b,0,none⟩] B (.bool (decide (x.name=u))):=by
 refine Zc 8 Tryz.func154 rfl rfl rfl (Nat.le_of_ble_eq_true rfl) ?_
 refine Za (xBx [_,_,_] (h:=fun b1=>xA (h:=Zw [_] rfl (Za (xW Zc2 (h:=x1 lk9 0 (h:=Zn (Zl rfl rfl lk9 rfl (hb _ 0 _ rfl) (ZdT (h:=xA (h:=Zg ?_)))))))))))
 exact ZW .ret (.inl rfl) [_] t1 ⟨rfl,rfl,rfl⟩

set_option maxHeartbeats 400000 in
theorem Zqf (q:Option Addr) (cp:Nat) (us:List DUser) (F:FuncId) (cap:Array Value) (t:DUser→Bool) (B:Kn) (hu:SlK B q cp 3 Zh us) (he:enters (pj J) F=true) (hF :∀x:DUser,x.name.length≤2000000→x.pass.length≤2000000→Za1 (pj J) F ([.agg #[str x.name,str x.pass,.int .i64 x.quota]] ++ cap.toList) B (.bool (t x))):Za1 (pj J) 153 [.slice q us.length cp,.func (.func F) #[] cap] B (.tuple #[.agg #[str (ZfD t us).1.name,str (ZfD t us).1.pass,.int .i64 (ZfD t us).1.quota],.bool (ZfD t us).2]):=by
 refine Zc 21 Tryz.func153 rfl rfl rfl (Nat.le_of_ble_eq_true rfl) ?_
 have hun:=hu.len
 refine Za (xAl [_,_,_] Zge (h:=fun b1=>xA (h:=Zw [_] rfl (Zm (Za (xM (h:=xV Tryz.underlying23 (h:=xM (h:=Zr (ZU (α:=Nat) [0,1,4,9,10] (fun k=>[(11,.int .i64 k)]) [] (fun k=>[]) (fun k Bx=>Bx=B∧k≤us.length∧∀y,y∈us.take k→t y=false) (fun k=>us.length - k) 0 t1 rfl (⟨rfl,Nat.zero_le _,by simp⟩) (fun k B2 hle2 hI=>?_)))))))))))
 obtain ⟨rfl,hk,ha⟩:=hI
 refine ZQ [(0,_),(1,_),(4,_),(9,_),(10,_),(11,_)] [_] t6 rfl (Za (Zai (h:=Zm (Zd rfl (fun g1=>?_) (fun g1=>?_)))))
 try simp only [sQ,ne_eq] at g1
 refine Zi (Zf (Zm (Zr (Za ?_))))
 obtain ⟨m,hm⟩:=Zax (xs:=us) (i:=k) om
 obtain ⟨bb4,oo4,rfl⟩:=hu.base hm
 obtain ⟨_,⟨rfl,hb5,hb5b⟩,hc5⟩:=hu.elem hm
 refine xIx Tryz.underlying23 ZeY (h:=yL [_,_,_] ZoI hc5 0 (h:=xAl [_,_,_] Zge (h:=fun b6=>xS [_,_,_] 1 [_,_,_] ZeY (h:=Zw [_,_] rfl (Za (xM (h:=xL [_,_,_] ZoI 1 (h:=Zn (Zst rfl rfl he rfl rfl (hF m om2 om2) ?_)))))))))
 refine Zd rfl (fun g2=>?_) (fun g2=>?_)
 try simp only [sQ,ne_eq] at g2
 refine Za (xL [_,_,_] ZoI 1 (h:=xS [_,_,_] 0 [_,_,_] ZeY (h:=xA (h:=Zw [_,_] rfl (Zg (ZI (Zs (Z7 (ZI (Zs ?_))))))))))
 exact ZW .ret (.inl rfl) [_,_] ⟨⟨_,rfl,.inr ⟨[_,_,_],ZoI,Zad 0 rfl rfl rfl,rfl⟩⟩,rfl,trivial⟩ ⟨by rw [Zqe hm g2 ha];rfl,rfl,rfl⟩
 try simp only [sQ,ne_eq] at g2
 refine Zi (Zz (Zf (Ze (xD (h:=xM (h:=?_))))))
 exact ZE (k+1) [0] so2 ⟨rfl,oz,Zbl hm ha g2⟩ t6 rfl
 try simp only [sQ,ne_eq] at g1
 refine ZY (Zal (Z6 (ZN (Zf (Za (xAl [_,_,_] Zge (h:=fun b8=>Zw [_,_] rfl (Za (xL [_,_,_] ZoI 1 (h:=xS [_,_,_] 0 [_,_,_] ZeY (h:=xA (h:=Zw [_,_] rfl (Zg ?_)))))))))))))
 exact ZW .ret (.inl rfl) [_,_] ⟨⟨_,rfl,.inr ⟨[_,_,_],ZoI,Zad 0 rfl rfl rfl,rfl⟩⟩,rfl,trivial⟩ ⟨by rw [Zos (ZbD oz ha)];rfl,rfl,rfl⟩

set_option maxHeartbeats 400000 in
theorem Zhw (q:Option Addr) (cp:Nat) (us:List DUser) (nm:Str) (hn:nm.length≤2000000) (B:Kn) (hu:SlK B q cp 3 Zh us):Za1 (pj J) 117 [.slice q us.length cp,str nm] B (.tuple #[.agg #[str (ZaW us nm).1.name,str (ZaW us nm).1.pass,.int .i64 (ZaW us nm).1.quota],.bool (ZaW us nm).2]):=by
 refine Zc 15 Tryz.func117 rfl rfl rfl (Nat.le_of_ble_eq_true rfl) ?_
 have hun:=hu.len
 refine Za (xBx [_] (h:=fun b1=>xAl [_,_,_] Zge (h:=fun b2=>xA (h:=Zw [_,_] rfl (Zm (Za (xM (h:=xR Zw7 rfl (ZhZ _ _ _ _ hu) (h:=xN (h:=Zd rfl (fun g0=>?_) (fun g0=>?_)))))))))))
 try simp only [sQ,ne_eq] at g0
 refine Za (xB [] [_,_,_] [_,_,_] Zrh Zge (h:=xS [_,_,_] 1 [_,_,_] ZeY (h:=xA (h:=Zw [_,_] rfl (Zg (Zs ?_))))))
 exact ZW .ret (.inl rfl) [_,_] ⟨⟨_,rfl,.inr ⟨[_,_,_],ZoI,Zad 1 rfl rfl rfl,rfl⟩⟩,rfl,trivial⟩ ⟨by rw [ZaW,g0];rfl,rfl,rfl⟩
 try simp only [sQ,ne_eq] at g0
 refine Zi (Zf (Za (xM (h:=Zn (Zgg (xs:=[]) (ys:=[_]) rfl rfl rfl rfl (Zn (Zhr 0 rfl rfl rfl Zws rfl (Za1.borrow fun hm=>Zqf _ _ us 154 _ (fun y=>decide (y.name=nm)) _ (hu.mono Zh.mono (Kn.le_add _ _)) Zwr (fun y h1 h2=>Zkq y nm _ h1 hn _ (ZjJ hm))) (xE (h:=xE (h:=xS [_,_,_] 1 [_,_,_] ZeY (h:=xA (h:=Zw [_,_] rfl (Zg ?_)))))))))))))
 exact ZW .ret (.inl rfl) [_,_] ⟨⟨_,rfl,.inr ⟨[_,_,_],ZoI,Zad 1 rfl rfl rfl,rfl⟩⟩,rfl,trivial⟩ ⟨by rw [ZaW,if_pos g0];rfl,rfl,rfl⟩

set_option maxHeartbeats 400000 in
theorem Zhe (b o:Nat) (q1 q2 q3:Option Addr) (c1 c2 c3:Nat) (x:DHost) (nm:Str) (hn:nm.length≤2000000) (B:Kn) (hh:Za9 B b o [str x.domain,.slice q1 x.users.length c1,.slice q2 x.folders.length c2,.int .i64 x.queue.next,.slice q3 x.queue.items.length c3]) (hu:SlK B q1 c1 3 Zh x.users):Za1 (pj J) 66 [ptr ⟨b,o,none⟩,str nm] B (.bool (ZaW x.users nm).2):=by
 refine Zc 17 Tryz.func66 rfl rfl rfl (Nat.le_of_ble_eq_true rfl) ?_
 refine Za (xA (h:=Za (xM (h:=xNc (h:=xW Zcn (h:=Zn (Zl rfl rfl ZjQ rfl (hh _ 1 _ rfl) (xM (h:=xR Zu9 rfl (Zhw _ _ _ nm om2 _ hu) (h:=?_))))))))))
 refine xM (h:=xE (h:=xE (h:=xAl [_,_,_] Zge (h:=fun b2=>xS [_,_,_] 0 [_,_,_] ZeY (h:=xA (h:=Zw [_] rfl (Za (xM (h:=xA (h:=Zg ?_))))))))))
 exact ZW .ret (.inl rfl) [_] t1 ⟨rfl,rfl,rfl⟩

set_option maxHeartbeats 400000 in
theorem ZcR (q1 q2 q3:Option Addr) (c1 c2 c3:Nat) (x:DHost) (ow nm:Str) (ho:ow.length≤2000000) (hn:nm.length≤2000000) (B:Kn) (hf:SlK B q2 c2 5 Zb x.folders):Za1 (pj J) 18 [.agg #[str x.domain,.slice q1 x.users.length c1,.slice q2 x.folders.length c2,.int .i64 x.queue.next,.slice q3 x.queue.items.length c3],str ow,str nm] B (.int .i64 (ZaD (inF ow nm) x.folders)):=by
 refine Zc 34 Tryz.func18 rfl rfl rfl (Nat.le_of_ble_eq_true rfl) ?_
 have hfn:=hf.len
 refine Za (xBx [_,_,_,_,_] (h:=fun b1=>xA (h:=Zw [_] rfl (Zm (Za (xA (h:=Zr (ZU (α:=Nat) [0,1,2,3] (fun k=>[(7,.int .i64 k)]) [] (fun k=>[]) (fun k Bx=>Bx=B∧k≤x.folders.length∧∀y,y∈x.folders.take k→inF ow nm y=false) (fun k=>x.folders.length - k) 0 t1 rfl (⟨rfl,Nat.zero_le _,by simp⟩) (fun k B2 hle2 hI=>?_)))))))))
 obtain ⟨rfl,hk,ha⟩:=hI
 refine ZQ [(0,_),(1,_),(2,_),(3,_),(7,_)] [_] t5 rfl (Zm (Za (xM (h:=xW Z0 (h:=x1 Zcy 0 (h:=xV Tryz.underlying24 (h:=Zai (h:=Zd rfl (fun g1=>?_) (fun g1=>?_)))))))))
 try simp only [sQ,ne_eq] at g1
 refine Zi (Zf (Zm (Zr (Za (xW Z0 (h:=x1 Zcy 0 (h:=xM (h:=?_))))))))
 obtain ⟨y,hy⟩:=Zax (xs:=x.folders) (i:=k) om
 obtain ⟨bb4,oo4,rfl⟩:=hf.base hy
 obtain ⟨_,⟨qg5,cg5,qm5,cm5,rfl,hg5,hm5,hb5,hb5b⟩,hc5⟩:=hf.elem hy
 have hg5n:=hg5.len
 have hm5n:=hm5.len
 have hm5s:=Z4 hm5
 refine xIx Tryz.underlying24 Zbj (h:=xW ZcU (h:=y1 lk9 hc5 0 (h:=xM (h:=ZdT (h:=xM (h:=Zt (d:=23) rfl (fun g2=>?_) (fun g2=>?_)))))))
 try simp only [sQ,ne_eq] at g2
 refine xW Z0 (h:=x1 Zcy 0 (h:=xM (h:=xIx Tryz.underlying24 Zbj (h:=xW Zfb (h:=y1 lk9 hc5 1 (h:=xM (h:=ZdT (h:=xT (h:=Zd rfl (fun g3=>?_) (fun g3=>?_))))))))))
 try simp only [sQ,ne_eq] at g3
 refine Za (xM (h:=xA (h:=Zg (ZI (Zs (Z7 (ZI (Zs ?_))))))))
 exact ZW .ret (.inl rfl) [_] t1 ⟨ZaA (Zhf hy (by simp [inF,g2,g3]) ha).symm,rfl,rfl⟩
 try simp only [sQ,ne_eq] at g3
 refine Zi (Zz (Zf (Ze (xM (h:=xD (h:=xA (h:=?_)))))))
 exact ZE (k+1) [0] so2 ⟨rfl,oz,Zbl hy ha (by simp [inF,g2,g3])⟩ t5 rfl
 try simp only [sQ,ne_eq] at g2
 refine xP (h:=xP (h:=xP (h:=xP (h:=xP (h:=xP (h:=xP (h:=xP (h:=xF (h:=Zd (t:=false) rfl (fun h=>Bool.noConfusion h) (fun _=>Zi (Zz (Zf (Ze ?_)))))))))))))
 refine xM (h:=xD (h:=xA (h:=?_)))
 exact ZE (k+1) [0] so2 ⟨rfl,oz,Zbl hy ha (by simp [inF,g2])⟩ t5 rfl
 try simp only [sQ,ne_eq] at g1
 refine ZY (Zal (Z6 (ZN (Zf (Za (xA (h:=Zg ?_)))))))
 exact ZW .ret (.inl rfl) [_] t1 ⟨ZaA (ZeJ (ZbD oz ha)).symm,rfl,rfl⟩

set_option maxHeartbeats 400000 in
theorem ZtB (f:DFolder) (qa qb:Option Addr) (ca cb:Nat) (ow nm:Str) (b b':Nat) (h1:f.owner.length≤2000000) (h2:f.name.length≤2000000) (h3:ow.length≤2000000) (h4:nm.length≤2000000) (B:Kn) (hb:Za9 B b 0 [str ow]) (hb2:Za9 B b' 0 [str nm]):Za1 (pj J) 73 [.agg #[str f.owner,str f.name,.slice qa f.grants.length ca,.int .i64 f.next,.slice qb f.mail.length cb],ptr ⟨b,0,none⟩,ptr ⟨b',0,none⟩] B (.bool (inF ow nm f)):=by
 refine Zc 15 Tryz.func73 rfl rfl rfl (Nat.le_of_ble_eq_true rfl) ?_
 refine Za (xBx [_,_,_,_,_] (h:=fun b1=>xA (h:=Zw [_] rfl (Za (xW ZcU (h:=x1 lk9 0 (h:=Zn (Zl rfl rfl lk9 rfl (hb _ 0 _ rfl) (ZdT (h:=xM (h:=Zt (d:=9) rfl (fun g1=>?_) (fun g1=>?_))))))))))))
 try simp only [sQ,ne_eq] at g1
 refine xW Zfb (h:=x1 lk9 0 (h:=Zn (Zl rfl rfl lk9 rfl (hb2 _ 0 _ rfl) (ZdT (h:=xT (h:=xA (h:=Zg ?_)))))))
 exact ZW .ret (.inl rfl) [_] t1 ⟨Zp (by rw [Bool.eq_iff_iff];simp [inF,g1]),rfl,rfl⟩
 try simp only [sQ,ne_eq] at g1
 refine xP (h:=xP (h:=xP (h:=xP (h:=xF (h:=xA (h:=Zg ?_))))))
 exact ZW .ret (.inl rfl) [_] t1 ⟨Zp (by rw [Bool.eq_iff_iff];simp [inF,g1]),rfl,rfl⟩

set_option maxHeartbeats 400000 in
theorem ZrF (q:Option Addr) (cp:Nat) (fs:List DFolder) (F:FuncId) (cap:Array Value) (t:DFolder→Bool) (B:Kn) (hf:SlK B q cp 5 Zb fs) (he:enters (pj J) F=true) (hF :∀(f:DFolder) (qa qb:Option Addr) (ca cb:Nat),f.owner.length≤2000000→f.name.length≤2000000→Za1 (pj J) F ([.agg #[str f.owner,str f.name,.slice qa f.grants.length ca,.int .i64 f.next,.slice qb f.mail.length cb]] ++ cap.toList) B (.bool (t f))):Za1 (pj J) 72 [.slice q fs.length cp,.func (.func F) #[] cap] B (.int .i64 (ZaD t fs)):=by
 refine Zc 19 Tryz.func72 rfl rfl rfl (Nat.le_of_ble_eq_true rfl) ?_
 have hfn:=hf.len
 refine Za (xA (h:=Zm (Za (xM (h:=xV Tryz.underlying24 (h:=xM (h:=Zr (ZU (α:=Nat) [0,1,7] (fun k=>[(8,.int .i64 k)]) [] (fun k=>[]) (fun k Bx=>Bx=B∧k≤fs.length∧∀y,y∈fs.take k→t y=false) (fun k=>fs.length - k) 0 t1 rfl (⟨rfl,Nat.zero_le _,by simp⟩) (fun k B1 hle1 hI=>?_)))))))))
 obtain ⟨rfl,hk,ha⟩:=hI
 refine ZQ [(0,_),(1,_),(7,_),(8,_)] [] t4 rfl (Za (Zai (h:=Zm (Zd rfl (fun g1=>?_) (fun g1=>?_)))))
 try simp only [sQ,ne_eq] at g1
 refine Zi (Zf (Zm (Zr (Za (xM (h:=xA (h:=Za (xM (h:=xM (h:=xM (h:=?_)))))))))))
 obtain ⟨y,hy⟩:=Zax (xs:=fs) (i:=k) om
 obtain ⟨bb3,oo3,rfl⟩:=hf.base hy
 obtain ⟨_,⟨qg4,cg4,qm4,cm4,rfl,hg4,hm4,hb4,hb4b⟩,hc4⟩:=hf.elem hy
 have hg4n:=hg4.len
 have hm4n:=hm4.len
 have hm4s:=Z4 hm4
 refine xIx Tryz.underlying24 Zbj (h:=yL [_,_,_,_,_] ZgQ hc4 0 (h:=Zn (Zst rfl rfl he rfl rfl (hF y _ _ _ _ om2 om2) ?_)))
 refine Zd rfl (fun g2=>?_) (fun g2=>?_)
 try simp only [sQ,ne_eq] at g2
 refine Za (xM (h:=xA (h:=Zg (ZI (Zs (Z7 (ZI (Zs ?_))))))))
 exact ZW .ret (.inl rfl) [_] t1 ⟨ZaA (Zhf hy g2 ha).symm,rfl,rfl⟩
 try simp only [sQ,ne_eq] at g2
 refine Zi (Zz (Zf (Ze (xD (h:=xM (h:=?_))))))
 exact ZE (k+1) [] so2 ⟨rfl,oz,Zbl hy ha g2⟩ t4 rfl
 try simp only [sQ,ne_eq] at g1
 refine ZY (Zal (Z6 (ZN (Zf (Za (xA (h:=Zg ?_)))))))
 exact ZW .ret (.inl rfl) [_] t1 ⟨ZaA (ZeJ (ZbD oz ha)).symm,rfl,rfl⟩

set_option maxHeartbeats 400000 in
theorem Zqc (b o:Nat) (q1 q2 q3:Option Addr) (c1 c2 c3:Nat) (x:DHost) (ow nm:Str) (ho:ow.length≤2000000) (hn:nm.length≤2000000) (B:Kn) (hh:Za9 B b o [str x.domain,.slice q1 x.users.length c1,.slice q2 x.folders.length c2,.int .i64 x.queue.next,.slice q3 x.queue.items.length c3]) (hf:SlK B q2 c2 5 Zb x.folders):Za1 (pj J) 33 [ptr ⟨b,o,none⟩,str ow,str nm] B (.int .i64 (ZaD (inF ow nm) x.folders)):=by
 refine Zc 13 Tryz.func33 rfl rfl rfl (Nat.le_of_ble_eq_true rfl) ?_
 refine Za (xBx [_] (h:=fun b1=>xBx [_] (h:=fun b2=>xA (h:=Zw [_,_] rfl (Za (xM (h:=xNc (h:=xW Z0 (h:=Zn (Zl rfl rfl Zcy rfl (hh _ 2 _ rfl) (Zn (Zgg (xs:=[]) (ys:=[_,_]) rfl rfl rfl rfl (Zn (Zuc 0 1 rfl rfl rfl rfl rfl Zxv rfl (Za1.borrow2 fun hm1 hm2=>ZrF _ _ x.folders 73 _ (inF ow nm) _ ((hf.mono Zb.mono (Kn.le_add _ _)).mono Zb.mono (Kn.le_add _ _)) Zxu (fun f qa qb ca cb h1 h2=>ZtB f qa qb ca cb ow nm _ _ h1 h2 ho hn _ (ZjJ hm1) (ZjJ hm2))) (xA (h:=?_))))))))))))))))
 refine Zg ?_
 exact ZW .ret (.inl rfl) [_] t1 ⟨rfl,rfl,rfl⟩

set_option maxHeartbeats 400000 in
theorem Zl8 (b o:Nat) (q1 q2 q3:Option Addr) (c1 c2 c3:Nat) (x:DHost) (B:Kn) (hh:Za9 B b o [str x.domain,.slice q1 x.users.length c1,.slice q2 x.folders.length c2,.int .i64 x.queue.next,.slice q3 x.queue.items.length c3]) (hu:SlK B q1 c1 3 Zh x.users) (hi:SlK B q3 c3 4 Zj x.queue.items):Za1 (pj J) 32 [ptr ⟨b,o,none⟩] B (.bool (x.queue.items.all (Zc6 x.users))):=by
 refine Zc 35 Tryz.func32 rfl rfl rfl (Nat.le_of_ble_eq_true rfl) ?_
 have hin:=hi.len
 refine Za (xA (h:=Zm (Za (xM (h:=xNc (h:=xW ZcA (h:=xW ZaI (h:=Zn (Zl rfl rfl Zfz rfl (hh _ 4 _ rfl) (xV Tryz.underlying25 (h:=xM (h:=Zr (ZU (α:=Nat) [0,11,12] (fun k=>[(13,.int .i64 k)]) [] (fun k=>[]) (fun k Bx=>Bx=B∧k≤x.queue.items.length∧∀y,y∈x.queue.items.take k→Zc6 x.users y=true) (fun k=>x.queue.items.length - k) 0 t1 rfl (⟨rfl,Nat.zero_le _,by simp⟩) (fun k B1 hle1 hI=>?_))))))))))))))
 obtain ⟨rfl,hk,ha⟩:=hI
 refine ZQ [(0,_),(11,_),(12,_),(13,_)] [] t4 rfl (Za (Zai (h:=Zm (Zd rfl (fun g1=>?_) (fun g1=>?_)))))
 try simp only [sQ,ne_eq] at g1
 refine Zi (Zf (Zm (Zr (Za ?_))))
 obtain ⟨y,hy⟩:=Zax (xs:=x.queue.items) (i:=k) om
 obtain ⟨bb3,oo3,rfl⟩:=hi.base hy
 obtain ⟨_,⟨qi4,ci4,rfl,hi4,hb4,hb4b⟩,hc4⟩:=hi.elem hy
 have hi4n:=hi4.len
 refine xIx Tryz.underlying25 Zer (h:=yL [_,_,_,_] ZlF hc4 0 (h:=xAl [_,_,_,_] ZiD (h:=fun b5=>xS [_,_,_,_] 0 [_,_,_,_] Zer (h:=Zw [_] rfl (Zm (Za (xM (h:=xW Zni (h:=x1 lk9 0 (h:=xR Zvy rfl (Zhe _ _ _ _ _ _ _ _ x y.fr om2 _ hh hu) (h:=?_)))))))))))
 refine xN (h:=Zd rfl (fun g2=>?_) (fun g2=>?_))
 try simp only [sQ,ne_eq] at g2
 refine Za (xA (h:=Zg (Zs (ZI (Zs (Z7 (ZI (Zs ?_))))))))
 exact ZW .ret (.inl rfl) [_] t1 ⟨Zp (ZcN hy (by simp [Zc6,g2])).symm,rfl,rfl⟩
 try simp only [sQ,ne_eq] at g2
 refine Zi (Zf (Za (xW ZbG (h:=x1 Zhc 0 (h:=xV Tryz.underlying78 (h:=xM (h:=Zr (ZU (α:=Nat) [0,4,11,12,13,14,21,23,24] (fun j=>[(25,.int .i64 j)]) [] (fun j=>[]) (fun j Bx=>Bx=B1∧j≤y.left.length∧∀z,z∈y.left.take j→(ZaW x.users z).2=true) (fun j=>y.left.length - j) 0 t1 rfl (⟨rfl,Nat.zero_le _,by simp⟩) (fun j B7 hle7 hI=>?_)))))))))
 obtain ⟨rfl,hj,hb⟩:=hI
 refine ZQ [(0,_),(4,_),(11,_),(12,_),(13,_),(14,_),(21,_),(23,_),(24,_),(25,_)] [_] t10 rfl (Za (Zai (h:=Zm (Zd rfl (fun g3=>?_) (fun g3=>?_)))))
 try simp only [sQ,ne_eq] at g3
 refine Zi (Zf (Zm (Zr (Za ?_))))
 obtain ⟨z,hz⟩:=Zax (xs:=y.left) (i:=j) om
 obtain ⟨bb9,oo9,rfl⟩:=hi4.base hz
 obtain ⟨_,⟨rfl,hb10⟩,hc10⟩:=hi4.elem hz
 refine xIx Tryz.underlying78 sz9 (h:=y1 lk9 hc10 0 (h:=xA (h:=Za (xM (h:=xM (h:=xR Zvy rfl (Zhe _ _ _ _ _ _ _ _ x z om2 _ hh hu) (h:=?_)))))))
 refine xN (h:=Zd rfl (fun g4=>?_) (fun g4=>?_))
 try simp only [sQ,ne_eq] at g4
 refine Za (xA (h:=Zg (ZI (Zs (Z7 (ZI (ZI (Zs (Z7 (ZI (Zs ?_)))))))))))
 exact ZW .ret (.inl rfl) [_] t1 ⟨Zp (ZcN hy (by rw [Zc6,ZcN hz g4,Bool.and_false])).symm,rfl,rfl⟩
 try simp only [sQ,ne_eq] at g4
 refine Zi (Zz (Zf (Ze (xD (h:=xM (h:=?_))))))
 exact ZE (j+1) [0] so2 ⟨rfl,oz,Zbl hz hb g4⟩ t10 rfl
 try simp only [sQ,ne_eq] at g3
 refine ZY (Zal (Z6 (ZN (Zz (Zf (Ze (xD (h:=xM (h:=?_)))))))))
 exact ZE (k+1) [] so2 ⟨rfl,oz,Zbl hy ha (by rw [Zc6,g2,Zek (ZbD oz hb)];rfl)⟩ t4 rfl
 try simp only [sQ,ne_eq] at g1
 refine ZY (Zal (Z6 (ZN (Zf (Za (xA (h:=Zg ?_)))))))
 exact ZW .ret (.inl rfl) [_] t1 ⟨Zp (Zek (ZbD oz ha)).symm,rfl,rfl⟩

set_option maxHeartbeats 400000 in
theorem Zk0 (f g:DFolder) (qa qb qc qd:Option Addr) (ca cb cc cd:Nat) (B:Kn):Za1 (pj J) 82 [.agg #[str f.owner,str f.name,.slice qa f.grants.length ca,.int .i64 f.next,.slice qb f.mail.length cb],.agg #[str g.owner,str g.name,.slice qc g.grants.length cc,.int .i64 g.next,.slice qd g.mail.length cd]] B (.bool (ZbU f g)):=by
 refine Zc 24 Tryz.func82 rfl rfl rfl (Nat.le_of_ble_eq_true rfl) ?_
 refine Za (xBx [_,_,_,_,_] (h:=fun b1=>xBx [_,_,_,_,_] (h:=fun b2=>xA (h:=Zw [_,_] rfl (Za (xW ZcU (h:=x1 lk9 0 (h:=xW ZcU (h:=x1 lk9 1 (h:=Zss (h:=xM (h:=Zt (d:=10) rfl (fun g1=>?_) (fun g1=>?_)))))))))))))
 try simp only [sQ,ne_eq] at g1
 refine xP (h:=xP (h:=xP (h:=xP (h:=xP (h:=xP (h:=xP (h:=xP (h:=xP (h:=xP (h:=xP (h:=xP (h:=xT (h:=?_)))))))))))))
 refine xA (h:=Zg ?_)
 exact ZW .ret (.inl rfl) [_] t1 ⟨Zp (by rw [Bool.eq_iff_iff];simp [ZbU,ZcL,g1]),rfl,rfl⟩
 try simp only [sQ,ne_eq] at g1
 refine xW ZcU (h:=x1 lk9 0 (h:=xW ZcU (h:=x1 lk9 1 (h:=ZdT (h:=xM (h:=Zt (d:=16) rfl (fun g2=>?_) (fun g2=>?_)))))))
 try simp only [sQ,ne_eq] at g2
 refine xW Zfb (h:=x1 lk9 0 (h:=xW Zfb (h:=x1 lk9 1 (h:=Zss (h:=xT (h:=xF (h:=xA (h:=Zg ?_))))))))
 exact ZW .ret (.inl rfl) [_] t1 ⟨Zp (by rw [Bool.eq_iff_iff];simp [ZbU,ZcL,g1,g2]),rfl,rfl⟩
 try simp only [sQ,ne_eq] at g2
 refine xP (h:=xP (h:=xP (h:=xP (h:=xP (h:=xF (h:=xF (h:=xA (h:=Zg ?_))))))))
 exact ZW .ret (.inl rfl) [_] t1 ⟨Zp (by rw [Bool.eq_iff_iff];simp [ZbU,ZcL,g1,g2]),rfl,rfl⟩

set_option maxHeartbeats 400000 in
theorem ZlW (q:Option Addr) (cp:Nat) (us:List DUser) (B:Kn) (hu:SlK B q cp 3 Zh us):Za1 (pj J) 37 [.slice q us.length cp] B (.bool (Zaq us)):=by
 refine Zc 54 Tryz.func37 rfl rfl rfl (Nat.le_of_ble_eq_true rfl) ?_
 have hun:=hu.len
 refine Za (xA (h:=Zm (Za (xA (h:=Zr (ZU (α:=Nat × Str) [0] (fun g=>[(3,.int .i64 g.1)]) [] (fun g=>[]) (fun g Bx=>Bx=B∧g.1≤us.length∧ZdB (us.take g.1)=(true,g.2)∧Prev (fun y=>y.name) ([]:Str) us g.1 g.2) (fun g=>us.length - g.1) (0,[]) t1 rfl (⟨rfl,Nat.zero_le _,Zey,.zero⟩) (fun g B1 hle1 hI=>?_)))))))
 obtain ⟨rfl,hk,hs,hp⟩:=hI
 refine ZQ [(0,_),(3,_)] [] t2 rfl (Zm (Za (xM (h:=xM (h:=xV Tryz.underlying23 (h:=Zai (h:=Zd rfl (fun g1=>?_) (fun g1=>?_))))))))
 try simp only [sQ,ne_eq] at g1
 refine Zi (Zf (Zm (Zr (Za (xM (h:=xM (h:=?_)))))))
 obtain ⟨m,hm⟩:=Zax (xs:=us) (i:=g.1) om
 obtain ⟨bb3,oo3,rfl⟩:=hu.base hm
 obtain ⟨_,⟨rfl,hb4,hb4b⟩,hc4⟩:=hu.elem hm
 refine xIx Tryz.underlying23 ZeY (h:=yL [_,_,_] ZoI hc4 0 (h:=xAl [_,_,_] Zge (h:=fun b5=>xS [_,_,_] 0 [_,_,_] ZeY (h:=Zw [_] rfl (Zm (Z9 (same _ _) mo kr ⟨rfl,rfl⟩ (fun _ _=>?_)))))))
 refine aW 0 rfl Zc2 (h:=aT 1 rfl (Zan fun D=>Zl rfl rfl lk9 rfl (atL 0 rfl rfl rfl) r4) (h:=aT 2 rfl (Zan fun D=>ZaR rfl rfl ZrZ rfl (ZbT _ om2 _) r4) (h:=?_)))
 refine aN 3 rfl (h:=aM 4 rfl (h:=ZaE (d:=19) rfl (fun g2=>?_) (fun g2=>?_)))
 try simp only [sQ,ne_eq] at g2
 refine aZ 5 rfl (h:=aZ 6 rfl (h:=aZ 7 rfl (h:=aPT 8 rfl (h:=aM 9 rfl (h:=aZ 10 rfl (h:=aZ 11 rfl (h:=aZ 12 rfl (h:=aZ 13 rfl (h:=aPT 14 rfl (h:=aM 15 rfl (h:=aZ 16 rfl (h:=aZ 17 rfl (h:=?_)))))))))))))
 refine aZ 18 rfl (h:=aZ 19 rfl (h:=aPT 20 rfl (h:=aM 21 rfl (h:=aZ 22 rfl (h:=aZ 23 rfl (h:=aZ 24 rfl (h:=aZ 25 rfl (h:=aZ 26 rfl (h:=aZ 27 rfl (h:=aZ 28 rfl (h:=aZ 29 rfl (h:=aZ 30 rfl (h:=?_)))))))))))))
 refine aZ 31 rfl (h:=aZ 32 rfl (h:=aZ 33 rfl (h:=aZ 34 rfl (h:=aPT 35 rfl (h:=ZD kr kr ?_)))))
 refine Zf (Zd (t:=true) rfl (fun _=>Za (xA (h:=Zg (ZI (Zs (Z7 (ZI (Zs ?_)))))))) (fun h=>Bool.noConfusion h))
 exact ZW .ret (.inl rfl) [_] t1 ⟨Zp (Zdg hm hs (by simp [Zdh,Zcq,anyone,g1,g2])).symm,rfl,rfl⟩
 try simp only [sQ,ne_eq] at g2
 refine aW 5 rfl Zc2 (h:=aT 6 rfl (Zan fun D=>Zl rfl rfl lk9 rfl (atL 0 rfl rfl rfl) r4) (h:=ZqN 7 rfl (h:=aPF 8 rfl (h:=aM 9 rfl (h:=ZaE (d:=24) rfl (fun g3=>?_) (fun g3=>?_))))))
 try simp only [sQ,ne_eq] at g3
 refine aZ 10 rfl (h:=aZ 11 rfl (h:=aZ 12 rfl (h:=aZ 13 rfl (h:=aPT 14 rfl (h:=aM 15 rfl (h:=aZ 16 rfl (h:=aZ 17 rfl (h:=aZ 18 rfl (h:=aZ 19 rfl (h:=aPT 20 rfl (h:=aM 21 rfl (h:=aZ 22 rfl (h:=?_)))))))))))))
 refine aZ 23 rfl (h:=aZ 24 rfl (h:=aZ 25 rfl (h:=aZ 26 rfl (h:=aZ 27 rfl (h:=aZ 28 rfl (h:=aZ 29 rfl (h:=aZ 30 rfl (h:=aZ 31 rfl (h:=aZ 32 rfl (h:=aZ 33 rfl (h:=aZ 34 rfl (h:=aPT 35 rfl (h:=?_)))))))))))))
 refine ZD kr kr ?_
 refine Zf (Zd (t:=true) rfl (fun _=>Za (xA (h:=Zg (ZI (Zs (Z7 (ZI (Zs ?_)))))))) (fun h=>Bool.noConfusion h))
 exact ZW .ret (.inl rfl) [_] t1 ⟨Zp (Zdg hm hs (by simp [Zdh,Zcq,anyone,g1,g2,g3])).symm,rfl,rfl⟩
 try simp only [sQ,ne_eq] at g3
 refine aW 10 rfl Zp7 (h:=aT 11 rfl (Zan fun D=>Zl rfl rfl lk9 rfl (atL 0 rfl rfl rfl) r4) (h:=aT 12 rfl (Zan fun D=>ZaR rfl rfl ZrZ rfl (ZbT _ om2 _) r4) (h:=?_)))
 refine aN 13 rfl (h:=aPF 14 rfl (h:=aM 15 rfl (h:=ZaE (d:=30) rfl (fun g4=>?_) (fun g4=>?_))))
 try simp only [sQ,ne_eq] at g4
 refine aZ 16 rfl (h:=aZ 17 rfl (h:=aZ 18 rfl (h:=aZ 19 rfl (h:=aPT 20 rfl (h:=aM 21 rfl (h:=aZ 22 rfl (h:=aZ 23 rfl (h:=aZ 24 rfl (h:=aZ 25 rfl (h:=aZ 26 rfl (h:=aZ 27 rfl (h:=aZ 28 rfl (h:=?_)))))))))))))
 refine aZ 29 rfl (h:=aZ 30 rfl (h:=aZ 31 rfl (h:=aZ 32 rfl (h:=aZ 33 rfl (h:=aZ 34 rfl (h:=aPT 35 rfl (h:=ZD kr kr ?_)))))))
 refine Zf (Zd (t:=true) rfl (fun _=>Za (xA (h:=Zg (ZI (Zs (Z7 (ZI (Zs ?_)))))))) (fun h=>Bool.noConfusion h))
 exact ZW .ret (.inl rfl) [_] t1 ⟨Zp (Zdg hm hs (by simp [Zdh,Zcq,anyone,g1,g2,g3,g4])).symm,rfl,rfl⟩
 try simp only [sQ,ne_eq] at g4
 refine aW 16 rfl Zie (h:=aT 17 rfl (Zan fun D=>Zl rfl rfl lk3 rfl (atL 0 rfl rfl rfl) r4) (h:=aT 18 rfl (Zan fun D=>ZaR rfl rfl Zjt rfl (Zch _ _ _ _) r4) (h:=aN 19 rfl (h:=aPF 20 rfl (h:=aM 21 rfl (h:=ZaE (d:=36) rfl (fun g5=>?_) (fun g5=>?_)))))))
 try simp only [sQ,ne_eq] at g5
 refine aZ 22 rfl (h:=aZ 23 rfl (h:=aZ 24 rfl (h:=aZ 25 rfl (h:=aZ 26 rfl (h:=aZ 27 rfl (h:=aZ 28 rfl (h:=aZ 29 rfl (h:=aZ 30 rfl (h:=aZ 31 rfl (h:=aZ 32 rfl (h:=aZ 33 rfl (h:=aZ 34 rfl (h:=?_)))))))))))))
 refine aPT 35 rfl (h:=ZD kr kr ?_)
 refine Zf (Zd (t:=true) rfl (fun _=>Za (xA (h:=Zg (ZI (Zs (Z7 (ZI (Zs ?_)))))))) (fun h=>Bool.noConfusion h))
 exact ZW .ret (.inl rfl) [_] t1 ⟨Zp (Zdg hm hs (by simp [Zdh,Zcq,anyone,g1,g2,g3,g4,g5])).symm,rfl,rfl⟩
 try simp only [sQ,ne_eq] at g5
 refine aM 22 rfl (h:=ZmG 23 rfl (h:=aM 24 rfl (h:=ZaE (d:=39) rfl (fun g6=>?_) (fun g6=>?_))))
 try simp only [sQ,ne_eq] at g6
 refine aM 25 rfl (h:=aM 26 rfl (h:=aU 27 rfl (h:=?_)))
 obtain ⟨y,hy⟩:=Zd7 (xs:=us) (i:=(↑g.1 - 1)) om om
 obtain ⟨_,⟨rfl,hb10,hb10b⟩,hc10⟩:=hu.elem hy
 refine aIx 28 rfl Tryz.underlying23 ZeY (h:=?_)
 have hpe:=hp.at hy oz
 refine aW 29 rfl Zc2 (h:=aT 30 rfl (Zan fun D=>Zl rfl rfl lk9 rfl (hc10 _ 0 _ rfl) r4) (h:=aW 31 rfl Zc2 (h:=aT 32 rfl (Zan fun D=>Zl rfl rfl lk9 rfl (atL 0 rfl rfl rfl) r4) (h:=aT 33 rfl (Zan fun D=>ZoV rfl rfl rfl rfl r4) (h:=aPT 34 rfl (h:=aPF 35 rfl (h:=ZD kr kr ?_)))))))
 refine Zf (Zd rfl (fun g7=>?_) (fun g7=>?_))
 try simp only [sQ,ne_eq] at g7
 refine Za (xA (h:=Zg (ZI (Zs (Z7 (ZI (Zs ?_)))))))
 exact ZW .ret (.inl rfl) [_] t1 ⟨Zp (Zdg hm hs (by simp [Zdh,Zcq,anyone,g1,g2,g3,g4,g5,g6,g7,hpe])).symm,rfl,rfl⟩
 try simp only [sQ,ne_eq] at g7
 refine Zi (Zz (Zf (Ze (xM (h:=xD (h:=xA (h:=?_)))))))
 exact ZE (g.1+1,m.name) [] so2 ⟨rfl,oz,Zb9 hm hs (by rw [hpe];simp [Zdh,Zcq,anyone,g2,g3,g4,g7];simp at g5;omega),.succ hm⟩ t2 rfl
 try simp only [sQ,ne_eq] at g6
 refine aZ 25 rfl (h:=aZ 26 rfl (h:=aZ 27 rfl (h:=aZ 28 rfl (h:=aZ 29 rfl (h:=aZ 30 rfl (h:=aZ 31 rfl (h:=aZ 32 rfl (h:=aZ 33 rfl (h:=aPF 34 rfl (h:=aPF 35 rfl (h:=ZD kr kr ?_)))))))))))
 refine Zf (Zd (t:=false) rfl (fun h=>Bool.noConfusion h) (fun _=>Zi (Zz (Zf (Ze (xM (h:=xD (h:=xA (h:=?_)))))))))
 exact ZE (g.1+1,m.name) [] so2 ⟨rfl,oz,Zb9 hm hs (by rw [hp.at0 oz];simp [Zdh,Zcq,anyone,g2,g3,g4,Zm7 (Zjf g2)];simp at g5;omega),.succ hm⟩ t2 rfl
 try simp only [sQ,ne_eq] at g1
 refine ZY (Zal (Z6 (ZN (Zf (Za (xM (h:=xV Tryz.underlying23 (h:=xR Zjt rfl (Zch _ _ _ _) (h:=xA (h:=Zg ?_))))))))))
 exact ZW .ret (.inl rfl) [_] t1 ⟨Zp (by rw [Zhu (ZdN hs oz),Bool.eq_iff_iff];simp;omega),rfl,rfl⟩

set_option maxHeartbeats 400000 in
theorem ZfW (q:Option Addr) (cp:Nat) (gs:List DGrant) (B:Kn) (hg:SlK B q cp 2 ZG gs):Za1 (pj J) 80 [.slice q gs.length cp] B (.bool (ZbK gs)):=by
 refine Zc 47 Tryz.func80 rfl rfl rfl (Nat.le_of_ble_eq_true rfl) ?_
 have hgn:=hg.len
 refine Za (xA (h:=Zm (Za (xA (h:=Zr (ZU (α:=Nat × Str) [0] (fun g=>[(3,.int .i64 g.1)]) [] (fun g=>[]) (fun g Bx=>Bx=B∧g.1≤gs.length∧ZcT (gs.take g.1)=(true,g.2)∧Prev (fun y=>y.user) ([]:Str) gs g.1 g.2) (fun g=>gs.length - g.1) (0,[]) t1 rfl (⟨rfl,Nat.zero_le _,Zey,.zero⟩) (fun g B1 hle1 hI=>?_)))))))
 obtain ⟨rfl,hk,hs,hp⟩:=hI
 refine ZQ [(0,_),(3,_)] [] t2 rfl (Zm (Za (xM (h:=xM (h:=xV Tryz.underlying53 (h:=Zai (h:=Zd rfl (fun g1=>?_) (fun g1=>?_))))))))
 try simp only [sQ,ne_eq] at g1
 refine Zi (Zf (Zm (Zr (Zm (Z9 (same _ _) mo kr ⟨rfl,rfl⟩ (fun _ _=>?_))))))
 refine aM 0 rfl (h:=aM 1 rfl (h:=?_))
 obtain ⟨m,hm⟩:=Zax (xs:=gs) (i:=g.1) om
 obtain ⟨bb3,oo3,rfl⟩:=hg.base hm
 obtain ⟨_,⟨rfl,hb4⟩,hc4⟩:=hg.elem hm
 refine aIx 2 rfl Tryz.underlying53 ZbL (h:=aW 3 rfl ZcH (h:=aT 4 rfl (Zan fun D=>Zl rfl rfl lk9 rfl (hc4 _ 0 _ rfl) r4) (h:=aT 5 rfl (Zan fun D=>ZaR rfl rfl ZrZ rfl (ZbT _ om2 _) r4) (h:=?_))))
 refine aN 6 rfl (h:=aM 7 rfl (h:=ZaE (d:=17) rfl (fun g2=>?_) (fun g2=>?_)))
 try simp only [sQ,ne_eq] at g2
 refine aZ 8 rfl (h:=aZ 9 rfl (h:=aZ 10 rfl (h:=aZ 11 rfl (h:=aZ 12 rfl (h:=aZ 13 rfl (h:=aZ 14 rfl (h:=aPT 15 rfl (h:=aM 16 rfl (h:=aZ 17 rfl (h:=aZ 18 rfl (h:=aZ 19 rfl (h:=aZ 20 rfl (h:=?_)))))))))))))
 refine aZ 21 rfl (h:=aZ 22 rfl (h:=aZ 23 rfl (h:=aZ 24 rfl (h:=aZ 25 rfl (h:=aZ 26 rfl (h:=aZ 27 rfl (h:=aZ 28 rfl (h:=aZ 29 rfl (h:=aZ 30 rfl (h:=aZ 31 rfl (h:=aZ 32 rfl (h:=aPT 33 rfl (h:=?_)))))))))))))
 refine ZD kr kr ?_
 refine Zf (Zd (t:=true) rfl (fun _=>Za (xA (h:=Zg (ZI (Zs (Z7 (ZI (Zs ?_)))))))) (fun h=>Bool.noConfusion h))
 exact ZW .ret (.inl rfl) [_] t1 ⟨Zp (Zdt hm hs (by simp [Zck,g1,g2])).symm,rfl,rfl⟩
 try simp only [sQ,ne_eq] at g2
 refine aM 8 rfl (h:=aM 9 rfl (h:=aIx 10 rfl Tryz.underlying53 ZbL (h:=aW 11 rfl Zgt (h:=aT 12 rfl (Zan fun D=>Zl rfl rfl lk3 rfl (hc4 _ 1 _ rfl) r4) (h:=aT 13 rfl (Zan fun D=>ZaR rfl rfl Zjt rfl (Zch _ _ _ _) r4) (h:=aN 14 rfl (h:=aPF 15 rfl (h:=aM 16 rfl (h:=ZaE (d:=26) rfl (fun g4=>?_) (fun g4=>?_))))))))))
 try simp only [sQ,ne_eq] at g4
 refine aZ 17 rfl (h:=aZ 18 rfl (h:=aZ 19 rfl (h:=aZ 20 rfl (h:=aZ 21 rfl (h:=aZ 22 rfl (h:=aZ 23 rfl (h:=aZ 24 rfl (h:=aZ 25 rfl (h:=aZ 26 rfl (h:=aZ 27 rfl (h:=aZ 28 rfl (h:=aZ 29 rfl (h:=?_)))))))))))))
 refine aZ 30 rfl (h:=aZ 31 rfl (h:=aZ 32 rfl (h:=aPT 33 rfl (h:=ZD kr kr ?_))))
 refine Zf (Zd (t:=true) rfl (fun _=>Za (xA (h:=Zg (ZI (Zs (Z7 (ZI (Zs ?_)))))))) (fun h=>Bool.noConfusion h))
 exact ZW .ret (.inl rfl) [_] t1 ⟨Zp (Zdt hm hs (by simp [Zck,g1,g2,g4])).symm,rfl,rfl⟩
 try simp only [sQ,ne_eq] at g4
 refine aM 17 rfl (h:=ZmG 18 rfl (h:=aM 19 rfl (h:=ZaE (d:=29) rfl (fun g6=>?_) (fun g6=>?_))))
 try simp only [sQ,ne_eq] at g6
 refine aM 20 rfl (h:=aM 21 rfl (h:=aU 22 rfl (h:=?_)))
 obtain ⟨y,hy⟩:=Zd7 (xs:=gs) (i:=(↑g.1 - 1)) om om
 obtain ⟨_,⟨rfl,hb8⟩,hc8⟩:=hg.elem hy
 refine aIx 23 rfl Tryz.underlying53 ZbL (h:=?_)
 have hpe:=hp.at hy oz
 refine aW 24 rfl ZcH (h:=aT 25 rfl (Zan fun D=>Zl rfl rfl lk9 rfl (hc8 _ 0 _ rfl) r4) (h:=aM 26 rfl (h:=aM 27 rfl (h:=aIx 28 rfl Tryz.underlying53 ZbL (h:=aW 29 rfl ZcH (h:=aT 30 rfl (Zan fun D=>Zl rfl rfl lk9 rfl (hc4 _ 0 _ rfl) r4) (h:=aT 31 rfl (Zan fun D=>ZoV rfl rfl rfl rfl r4) (h:=aPT 32 rfl (h:=aPF 33 rfl (h:=ZD kr kr ?_))))))))))
 refine Zf (Zd rfl (fun g7=>?_) (fun g7=>?_))
 try simp only [sQ,ne_eq] at g7
 refine Za (xA (h:=Zg (ZI (Zs (Z7 (ZI (Zs ?_)))))))
 exact ZW .ret (.inl rfl) [_] t1 ⟨Zp (Zdt hm hs (by simp [Zck,g1,g2,g4,g6,g7,hpe])).symm,rfl,rfl⟩
 try simp only [sQ,ne_eq] at g7
 refine Zi (Zz (Zf (Ze (xM (h:=xD (h:=xA (h:=?_)))))))
 exact ZE (g.1+1,m.user) [] so2 ⟨rfl,oz,Zb9 hm hs (by rw [hpe];simp [Zck,g2,g7];simp at g4;omega),.succ hm⟩ t2 rfl
 try simp only [sQ,ne_eq] at g6
 refine aZ 20 rfl (h:=aZ 21 rfl (h:=aZ 22 rfl (h:=aZ 23 rfl (h:=aZ 24 rfl (h:=aZ 25 rfl (h:=aZ 26 rfl (h:=aZ 27 rfl (h:=aZ 28 rfl (h:=aZ 29 rfl (h:=aZ 30 rfl (h:=aZ 31 rfl (h:=aPF 32 rfl (h:=?_)))))))))))))
 refine aPF 33 rfl (h:=ZD kr kr ?_)
 refine Zf (Zd (t:=false) rfl (fun h=>Bool.noConfusion h) (fun _=>Zi (Zz (Zf (Ze (xM (h:=xD (h:=xA (h:=?_)))))))))
 exact ZE (g.1+1,m.user) [] so2 ⟨rfl,oz,Zb9 hm hs (by rw [hp.at0 oz];simp [Zck,g2,Zm7 (Zjf g2)];simp at g4;omega),.succ hm⟩ t2 rfl
 try simp only [sQ,ne_eq] at g1
 refine ZY (Zal (Z6 (ZN (Zf (Za (xM (h:=xV Tryz.underlying53 (h:=ZcB (h:=xA (h:=Zg ?_))))))))))
 exact ZW .ret (.inl rfl) [_] t1 ⟨Zp (by rw [ZlA (ZdN hs oz),Bool.eq_iff_iff];simp;try omega),rfl,rfl⟩

set_option maxHeartbeats 400000 in
theorem Zji (q1 q2 q3:Option Addr) (c1 c2 c3:Nat) (x:DHost) (q:Option Addr) (cp:Nat) (ns:List Str) (B:Kn) (hu:SlK B q1 c1 3 Zh x.users) (hn:SlK B q cp 1 Za7 ns):Za1 (pj J) 42 [.agg #[str x.domain,.slice q1 x.users.length c1,.slice q2 x.folders.length c2,.int .i64 x.queue.next,.slice q3 x.queue.items.length c3],.slice q ns.length cp] B (.bool (Zf3 x.users ns)):=by
 refine Zc 20 Tryz.func42 rfl rfl rfl (Nat.le_of_ble_eq_true rfl) ?_
 have hnn:=hn.len
 have hun:=hu.len
 refine Za (xBx [_,_,_,_,_] (h:=fun b1=>xA (h:=Zw [_] rfl (Zm (Za (xA (h:=Zr (ZU (α:=Nat) [0,1,2] (fun k=>[(5,.int .i64 k)]) [] (fun k=>[]) (fun k Bx=>Bx=B∧k≤ns.length∧∀z,z∈ns.take k→decide (0≤Zdw x.users z)=true) (fun k=>ns.length - k) 0 t1 rfl (⟨rfl,Nat.zero_le _,by simp⟩) (fun k B2 hle2 hI=>?_)))))))))
 obtain ⟨rfl,hk,ha⟩:=hI
 refine ZQ [(0,_),(1,_),(2,_),(5,_)] [_] t4 rfl (Zm (Za (xM (h:=xM (h:=xV Tryz.underlying78 (h:=Zai (h:=Zd rfl (fun g1=>?_) (fun g1=>?_))))))))
 try simp only [sQ,ne_eq] at g1
 refine Zi (Zf (Zm (Zr (Zm (Z9 (same _ _) mo kr ⟨rfl,rfl⟩ (fun _ _=>?_))))))
 refine aW 0 rfl Zcn (h:=aT 1 rfl (Zan fun D=>Zl rfl rfl ZjQ rfl (atL 0 rfl rfl rfl) r4) (h:=aM 2 rfl (h:=aM 3 rfl (h:=?_))))
 obtain ⟨z,hz⟩:=Zax (xs:=ns) (i:=k) om
 obtain ⟨bb4,oo4,rfl⟩:=hn.base hz
 obtain ⟨_,⟨rfl,hb5⟩,hc5⟩:=hn.elem hz
 refine aIx 4 rfl Tryz.underlying78 sz9 (h:=aT 5 rfl (Zan fun D=>Zl rfl rfl lk9 rfl (hc5 _ 0 _ rfl) r4) (h:=aT 6 rfl (Zan fun D=>ZaR rfl rfl ZsI rfl (ZcS _ _ _ _ _ hu) r4) (h:=ZqM 7 rfl (h:=ZD kr kr ?_))))
 refine Zf (Zd rfl (fun g2=>?_) (fun g2=>?_))
 try simp only [sQ,ne_eq] at g2
 refine Za (xA (h:=Zg (ZI (Zs (Z7 (ZI (Zs ?_)))))))
 exact ZW .ret (.inl rfl) [_] t1 ⟨Zp (ZcN hz (by simp;omega)).symm,rfl,rfl⟩
 try simp only [sQ,ne_eq] at g2
 refine Zi (Zz (Zf (Ze (xM (h:=xD (h:=xA (h:=?_)))))))
 exact ZE (k+1) [0] so2 ⟨rfl,oz,Zbl hz ha (by simp;omega)⟩ t4 rfl
 try simp only [sQ,ne_eq] at g1
 refine ZY (Zal (Z6 (ZN (Zf (Za (xA (h:=Zg ?_)))))))
 exact ZW .ret (.inl rfl) [_] t1 ⟨Zp (Zek (ZbD oz ha)).symm,rfl,rfl⟩

set_option maxHeartbeats 400000 in
theorem ZkZ (q1 q2 q3:Option Addr) (c1 c2 c3:Nat) (x:DHost) (u:Str) (B:Kn) (hf:SlK B q2 c2 5 Zb x.folders):Za1 (pj J) 40 [.agg #[str x.domain,.slice q1 x.users.length c1,.slice q2 x.folders.length c2,.int .i64 x.queue.next,.slice q3 x.queue.items.length c3],str u] B (.int .i64 (Zbb x.folders u)):=by
 refine Zc 32 Tryz.func40 rfl rfl rfl (Nat.le_of_ble_eq_true rfl) ?_
 have hfn:=hf.len
 refine Za (xBx [_,_,_,_,_] (h:=fun b1=>xA (h:=Zw [_] rfl (Za (xA (h:=Zm (Za (xA (h:=Zr (ZU (α:=Nat × Nat) [0,1,2,4] (fun g=>[(5,.int .i64 g.2),(6,.int .i64 g.1)]) [] (fun g=>[]) (fun g Bx=>Bx=B∧g.1≤x.folders.length∧g.2=Zbb (x.folders.take g.1) u∧g.2≤g.1*4000000000000) (fun g=>x.folders.length - g.1) (0,0) t2 rfl (⟨rfl,Nat.zero_le _,by simp [Zbb],oz⟩) (fun g B2 hle2 hI=>?_)))))))))))
 obtain ⟨rfl,hk,hs,hl⟩:=hI
 refine ZQ [(0,_),(1,_),(2,_),(4,_),(5,_),(6,_)] [_] t6 rfl (Zm (Za (xM (h:=xW Z0 (h:=x1 Zcy 0 (h:=xV Tryz.underlying24 (h:=Zai (h:=Zd rfl (fun g1=>?_) (fun g1=>?_)))))))))
 try simp only [sQ,ne_eq] at g1
 refine Zi (Zf (Zm (Zr (Za (xW Z0 (h:=x1 Zcy 0 (h:=xM (h:=?_))))))))
 obtain ⟨m,hm⟩:=Zax (xs:=x.folders) (i:=g.1) om
 obtain ⟨bb4,oo4,rfl⟩:=hf.base hm
 obtain ⟨_,⟨qg5,cg5,qm5,cm5,rfl,hg5,hm5,hb5,hb5b⟩,hc5⟩:=hf.elem hm
 have hg5n:=hg5.len
 have hm5n:=hm5.len
 have hm5s:=Z4 hm5
 refine xIx Tryz.underlying24 Zbj (h:=xW ZcU (h:=y1 lk9 hc5 0 (h:=xM (h:=ZdT (h:=Zd rfl (fun g2=>?_) (fun g2=>?_))))))
 try simp only [sQ,ne_eq] at g2
 refine Ze (xM (h:=xW Z0 (h:=x1 Zcy 0 (h:=xM (h:=xIx Tryz.underlying24 Zbj (h:=xW Zcm (h:=yL [_,_] ZbN hc5 3 (h:=xR Zxr rfl (ZpL _ _ (⟨m.next,m.mail⟩:DBox) _ hm5) (h:=xD (h:=xA (h:=Zz (Zf (Ze ?_)))))))))))))
 refine xM (h:=xD (h:=xA (h:=?_)))
 exact ZE (g.1+1,g.2+Zah m.mail) [0] so2 ⟨rfl,so,by rw [Zi0 hm,← hs,if_pos g2],so⟩ t6 rfl
 try simp only [sQ,ne_eq] at g2
 refine Zi (Zz (Zf (Ze (xM (h:=xD (h:=xA (h:=?_)))))))
 exact ZE (g.1+1,g.2) [0] so2 ⟨rfl,so,by rw [Zi0 hm,← hs,if_neg g2];simp only [Nat.add_zero],Nat.le_trans hl (Nat.mul_le_mul_right _ (Nat.le_succ _))⟩ t6 rfl
 try simp only [sQ,ne_eq] at g1
 refine ZY (Zal (Z6 (ZN (Zf (Za (xM (h:=xA (h:=Zg ?_))))))))
 exact ZW .ret (.inl rfl) [_] t1 ⟨ZaA (by rw [← Zo4 hs oz]),rfl,rfl⟩

set_option maxHeartbeats 400000 in
theorem Zk1 (q1 q2 q3:Option Addr) (c1 c2 c3:Nat) (x:DHost) (B:Kn) (hu:SlK B q1 c1 3 Zh x.users) (hf:SlK B q2 c2 5 Zb x.folders):Za1 (pj J) 39 [.agg #[str x.domain,.slice q1 x.users.length c1,.slice q2 x.folders.length c2,.int .i64 x.queue.next,.slice q3 x.queue.items.length c3]] B (.bool (Zb8 x.users x.folders)):=by
 refine Zc 60 Tryz.func39 rfl rfl rfl (Nat.le_of_ble_eq_true rfl) ?_
 have hfn:=hf.len
 have hun:=hu.len
 refine Za (xBx [_,_,_,_,_] (h:=fun b1=>xA (h:=Zw [_] rfl (Zm (Za (xA (h:=Zr (ZU (α:=Nat × Option DFolder) [0,1] (fun g=>[(3,.int .i64 g.1)]) [] (fun g=>[]) (fun g Bx=>Bx=B∧g.1≤x.folders.length∧Zdd x.users (x.folders.take g.1)=(true,g.2)∧Prev some none x.folders g.1 g.2) (fun g=>x.folders.length - g.1) (0,none) t1 rfl (⟨rfl,Nat.zero_le _,Zey,.zero⟩) (fun g B2 hle2 hI=>?_)))))))))
 obtain ⟨rfl,hk,hs,hp⟩:=hI
 refine ZQ [(0,_),(1,_),(3,_)] [_] t3 rfl (Zm (Za (xM (h:=xW Z0 (h:=x1 Zcy 0 (h:=xV Tryz.underlying24 (h:=Zai (h:=Zd rfl (fun g1=>?_) (fun g1=>?_)))))))))
 try simp only [sQ,ne_eq] at g1
 refine Zi (Zf (Zm (Zr (Za (xW Z0 (h:=x1 Zcy 0 (h:=xM (h:=?_))))))))
 obtain ⟨m,hm⟩:=Zax (xs:=x.folders) (i:=g.1) om
 obtain ⟨bb4,oo4,rfl⟩:=hf.base hm
 obtain ⟨_,⟨qg5,cg5,qm5,cm5,rfl,hg5,hm5,hb5,hb5b⟩,hc5⟩:=hf.elem hm
 have hg5n:=hg5.len
 have hm5n:=hm5.len
 have hm5s:=Z4 hm5
 refine xIx Tryz.underlying24 Zbj (h:=yL [_,_,_,_,_] ZgQ hc5 0 (h:=xAl [_,_,_,_,_] Zdx (h:=fun b6=>xS [_,_,_,_,_] 1 [_,_,_,_,_] Zbj (h:=Zw [_,_] rfl (Zm (Z9 (same _ _) mo kr ⟨rfl,rfl⟩ (fun _ _=>?_)))))))
 refine aW 0 rfl Zcn (h:=aT 1 rfl (Zan fun D=>Zl rfl rfl ZjQ rfl (atL 0 rfl rfl rfl) r4) (h:=aW 2 rfl ZcU (h:=aT 3 rfl (Zan fun D=>Zl rfl rfl lk9 rfl (atL 1 rfl rfl rfl) r4) (h:=aT 4 rfl (Zan fun D=>ZaR rfl rfl ZsI rfl (ZcS _ _ _ _ _ hu) r4) (h:=ZqM 5 rfl (h:=aM 6 rfl (h:=ZaE (d:=23) rfl (fun g2=>?_) (fun g2=>?_))))))))
 try simp only [sQ,ne_eq] at g2
 refine aZ 7 rfl (h:=aZ 8 rfl (h:=aZ 9 rfl (h:=aZ 10 rfl (h:=aPT 11 rfl (h:=aM 12 rfl (h:=aZ 13 rfl (h:=aZ 14 rfl (h:=aZ 15 rfl (h:=aZ 16 rfl (h:=aPT 17 rfl (h:=aM 18 rfl (h:=aZ 19 rfl (h:=?_)))))))))))))
 refine aZ 20 rfl (h:=aZ 21 rfl (h:=aZ 22 rfl (h:=aPT 23 rfl (h:=aM 24 rfl (h:=aZ 25 rfl (h:=aZ 26 rfl (h:=aZ 27 rfl (h:=aZ 28 rfl (h:=aZ 29 rfl (h:=aZ 30 rfl (h:=aZ 31 rfl (h:=aZ 32 rfl (h:=?_)))))))))))))
 refine aZ 33 rfl (h:=aZ 34 rfl (h:=aZ 35 rfl (h:=aZ 36 rfl (h:=aZ 37 rfl (h:=aPT 38 rfl (h:=ZD kr kr ?_))))))
 refine Zf (Zd (t:=true) rfl (fun _=>Za (xA (h:=Zg (ZI (Zs (Z7 (ZI (Zs ?_)))))))) (fun h=>Bool.noConfusion h))
 exact ZW .ret (.inl rfl) [_] t1 ⟨Zp (Zcx hm hs (by simp [ZbQ,Z1,DFolder.box,g1,g2];try omega)).symm,rfl,rfl⟩
 try simp only [sQ,ne_eq] at g2
 refine aW 7 rfl Zfb (h:=aT 8 rfl (Zan fun D=>Zl rfl rfl lk9 rfl (atL 1 rfl rfl rfl) r4) (h:=aT 9 rfl (Zan fun D=>ZaR rfl rfl ZrZ rfl (ZbT _ om2 _) r4) (h:=?_)))
 refine aN 10 rfl (h:=aPF 11 rfl (h:=aM 12 rfl (h:=ZaE (d:=29) rfl (fun g3=>?_) (fun g3=>?_))))
 try simp only [sQ,ne_eq] at g3
 refine aZ 13 rfl (h:=aZ 14 rfl (h:=aZ 15 rfl (h:=aZ 16 rfl (h:=aPT 17 rfl (h:=aM 18 rfl (h:=aZ 19 rfl (h:=aZ 20 rfl (h:=aZ 21 rfl (h:=aZ 22 rfl (h:=aPT 23 rfl (h:=aM 24 rfl (h:=aZ 25 rfl (h:=?_)))))))))))))
 refine aZ 26 rfl (h:=aZ 27 rfl (h:=aZ 28 rfl (h:=aZ 29 rfl (h:=aZ 30 rfl (h:=aZ 31 rfl (h:=aZ 32 rfl (h:=aZ 33 rfl (h:=aZ 34 rfl (h:=aZ 35 rfl (h:=aZ 36 rfl (h:=aZ 37 rfl (h:=aPT 38 rfl (h:=?_)))))))))))))
 refine ZD kr kr ?_
 refine Zf (Zd (t:=true) rfl (fun _=>Za (xA (h:=Zg (ZI (Zs (Z7 (ZI (Zs ?_)))))))) (fun h=>Bool.noConfusion h))
 exact ZW .ret (.inl rfl) [_] t1 ⟨Zp (Zcx hm hs (by simp [ZbQ,Z1,DFolder.box,g1,g2,g3];try omega)).symm,rfl,rfl⟩
 try simp only [sQ,ne_eq] at g3
 refine aW 13 rfl ZdI (h:=aT 14 rfl (Zan fun D=>Zl rfl rfl Zrt rfl (atL 1 rfl rfl rfl) r4) (h:=aT 15 rfl (Zan fun D=>ZaR rfl rfl Zvx rfl (ZfW _ _ _ _ hg5) r4) (h:=aN 16 rfl (h:=aPF 17 rfl (h:=aM 18 rfl (h:=ZaE (d:=35) rfl (fun g4=>?_) (fun g4=>?_)))))))
 try simp only [sQ,ne_eq] at g4
 refine aZ 19 rfl (h:=aZ 20 rfl (h:=aZ 21 rfl (h:=aZ 22 rfl (h:=aPT 23 rfl (h:=aM 24 rfl (h:=aZ 25 rfl (h:=aZ 26 rfl (h:=aZ 27 rfl (h:=aZ 28 rfl (h:=aZ 29 rfl (h:=aZ 30 rfl (h:=aZ 31 rfl (h:=?_)))))))))))))
 refine aZ 32 rfl (h:=aZ 33 rfl (h:=aZ 34 rfl (h:=aZ 35 rfl (h:=aZ 36 rfl (h:=aZ 37 rfl (h:=aPT 38 rfl (h:=ZD kr kr ?_)))))))
 refine Zf (Zd (t:=true) rfl (fun _=>Za (xA (h:=Zg (ZI (Zs (Z7 (ZI (Zs ?_)))))))) (fun h=>Bool.noConfusion h))
 exact ZW .ret (.inl rfl) [_] t1 ⟨Zp (Zcx hm hs (by simp [ZbQ,Z1,DFolder.box,g1,g2,g3,g4];try omega)).symm,rfl,rfl⟩
 try simp only [sQ,ne_eq] at g4
 refine aW 19 rfl Zcm (h:=aT 20 rfl (Zan fun D=>Zag [_,_] rfl rfl ZbN rfl (Zad 1 rfl rfl rfl) r4) (h:=aT 21 rfl (Zan fun D=>ZaR rfl rfl Zvw rfl (ZfU _ _ (⟨m.next,m.mail⟩:DBox) _ hm5) r4) (h:=aN 22 rfl (h:=aPF 23 rfl (h:=aM 24 rfl (h:=ZaE (d:=41) rfl (fun g5=>?_) (fun g5=>?_)))))))
 try simp only [sQ,ne_eq] at g5
 refine aZ 25 rfl (h:=aZ 26 rfl (h:=aZ 27 rfl (h:=aZ 28 rfl (h:=aZ 29 rfl (h:=aZ 30 rfl (h:=aZ 31 rfl (h:=aZ 32 rfl (h:=aZ 33 rfl (h:=aZ 34 rfl (h:=aZ 35 rfl (h:=aZ 36 rfl (h:=aZ 37 rfl (h:=?_)))))))))))))
 refine aPT 38 rfl (h:=ZD kr kr ?_)
 refine Zf (Zd (t:=true) rfl (fun _=>Za (xA (h:=Zg (ZI (Zs (Z7 (ZI (Zs ?_)))))))) (fun h=>Bool.noConfusion h))
 exact ZW .ret (.inl rfl) [_] t1 ⟨Zp (Zcx hm hs (by simp [ZbQ,Z1,DFolder.box,g1,g2,g3,g4,g5];try omega)).symm,rfl,rfl⟩
 try simp only [sQ,ne_eq] at g5
 refine aM 25 rfl (h:=ZmG 26 rfl (h:=aM 27 rfl (h:=ZaE (d:=44) rfl (fun g6=>?_) (fun g6=>?_))))
 try simp only [sQ,ne_eq] at g6
 refine aW 28 rfl Z0 (h:=aT 29 rfl (Zan fun D=>Zl rfl rfl Zcy rfl (atL 0 rfl rfl rfl) r4) (h:=aM 30 rfl (h:=aU 31 rfl (h:=?_))))
 obtain ⟨y,hy⟩:=Zd7 (xs:=x.folders) (i:=(↑g.1 - 1)) om om
 obtain ⟨_,⟨qg12,cg12,qm12,cm12,rfl,hg12,hm12,hb12,hb12b⟩,hc12⟩:=hf.elem hy
 have hg12n:=hg12.len
 have hm12n:=hm12.len
 have hm12s:=Z4 hm12
 refine aIx 32 rfl Tryz.underlying24 Zbj (h:=?_)
 have hpe:=hp.at hy oz
 refine aT 33 rfl (Zan fun D=>Zag [_,_,_,_,_] rfl rfl ZgQ rfl (Zl1 hc12 0 rfl rfl) r4) (h:=aT 34 rfl (Zan fun D=>Zag [_,_,_,_,_] rfl rfl ZgQ rfl (Zad 1 rfl rfl rfl) r4) (h:=aT 35 rfl (Zan fun D=>ZaR rfl rfl ZwZ rfl (Zk0 y m _ _ _ _ _ _ _ _ _) r4) (h:=aN 36 rfl (h:=aPT 37 rfl (h:=aPF 38 rfl (h:=ZD kr kr ?_))))))
 refine Zf (Zd rfl (fun g7=>?_) (fun g7=>?_))
 try simp only [sQ,ne_eq] at g7
 refine Za (xA (h:=Zg (ZI (Zs (Z7 (ZI (Zs ?_)))))))
 exact ZW .ret (.inl rfl) [_] t1 ⟨Zp (Zcx hm hs (by simp [ZbQ,Z1,DFolder.box,g1,g2,g3,g4,g5,g6,g7,hpe];try omega)).symm,rfl,rfl⟩
 try simp only [sQ,ne_eq] at g7
 refine Zi (Zz (Zf (Ze (xM (h:=xD (h:=xA (h:=?_)))))))
 exact ZE (g.1+1,some m) [0] so2 ⟨rfl,oz,Zb9 hm hs (by rw [hpe];simp [ZbQ,Z1,DFolder.box,g3,g4,g5,g7];omega),.succ hm⟩ t3 rfl
 try simp only [sQ,ne_eq] at g6
 refine aZ 28 rfl (h:=aZ 29 rfl (h:=aZ 30 rfl (h:=aZ 31 rfl (h:=aZ 32 rfl (h:=aZ 33 rfl (h:=aZ 34 rfl (h:=aZ 35 rfl (h:=aZ 36 rfl (h:=aPF 37 rfl (h:=aPF 38 rfl (h:=ZD kr kr ?_)))))))))))
 refine Zf (Zd (t:=false) rfl (fun h=>Bool.noConfusion h) (fun _=>Zi (Zz (Zf (Ze (xM (h:=xD (h:=xA (h:=?_)))))))))
 exact ZE (g.1+1,some m) [0] so2 ⟨rfl,oz,Zb9 hm hs (by rw [hp.at0 oz];simp [ZbQ,Z1,DFolder.box,g3,g4,g5];omega),.succ hm⟩ t3 rfl
 try simp only [sQ,ne_eq] at g1
 refine ZY (Zal (Z6 (ZN (Zf (Za (xW Z0 (h:=x1 Zcy 0 (h:=xV Tryz.underlying24 (h:=ZcB (h:=xA (h:=Zg ?_)))))))))))
 exact ZW .ret (.inl rfl) [_] t1 ⟨Zp (by rw [Zj3 (ZdN hs oz),Bool.eq_iff_iff];simp;try omega),rfl,rfl⟩

set_option maxHeartbeats 400000 in
theorem Zbm (q1 q2 q3:Option Addr) (c1 c2 c3:Nat) (x:DHost) (hd:x.domain.length≤2000000) (B:Kn) (hu:SlK B q1 c1 3 Zh x.users) (hf:SlK B q2 c2 5 Zb x.folders) (hi:SlK B q3 c3 4 Zj x.queue.items):Za1 (pj J) 16 [.agg #[str x.domain,.slice q1 x.users.length c1,.slice q2 x.folders.length c2,.int .i64 x.queue.next,.slice q3 x.queue.items.length c3]] B (.bool (ZA x)):=by
 refine Zc 87 Tryz.func16 rfl rfl rfl (Nat.le_of_ble_eq_true rfl) ?_
 have hfn:=hf.len
 have hun:=hu.len
 have hin:=hi.len
 refine Za (xBx [_,_,_,_,_] (h:=fun b1=>xA (h:=Zw [_] rfl (Zm (Za (xW Znj (h:=x1 lk9 0 (h:=xR ZxQ rfl (ZkE _ om2 _) (h:=?_)))))))))
 refine xN (h:=xM (h:=Zt (d:=10) rfl (fun g1=>?_) (fun g1=>?_)))
 try simp only [sQ,ne_eq] at g1
 refine xP (h:=xP (h:=xP (h:=xP (h:=xT (h:=xM (h:=xP (h:=xP (h:=xP (h:=xP (h:=xT (h:=xM (h:=xP (h:=?_)))))))))))))
 refine xP (h:=xP (h:=xT (h:=Zd (t:=true) rfl (fun _=>Za (xA (h:=Zg (Zs ?_)))) (fun h=>Bool.noConfusion h))))
 exact ZW .ret (.inl rfl) [_] t1 ⟨Zp (by simp [ZA,g1]),rfl,rfl⟩
 try simp only [sQ,ne_eq] at g1
 refine xW Zcn (h:=x1 ZjQ 0 (h:=xR ZxP rfl (ZlW _ _ _ _ hu) (h:=xN (h:=xF (h:=xM (h:=Zt (d:=16) rfl (fun g2=>?_) (fun g2=>?_)))))))
 try simp only [sQ,ne_eq] at g2
 refine xP (h:=xP (h:=xP (h:=xP (h:=xT (h:=xM (h:=xP (h:=xP (h:=xP (h:=xT (h:=Zd (t:=true) rfl (fun _=>Za (xA (h:=?_))) (fun h=>Bool.noConfusion h)))))))))))
 refine Zg (Zs ?_)
 exact ZW .ret (.inl rfl) [_] t1 ⟨Zp (by simp [ZA,g1,g2]),rfl,rfl⟩
 try simp only [sQ,ne_eq] at g2
 refine xW ZcA (h:=xL [_,_] Zee 0 (h:=xR Zwe rfl (Zfp _ _ x.queue _ hi) (h:=xN (h:=xF (h:=xM (h:=Zt (d:=22) rfl (fun g3=>?_) (fun g3=>?_)))))))
 try simp only [sQ,ne_eq] at g3
 refine xP (h:=xP (h:=xP (h:=xT (h:=Zd (t:=true) rfl (fun _=>Za (xA (h:=Zg (Zs ?_)))) (fun h=>Bool.noConfusion h)))))
 exact ZW .ret (.inl rfl) [_] t1 ⟨Zp (by simp [ZA,g1,g2,g3]),rfl,rfl⟩
 try simp only [sQ,ne_eq] at g3
 refine xL [_,_,_,_,_] Z2 0 (h:=xR ZxO rfl (Zk1 _ _ _ _ _ _ x _ hu hf) (h:=xN (h:=xF (h:=Zd rfl (fun g4=>?_) (fun g4=>?_)))))
 try simp only [sQ,ne_eq] at g4
 refine Za (xA (h:=Zg (Zs ?_)))
 exact ZW .ret (.inl rfl) [_] t1 ⟨Zp (by simp [ZA,g1,g2,g3,g4]),rfl,rfl⟩
 try simp only [sQ,ne_eq] at g4
 refine Zi (Zf (Zm (Za (xA (h:=Zr (ZU (α:=Nat) [0,1,26] (fun k=>[(3,.int .i64 k)]) [] (fun k=>[]) (fun k Bx=>Bx=B∧k≤x.users.length∧∀z,z∈x.users.take k→ZaN x.folders z=true) (fun k=>x.users.length - k) 0 t1 rfl (⟨rfl,Nat.zero_le _,by simp⟩) (fun k B6 hle6 hI=>?_)))))))
 obtain ⟨rfl,hk,ha⟩:=hI
 refine ZQ [(0,_),(1,_),(3,_),(26,_)] [_] t4 rfl (Zm (Za (xM (h:=xW Zcn (h:=x1 ZjQ 0 (h:=xV Tryz.underlying23 (h:=Zai (h:=Zd rfl (fun g5=>?_) (fun g5=>?_)))))))))
 try simp only [sQ,ne_eq] at g5
 refine Zi (Zf (Zm (Zr (Zm (Z9 (same _ _) mo kr ⟨rfl,rfl⟩ (fun _ _=>?_))))))
 refine aT 0 rfl (Zan fun D=>Zag [_,_,_,_,_] rfl rfl Z2 rfl (Zad 0 rfl rfl rfl) r4) (h:=aW 1 rfl Zcn (h:=aT 2 rfl (Zan fun D=>Zl rfl rfl ZjQ rfl (atL 0 rfl rfl rfl) r4) (h:=aM 3 rfl (h:=?_))))
 obtain ⟨w,hw⟩:=Zax (xs:=x.users) (i:=k) om
 obtain ⟨bb8,oo8,rfl⟩:=hu.base hw
 obtain ⟨_,⟨rfl,hb9,hb9b⟩,hc9⟩:=hu.elem hw
 refine aIx 4 rfl Tryz.underlying23 ZeY (h:=aW 5 rfl Zc2 (h:=aT 6 rfl (Zan fun D=>Zl rfl rfl lk9 rfl (hc9 _ 0 _ rfl) r4) (h:=aT 7 rfl (Zan fun D=>ZaR rfl rfl ZsJ rfl (ZcR _ _ _ _ _ _ x w.name [105,110,98,111,120] om2 om2 _ hf) r4) (h:=?_))))
 refine ZqM 8 rfl (h:=aM 9 rfl (h:=ZaE (d:=43) rfl (fun g6=>?_) (fun g6=>?_)))
 try simp only [sQ,ne_eq] at g6
 refine aZ 10 rfl (h:=aZ 11 rfl (h:=aZ 12 rfl (h:=aZ 13 rfl (h:=aZ 14 rfl (h:=aZ 15 rfl (h:=aZ 16 rfl (h:=aZ 17 rfl (h:=aZ 18 rfl (h:=aZ 19 rfl (h:=aZ 20 rfl (h:=aZ 21 rfl (h:=aZ 22 rfl (h:=?_)))))))))))))
 refine aZ 23 rfl (h:=aZ 24 rfl (h:=aPT 25 rfl (h:=ZD kr kr ?_)))
 refine Zf (Zd (t:=true) rfl (fun _=>Za (xA (h:=Zg (ZI (Zs (Z7 (ZI (Zs ?_)))))))) (fun h=>Bool.noConfusion h))
 exact ZW .ret (.inl rfl) [_] t1 ⟨Zp (Zh1 hw (Zku g6)).symm,rfl,rfl⟩
 try simp only [sQ,ne_eq] at g6
 refine aT 10 rfl (Zan fun D=>Zag [_,_,_,_,_] rfl rfl Z2 rfl (Zad 0 rfl rfl rfl) r4) (h:=aW 11 rfl Zcn (h:=aT 12 rfl (Zan fun D=>Zl rfl rfl ZjQ rfl (atL 0 rfl rfl rfl) r4) (h:=aM 13 rfl (h:=aIx 14 rfl Tryz.underlying23 ZeY (h:=aW 15 rfl Zc2 (h:=aT 16 rfl (Zan fun D=>Zl rfl rfl lk9 rfl (hc9 _ 0 _ rfl) r4) (h:=aT 17 rfl (Zan fun D=>ZaR rfl rfl Zw5 rfl (ZkZ _ _ _ _ _ _ x _ _ hf) r4) (h:=aW 18 rfl Zcn (h:=aT 19 rfl (Zan fun D=>Zl rfl rfl ZjQ rfl (atL 0 rfl rfl rfl) r4) (h:=aM 20 rfl (h:=aIx 21 rfl Tryz.underlying23 ZeY (h:=aW 22 rfl Zie (h:=?_)))))))))))))
 refine aT 23 rfl (Zan fun D=>Zl rfl rfl lk3 rfl (hc9 _ 2 _ rfl) r4) (h:=ZmG 24 rfl (h:=aPF 25 rfl (h:=ZD kr kr ?_)))
 refine Zf (Zd rfl (fun g7=>?_) (fun g7=>?_))
 try simp only [sQ,ne_eq] at g7
 refine Za (xA (h:=Zg (ZI (Zs (Z7 (ZI (Zs ?_)))))))
 exact ZW .ret (.inl rfl) [_] t1 ⟨Zp (Zh1 hw (Zkt g7)).symm,rfl,rfl⟩
 try simp only [sQ,ne_eq] at g7
 refine Zi (Zz (Zf (Ze (xM (h:=xD (h:=xA (h:=?_)))))))
 exact ZE (k+1) [0] so2 ⟨rfl,oz,Zbl hw ha (Zks g6 g7)⟩ t4 rfl
 try simp only [sQ,ne_eq] at g5
 refine ZY (Zal (Z6 (ZN (Zf (Zm (Za (xA (h:=Zr (ZU (α:=Nat) [0,1,3,26,31] (fun j=>[(4,.int .i64 j)]) [] (fun j=>[]) (fun j Bx=>Bx=B6∧j≤x.queue.items.length∧∀z,z∈x.queue.items.take j→ZaG x.users z=true) (fun j=>x.queue.items.length - j) 0 t1 rfl (⟨rfl,Nat.zero_le _,by simp⟩) (fun j B12 hle12 hI=>?_))))))))))
 obtain ⟨rfl,hj,hb⟩:=hI
 refine ZQ [(0,_),(1,_),(3,_),(4,_),(26,_),(31,_)] [_] t6 rfl (Zm (Za (xM (h:=xW ZcA (h:=xW ZaI (h:=x1 Zfz 0 (h:=xV Tryz.underlying25 (h:=Zai (h:=Zd rfl (fun g8=>?_) (fun g8=>?_))))))))))
 try simp only [sQ,ne_eq] at g8
 refine Zi (Zf (Zm (Zr (Za (xW ZcA (h:=xW ZaI (h:=x1 Zfz 0 (h:=xM (h:=?_)))))))))
 obtain ⟨y,hy⟩:=Zax (xs:=x.queue.items) (i:=j) om
 obtain ⟨bb14,oo14,rfl⟩:=hi.base hy
 obtain ⟨_,⟨qi15,ci15,rfl,hi15,hb15,hb15b⟩,hc15⟩:=hi.elem hy
 have hi15n:=hi15.len
 refine xIx Tryz.underlying25 Zer (h:=yL [_,_,_,_] ZlF hc15 0 (h:=xAl [_,_,_,_] ZiD (h:=fun b16=>xS [_,_,_,_] 1 [_,_,_,_] Zer (h:=Zw [_,_] rfl (Za (xW Zcn (h:=x1 ZjQ 0 (h:=xW Zni (h:=x1 lk9 1 (h:=xR ZsI rfl (ZcS _ _ _ _ _ hu) (h:=Zai (h:=xM (h:=?_)))))))))))))
 refine Zt (d:=80) rfl (fun g9=>?_) (fun g9=>?_)
 try simp only [sQ,ne_eq] at g9
 refine xP (h:=xP (h:=xP (h:=xP (h:=xP (h:=xT (h:=Zd (t:=true) rfl (fun _=>Za (xA (h:=Zg (ZI (Zs (Z7 (ZI (Zs ?_)))))))) (fun h=>Bool.noConfusion h)))))))
 exact ZW .ret (.inl rfl) [_] t1 ⟨Zp (Zh2 hy (ZjW g9)).symm,rfl,rfl⟩
 try simp only [sQ,ne_eq] at g9
 refine xL [_,_,_,_,_] Z2 0 (h:=xW ZbG (h:=x1 Zhc 1 (h:=xR Zw4 rfl (Zji _ _ _ _ _ _ x _ _ y.left _ hu hi15) (h:=xN (h:=xF (h:=Zd rfl (fun ga=>?_) (fun ga=>?_)))))))
 try simp only [sQ,ne_eq] at ga
 refine Za (xA (h:=Zg (ZI (Zs (Z7 (ZI (Zs ?_)))))))
 exact ZW .ret (.inl rfl) [_] t1 ⟨Zp (Zh2 hy (ZjV ga)).symm,rfl,rfl⟩
 try simp only [sQ,ne_eq] at ga
 refine Zi (Zz (Zf (Ze (xM (h:=xD (h:=xA (h:=?_)))))))
 exact ZE (j+1) [0] so2 ⟨rfl,oz,Zbl hy hb (ZjU g9 ga)⟩ t6 rfl
 try simp only [sQ,ne_eq] at g8
 refine ZY (Zal (Z6 (ZN (Zf (Za (xA (h:=Zg ?_)))))))
 exact ZW .ret (.inl rfl) [_] t1 ⟨Zp (Zog g1 g2 g3 g4 (Zek (ZbD oz ha)) (Zek (ZbD oz hb))).symm,rfl,rfl⟩

set_option maxHeartbeats 400000 in
theorem Znx (q:Option Addr) (cp:Nat) (gs:List DGrant) (B:Kn) (hg:SlK B q cp 2 ZG gs):ZM (pj J) 45 [.slice q gs.length cp] B [] (ZmH gs B):=by
 refine Zc 46 Tryz.func45 rfl rfl rfl (Nat.le_of_ble_eq_true rfl) ?_
 have hgn:=hg.len
 refine Za (xA (h:=xA (h:=Zm (Za (xM (h:=xV Tryz.underlying53 (h:=ZbA (h:=Zd rfl (fun g0=>?_) (fun g0=>?_)))))))))
 try simp only [sQ,ne_eq] at g0
 refine Za (xA (h:=xA (h:=Zg (Zs ?_))))
 exact Zim .ret (.inl rfl) [_,_] t2 (by simp [ZbK];omega)
 try simp only [sQ,ne_eq] at g0
 refine Zi (Zf (Za (Zn (ZoT rfl rfl (fun b1 l1 hl1=>xA (h:=Zw [_] rfl (Za (xA (h:=Zm (Za (xM (h:=xV Tryz.underlying53 (h:=xM (h:=?_))))))))))))))
 refine Zr (ZU (α:=Nat × Str × Cells) [0,4,10,12,13] (fun g=>[(5,str g.2.1),(14,.int .i64 g.1)]) [0] (fun g=>[g.2.2]) (fun g Bx=>Bx=B∧g.1≤gs.length∧ZcT (gs.take g.1)=(true,g.2.1)∧g.2.1.length≤2000000∧Zt4 g.2.2 b1 (ZeI (gs.take g.1))) (fun g=>gs.length - g.1) (0,[],_) t2 rfl (⟨rfl,Nat.zero_le _,Zey,by simp,hl1⟩) (fun g B2 hle2 hI=>?_))
 obtain ⟨rfl,hk,hs,hnm,hml⟩:=hI
 refine ZQ [(0,_),(4,_),(5,_),(10,_),(12,_),(13,_),(14,_)] [_] t7 rfl (Za (Zai (h:=Zm (Zd rfl (fun g1=>?_) (fun g1=>?_)))))
 try simp only [sQ,ne_eq] at g1
 refine Zi (Zf (Zm (Zr (Za ?_))))
 obtain ⟨m,hm⟩:=Zax (xs:=gs) (i:=g.1) om
 obtain ⟨bb4,oo4,rfl⟩:=hg.base hm
 obtain ⟨_,⟨rfl,hb5⟩,hc5⟩:=hg.elem hm
 refine xIx Tryz.underlying53 ZbL (h:=yL [_,_] Zru hc5 0 (h:=xAl [_,_] Zdy (h:=fun b6=>xS [_,_] 1 [_,_] ZbL (h:=Zw [_,_] rfl (Zm (Za (xW ZcH (h:=x1 lk9 1 (h:=xR ZsH rfl (Zci _ om2 _) (h:=?_))))))))))
 refine xN (h:=xM (h:=Zt (d:=22) rfl (fun g2=>?_) (fun g2=>?_)))
 try simp only [sQ,ne_eq] at g2
 refine xP (h:=xP (h:=xP (h:=xP (h:=xT (h:=Zd (t:=true) rfl (fun _=>Za (xA (h:=xA (h:=Zg (Zs (ZI (Zs (Z7 (ZI (Zs ?_)))))))))) (fun h=>Bool.noConfusion h))))))
 exact Zim .ret (.inl rfl) [_,_] t2 (Zdt hm hs (by rw [Zck,Zbo g.2.1 m.user];simp [g2];try omega))
 try simp only [sQ,ne_eq] at g2
 refine xW ZcH (h:=x1 lk9 1 (h:=xM (h:=Zn (Zsy rfl rfl rfl rfl (xF (h:=Zd rfl (fun g3=>?_) (fun g3=>?_)))))))
 try simp only [sQ,ne_eq] at g3
 refine Za (xA (h:=xA (h:=Zg (Zs (ZI (Zs (Z7 (ZI (Zs ?_)))))))))
 exact Zim .ret (.inl rfl) [_,_] t2 (Zdt hm hs (by rw [Zck,Zbo g.2.1 m.user];simp [g3];try omega))
 try simp only [sQ,ne_eq] at g3
 refine Zi (Zf (Zm (Za (xW Zgt (h:=x1 lk3 1 (h:=Zai (h:=xM (h:=Zt (d:=31) rfl (fun g4=>?_) (fun g4=>?_)))))))))
 try simp only [sQ,ne_eq] at g4
 refine xP (h:=xP (h:=xP (h:=xP (h:=xT (h:=Zd (t:=true) rfl (fun _=>Za (xA (h:=xA (h:=Zg (Zs (ZI (Zs (Z7 (ZI (Zs ?_)))))))))) (fun h=>Bool.noConfusion h))))))
 exact Zim .ret (.inl rfl) [_,_] t2 (Zdt hm hs (by rw [Zck,Zbo g.2.1 m.user];simp [g4];try omega))
 try simp only [sQ,ne_eq] at g4
 refine xW Zgt (h:=x1 lk3 1 (h:=xR Zxo rfl (Zra _ _) (h:=xN (h:=xF (h:=Zd rfl (fun g5=>?_) (fun g5=>?_))))))
 try simp only [sQ,ne_eq] at g5
 refine Za (xA (h:=xA (h:=Zg (Zs (ZI (Zs (Z7 (ZI (Zs ?_)))))))))
 exact Zim .ret (.inl rfl) [_,_] t2 (Zdt hm hs (Bool.eq_false_iff.2 fun hc=>by simp only [Zck,Bool.and_eq_true,decide_eq_true_eq] at hc;simp only [Bool.and_eq_false_iff,decide_eq_false_iff_not] at g5;omega))
 try simp only [sQ,ne_eq] at g5
 refine Zi (Zf (Za (xM (h:=xW ZcH (h:=x1 lk9 1 (h:=xW Zgt (h:=x1 lk3 1 (h:=Zn (ZlJ (k:=m.user) (v:=m.rights) 0 rfl hml rfl rfl Tryz.underlying85 Tryz.underlying9 rfl rfl rfl (fun l9 hl9=>Zw [_,_] rfl (Ze (xW ZcH (h:=x1 lk9 1 (h:=?_))))))))))))))
 refine xA (h:=Zz (Zf (Ze (xD (h:=xM (h:=?_))))))
 exact ZE (g.1+1,m.user,l9) [0] so2 ⟨rfl,so,Zb9 hm hs (by rw [Zck,Zbo g.2.1 m.user,g2,g3];simp at g5 ⊢;omega),oy,by rw [← Ztp hm hs (by rw [Zbo g.2.1 m.user,g3];rfl)];exact hl9⟩ t7 rfl
 try simp only [sQ,ne_eq] at g1
 refine ZY (Zal (Z6 (ZN (Zf (Za (xM (h:=xA (h:=xA (h:=Zg ?_)))))))))
 exact ZtK .ret (.inl rfl) [_,_] rfl t2 (by rw [ZlA (ZdN hs oz)];simp;omega) (by have e:=hml;rw [List.take_of_length_le oz] at e;exact e)

set_option maxHeartbeats 400000 in
theorem ZpO (q:Option Addr) (cp:Nat) (gs:List DGrant) (B:Kn) (hg:SlK B q cp 2 ZG gs):Za1 (pj J) 67 [.slice q gs.length cp] B (.bool (ZbK gs)):=by
 refine Zc 11 Tryz.func67 rfl rfl rfl (Nat.le_of_ble_eq_true rfl) ?_
 refine Za (xA (h:=Za (xM (h:=Zn (Zac rfl rfl Zw2 rfl (Znx _ _ _ _ hg) ?_)))))
 rintro _ B1 _ hle1 ⟨m1,l1,rfl,rfl,rfl,hl1⟩
 refine xM (h:=xE (h:=xE (h:=xA (h:=xA (h:=Zw [_] rfl (Za (xM (h:=xA (h:=Zg ?_)))))))))
 exact ZW .ret (.inl rfl) [_] t1 ⟨rfl,rfl,rfl⟩

set_option maxHeartbeats 400000 in
theorem Zvc (a b:Str) (B:Kn):Za1 (pj J) 103 [str a,str b] B (.int .i64 (Lib.compareBytes a b)):=by
 refine Zc 8 Tryz.func103 rfl rfl rfl (Nat.le_of_ble_eq_true rfl) ?_
 refine Za (xA (h:=Za (xM (h:=xM (h:=Zn (ZvP (fn:=Tryz.f148) rfl rfl Tryz.func148 rfl rfl ZuT ZuU rfl rfl (xA (h:=Zg ?_))))))))
 exact ZW .ret (.inl rfl) [_] t1 ⟨rfl,rfl,rfl⟩

set_option maxHeartbeats 400000 in
theorem ZsK (a b:Str) (B:Kn):Za1 (pj J) 62 [str a,str b] B (.int .i64 (Lib.compareBytes a b)):=by
 refine Zc 8 Tryz.func62 rfl rfl rfl (Nat.le_of_ble_eq_true rfl) ?_
 refine Za (xA (h:=Za (xM (h:=xM (h:=xR ZwM rfl (Zvc a b _) (h:=xA (h:=Zg ?_)))))))
 exact ZW .ret (.inl rfl) [_] t1 ⟨rfl,rfl,rfl⟩

set_option maxHeartbeats 400000 in
theorem Zmt (f:DFolder) (qa qb:Option Addr) (ca cb:Nat) (ow nm:Str) (B:Kn):Za1 (pj J) 29 [.agg #[str f.owner,str f.name,.slice qa f.grants.length ca,.int .i64 f.next,.slice qb f.mail.length cb],str ow,str nm] B (.int .i64 (Zvb f ow nm)):=by
 refine Zc 19 Tryz.func29 rfl rfl rfl (Nat.le_of_ble_eq_true rfl) ?_
 refine Za (xBx [_,_,_,_,_] (h:=fun b1=>xA (h:=Zw [_] rfl (Zm (Za (xW ZcU (h:=x1 lk9 0 (h:=xM (h:=xR Zw1 rfl (ZsK f.owner ow _) (h:=xA (h:=Za (xM (h:=?_)))))))))))))
 refine ZcZ (h:=Zd rfl (fun g1=>?_) (fun g1=>?_))
 try simp only [sQ,ne_eq] at g1
 refine Za (xM (h:=xA (h:=Zg (Zs ?_))))
 exact ZW .ret (.inl rfl) [_] t1 ⟨ZaA (by rw [Zvb,if_pos g1]),rfl,rfl⟩
 try simp only [sQ,ne_eq] at g1
 refine Zi (Zf (Za (xW Zfb (h:=x1 lk9 0 (h:=xM (h:=xR Zw1 rfl (ZsK f.name nm _) (h:=xA (h:=Zg ?_))))))))
 exact ZW .ret (.inl rfl) [_] t1 ⟨ZaA (by rw [Zvb,if_neg (fun h=>h g1)]),rfl,rfl⟩

set_option maxHeartbeats 400000 in
theorem Zus (b o:Nat) (q1 q2 q3:Option Addr) (c1 c2 c3:Nat) (x:DHost) (u:Str) (B:Kn) (hh:Za9 B b o [str x.domain,.slice q1 x.users.length c1,.slice q2 x.folders.length c2,.int .i64 x.queue.next,.slice q3 x.queue.items.length c3]) (hf:SlK B q2 c2 5 Zb x.folders):Za1 (pj J) 125 [ptr ⟨b,o,none⟩,str u] B (.int .i64 (Zfm x.folders u)):=by
 refine Zc 28 Tryz.func125 rfl rfl rfl (Nat.le_of_ble_eq_true rfl) ?_
 have hfn:=hf.len
 refine Za (xA (h:=Za (xA (h:=Zm (Za (xM (h:=xNc (h:=xW Z0 (h:=Zn (Zl rfl rfl Zcy rfl (hh _ 2 _ rfl) (xV Tryz.underlying24 (h:=xM (h:=Zr ?_)))))))))))))
 refine ZU (α:=Nat × Int) [0,1,4,11,12] (fun g=>[(5,.int .i64 g.2),(13,.int .i64 g.1)]) [] (fun g=>[]) (fun g Bx=>Bx=B∧g.1≤x.folders.length∧g.2=Zfm (x.folders.take g.1) u∧-1*g.1≤g.2∧g.2≤g.1*200) (fun g=>x.folders.length - g.1) (0,0) t2 rfl (⟨rfl,Nat.zero_le _,by simp [Zfm],by simp,by simp⟩) (fun g B1 hle1 hI=>?_)
 obtain ⟨rfl,hk,hs,hl0,hl1⟩:=hI
 refine ZQ [(0,_),(1,_),(4,_),(5,_),(11,_),(12,_),(13,_)] [] t7 rfl (Za (Zai (h:=Zm (Zd rfl (fun g1=>?_) (fun g1=>?_)))))
 try simp only [sQ,ne_eq] at g1
 refine Zi (Zf (Zm (Zr (Za ?_))))
 obtain ⟨m,hm⟩:=Zax (xs:=x.folders) (i:=g.1) om
 obtain ⟨bb3,oo3,rfl⟩:=hf.base hm
 obtain ⟨_,⟨qg4,cg4,qm4,cm4,rfl,hg4,hm4,hb4,hb4b⟩,hc4⟩:=hf.elem hm
 have hg4n:=hg4.len
 have hm4n:=hm4.len
 have hm4s:=Z4 hm4
 refine xIx Tryz.underlying24 Zbj (h:=yL [_,_,_,_,_] ZgQ hc4 0 (h:=xAl [_,_,_,_,_] Zdx (h:=fun b5=>xS [_,_,_,_,_] 0 [_,_,_,_,_] Zbj (h:=Zw [_] rfl (Za (xW ZcU (h:=x1 lk9 0 (h:=xM (h:=ZdT (h:=Zd rfl (fun g2=>?_) (fun g2=>?_)))))))))))
 try simp only [sQ,ne_eq] at g2
 have hbs:=Zjx (⟨m.next,m.mail⟩:DBox)
 refine Ze (xM (h:=xW Zcm (h:=xL [_,_] ZbN 0 (h:=xR Zwp rfl (ZqA _ _ (⟨m.next,m.mail⟩:DBox) _ hm4) (h:=xD (h:=xA (h:=Zz (Zf (Ze (xD (h:=xM (h:=?_))))))))))))
 exact ZE (g.1+1,g.2+ZdR ⟨m.next,m.mail⟩) [] so2 ⟨rfl,so,by rw [ZiZ hm,← hs,if_pos g2],so,so⟩ t7 rfl
 try simp only [sQ,ne_eq] at g2
 refine Zi (Zz (Zf (Ze (xD (h:=xM (h:=?_))))))
 exact ZE (g.1+1,g.2) [] so2 ⟨rfl,so,by rw [ZiZ hm,← hs,if_neg g2,Int.add_zero],so,so⟩ t7 rfl
 try simp only [sQ,ne_eq] at g1
 refine ZY (Zal (Z6 (ZN (Zf (Za (xM (h:=xA (h:=Zg ?_))))))))
 exact ZW .ret (.inl rfl) [_] t1 ⟨ZaA (by rw [← Zo1 hs oz]),rfl,rfl⟩

set_option maxHeartbeats 400000 in
theorem Zqg (b o:Nat) (q1 q2 q3:Option Addr) (c1 c2 c3:Nat) (x:DHost) (u:Str) (more:Int) (hn:u.length≤2000000) (hm0:0≤more) (hm1:more≤2000000) (B:Kn) (hh:Za9 B b o [str x.domain,.slice q1 x.users.length c1,.slice q2 x.folders.length c2,.int .i64 x.queue.next,.slice q3 x.queue.items.length c3]) (hu:SlK B q1 c1 3 Zh x.users) (hf:SlK B q2 c2 5 Zb x.folders):Za1 (pj J) 71 [ptr ⟨b,o,none⟩,str u,.int .i64 more] B (.bool (Zei x u more)):=by
 refine Zc 30 Tryz.func71 rfl rfl rfl (Nat.le_of_ble_eq_true rfl) ?_
 have hfn:=hf.len
 have hub:=Zq3 x.folders u
 refine Za (xA (h:=Za (xM (h:=xNc (h:=xW Zcn (h:=Zn (Zl rfl rfl ZjQ rfl (hh _ 1 _ rfl) (xM (h:=xR Zu9 rfl (Zhw _ _ _ u om2 _ hu) (h:=?_))))))))))
 refine xM (h:=xE (h:=xE (h:=xAl [_,_,_] Zge (h:=fun b2=>xS [_,_,_] 0 [_,_,_] ZeY (h:=xA (h:=Zw [_] rfl (Zm (Z9 (same _ _) mo kr ⟨rfl,rfl⟩ (fun _ _=>?_)))))))))
 refine aM 0 rfl (h:=aN 1 rfl (h:=aM 2 rfl (h:=ZaE (d:=20) rfl (fun g1=>?_) (fun g1=>?_))))
 try simp only [sQ,ne_eq] at g1
 refine aZ 3 rfl (h:=aZ 4 rfl (h:=aZ 5 rfl (h:=aZ 6 rfl (h:=aZ 7 rfl (h:=aZ 8 rfl (h:=aZ 9 rfl (h:=aZ 10 rfl (h:=aPT 11 rfl (h:=aA 12 rfl (h:=ZD kr kr ?_))))))))))
 refine Zf (Zg ?_)
 exact ZW .ret (.inl rfl) [_] t1 ⟨Zp (by rw [Zei,g1];rfl),rfl,rfl⟩
 try simp only [sQ,ne_eq] at g1
 refine aM 3 rfl (h:=aM 4 rfl (h:=aT 5 rfl (Zan fun D=>ZaR rfl rfl ZwJ rfl (Zus _ _ _ _ _ _ _ _ x u _ hh hf) r4) (h:=aM 6 rfl (h:=aD 7 rfl (h:=aW 8 rfl Zie (h:=aT 9 rfl (Zan fun D=>Zl rfl rfl lk3 rfl (atL 0 rfl rfl rfl) r4) (h:=ZmG 10 rfl (h:=aPF 11 rfl (h:=aA 12 rfl (h:=ZD kr kr ?_))))))))))
 refine Zf (Zg ?_)
 exact ZW .ret (.inl rfl) [_] t1 ⟨Zp (by rw [Zei,g1];rfl),rfl,rfl⟩

set_option maxHeartbeats 400000 in
theorem ZnA (b o:Nat) (q1 q2 q3:Option Addr) (c1 c2 c3:Nat) (x:DHost) (B:Kn) (hh:Za9 B b o [str x.domain,.slice q1 x.users.length c1,.slice q2 x.folders.length c2,.int .i64 x.queue.next,.slice q3 x.queue.items.length c3]) (hu:SlK B q1 c1 3 Zh x.users) (hf:SlK B q2 c2 5 Zb x.folders):Za1 (pj J) 31 [ptr ⟨b,o,none⟩] B (.bool (Zhv x)):=by
 refine Zc 26 Tryz.func31 rfl rfl rfl (Nat.le_of_ble_eq_true rfl) ?_
 have hfn:=hf.len
 have hun:=hu.len
 refine Za (xA (h:=Zm (Za (xM (h:=xNc (h:=xW Zcn (h:=Zn (Zl rfl rfl ZjQ rfl (hh _ 1 _ rfl) (xV Tryz.underlying23 (h:=xM (h:=Zr (ZU (α:=Nat) [0,8,9] (fun k=>[(10,.int .i64 k)]) [] (fun k=>[]) (fun k Bx=>Bx=B∧k≤x.users.length∧∀z,z∈x.users.take k→ZcK x z=true) (fun k=>x.users.length - k) 0 t1 rfl (⟨rfl,Nat.zero_le _,by simp⟩) (fun k B1 hle1 hI=>?_)))))))))))))
 obtain ⟨rfl,hk,ha⟩:=hI
 refine ZQ [(0,_),(8,_),(9,_),(10,_)] [] t4 rfl (Za (Zai (h:=Zm (Zd rfl (fun g1=>?_) (fun g1=>?_)))))
 try simp only [sQ,ne_eq] at g1
 refine Zi (Zf (Zm (Zr (Za ?_))))
 obtain ⟨w,hw⟩:=Zax (xs:=x.users) (i:=k) om
 obtain ⟨bb3,oo3,rfl⟩:=hu.base hw
 obtain ⟨_,⟨rfl,hb4,hb4b⟩,hc4⟩:=hu.elem hw
 refine xIx Tryz.underlying23 ZeY (h:=yL [_,_,_] ZoI hc4 0 (h:=xAl [_,_,_] Zge (h:=fun b5=>xS [_,_,_] 0 [_,_,_] ZeY (h:=Zw [_] rfl (Za (xM (h:=xW Zc2 (h:=x1 lk9 0 (h:=xR Zwf rfl (Zqc _ _ _ _ _ _ _ _ x w.name [105,110,98,111,120] om2 om2 _ hh hf) (h:=?_))))))))))
 refine Zai (h:=xM (h:=Zt (d:=19) rfl (fun g2=>?_) (fun g2=>?_)))
 try simp only [sQ,ne_eq] at g2
 refine xP (h:=xP (h:=xP (h:=xP (h:=xT (h:=Zd (t:=true) rfl (fun _=>Za (xA (h:=Zg (ZI (Zs (Z7 (ZI (Zs ?_)))))))) (fun h=>Bool.noConfusion h))))))
 exact ZW .ret (.inl rfl) [_] t1 ⟨Zp (ZcN hw (Zkx g2)).symm,rfl,rfl⟩
 try simp only [sQ,ne_eq] at g2
 refine xM (h:=xW Zc2 (h:=x1 lk9 0 (h:=xR Zxw rfl (Zqg _ _ _ _ _ _ _ _ x w.name 0 om2 om2 om2 _ hh hu hf) (h:=?_))))
 refine xF (h:=Zd rfl (fun g3=>?_) (fun g3=>?_))
 try simp only [sQ,ne_eq] at g3
 refine Za (xA (h:=Zg (ZI (Zs (Z7 (ZI (Zs ?_)))))))
 exact ZW .ret (.inl rfl) [_] t1 ⟨Zp (ZcN hw (Zkw g3)).symm,rfl,rfl⟩
 try simp only [sQ,ne_eq] at g3
 refine Zi (Zz (Zf (Ze (xD (h:=xM (h:=?_))))))
 exact ZE (k+1) [] so2 ⟨rfl,oz,Zbl hw ha (Zkv g2 g3)⟩ t4 rfl
 try simp only [sQ,ne_eq] at g1
 refine ZY (Zal (Z6 (ZN (Zf (Za (xA (h:=Zg ?_)))))))
 exact ZW .ret (.inl rfl) [_] t1 ⟨Zp (Zek (ZbD oz ha)).symm,rfl,rfl⟩

set_option maxHeartbeats 400000 in
theorem ZrG (q:Option Addr) (cp:Nat) (bs:List Bool) (v:Bool) (B:Kn) (hb:SlK B q cp 1 ZmI bs):Za1 (pj J) 124 [.slice q bs.length cp,.bool v] B (.int .i64 (ZaD (fun y=>decide (v=y)) bs)):=by
 refine Zc 19 Tryz.func124 rfl rfl rfl (Nat.le_of_ble_eq_true rfl) ?_
 have hbn:=hb.len
 refine Za (xA (h:=Zm (Za (xM (h:=xV Tryz.underlying110 (h:=xM (h:=Zr (ZU (α:=Nat) [0,1,7] (fun k=>[(8,.int .i64 k)]) [] (fun k=>[]) (fun k Bx=>Bx=B∧k≤bs.length∧∀y,y∈bs.take k→decide (v=y)=false) (fun k=>bs.length - k) 0 t1 rfl (⟨rfl,Nat.zero_le _,by simp⟩) (fun k B1 hle1 hI=>?_)))))))))
 obtain ⟨rfl,hk,ha⟩:=hI
 refine ZQ [(0,_),(1,_),(7,_),(8,_)] [] t4 rfl (Za (Zai (h:=Zm (Zd rfl (fun g1=>?_) (fun g1=>?_)))))
 try simp only [sQ,ne_eq] at g1
 refine Zi (Zf (Zm (Zr (Za (xM (h:=xA (h:=Za (xM (h:=xM (h:=xM (h:=?_)))))))))))
 obtain ⟨y,hy⟩:=Zax (xs:=bs) (i:=k) om
 obtain ⟨bb3,oo3,rfl⟩:=hb.base hy
 obtain ⟨_,rfl,hc4⟩:=hb.elem hy
 refine xIx Tryz.underlying110 sz4 (h:=y1 lk4 hc4 0 (h:=Zn (Zup rfl rfl rfl rfl rfl (Zu0 Tryz.underlying4) (Zd rfl (fun g2=>?_) (fun g2=>?_)))))
 try simp only [sQ,ne_eq] at g2
 refine Za (xM (h:=xA (h:=Zg (ZI (Zs (Z7 (ZI (Zs ?_))))))))
 exact ZW .ret (.inl rfl) [_] t1 ⟨ZaA (Zhf hy (decide_eq_true g2) ha).symm,rfl,rfl⟩
 try simp only [sQ,ne_eq] at g2
 refine Zi (Zz (Zf (Ze (xD (h:=xM (h:=?_))))))
 exact ZE (k+1) [] so2 ⟨rfl,oz,Zbl hy ha (decide_eq_false g2)⟩ t4 rfl
 try simp only [sQ,ne_eq] at g1
 refine ZY (Zal (Z6 (ZN (Zf (Za (xA (h:=Zg ?_)))))))
 exact ZW .ret (.inl rfl) [_] t1 ⟨ZaA (ZeJ (ZbD oz ha)).symm,rfl,rfl⟩

set_option maxHeartbeats 400000 in
theorem ZmA (q:Option Addr) (cp:Nat) (bs:List Bool) (v:Bool) (B:Kn) (hb:SlK B q cp 1 ZmI bs):Za1 (pj J) 70 [.slice q bs.length cp,.bool v] B (.bool (decide (0≤ZaD (fun y=>decide (v=y)) bs))):=by
 refine Zc 9 Tryz.func70 rfl rfl rfl (Nat.le_of_ble_eq_true rfl) ?_
 refine Za (xA (h:=Za (xM (h:=xM (h:=xR ZwK rfl (ZrG _ _ _ _ _ hb) (h:=ZdS (h:=xA (h:=Zg ?_))))))))
 exact ZW .ret (.inl rfl) [_] t1 ⟨rfl,rfl,rfl⟩

set_option maxHeartbeats 400000 in
theorem Zk6 (l:Str) (hl:l.length≤2000000) (B:Kn):Za1 (pj J) 26 [str l] B (.bool (Zcb l)):=by
 refine Zc 16 Tryz.func26 rfl rfl rfl (Nat.le_of_ble_eq_true rfl) ?_
 refine Za (xA (h:=Za (xM (h:=xB [(0,_)] [_,_] [_,_] ZuH ZqW (h:=xAl [_,_] ZqW (h:=fun b1=>xS [_,_] 0 [_,_] Zuz (h:=Zw [_] rfl (Za (Zn (ZiV 0 rfl rfl rfl ZxE rfl (Zr3 _ _ 0 oz oz _) ?_))))))))))
 refine xM (h:=xE (h:=xE (h:=xA (h:=xA (h:=Za (xM (h:=xM (h:=Zt (d:=13) rfl (fun g1=>?_) (fun g1=>?_)))))))))
 try simp only [sQ,ne_eq] at g1
 refine Zn (Zhr 0 rfl rfl rfl Zvz rfl (Znq _ _ (dom l 0).2 (Zva (Nat.zero_le _)) oz _) ?_)
 refine xT (h:=xA (h:=Zg ?_))
 exact ZW .ret (.inl rfl) [_] t1 ⟨Zp (by rw [Bool.eq_iff_iff,← Zll];simp [Zmx] at g1;simp [g1];try omega),rfl,rfl⟩
 try simp only [sQ,ne_eq] at g1
 refine xP (h:=xF (h:=xA (h:=Zg ?_)))
 exact ZW .ret (.inl rfl) [_] t1 ⟨Zp (by symm;rw [Bool.eq_false_iff,ne_eq,← Zll];intro hc;simp [Zmx,hc.1] at g1;omega),rfl,rfl⟩

set_option maxHeartbeats 800000 in
theorem Zj2 (Wg C n i b o b1 b3 b5 b6:Nat) (q1 q2 q3:Option Addr) (c1 c2 c3:Nat) (x:DHost) (m:DFolder) (qg qm:Option Addr) (cg cm:Nat) (hin:i<n) (B:Kn) (hc900:Za9 B b o [str x.domain,.slice q1 x.users.length c1,.slice q2 x.folders.length c2,.int .i64 x.queue.next,.slice q3 x.queue.items.length c3]) (hu:SlK B q1 c1 3 Zh x.users) (hc901:Za9 B b1 0 [ptr ⟨b,o,none⟩]) (hc903:Za9 B b3 0 [.slice (some ⟨C,0,none⟩) n n]) (hc905:Za9 B b5 0 [.int .i64 i]) (hc906:Za9 B b6 0 [str m.owner,str m.name,.slice qg m.grants.length cg,.int .i64 m.next,.slice qm m.mail.length cm]) (hg:SlK B qg cg 2 ZG m.grants) (hm:SlK B qm cm 3 ZJ m.mail) (ho:m.owner.length≤2000000) (hnm:m.name.length≤2000000):@Zem ⟨4⟩ Tryz.prog wgL.tWg Wg C n i (.bool (ZaX x.users m)) (Go.Conc.G (Frame.enter Tryz.prog 64 #[ptr ⟨Wg,0,none⟩,ptr ⟨b1,0,none⟩,ptr ⟨b6,0,none⟩,ptr ⟨b3,0,none⟩,ptr ⟨b5,0,none⟩] .deferred) [ZfG Tryz.prog]) B []:=by
 letI:Go.ConcR.Payload:=⟨4⟩
 refine ZsS (Lk:=wgL) (P:=Tryz.prog) (caps:=[ptr ⟨Wg,0,none⟩,ptr ⟨b1,0,none⟩,ptr ⟨b6,0,none⟩,ptr ⟨b3,0,none⟩,ptr ⟨b5,0,none⟩]) (nt:=27) (I:=keeps B [] []) (K:=fun _ _ _ _=>False) ZlI Tryz.func64 rfl rfl (Nat.le_of_ble_eq_true rfl) rfl mo kr ⟨Kn.le.refl _,Zar.refl _ _⟩ (fun _ _ _ _ h=>h) ?_
 refine aT 0 rfl (ZK fun D B L hI=>Zl rfl rfl ZuM rfl ((hc903.mono hI.1) _ 0 _ rfl) r4) (h:=aT 1 rfl (ZK fun D B L hI=>Zl rfl rfl lk3 rfl ((hc905.mono hI.1) _ 0 _ rfl) r4) (h:=aT 2 rfl (ZK fun D B L hI=>Zl rfl rfl Zv3 rfl ((hc901.mono hI.1) _ 0 _ rfl) r4) (h:=aW 3 rfl ZcU (h:=aT 4 rfl (ZK fun D B L hI=>Zl rfl rfl lk9 rfl ((hc906.mono hI.1) _ 0 _ rfl) r4) (h:=aT 5 rfl (ZK fun D B L hI=>ZaR rfl rfl Zvy rfl (Zhe _ _ _ _ _ _ _ _ x m.owner om2 _ (hc900.mono hI.1) (hu.mono Zh.mono hI.1)) r4) (h:=?_))))))
 refine aM 6 rfl (h:=ZaE (d:=11) rfl (fun g1=>?_) (fun g1=>?_))
 try simp only [sQ,ne_eq] at g1
 refine aW 7 rfl Zfb (h:=aT 8 rfl (ZK fun D B L hI=>Zl rfl rfl lk9 rfl ((hc906.mono hI.1) _ 1 _ rfl) r4) (h:=aT 9 rfl (ZK fun D B L hI=>ZaR rfl rfl ZsH rfl (Zci _ om2 _) r4) (h:=?_)))
 refine aPT 10 rfl (h:=aM 11 rfl (h:=ZaE (d:=16) rfl (fun g2=>?_) (fun g2=>?_)))
 try simp only [sQ,ne_eq] at g2
 refine aW 12 rfl ZdI (h:=aT 13 rfl (ZK fun D B L hI=>Zl rfl rfl Zrt rfl ((hc906.mono hI.1) _ 2 _ rfl) r4) (h:=aT 14 rfl (ZK fun D B L hI=>ZaR rfl rfl Zxz rfl (ZpO _ _ _ _ (hg.mono ZG.mono hI.1)) r4) (h:=aPT 15 rfl (h:=aM 16 rfl (h:=ZaE (d:=21) rfl (fun g3=>?_) (fun g3=>?_))))))
 try simp only [sQ,ne_eq] at g3
 refine aW 17 rfl Zcm (h:=aT 18 rfl (ZK fun D B L hI=>Zag [_,_] rfl rfl ZbN rfl (Zl1 (hc906.mono hI.1) 3 rfl rfl) r4) (h:=aT 19 rfl (ZK fun D B L hI=>ZaR rfl rfl Zw0 rfl (Zk7 _ _ (⟨m.next,m.mail⟩:DBox) _ (hm.mono ZJ.mono hI.1)) r4) (h:=aPT 20 rfl (h:=aT 21 rfl (ZK fun D B L hI=>Za2 rfl rfl Tryz.underlying110 sz4 rfl rfl oz oz r4) (h:=?_)))))
 refine Zhk 22 kr rfl kr kr kr (fun T hn hT=>?_)
 refine ZfK (L:=[]) hT ZlI (by simp [ZaX,DFolder.box,g1,g2,g3]) rfl hin rfl Tryz.sizeOf4 (Zc4 sz4) (by exact Zg9 C i) rfl kr Tryz.func64 rfl
 try simp only [sQ,ne_eq] at g3
 refine aZ 17 rfl (h:=aZ 18 rfl (h:=aZ 19 rfl (h:=aPF 20 rfl (h:=aT 21 rfl (ZK fun D B L hI=>Za2 rfl rfl Tryz.underlying110 sz4 rfl rfl oz oz r4) (h:=?_)))))
 refine Zhk 22 kr rfl kr kr kr (fun T hn hT=>?_)
 refine ZfK (L:=[]) hT ZlI (by simp [ZaX,DFolder.box,g1,g2,g3]) rfl hin rfl Tryz.sizeOf4 (Zc4 sz4) (by exact Zg9 C i) rfl kr Tryz.func64 rfl
 try simp only [sQ,ne_eq] at g2
 refine aZ 12 rfl (h:=aZ 13 rfl (h:=aZ 14 rfl (h:=aPF 15 rfl (h:=aM 16 rfl (h:=aZ 17 rfl (h:=aZ 18 rfl (h:=aZ 19 rfl (h:=aPF 20 rfl (h:=aT 21 rfl (ZK fun D B L hI=>Za2 rfl rfl Tryz.underlying110 sz4 rfl rfl oz oz r4) (h:=?_))))))))))
 refine Zhk 22 kr rfl kr kr kr (fun T hn hT=>?_)
 refine ZfK (L:=[]) hT ZlI (by simp [ZaX,DFolder.box,g1,g2]) rfl hin rfl Tryz.sizeOf4 (Zc4 sz4) (by exact Zg9 C i) rfl kr Tryz.func64 rfl
 try simp only [sQ,ne_eq] at g1
 refine aZ 7 rfl (h:=aZ 8 rfl (h:=aZ 9 rfl (h:=aPF 10 rfl (h:=aM 11 rfl (h:=aZ 12 rfl (h:=aZ 13 rfl (h:=aZ 14 rfl (h:=aPF 15 rfl (h:=aM 16 rfl (h:=aZ 17 rfl (h:=aZ 18 rfl (h:=aZ 19 rfl (h:=?_)))))))))))))
 refine aPF 20 rfl (h:=aT 21 rfl (ZK fun D B L hI=>Za2 rfl rfl Tryz.underlying110 sz4 rfl rfl oz oz r4) (h:=?_))
 refine Zhk 22 kr rfl kr kr kr (fun T hn hT=>?_)
 refine ZfK (L:=[]) hT ZlI (by simp [ZaX,DFolder.box,g1]) rfl hin rfl Tryz.sizeOf4 (Zc4 sz4) (by exact Zg9 C i) rfl kr Tryz.func64 rfl

set_option maxHeartbeats 1600000 in
theorem ZiM (hJ:Joins Tryz.prog J) (b o:Nat) (q1 q2 q3:Option Addr) (c1 c2 c3:Nat) (x:DHost) (B:Kn) (hc900:Za9 B b o [str x.domain,.slice q1 x.users.length c1,.slice q2 x.folders.length c2,.int .i64 x.queue.next,.slice q3 x.queue.items.length c3]) (hu:SlK B q1 c1 3 Zh x.users) (hf:SlK B q2 c2 5 Zb x.folders):ZM (pj J) 30 [ptr ⟨b,o,none⟩] B [] (fun v B' Ls=>Ls=[]∧v = .bool (x.folders.all (ZaX x.users))):=by
 have hfn:=hf.len
 letI:Go.ConcR.Payload:=⟨4⟩
 refine Zr8 30 Tryz.func30 rfl rfl (Nat.le_of_ble_eq_true rfl) fun X kind c cs F T0 hk hke hA hn0 hT0=>?_
 let C0:Cx (pj J):=⟨X,fb 30 kind,c :: cs,F,hke⟩
 refine ZeP (C:=C0) (L:=[]) (Zjv (C:=C0) (L:=[]) hn0 hT0 (xBx [_] (h:=fun b1=>xA (h:=?_))))
 intro T1 hn1 hT1
 refine Zlm (C:=C0) rfl 0 rfl fun B1 hle1 hm1=>?_
 have hc901:=Zdk hm1
 replace hc900:=hc900.mono hle1
 replace hu:=hu.mono Zh.mono hle1
 replace hf:=hf.mono Zb.mono hle1
 replace hA:=fun v B' Ls' h=>hA v B' Ls' (hle1.trans h)
 refine ZeP (C:=C0) (L:=[[]]) (Zjv (C:=C0) (L:=[[]]) hn1 hT1 (y1 Zv3 hc901 0 (h:=xNc (h:=xW Z0 (h:=y1 Zcy hc900 2 (h:=xV Tryz.underlying24 (h:=Zn (ZlK (m:=x.folders.length) (c:=x.folders.length) (by_:=1) [.bool false] rfl rfl Zwa zo4 rfl rfl ⟨_,_,rfl,rfl⟩ ⟨_,_,rfl,rfl⟩ (Nat.le_refl _) oz (fun Cb=>?_)))))))))
 refine xAl [_] ZvI (h:=fun b2=>xS [_] 2 [_] ZvW (h:=?_))
 intro T2 hn2 hT2
 refine Zlm (C:=C0) rfl 2 rfl fun B2 hle2 hm2=>?_
 have hc903:=Zdk hm2
 replace hc900:=hc900.mono hle2
 replace hu:=hu.mono Zh.mono hle2
 replace hf:=hf.mono Zb.mono hle2
 replace hc901:=hc901.mono hle2
 replace hA:=fun v B' Ls' h=>hA v B' Ls' (hle2.trans h)
 refine ZeP (C:=C0) (L:=[[],ZaY Cb (zrow [.bool false] x.folders.length) 4,[]]) (Zf8 (C:=C0) (L:=[[],ZaY Cb (zrow [.bool false] x.folders.length) 4,[]]) (Zrj (C:=Cb) (n:=x.folders.length) (val:=ZqT x) (L₁:=F) (cells:=(zrow [.bool false] x.folders.length).toArray) (i:=0) (todo:=[]) hJ rfl hke ZvH rfl oz (by simp [ZjA]) (.refl _) (fun hmain Wg hW1 hW2=>?_)))
 let C1:Cx (.lone Tryz.prog):=⟨phL Tryz.prog 120 Wg Cb x.folders.length (ZqT x) X.R .a5 (0),fb 30 kind,c :: cs,F,hke⟩
 have hT3:=hT2.putT (n:=30) (dst:=some 4) hn2 rfl (ptr ⟨Wg,0,none⟩)
 have hn3:(putT T2 (some 4) (ptr ⟨Wg,0,none⟩)).size=30:=by rw [Zbv,hn2]
 refine Zc9 (C:=C1) (L:=[]) (ZeP (C:=C1) (L:=[]) (ZeP (C:=C1) (L:=[]) (Zjv (C:=C1) (L:=[]) hn3 hT3 (y1 Zv3 hc901 0 (h:=xNc (h:=xW Z0 (h:=y1 Zcy hc900 2 (h:=xV Tryz.underlying24 (h:=xM (h:=?_))))))))))
 intro T4 hn4 hT4
 refine Znr (C:=C1) (L:=[]) (Zta (nt:=30) (fun j=>[(1,ptr ⟨b1,0,none⟩),(3,ptr ⟨b2,0,none⟩),(4,ptr ⟨Wg,0,none⟩),(16,.slice q2 x.folders.length c2),(17,.int .i64 x.folders.length),(18,.int .i64 ((j:Nat):Int))]) (fun j hj B3 T5 hle3 hn5 hT5 hnext=>?_) hn4 (hT4.sub' t6))
 replace hc900:=hc900.mono hle3
 replace hu:=hu.mono Zh.mono hle3
 replace hf:=hf.mono Zb.mono hle3
 replace hc901:=hc901.mono hle3
 replace hc903:=hc903.mono hle3
 replace hA:=fun v B' Ls' h=>hA v B' Ls' (hle3.trans h)
 let C2:Cx (.lone Tryz.prog):=⟨phL Tryz.prog 120 Wg Cb x.folders.length (ZqT x) X.R .a5 (j),fb 30 kind,c :: cs,F,hke⟩
 refine ZeP (C:=C2) (L:=[]) (Zjv (C:=C2) (L:=[]) hn5 hT5 (Zai (h:=?_)))
 intro T6 hn6 hT6
 refine ZeP (C:=C2) (L:=[]) ?_
 rcases Nat.lt_or_ge j x.folders.length with hlt | hge
 refine Zqu (C:=C2) (L:=[]) (t:=true) (by exact congrArg (fun t=>some (Value.bool t)) (decide_eq_true oz)) hT6 ?_
 refine ZtT (C:=C2) (L:=[]) (ZeP (C:=C2) (L:=[]) (Znr (C:=C2) (L:=[]) (ZeP (C:=C2) (L:=[]) (Zjv (C:=C2) (L:=[]) hn6 hT6 (xM (h:=?_))))))
 obtain ⟨m,hm⟩:=Zax (xs:=x.folders) (i:=j) om
 obtain ⟨bb4,oo4,rfl⟩:=hf.base hm
 obtain ⟨_,⟨qg5,cg5,qm5,cm5,rfl,hg5,hm5,hb5,hb5b⟩,hc5⟩:=hf.elem hm
 have hg5n:=hg5.len
 have hm5n:=hm5.len
 have hm5s:=Z4 hm5
 refine xIx Tryz.underlying24 Zbj (h:=yL [_,_,_,_,_] ZgQ hc5 0 (h:=xAl [_] zo3 (h:=fun b6=>xAl [_,_,_,_,_] Zdx (h:=fun b7=>xS [_] 0 [_] sz3 (h:=xS [_,_,_,_,_] 1 [_,_,_,_,_] Zbj (h:=?_))))))
 intro T7 hn7 hT7
 refine Zlm (C:=C2) rfl 0 rfl fun B4 hle4 hpm4=>?_
 have hc905:=Zdk hpm4
 refine Zlm (C:=C2) rfl 1 rfl fun B5 hle5 hpm5=>?_
 have hc906:=Zdk hpm5
 replace hc905:=hc905.mono hle5
 replace hc900:=hc900.mono (hle4.trans hle5)
 replace hu:=hu.mono Zh.mono (hle4.trans hle5)
 replace hf:=hf.mono Zb.mono (hle4.trans hle5)
 replace hc901:=hc901.mono (hle4.trans hle5)
 replace hc903:=hc903.mono (hle4.trans hle5)
 replace hg5:=hg5.mono ZG.mono (hle4.trans hle5)
 replace hm5:=hm5.mono ZJ.mono (hle4.trans hle5)
 refine ZeP (C:=C2) (L:=[[],[]]) (Zf8 (C:=C2) (L:=[[],[]]) (ZuI (Lk:=wgL) (i:=0) (todo:=[]) ZlI hlt rfl ZxA rfl rfl hT7 hke ?_))
 let C3:Cx (.lone Tryz.prog):=⟨phL Tryz.prog 120 Wg Cb x.folders.length (ZqT x) X.R .a2 (j),fb 30 kind,c :: cs,F,hke⟩
 have hT8:=hT7.putT (n:=30) (dst:=(some 23)) hn7 rfl (.tuple #[])
 have hn8:(putT T7 (some 23) (.tuple #[])).size=30:=by rw [Zbv,hn7]
 refine Zc9 (C:=C3) (L:=[]) (Zf8 (C:=C3) (L:=[]) (ZwQ (C:=C3) (L:=[]) (i:=0) (todo:=[1]) rfl hn8 hT8 (Zn (Zgg (xs:=[]) (ys:=[.tmp 4,.tmp 1,.tmp 6,.tmp 3,.tmp 5]) rfl rfl rfl rfl ?_))))
 intro T9 hn9 hT9
 refine Zv0 (i:=1) (todo:=[]) rfl rfl hT9 hke Tryz.func64 rfl rfl (by rw [ZmR hm];exact Zj2 Wg Cb x.folders.length j b o b1 b2 b6 b7 _ _ _ _ _ _ x m _ _ _ _ hlt B5 hc900 hu hc901 hc903 hc905 hc906 hg5 hm5 hb5 hb5b) ?_
 let C4:Cx (.lone Tryz.prog):=⟨phL Tryz.prog 120 Wg Cb x.folders.length (ZqT x) X.R .a5 (j+1),fb 30 kind,c :: cs,F,hke⟩
 refine Zc9 (C:=C4) (L:=[]) (Zov (C:=C4) (L:=[]) ?_)
 have hn10:=hn9
 have hT10:=hT9
 refine Zjv (C:=C4) (L:=[]) hn10 hT10 (xD (h:=xM (h:=?_)))
 intro T11 hn11 hT11
 exact hnext hlt _ _ (hle4.trans hle5) hn11 (hT11.sub' t6)
 obtain rfl:j=x.folders.length:=by omega
 refine Zqu (C:=C2) (L:=[]) (t:=false) (by exact congrArg (fun t=>some (Value.bool t)) (decide_eq_false oz)) hT6 ?_
 refine ZtU (C:=C2) (L:=[]) (by rfl) ?_
 refine ZeP (C:=C2) (L:=[]) (Zf8 (C:=C2) (L:=[]) (Zs9 (Lk:=wgL) (X:=X) (i:=0) (todo:=[]) ZlI oz rfl Zxy rfl hT6 hke (fun _ _ _ h=>h) ?_))
 have hT7:=hT6.putT (n:=30) (dst:=(some 26)) hn6 rfl (.tuple #[])
 have hn7:(putT T6 (some 26) (.tuple #[])).size=30:=by rw [Zbv,hn6]
 refine Zc9 (C:=C0) (L:=[[(Cb,Obj.cells ((List.range x.folders.length).map (ZqT x)).toArray 4 (0,0))]]) (Zlm (C:=C0) (L:=[[(Cb,Obj.cells ((List.range x.folders.length).map (ZqT x)).toArray 4 (0,0))]]) rfl 0 rfl fun B4 hle4 hm4=>?_)
 have hvb:=ZoZ hm4 hfn
 replace hc900:=hc900.mono hle4
 replace hu:=hu.mono Zh.mono hle4
 replace hf:=hf.mono Zb.mono hle4
 replace hc901:=hc901.mono hle4
 replace hc903:=hc903.mono hle4
 replace hA:=fun v B' Ls' h=>hA v B' Ls' (hle4.trans h)
 refine ZtC Tryz.func30 rfl hk hke hn7 hT7 hA ?_
 rw [show (x.folders.length:Nat)=(x.folders.map (ZaX x.users)).length from (List.length_map ..).symm] at hc903
 refine Za (y1 ZuM hc903 0 (h:=xR Zxx rfl (ZmA _ _ _ _ _ hvb) (h:=xN (h:=xA (h:=Zw [_] rfl (Zg ?_))))))
 exact ZW .ret (.inl rfl) [_] t1 ⟨rfl,congrArg Value.bool Zke⟩

set_option maxHeartbeats 400000 in
theorem Zh0 (hJ:Joins Tryz.prog J) (q1 q2 q3:Option Addr) (c1 c2 c3:Nat) (x:DHost) (hd:x.domain.length≤2000000) (B:Kn) (hu:SlK B q1 c1 3 Zh x.users) (hf:SlK B q2 c2 5 Zb x.folders) (hi:SlK B q3 c3 4 Zj x.queue.items):ZM (pj J) 13 [.agg #[str x.domain,.slice q1 x.users.length c1,.slice q2 x.folders.length c2,.int .i64 x.queue.next,.slice q3 x.queue.items.length c3]] B [] (fun v B' Ls=>Ls=[]∧v = .bool (ZA x)):=by
 refine Zc 63 Tryz.func13 rfl rfl rfl (Nat.le_of_ble_eq_true rfl) ?_
 rw [← Zoh]
 have hfn:=hf.len
 have hun:=hu.len
 have hin:=hi.len
 refine Za (xBx [_,_,_,_,_] (h:=fun b1=>xA (h:=Zw [_] rfl (ZoP 0 rfl (fun B2 hle2 hpm2=>?_)))))
 have hc2:=Zdk hpm2
 replace hu:=hu.mono Zh.mono hle2
 replace hf:=hf.mono Zb.mono hle2
 replace hi:=hi.mono Zj.mono hle2
 refine Zm (Za (xW Znj (h:=y1 lk9 hc2 0 (h:=xR ZxW rfl (Zk6 _ om2 _) (h:=?_)))))
 refine xN (h:=xM (h:=Zt (d:=10) rfl (fun g1=>?_) (fun g1=>?_)))
 try simp only [sQ,ne_eq] at g1
 refine xP (h:=xP (h:=xP (h:=xP (h:=xT (h:=xM (h:=xP (h:=xP (h:=xP (h:=xP (h:=xT (h:=xM (h:=xP (h:=?_)))))))))))))
 refine xP (h:=xP (h:=xP (h:=xT (h:=Zw [_] rfl (Zd (t:=true) rfl (fun _=>Za (xA (h:=Zg (Zs ?_)))) (fun h=>Bool.noConfusion h))))))
 exact ZW .ret (.inl rfl) [_] t1 ⟨rfl,Zp (by simp [Zdm,g1])⟩
 try simp only [sQ,ne_eq] at g1
 refine xW Zcn (h:=y1 ZjQ hc2 1 (h:=xR Zw7 rfl (ZhZ _ _ _ _ hu) (h:=xN (h:=xF (h:=xM (h:=Zt (d:=16) rfl (fun g2=>?_) (fun g2=>?_)))))))
 try simp only [sQ,ne_eq] at g2
 refine xP (h:=xP (h:=xP (h:=xP (h:=xT (h:=xM (h:=xP (h:=xP (h:=xP (h:=xP (h:=xT (h:=Zw [_] rfl (Zd (t:=true) rfl (fun _=>?_) (fun h=>Bool.noConfusion h)))))))))))))
 refine Za (xA (h:=Zg (Zs ?_)))
 exact ZW .ret (.inl rfl) [_] t1 ⟨rfl,Zp (by simp [Zdm,g1,g2])⟩
 try simp only [sQ,ne_eq] at g2
 refine xW ZcA (h:=yL [_,_] Zee hc2 3 (h:=xR ZxV rfl (Zml _ _ x.queue _ hi) (h:=xN (h:=xF (h:=xM (h:=Zt (d:=22) rfl (fun g3=>?_) (fun g3=>?_)))))))
 try simp only [sQ,ne_eq] at g3
 refine xP (h:=xP (h:=xP (h:=xP (h:=xT (h:=Zw [_] rfl (Zd (t:=true) rfl (fun _=>Za (xA (h:=Zg (Zs ?_)))) (fun h=>Bool.noConfusion h)))))))
 exact ZW .ret (.inl rfl) [_] t1 ⟨rfl,Zp (by simp [Zdm,g1,g2,g3])⟩
 try simp only [sQ,ne_eq] at g3
 refine xW Z0 (h:=y1 Zcy hc2 2 (h:=xV Tryz.underlying24 (h:=ZbA (h:=xF (h:=Zw [_] rfl (Zd rfl (fun g4=>?_) (fun g4=>?_)))))))
 try simp only [sQ,ne_eq] at g4
 refine Za (xA (h:=Zg (Zs ?_)))
 exact ZW .ret (.inl rfl) [_] t1 ⟨rfl,Zp (by simp [Zdm];intros;omega)⟩
 try simp only [sQ,ne_eq] at g4
 refine Zi (Zf (Zm (Za (xW Z0 (h:=y1 Zcy hc2 2 (h:=xW Z0 (h:=y1 Zcy hc2 2 (h:=xV Tryz.underlying24 (h:=xU (h:=Zn (ZvO (m:=(x.folders.length - 1)) rfl rfl rfl rfl om ?_)))))))))))
 have hsl:((x.folders.take (x.folders.length - 1)).drop 0).length=x.folders.length - 1:=by simp
 obtain ⟨hq6,q6,cp6,hv6,hr6⟩:=hf.cutE 0 (x.folders.length - 1) om om
 have hr6n:=hr6.len
 refine Zn (ZgH (a:=0) (b:=(x.folders.length - 1)) hv6 om hq6 rfl rfl Tryz.underlying24 Zbj rfl rfl ⟨_,_,rfl,by first | omega | (simp;done) | (simp;omega)⟩ ?_)
 refine xV Tryz.underlying24 (h:=xM (h:=Zr (ZU (α:=Nat) [0,1,27,35,36] (fun k=>[(37,.int .i64 k)]) [] (fun k=>[]) (fun k Bx=>Bx=B2∧k≤x.folders.length - 1∧Zsn x.folders k) (fun k=>x.folders.length - k) 0 t1 rfl (⟨rfl,Nat.zero_le _,ZnV⟩) (fun k B7 hle7 hI=>?_))))
 obtain ⟨rfl,hk,hord⟩:=hI
 refine ZQ [(0,_),(1,_),(27,_),(35,_),(36,_),(37,_)] [_] t6 rfl (Za (Zai (h:=Zm (Zd rfl (fun g5=>?_) (fun g5=>?_)))))
 try simp only [sQ,ne_eq] at g5
 refine Zi (Zf (Zm (Zr (Za (xM (h:=?_))))))
 obtain ⟨fa,hfa⟩:=Zax (xs:=((x.folders.take (x.folders.length - 1)).drop 0)) (i:=k) om
 obtain ⟨bb9,oo9,rfl⟩:=hr6.base hfa
 obtain ⟨_,⟨qg10,cg10,qm10,cm10,rfl,hg10,hm10,hb10,hb10b⟩,hc10⟩:=hr6.elem hfa
 have hg10n:=hg10.len
 have hm10n:=hm10.len
 have hm10s:=Z4 hm10
 refine xIx Tryz.underlying24 Zbj (h:=?_)
 have hfa0:x.folders[k]? = some fa:=by rw [List.drop_zero,List.getElem?_take] at hfa;split at hfa <;> simp_all
 refine yL [_,_,_,_,_] ZgQ hc10 0 (h:=xAl [_,_,_,_,_] Zdx (h:=fun b11=>xA (h:=xS [_,_,_,_,_] 1 [_,_,_,_,_] Zbj (h:=Zw [_,_] rfl (Za (xW Z0 (h:=y1 Zcy hc2 2 (h:=xM (h:=xD (h:=?_))))))))))
 obtain ⟨fb,hfb⟩:=Zax (xs:=x.folders) (i:=(k+1)) om
 obtain ⟨bb13,oo13,rfl⟩:=hf.base hfb
 obtain ⟨_,⟨qg14,cg14,qm14,cm14,rfl,hg14,hm14,hb14,hb14b⟩,hc14⟩:=hf.elem hfb
 have hg14n:=hg14.len
 have hm14n:=hm14.len
 have hm14s:=Z4 hm14
 refine xIx Tryz.underlying24 Zbj (h:=yL [_,_,_,_,_] ZgQ hc14 0 (h:=xAl [_,_,_,_,_] Zdx (h:=fun b15=>xS [_,_,_,_,_] 2 [_,_,_,_,_] Zbj (h:=Zw [_,_,_] rfl (Za (xL [_,_,_,_,_] ZgQ 1 (h:=xW ZcU (h:=x1 lk9 2 (h:=xW Zfb (h:=x1 lk9 2 (h:=xR ZxU rfl (Zmt fa _ _ _ _ fb.owner fb.name _) (h:=ZdS (h:=?_)))))))))))))
 refine Zd rfl (fun g6=>?_) (fun g6=>?_)
 try simp only [sQ,ne_eq] at g6
 refine Za (xA (h:=Zg (ZI (Zs (Z7 (ZI (Zs ?_)))))))
 exact ZW .ret (.inl rfl) [_] t1 ⟨rfl,Zp (by simp [Zdm,Zrn hfa0 hfb ((Zlo fa fb).1 g6)])⟩
 try simp only [sQ,ne_eq] at g6
 refine Zi (Zz (Zf (Ze (xD (h:=xM (h:=?_))))))
 exact ZE (k+1) [0] so2 ⟨rfl,oz,ZnW hord hfa0 hfb (by rw [← Bool.not_eq_false,← Zlo];omega)⟩ t6 rfl
 try simp only [sQ,ne_eq] at g5
 have ho:=Zrm (fs:=x.folders) (fun i a b h=>hord i a b oz)
 refine ZY (Zal (Z6 (ZN (Zf (Za (Zn (Zav rfl rfl ZxT rfl (ZiM hJ _ _ _ _ _ _ _ _ x _ hc2 hu hf) ?_)))))))
 intro v17 B17 hle17
 rintro rfl
 replace hu:=hu.mono Zh.mono hle17
 replace hf:=hf.mono Zb.mono hle17
 replace hi:=hi.mono Zj.mono hle17
 replace hc2:=hc2.mono hle17
 replace hr6:=hr6.mono Zb.mono hle17
 refine xM (h:=Zt (d:=57) rfl (fun g7=>?_) (fun g7=>?_))
 try simp only [sQ,ne_eq] at g7
 refine xR ZxS rfl (ZnA _ _ _ _ _ _ _ _ x _ hc2 hu hf) (h:=xT (h:=xM (h:=Zt (d:=60) rfl (fun g8=>?_) (fun g8=>?_))))
 try simp only [sQ,ne_eq] at g8
 refine xR ZxR rfl (Zl8 _ _ _ _ _ _ _ _ x _ hc2 hu hi) (h:=xT (h:=xA (h:=Zg ?_)))
 exact ZW .ret (.inl rfl) [_] t1 ⟨rfl,Zp (by simp [Zdm,g1,g2,g3,ho,g7,g8];try omega)⟩
 try simp only [sQ,ne_eq] at g8
 refine xP (h:=xF (h:=xA (h:=Zg ?_)))
 exact ZW .ret (.inl rfl) [_] t1 ⟨rfl,Zp (by simp [Zdm,g1,g2,g3,ho,g7,g8];try omega)⟩
 try simp only [sQ,ne_eq] at g7
 refine xP (h:=xF (h:=xM (h:=xP (h:=xF (h:=xA (h:=Zg ?_))))))
 exact ZW .ret (.inl rfl) [_] t1 ⟨rfl,Zp (by simp [Zdm,g7])⟩

set_option maxRecDepth 4000 in
set_option maxHeartbeats 400000 in
theorem Zn8 (b : Nat) (q : Option Addr) (m cp p : Nat) (hp : p ≤ 850000000000) (hm : m ≤ 2000) (B : Kn) (hbm : Zak B q m) : ZM (pj J) 49 [ptr ⟨b, 0, none⟩] B [rd b q m cp p] (fun v B' Ls => ∃ q' cp' us p', v = .slice q' us.length cp' ∧ SlK B' q' cp' 3 Zh us ∧ us.length ≤ 5 ∧ p' ≤ p + 10 ∧ Ls = [rd b q m cp p']) := by
  refine Zc 61 Tryz.func49 rfl rfl rfl (Nat.le_of_ble_eq_true rfl) ?_
  refine Za (xA (h:=Za (xB [(0, _), (1, _), (2, _)] [_, _, _] [_, _, _] Zrh Zge (h:=xM (h:=xX 0 rfl Za0 rfl (ZL _ _ _ _ _ _ (by omega) (by omega) (by omega) hm _ hbm) (h:=?_))))))
  rintro _ _ ⟨ru, rfl, rua, rub, rfl⟩
  refine xD (h:=xB [(0, _), (1, _), (2, _)] [_, _, _] [_, _, _] Zrh Zge (h:=xM (h:=xX 0 rfl Za0 rfl (ZL _ _ _ _ _ _ (by omega) (by omega) (by omega) hm _ hbm) (h:=?_))))
  rintro _ _ ⟨ro, rfl, roa, rob, rfl⟩
  refine xD (h:=xB [(0, _), (1, _), (2, _)] [_, _, _] [_, _, _] Zrh Zge (h:=xBs [(0, _), (1, _), (2, _)] [_, _, _, _, _, _, _, _, _] Tryz.underlying23 ZeY Zge (h:=fun b3 => xA (h:=Zw [_, _] rfl ?_))))
  obtain ⟨us0, hn0, hv0⟩ : ∃ us0 : List DUser, us0.length = 3 ∧ Z3 B (ZaY b3 [str [97, 109, 121], str [97, 49], int 60, str [98, 111, 98], str [98, 50], int (20 + ru), str [99, 121, 100], str [99, 51], int (100 + ro)] 76) (some ⟨b3, 0, none⟩) 3 76 3 Zh us0 := ⟨[⟨[97, 109, 121], [97, 49], 60⟩, ⟨[98, 111, 98], [98, 50], 20 + ru⟩, ⟨[99, 121, 100], [99, 51], 100 + ro⟩], rfl, Z3.lit (rows := [[str [97, 109, 121], str [97, 49], int 60], [str [98, 111, 98], str [98, 50], int (20 + ru)], [str [99, 121, 100], str [99, 51], int (100 + ro)]]) (.cons ⟨rfl, by simp, by simp⟩ (.cons ⟨rfl, by simp, by simp⟩ (.cons ⟨rfl, by simp, by simp⟩ .nil))) (by intro row hr; simp only [List.mem_cons, List.not_mem_nil, or_false] at hr; rcases hr with rfl | rfl | rfl <;> rfl)⟩
  refine Za (xM (h:=xM (h:=xX 0 rfl Za0 rfl (ZL _ _ _ _ _ _ (by omega) (by omega) (by omega) hm _ hbm) (h:=?_))))
  rintro _ _ ⟨ry, rfl, rya, ryb, rfl⟩
  refine xD (h:=Zn (ZeX rfl rfl Tryz.underlying23 ZeY rfl (a := 0) (b := (1 + ry).toNat) rfl ⟨_, _, rfl, by omega⟩ (by omega) (by omega) ?_))
  refine xA (h:=Zw [_, _] rfl ?_)
  obtain ⟨us1, hn1, hv1⟩ : ∃ us1 : List DUser, us1.length = (1 + ry).toNat ∧ Z3 B _ _ 3 76 3 Zh us1 := ⟨us0.take (1 + ry).toNat, by rw [List.length_take]; omega, hv0.take (by omega)⟩
  rw [hv0.slice0 (sz := 3), show (1 + ry).toNat - 0 = us1.length from by omega]
  refine Za (xM (h:=xM (h:=xV Tryz.underlying23 (h:=xX 0 rfl Za0 rfl (ZL _ _ _ _ _ _ (by omega) (by omega) (by omega) hm _ hbm) (h:=?_)))))
  rintro _ _ ⟨rk, rfl, rka, rkb, rfl⟩
  refine xA (h:=Zw [_, _] rfl (ZoS (α := Gh DUser) [0, 2, 4] (fun g => [(3, .slice g.a g.xs.length g.c)]) (fun g => [rd b q m cp g.p, g.l]) (fun g Bx => g.p ≤ p + 10 ∧ g.xs.length ≤ 5 ∧ Z3 Bx g.l g.a g.c 76 3 Zh g.xs) ?_ (fun g B6 hle6 hF => ?_)))
  refine Za (xM (h:=xX 0 rfl Za0 rfl (ZL _ _ _ _ _ _ (by omega) (by omega) (by omega) hm _ hbm) (h:=?_)))
  rintro _ _ ⟨rj, rfl, rja, rjb, rfl⟩
  refine Zw [_, _] rfl (Zr (Za (ZF (h:=xA (h:=Zd rfl (fun g1 => ?_) (fun g1 => ?_))))))
  try simp only [sQ, ne_eq] at g1
  refine Ze (xM (h:=xM (h:=xM (h:=xX 0 rfl Zr0 rfl (Zcu _ _ _ _ _ (by omega) hm _ hbm) (h:=?_)))))
  rintro _ _ ⟨xs, rfl, hxs, rfl⟩
  obtain ⟨z, hz⟩ := Zd7 (xs := us1) (i := rk) (by first | omega | (simp; done) | (simp; omega)) (by first | omega | (simp; done) | (simp; omega))
  obtain ⟨bb10, _, hp10, ⟨rfl, hb10, hb10b⟩, hw10, hc10⟩ := hv1.row hz
  refine xIp hp10 Tryz.underlying23 ZeY (h:=xW Zc2 (h:=Zn (Zd8 (k := (rk).toNat) (off := 0) (⟨xs, z.pass, z.quota⟩) [_] 1 hv1 hp10 hz rfl rfl sz9 rfl rfl rfl rfl rfl rfl (by rintro _ ⟨rfl, e1, e2⟩; exact ⟨rfl, show xs.length ≤ 2000000 by omega, e2⟩) (fun l11 hv11 => ?_))))
  refine Zz ?_
  obtain ⟨us12, hn12, hv12⟩ : ∃ us12 : List DUser, us12.length = us1.length ∧ Z3 B l11 _ _ 76 3 Zh us12 := ⟨_, by rw [List.length_set], hv11⟩
  rw [← hn12]
  exact ZH ⟨0, ((((((p + 1) + 1) + 1) + 1) + 1) + 2), l11, (some ⟨b3, 0, none⟩), 3, us12⟩ [0, 1] ⟨by simp only []; omega, by first | (simp only []; omega) | (simp; omega), hv12⟩ ⟨rfl, rfl, rfl, rfl, trivial⟩ rfl
  try simp only [sQ, ne_eq] at g1
  refine Za (ZF (h:=xA (h:=Zd rfl (fun g2 => ?_) (fun g2 => ?_))))
  try simp only [sQ, ne_eq] at g2
  refine Ze (xM (h:=xM (h:=xM (h:=xX 0 rfl Zr0 rfl (Zcu _ _ _ _ _ (by omega) hm _ hbm) (h:=?_)))))
  rintro _ _ ⟨xs, rfl, hxs, rfl⟩
  obtain ⟨z, hz⟩ := Zd7 (xs := us1) (i := rk) (by first | omega | (simp; done) | (simp; omega)) (by first | omega | (simp; done) | (simp; omega))
  obtain ⟨bb15, _, hp15, ⟨rfl, hb15, hb15b⟩, hw15, hc15⟩ := hv1.row hz
  refine xIp hp15 Tryz.underlying23 ZeY (h:=xW Zp7 (h:=Zn (Zd8 (k := (rk).toNat) (off := 1) (⟨z.name, xs, z.quota⟩) [_] 1 hv1 hp15 hz rfl rfl sz9 rfl rfl rfl rfl rfl rfl (by rintro _ ⟨rfl, e1, e2⟩; exact ⟨rfl, e1, show xs.length ≤ 2000000 by omega⟩) (fun l16 hv16 => ?_))))
  refine Zz ?_
  obtain ⟨us17, hn17, hv17⟩ : ∃ us17 : List DUser, us17.length = us1.length ∧ Z3 B l16 _ _ 76 3 Zh us17 := ⟨_, by rw [List.length_set], hv16⟩
  rw [← hn17]
  exact ZH ⟨0, ((((((p + 1) + 1) + 1) + 1) + 1) + 2), l16, (some ⟨b3, 0, none⟩), 3, us17⟩ [0, 1] ⟨by simp only []; omega, by first | (simp only []; omega) | (simp; omega), hv17⟩ ⟨rfl, rfl, rfl, rfl, trivial⟩ rfl
  try simp only [sQ, ne_eq] at g2
  refine Za (ZF (h:=xA (h:=Zd rfl (fun g3 => ?_) (fun g3 => ?_))))
  try simp only [sQ, ne_eq] at g3
  refine Ze (xM (h:=xM (h:=xBs [(0, _), (1, _), (2, _), (3, _)] [_, _, _, _] Tryz.underlying142 sz3 zo3 (h:=fun b18 => ZZ 2 rfl (Z3.ints (ls := ([(-1), 0, 200, 201] : List Int))) Zbu.mono (by first | omega | decide | (simp; done) | (simp; omega)) (fun B19 hle19 hr19 => ?_)))))
  replace hv1 := hv1.mono Zh.mono hle19
  replace hbm := hbm.mono hle19
  have hr19n := hr19.len
  refine xM (h:=xX 0 rfl Za0 rfl (ZL _ _ _ _ _ _ (by omega) (by omega) (by omega) hm _ hbm) (h:=?_))
  rintro _ _ ⟨rs, rfl, rsa, rsb, rfl⟩
  obtain ⟨e, he⟩ := Zd7 (xs := ([(-1), 0, 200, 201] : List Int)) (i := rs) (by first | omega | (simp; done) | (simp; omega)) (by first | omega | (simp; done) | (simp; omega))
  obtain ⟨_, rfl, hc22⟩ := hr19.elem he
  refine xIx Tryz.underlying142 sz3 (h:=y1 lk3 hc22 0 (h:=?_))
  obtain ⟨z, hz⟩ := Zd7 (xs := us1) (i := rk) (by first | omega | (simp; done) | (simp; omega)) (by first | omega | (simp; done) | (simp; omega))
  obtain ⟨bb24, _, hp24, ⟨rfl, hb24, hb24b⟩, hw24, hc24⟩ := hv1.row hz
  refine xIp hp24 Tryz.underlying23 ZeY (h:=xW Zie (h:=Zn (Zd8 (k := (rk).toNat) (off := 2) (⟨z.name, z.pass, e⟩) [_] 1 hv1 hp24 hz rfl rfl sz3 rfl rfl rfl rfl rfl rfl (by rintro _ ⟨rfl, e1, e2⟩; exact ⟨rfl, e1, e2⟩) (fun l25 hv25 => ?_))))
  refine Zz ?_
  obtain ⟨us26, hn26, hv26⟩ : ∃ us26 : List DUser, us26.length = us1.length ∧ Z3 B19 l25 _ _ 76 3 Zh us26 := ⟨_, by rw [List.length_set], hv25⟩
  rw [← hn26]
  exact ZH ⟨0, ((((((p + 1) + 1) + 1) + 1) + 1) + 1), l25, (some ⟨b3, 0, none⟩), 3, us26⟩ [0, 1] ⟨by simp only []; omega, by first | (simp only []; omega) | (simp; omega), hv26⟩ ⟨rfl, rfl, rfl, rfl, trivial⟩ rfl
  try simp only [sQ, ne_eq] at g3
  refine Za (ZF (h:=xA (h:=Zd rfl (fun g4 => ?_) (fun g4 => ?_))))
  try simp only [sQ, ne_eq] at g4
  refine Ze (xM (h:=xB [(0, _), (1, _), (2, _)] [_, _, _] [_, _, _] Zrh Zge (h:=xB [(0, _), (1, _), (2, _)] [_, _, _] [_, _, _] Zrh Zge (h:=xBs [(0, _), (1, _)] [_, _, _, _, _, _] Tryz.underlying23 ZeY Zge (h:=fun b27 => Zn (ZmP (rows := [[str [100, 97, 110], str [100, 52], .int .i64 9], [str [101, 118, 101], str [101, 53], .int .i64 9]]) (ys := [⟨[100, 97, 110], [100, 52], 9⟩, ⟨[101, 118, 101], [101, 53], 9⟩]) (R := Zh) 1 rfl hv1 rfl rfl rfl Zot ZnE rfl rfl rfl (ZaV.box 2 rfl) rfl (by intro row hr; simp only [List.mem_cons, List.not_mem_nil, or_false] at hr; rcases hr with rfl | rfl <;> rfl) (.cons (⟨rfl, by first | assumption | omega | (simp; done) | (simp; done) | (simp; omega), by first | assumption | omega | (simp; done) | (simp; done) | (simp; omega)⟩) (.cons (⟨rfl, by first | assumption | omega | (simp; done) | (simp; done) | (simp; done) | (simp; omega), by first | assumption | omega | (simp; done) | (simp; done) | (simp; done) | (simp; omega)⟩) .nil)) (by first | omega | (simp; done) | (simp; omega)) (fun l28 p28 c28 hv28 => ?_)))))))
  refine xA (h:=Zz ?_)
  exact ZH ⟨0, (((((p + 1) + 1) + 1) + 1) + 1), l28, p28, c28, (us1 ++ [⟨[100, 97, 110], [100, 52], 9⟩, ⟨[101, 118, 101], [101, 53], 9⟩])⟩ [0, 1] ⟨by simp only []; omega, by first | (simp only []; omega) | (simp; omega), hv28⟩ ⟨rfl, rfl, rfl, rfl, trivial⟩ rfl
  try simp only [sQ, ne_eq] at g4
  refine Zi (Zz ?_)
  exact ZH ⟨0, (((((p + 1) + 1) + 1) + 1) + 1), _, (some ⟨b3, 0, none⟩), 3, us1⟩ [0, 1] ⟨by simp only []; omega, by first | (simp only []; omega) | (simp; omega), hv1⟩ ⟨rfl, rfl, rfl, rfl, trivial⟩ rfl
  obtain ⟨hgp, hgn, hw⟩ := hF
  replace hbm := hbm.mono hle6
  refine ZQ [(0, _), (2, _), (3, _), (4, _)] [_, _] ⟨rfl, rfl, rfl, rfl, trivial⟩ rfl (ZdA 1 rfl hw Zh.mono (by first | omega | decide | (simp; done) | (simp; omega)) (fun B29 hle29 hr29 => ?_))
  replace hbm := hbm.mono hle29
  have hr29n := hr29.len
  refine Za (xM (h:=xA (h:=Zw [_, _] rfl (Zg ?_))))
  exact Zaf .ret (.inl rfl) [_] [0] rfl ⟨rfl, trivial⟩ ⟨_, _, _, _, rfl, hr29, by omega, by omega, rfl⟩

set_option maxHeartbeats 400000 in
theorem Zox (q:Option Addr) (cp:Nat) (x:DBox) (B:Kn) (hm:SlK B q cp 3 ZJ x.mail):ZM (pj J) 85 [.agg #[.int .i64 x.next,.slice q x.mail.length cp]] B [] (fun v B' Ls=>B'=B∧∃l a c,Ls=[l]∧v = .agg #[.int .i64 x.next,.slice a x.mail.length c]∧Z3 B l a c 150 3 ZJ x.mail):=by
 refine Zc 10 Tryz.func85 rfl rfl rfl (Nat.le_of_ble_eq_true rfl) ?_
 have hxn:=hm.len
 refine Za (xBx [_,_] (h:=fun b1=>xAl [_,_] ZeW (h:=fun b2=>Zw [_,_] rfl (Zm (Z9 (keeps _ [0] _) mo kr ⟨Kn.le.refl _,Zar.refl _ _⟩ (fun _ _=>?_))))))
 refine aW 0 rfl Zcz (h:=aT 1 rfl (ZK fun D B L hI=>Zl rfl rfl lk3 rfl (atL 0 (hI.2.1.trans rfl) rfl rfl) r4) (h:=aW 3 rfl ZaU (h:=aT 4 rfl (ZK fun D B L hI=>Zl rfl rfl ZfJ rfl (atL 0 (hI.2.1.trans rfl) rfl rfl) r4) (h:=Zv 2 kr rfl kr (Zy (parts:=[]) [] rfl rfl Tryz.underlying54 ZcW Zgf rfl rfl rfl rfl rfl (fun b3=>?_))))))
 refine ⟨⟨Kn.le.refl _,t1⟩,(Zv 5 kr rfl kr (ZaS (R:=ZJ) 2 rfl (Z3.lit0 (R:=ZJ)) rfl rfl rfl Zvt Zvr rfl rfl rfl hm.rows ZJ.one rfl om (fun l4 p4 c4 hv4=>?_)))⟩
 refine ⟨⟨Kn.le.refl _,t1⟩,(aT 6 rfl (ZK fun D B L hI=>ZaH (parts:=[(0,_),(1,_)]) [_,_] [_,_] rfl rfl Zm3 ZeW rfl rfl rfl r4) (h:=ZV 7 kr rfl kr kr kr (ZO [_,_] 1 [_,_] rfl rfl ZcC rfl rfl rfl rfl rfl rfl rfl rfl ?_)))⟩
 refine Zf (Zw [_,_,_] rfl (Zg ?_))
 exact Zaf .ret (.inl rfl) [_] [2] rfl ⟨⟨_,rfl,.inr ⟨[_,_],ZbN,Zad 1 rfl rfl rfl,rfl⟩⟩,trivial⟩ ⟨rfl,_,_,_,rfl,rfl,hv4⟩

set_option maxHeartbeats 400000 in
theorem Zj4 (qa qb:Option Addr) (ca cb:Nat) (x:DFolder) (B:Kn) (hg:SlK B qa ca 2 ZG x.grants) (hm:SlK B qb cb 3 ZJ x.mail):ZM (pj J) 44 [.agg #[str x.owner,str x.name,.slice qa x.grants.length ca,.int .i64 x.next,.slice qb x.mail.length cb]] B [] (fun v B' Ls=>B'=B∧∃l a c l' a' c',Ls=[l,l']∧v = .agg #[str x.owner,str x.name,.slice a x.grants.length c,.int .i64 x.next,.slice a' x.mail.length c']∧Z3 B l a c 139 2 ZG x.grants∧Z3 B l' a' c' 150 3 ZJ x.mail):=by
 refine Zc 13 Tryz.func44 rfl rfl rfl (Nat.le_of_ble_eq_true rfl) ?_
 have hgn:=hg.len
 have hmn:=hm.len
 refine Za (xBx [_,_,_,_,_] (h:=fun b1=>xAl [_,_,_,_,_] Zdx (h:=fun b2=>Zw [_,_] rfl (Za (xBs [] [] Tryz.underlying53 ZbL Zdy (h:=fun b3=>xW ZdI (h:=x1 Zrt 0 (h:=Zn (ZaS (R:=ZG) 2 rfl (Z3.lit0 (R:=ZG)) rfl rfl rfl Zqk Zpa rfl rfl rfl hg.rows ZG.one rfl om (fun l4 p4 c4 hv4=>?_))))))))))
 refine xW ZdI (h:=xS [_] 0 [_,_,_,_,_] Zuv (h:=Zw [_,_,_] rfl (Za (xW Zcm (h:=xL [_,_] ZbN 0 (h:=Zn (Zac rfl rfl Zxp rfl (Zox _ _ (⟨x.next,x.mail⟩:DBox) _ hm) ?_)))))))
 rintro _ B5 _ hle5 ⟨rfl,l5,a5,c5,rfl,rfl,hs5⟩
 refine xW Zcm (h:=xS [_,_] 0 [_,_,_,_,_] ZcC (h:=Zw [_,_,_,_] rfl (Za (xL [_,_,_,_,_] ZgQ 0 (h:=xS [_,_,_,_,_] 1 [_,_,_,_,_] Zbj (h:=Zw [_,_,_,_] rfl (Zg ?_)))))))
 exact Zaf .ret (.inl rfl) [_] [2,3] rfl ⟨⟨_,rfl,.inr ⟨[_,_,_,_,_],ZgQ,Zad 1 rfl rfl rfl,rfl⟩⟩,trivial⟩ ⟨rfl,_,_,_,_,_,_,rfl,rfl,hv4,hs5⟩

set_option maxHeartbeats 400000 in
theorem Zk8 (hJ:Joins Tryz.prog J) (q1 q2 q3:Option Addr) (c1 c2 c3:Nat) (x:DHost) (o n:Str) (ho:o.length≤2000000) (hn:n.length≤2000000) (hd:x.domain.length≤2000000) (B:Kn) (hu:SlK B q1 c1 3 Zh x.users) (hf:SlK B q2 c2 5 Zb x.folders) (hi:SlK B q3 c3 4 Zj x.queue.items):ZM (pj J) 19 [.agg #[str x.domain,.slice q1 x.users.length c1,.slice q2 x.folders.length c2,.int .i64 x.queue.next,.slice q3 x.queue.items.length c3],str o,str n] B [] (fun v B' Ls=>Ls=[]∧∃qa ca qb cb,v = .tuple #[.agg #[str (Zae x o n).1.owner,str (Zae x o n).1.name,.slice qa (Zae x o n).1.grants.length ca,.int .i64 (Zae x o n).1.next,.slice qb (Zae x o n).1.mail.length cb],.bool (Zae x o n).2]∧SlK B' qa ca 2 ZG (Zae x o n).1.grants∧SlK B' qb cb 3 ZJ (Zae x o n).1.mail):=by
 refine Zc 25 Tryz.func19 rfl rfl rfl (Nat.le_of_ble_eq_true rfl) ?_
 have hfn:=hf.len
 have hix:=ZcG (inF o n) x.folders
 refine Za (xBx [_,_,_,_,_] (h:=fun b1=>xAl [_,_,_,_,_] Zdx (h:=fun b2=>xA (h:=Zw [_,_] rfl (ZoP 0 rfl (fun B3 hle3 hpm3=>?_))))))
 have hc3:=Zdk hpm3
 replace hu:=hu.mono Zh.mono hle3
 replace hf:=hf.mono Zb.mono hle3
 replace hi:=hi.mono Zj.mono hle3
 refine Zm (Za (yL [_,_,_,_,_] Z2 hc3 0 (h:=Zn (Zav rfl rfl Zxa rfl (Zh0 hJ _ _ _ _ _ _ x om2 _ hu hf hi) ?_))))
 intro v4 B4 hle4
 rintro rfl
 replace hu:=hu.mono Zh.mono hle4
 replace hf:=hf.mono Zb.mono hle4
 replace hi:=hi.mono Zj.mono hle4
 replace hc3:=hc3.mono hle4
 refine xN (h:=Zw [_,_] rfl (Zd rfl (fun g1=>?_) (fun g1=>?_)))
 try simp only [sQ,ne_eq] at g1
 rw [ZiL (x:=x) (o:=o) (n:=n) (by simpa using g1)]
 refine Za (xB [] [_,_,_,_,_] [_,_,_,_,_] ZuG Zdx (h:=xS [_,_,_,_,_] 1 [_,_,_,_,_] Zbj (h:=xA (h:=Zw [_,_] rfl (Zg (Zs ?_))))))
 exact Zaf .ret (.inl rfl) [_,_] [] rfl ⟨⟨_,rfl,.inr ⟨[_,_,_,_,_],ZgQ,Zad 1 rfl rfl rfl,rfl⟩⟩,rfl,trivial⟩ ⟨rfl,none,0,none,0,rfl,SlK.nil,SlK.nil⟩
 try simp only [sQ,ne_eq] at g1
 refine Zi (Zf (Za (xM (h:=xM (h:=xR Zwf rfl (Zqc _ _ _ _ _ _ _ _ x o n om2 om2 _ hc3 hf) (h:=?_))))))
 refine xA (h:=Zm (Za (xM (h:=Zai (h:=Zd rfl (fun g2=>?_) (fun g2=>?_))))))
 try simp only [sQ,ne_eq] at g2
 rw [Zh5 (x:=x) (o:=o) (n:=n) oz]
 refine Za (xB [] [_,_,_,_,_] [_,_,_,_,_] ZuG Zdx (h:=xS [_,_,_,_,_] 1 [_,_,_,_,_] Zbj (h:=xA (h:=Zw [_,_] rfl (Zg (Zs ?_))))))
 exact Zaf .ret (.inl rfl) [_,_] [] rfl ⟨⟨_,rfl,.inr ⟨[_,_,_,_,_],ZgQ,Zad 1 rfl rfl rfl,rfl⟩⟩,rfl,trivial⟩ ⟨rfl,none,0,none,0,rfl,SlK.nil,SlK.nil⟩
 try simp only [sQ,ne_eq] at g2
 refine Zi (Zf (Za (xW Z0 (h:=y1 Zcy hc3 2 (h:=xM (h:=?_))))))
 obtain ⟨w,hw⟩:=Zd7 (xs:=x.folders) (i:=(ZaD (inF o n) x.folders)) om om
 obtain ⟨bb7,oo7,rfl⟩:=hf.base hw
 obtain ⟨_,⟨qg8,cg8,qm8,cm8,rfl,hg8,hm8,hb8,hb8b⟩,hc8⟩:=hf.elem hw
 have hg8n:=hg8.len
 have hm8n:=hm8.len
 have hm8s:=Z4 hm8
 refine xIx Tryz.underlying24 Zbj (h:=yL [_,_,_,_,_] ZgQ hc8 0 (h:=Zn (Zac rfl rfl ZxN rfl (Zj4 _ _ _ _ w _ hg8 hm8) ?_)))
 rintro _ B9 _ hle9 ⟨rfl,l9,a9,c9,l9b,a9b,c9b,rfl,rfl,hs9,hs9b⟩
 refine ZZ 2 rfl hs9 ZG.mono om3 (fun B10 hle10 hr10=>?_)
 replace hu:=hu.mono Zh.mono hle10
 replace hf:=hf.mono Zb.mono hle10
 replace hi:=hi.mono Zj.mono hle10
 replace hc3:=hc3.mono hle10
 replace hg8:=hg8.mono ZG.mono hle10
 replace hm8:=hm8.mono ZJ.mono hle10
 replace hc8:=hc8.mono hle10
 replace hs9b:=hs9b.mono ZJ.mono hle10
 have hr10n:=hr10.len
 refine ZZ 3 rfl hs9b ZJ.mono om3 (fun B11 hle11 hr11=>?_)
 replace hu:=hu.mono Zh.mono hle11
 replace hf:=hf.mono Zb.mono hle11
 replace hi:=hi.mono Zj.mono hle11
 replace hc3:=hc3.mono hle11
 replace hg8:=hg8.mono ZG.mono hle11
 replace hm8:=hm8.mono ZJ.mono hle11
 replace hc8:=hc8.mono hle11
 replace hr10:=hr10.mono ZG.mono hle11
 have hr11n:=hr11.len
 refine xS [_,_,_,_,_] 1 [_,_,_,_,_] Zbj (h:=xA (h:=Zw [_,_,_,_] rfl (Zg ?_)))
 exact Zaf .ret (.inl rfl) [_,_] [] rfl ⟨⟨_,rfl,.inr ⟨[_,_,_,_,_],ZgQ,Zad 1 rfl rfl rfl,rfl⟩⟩,rfl,trivial⟩ (by rw [Zh4 (x:=x) (o:=o) (n:=n) (by simpa using g1) oz hw];exact ⟨rfl,_,_,_,_,rfl,hr10,hr11⟩)

set_option maxHeartbeats 400000 in
theorem Zph (q:Option Addr) (cp:Nat) (d:Str) (us:List DUser) (hd:d.length≤2000000) (hl:us.length≤1100000) (B:Kn) (hu:SlK B q cp 3 Zh us):ZM (pj J) 53 [str d,.slice q us.length cp] B [] (fun v B' Ls=>Ls=[]∧∃q1 c1 q2 c2 q3 c3,v = .tuple #[.agg #[str (Zcd d us).1.domain,.slice q1 (Zcd d us).1.users.length c1,.slice q2 (Zcd d us).1.folders.length c2,.int .i64 (Zcd d us).1.queue.next,.slice q3 (Zcd d us).1.queue.items.length c3],.bool (Zcd d us).2]∧SlK B' q1 c1 3 Zh (Zcd d us).1.users∧SlK B' q2 c2 5 Zb (Zcd d us).1.folders∧SlK B' q3 c3 4 Zj (Zcd d us).1.queue.items):=by
 refine Zc 41 Tryz.func53 rfl rfl rfl (Nat.le_of_ble_eq_true rfl) ?_
 have hun:=hu.len
 refine Za (xAl [_,_,_,_,_] Zba (h:=fun b1=>xA (h:=Zw [_] rfl (Za (xM (h:=xBs [] [] Tryz.underlying23 ZeY Zge (h:=fun b2=>xM (h:=Zn (ZaS (R:=Zh) 1 rfl (Z3.lit0 (R:=Zh)) rfl rfl rfl Zot ZnE rfl rfl rfl hu.rows Zh.one rfl om (fun l3 p3 c3 hv3=>?_))))))))))
 refine xBs [] [] Tryz.underlying24 Zbj Zdx (h:=fun b4=>xBs [] [] Tryz.underlying25 Zer ZiD (h:=fun b5=>xB [(0,_),(1,_)] [_,_] [_,_] Zs7 ZiF (h:=xB [(0,_),(1,_),(2,_),(3,_)] [_,_,_,_,_] [_,_,_,_,_] ZdV Zba (h:=xAl [_,_,_,_,_] Zba (h:=fun b6=>xS [_,_,_,_,_] 4 [_,_,_,_,_] Zaw (h:=Zw [_,_,_,_,_] rfl (Zm (Za (xA (h:=Zr (ZU (α:=Gh DFolder) [0,1,4,5,6] (fun g=>[(7,.int .i64 g.k)]) [2,4] (fun g=>[g.l,ZaY b6 [str d,.slice p3 us.length c3,.slice g.a g.xs.length g.c,.int .i64 1,.slice (some ⟨b5,0,none⟩) 0 0] 29]) (fun g Bx=>g.k≤us.length∧g.xs=(us.take g.k).map (fun u=>ZjM u.name)∧Z3 Bx g.l g.a g.c 58 5 Zb g.xs) (fun g=>us.length - g.k) ⟨0,0,_,_,_,[]⟩ t1 rfl (⟨Nat.zero_le _,by simp,Z3.lit0⟩) (fun g B7 hle7 hI=>?_))))))))))))
 obtain ⟨hk,hx,hv⟩:=hI
 have hgl:g.xs.length≤us.length:=by rw [hx,List.length_map,List.length_take];omega
 replace hu:=hu.mono Zh.mono hle7
 replace hv3:=hv3.mono Zh.mono hle7
 refine ZQ [(0,_),(1,_),(4,_),(5,_),(6,_),(7,_)] [_,_,_,_,_] t6 rfl (Zm (Za (xM (h:=xM (h:=xV Tryz.underlying23 (h:=Zai (h:=Zd rfl (fun g3=>?_) (fun g3=>?_))))))))
 try simp only [sQ,ne_eq] at g3
 refine Zi (Zf (Zm (Zr (Z9 (keeps _ [4] _) mo kr ⟨Kn.le.refl _,Zar.refl _ _⟩ (fun _ _=>?_)))))
 refine aW 0 rfl Z0 (h:=aT 1 rfl (ZK fun D B L hI=>Zl rfl rfl Zcy rfl (atL 4 (hI.2.1.trans rfl) rfl rfl) r4) (h:=aM 2 rfl (h:=aM 3 rfl (h:=?_))))
 obtain ⟨w,hw⟩:=Zax (xs:=us) (i:=g.k) om
 obtain ⟨bb9,oo9,rfl⟩:=hu.base hw
 obtain ⟨_,⟨rfl,hb10,hb10b⟩,hc10⟩:=hu.elem hw
 refine aIx 4 rfl Tryz.underlying23 ZeY (h:=aW 5 rfl Zc2 (h:=aT 6 rfl (ZK fun D B L hI=>Zl rfl rfl lk9 rfl ((hc10.mono hI.1) _ 0 _ rfl) r4) (h:=Zap [7,8] kr kr kr ⟨?_,?_⟩)))
 refine (Zy (parts:=[]) [] rfl rfl Tryz.underlying53 ZbL Zdy rfl rfl rfl rfl rfl (fun b11=>⟨⟨Kn.le.refl _,t1⟩,(ZaJ 5 rfl (Z3.lit0 (R:=ZG) (w:=2)) ZG.mono om3 (fun B' hle'=>⟨hle',t1⟩) (fun B12 hle12 hr12=>?_))⟩))
 replace hu:=hu.mono Zh.mono hle12
 replace hc10:=hc10.mono hle12
 replace hv3:=hv3.mono Zh.mono hle12
 replace hv:=hv.mono Zb.mono hle12
 have hr12n:=hr12.len
 refine Zv 8 kr rfl kr (Zy (parts:=[]) [] rfl rfl Tryz.underlying54 ZcW Zgf rfl rfl rfl rfl rfl (fun b13=>?_))
 refine ⟨⟨hle12,t1⟩,(ZaJ 6 rfl (Z3.lit0 (R:=ZJ) (w:=3)) ZJ.mono om3 (fun B' hle'=>⟨hle12.trans hle',t1⟩) (fun B14 hle14 hr14=>?_))⟩
 replace hu:=hu.mono Zh.mono hle14
 replace hc10:=hc10.mono hle14
 replace hr12:=hr12.mono ZG.mono hle14
 replace hv3:=hv3.mono Zh.mono hle14
 replace hv:=hv.mono Zb.mono hle14
 have hr14n:=hr14.len
 refine aT 9 rfl (ZK fun D B L hI=>ZaH (parts:=[(0,_),(1,_)]) [_,_] [_,_] rfl rfl Zm3 ZeW rfl rfl rfl r4) (h:=aT 10 rfl (ZK fun D B L hI=>ZaH (parts:=[(0,_),(1,_),(2,_),(3,_)]) [_,_,_,_,_] [_,_,_,_,_] rfl rfl ZuG Zdx rfl rfl rfl r4) (h:=Zv 11 kr rfl kr (Zy (parts:=[(0,_)]) [_,_,_,_,_] rfl rfl Tryz.underlying24 Zbj Zdx rfl rfl rfl rfl rfl (fun b15=>?_))))
 refine ⟨⟨(hle12.trans hle14),t1⟩,(Zv 12 kr rfl kr (Za8 (z:=⟨w.name,[105,110,98,111,120],[],1,[]⟩) (R:=Zb) 2 rfl hv rfl rfl rfl ZiO ZiI rfl rfl (ZaV.box 7 rfl) rfl rfl (⟨_,_,_,_,rfl,hr12,hr14,by first | assumption | omega | (simp;done) | (simp;omega),by first | assumption | omega | (simp;done) | (simp;omega)⟩) om (fun l16 p16 c16 hv16=>?_)))⟩
 refine ⟨⟨(hle12.trans hle14),t1⟩,(aW 13 rfl Z0 (h:=ZV 14 kr rfl kr kr kr (ZO [_] 4 [_,_,_,_,_] rfl rfl ZqU rfl rfl rfl rfl rfl rfl rfl rfl ?_)))⟩
 refine Zz (Zf (Ze (xM (h:=xD (h:=xA (h:=?_))))))
 exact ZE ⟨g.k+1,0,l16,p16,c16,(g.xs ++ [⟨w.name,[105,110,98,111,120],[],1,[]⟩])⟩ [0,1,2,3,4] so2 ⟨so,by rw [List.take_add_one,hw];simp [hx,ZjM,inbox],hv16⟩ t6 rfl
 refine (Zy (parts:=[]) [] rfl rfl Tryz.underlying54 ZcW Zgf rfl rfl rfl rfl rfl (fun b17=>⟨⟨Kn.le.refl _,t1⟩,(aT 9 rfl (ZK fun D B L hI=>ZaH (parts:=[(0,_),(1,_)]) [_,_] [_,_] rfl rfl Zm3 ZeW rfl rfl rfl r4) (h:=Zv 7 kr rfl kr (Zy (parts:=[]) [] rfl rfl Tryz.underlying53 ZbL Zdy rfl rfl rfl rfl rfl (fun b18=>?_))))⟩))
 refine ⟨⟨Kn.le.refl _,t1⟩,(ZaJ 6 rfl (Z3.lit0 (R:=ZG) (w:=2)) ZG.mono om3 (fun B' hle'=>⟨hle',t1⟩) (fun B19 hle19 hr19=>?_))⟩
 replace hu:=hu.mono Zh.mono hle19
 replace hc10:=hc10.mono hle19
 replace hv3:=hv3.mono Zh.mono hle19
 replace hv:=hv.mono Zb.mono hle19
 have hr19n:=hr19.len
 refine ZaJ 5 rfl (Z3.lit0 (R:=ZJ) (w:=3)) ZJ.mono om3 (fun B' hle'=>⟨hle19.trans hle',t1⟩) (fun B20 hle20 hr20=>?_)
 replace hu:=hu.mono Zh.mono hle20
 replace hc10:=hc10.mono hle20
 replace hr19:=hr19.mono ZG.mono hle20
 replace hv3:=hv3.mono Zh.mono hle20
 replace hv:=hv.mono Zb.mono hle20
 have hr20n:=hr20.len
 refine aT 10 rfl (ZK fun D B L hI=>ZaH (parts:=[(0,_),(1,_),(2,_),(3,_)]) [_,_,_,_,_] [_,_,_,_,_] rfl rfl ZuG Zdx rfl rfl rfl r4) (h:=Zv 11 kr rfl kr (Zy (parts:=[(0,_)]) [_,_,_,_,_] rfl rfl Tryz.underlying24 Zbj Zdx rfl rfl rfl rfl rfl (fun b21=>?_)))
 refine ⟨⟨(hle19.trans hle20),t1⟩,(Zv 12 kr rfl kr (Za8 (z:=⟨w.name,[105,110,98,111,120],[],1,[]⟩) (R:=Zb) 2 rfl hv rfl rfl rfl ZiO ZiI rfl rfl (ZaV.box 7 rfl) rfl rfl (⟨_,_,_,_,rfl,hr19,hr20,by first | assumption | omega | (simp;done) | (simp;omega),by first | assumption | omega | (simp;done) | (simp;omega)⟩) om (fun l22 p22 c22 hv22=>?_)))⟩
 refine ⟨⟨(hle19.trans hle20),t1⟩,(aW 13 rfl Z0 (h:=ZV 14 kr rfl kr kr kr (ZO [_] 4 [_,_,_,_,_] rfl rfl ZqU rfl rfl rfl rfl rfl rfl rfl rfl ?_)))⟩
 refine Zz (Zf (Ze (xM (h:=xD (h:=xA (h:=?_))))))
 exact ZE ⟨g.k+1,0,l22,p22,c22,(g.xs ++ [⟨w.name,[105,110,98,111,120],[],1,[]⟩])⟩ [0,1,2,3,4] so2 ⟨so,by rw [List.take_add_one,hw];simp [hx,ZjM,inbox],hv22⟩ t6 rfl
 try simp only [sQ,ne_eq] at g3
 have he:(us.map fun u=>ZjM u.name)=g.xs:=by rw [hx,List.take_of_length_le oz]
 have hne:(⟨d,us,g.xs,⟨1,[]⟩⟩:DHost)=Zpv d us:=by rw [Zpv,he]
 refine ZY (Zal (Z6 (ZN (Zf (Zm (Za (xL [_,_,_,_,_] Z2 4 (h:=ZZ 1 rfl hv3 Zh.mono om3 (fun B23 hle23 hr23=>?_)))))))))
 replace hu:=hu.mono Zh.mono hle23
 replace hv:=hv.mono Zb.mono hle23
 have hr23n:=hr23.len
 refine ZZ 2 rfl hv Zb.mono om3 (fun B24 hle24 hr24=>?_)
 replace hu:=hu.mono Zh.mono hle24
 replace hr23:=hr23.mono Zh.mono hle24
 have hr24n:=hr24.len
 refine ZZ 3 rfl (Z3.lit0 (R:=Zj) (w:=4)) Zj.mono om3 (fun B25 hle25 hr25=>?_)
 replace hu:=hu.mono Zh.mono hle25
 replace hr23:=hr23.mono Zh.mono hle25
 replace hr24:=hr24.mono Zb.mono hle25
 have hr25n:=hr25.len
 refine xR Zqn rfl (Zbm _ _ _ _ _ _ (⟨d,us,g.xs,⟨1,[]⟩⟩:DHost) om2 _ hr23 hr24 hr25) (h:=?_)
 refine xN (h:=Zw [_,_,_,_,_] rfl (Zd rfl (fun g4=>?_) (fun g4=>?_)))
 try simp only [sQ,ne_eq] at g4
 rw [Zoi (by rw [← hne];simpa using g4)]
 refine Za (xB [] [_,_,_,_,_] [_,_,_,_,_] ZdV Zba (h:=xS [_,_,_,_,_] 0 [_,_,_,_,_] Zaw (h:=xA (h:=Zw [_,_,_,_,_] rfl (Zg (Zs ?_))))))
 exact Zaf .ret (.inl rfl) [_,_] [] rfl ⟨⟨_,rfl,.inr ⟨[_,_,_,_,_],Z2,Zad 0 rfl rfl rfl,rfl⟩⟩,rfl,trivial⟩ ⟨rfl,none,0,none,0,none,0,rfl,SlK.nil,SlK.nil,SlK.nil⟩
 try simp only [sQ,ne_eq] at g4
 refine Zi (Zf (Za (xL [_,_,_,_,_] Z2 4 (h:=xS [_,_,_,_,_] 0 [_,_,_,_,_] Zaw (h:=xA (h:=Zw [_,_,_,_,_] rfl (Zg ?_)))))))
 exact Zaf .ret (.inl rfl) [_,_] [] rfl ⟨⟨_,rfl,.inr ⟨[_,_,_,_,_],Z2,Zad 0 rfl rfl rfl,rfl⟩⟩,rfl,trivial⟩ (by rw [Zh3 (by rw [← hne];simpa using g4),← hne];exact ⟨rfl,_,_,_,_,_,_,rfl,hr23,hr24,hr25⟩)

set_option maxHeartbeats 400000 in
theorem ZjT (k:Nat) (hk:k<6) (B:Kn):Za1 (pj J) 128 [.int .i64 k] B (.int .i64 (Zbt k)):=by
 refine Zc 7 Tryz.func128 rfl rfl rfl (Nat.le_of_ble_eq_true rfl) ?_
 refine Za (xA (h:=Za (xBs [(0,_),(1,_),(2,_),(3,_),(4,_),(5,_)] [_,_,_,_,_,_] Tryz.underlying142 sz3 zo3 (h:=fun b1=>?_))))
 have hvq:Z3 B (ZaY b1 (([1,2,4,8,16,32]:List Int).map fun x=>.int .i64 x) 3) (some ⟨b1,0,none⟩) 6 3 1 Zbu ([1,2,4,8,16,32]:List Int):=Z3.ints
 refine xM (h:=?_)
 obtain ⟨e,he⟩:=Zax (xs:=([1,2,4,8,16,32]:List Int)) (i:=k) om
 obtain ⟨bb3,_,hp3,rfl,hw3,hc3⟩:=hvq.row he
 refine xIp hp3 Tryz.underlying142 sz3 (h:=Zn (Zl rfl rfl lk3 rfl (hc3 _ 0 rfl 0 _ rfl) (xA (h:=Zw [_] rfl (Zg ?_)))))
 exact ZW .ret (.inl rfl) [_] t1 ⟨ZaA (Zrf he),rfl,rfl⟩

set_option maxHeartbeats 400000 in
theorem Zmg (k:Nat) (hk:k<5) (B:Kn):Za1 (pj J) 169 [.int .i64 k] B (.int .i64 (Zbt k)):=by
 refine Zc 7 Tryz.func169 rfl rfl rfl (Nat.le_of_ble_eq_true rfl) ?_
 refine Za (xA (h:=Za (xBs [(0,_),(1,_),(2,_),(3,_),(4,_)] [_,_,_,_,_] Tryz.underlying142 sz3 zo3 (h:=fun b1=>?_))))
 have hvq:Z3 B (ZaY b1 (([1,2,4,8,16]:List Int).map fun x=>.int .i64 x) 3) (some ⟨b1,0,none⟩) 5 3 1 Zbu ([1,2,4,8,16]:List Int):=Z3.ints
 refine xM (h:=?_)
 obtain ⟨e,he⟩:=Zax (xs:=([1,2,4,8,16]:List Int)) (i:=k) om
 obtain ⟨bb3,_,hp3,rfl,hw3,hc3⟩:=hvq.row he
 refine xIp hp3 Tryz.underlying142 sz3 (h:=Zn (Zl rfl rfl lk3 rfl (hc3 _ 0 rfl 0 _ rfl) (xA (h:=Zw [_] rfl (Zg ?_)))))
 exact ZW .ret (.inl rfl) [_] t1 ⟨ZaA (Zpp he),rfl,rfl⟩

set_option maxHeartbeats 400000 in
theorem Zto (q:Option Addr) (cp:Nat) (gs:List DGrant) (u:Str) (hr :∀y,y∈gs→0≤y.rights∧y.rights≤63) (B:Kn) (hg:SlK B q cp 2 ZG gs):Za1 (pj J) 84 [.slice q gs.length cp,str u] B (.int .i64 (ZbF gs u)):=by
 refine Zc 55 Tryz.func84 rfl rfl rfl (Nat.le_of_ble_eq_true rfl) ?_
 have hgn:=hg.len
 refine Za (xA (h:=Za (xA (h:=Zm (Za (xA (h:=Zr (ZU (α:=Nat × Int) [0,1,4] (fun g=>[(5,.int .i64 g.2),(6,.int .i64 g.1)]) [] (fun g=>[]) (fun g Bx=>Bx=B∧g.1≤6∧g.2=Zfg gs u g.1) (fun g=>6 - g.1) (0,0) t2 rfl (⟨rfl,oz,rfl⟩) (fun g B1 hle1 hI=>?_)))))))))
 obtain ⟨rfl,hk,hs⟩:=hI
 have hbd:=Zix gs u g.1 hk
 refine ZQ [(0,_),(1,_),(4,_),(5,_),(6,_)] [] t5 rfl (Zm (Za (xM (h:=Zai (h:=Zd rfl (fun g1=>?_) (fun g1=>?_))))))
 try simp only [sQ,ne_eq] at g1
 have hp:=Zkb (k:=g.1) oz
 refine Zi (Zf (Zm (Zr (Za (xA (h:=Zm (Za (xA (h:=Zr (ZU (α:=Nat × Bool) [0,1,4,5,6,10] (fun o=>[(7,.bool o.2),(8,.int .i64 o.1)]) [] (fun o=>[]) (fun o Bx=>Bx=B1∧o.1≤gs.length∧o.2=(gs.take o.1).any (onB u (Zbt g.1))) (fun o=>gs.length - o.1) (0,false) t2 rfl (⟨rfl,Nat.zero_le _,rfl⟩) (fun o B2 hle2 hI=>?_)))))))))))
 obtain ⟨rfl,ho,hon⟩:=hI
 refine ZQ [(0,_),(1,_),(4,_),(5,_),(6,_),(7,_),(8,_),(10,_)] [] t8 rfl (Zm (Za (xM (h:=xM (h:=xV Tryz.underlying53 (h:=Zai (h:=Zd rfl (fun g2=>?_) (fun g2=>?_))))))))
 try simp only [sQ,ne_eq] at g2
 obtain ⟨x,hx⟩:=Zax (xs:=gs) (i:=o.1) oz
 have hrx:=hr x (List.mem_of_getElem? hx)
 refine Zi (Zf (Zm (Zr (Z9 (same _ _) mo kr ⟨rfl,rfl⟩ (fun _ _=>?_)))))
 refine aM 0 rfl (h:=aM 1 rfl (h:=ZaE (d:=20) rfl (fun g3=>?_) (fun g3=>?_)))
 try simp only [sQ,ne_eq] at g3
 refine aZ 2 rfl (h:=aZ 3 rfl (h:=aZ 4 rfl (h:=aZ 5 rfl (h:=aZ 6 rfl (h:=aZ 7 rfl (h:=aZ 8 rfl (h:=aZ 9 rfl (h:=aZ 10 rfl (h:=aZ 11 rfl (h:=aZ 12 rfl (h:=aZ 13 rfl (h:=aZ 14 rfl (h:=?_)))))))))))))
 refine aZ 15 rfl (h:=aZ 16 rfl (h:=aZ 17 rfl (h:=aZ 18 rfl (h:=aZ 19 rfl (h:=aZ 20 rfl (h:=aZ 21 rfl (h:=aZ 22 rfl (h:=aZ 23 rfl (h:=aZ 24 rfl (h:=aZ 25 rfl (h:=aZ 26 rfl (h:=aZ 27 rfl (h:=?_)))))))))))))
 refine aZ 28 rfl (h:=aPT 29 rfl (h:=aA 30 rfl (h:=ZD kr kr ?_)))
 refine Zz (Zf (Ze (xM (h:=xD (h:=xA (h:=?_))))))
 exact ZE (o.1+1,true) [] so2 ⟨rfl,so,by rw [ZdK hx,← hon,g3];rfl⟩ t8 rfl
 try simp only [sQ,ne_eq] at g3
 refine aM 2 rfl (h:=aM 3 rfl (h:=?_))
 obtain ⟨bb3,oo3,rfl⟩:=hg.base hx
 obtain ⟨_,⟨rfl,hb4⟩,hc4⟩:=hg.elem hx
 refine aIx 4 rfl Tryz.underlying53 ZbL (h:=aW 5 rfl ZcH (h:=aT 6 rfl (Zan fun D=>Zl rfl rfl lk9 rfl (hc4 _ 0 _ rfl) r4) (h:=aM 7 rfl (h:=ZqN 8 rfl (h:=aM 9 rfl (h:=ZaE (d:=28) rfl (fun g4=>?_) (fun g4=>?_)))))))
 try simp only [sQ,ne_eq] at g4
 refine aZ 10 rfl (h:=aZ 11 rfl (h:=aZ 12 rfl (h:=aZ 13 rfl (h:=aZ 14 rfl (h:=aZ 15 rfl (h:=aPT 16 rfl (h:=aM 17 rfl (h:=aM 18 rfl (h:=aM 19 rfl (h:=aIx 20 rfl Tryz.underlying53 ZbL (h:=aW 21 rfl Zgt (h:=aT 22 rfl (Zan fun D=>Zl rfl rfl lk3 rfl (hc4 _ 1 _ rfl) r4) (h:=?_)))))))))))))
 refine aM 23 rfl (h:=aT 24 rfl (Zan fun D=>ZaR rfl rfl ZtS rfl (ZjT g.1 om2 _) r4) (h:=?_))
 refine aT 25 rfl (Zan fun D=>Zfj (a:=x.rights) (b:=(Zbt g.1)) (r:=Int.tdiv x.rights (Zbt g.1)) rfl rfl rfl rfl oz (Zja oz oz oz) r4) (h:=?_)
 refine aT 26 rfl (Zan fun D=>ZfN (a:=(Int.tdiv x.rights (Zbt g.1))) (b:=2) (r:=Int.tmod (Int.tdiv x.rights (Zbt g.1)) 2) rfl rfl rfl rfl (by decide) rfl r4) (h:=?_)
 refine ZqO 27 rfl (h:=aPT 28 rfl (h:=aPF 29 rfl (h:=aA 30 rfl (h:=ZD kr kr ?_))))
 refine Zz (Zf (Ze (xM (h:=xD (h:=xA (h:=?_))))))
 exact ZE (o.1+1,decide (Int.tmod (Int.tdiv x.rights (Zbt g.1)) 2=1)) [] so2 ⟨rfl,so,by rw [ZdK hx,← hon,g3,onB];simp [g4]⟩ t8 rfl
 try simp only [sQ,ne_eq] at g4
 refine aM 10 rfl (h:=aM 11 rfl (h:=aIx 12 rfl Tryz.underlying53 ZbL (h:=aW 13 rfl ZcH (h:=aT 14 rfl (Zan fun D=>Zl rfl rfl lk9 rfl (hc4 _ 0 _ rfl) r4) (h:=ZqN 15 rfl (h:=aPF 16 rfl (h:=aM 17 rfl (h:=ZaE (d:=36) rfl (fun g5=>?_) (fun g5=>?_)))))))))
 try simp only [sQ,ne_eq] at g5
 refine aM 18 rfl (h:=aM 19 rfl (h:=aIx 20 rfl Tryz.underlying53 ZbL (h:=aW 21 rfl Zgt (h:=aT 22 rfl (Zan fun D=>Zl rfl rfl lk3 rfl (hc4 _ 1 _ rfl) r4) (h:=aM 23 rfl (h:=aT 24 rfl (Zan fun D=>ZaR rfl rfl ZtS rfl (ZjT g.1 om2 _) r4) (h:=?_)))))))
 refine aT 25 rfl (Zan fun D=>Zfj (a:=x.rights) (b:=(Zbt g.1)) (r:=Int.tdiv x.rights (Zbt g.1)) rfl rfl rfl rfl oz (Zja oz oz oz) r4) (h:=?_)
 refine aT 26 rfl (Zan fun D=>ZfN (a:=(Int.tdiv x.rights (Zbt g.1))) (b:=2) (r:=Int.tmod (Int.tdiv x.rights (Zbt g.1)) 2) rfl rfl rfl rfl (by decide) rfl r4) (h:=?_)
 refine ZqO 27 rfl (h:=aPT 28 rfl (h:=aPF 29 rfl (h:=aA 30 rfl (h:=ZD kr kr ?_))))
 refine Zz (Zf (Ze (xM (h:=xD (h:=xA (h:=?_))))))
 exact ZE (o.1+1,decide (Int.tmod (Int.tdiv x.rights (Zbt g.1)) 2=1)) [] so2 ⟨rfl,so,by rw [ZdK hx,← hon,g3,onB];simp [g5,anyone]⟩ t8 rfl
 try simp only [sQ,ne_eq] at g5
 refine aZ 18 rfl (h:=aZ 19 rfl (h:=aZ 20 rfl (h:=aZ 21 rfl (h:=aZ 22 rfl (h:=aZ 23 rfl (h:=aZ 24 rfl (h:=aZ 25 rfl (h:=aZ 26 rfl (h:=aZ 27 rfl (h:=aPF 28 rfl (h:=aPF 29 rfl (h:=aA 30 rfl (h:=?_)))))))))))))
 refine ZD kr kr ?_
 refine Zz (Zf (Ze (xM (h:=xD (h:=xA (h:=?_))))))
 exact ZE (o.1+1,false) [] so2 ⟨rfl,so,by rw [ZdK hx,← hon,g3,onB];simp [g4,g5,anyone]⟩ t8 rfl
 try simp only [sQ,ne_eq] at g2
 have hae:=ZqG hon oz
 refine ZY (Zal (Z6 (ZN (Zf (Za (xM (h:=Zd rfl (fun g6=>?_) (fun g6=>?_))))))))
 try simp only [sQ,ne_eq] at g6
 refine Ze (xM (h:=xM (h:=xR ZtS rfl (ZjT g.1 om2 _) (h:=?_))))
 refine xD (h:=xA (h:=Zz (Zf (Ze (xM (h:=xD (h:=xA (h:=?_))))))))
 exact ZE (g.1+1,g.2+Zbt g.1) [] so2 ⟨rfl,so,by simp only [Zfg];rw [← hae,if_pos g6,hs]⟩ t5 rfl
 try simp only [sQ,ne_eq] at g6
 refine Zi (Zz (Zf (Ze (xM (h:=xD (h:=xA (h:=?_)))))))
 exact ZE (g.1+1,g.2) [] so2 ⟨rfl,so,by simp only [Zfg];rw [← hae,if_neg (by simp [g6]),hs]⟩ t5 rfl
 try simp only [sQ,ne_eq] at g1
 refine ZY (Zal (Z6 (ZN (Zf (Za (xM (h:=xA (h:=Zg ?_))))))))
 exact ZW .ret (.inl rfl) [_] t1 ⟨ZaA (by rw [hs,show g.1=6 from by omega];rfl),rfl,rfl⟩

set_option maxHeartbeats 400000 in
theorem ZhT (n:Int) (B:Kn):Za1 (pj J) 131 [.int .i64 n] B (.bool (ZdE n)):=by
 refine Zc 5 Tryz.func131 rfl rfl rfl (Nat.le_of_ble_eq_true rfl) ?_
 refine Za (xA (h:=Za (xM (h:=xR Zjt rfl (Zch _ _ _ _) (h:=xA (h:=Zg ?_))))))
 exact ZW .ret (.inl rfl) [_] t1 ⟨rfl,rfl,rfl⟩

end Go.Proofs.YtnfoidafdcgdbaaGreatDoor
