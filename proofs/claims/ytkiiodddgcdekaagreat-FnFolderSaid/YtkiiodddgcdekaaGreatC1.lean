/-
  WHAT THE FUNCTIONS THAT THE LAWS REACH COMPUTE: each function's contract, proved off its printed body (the text is written by program). No condition beyond those that each theorem states.
-/
import Derived.Test.YtkiiodddgcdekaaGreatC0
namespace Go.Proofs.YtkiiodddgcdekaaGreat
open Go Go.BL
set_option linter.unusedVariables false
set_option linter.unusedSimpArgs false
set_option maxRecDepth 4000
variable {J : JoinT}
set_option maxHeartbeats 400000 in
theorem ZmG (aq:Option Addr) (cq:Nat) (q:DQueue) (B:Kn) (hq:SlK B aq cq 4 Zj q.items):Za6 (pj J) 39 [.agg #[.int .i64 q.next,.slice aq q.items.length cq]] B (.bool (Zag q)):=by
 refine Zc 42 Tryz.func39 rfl rfl rfl (Nat.le_of_ble_eq_true rfl) ?_
 have hqn:=hq.len
 refine Za (xBx [_,_] (h:=fun b1=>xA (h:=Zu [_] rfl (Zk (Za (xW ZaM (h:=x1 ZfX 0 (h:=xV Tryz.underlying25 (h:=Zbf (h:=xM (h:=Zq (d:=9) rfl (fun g1=>?_) (fun g1=>?_))))))))))))
 try simp only [sQ,ne_eq] at g1
 refine xP (h:=xP (h:=xP (h:=xT (h:=xM (h:=xP (h:=xP (h:=xP (h:=xT (h:=Zd (t:=true) rfl (fun _=>Za (xA (h:=Zh (Zs ?_)))) (fun h=>Bool.noConfusion h))))))))))
 exact ZW .ret (.inl rfl) [_] t1 ⟨Zm (ZgG oz),rfl,rfl⟩
 try simp only [sQ,ne_eq] at g1
 refine xW Ze7 (h:=x1 lk3 0 (h:=Zaf (h:=xF (h:=xM (h:=Zq (d:=14) rfl (fun g2=>?_) (fun g2=>?_))))))
 try simp only [sQ,ne_eq] at g2
 refine xP (h:=xP (h:=xP (h:=xT (h:=Zd (t:=true) rfl (fun _=>Za (xA (h:=Zh (Zs ?_)))) (fun h=>Bool.noConfusion h)))))
 exact ZW .ret (.inl rfl) [_] t1 ⟨Zm (ZgG oz),rfl,rfl⟩
 try simp only [sQ,ne_eq] at g2
 refine xW Ze7 (h:=x1 lk3 0 (h:=Zbf (h:=xF (h:=Zd rfl (fun g3=>?_) (fun g3=>?_)))))
 try simp only [sQ,ne_eq] at g3
 refine Za (xA (h:=Zh (Zs ?_)))
 exact ZW .ret (.inl rfl) [_] t1 ⟨Zm (ZgG oz),rfl,rfl⟩
 try simp only [sQ,ne_eq] at g3
 refine Zi (Zf (Zk (Za (xW ZaM (h:=x1 ZfX 0 (h:=xV Tryz.underlying25 (h:=xM (h:=Zp (ZS (α:=Nat) [0,1,18,20,21] (fun k=>[(22,.int .i64 k)]) [] (fun k=>[]) (fun k Bx=>Bx=B∧k≤q.items.length∧(q.items.take k).all Zcz=true) (fun k=>q.items.length - k) 0 t1 rfl (⟨rfl,Nat.zero_le _,by simp⟩) (fun k B2 hle2 hI=>?_))))))))))
 obtain ⟨rfl,hk,ha⟩:=hI
 refine ZR [(0,_),(1,_),(18,_),(20,_),(21,_),(22,_)] [_] t6 rfl (Za (Zaf (h:=Zk (Zd rfl (fun g4=>?_) (fun g4=>?_)))))
 try simp only [sQ,ne_eq] at g4
 refine Zi (Zf (Zk (Zp (Za ?_))))
 obtain ⟨x,hx⟩:=Zar (xs:=q.items) (i:=k) om
 obtain ⟨bb4,oo4,rfl⟩:=hq.base hx
 obtain ⟨_,⟨qi5,ci5,rfl,hi5,hb5,hb5b⟩,hc5⟩:=hq.elem hx
 have hi5n:=hi5.len
 refine xIx Tryz.underlying25 ZeG (h:=yL [_,_,_,_] Zl5 hc5 0 (h:=xAl [_,_,_,_] Zi2 (h:=fun b6=>xS [_,_,_,_] 1 [_,_,_,_] ZeG (h:=Zu [_,_] rfl (Za (xW ZnD (h:=x1 lk9 1 (h:=xW ZbM (h:=x1 ZhE 1 (h:=xW Zqj (h:=x1 lk9 1 (h:=xB [(0,_),(1,_),(2,_)] [_,_,_] [_,_,_] Zrk ZnT (h:=?_)))))))))))))
 refine xR Zw3 rfl (Zlw _ _ ⟨x.fr,x.left,x.text⟩ _ hi5 oa oa) (h:=?_)
 refine xN (h:=Zd rfl (fun g5=>?_) (fun g5=>?_))
 try simp only [sQ,ne_eq] at g5
 refine Za (xA (h:=Zh (ZO (Zs (Zad (ZO (Zs ?_)))))))
 exact ZW .ret (.inl rfl) [_] t1 ⟨Zm (Zmv hx g5),rfl,rfl⟩
 try simp only [sQ,ne_eq] at g5
 refine Zi (ZA (Zf (Ze (xD (h:=xM (h:=?_))))))
 exact ZC (k+1) [0] so2 ⟨rfl,oz,ZuS hx g5 ha⟩ t6 rfl
 try simp only [sQ,ne_eq] at g4
 refine Z0 (Zal (Z6 (ZK (Zf (Za (xW ZaM (h:=x1 ZfX 0 (h:=xW Ze7 (h:=x1 lk3 0 (h:=xU (h:=xR Zw2 rfl (ZmI _ _ _ _ _ hq) (h:=xA (h:=Zh ?_)))))))))))))
 exact ZW .ret (.inl rfl) [_] t1 ⟨Zm (Zmu oz ha oz oz oz),rfl,rfl⟩

set_option maxHeartbeats 400000 in
theorem ZeY (n:Int) (B:Kn):Za6 (pj J) 140 [.int .i64 n] B (.bool (decide (0≤n) && decide (n≤31))):=by
 refine Zc 5 Tryz.func140 rfl rfl rfl (Nat.le_of_ble_eq_true rfl) ?_
 refine Za (xA (h:=Za (xM (h:=xR ZjX rfl (Zco _ _ _ _) (h:=xA (h:=Zh ?_))))))
 exact ZW .ret (.inl rfl) [_] t1 ⟨rfl,rfl,rfl⟩

set_option maxHeartbeats 400000 in
theorem ZmH (n:Int) (B:Kn):Za6 (pj J) 100 [.int .i64 n] B (.bool (decide (0≤n) && decide (n≤31))):=by
 refine Zc 9 Tryz.func100 rfl rfl rfl (Nat.le_of_ble_eq_true rfl) ?_
 refine Za (xA (h:=Za (xM (h:=Zd2 (h:=xM (h:=Zq (d:=5) rfl (fun g1=>?_) (fun g1=>?_)))))))
 try simp only [sQ,ne_eq] at g1
 refine xM (h:=ZcF (h:=xT (h:=xA (h:=Zh ?_))))
 exact ZW .ret (.inl rfl) [_] t1 ⟨Zm (by rw [Bool.eq_iff_iff];simp [g1];try omega),rfl,rfl⟩
 try simp only [sQ,ne_eq] at g1
 refine xP (h:=xP (h:=xF (h:=xA (h:=Zh ?_))))
 exact ZW .ret (.inl rfl) [_] t1 ⟨Zm (by rw [Bool.eq_iff_iff];simp [g1];try omega),rfl,rfl⟩

set_option maxHeartbeats 400000 in
theorem Zp2 (m:DMail) (hm:m.text.length≤2000000) (B:Kn):Za6 (pj J) 136 [.agg #[.int .i64 m.uid,.int .i64 m.flags,str m.text]] B (.bool (ZbB m)):=by
 refine Zc 17 Tryz.func136 rfl rfl rfl (Nat.le_of_ble_eq_true rfl) ?_
 refine Za (xBx [_,_,_] (h:=fun b1=>xA (h:=Zu [_] rfl (Za (xW Zhm (h:=x1 lk3 0 (h:=xR ZjX rfl (Zco _ _ _ _) (h:=xM (h:=Zq (d:=6) rfl (fun g1=>?_) (fun g1=>?_))))))))))
 try simp only [sQ,ne_eq] at g1
 refine xW ZiG (h:=x1 lk3 0 (h:=xR Zqx rfl (ZeY _ _) (h:=xT (h:=xM (h:=Zq (d:=11) rfl (fun g2=>?_) (fun g2=>?_))))))
 try simp only [sQ,ne_eq] at g2
 refine xW ZlE (h:=x1 lk9 0 (h:=xVs Tryz.underlying9 (h:=ZcF (h:=xT (h:=xA (h:=Zh ?_))))))
 exact ZW .ret (.inl rfl) [_] t1 ⟨Zm (by rw [Bool.eq_iff_iff];simp [ZbB,g1,g2];try omega),rfl,rfl⟩
 try simp only [sQ,ne_eq] at g2
 refine xP (h:=xP (h:=xP (h:=xP (h:=xF (h:=xA (h:=Zh ?_))))))
 exact ZW .ret (.inl rfl) [_] t1 ⟨Zm (by rw [Bool.eq_iff_iff];simp [ZbB,g1,g2];try omega),rfl,rfl⟩
 try simp only [sQ,ne_eq] at g1
 refine xP (h:=xP (h:=xP (h:=xF (h:=xM (h:=xP (h:=xP (h:=xP (h:=xP (h:=xF (h:=xA (h:=Zh ?_)))))))))))
 exact ZW .ret (.inl rfl) [_] t1 ⟨Zm (by rw [Bool.eq_iff_iff];simp [ZbB,g1];try omega),rfl,rfl⟩

set_option maxHeartbeats 400000 in
theorem Zov (m:DMail) (hm:m.text.length≤2000000) (B:Kn):Za6 (pj J) 63 [.agg #[.int .i64 m.uid,.int .i64 m.flags,str m.text]] B (.bool (ZbB m)):=by
 refine Zc 22 Tryz.func63 rfl rfl rfl (Nat.le_of_ble_eq_true rfl) ?_
 refine Za (xBx [_,_,_] (h:=fun b1=>xA (h:=Zu [_] rfl (Za (xW Zhm (h:=x1 lk3 0 (h:=Zd2 (h:=xM (h:=Zq (d:=6) rfl (fun g1=>?_) (fun g1=>?_))))))))))
 try simp only [sQ,ne_eq] at g1
 refine xW Zhm (h:=x1 lk3 0 (h:=ZcF (h:=xT (h:=xM (h:=Zq (d:=11) rfl (fun g2=>?_) (fun g2=>?_))))))
 try simp only [sQ,ne_eq] at g2
 refine xW ZiG (h:=x1 lk3 0 (h:=xR Zwl rfl (ZmH _ _) (h:=xT (h:=xM (h:=Zq (d:=16) rfl (fun g3=>?_) (fun g3=>?_))))))
 try simp only [sQ,ne_eq] at g3
 refine xW ZlE (h:=x1 lk9 0 (h:=xVs Tryz.underlying9 (h:=ZcF (h:=xT (h:=xA (h:=Zh ?_))))))
 exact ZW .ret (.inl rfl) [_] t1 ⟨Zm (by rw [Bool.eq_iff_iff];simp [ZbB,g1,g2,g3];try omega),rfl,rfl⟩
 try simp only [sQ,ne_eq] at g3
 refine xP (h:=xP (h:=xP (h:=xP (h:=xF (h:=xA (h:=Zh ?_))))))
 exact ZW .ret (.inl rfl) [_] t1 ⟨Zm (by rw [Bool.eq_iff_iff];simp [ZbB,g1,g2,g3];try omega),rfl,rfl⟩
 try simp only [sQ,ne_eq] at g2
 refine xP (h:=xP (h:=xP (h:=xF (h:=xM (h:=xP (h:=xP (h:=xP (h:=xP (h:=xF (h:=xA (h:=Zh ?_)))))))))))
 exact ZW .ret (.inl rfl) [_] t1 ⟨Zm (by rw [Bool.eq_iff_iff];simp [ZbB,g1,g2];try omega),rfl,rfl⟩
 try simp only [sQ,ne_eq] at g1
 refine xP (h:=xP (h:=xP (h:=xF (h:=xM (h:=xP (h:=xP (h:=xP (h:=xF (h:=xM (h:=xP (h:=xP (h:=xP (h:=?_)))))))))))))
 refine xP (h:=xF (h:=xA (h:=Zh ?_)))
 exact ZW .ret (.inl rfl) [_] t1 ⟨Zm (by rw [Bool.eq_iff_iff];simp [ZbB,g1];try omega),rfl,rfl⟩

set_option maxHeartbeats 400000 in
theorem Zgi (q:Option Addr) (cp:Nat) (x:DBox) (B:Kn) (hx:SlK B q cp 3 ZF x.mail):Za6 (pj J) 89 [.agg #[.int .i64 x.next,.slice q x.mail.length cp]] B (.bool (Zbm x)):=by
 refine Zc 46 Tryz.func89 rfl rfl rfl (Nat.le_of_ble_eq_true rfl) ?_
 have hxn:=hx.len
 refine Za (xBx [_,_] (h:=fun b1=>xA (h:=Zu [_] rfl (Za (xA (h:=Zk (Za (xA (h:=Zp (ZS (α:=Nat × Int) [0,1] (fun g=>[(3,.int .i64 g.2),(4,.int .i64 g.1)]) [] (fun g=>[]) (fun g Bx=>Bx=B∧g.1≤x.mail.length∧Zcg (x.mail.take g.1)=(true,g.2)∧0≤g.2∧g.2≤99) (fun g=>x.mail.length - g.1) (0,0) t2 rfl (⟨rfl,Nat.zero_le _,ZeP,oz,oz⟩) (fun g B2 hle2 hI=>?_)))))))))))
 obtain ⟨rfl,hk,hs,hl0,hl1⟩:=hI
 refine ZR [(0,_),(1,_),(3,_),(4,_)] [_] t4 rfl (Zk (Za (xM (h:=xW ZaQ (h:=x1 Zfw 0 (h:=xV Tryz.underlying34 (h:=Zaf (h:=Zd rfl (fun g1=>?_) (fun g1=>?_)))))))))
 try simp only [sQ,ne_eq] at g1
 refine Zi (Zf (Zk (Zp (Zk (Za (xW ZaQ (h:=x1 Zfw 0 (h:=xM (h:=?_)))))))))
 obtain ⟨m,hm⟩:=Zar (xs:=x.mail) (i:=g.1) om
 obtain ⟨bb4,oo4,rfl⟩:=hx.base hm
 obtain ⟨_,⟨rfl,hb5⟩,hc5⟩:=hx.elem hm
 refine xIx Tryz.underlying34 ZgE (h:=yL [_,_,_] ZsD hc5 0 (h:=xR Zwc rfl (Zp2 m om2 _) (h:=?_)))
 refine xN (h:=xM (h:=Zq (d:=19) rfl (fun g2=>?_) (fun g2=>?_)))
 try simp only [sQ,ne_eq] at g2
 refine xP (h:=xP (h:=xP (h:=xP (h:=xP (h:=xP (h:=xP (h:=xP (h:=xT (h:=Zd (t:=true) rfl (fun _=>Za (xA (h:=Zh (Zs (ZO (Zs (Zad (ZO (Zs ?_))))))))) (fun h=>Bool.noConfusion h))))))))))
 exact ZW .ret (.inl rfl) [_] t1 ⟨Zm (Zgz (ZfR hm (by rw [show (scn ZbQ (fun _ m=>m.uid) 0 (x.mail.take g.1)).2=g.2 from congrArg Prod.snd hs];simp [ZbQ,g2]))).symm,rfl,rfl⟩
 try simp only [sQ,ne_eq] at g2
 refine xW ZaQ (h:=x1 Zfw 0 (h:=xM (h:=xIx Tryz.underlying34 ZgE (h:=xW Zhm (h:=y1 lk3 hc5 0 (h:=xM (h:=ZcF (h:=xF (h:=Zd rfl (fun g3=>?_) (fun g3=>?_))))))))))
 try simp only [sQ,ne_eq] at g3
 refine Za (xA (h:=Zh (Zs (ZO (Zs (Zad (ZO (Zs ?_))))))))
 exact ZW .ret (.inl rfl) [_] t1 ⟨Zm (Zgz (ZfR hm (by rw [show (scn ZbQ (fun _ m=>m.uid) 0 (x.mail.take g.1)).2=g.2 from congrArg Prod.snd hs];simp [ZbQ,g2];omega))).symm,rfl,rfl⟩
 try simp only [sQ,ne_eq] at g3
 refine Zi (Zf (Ze (xW ZaQ (h:=x1 Zfw 0 (h:=xM (h:=xIx Tryz.underlying34 ZgE (h:=xW Zhm (h:=y1 lk3 hc5 0 (h:=xA (h:=ZA (Zf (Ze (xM (h:=?_))))))))))))))
 refine xD (h:=xA (h:=?_))
 exact ZC (g.1+1,m.uid) [0] so2 ⟨rfl,oz,Zcf hm hs (by simp [ZbQ,g2];omega),ZjH g2⟩ t4 rfl
 try simp only [sQ,ne_eq] at g1
 refine Z0 (Zal (Z6 (ZK (Zf (Za (xW Zcq (h:=x1 lk3 0 (h:=xM (h:=xD (h:=xR ZjX rfl (Zco _ _ _ _) (h:=xM (h:=Zq (d:=40) rfl (fun g4=>?_) (fun g4=>?_)))))))))))))
 try simp only [sQ,ne_eq] at g4
 refine xW ZaQ (h:=x1 Zfw 0 (h:=xV Tryz.underlying34 (h:=ZcF (h:=xT (h:=xA (h:=Zh ?_))))))
 exact ZW .ret (.inl rfl) [_] t1 ⟨Zm (by rw [ZdE (ZdX hs oz),g4,Bool.true_and,Bool.eq_iff_iff];simp;omega),rfl,rfl⟩
 try simp only [sQ,ne_eq] at g4
 refine xP (h:=xP (h:=xP (h:=xP (h:=xF (h:=xA (h:=Zh ?_))))))
 exact ZW .ret (.inl rfl) [_] t1 ⟨Zm (by rw [ZdE (ZdX hs oz),g4,Bool.false_and]),rfl,rfl⟩

set_option maxHeartbeats 400000 in
theorem Zly (q:Option Addr) (cp:Nat) (x:DBox) (B:Kn) (hx:SlK B q cp 3 ZF x.mail):Za6 (pj J) 33 [.agg #[.int .i64 x.next,.slice q x.mail.length cp]] B (.bool (Zbm x)):=by
 refine Zc 38 Tryz.func33 rfl rfl rfl (Nat.le_of_ble_eq_true rfl) ?_
 have hxn:=hx.len
 refine Za (xBx [_,_] (h:=fun b1=>xA (h:=Zu [_] rfl (Zk (Za (xW ZaQ (h:=x1 Zfw 0 (h:=xV Tryz.underlying34 (h:=Zbf (h:=Zd rfl (fun g0=>?_) (fun g0=>?_)))))))))))
 try simp only [sQ,ne_eq] at g0
 refine Za (xA (h:=Zh (Zs ?_)))
 exact ZW .ret (.inl rfl) [_] t1 ⟨Zm (by simp [Zbm];omega),rfl,rfl⟩
 try simp only [sQ,ne_eq] at g0
 refine Zi (Zf (Za (xA (h:=Zk (Za (xW ZaQ (h:=x1 Zfw 0 (h:=xV Tryz.underlying34 (h:=xM (h:=Zp (ZS (α:=Nat × Int) [0,1,9,11,12] (fun g=>[(3,.int .i64 g.2),(13,.int .i64 g.1)]) [] (fun g=>[]) (fun g Bx=>Bx=B∧g.1≤x.mail.length∧Zcg (x.mail.take g.1)=(true,g.2)∧0≤g.2∧g.2≤99) (fun g=>x.mail.length - g.1) (0,0) t2 rfl (⟨rfl,Nat.zero_le _,ZeP,oz,oz⟩) (fun g B2 hle2 hI=>?_))))))))))))
 obtain ⟨rfl,hk,hs,hl0,hl1⟩:=hI
 refine ZR [(0,_),(1,_),(3,_),(9,_),(11,_),(12,_),(13,_)] [_] t7 rfl (Za (Zaf (h:=Zk (Zd rfl (fun g1=>?_) (fun g1=>?_)))))
 try simp only [sQ,ne_eq] at g1
 refine Zi (Zf (Zk (Zp (Za ?_))))
 obtain ⟨m,hm⟩:=Zar (xs:=x.mail) (i:=g.1) om
 obtain ⟨bb4,oo4,rfl⟩:=hx.base hm
 obtain ⟨_,⟨rfl,hb5⟩,hc5⟩:=hx.elem hm
 refine xIx Tryz.underlying34 ZgE (h:=yL [_,_,_] ZsD hc5 0 (h:=xAl [_,_,_] ZnS (h:=fun b6=>xS [_,_,_] 1 [_,_,_] ZgE (h:=Zu [_,_] rfl (Zk (Za (xL [_,_,_] ZsD 1 (h:=xR Zxb rfl (Zov m om2 _) (h:=?_)))))))))
 refine xN (h:=xM (h:=Zq (d:=20) rfl (fun g2=>?_) (fun g2=>?_)))
 try simp only [sQ,ne_eq] at g2
 refine xP (h:=xP (h:=xP (h:=xP (h:=xT (h:=Zd (t:=true) rfl (fun _=>Za (xA (h:=Zh (Zs (ZO (Zs (Zad (ZO (Zs ?_))))))))) (fun h=>Bool.noConfusion h))))))
 exact ZW .ret (.inl rfl) [_] t1 ⟨Zm (Zgz (ZfR hm (by rw [show (scn ZbQ (fun _ m=>m.uid) 0 (x.mail.take g.1)).2=g.2 from congrArg Prod.snd hs];simp [ZbQ,g2]))).symm,rfl,rfl⟩
 try simp only [sQ,ne_eq] at g2
 refine xW Zhm (h:=x1 lk3 1 (h:=xM (h:=ZcF (h:=xF (h:=Zd rfl (fun g3=>?_) (fun g3=>?_))))))
 try simp only [sQ,ne_eq] at g3
 refine Za (xA (h:=Zh (Zs (ZO (Zs (Zad (ZO (Zs ?_))))))))
 exact ZW .ret (.inl rfl) [_] t1 ⟨Zm (Zgz (ZfR hm (by rw [show (scn ZbQ (fun _ m=>m.uid) 0 (x.mail.take g.1)).2=g.2 from congrArg Prod.snd hs];simp [ZbQ,g2];omega))).symm,rfl,rfl⟩
 try simp only [sQ,ne_eq] at g3
 refine Zi (Zf (Ze (xW Zhm (h:=x1 lk3 1 (h:=xA (h:=ZA (Zf (Ze (xD (h:=xM (h:=?_)))))))))))
 exact ZC (g.1+1,m.uid) [0] so2 ⟨rfl,oz,Zcf hm hs (by simp [ZbQ,g2];omega),ZjH g2⟩ t7 rfl
 try simp only [sQ,ne_eq] at g1
 refine Z0 (Zal (Z6 (ZK (Zf (Za (xW Zcq (h:=x1 lk3 0 (h:=xM (h:=Zbf (h:=xM (h:=Zq (d:=33) rfl (fun g4=>?_) (fun g4=>?_))))))))))))
 try simp only [sQ,ne_eq] at g4
 refine xW Zcq (h:=x1 lk3 0 (h:=ZcF (h:=xT (h:=xA (h:=Zh ?_)))))
 exact ZW .ret (.inl rfl) [_] t1 ⟨Zm (by rw [ZdE (ZdX hs oz),Bool.eq_iff_iff];simp;omega),rfl,rfl⟩
 try simp only [sQ,ne_eq] at g4
 refine xP (h:=xP (h:=xP (h:=xF (h:=xA (h:=Zh ?_)))))
 exact ZW .ret (.inl rfl) [_] t1 ⟨Zm (by rw [ZdE (ZdX hs oz),Bool.eq_iff_iff];simp;omega),rfl,rfl⟩

set_option maxHeartbeats 400000 in
theorem Zp1 (q:Option Addr) (cp:Nat) (x:DBox) (B:Kn) (hx:SlK B q cp 3 ZF x.mail):Za6 (pj J) 62 [.agg #[.int .i64 x.next,.slice q x.mail.length cp]] B (.int .i64 (Zao x.mail)):=by
 refine Zc 22 Tryz.func62 rfl rfl rfl (Nat.le_of_ble_eq_true rfl) ?_
 have hxn:=hx.len
 refine Za (xBx [_,_] (h:=fun b1=>xA (h:=Zu [_] rfl (Za (xA (h:=Zk (Za (xA (h:=Zp (ZS (α:=Nat × Nat) [0,1,2] (fun g=>[(3,.int .i64 g.2),(4,.int .i64 g.1)]) [] (fun g=>[]) (fun g Bx=>Bx=B∧g.1≤x.mail.length∧g.2=Zao (x.mail.take g.1)∧g.2≤g.1*2000000) (fun g=>x.mail.length - g.1) (0,0) t2 rfl (⟨rfl,Nat.zero_le _,by simp [Zao],oz⟩) (fun g B2 hle2 hI=>?_)))))))))))
 obtain ⟨rfl,hk,hs,hl⟩:=hI
 refine ZR [(0,_),(1,_),(2,_),(3,_),(4,_)] [_] t5 rfl (Zk (Za (xM (h:=xW ZaQ (h:=x1 Zfw 0 (h:=xV Tryz.underlying34 (h:=Zaf (h:=Zd rfl (fun g1=>?_) (fun g1=>?_)))))))))
 try simp only [sQ,ne_eq] at g1
 refine Zi (Zf (Zk (Zp (Ze (xM (h:=xW ZaQ (h:=x1 Zfw 0 (h:=xM (h:=?_)))))))))
 obtain ⟨m,hm⟩:=Zar (xs:=x.mail) (i:=g.1) om
 obtain ⟨bb4,oo4,rfl⟩:=hx.base hm
 obtain ⟨_,⟨rfl,hb5⟩,hc5⟩:=hx.elem hm
 refine xIx Tryz.underlying34 ZgE (h:=xW ZlE (h:=y1 lk9 hc5 2 (h:=xVs Tryz.underlying9 (h:=xD (h:=xA (h:=ZA (Zf (Ze (xM (h:=xD (h:=xA (h:=?_))))))))))))
 exact ZC (g.1+1,g.2+m.text.length) [0] so2 ⟨rfl,oz,by rw [Zh7 hm,← hs],oz⟩ t5 rfl
 try simp only [sQ,ne_eq] at g1
 refine Z0 (Zal (Z6 (ZK (Zf (Za (xM (h:=xA (h:=Zh ?_))))))))
 exact ZW .ret (.inl rfl) [_] t1 ⟨Za4 (by rw [← Zjs hs oz]),rfl,rfl⟩

set_option maxHeartbeats 400000 in
theorem ZlR (q:Option Addr) (cp:Nat) (x:DBox) (B:Kn) (hx:SlK B q cp 3 ZF x.mail):Za6 (pj J) 13 [.agg #[.int .i64 x.next,.slice q x.mail.length cp]] B (.int .i64 (ZdC x)):=by
 refine Zc 23 Tryz.func13 rfl rfl rfl (Nat.le_of_ble_eq_true rfl) ?_
 have hxn:=hx.len
 refine Za (xBx [_,_] (h:=fun b1=>xA (h:=Zu [_] rfl (Zk (Za (xL [_,_] ZbL 0 (h:=xR ZwB rfl (Zly _ _ (⟨x.next,x.mail⟩:DBox) _ hx) (h:=xN (h:=Zd rfl (fun g0=>?_) (fun g0=>?_))))))))))
 try simp only [sQ,ne_eq] at g0
 refine Za (xA (h:=Zh (Zs ?_)))
 exact ZW .ret (.inl rfl) [_] t1 ⟨Za4 (by simp [ZdC,g0]),rfl,rfl⟩
 try simp only [sQ,ne_eq] at g0
 refine Zi (Zf (Za (xA (h:=Zk (Za (xW ZaQ (h:=x1 Zfw 0 (h:=xV Tryz.underlying34 (h:=xM (h:=Zp (ZS (α:=Nat × Nat) [0,1,2,8,10,11] (fun g=>[(3,.int .i64 g.2),(12,.int .i64 g.1)]) [] (fun g=>[]) (fun g Bx=>Bx=B∧g.1≤x.mail.length∧g.2=Zao (x.mail.take g.1)∧g.2≤g.1*2000000) (fun g=>x.mail.length - g.1) (0,0) t2 rfl (⟨rfl,Nat.zero_le _,by simp [Zao],oz⟩) (fun g B3 hle3 hI=>?_))))))))))))
 obtain ⟨rfl,hk,hs,hl⟩:=hI
 refine ZR [(0,_),(1,_),(2,_),(3,_),(8,_),(10,_),(11,_),(12,_)] [_] t8 rfl (Za (Zaf (h:=Zk (Zd rfl (fun g1=>?_) (fun g1=>?_)))))
 try simp only [sQ,ne_eq] at g1
 refine Zi (Zf (Zk (Zp (Za ?_))))
 obtain ⟨m,hm⟩:=Zar (xs:=x.mail) (i:=g.1) om
 obtain ⟨bb5,oo5,rfl⟩:=hx.base hm
 obtain ⟨_,⟨rfl,hb6⟩,hc6⟩:=hx.elem hm
 refine xIx Tryz.underlying34 ZgE (h:=yL [_,_,_] ZsD hc6 0 (h:=xAl [_,_,_] ZnS (h:=fun b7=>xS [_,_,_] 1 [_,_,_] ZgE (h:=Zu [_,_] rfl (Ze (xM (h:=xW ZlE (h:=x1 lk9 1 (h:=xVs Tryz.underlying9 (h:=xD (h:=xA (h:=ZA (Zf ?_)))))))))))))
 refine Ze (xD (h:=xM (h:=?_)))
 exact ZC (g.1+1,g.2+m.text.length) [0] so2 ⟨rfl,oz,by rw [Zh7 hm,← hs],oz⟩ t8 rfl
 try simp only [sQ,ne_eq] at g1
 refine Z0 (Zal (Z6 (ZK (Zf (Za (xM (h:=xA (h:=Zh ?_))))))))
 exact ZW .ret (.inl rfl) [_] t1 ⟨Za4 (by rw [ZdC,if_pos g0,← Zjs hs oz]),rfl,rfl⟩

set_option maxHeartbeats 400000 in
theorem Zrc (n:Int) (B:Kn):Za6 (pj J) 154 [.int .i64 n] B (.bool (decide (0≤n) && decide (n≤63))):=by
 refine Zc 9 Tryz.func154 rfl rfl rfl (Nat.le_of_ble_eq_true rfl) ?_
 refine Za (xA (h:=Za (xM (h:=Zd2 (h:=xM (h:=Zq (d:=5) rfl (fun g1=>?_) (fun g1=>?_)))))))
 try simp only [sQ,ne_eq] at g1
 refine xM (h:=ZcF (h:=xT (h:=xA (h:=Zh ?_))))
 exact ZW .ret (.inl rfl) [_] t1 ⟨Zm (by rw [Bool.eq_iff_iff];simp [g1];try omega),rfl,rfl⟩
 try simp only [sQ,ne_eq] at g1
 refine xP (h:=xP (h:=xF (h:=xA (h:=Zh ?_))))
 exact ZW .ret (.inl rfl) [_] t1 ⟨Zm (by rw [Bool.eq_iff_iff];simp [g1];try omega),rfl,rfl⟩

set_option maxHeartbeats 400000 in
theorem Zmf (u:DUser) (h1:u.name.length≤2000000) (h2:u.pass.length≤2000000) (B:Kn):Za6 (pj J) 64 [.agg #[str u.name,str u.pass,.int .i64 u.quota]] B (.bool (ZbI u)):=by
 refine Zc 26 Tryz.func64 rfl rfl rfl (Nat.le_of_ble_eq_true rfl) ?_
 refine Za (xBx [_,_,_] (h:=fun b1=>xA (h:=Zu [_] rfl (Za (xW ZcH (h:=x1 lk9 0 (h:=xR ZtX rfl (Zdm _ om2 _) (h:=?_))))))))
 refine xM (h:=Zq (d:=6) rfl (fun g1=>?_) (fun g1=>?_))
 try simp only [sQ,ne_eq] at g1
 refine xW ZcH (h:=x1 lk9 0 (h:=Zjf (h:=xT (h:=xM (h:=Zq (d:=11) rfl (fun g2=>?_) (fun g2=>?_))))))
 try simp only [sQ,ne_eq] at g2
 refine xW ZjS (h:=x1 lk9 0 (h:=xR ZtX rfl (Zdm _ om2 _) (h:=?_)))
 refine xT (h:=xM (h:=Zq (d:=16) rfl (fun g3=>?_) (fun g3=>?_)))
 try simp only [sQ,ne_eq] at g3
 refine xW ZfA (h:=x1 lk3 0 (h:=Zd2 (h:=xT (h:=xM (h:=Zq (d:=21) rfl (fun g4=>?_) (fun g4=>?_))))))
 try simp only [sQ,ne_eq] at g4
 refine xW ZfA (h:=x1 lk3 0 (h:=ZcF (h:=xT (h:=xA (h:=Zh ?_)))))
 exact ZW .ret (.inl rfl) [_] t1 ⟨Zm (by rw [Bool.eq_iff_iff];simp [ZbI,anyone,g1,g2,g3,g4];try omega),rfl,rfl⟩
 try simp only [sQ,ne_eq] at g4
 refine xP (h:=xP (h:=xP (h:=xF (h:=xA (h:=Zh ?_)))))
 exact ZW .ret (.inl rfl) [_] t1 ⟨Zm (by rw [Bool.eq_iff_iff];simp [ZbI,anyone,g1,g2,g3,g4];try omega),rfl,rfl⟩
 try simp only [sQ,ne_eq] at g3
 refine xP (h:=xP (h:=xP (h:=xF (h:=xM (h:=xP (h:=xP (h:=xP (h:=xF (h:=xA (h:=Zh ?_))))))))))
 exact ZW .ret (.inl rfl) [_] t1 ⟨Zm (by rw [Bool.eq_iff_iff];simp [ZbI,anyone,g1,g2,g3];try omega),rfl,rfl⟩
 try simp only [sQ,ne_eq] at g2
 refine xP (h:=xP (h:=xP (h:=xF (h:=xM (h:=xP (h:=xP (h:=xP (h:=xF (h:=xM (h:=xP (h:=xP (h:=xP (h:=?_)))))))))))))
 refine xF (h:=xA (h:=Zh ?_))
 exact ZW .ret (.inl rfl) [_] t1 ⟨Zm (by rw [Bool.eq_iff_iff];simp [ZbI,anyone,g1,g2];try omega),rfl,rfl⟩
 try simp only [sQ,ne_eq] at g1
 refine xP (h:=xP (h:=xP (h:=xF (h:=xM (h:=xP (h:=xP (h:=xP (h:=xF (h:=xM (h:=xP (h:=xP (h:=xP (h:=?_)))))))))))))
 refine xF (h:=xM (h:=xP (h:=xP (h:=xP (h:=xF (h:=xA (h:=Zh ?_)))))))
 exact ZW .ret (.inl rfl) [_] t1 ⟨Zm (by rw [Bool.eq_iff_iff];simp [ZbI,anyone,g1];try omega),rfl,rfl⟩

set_option maxHeartbeats 400000 in
theorem Ziw (q:Option Addr) (cp:Nat) (us:List DUser) (B:Kn) (hu:SlK B q cp 3 Zg us):Za6 (pj J) 34 [.slice q us.length cp] B (.bool (Zas us)):=by
 refine Zc 32 Tryz.func34 rfl rfl rfl (Nat.le_of_ble_eq_true rfl) ?_
 have hun:=hu.len
 refine Za (xA (h:=Zk (Za (xM (h:=xV Tryz.underlying23 (h:=Zaf (h:=xM (h:=Zq (d:=9) rfl (fun g0=>?_) (fun g0=>?_)))))))))
 try simp only [sQ,ne_eq] at g0
 refine xP (h:=xP (h:=xP (h:=xT (h:=Zd (t:=true) rfl (fun _=>Za (xA (h:=Zh (Zs ?_)))) (fun h=>Bool.noConfusion h)))))
 exact ZW .ret (.inl rfl) [_] t1 ⟨Zm (by rw [Bool.eq_iff_iff];simp [Zas];omega),rfl,rfl⟩
 try simp only [sQ,ne_eq] at g0
 refine xM (h:=xV Tryz.underlying23 (h:=Zbf (h:=xF (h:=Zd rfl (fun g0b=>?_) (fun g0b=>?_)))))
 try simp only [sQ,ne_eq] at g0b
 refine Za (xA (h:=Zh (Zs ?_)))
 exact ZW .ret (.inl rfl) [_] t1 ⟨Zm (by rw [Bool.eq_iff_iff];simp [Zas];omega),rfl,rfl⟩
 try simp only [sQ,ne_eq] at g0b
 refine Zi (Zf (Za (xA (h:=Zk (Za (xM (h:=xV Tryz.underlying23 (h:=xM (h:=Zp (ZS (α:=Nat × Str) [0,13,14,15] (fun g=>[(3,str g.2),(16,.int .i64 g.1)]) [] (fun g=>[]) (fun g Bx=>Bx=B∧g.1≤us.length∧Zc8 (us.take g.1)=(true,g.2)∧g.2.length≤2000000) (fun g=>us.length - g.1) (0,[]) t2 rfl (⟨rfl,Nat.zero_le _,ZeP,by simp⟩) (fun g B1 hle1 hI=>?_)))))))))))
 obtain ⟨rfl,hk,hs,hl⟩:=hI
 refine ZR [(0,_),(3,_),(13,_),(14,_),(15,_),(16,_)] [] t6 rfl (Za (Zaf (h:=Zk (Zd rfl (fun g1=>?_) (fun g1=>?_)))))
 try simp only [sQ,ne_eq] at g1
 refine Zi (Zf (Zk (Zp (Za ?_))))
 obtain ⟨m,hm⟩:=Zar (xs:=us) (i:=g.1) om
 obtain ⟨bb3,oo3,rfl⟩:=hu.base hm
 obtain ⟨_,⟨rfl,hb4,hb4b⟩,hc4⟩:=hu.elem hm
 refine xIx Tryz.underlying23 Zdi (h:=yL [_,_,_] Zl6 hc4 0 (h:=xAl [_,_,_] ZeJ (h:=fun b5=>xS [_,_,_] 0 [_,_,_] Zdi (h:=Zu [_] rfl (Zk (Za (xL [_,_,_] Zl6 0 (h:=xR Zxa rfl (Zmf m om2 om2 _) (h:=?_)))))))))
 refine xN (h:=xM (h:=Zq (d:=23) rfl (fun g2=>?_) (fun g2=>?_)))
 try simp only [sQ,ne_eq] at g2
 refine xP (h:=xP (h:=xP (h:=xP (h:=xT (h:=Zd (t:=true) rfl (fun _=>Za (xA (h:=Zh (Zs (ZO (Zs (Zad (ZO (Zs ?_))))))))) (fun h=>Bool.noConfusion h))))))
 exact ZW .ret (.inl rfl) [_] t1 ⟨Zm (ZfJ (ZfR hm (by rw [show (scn Zb9 (fun _ u=>u.name) [] (us.take g.1)).2=g.2 from congrArg Prod.snd hs];simp [Zb9,g2]))).symm,rfl,rfl⟩
 try simp only [sQ,ne_eq] at g2
 refine xW ZcH (h:=x1 lk9 0 (h:=xM (h:=Zo (Zst rfl rfl rfl rfl (xF (h:=Zd rfl (fun g3=>?_) (fun g3=>?_)))))))
 try simp only [sQ,ne_eq] at g3
 refine Za (xA (h:=Zh (Zs (ZO (Zs (Zad (ZO (Zs ?_))))))))
 exact ZW .ret (.inl rfl) [_] t1 ⟨Zm (ZfJ (ZfR hm (by rw [show (scn Zb9 (fun _ u=>u.name) [] (us.take g.1)).2=g.2 from congrArg Prod.snd hs,Zb9,Zbr g.2 m.name,g3];simp))).symm,rfl,rfl⟩
 try simp only [sQ,ne_eq] at g3
 refine Zi (Zf (Ze (xW ZcH (h:=x1 lk9 0 (h:=xA (h:=ZA (Zf (Ze (xD (h:=xM (h:=?_)))))))))))
 exact ZC (g.1+1,m.name) [] so2 ⟨rfl,oz,Zcf hm hs (by rw [Zb9,Zbr g.2 m.name,g2,g3];rfl),oy⟩ t6 rfl
 try simp only [sQ,ne_eq] at g1
 refine Z0 (Zal (Z6 (ZK (Zf (Za (xA (h:=Zh ?_)))))))
 exact ZW .ret (.inl rfl) [_] t1 ⟨Zm (by rw [ZhY (ZdX hs oz),Bool.eq_iff_iff];simp;omega),rfl,rfl⟩

set_option maxHeartbeats 400000 in
theorem ZkT (x:DUser) (u:Str) (b:Nat) (h1:x.name.length≤2000000) (h2:u.length≤2000000) (B:Kn) (hb:Zbx B b 0 [str u]):Za6 (pj J) 36 [.agg #[str x.name,str x.pass,.int .i64 x.quota],ptr ⟨b,0,none⟩] B (.bool (decide (x.name=u))):=by
 refine Zc 8 Tryz.func36 rfl rfl rfl (Nat.le_of_ble_eq_true rfl) ?_
 refine Za (xBx [_,_,_] (h:=fun b1=>xA (h:=Zu [_] rfl (Za (xW ZcH (h:=x1 lk9 0 (h:=Zo (Zl rfl rfl lk9 rfl (hb _ 0 _ rfl) (Zcs (h:=xA (h:=Zh ?_)))))))))))
 exact ZW .ret (.inl rfl) [_] t1 ⟨rfl,rfl,rfl⟩

set_option maxHeartbeats 400000 in
theorem Zqq (q:Option Addr) (cp:Nat) (us:List DUser) (F:FuncId) (cap:Array Value) (t:DUser→Bool) (B:Kn) (hu:SlK B q cp 3 Zg us) (he:enters (pj J) F=true) (hF :∀x:DUser,x.name.length≤2000000→x.pass.length≤2000000→Za6 (pj J) F ([.agg #[str x.name,str x.pass,.int .i64 x.quota]] ++ cap.toList) B (.bool (t x))):Za6 (pj J) 35 [.slice q us.length cp,.func (.func F) #[] cap] B (.tuple #[.agg #[str (Zfq t us).1.name,str (Zfq t us).1.pass,.int .i64 (Zfq t us).1.quota],.bool (Zfq t us).2]):=by
 refine Zc 21 Tryz.func35 rfl rfl rfl (Nat.le_of_ble_eq_true rfl) ?_
 have hun:=hu.len
 refine Za (xAl [_,_,_] ZeJ (h:=fun b1=>xA (h:=Zu [_] rfl (Zk (Za (xM (h:=xV Tryz.underlying23 (h:=xM (h:=Zp (ZS (α:=Nat) [0,1,4,9,10] (fun k=>[(11,.int .i64 k)]) [] (fun k=>[]) (fun k Bx=>Bx=B∧k≤us.length∧∀y,y∈us.take k→t y=false) (fun k=>us.length - k) 0 t1 rfl (⟨rfl,Nat.zero_le _,by simp⟩) (fun k B2 hle2 hI=>?_)))))))))))
 obtain ⟨rfl,hk,ha⟩:=hI
 refine ZR [(0,_),(1,_),(4,_),(9,_),(10,_),(11,_)] [_] t6 rfl (Za (Zaf (h:=Zk (Zd rfl (fun g1=>?_) (fun g1=>?_)))))
 try simp only [sQ,ne_eq] at g1
 refine Zi (Zf (Zk (Zp (Za ?_))))
 obtain ⟨m,hm⟩:=Zar (xs:=us) (i:=k) om
 obtain ⟨bb4,oo4,rfl⟩:=hu.base hm
 obtain ⟨_,⟨rfl,hb5,hb5b⟩,hc5⟩:=hu.elem hm
 refine xIx Tryz.underlying23 Zdi (h:=yL [_,_,_] Zl6 hc5 0 (h:=xAl [_,_,_] ZeJ (h:=fun b6=>xS [_,_,_] 1 [_,_,_] Zdi (h:=Zu [_,_] rfl (Za (xM (h:=xL [_,_,_] Zl6 1 (h:=Zo (Zso rfl rfl he rfl rfl (hF m om2 om2) ?_)))))))))
 refine Zd rfl (fun g2=>?_) (fun g2=>?_)
 try simp only [sQ,ne_eq] at g2
 refine Za (xL [_,_,_] Zl6 1 (h:=xS [_,_,_] 0 [_,_,_] Zdi (h:=xA (h:=Zu [_,_] rfl (Zh (ZO (Zs (Zad (ZO (Zs ?_))))))))))
 exact ZW .ret (.inl rfl) [_,_] ⟨⟨_,rfl,.inr ⟨[_,_,_],Zl6,Zae 0 rfl rfl rfl,rfl⟩⟩,rfl,trivial⟩ ⟨by rw [Zqp hm g2 ha];rfl,rfl,rfl⟩
 try simp only [sQ,ne_eq] at g2
 refine Zi (ZA (Zf (Ze (xD (h:=xM (h:=?_))))))
 exact ZC (k+1) [0] so2 ⟨rfl,oz,Zbp hm ha g2⟩ t6 rfl
 try simp only [sQ,ne_eq] at g1
 refine Z0 (Zal (Z6 (ZK (Zf (Za (xAl [_,_,_] ZeJ (h:=fun b8=>Zu [_,_] rfl (Za (xL [_,_,_] Zl6 1 (h:=xS [_,_,_] 0 [_,_,_] Zdi (h:=xA (h:=Zu [_,_] rfl (Zh ?_)))))))))))))
 exact ZW .ret (.inl rfl) [_,_] ⟨⟨_,rfl,.inr ⟨[_,_,_],Zl6,Zae 0 rfl rfl rfl,rfl⟩⟩,rfl,trivial⟩ ⟨by rw [ZjT (ZbJ oz ha)];rfl,rfl,rfl⟩

set_option maxHeartbeats 400000 in
theorem Zem (q:Option Addr) (cp:Nat) (us:List DUser) (nm:Str) (hn:nm.length≤2000000) (B:Kn) (hu:SlK B q cp 3 Zg us):Za6 (pj J) 14 [.slice q us.length cp,str nm] B (.tuple #[.agg #[str (Zan us nm).1.name,str (Zan us nm).1.pass,.int .i64 (Zan us nm).1.quota],.bool (Zan us nm).2]):=by
 refine Zc 15 Tryz.func14 rfl rfl rfl (Nat.le_of_ble_eq_true rfl) ?_
 have hun:=hu.len
 refine Za (xBx [_] (h:=fun b1=>xAl [_,_,_] ZeJ (h:=fun b2=>xA (h:=Zu [_,_] rfl (Zk (Za (xM (h:=xR ZwA rfl (Ziw _ _ _ _ hu) (h:=xN (h:=Zd rfl (fun g0=>?_) (fun g0=>?_)))))))))))
 try simp only [sQ,ne_eq] at g0
 refine Za (xB [] [_,_,_] [_,_,_] ZpI ZeJ (h:=xS [_,_,_] 1 [_,_,_] Zdi (h:=xA (h:=Zu [_,_] rfl (Zh (Zs ?_))))))
 exact ZW .ret (.inl rfl) [_,_] ⟨⟨_,rfl,.inr ⟨[_,_,_],Zl6,Zae 1 rfl rfl rfl,rfl⟩⟩,rfl,trivial⟩ ⟨by rw [Zan,g0];rfl,rfl,rfl⟩
 try simp only [sQ,ne_eq] at g0
 refine Zi (Zf (Za (xM (h:=Zo (ZgC (xs:=[]) (ys:=[_]) rfl rfl rfl rfl (Zo (ZhV 0 rfl rfl rfl Zxs rfl (Za6.borrow fun hm=>Zqq _ _ us 36 _ (fun y=>decide (y.name=nm)) _ (hu.mono Zg.mono (Kn.le_add _ _)) Zxr (fun y h1 h2=>ZkT y nm _ h1 hn _ (Zj9 hm))) (xE (h:=xE (h:=xS [_,_,_] 1 [_,_,_] Zdi (h:=xA (h:=Zu [_,_] rfl (Zh ?_)))))))))))))
 exact ZW .ret (.inl rfl) [_,_] ⟨⟨_,rfl,.inr ⟨[_,_,_],Zl6,Zae 1 rfl rfl rfl,rfl⟩⟩,rfl,trivial⟩ ⟨by rw [Zan,if_pos g0];rfl,rfl,rfl⟩

set_option maxHeartbeats 400000 in
theorem ZhH (b o:Nat) (q1 q2 q3:Option Addr) (c1 c2 c3:Nat) (x:DHost) (nm:Str) (hn:nm.length≤2000000) (B:Kn) (hh:Zbx B b o [str x.domain,.slice q1 x.users.length c1,.slice q2 x.folders.length c2,.int .i64 x.queue.next,.slice q3 x.queue.items.length c3]) (hu:SlK B q1 c1 3 Zg x.users):Za6 (pj J) 29 [ptr ⟨b,o,none⟩,str nm] B (.bool (Zan x.users nm).2):=by
 refine Zc 17 Tryz.func29 rfl rfl rfl (Nat.le_of_ble_eq_true rfl) ?_
 refine Za (xA (h:=Za (xM (h:=xNc (h:=xW ZaK (h:=Zo (Zl rfl rfl Zfj rfl (hh _ 1 _ rfl) (xM (h:=xR Zvc rfl (Zem _ _ _ nm om2 _ hu) (h:=?_))))))))))
 refine xM (h:=xE (h:=xE (h:=xAl [_,_,_] ZeJ (h:=fun b2=>xS [_,_,_] 0 [_,_,_] Zdi (h:=xA (h:=Zu [_] rfl (Za (xM (h:=xA (h:=Zh ?_))))))))))
 exact ZW .ret (.inl rfl) [_] t1 ⟨rfl,rfl,rfl⟩

set_option maxHeartbeats 400000 in
theorem Zcx (q1 q2 q3:Option Addr) (c1 c2 c3:Nat) (x:DHost) (ow nm:Str) (ho:ow.length≤2000000) (hn:nm.length≤2000000) (B:Kn) (hf:SlK B q2 c2 5 Zb x.folders):Za6 (pj J) 48 [.agg #[str x.domain,.slice q1 x.users.length c1,.slice q2 x.folders.length c2,.int .i64 x.queue.next,.slice q3 x.queue.items.length c3],str ow,str nm] B (.int .i64 (Za0 (inF ow nm) x.folders)):=by
 refine Zc 34 Tryz.func48 rfl rfl rfl (Nat.le_of_ble_eq_true rfl) ?_
 have hfn:=hf.len
 refine Za (xBx [_,_,_,_,_] (h:=fun b1=>xA (h:=Zu [_] rfl (Zk (Za (xA (h:=Zp (ZS (α:=Nat) [0,1,2,3] (fun k=>[(7,.int .i64 k)]) [] (fun k=>[]) (fun k Bx=>Bx=B∧k≤x.folders.length∧∀y,y∈x.folders.take k→inF ow nm y=false) (fun k=>x.folders.length - k) 0 t1 rfl (⟨rfl,Nat.zero_le _,by simp⟩) (fun k B2 hle2 hI=>?_)))))))))
 obtain ⟨rfl,hk,ha⟩:=hI
 refine ZR [(0,_),(1,_),(2,_),(3,_),(7,_)] [_] t5 rfl (Zk (Za (xM (h:=xW ZT (h:=x1 ZbV 0 (h:=xV Tryz.underlying24 (h:=Zaf (h:=Zd rfl (fun g1=>?_) (fun g1=>?_)))))))))
 try simp only [sQ,ne_eq] at g1
 refine Zi (Zf (Zk (Zp (Za (xW ZT (h:=x1 ZbV 0 (h:=xM (h:=?_))))))))
 obtain ⟨y,hy⟩:=Zar (xs:=x.folders) (i:=k) om
 obtain ⟨bb4,oo4,rfl⟩:=hf.base hy
 obtain ⟨_,⟨qg5,cg5,qm5,cm5,rfl,hg5,hm5,hb5,hb5b⟩,hc5⟩:=hf.elem hy
 have hg5n:=hg5.len
 have hm5n:=hm5.len
 have hm5s:=ZX hm5
 refine xIx Tryz.underlying24 ZaT (h:=xW Zce (h:=y1 lk9 hc5 0 (h:=xM (h:=Zcs (h:=xM (h:=Zq (d:=23) rfl (fun g2=>?_) (fun g2=>?_)))))))
 try simp only [sQ,ne_eq] at g2
 refine xW ZT (h:=x1 ZbV 0 (h:=xM (h:=xIx Tryz.underlying24 ZaT (h:=xW ZdA (h:=y1 lk9 hc5 1 (h:=xM (h:=Zcs (h:=xT (h:=Zd rfl (fun g3=>?_) (fun g3=>?_))))))))))
 try simp only [sQ,ne_eq] at g3
 refine Za (xM (h:=xA (h:=Zh (ZO (Zs (Zad (ZO (Zs ?_))))))))
 exact ZW .ret (.inl rfl) [_] t1 ⟨Za4 (ZhI hy (by simp [inF,g2,g3]) ha).symm,rfl,rfl⟩
 try simp only [sQ,ne_eq] at g3
 refine Zi (ZA (Zf (Ze (xM (h:=xD (h:=xA (h:=?_)))))))
 exact ZC (k+1) [0] so2 ⟨rfl,oz,Zbp hy ha (by simp [inF,g2,g3])⟩ t5 rfl
 try simp only [sQ,ne_eq] at g2
 refine xP (h:=xP (h:=xP (h:=xP (h:=xP (h:=xP (h:=xP (h:=xP (h:=xF (h:=Zd (t:=false) rfl (fun h=>Bool.noConfusion h) (fun _=>Zi (ZA (Zf (Ze ?_)))))))))))))
 refine xM (h:=xD (h:=xA (h:=?_)))
 exact ZC (k+1) [0] so2 ⟨rfl,oz,Zbp hy ha (by simp [inF,g2])⟩ t5 rfl
 try simp only [sQ,ne_eq] at g1
 refine Z0 (Zal (Z6 (ZK (Zf (Za (xA (h:=Zh ?_)))))))
 exact ZW .ret (.inl rfl) [_] t1 ⟨Za4 (ZeZ (ZbJ oz ha)).symm,rfl,rfl⟩

set_option maxHeartbeats 400000 in
theorem Zty (f:DFolder) (qa qb:Option Addr) (ca cb:Nat) (ow nm:Str) (b b':Nat) (h1:f.owner.length≤2000000) (h2:f.name.length≤2000000) (h3:ow.length≤2000000) (h4:nm.length≤2000000) (B:Kn) (hb:Zbx B b 0 [str ow]) (hb2:Zbx B b' 0 [str nm]):Za6 (pj J) 92 [.agg #[str f.owner,str f.name,.slice qa f.grants.length ca,.int .i64 f.next,.slice qb f.mail.length cb],ptr ⟨b,0,none⟩,ptr ⟨b',0,none⟩] B (.bool (inF ow nm f)):=by
 refine Zc 15 Tryz.func92 rfl rfl rfl (Nat.le_of_ble_eq_true rfl) ?_
 refine Za (xBx [_,_,_,_,_] (h:=fun b1=>xA (h:=Zu [_] rfl (Za (xW Zce (h:=x1 lk9 0 (h:=Zo (Zl rfl rfl lk9 rfl (hb _ 0 _ rfl) (Zcs (h:=xM (h:=Zq (d:=9) rfl (fun g1=>?_) (fun g1=>?_))))))))))))
 try simp only [sQ,ne_eq] at g1
 refine xW ZdA (h:=x1 lk9 0 (h:=Zo (Zl rfl rfl lk9 rfl (hb2 _ 0 _ rfl) (Zcs (h:=xT (h:=xA (h:=Zh ?_)))))))
 exact ZW .ret (.inl rfl) [_] t1 ⟨Zm (by rw [Bool.eq_iff_iff];simp [inF,g1]),rfl,rfl⟩
 try simp only [sQ,ne_eq] at g1
 refine xP (h:=xP (h:=xP (h:=xP (h:=xF (h:=xA (h:=Zh ?_))))))
 exact ZW .ret (.inl rfl) [_] t1 ⟨Zm (by rw [Bool.eq_iff_iff];simp [inF,g1]),rfl,rfl⟩

set_option maxHeartbeats 400000 in
theorem ZrD (q:Option Addr) (cp:Nat) (fs:List DFolder) (F:FuncId) (cap:Array Value) (t:DFolder→Bool) (B:Kn) (hf:SlK B q cp 5 Zb fs) (he:enters (pj J) F=true) (hF :∀(f:DFolder) (qa qb:Option Addr) (ca cb:Nat),f.owner.length≤2000000→f.name.length≤2000000→Za6 (pj J) F ([.agg #[str f.owner,str f.name,.slice qa f.grants.length ca,.int .i64 f.next,.slice qb f.mail.length cb]] ++ cap.toList) B (.bool (t f))):Za6 (pj J) 91 [.slice q fs.length cp,.func (.func F) #[] cap] B (.int .i64 (Za0 t fs)):=by
 refine Zc 19 Tryz.func91 rfl rfl rfl (Nat.le_of_ble_eq_true rfl) ?_
 have hfn:=hf.len
 refine Za (xA (h:=Zk (Za (xM (h:=xV Tryz.underlying24 (h:=xM (h:=Zp (ZS (α:=Nat) [0,1,7] (fun k=>[(8,.int .i64 k)]) [] (fun k=>[]) (fun k Bx=>Bx=B∧k≤fs.length∧∀y,y∈fs.take k→t y=false) (fun k=>fs.length - k) 0 t1 rfl (⟨rfl,Nat.zero_le _,by simp⟩) (fun k B1 hle1 hI=>?_)))))))))
 obtain ⟨rfl,hk,ha⟩:=hI
 refine ZR [(0,_),(1,_),(7,_),(8,_)] [] t4 rfl (Za (Zaf (h:=Zk (Zd rfl (fun g1=>?_) (fun g1=>?_)))))
 try simp only [sQ,ne_eq] at g1
 refine Zi (Zf (Zk (Zp (Za (xM (h:=xA (h:=Za (xM (h:=xM (h:=xM (h:=?_)))))))))))
 obtain ⟨y,hy⟩:=Zar (xs:=fs) (i:=k) om
 obtain ⟨bb3,oo3,rfl⟩:=hf.base hy
 obtain ⟨_,⟨qg4,cg4,qm4,cm4,rfl,hg4,hm4,hb4,hb4b⟩,hc4⟩:=hf.elem hy
 have hg4n:=hg4.len
 have hm4n:=hm4.len
 have hm4s:=ZX hm4
 refine xIx Tryz.underlying24 ZaT (h:=yL [_,_,_,_,_] ZeC hc4 0 (h:=Zo (Zso rfl rfl he rfl rfl (hF y _ _ _ _ om2 om2) ?_)))
 refine Zd rfl (fun g2=>?_) (fun g2=>?_)
 try simp only [sQ,ne_eq] at g2
 refine Za (xM (h:=xA (h:=Zh (ZO (Zs (Zad (ZO (Zs ?_))))))))
 exact ZW .ret (.inl rfl) [_] t1 ⟨Za4 (ZhI hy g2 ha).symm,rfl,rfl⟩
 try simp only [sQ,ne_eq] at g2
 refine Zi (ZA (Zf (Ze (xD (h:=xM (h:=?_))))))
 exact ZC (k+1) [] so2 ⟨rfl,oz,Zbp hy ha g2⟩ t4 rfl
 try simp only [sQ,ne_eq] at g1
 refine Z0 (Zal (Z6 (ZK (Zf (Za (xA (h:=Zh ?_)))))))
 exact ZW .ret (.inl rfl) [_] t1 ⟨Za4 (ZeZ (ZbJ oz ha)).symm,rfl,rfl⟩

set_option maxHeartbeats 400000 in
theorem ZsH (b o:Nat) (q1 q2 q3:Option Addr) (c1 c2 c3:Nat) (x:DHost) (ow nm:Str) (ho:ow.length≤2000000) (hn:nm.length≤2000000) (B:Kn) (hh:Zbx B b o [str x.domain,.slice q1 x.users.length c1,.slice q2 x.folders.length c2,.int .i64 x.queue.next,.slice q3 x.queue.items.length c3]) (hf:SlK B q2 c2 5 Zb x.folders):Za6 (pj J) 50 [ptr ⟨b,o,none⟩,str ow,str nm] B (.int .i64 (Za0 (inF ow nm) x.folders)):=by
 refine Zc 13 Tryz.func50 rfl rfl rfl (Nat.le_of_ble_eq_true rfl) ?_
 refine Za (xBx [_] (h:=fun b1=>xBx [_] (h:=fun b2=>xA (h:=Zu [_,_] rfl (Za (xM (h:=xNc (h:=xW ZT (h:=Zo (Zl rfl rfl ZbV rfl (hh _ 2 _ rfl) (Zo (ZgC (xs:=[]) (ys:=[_,_]) rfl rfl rfl rfl (Zo (Zt3 0 1 rfl rfl rfl rfl rfl ZwV rfl (Za6.borrow2 fun hm1 hm2=>ZrD _ _ x.folders 92 _ (inF ow nm) _ ((hf.mono Zb.mono (Kn.le_add _ _)).mono Zb.mono (Kn.le_add _ _)) ZwU (fun f qa qb ca cb h1 h2=>Zty f qa qb ca cb ow nm _ _ h1 h2 ho hn _ (Zj9 hm1) (Zj9 hm2))) (xA (h:=?_))))))))))))))))
 refine Zh ?_
 exact ZW .ret (.inl rfl) [_] t1 ⟨rfl,rfl,rfl⟩

set_option maxHeartbeats 400000 in
theorem Zmw (b o:Nat) (q1 q2 q3:Option Addr) (c1 c2 c3:Nat) (x:DHost) (B:Kn) (hh:Zbx B b o [str x.domain,.slice q1 x.users.length c1,.slice q2 x.folders.length c2,.int .i64 x.queue.next,.slice q3 x.queue.items.length c3]) (hu:SlK B q1 c1 3 Zg x.users) (hi:SlK B q3 c3 4 Zj x.queue.items):Za6 (pj J) 43 [ptr ⟨b,o,none⟩] B (.bool (x.queue.items.all (Zdd x.users))):=by
 refine Zc 35 Tryz.func43 rfl rfl rfl (Nat.le_of_ble_eq_true rfl) ?_
 have hin:=hi.len
 refine Za (xA (h:=Zk (Za (xM (h:=xNc (h:=xW ZcD (h:=xW ZaM (h:=Zo (Zl rfl rfl ZfX rfl (hh _ 4 _ rfl) (xV Tryz.underlying25 (h:=xM (h:=Zp (ZS (α:=Nat) [0,11,12] (fun k=>[(13,.int .i64 k)]) [] (fun k=>[]) (fun k Bx=>Bx=B∧k≤x.queue.items.length∧∀y,y∈x.queue.items.take k→Zdd x.users y=true) (fun k=>x.queue.items.length - k) 0 t1 rfl (⟨rfl,Nat.zero_le _,by simp⟩) (fun k B1 hle1 hI=>?_))))))))))))))
 obtain ⟨rfl,hk,ha⟩:=hI
 refine ZR [(0,_),(11,_),(12,_),(13,_)] [] t4 rfl (Za (Zaf (h:=Zk (Zd rfl (fun g1=>?_) (fun g1=>?_)))))
 try simp only [sQ,ne_eq] at g1
 refine Zi (Zf (Zk (Zp (Za ?_))))
 obtain ⟨y,hy⟩:=Zar (xs:=x.queue.items) (i:=k) om
 obtain ⟨bb3,oo3,rfl⟩:=hi.base hy
 obtain ⟨_,⟨qi4,ci4,rfl,hi4,hb4,hb4b⟩,hc4⟩:=hi.elem hy
 have hi4n:=hi4.len
 refine xIx Tryz.underlying25 ZeG (h:=yL [_,_,_,_] Zl5 hc4 0 (h:=xAl [_,_,_,_] Zi2 (h:=fun b5=>xS [_,_,_,_] 0 [_,_,_,_] ZeG (h:=Zu [_] rfl (Zk (Za (xM (h:=xW ZnD (h:=x1 lk9 0 (h:=xR Zu9 rfl (ZhH _ _ _ _ _ _ _ _ x y.fr om2 _ hh hu) (h:=?_)))))))))))
 refine xN (h:=Zd rfl (fun g2=>?_) (fun g2=>?_))
 try simp only [sQ,ne_eq] at g2
 refine Za (xA (h:=Zh (Zs (ZO (Zs (Zad (ZO (Zs ?_))))))))
 exact ZW .ret (.inl rfl) [_] t1 ⟨Zm (ZcW hy (by simp [Zdd,g2])).symm,rfl,rfl⟩
 try simp only [sQ,ne_eq] at g2
 refine Zi (Zf (Za (xW ZbM (h:=x1 ZhE 0 (h:=xV Tryz.underlying75 (h:=xM (h:=Zp (ZS (α:=Nat) [0,4,11,12,13,14,21,23,24] (fun j=>[(25,.int .i64 j)]) [] (fun j=>[]) (fun j Bx=>Bx=B1∧j≤y.left.length∧∀z,z∈y.left.take j→(Zan x.users z).2=true) (fun j=>y.left.length - j) 0 t1 rfl (⟨rfl,Nat.zero_le _,by simp⟩) (fun j B7 hle7 hI=>?_)))))))))
 obtain ⟨rfl,hj,hb⟩:=hI
 refine ZR [(0,_),(4,_),(11,_),(12,_),(13,_),(14,_),(21,_),(23,_),(24,_),(25,_)] [_] t10 rfl (Za (Zaf (h:=Zk (Zd rfl (fun g3=>?_) (fun g3=>?_)))))
 try simp only [sQ,ne_eq] at g3
 refine Zi (Zf (Zk (Zp (Za ?_))))
 obtain ⟨z,hz⟩:=Zar (xs:=y.left) (i:=j) om
 obtain ⟨bb9,oo9,rfl⟩:=hi4.base hz
 obtain ⟨_,⟨rfl,hb10⟩,hc10⟩:=hi4.elem hz
 refine xIx Tryz.underlying75 sz9 (h:=y1 lk9 hc10 0 (h:=xA (h:=Za (xM (h:=xM (h:=xR Zu9 rfl (ZhH _ _ _ _ _ _ _ _ x z om2 _ hh hu) (h:=?_)))))))
 refine xN (h:=Zd rfl (fun g4=>?_) (fun g4=>?_))
 try simp only [sQ,ne_eq] at g4
 refine Za (xA (h:=Zh (ZO (Zs (Zad (ZO (ZO (Zs (Zad (ZO (Zs ?_)))))))))))
 exact ZW .ret (.inl rfl) [_] t1 ⟨Zm (ZcW hy (by rw [Zdd,ZcW hz g4,Bool.and_false])).symm,rfl,rfl⟩
 try simp only [sQ,ne_eq] at g4
 refine Zi (ZA (Zf (Ze (xD (h:=xM (h:=?_))))))
 exact ZC (j+1) [0] so2 ⟨rfl,oz,Zbp hz hb g4⟩ t10 rfl
 try simp only [sQ,ne_eq] at g3
 refine Z0 (Zal (Z6 (ZK (ZA (Zf (Ze (xD (h:=xM (h:=?_)))))))))
 exact ZC (k+1) [] so2 ⟨rfl,oz,Zbp hy ha (by rw [Zdd,g2,Zey (ZbJ oz hb)];rfl)⟩ t4 rfl
 try simp only [sQ,ne_eq] at g1
 refine Z0 (Zal (Z6 (ZK (Zf (Za (xA (h:=Zh ?_)))))))
 exact ZW .ret (.inl rfl) [_] t1 ⟨Zm (Zey (ZbJ oz ha)).symm,rfl,rfl⟩

set_option maxHeartbeats 400000 in
theorem Zlr (f g:DFolder) (qa qb qc qd:Option Addr) (ca cb cc cd:Nat) (B:Kn):Za6 (pj J) 90 [.agg #[str f.owner,str f.name,.slice qa f.grants.length ca,.int .i64 f.next,.slice qb f.mail.length cb],.agg #[str g.owner,str g.name,.slice qc g.grants.length cc,.int .i64 g.next,.slice qd g.mail.length cd]] B (.bool (ZbW f g)):=by
 refine Zc 24 Tryz.func90 rfl rfl rfl (Nat.le_of_ble_eq_true rfl) ?_
 refine Za (xBx [_,_,_,_,_] (h:=fun b1=>xBx [_,_,_,_,_] (h:=fun b2=>xA (h:=Zu [_,_] rfl (Za (xW Zce (h:=x1 lk9 0 (h:=xW Zce (h:=x1 lk9 1 (h:=Zsn (h:=xM (h:=Zq (d:=10) rfl (fun g1=>?_) (fun g1=>?_)))))))))))))
 try simp only [sQ,ne_eq] at g1
 refine xP (h:=xP (h:=xP (h:=xP (h:=xP (h:=xP (h:=xP (h:=xP (h:=xP (h:=xP (h:=xP (h:=xP (h:=xT (h:=?_)))))))))))))
 refine xA (h:=Zh ?_)
 exact ZW .ret (.inl rfl) [_] t1 ⟨Zm (by rw [Bool.eq_iff_iff];simp [ZbW,Zdb,g1]),rfl,rfl⟩
 try simp only [sQ,ne_eq] at g1
 refine xW Zce (h:=x1 lk9 0 (h:=xW Zce (h:=x1 lk9 1 (h:=Zcs (h:=xM (h:=Zq (d:=16) rfl (fun g2=>?_) (fun g2=>?_)))))))
 try simp only [sQ,ne_eq] at g2
 refine xW ZdA (h:=x1 lk9 0 (h:=xW ZdA (h:=x1 lk9 1 (h:=Zsn (h:=xT (h:=xF (h:=xA (h:=Zh ?_))))))))
 exact ZW .ret (.inl rfl) [_] t1 ⟨Zm (by rw [Bool.eq_iff_iff];simp [ZbW,Zdb,g1,g2]),rfl,rfl⟩
 try simp only [sQ,ne_eq] at g2
 refine xP (h:=xP (h:=xP (h:=xP (h:=xP (h:=xF (h:=xF (h:=xA (h:=Zh ?_))))))))
 exact ZW .ret (.inl rfl) [_] t1 ⟨Zm (by rw [Bool.eq_iff_iff];simp [ZbW,Zdb,g1,g2]),rfl,rfl⟩

set_option maxHeartbeats 400000 in
theorem Zh5 (q:Option Addr) (cp:Nat) (us:List DUser) (B:Kn) (hu:SlK B q cp 3 Zg us):Za6 (pj J) 45 [.slice q us.length cp] B (.bool (Zas us)):=by
 refine Zc 54 Tryz.func45 rfl rfl rfl (Nat.le_of_ble_eq_true rfl) ?_
 have hun:=hu.len
 refine Za (xA (h:=Zk (Za (xA (h:=Zp (ZS (α:=Nat × Str) [0] (fun g=>[(3,.int .i64 g.1)]) [] (fun g=>[]) (fun g Bx=>Bx=B∧g.1≤us.length∧Zc8 (us.take g.1)=(true,g.2)∧Prev (fun y=>y.name) ([]:Str) us g.1 g.2) (fun g=>us.length - g.1) (0,[]) t1 rfl (⟨rfl,Nat.zero_le _,ZeP,.zero⟩) (fun g B1 hle1 hI=>?_)))))))
 obtain ⟨rfl,hk,hs,hp⟩:=hI
 refine ZR [(0,_),(3,_)] [] t2 rfl (Zk (Za (xM (h:=xM (h:=xV Tryz.underlying23 (h:=Zaf (h:=Zd rfl (fun g1=>?_) (fun g1=>?_))))))))
 try simp only [sQ,ne_eq] at g1
 refine Zi (Zf (Zk (Zp (Za (xM (h:=xM (h:=?_)))))))
 obtain ⟨m,hm⟩:=Zar (xs:=us) (i:=g.1) om
 obtain ⟨bb3,oo3,rfl⟩:=hu.base hm
 obtain ⟨_,⟨rfl,hb4,hb4b⟩,hc4⟩:=hu.elem hm
 refine xIx Tryz.underlying23 Zdi (h:=yL [_,_,_] Zl6 hc4 0 (h:=xAl [_,_,_] ZeJ (h:=fun b5=>xS [_,_,_] 0 [_,_,_] Zdi (h:=Zu [_] rfl (Zk (Z9 (same _ _) mo kr ⟨rfl,rfl⟩ (fun _ _=>?_)))))))
 refine aW 0 rfl ZcH (h:=aT 1 rfl (Zap fun D=>Zl rfl rfl lk9 rfl (atL 0 rfl rfl rfl) r4) (h:=aT 2 rfl (Zap fun D=>ZaS rfl rfl ZrW rfl (Zb0 _ om2 _) r4) (h:=?_)))
 refine aN 3 rfl (h:=aM 4 rfl (h:=Zaw (d:=19) rfl (fun g2=>?_) (fun g2=>?_)))
 try simp only [sQ,ne_eq] at g2
 refine aZ 5 rfl (h:=aZ 6 rfl (h:=aZ 7 rfl (h:=aPT 8 rfl (h:=aM 9 rfl (h:=aZ 10 rfl (h:=aZ 11 rfl (h:=aZ 12 rfl (h:=aZ 13 rfl (h:=aPT 14 rfl (h:=aM 15 rfl (h:=aZ 16 rfl (h:=aZ 17 rfl (h:=?_)))))))))))))
 refine aZ 18 rfl (h:=aZ 19 rfl (h:=aPT 20 rfl (h:=aM 21 rfl (h:=aZ 22 rfl (h:=aZ 23 rfl (h:=aZ 24 rfl (h:=aZ 25 rfl (h:=aZ 26 rfl (h:=aZ 27 rfl (h:=aZ 28 rfl (h:=aZ 29 rfl (h:=aZ 30 rfl (h:=?_)))))))))))))
 refine aZ 31 rfl (h:=aZ 32 rfl (h:=aZ 33 rfl (h:=aZ 34 rfl (h:=aPT 35 rfl (h:=Zz kr kr ?_)))))
 refine Zf (Zd (t:=true) rfl (fun _=>Za (xA (h:=Zh (ZO (Zs (Zad (ZO (Zs ?_)))))))) (fun h=>Bool.noConfusion h))
 exact ZW .ret (.inl rfl) [_] t1 ⟨Zm (Zdr hm hs (by simp [Zb9,ZbI,anyone,g1,g2])).symm,rfl,rfl⟩
 try simp only [sQ,ne_eq] at g2
 refine aW 5 rfl ZcH (h:=aT 6 rfl (Zap fun D=>Zl rfl rfl lk9 rfl (atL 0 rfl rfl rfl) r4) (h:=ZqS 7 rfl (h:=aPF 8 rfl (h:=aM 9 rfl (h:=Zaw (d:=24) rfl (fun g3=>?_) (fun g3=>?_))))))
 try simp only [sQ,ne_eq] at g3
 refine aZ 10 rfl (h:=aZ 11 rfl (h:=aZ 12 rfl (h:=aZ 13 rfl (h:=aPT 14 rfl (h:=aM 15 rfl (h:=aZ 16 rfl (h:=aZ 17 rfl (h:=aZ 18 rfl (h:=aZ 19 rfl (h:=aPT 20 rfl (h:=aM 21 rfl (h:=aZ 22 rfl (h:=?_)))))))))))))
 refine aZ 23 rfl (h:=aZ 24 rfl (h:=aZ 25 rfl (h:=aZ 26 rfl (h:=aZ 27 rfl (h:=aZ 28 rfl (h:=aZ 29 rfl (h:=aZ 30 rfl (h:=aZ 31 rfl (h:=aZ 32 rfl (h:=aZ 33 rfl (h:=aZ 34 rfl (h:=aPT 35 rfl (h:=?_)))))))))))))
 refine Zz kr kr ?_
 refine Zf (Zd (t:=true) rfl (fun _=>Za (xA (h:=Zh (ZO (Zs (Zad (ZO (Zs ?_)))))))) (fun h=>Bool.noConfusion h))
 exact ZW .ret (.inl rfl) [_] t1 ⟨Zm (Zdr hm hs (by simp [Zb9,ZbI,anyone,g1,g2,g3])).symm,rfl,rfl⟩
 try simp only [sQ,ne_eq] at g3
 refine aW 10 rfl ZjS (h:=aT 11 rfl (Zap fun D=>Zl rfl rfl lk9 rfl (atL 0 rfl rfl rfl) r4) (h:=aT 12 rfl (Zap fun D=>ZaS rfl rfl ZrW rfl (Zb0 _ om2 _) r4) (h:=?_)))
 refine aN 13 rfl (h:=aPF 14 rfl (h:=aM 15 rfl (h:=Zaw (d:=30) rfl (fun g4=>?_) (fun g4=>?_))))
 try simp only [sQ,ne_eq] at g4
 refine aZ 16 rfl (h:=aZ 17 rfl (h:=aZ 18 rfl (h:=aZ 19 rfl (h:=aPT 20 rfl (h:=aM 21 rfl (h:=aZ 22 rfl (h:=aZ 23 rfl (h:=aZ 24 rfl (h:=aZ 25 rfl (h:=aZ 26 rfl (h:=aZ 27 rfl (h:=aZ 28 rfl (h:=?_)))))))))))))
 refine aZ 29 rfl (h:=aZ 30 rfl (h:=aZ 31 rfl (h:=aZ 32 rfl (h:=aZ 33 rfl (h:=aZ 34 rfl (h:=aPT 35 rfl (h:=Zz kr kr ?_)))))))
 refine Zf (Zd (t:=true) rfl (fun _=>Za (xA (h:=Zh (ZO (Zs (Zad (ZO (Zs ?_)))))))) (fun h=>Bool.noConfusion h))
 exact ZW .ret (.inl rfl) [_] t1 ⟨Zm (Zdr hm hs (by simp [Zb9,ZbI,anyone,g1,g2,g3,g4])).symm,rfl,rfl⟩
 try simp only [sQ,ne_eq] at g4
 refine aW 16 rfl ZfA (h:=aT 17 rfl (Zap fun D=>Zl rfl rfl lk3 rfl (atL 0 rfl rfl rfl) r4) (h:=aT 18 rfl (Zap fun D=>ZaS rfl rfl ZjX rfl (Zco _ _ _ _) r4) (h:=aN 19 rfl (h:=aPF 20 rfl (h:=aM 21 rfl (h:=Zaw (d:=36) rfl (fun g5=>?_) (fun g5=>?_)))))))
 try simp only [sQ,ne_eq] at g5
 refine aZ 22 rfl (h:=aZ 23 rfl (h:=aZ 24 rfl (h:=aZ 25 rfl (h:=aZ 26 rfl (h:=aZ 27 rfl (h:=aZ 28 rfl (h:=aZ 29 rfl (h:=aZ 30 rfl (h:=aZ 31 rfl (h:=aZ 32 rfl (h:=aZ 33 rfl (h:=aZ 34 rfl (h:=?_)))))))))))))
 refine aPT 35 rfl (h:=Zz kr kr ?_)
 refine Zf (Zd (t:=true) rfl (fun _=>Za (xA (h:=Zh (ZO (Zs (Zad (ZO (Zs ?_)))))))) (fun h=>Bool.noConfusion h))
 exact ZW .ret (.inl rfl) [_] t1 ⟨Zm (Zdr hm hs (by simp [Zb9,ZbI,anyone,g1,g2,g3,g4,g5])).symm,rfl,rfl⟩
 try simp only [sQ,ne_eq] at g5
 refine aM 22 rfl (h:=Zm4 23 rfl (h:=aM 24 rfl (h:=Zaw (d:=39) rfl (fun g6=>?_) (fun g6=>?_))))
 try simp only [sQ,ne_eq] at g6
 refine aM 25 rfl (h:=aM 26 rfl (h:=aU 27 rfl (h:=?_)))
 obtain ⟨y,hy⟩:=Zec (xs:=us) (i:=(↑g.1 - 1)) om om
 obtain ⟨_,⟨rfl,hb10,hb10b⟩,hc10⟩:=hu.elem hy
 refine aIx 28 rfl Tryz.underlying23 Zdi (h:=?_)
 have hpe:=hp.at hy oz
 refine aW 29 rfl ZcH (h:=aT 30 rfl (Zap fun D=>Zl rfl rfl lk9 rfl (hc10 _ 0 _ rfl) r4) (h:=aW 31 rfl ZcH (h:=aT 32 rfl (Zap fun D=>Zl rfl rfl lk9 rfl (atL 0 rfl rfl rfl) r4) (h:=aT 33 rfl (Zap fun D=>Zpb rfl rfl rfl rfl r4) (h:=aPT 34 rfl (h:=aPF 35 rfl (h:=Zz kr kr ?_)))))))
 refine Zf (Zd rfl (fun g7=>?_) (fun g7=>?_))
 try simp only [sQ,ne_eq] at g7
 refine Za (xA (h:=Zh (ZO (Zs (Zad (ZO (Zs ?_)))))))
 exact ZW .ret (.inl rfl) [_] t1 ⟨Zm (Zdr hm hs (by simp [Zb9,ZbI,anyone,g1,g2,g3,g4,g5,g6,g7,hpe])).symm,rfl,rfl⟩
 try simp only [sQ,ne_eq] at g7
 refine Zi (ZA (Zf (Ze (xM (h:=xD (h:=xA (h:=?_)))))))
 exact ZC (g.1+1,m.name) [] so2 ⟨rfl,oz,Zcf hm hs (by rw [hpe];simp [Zb9,ZbI,anyone,g2,g3,g4,g7];simp at g5;omega),.succ hm⟩ t2 rfl
 try simp only [sQ,ne_eq] at g6
 refine aZ 25 rfl (h:=aZ 26 rfl (h:=aZ 27 rfl (h:=aZ 28 rfl (h:=aZ 29 rfl (h:=aZ 30 rfl (h:=aZ 31 rfl (h:=aZ 32 rfl (h:=aZ 33 rfl (h:=aPF 34 rfl (h:=aPF 35 rfl (h:=Zz kr kr ?_)))))))))))
 refine Zf (Zd (t:=false) rfl (fun h=>Bool.noConfusion h) (fun _=>Zi (ZA (Zf (Ze (xM (h:=xD (h:=xA (h:=?_)))))))))
 exact ZC (g.1+1,m.name) [] so2 ⟨rfl,oz,Zcf hm hs (by rw [hp.at0 oz];simp [Zb9,ZbI,anyone,g2,g3,g4,Znt (ZjD g2)];simp at g5;omega),.succ hm⟩ t2 rfl
 try simp only [sQ,ne_eq] at g1
 refine Z0 (Zal (Z6 (ZK (Zf (Za (xM (h:=xV Tryz.underlying23 (h:=xR ZjX rfl (Zco _ _ _ _) (h:=xA (h:=Zh ?_))))))))))
 exact ZW .ret (.inl rfl) [_] t1 ⟨Zm (by rw [ZhY (ZdX hs oz),Bool.eq_iff_iff];simp;omega),rfl,rfl⟩

set_option maxHeartbeats 400000 in
theorem Zgk (q:Option Addr) (cp:Nat) (gs:List DGrant) (B:Kn) (hg:SlK B q cp 2 ZB gs):Za6 (pj J) 88 [.slice q gs.length cp] B (.bool (ZcE gs)):=by
 refine Zc 47 Tryz.func88 rfl rfl rfl (Nat.le_of_ble_eq_true rfl) ?_
 have hgn:=hg.len
 refine Za (xA (h:=Zk (Za (xA (h:=Zp (ZS (α:=Nat × Str) [0] (fun g=>[(3,.int .i64 g.1)]) [] (fun g=>[]) (fun g Bx=>Bx=B∧g.1≤gs.length∧Zdy (gs.take g.1)=(true,g.2)∧Prev (fun y=>y.user) ([]:Str) gs g.1 g.2) (fun g=>gs.length - g.1) (0,[]) t1 rfl (⟨rfl,Nat.zero_le _,ZeP,.zero⟩) (fun g B1 hle1 hI=>?_)))))))
 obtain ⟨rfl,hk,hs,hp⟩:=hI
 refine ZR [(0,_),(3,_)] [] t2 rfl (Zk (Za (xM (h:=xM (h:=xV Tryz.underlying33 (h:=Zaf (h:=Zd rfl (fun g1=>?_) (fun g1=>?_))))))))
 try simp only [sQ,ne_eq] at g1
 refine Zi (Zf (Zk (Zp (Zk (Z9 (same _ _) mo kr ⟨rfl,rfl⟩ (fun _ _=>?_))))))
 refine aM 0 rfl (h:=aM 1 rfl (h:=?_))
 obtain ⟨m,hm⟩:=Zar (xs:=gs) (i:=g.1) om
 obtain ⟨bb3,oo3,rfl⟩:=hg.base hm
 obtain ⟨_,⟨rfl,hb4⟩,hc4⟩:=hg.elem hm
 refine aIx 2 rfl Tryz.underlying33 ZbG (h:=aW 3 rfl ZcP (h:=aT 4 rfl (Zap fun D=>Zl rfl rfl lk9 rfl (hc4 _ 0 _ rfl) r4) (h:=aT 5 rfl (Zap fun D=>ZaS rfl rfl ZrW rfl (Zb0 _ om2 _) r4) (h:=?_))))
 refine aN 6 rfl (h:=aM 7 rfl (h:=Zaw (d:=17) rfl (fun g2=>?_) (fun g2=>?_)))
 try simp only [sQ,ne_eq] at g2
 refine aZ 8 rfl (h:=aZ 9 rfl (h:=aZ 10 rfl (h:=aZ 11 rfl (h:=aZ 12 rfl (h:=aZ 13 rfl (h:=aZ 14 rfl (h:=aPT 15 rfl (h:=aM 16 rfl (h:=aZ 17 rfl (h:=aZ 18 rfl (h:=aZ 19 rfl (h:=aZ 20 rfl (h:=?_)))))))))))))
 refine aZ 21 rfl (h:=aZ 22 rfl (h:=aZ 23 rfl (h:=aZ 24 rfl (h:=aZ 25 rfl (h:=aZ 26 rfl (h:=aZ 27 rfl (h:=aZ 28 rfl (h:=aZ 29 rfl (h:=aZ 30 rfl (h:=aZ 31 rfl (h:=aZ 32 rfl (h:=aPT 33 rfl (h:=?_)))))))))))))
 refine Zz kr kr ?_
 refine Zf (Zd (t:=true) rfl (fun _=>Za (xA (h:=Zh (ZO (Zs (Zad (ZO (Zs ?_)))))))) (fun h=>Bool.noConfusion h))
 exact ZW .ret (.inl rfl) [_] t1 ⟨Zm (ZdG hm hs (by simp [ZcG,g1,g2])).symm,rfl,rfl⟩
 try simp only [sQ,ne_eq] at g2
 refine aM 8 rfl (h:=aM 9 rfl (h:=aIx 10 rfl Tryz.underlying33 ZbG (h:=aW 11 rfl ZgP (h:=aT 12 rfl (Zap fun D=>Zl rfl rfl lk3 rfl (hc4 _ 1 _ rfl) r4) (h:=aT 13 rfl (Zap fun D=>ZaS rfl rfl ZjX rfl (Zco _ _ _ _) r4) (h:=aN 14 rfl (h:=aPF 15 rfl (h:=aM 16 rfl (h:=Zaw (d:=26) rfl (fun g4=>?_) (fun g4=>?_))))))))))
 try simp only [sQ,ne_eq] at g4
 refine aZ 17 rfl (h:=aZ 18 rfl (h:=aZ 19 rfl (h:=aZ 20 rfl (h:=aZ 21 rfl (h:=aZ 22 rfl (h:=aZ 23 rfl (h:=aZ 24 rfl (h:=aZ 25 rfl (h:=aZ 26 rfl (h:=aZ 27 rfl (h:=aZ 28 rfl (h:=aZ 29 rfl (h:=?_)))))))))))))
 refine aZ 30 rfl (h:=aZ 31 rfl (h:=aZ 32 rfl (h:=aPT 33 rfl (h:=Zz kr kr ?_))))
 refine Zf (Zd (t:=true) rfl (fun _=>Za (xA (h:=Zh (ZO (Zs (Zad (ZO (Zs ?_)))))))) (fun h=>Bool.noConfusion h))
 exact ZW .ret (.inl rfl) [_] t1 ⟨Zm (ZdG hm hs (by simp [ZcG,g1,g2,g4])).symm,rfl,rfl⟩
 try simp only [sQ,ne_eq] at g4
 refine aM 17 rfl (h:=Zm4 18 rfl (h:=aM 19 rfl (h:=Zaw (d:=29) rfl (fun g6=>?_) (fun g6=>?_))))
 try simp only [sQ,ne_eq] at g6
 refine aM 20 rfl (h:=aM 21 rfl (h:=aU 22 rfl (h:=?_)))
 obtain ⟨y,hy⟩:=Zec (xs:=gs) (i:=(↑g.1 - 1)) om om
 obtain ⟨_,⟨rfl,hb8⟩,hc8⟩:=hg.elem hy
 refine aIx 23 rfl Tryz.underlying33 ZbG (h:=?_)
 have hpe:=hp.at hy oz
 refine aW 24 rfl ZcP (h:=aT 25 rfl (Zap fun D=>Zl rfl rfl lk9 rfl (hc8 _ 0 _ rfl) r4) (h:=aM 26 rfl (h:=aM 27 rfl (h:=aIx 28 rfl Tryz.underlying33 ZbG (h:=aW 29 rfl ZcP (h:=aT 30 rfl (Zap fun D=>Zl rfl rfl lk9 rfl (hc4 _ 0 _ rfl) r4) (h:=aT 31 rfl (Zap fun D=>Zpb rfl rfl rfl rfl r4) (h:=aPT 32 rfl (h:=aPF 33 rfl (h:=Zz kr kr ?_))))))))))
 refine Zf (Zd rfl (fun g7=>?_) (fun g7=>?_))
 try simp only [sQ,ne_eq] at g7
 refine Za (xA (h:=Zh (ZO (Zs (Zad (ZO (Zs ?_)))))))
 exact ZW .ret (.inl rfl) [_] t1 ⟨Zm (ZdG hm hs (by simp [ZcG,g1,g2,g4,g6,g7,hpe])).symm,rfl,rfl⟩
 try simp only [sQ,ne_eq] at g7
 refine Zi (ZA (Zf (Ze (xM (h:=xD (h:=xA (h:=?_)))))))
 exact ZC (g.1+1,m.user) [] so2 ⟨rfl,oz,Zcf hm hs (by rw [hpe];simp [ZcG,g2,g7];simp at g4;omega),.succ hm⟩ t2 rfl
 try simp only [sQ,ne_eq] at g6
 refine aZ 20 rfl (h:=aZ 21 rfl (h:=aZ 22 rfl (h:=aZ 23 rfl (h:=aZ 24 rfl (h:=aZ 25 rfl (h:=aZ 26 rfl (h:=aZ 27 rfl (h:=aZ 28 rfl (h:=aZ 29 rfl (h:=aZ 30 rfl (h:=aZ 31 rfl (h:=aPF 32 rfl (h:=?_)))))))))))))
 refine aPF 33 rfl (h:=Zz kr kr ?_)
 refine Zf (Zd (t:=false) rfl (fun h=>Bool.noConfusion h) (fun _=>Zi (ZA (Zf (Ze (xM (h:=xD (h:=xA (h:=?_)))))))))
 exact ZC (g.1+1,m.user) [] so2 ⟨rfl,oz,Zcf hm hs (by rw [hp.at0 oz];simp [ZcG,g2,Znt (ZjD g2)];simp at g4;omega),.succ hm⟩ t2 rfl
 try simp only [sQ,ne_eq] at g1
 refine Z0 (Zal (Z6 (ZK (Zf (Za (xM (h:=xV Tryz.underlying33 (h:=ZcF (h:=xA (h:=Zh ?_))))))))))
 exact ZW .ret (.inl rfl) [_] t1 ⟨Zm (by rw [Zl3 (ZdX hs oz),Bool.eq_iff_iff];simp;try omega),rfl,rfl⟩

set_option maxHeartbeats 400000 in
theorem ZjJ (q1 q2 q3:Option Addr) (c1 c2 c3:Nat) (x:DHost) (q:Option Addr) (cp:Nat) (ns:List Str) (B:Kn) (hu:SlK B q1 c1 3 Zg x.users) (hn:SlK B q cp 1 Zbd ns):Za6 (pj J) 49 [.agg #[str x.domain,.slice q1 x.users.length c1,.slice q2 x.folders.length c2,.int .i64 x.queue.next,.slice q3 x.queue.items.length c3],.slice q ns.length cp] B (.bool (Zfx x.users ns)):=by
 refine Zc 20 Tryz.func49 rfl rfl rfl (Nat.le_of_ble_eq_true rfl) ?_
 have hnn:=hn.len
 have hun:=hu.len
 refine Za (xBx [_,_,_,_,_] (h:=fun b1=>xA (h:=Zu [_] rfl (Zk (Za (xA (h:=Zp (ZS (α:=Nat) [0,1,2] (fun k=>[(5,.int .i64 k)]) [] (fun k=>[]) (fun k Bx=>Bx=B∧k≤ns.length∧∀z,z∈ns.take k→decide (0≤Zde x.users z)=true) (fun k=>ns.length - k) 0 t1 rfl (⟨rfl,Nat.zero_le _,by simp⟩) (fun k B2 hle2 hI=>?_)))))))))
 obtain ⟨rfl,hk,ha⟩:=hI
 refine ZR [(0,_),(1,_),(2,_),(5,_)] [_] t4 rfl (Zk (Za (xM (h:=xM (h:=xV Tryz.underlying75 (h:=Zaf (h:=Zd rfl (fun g1=>?_) (fun g1=>?_))))))))
 try simp only [sQ,ne_eq] at g1
 refine Zi (Zf (Zk (Zp (Zk (Z9 (same _ _) mo kr ⟨rfl,rfl⟩ (fun _ _=>?_))))))
 refine aW 0 rfl ZaK (h:=aT 1 rfl (Zap fun D=>Zl rfl rfl Zfj rfl (atL 0 rfl rfl rfl) r4) (h:=aM 2 rfl (h:=aM 3 rfl (h:=?_))))
 obtain ⟨z,hz⟩:=Zar (xs:=ns) (i:=k) om
 obtain ⟨bb4,oo4,rfl⟩:=hn.base hz
 obtain ⟨_,⟨rfl,hb5⟩,hc5⟩:=hn.elem hz
 refine aIx 4 rfl Tryz.underlying75 sz9 (h:=aT 5 rfl (Zap fun D=>Zl rfl rfl lk9 rfl (hc5 _ 0 _ rfl) r4) (h:=aT 6 rfl (Zap fun D=>ZaS rfl rfl ZoX rfl (ZbC _ _ _ _ _ hu) r4) (h:=ZqR 7 rfl (h:=Zz kr kr ?_))))
 refine Zf (Zd rfl (fun g2=>?_) (fun g2=>?_))
 try simp only [sQ,ne_eq] at g2
 refine Za (xA (h:=Zh (ZO (Zs (Zad (ZO (Zs ?_)))))))
 exact ZW .ret (.inl rfl) [_] t1 ⟨Zm (ZcW hz (by simp;omega)).symm,rfl,rfl⟩
 try simp only [sQ,ne_eq] at g2
 refine Zi (ZA (Zf (Ze (xM (h:=xD (h:=xA (h:=?_)))))))
 exact ZC (k+1) [0] so2 ⟨rfl,oz,Zbp hz ha (by simp;omega)⟩ t4 rfl
 try simp only [sQ,ne_eq] at g1
 refine Z0 (Zal (Z6 (ZK (Zf (Za (xA (h:=Zh ?_)))))))
 exact ZW .ret (.inl rfl) [_] t1 ⟨Zm (Zey (ZbJ oz ha)).symm,rfl,rfl⟩

set_option maxHeartbeats 400000 in
theorem Zio (q1 q2 q3:Option Addr) (c1 c2 c3:Nat) (x:DHost) (u:Str) (B:Kn) (hf:SlK B q2 c2 5 Zb x.folders):Za6 (pj J) 32 [.agg #[str x.domain,.slice q1 x.users.length c1,.slice q2 x.folders.length c2,.int .i64 x.queue.next,.slice q3 x.queue.items.length c3],str u] B (.int .i64 (ZaC x.folders u)):=by
 refine Zc 32 Tryz.func32 rfl rfl rfl (Nat.le_of_ble_eq_true rfl) ?_
 have hfn:=hf.len
 refine Za (xBx [_,_,_,_,_] (h:=fun b1=>xA (h:=Zu [_] rfl (Za (xA (h:=Zk (Za (xA (h:=Zp (ZS (α:=Nat × Nat) [0,1,2,4] (fun g=>[(5,.int .i64 g.2),(6,.int .i64 g.1)]) [] (fun g=>[]) (fun g Bx=>Bx=B∧g.1≤x.folders.length∧g.2=ZaC (x.folders.take g.1) u∧g.2≤g.1*4000000000000) (fun g=>x.folders.length - g.1) (0,0) t2 rfl (⟨rfl,Nat.zero_le _,by simp [ZaC],oz⟩) (fun g B2 hle2 hI=>?_)))))))))))
 obtain ⟨rfl,hk,hs,hl⟩:=hI
 refine ZR [(0,_),(1,_),(2,_),(4,_),(5,_),(6,_)] [_] t6 rfl (Zk (Za (xM (h:=xW ZT (h:=x1 ZbV 0 (h:=xV Tryz.underlying24 (h:=Zaf (h:=Zd rfl (fun g1=>?_) (fun g1=>?_)))))))))
 try simp only [sQ,ne_eq] at g1
 refine Zi (Zf (Zk (Zp (Za (xW ZT (h:=x1 ZbV 0 (h:=xM (h:=?_))))))))
 obtain ⟨m,hm⟩:=Zar (xs:=x.folders) (i:=g.1) om
 obtain ⟨bb4,oo4,rfl⟩:=hf.base hm
 obtain ⟨_,⟨qg5,cg5,qm5,cm5,rfl,hg5,hm5,hb5,hb5b⟩,hc5⟩:=hf.elem hm
 have hg5n:=hg5.len
 have hm5n:=hm5.len
 have hm5s:=ZX hm5
 refine xIx Tryz.underlying24 ZaT (h:=xW Zce (h:=y1 lk9 hc5 0 (h:=xM (h:=Zcs (h:=Zd rfl (fun g2=>?_) (fun g2=>?_))))))
 try simp only [sQ,ne_eq] at g2
 refine Ze (xM (h:=xW ZT (h:=x1 ZbV 0 (h:=xM (h:=xIx Tryz.underlying24 ZaT (h:=xW ZbY (h:=yL [_,_] ZbL hc5 3 (h:=xR Zxc rfl (Zp1 _ _ (⟨m.next,m.mail⟩:DBox) _ hm5) (h:=xD (h:=xA (h:=ZA (Zf (Ze ?_)))))))))))))
 refine xM (h:=xD (h:=xA (h:=?_)))
 exact ZC (g.1+1,g.2+Zao m.mail) [0] so2 ⟨rfl,so,by rw [Zjm hm,← hs,if_pos g2],so⟩ t6 rfl
 try simp only [sQ,ne_eq] at g2
 refine Zi (ZA (Zf (Ze (xM (h:=xD (h:=xA (h:=?_)))))))
 exact ZC (g.1+1,g.2) [0] so2 ⟨rfl,so,by rw [Zjm hm,← hs,if_neg g2];simp only [Nat.add_zero],Nat.le_trans hl (Nat.mul_le_mul_right _ (Nat.le_succ _))⟩ t6 rfl
 try simp only [sQ,ne_eq] at g1
 refine Z0 (Zal (Z6 (ZK (Zf (Za (xM (h:=xA (h:=Zh ?_))))))))
 exact ZW .ret (.inl rfl) [_] t1 ⟨Za4 (by rw [← Zph hs oz]),rfl,rfl⟩

set_option maxHeartbeats 400000 in
theorem Zls (q1 q2 q3:Option Addr) (c1 c2 c3:Nat) (x:DHost) (B:Kn) (hu:SlK B q1 c1 3 Zg x.users) (hf:SlK B q2 c2 5 Zb x.folders):Za6 (pj J) 47 [.agg #[str x.domain,.slice q1 x.users.length c1,.slice q2 x.folders.length c2,.int .i64 x.queue.next,.slice q3 x.queue.items.length c3]] B (.bool (Zcd x.users x.folders)):=by
 refine Zc 60 Tryz.func47 rfl rfl rfl (Nat.le_of_ble_eq_true rfl) ?_
 have hfn:=hf.len
 have hun:=hu.len
 refine Za (xBx [_,_,_,_,_] (h:=fun b1=>xA (h:=Zu [_] rfl (Zk (Za (xA (h:=Zp (ZS (α:=Nat × Option DFolder) [0,1] (fun g=>[(3,.int .i64 g.1)]) [] (fun g=>[]) (fun g Bx=>Bx=B∧g.1≤x.folders.length∧Zdn x.users (x.folders.take g.1)=(true,g.2)∧Prev some none x.folders g.1 g.2) (fun g=>x.folders.length - g.1) (0,none) t1 rfl (⟨rfl,Nat.zero_le _,ZeP,.zero⟩) (fun g B2 hle2 hI=>?_)))))))))
 obtain ⟨rfl,hk,hs,hp⟩:=hI
 refine ZR [(0,_),(1,_),(3,_)] [_] t3 rfl (Zk (Za (xM (h:=xW ZT (h:=x1 ZbV 0 (h:=xV Tryz.underlying24 (h:=Zaf (h:=Zd rfl (fun g1=>?_) (fun g1=>?_)))))))))
 try simp only [sQ,ne_eq] at g1
 refine Zi (Zf (Zk (Zp (Za (xW ZT (h:=x1 ZbV 0 (h:=xM (h:=?_))))))))
 obtain ⟨m,hm⟩:=Zar (xs:=x.folders) (i:=g.1) om
 obtain ⟨bb4,oo4,rfl⟩:=hf.base hm
 obtain ⟨_,⟨qg5,cg5,qm5,cm5,rfl,hg5,hm5,hb5,hb5b⟩,hc5⟩:=hf.elem hm
 have hg5n:=hg5.len
 have hm5n:=hm5.len
 have hm5s:=ZX hm5
 refine xIx Tryz.underlying24 ZaT (h:=yL [_,_,_,_,_] ZeC hc5 0 (h:=xAl [_,_,_,_,_] ZcS (h:=fun b6=>xS [_,_,_,_,_] 1 [_,_,_,_,_] ZaT (h:=Zu [_,_] rfl (Zk (Z9 (same _ _) mo kr ⟨rfl,rfl⟩ (fun _ _=>?_)))))))
 refine aW 0 rfl ZaK (h:=aT 1 rfl (Zap fun D=>Zl rfl rfl Zfj rfl (atL 0 rfl rfl rfl) r4) (h:=aW 2 rfl Zce (h:=aT 3 rfl (Zap fun D=>Zl rfl rfl lk9 rfl (atL 1 rfl rfl rfl) r4) (h:=aT 4 rfl (Zap fun D=>ZaS rfl rfl ZoX rfl (ZbC _ _ _ _ _ hu) r4) (h:=ZqR 5 rfl (h:=aM 6 rfl (h:=Zaw (d:=23) rfl (fun g2=>?_) (fun g2=>?_))))))))
 try simp only [sQ,ne_eq] at g2
 refine aZ 7 rfl (h:=aZ 8 rfl (h:=aZ 9 rfl (h:=aZ 10 rfl (h:=aPT 11 rfl (h:=aM 12 rfl (h:=aZ 13 rfl (h:=aZ 14 rfl (h:=aZ 15 rfl (h:=aZ 16 rfl (h:=aPT 17 rfl (h:=aM 18 rfl (h:=aZ 19 rfl (h:=?_)))))))))))))
 refine aZ 20 rfl (h:=aZ 21 rfl (h:=aZ 22 rfl (h:=aPT 23 rfl (h:=aM 24 rfl (h:=aZ 25 rfl (h:=aZ 26 rfl (h:=aZ 27 rfl (h:=aZ 28 rfl (h:=aZ 29 rfl (h:=aZ 30 rfl (h:=aZ 31 rfl (h:=aZ 32 rfl (h:=?_)))))))))))))
 refine aZ 33 rfl (h:=aZ 34 rfl (h:=aZ 35 rfl (h:=aZ 36 rfl (h:=aZ 37 rfl (h:=aPT 38 rfl (h:=Zz kr kr ?_))))))
 refine Zf (Zd (t:=true) rfl (fun _=>Za (xA (h:=Zh (ZO (Zs (Zad (ZO (Zs ?_)))))))) (fun h=>Bool.noConfusion h))
 exact ZW .ret (.inl rfl) [_] t1 ⟨Zm (ZcC hm hs (by simp [ZbX,Z8,DFolder.box,g1,g2];try omega)).symm,rfl,rfl⟩
 try simp only [sQ,ne_eq] at g2
 refine aW 7 rfl ZdA (h:=aT 8 rfl (Zap fun D=>Zl rfl rfl lk9 rfl (atL 1 rfl rfl rfl) r4) (h:=aT 9 rfl (Zap fun D=>ZaS rfl rfl ZrW rfl (Zb0 _ om2 _) r4) (h:=?_)))
 refine aN 10 rfl (h:=aPF 11 rfl (h:=aM 12 rfl (h:=Zaw (d:=29) rfl (fun g3=>?_) (fun g3=>?_))))
 try simp only [sQ,ne_eq] at g3
 refine aZ 13 rfl (h:=aZ 14 rfl (h:=aZ 15 rfl (h:=aZ 16 rfl (h:=aPT 17 rfl (h:=aM 18 rfl (h:=aZ 19 rfl (h:=aZ 20 rfl (h:=aZ 21 rfl (h:=aZ 22 rfl (h:=aPT 23 rfl (h:=aM 24 rfl (h:=aZ 25 rfl (h:=?_)))))))))))))
 refine aZ 26 rfl (h:=aZ 27 rfl (h:=aZ 28 rfl (h:=aZ 29 rfl (h:=aZ 30 rfl (h:=aZ 31 rfl (h:=aZ 32 rfl (h:=aZ 33 rfl (h:=aZ 34 rfl (h:=aZ 35 rfl (h:=aZ 36 rfl (h:=aZ 37 rfl (h:=aPT 38 rfl (h:=?_)))))))))))))
 refine Zz kr kr ?_
 refine Zf (Zd (t:=true) rfl (fun _=>Za (xA (h:=Zh (ZO (Zs (Zad (ZO (Zs ?_)))))))) (fun h=>Bool.noConfusion h))
 exact ZW .ret (.inl rfl) [_] t1 ⟨Zm (ZcC hm hs (by simp [ZbX,Z8,DFolder.box,g1,g2,g3];try omega)).symm,rfl,rfl⟩
 try simp only [sQ,ne_eq] at g3
 refine aW 13 rfl ZdS (h:=aT 14 rfl (Zap fun D=>Zl rfl rfl Zru rfl (atL 1 rfl rfl rfl) r4) (h:=aT 15 rfl (Zap fun D=>ZaS rfl rfl Zu7 rfl (Zgk _ _ _ _ hg5) r4) (h:=aN 16 rfl (h:=aPF 17 rfl (h:=aM 18 rfl (h:=Zaw (d:=35) rfl (fun g4=>?_) (fun g4=>?_)))))))
 try simp only [sQ,ne_eq] at g4
 refine aZ 19 rfl (h:=aZ 20 rfl (h:=aZ 21 rfl (h:=aZ 22 rfl (h:=aPT 23 rfl (h:=aM 24 rfl (h:=aZ 25 rfl (h:=aZ 26 rfl (h:=aZ 27 rfl (h:=aZ 28 rfl (h:=aZ 29 rfl (h:=aZ 30 rfl (h:=aZ 31 rfl (h:=?_)))))))))))))
 refine aZ 32 rfl (h:=aZ 33 rfl (h:=aZ 34 rfl (h:=aZ 35 rfl (h:=aZ 36 rfl (h:=aZ 37 rfl (h:=aPT 38 rfl (h:=Zz kr kr ?_)))))))
 refine Zf (Zd (t:=true) rfl (fun _=>Za (xA (h:=Zh (ZO (Zs (Zad (ZO (Zs ?_)))))))) (fun h=>Bool.noConfusion h))
 exact ZW .ret (.inl rfl) [_] t1 ⟨Zm (ZcC hm hs (by simp [ZbX,Z8,DFolder.box,g1,g2,g3,g4];try omega)).symm,rfl,rfl⟩
 try simp only [sQ,ne_eq] at g4
 refine aW 19 rfl ZbY (h:=aT 20 rfl (Zap fun D=>Z5 [_,_] rfl rfl ZbL rfl (Zae 1 rfl rfl rfl) r4) (h:=aT 21 rfl (Zap fun D=>ZaS rfl rfl Zu6 rfl (Zgi _ _ (⟨m.next,m.mail⟩:DBox) _ hm5) r4) (h:=aN 22 rfl (h:=aPF 23 rfl (h:=aM 24 rfl (h:=Zaw (d:=41) rfl (fun g5=>?_) (fun g5=>?_)))))))
 try simp only [sQ,ne_eq] at g5
 refine aZ 25 rfl (h:=aZ 26 rfl (h:=aZ 27 rfl (h:=aZ 28 rfl (h:=aZ 29 rfl (h:=aZ 30 rfl (h:=aZ 31 rfl (h:=aZ 32 rfl (h:=aZ 33 rfl (h:=aZ 34 rfl (h:=aZ 35 rfl (h:=aZ 36 rfl (h:=aZ 37 rfl (h:=?_)))))))))))))
 refine aPT 38 rfl (h:=Zz kr kr ?_)
 refine Zf (Zd (t:=true) rfl (fun _=>Za (xA (h:=Zh (ZO (Zs (Zad (ZO (Zs ?_)))))))) (fun h=>Bool.noConfusion h))
 exact ZW .ret (.inl rfl) [_] t1 ⟨Zm (ZcC hm hs (by simp [ZbX,Z8,DFolder.box,g1,g2,g3,g4,g5];try omega)).symm,rfl,rfl⟩
 try simp only [sQ,ne_eq] at g5
 refine aM 25 rfl (h:=Zm4 26 rfl (h:=aM 27 rfl (h:=Zaw (d:=44) rfl (fun g6=>?_) (fun g6=>?_))))
 try simp only [sQ,ne_eq] at g6
 refine aW 28 rfl ZT (h:=aT 29 rfl (Zap fun D=>Zl rfl rfl ZbV rfl (atL 0 rfl rfl rfl) r4) (h:=aM 30 rfl (h:=aU 31 rfl (h:=?_))))
 obtain ⟨y,hy⟩:=Zec (xs:=x.folders) (i:=(↑g.1 - 1)) om om
 obtain ⟨_,⟨qg12,cg12,qm12,cm12,rfl,hg12,hm12,hb12,hb12b⟩,hc12⟩:=hf.elem hy
 have hg12n:=hg12.len
 have hm12n:=hm12.len
 have hm12s:=ZX hm12
 refine aIx 32 rfl Tryz.underlying24 ZaT (h:=?_)
 have hpe:=hp.at hy oz
 refine aT 33 rfl (Zap fun D=>Z5 [_,_,_,_,_] rfl rfl ZeC rfl (Zic hc12 0 rfl rfl) r4) (h:=aT 34 rfl (Zap fun D=>Z5 [_,_,_,_,_] rfl rfl ZeC rfl (Zae 1 rfl rfl rfl) r4) (h:=aT 35 rfl (Zap fun D=>ZaS rfl rfl Zws rfl (Zlr y m _ _ _ _ _ _ _ _ _) r4) (h:=aN 36 rfl (h:=aPT 37 rfl (h:=aPF 38 rfl (h:=Zz kr kr ?_))))))
 refine Zf (Zd rfl (fun g7=>?_) (fun g7=>?_))
 try simp only [sQ,ne_eq] at g7
 refine Za (xA (h:=Zh (ZO (Zs (Zad (ZO (Zs ?_)))))))
 exact ZW .ret (.inl rfl) [_] t1 ⟨Zm (ZcC hm hs (by simp [ZbX,Z8,DFolder.box,g1,g2,g3,g4,g5,g6,g7,hpe];try omega)).symm,rfl,rfl⟩
 try simp only [sQ,ne_eq] at g7
 refine Zi (ZA (Zf (Ze (xM (h:=xD (h:=xA (h:=?_)))))))
 exact ZC (g.1+1,some m) [0] so2 ⟨rfl,oz,Zcf hm hs (by rw [hpe];simp [ZbX,Z8,DFolder.box,g3,g4,g5,g7];omega),.succ hm⟩ t3 rfl
 try simp only [sQ,ne_eq] at g6
 refine aZ 28 rfl (h:=aZ 29 rfl (h:=aZ 30 rfl (h:=aZ 31 rfl (h:=aZ 32 rfl (h:=aZ 33 rfl (h:=aZ 34 rfl (h:=aZ 35 rfl (h:=aZ 36 rfl (h:=aPF 37 rfl (h:=aPF 38 rfl (h:=Zz kr kr ?_)))))))))))
 refine Zf (Zd (t:=false) rfl (fun h=>Bool.noConfusion h) (fun _=>Zi (ZA (Zf (Ze (xM (h:=xD (h:=xA (h:=?_)))))))))
 exact ZC (g.1+1,some m) [0] so2 ⟨rfl,oz,Zcf hm hs (by rw [hp.at0 oz];simp [ZbX,Z8,DFolder.box,g3,g4,g5];omega),.succ hm⟩ t3 rfl
 try simp only [sQ,ne_eq] at g1
 refine Z0 (Zal (Z6 (ZK (Zf (Za (xW ZT (h:=x1 ZbV 0 (h:=xV Tryz.underlying24 (h:=ZcF (h:=xA (h:=Zh ?_)))))))))))
 exact ZW .ret (.inl rfl) [_] t1 ⟨Zm (by rw [Zku (ZdX hs oz),Bool.eq_iff_iff];simp;try omega),rfl,rfl⟩

set_option maxHeartbeats 400000 in
theorem ZaG (q1 q2 q3:Option Addr) (c1 c2 c3:Nat) (x:DHost) (hd:x.domain.length≤2000000) (B:Kn) (hu:SlK B q1 c1 3 Zg x.users) (hf:SlK B q2 c2 5 Zb x.folders) (hi:SlK B q3 c3 4 Zj x.queue.items):Za6 (pj J) 17 [.agg #[str x.domain,.slice q1 x.users.length c1,.slice q2 x.folders.length c2,.int .i64 x.queue.next,.slice q3 x.queue.items.length c3]] B (.bool (Zx x)):=by
 refine Zc 87 Tryz.func17 rfl rfl rfl (Nat.le_of_ble_eq_true rfl) ?_
 have hfn:=hf.len
 have hun:=hu.len
 have hin:=hi.len
 refine Za (xBx [_,_,_,_,_] (h:=fun b1=>xA (h:=Zu [_] rfl (Zk (Za (xW ZnE (h:=x1 lk9 0 (h:=xR Zxk rfl (Zk8 _ om2 _) (h:=?_)))))))))
 refine xN (h:=xM (h:=Zq (d:=10) rfl (fun g1=>?_) (fun g1=>?_)))
 try simp only [sQ,ne_eq] at g1
 refine xP (h:=xP (h:=xP (h:=xP (h:=xT (h:=xM (h:=xP (h:=xP (h:=xP (h:=xP (h:=xT (h:=xM (h:=xP (h:=?_)))))))))))))
 refine xP (h:=xP (h:=xT (h:=Zd (t:=true) rfl (fun _=>Za (xA (h:=Zh (Zs ?_)))) (fun h=>Bool.noConfusion h))))
 exact ZW .ret (.inl rfl) [_] t1 ⟨Zm (by simp [Zx,g1]),rfl,rfl⟩
 try simp only [sQ,ne_eq] at g1
 refine xW ZaK (h:=x1 Zfj 0 (h:=xR Zwy rfl (Zh5 _ _ _ _ hu) (h:=xN (h:=xF (h:=xM (h:=Zq (d:=16) rfl (fun g2=>?_) (fun g2=>?_)))))))
 try simp only [sQ,ne_eq] at g2
 refine xP (h:=xP (h:=xP (h:=xP (h:=xT (h:=xM (h:=xP (h:=xP (h:=xP (h:=xT (h:=Zd (t:=true) rfl (fun _=>Za (xA (h:=?_))) (fun h=>Bool.noConfusion h)))))))))))
 refine Zh (Zs ?_)
 exact ZW .ret (.inl rfl) [_] t1 ⟨Zm (by simp [Zx,g1,g2]),rfl,rfl⟩
 try simp only [sQ,ne_eq] at g2
 refine xW ZcD (h:=xL [_,_] Zer 0 (h:=xR ZvI rfl (ZfN _ _ x.queue _ hi) (h:=xN (h:=xF (h:=xM (h:=Zq (d:=22) rfl (fun g3=>?_) (fun g3=>?_)))))))
 try simp only [sQ,ne_eq] at g3
 refine xP (h:=xP (h:=xP (h:=xT (h:=Zd (t:=true) rfl (fun _=>Za (xA (h:=Zh (Zs ?_)))) (fun h=>Bool.noConfusion h)))))
 exact ZW .ret (.inl rfl) [_] t1 ⟨Zm (by simp [Zx,g1,g2,g3]),rfl,rfl⟩
 try simp only [sQ,ne_eq] at g3
 refine xL [_,_,_,_,_] ZZ 0 (h:=xR Zxj rfl (Zls _ _ _ _ _ _ x _ hu hf) (h:=xN (h:=xF (h:=Zd rfl (fun g4=>?_) (fun g4=>?_)))))
 try simp only [sQ,ne_eq] at g4
 refine Za (xA (h:=Zh (Zs ?_)))
 exact ZW .ret (.inl rfl) [_] t1 ⟨Zm (by simp [Zx,g1,g2,g3,g4]),rfl,rfl⟩
 try simp only [sQ,ne_eq] at g4
 refine Zi (Zf (Zk (Za (xA (h:=Zp (ZS (α:=Nat) [0,1,26] (fun k=>[(3,.int .i64 k)]) [] (fun k=>[]) (fun k Bx=>Bx=B∧k≤x.users.length∧∀z,z∈x.users.take k→Zat x.folders z=true) (fun k=>x.users.length - k) 0 t1 rfl (⟨rfl,Nat.zero_le _,by simp⟩) (fun k B6 hle6 hI=>?_)))))))
 obtain ⟨rfl,hk,ha⟩:=hI
 refine ZR [(0,_),(1,_),(3,_),(26,_)] [_] t4 rfl (Zk (Za (xM (h:=xW ZaK (h:=x1 Zfj 0 (h:=xV Tryz.underlying23 (h:=Zaf (h:=Zd rfl (fun g5=>?_) (fun g5=>?_)))))))))
 try simp only [sQ,ne_eq] at g5
 refine Zi (Zf (Zk (Zp (Zk (Z9 (same _ _) mo kr ⟨rfl,rfl⟩ (fun _ _=>?_))))))
 refine aT 0 rfl (Zap fun D=>Z5 [_,_,_,_,_] rfl rfl ZZ rfl (Zae 0 rfl rfl rfl) r4) (h:=aW 1 rfl ZaK (h:=aT 2 rfl (Zap fun D=>Zl rfl rfl Zfj rfl (atL 0 rfl rfl rfl) r4) (h:=aM 3 rfl (h:=?_))))
 obtain ⟨w,hw⟩:=Zar (xs:=x.users) (i:=k) om
 obtain ⟨bb8,oo8,rfl⟩:=hu.base hw
 obtain ⟨_,⟨rfl,hb9,hb9b⟩,hc9⟩:=hu.elem hw
 refine aIx 4 rfl Tryz.underlying23 Zdi (h:=aW 5 rfl ZcH (h:=aT 6 rfl (Zap fun D=>Zl rfl rfl lk9 rfl (hc9 _ 0 _ rfl) r4) (h:=aT 7 rfl (Zap fun D=>ZaS rfl rfl ZrY rfl (Zcx _ _ _ _ _ _ x w.name [105,110,98,111,120] om2 om2 _ hf) r4) (h:=?_))))
 refine ZqR 8 rfl (h:=aM 9 rfl (h:=Zaw (d:=43) rfl (fun g6=>?_) (fun g6=>?_)))
 try simp only [sQ,ne_eq] at g6
 refine aZ 10 rfl (h:=aZ 11 rfl (h:=aZ 12 rfl (h:=aZ 13 rfl (h:=aZ 14 rfl (h:=aZ 15 rfl (h:=aZ 16 rfl (h:=aZ 17 rfl (h:=aZ 18 rfl (h:=aZ 19 rfl (h:=aZ 20 rfl (h:=aZ 21 rfl (h:=aZ 22 rfl (h:=?_)))))))))))))
 refine aZ 23 rfl (h:=aZ 24 rfl (h:=aPT 25 rfl (h:=Zz kr kr ?_)))
 refine Zf (Zd (t:=true) rfl (fun _=>Za (xA (h:=Zh (ZO (Zs (Zad (ZO (Zs ?_)))))))) (fun h=>Bool.noConfusion h))
 exact ZW .ret (.inl rfl) [_] t1 ⟨Zm (Zix hw (ZkW g6)).symm,rfl,rfl⟩
 try simp only [sQ,ne_eq] at g6
 refine aT 10 rfl (Zap fun D=>Z5 [_,_,_,_,_] rfl rfl ZZ rfl (Zae 0 rfl rfl rfl) r4) (h:=aW 11 rfl ZaK (h:=aT 12 rfl (Zap fun D=>Zl rfl rfl Zfj rfl (atL 0 rfl rfl rfl) r4) (h:=aM 13 rfl (h:=aIx 14 rfl Tryz.underlying23 Zdi (h:=aW 15 rfl ZcH (h:=aT 16 rfl (Zap fun D=>Zl rfl rfl lk9 rfl (hc9 _ 0 _ rfl) r4) (h:=aT 17 rfl (Zap fun D=>ZaS rfl rfl ZvJ rfl (Zio _ _ _ _ _ _ x _ _ hf) r4) (h:=aW 18 rfl ZaK (h:=aT 19 rfl (Zap fun D=>Zl rfl rfl Zfj rfl (atL 0 rfl rfl rfl) r4) (h:=aM 20 rfl (h:=aIx 21 rfl Tryz.underlying23 Zdi (h:=aW 22 rfl ZfA (h:=?_)))))))))))))
 refine aT 23 rfl (Zap fun D=>Zl rfl rfl lk3 rfl (hc9 _ 2 _ rfl) r4) (h:=Zm4 24 rfl (h:=aPF 25 rfl (h:=Zz kr kr ?_)))
 refine Zf (Zd rfl (fun g7=>?_) (fun g7=>?_))
 try simp only [sQ,ne_eq] at g7
 refine Za (xA (h:=Zh (ZO (Zs (Zad (ZO (Zs ?_)))))))
 exact ZW .ret (.inl rfl) [_] t1 ⟨Zm (Zix hw (ZkV g7)).symm,rfl,rfl⟩
 try simp only [sQ,ne_eq] at g7
 refine Zi (ZA (Zf (Ze (xM (h:=xD (h:=xA (h:=?_)))))))
 exact ZC (k+1) [0] so2 ⟨rfl,oz,Zbp hw ha (ZkU g6 g7)⟩ t4 rfl
 try simp only [sQ,ne_eq] at g5
 refine Z0 (Zal (Z6 (ZK (Zf (Zk (Za (xA (h:=Zp (ZS (α:=Nat) [0,1,3,26,31] (fun j=>[(4,.int .i64 j)]) [] (fun j=>[]) (fun j Bx=>Bx=B6∧j≤x.queue.items.length∧∀z,z∈x.queue.items.take j→ZaE x.users z=true) (fun j=>x.queue.items.length - j) 0 t1 rfl (⟨rfl,Nat.zero_le _,by simp⟩) (fun j B12 hle12 hI=>?_))))))))))
 obtain ⟨rfl,hj,hb⟩:=hI
 refine ZR [(0,_),(1,_),(3,_),(4,_),(26,_),(31,_)] [_] t6 rfl (Zk (Za (xM (h:=xW ZcD (h:=xW ZaM (h:=x1 ZfX 0 (h:=xV Tryz.underlying25 (h:=Zaf (h:=Zd rfl (fun g8=>?_) (fun g8=>?_))))))))))
 try simp only [sQ,ne_eq] at g8
 refine Zi (Zf (Zk (Zp (Za (xW ZcD (h:=xW ZaM (h:=x1 ZfX 0 (h:=xM (h:=?_)))))))))
 obtain ⟨y,hy⟩:=Zar (xs:=x.queue.items) (i:=j) om
 obtain ⟨bb14,oo14,rfl⟩:=hi.base hy
 obtain ⟨_,⟨qi15,ci15,rfl,hi15,hb15,hb15b⟩,hc15⟩:=hi.elem hy
 have hi15n:=hi15.len
 refine xIx Tryz.underlying25 ZeG (h:=yL [_,_,_,_] Zl5 hc15 0 (h:=xAl [_,_,_,_] Zi2 (h:=fun b16=>xS [_,_,_,_] 1 [_,_,_,_] ZeG (h:=Zu [_,_] rfl (Za (xW ZaK (h:=x1 Zfj 0 (h:=xW ZnD (h:=x1 lk9 1 (h:=xR ZoX rfl (ZbC _ _ _ _ _ hu) (h:=Zaf (h:=xM (h:=?_)))))))))))))
 refine Zq (d:=80) rfl (fun g9=>?_) (fun g9=>?_)
 try simp only [sQ,ne_eq] at g9
 refine xP (h:=xP (h:=xP (h:=xP (h:=xP (h:=xT (h:=Zd (t:=true) rfl (fun _=>Za (xA (h:=Zh (ZO (Zs (Zad (ZO (Zs ?_)))))))) (fun h=>Bool.noConfusion h)))))))
 exact ZW .ret (.inl rfl) [_] t1 ⟨Zm (Ziz hy (Zkm g9)).symm,rfl,rfl⟩
 try simp only [sQ,ne_eq] at g9
 refine xL [_,_,_,_,_] ZZ 0 (h:=xW ZbM (h:=x1 ZhE 1 (h:=xR Zwx rfl (ZjJ _ _ _ _ _ _ x _ _ y.left _ hu hi15) (h:=xN (h:=xF (h:=Zd rfl (fun ga=>?_) (fun ga=>?_)))))))
 try simp only [sQ,ne_eq] at ga
 refine Za (xA (h:=Zh (ZO (Zs (Zad (ZO (Zs ?_)))))))
 exact ZW .ret (.inl rfl) [_] t1 ⟨Zm (Ziz hy (Zkl ga)).symm,rfl,rfl⟩
 try simp only [sQ,ne_eq] at ga
 refine Zi (ZA (Zf (Ze (xM (h:=xD (h:=xA (h:=?_)))))))
 exact ZC (j+1) [0] so2 ⟨rfl,oz,Zbp hy hb (Zkk g9 ga)⟩ t6 rfl
 try simp only [sQ,ne_eq] at g8
 refine Z0 (Zal (Z6 (ZK (Zf (Za (xA (h:=Zh ?_)))))))
 exact ZW .ret (.inl rfl) [_] t1 ⟨Zm (Zow g1 g2 g3 g4 (Zey (ZbJ oz ha)) (Zey (ZbJ oz hb))).symm,rfl,rfl⟩

set_option maxHeartbeats 400000 in
theorem Zsg (q:Option Addr) (cp:Nat) (gs:List DGrant) (B:Kn) (hg:SlK B q cp 2 ZB gs):ZL (pj J) 128 [.slice q gs.length cp] B [] (Zm5 gs B):=by
 refine Zc 46 Tryz.func128 rfl rfl rfl (Nat.le_of_ble_eq_true rfl) ?_
 have hgn:=hg.len
 refine Za (xA (h:=xA (h:=Zk (Za (xM (h:=xV Tryz.underlying33 (h:=Zbf (h:=Zd rfl (fun g0=>?_) (fun g0=>?_)))))))))
 try simp only [sQ,ne_eq] at g0
 refine Za (xA (h:=xA (h:=Zh (Zs ?_))))
 exact ZiO .ret (.inl rfl) [_,_] t2 (by simp [ZcE];omega)
 try simp only [sQ,ne_eq] at g0
 refine Zi (Zf (Za (Zo (Zo9 rfl rfl (fun b1 l1 hl1=>xA (h:=Zu [_] rfl (Za (xA (h:=Zk (Za (xM (h:=xV Tryz.underlying33 (h:=xM (h:=?_))))))))))))))
 refine Zp (ZS (α:=Nat × Str × Cells) [0,4,10,12,13] (fun g=>[(5,str g.2.1),(14,.int .i64 g.1)]) [0] (fun g=>[g.2.2]) (fun g Bx=>Bx=B∧g.1≤gs.length∧Zdy (gs.take g.1)=(true,g.2.1)∧g.2.1.length≤2000000∧ZtY g.2.2 b1 (ZsF (gs.take g.1))) (fun g=>gs.length - g.1) (0,[],_) t2 rfl (⟨rfl,Nat.zero_le _,ZeP,by simp,hl1⟩) (fun g B2 hle2 hI=>?_))
 obtain ⟨rfl,hk,hs,hnm,hml⟩:=hI
 refine ZR [(0,_),(4,_),(5,_),(10,_),(12,_),(13,_),(14,_)] [_] t7 rfl (Za (Zaf (h:=Zk (Zd rfl (fun g1=>?_) (fun g1=>?_)))))
 try simp only [sQ,ne_eq] at g1
 refine Zi (Zf (Zk (Zp (Za ?_))))
 obtain ⟨m,hm⟩:=Zar (xs:=gs) (i:=g.1) om
 obtain ⟨bb4,oo4,rfl⟩:=hg.base hm
 obtain ⟨_,⟨rfl,hb5⟩,hc5⟩:=hg.elem hm
 refine xIx Tryz.underlying33 ZbG (h:=yL [_,_] Zon hc5 0 (h:=xAl [_,_] ZdJ (h:=fun b6=>xS [_,_] 1 [_,_] ZbG (h:=Zu [_,_] rfl (Zk (Za (xW ZcP (h:=x1 lk9 1 (h:=xR ZtX rfl (Zdm _ om2 _) (h:=?_))))))))))
 refine xN (h:=xM (h:=Zq (d:=22) rfl (fun g2=>?_) (fun g2=>?_)))
 try simp only [sQ,ne_eq] at g2
 refine xP (h:=xP (h:=xP (h:=xP (h:=xT (h:=Zd (t:=true) rfl (fun _=>Za (xA (h:=xA (h:=Zh (Zs (ZO (Zs (Zad (ZO (Zs ?_)))))))))) (fun h=>Bool.noConfusion h))))))
 exact ZiO .ret (.inl rfl) [_,_] t2 (ZdG hm hs (by rw [ZcG,Zbr g.2.1 m.user];simp [g2];try omega))
 try simp only [sQ,ne_eq] at g2
 refine xW ZcP (h:=x1 lk9 1 (h:=xM (h:=Zo (Zst rfl rfl rfl rfl (xF (h:=Zd rfl (fun g3=>?_) (fun g3=>?_)))))))
 try simp only [sQ,ne_eq] at g3
 refine Za (xA (h:=xA (h:=Zh (Zs (ZO (Zs (Zad (ZO (Zs ?_)))))))))
 exact ZiO .ret (.inl rfl) [_,_] t2 (ZdG hm hs (by rw [ZcG,Zbr g.2.1 m.user];simp [g3];try omega))
 try simp only [sQ,ne_eq] at g3
 refine Zi (Zf (Zk (Za (xW ZgP (h:=x1 lk3 1 (h:=Zaf (h:=xM (h:=Zq (d:=31) rfl (fun g4=>?_) (fun g4=>?_)))))))))
 try simp only [sQ,ne_eq] at g4
 refine xP (h:=xP (h:=xP (h:=xP (h:=xT (h:=Zd (t:=true) rfl (fun _=>Za (xA (h:=xA (h:=Zh (Zs (ZO (Zs (Zad (ZO (Zs ?_)))))))))) (fun h=>Bool.noConfusion h))))))
 exact ZiO .ret (.inl rfl) [_,_] t2 (ZdG hm hs (by rw [ZcG,Zbr g.2.1 m.user];simp [g4];try omega))
 try simp only [sQ,ne_eq] at g4
 refine xW ZgP (h:=x1 lk3 1 (h:=xR Zv3 rfl (Zrc _ _) (h:=xN (h:=xF (h:=Zd rfl (fun g5=>?_) (fun g5=>?_))))))
 try simp only [sQ,ne_eq] at g5
 refine Za (xA (h:=xA (h:=Zh (Zs (ZO (Zs (Zad (ZO (Zs ?_)))))))))
 exact ZiO .ret (.inl rfl) [_,_] t2 (ZdG hm hs (Bool.eq_false_iff.2 fun hc=>by simp only [ZcG,Bool.and_eq_true,decide_eq_true_eq] at hc;simp only [Bool.and_eq_false_iff,decide_eq_false_iff_not] at g5;omega))
 try simp only [sQ,ne_eq] at g5
 refine Zi (Zf (Za (xM (h:=xW ZcP (h:=x1 lk9 1 (h:=xW ZgP (h:=x1 lk3 1 (h:=Zo (Zmb (k:=m.user) (v:=m.rights) 0 rfl hml rfl rfl Tryz.underlying169 Tryz.underlying9 rfl rfl rfl (fun l9 hl9=>Zu [_,_] rfl (Ze (xW ZcP (h:=x1 lk9 1 (h:=?_))))))))))))))
 refine xA (h:=ZA (Zf (Ze (xD (h:=xM (h:=?_))))))
 exact ZC (g.1+1,m.user,l9) [0] so2 ⟨rfl,so,Zcf hm hs (by rw [ZcG,Zbr g.2.1 m.user,g2,g3];simp at g5 ⊢;omega),oy,by rw [← Ztl hm hs (by rw [Zbr g.2.1 m.user,g3];rfl)];exact hl9⟩ t7 rfl
 try simp only [sQ,ne_eq] at g1
 refine Z0 (Zal (Z6 (ZK (Zf (Za (xM (h:=xA (h:=xA (h:=Zh ?_)))))))))
 exact ZtC .ret (.inl rfl) [_,_] rfl t2 (by rw [Zl3 (ZdX hs oz)];simp;omega) (by have e:=hml;rw [List.take_of_length_le oz] at e;exact e)

set_option maxHeartbeats 400000 in
theorem Zp4 (q:Option Addr) (cp:Nat) (gs:List DGrant) (B:Kn) (hg:SlK B q cp 2 ZB gs):Za6 (pj J) 80 [.slice q gs.length cp] B (.bool (ZcE gs)):=by
 refine Zc 11 Tryz.func80 rfl rfl rfl (Nat.le_of_ble_eq_true rfl) ?_
 refine Za (xA (h:=Za (xM (h:=Zo (Zai rfl rfl Zwf rfl (Zsg _ _ _ _ hg) ?_)))))
 rintro _ _ _ hle1 ⟨m1,l1,rfl,rfl,rfl,hl1⟩
 refine xM (h:=xE (h:=xE (h:=xA (h:=xA (h:=Zu [_] rfl (Za (xM (h:=xA (h:=Zh ?_)))))))))
 exact ZW .ret (.inl rfl) [_] t1 ⟨rfl,rfl,rfl⟩

set_option maxHeartbeats 400000 in
theorem ZuN (a b:Str) (B:Kn):Za6 (pj J) 114 [str a,str b] B (.int .i64 (Lib.compareBytes a b)):=by
 refine Zc 8 Tryz.func114 rfl rfl rfl (Nat.le_of_ble_eq_true rfl) ?_
 refine Za (xA (h:=Za (xM (h:=xM (h:=Zo (Zvm (fn:=Tryz.f149) rfl rfl Tryz.func149 rfl rfl Zuv Zuw rfl rfl (xA (h:=Zh ?_))))))))
 exact ZW .ret (.inl rfl) [_] t1 ⟨rfl,rfl,rfl⟩

set_option maxHeartbeats 400000 in
theorem ZsI (a b:Str) (B:Kn):Za6 (pj J) 75 [str a,str b] B (.int .i64 (Lib.compareBytes a b)):=by
 refine Zc 8 Tryz.func75 rfl rfl rfl (Nat.le_of_ble_eq_true rfl) ?_
 refine Za (xA (h:=Za (xM (h:=xM (h:=xR Zwg rfl (ZuN a b _) (h:=xA (h:=Zh ?_)))))))
 exact ZW .ret (.inl rfl) [_] t1 ⟨rfl,rfl,rfl⟩

set_option maxHeartbeats 400000 in
theorem ZmN (f:DFolder) (qa qb:Option Addr) (ca cb:Nat) (ow nm:Str) (B:Kn):Za6 (pj J) 40 [.agg #[str f.owner,str f.name,.slice qa f.grants.length ca,.int .i64 f.next,.slice qb f.mail.length cb],str ow,str nm] B (.int .i64 (ZuM f ow nm)):=by
 refine Zc 19 Tryz.func40 rfl rfl rfl (Nat.le_of_ble_eq_true rfl) ?_
 refine Za (xBx [_,_,_,_,_] (h:=fun b1=>xA (h:=Zu [_] rfl (Zk (Za (xW Zce (h:=x1 lk9 0 (h:=xM (h:=xR Zwt rfl (ZsI f.owner ow _) (h:=xA (h:=Za (xM (h:=?_)))))))))))))
 refine Zdq (h:=Zd rfl (fun g1=>?_) (fun g1=>?_))
 try simp only [sQ,ne_eq] at g1
 refine Za (xM (h:=xA (h:=Zh (Zs ?_))))
 exact ZW .ret (.inl rfl) [_] t1 ⟨Za4 (by rw [ZuM,if_pos g1]),rfl,rfl⟩
 try simp only [sQ,ne_eq] at g1
 refine Zi (Zf (Za (xW ZdA (h:=x1 lk9 0 (h:=xM (h:=xR Zwt rfl (ZsI f.name nm _) (h:=xA (h:=Zh ?_))))))))
 exact ZW .ret (.inl rfl) [_] t1 ⟨Za4 (by rw [ZuM,if_neg (fun h=>h g1)]),rfl,rfl⟩

set_option maxHeartbeats 400000 in
theorem Zsy (b o:Nat) (q1 q2 q3:Option Addr) (c1 c2 c3:Nat) (x:DHost) (u:Str) (B:Kn) (hh:Zbx B b o [str x.domain,.slice q1 x.users.length c1,.slice q2 x.folders.length c2,.int .i64 x.queue.next,.slice q3 x.queue.items.length c3]) (hf:SlK B q2 c2 5 Zb x.folders):Za6 (pj J) 30 [ptr ⟨b,o,none⟩,str u] B (.int .i64 (ZeE x.folders u)):=by
 refine Zc 28 Tryz.func30 rfl rfl rfl (Nat.le_of_ble_eq_true rfl) ?_
 have hfn:=hf.len
 refine Za (xA (h:=Za (xA (h:=Zk (Za (xM (h:=xNc (h:=xW ZT (h:=Zo (Zl rfl rfl ZbV rfl (hh _ 2 _ rfl) (xV Tryz.underlying24 (h:=xM (h:=Zp ?_)))))))))))))
 refine ZS (α:=Nat × Int) [0,1,4,11,12] (fun g=>[(5,.int .i64 g.2),(13,.int .i64 g.1)]) [] (fun g=>[]) (fun g Bx=>Bx=B∧g.1≤x.folders.length∧g.2=ZeE (x.folders.take g.1) u∧-1*g.1≤g.2∧g.2≤g.1*200) (fun g=>x.folders.length - g.1) (0,0) t2 rfl (⟨rfl,Nat.zero_le _,by simp [ZeE],by simp,by simp⟩) (fun g B1 hle1 hI=>?_)
 obtain ⟨rfl,hk,hs,hl0,hl1⟩:=hI
 refine ZR [(0,_),(1,_),(4,_),(5,_),(11,_),(12,_),(13,_)] [] t7 rfl (Za (Zaf (h:=Zk (Zd rfl (fun g1=>?_) (fun g1=>?_)))))
 try simp only [sQ,ne_eq] at g1
 refine Zi (Zf (Zk (Zp (Za ?_))))
 obtain ⟨m,hm⟩:=Zar (xs:=x.folders) (i:=g.1) om
 obtain ⟨bb3,oo3,rfl⟩:=hf.base hm
 obtain ⟨_,⟨qg4,cg4,qm4,cm4,rfl,hg4,hm4,hb4,hb4b⟩,hc4⟩:=hf.elem hm
 have hg4n:=hg4.len
 have hm4n:=hm4.len
 have hm4s:=ZX hm4
 refine xIx Tryz.underlying24 ZaT (h:=yL [_,_,_,_,_] ZeC hc4 0 (h:=xAl [_,_,_,_,_] ZcS (h:=fun b5=>xS [_,_,_,_,_] 0 [_,_,_,_,_] ZaT (h:=Zu [_] rfl (Za (xW Zce (h:=x1 lk9 0 (h:=xM (h:=Zcs (h:=Zd rfl (fun g2=>?_) (fun g2=>?_)))))))))))
 try simp only [sQ,ne_eq] at g2
 have hbs:=ZgT (⟨m.next,m.mail⟩:DBox)
 refine Ze (xM (h:=xW ZbY (h:=xL [_,_] ZbL 0 (h:=xR ZwG rfl (ZlR _ _ (⟨m.next,m.mail⟩:DBox) _ hm4) (h:=xD (h:=xA (h:=ZA (Zf (Ze (xD (h:=xM (h:=?_))))))))))))
 exact ZC (g.1+1,g.2+ZdC ⟨m.next,m.mail⟩) [] so2 ⟨rfl,so,by rw [Zfg hm,← hs,if_pos g2],so,so⟩ t7 rfl
 try simp only [sQ,ne_eq] at g2
 refine Zi (ZA (Zf (Ze (xD (h:=xM (h:=?_))))))
 exact ZC (g.1+1,g.2) [] so2 ⟨rfl,so,by rw [Zfg hm,← hs,if_neg g2,Int.add_zero],so,so⟩ t7 rfl
 try simp only [sQ,ne_eq] at g1
 refine Z0 (Zal (Z6 (ZK (Zf (Za (xM (h:=xA (h:=Zh ?_))))))))
 exact ZW .ret (.inl rfl) [_] t1 ⟨Za4 (by rw [← Zk0 hs oz]),rfl,rfl⟩

set_option maxHeartbeats 400000 in
theorem Zqr (b o:Nat) (q1 q2 q3:Option Addr) (c1 c2 c3:Nat) (x:DHost) (u:Str) (more:Int) (hn:u.length≤2000000) (hm0:0≤more) (hm1:more≤2000000) (B:Kn) (hh:Zbx B b o [str x.domain,.slice q1 x.users.length c1,.slice q2 x.folders.length c2,.int .i64 x.queue.next,.slice q3 x.queue.items.length c3]) (hu:SlK B q1 c1 3 Zg x.users) (hf:SlK B q2 c2 5 Zb x.folders):Za6 (pj J) 83 [ptr ⟨b,o,none⟩,str u,.int .i64 more] B (.bool (Zew x u more)):=by
 refine Zc 30 Tryz.func83 rfl rfl rfl (Nat.le_of_ble_eq_true rfl) ?_
 have hfn:=hf.len
 have hub:=Zq6 x.folders u
 refine Za (xA (h:=Za (xM (h:=xNc (h:=xW ZaK (h:=Zo (Zl rfl rfl Zfj rfl (hh _ 1 _ rfl) (xM (h:=xR Zvc rfl (Zem _ _ _ u om2 _ hu) (h:=?_))))))))))
 refine xM (h:=xE (h:=xE (h:=xAl [_,_,_] ZeJ (h:=fun b2=>xS [_,_,_] 0 [_,_,_] Zdi (h:=xA (h:=Zu [_] rfl (Zk (Z9 (same _ _) mo kr ⟨rfl,rfl⟩ (fun _ _=>?_)))))))))
 refine aM 0 rfl (h:=aN 1 rfl (h:=aM 2 rfl (h:=Zaw (d:=20) rfl (fun g1=>?_) (fun g1=>?_))))
 try simp only [sQ,ne_eq] at g1
 refine aZ 3 rfl (h:=aZ 4 rfl (h:=aZ 5 rfl (h:=aZ 6 rfl (h:=aZ 7 rfl (h:=aZ 8 rfl (h:=aZ 9 rfl (h:=aZ 10 rfl (h:=aPT 11 rfl (h:=aA 12 rfl (h:=Zz kr kr ?_))))))))))
 refine Zf (Zh ?_)
 exact ZW .ret (.inl rfl) [_] t1 ⟨Zm (by rw [Zew,g1];rfl),rfl,rfl⟩
 try simp only [sQ,ne_eq] at g1
 refine aM 3 rfl (h:=aM 4 rfl (h:=aT 5 rfl (Zap fun D=>ZaS rfl rfl ZwC rfl (Zsy _ _ _ _ _ _ _ _ x u _ hh hf) r4) (h:=aM 6 rfl (h:=aD 7 rfl (h:=aW 8 rfl ZfA (h:=aT 9 rfl (Zap fun D=>Zl rfl rfl lk3 rfl (atL 0 rfl rfl rfl) r4) (h:=Zm4 10 rfl (h:=aPF 11 rfl (h:=aA 12 rfl (h:=Zz kr kr ?_))))))))))
 refine Zf (Zh ?_)
 exact ZW .ret (.inl rfl) [_] t1 ⟨Zm (by rw [Zew,g1];rfl),rfl,rfl⟩

set_option maxHeartbeats 400000 in
theorem ZnU (b o:Nat) (q1 q2 q3:Option Addr) (c1 c2 c3:Nat) (x:DHost) (B:Kn) (hh:Zbx B b o [str x.domain,.slice q1 x.users.length c1,.slice q2 x.folders.length c2,.int .i64 x.queue.next,.slice q3 x.queue.items.length c3]) (hu:SlK B q1 c1 3 Zg x.users) (hf:SlK B q2 c2 5 Zb x.folders):Za6 (pj J) 42 [ptr ⟨b,o,none⟩] B (.bool (ZhZ x)):=by
 refine Zc 26 Tryz.func42 rfl rfl rfl (Nat.le_of_ble_eq_true rfl) ?_
 have hfn:=hf.len
 have hun:=hu.len
 refine Za (xA (h:=Zk (Za (xM (h:=xNc (h:=xW ZaK (h:=Zo (Zl rfl rfl Zfj rfl (hh _ 1 _ rfl) (xV Tryz.underlying23 (h:=xM (h:=Zp (ZS (α:=Nat) [0,8,9] (fun k=>[(10,.int .i64 k)]) [] (fun k=>[]) (fun k Bx=>Bx=B∧k≤x.users.length∧∀z,z∈x.users.take k→ZcT x z=true) (fun k=>x.users.length - k) 0 t1 rfl (⟨rfl,Nat.zero_le _,by simp⟩) (fun k B1 hle1 hI=>?_)))))))))))))
 obtain ⟨rfl,hk,ha⟩:=hI
 refine ZR [(0,_),(8,_),(9,_),(10,_)] [] t4 rfl (Za (Zaf (h:=Zk (Zd rfl (fun g1=>?_) (fun g1=>?_)))))
 try simp only [sQ,ne_eq] at g1
 refine Zi (Zf (Zk (Zp (Za ?_))))
 obtain ⟨w,hw⟩:=Zar (xs:=x.users) (i:=k) om
 obtain ⟨bb3,oo3,rfl⟩:=hu.base hw
 obtain ⟨_,⟨rfl,hb4,hb4b⟩,hc4⟩:=hu.elem hw
 refine xIx Tryz.underlying23 Zdi (h:=yL [_,_,_] Zl6 hc4 0 (h:=xAl [_,_,_] ZeJ (h:=fun b5=>xS [_,_,_] 0 [_,_,_] Zdi (h:=Zu [_] rfl (Za (xM (h:=xW ZcH (h:=x1 lk9 0 (h:=xR Zww rfl (ZsH _ _ _ _ _ _ _ _ x w.name [105,110,98,111,120] om2 om2 _ hh hf) (h:=?_))))))))))
 refine Zaf (h:=xM (h:=Zq (d:=19) rfl (fun g2=>?_) (fun g2=>?_)))
 try simp only [sQ,ne_eq] at g2
 refine xP (h:=xP (h:=xP (h:=xP (h:=xT (h:=Zd (t:=true) rfl (fun _=>Za (xA (h:=Zh (ZO (Zs (Zad (ZO (Zs ?_)))))))) (fun h=>Bool.noConfusion h))))))
 exact ZW .ret (.inl rfl) [_] t1 ⟨Zm (ZcW hw (ZkZ g2)).symm,rfl,rfl⟩
 try simp only [sQ,ne_eq] at g2
 refine xM (h:=xW ZcH (h:=x1 lk9 0 (h:=xR ZwX rfl (Zqr _ _ _ _ _ _ _ _ x w.name 0 om2 om2 om2 _ hh hu hf) (h:=?_))))
 refine xF (h:=Zd rfl (fun g3=>?_) (fun g3=>?_))
 try simp only [sQ,ne_eq] at g3
 refine Za (xA (h:=Zh (ZO (Zs (Zad (ZO (Zs ?_)))))))
 exact ZW .ret (.inl rfl) [_] t1 ⟨Zm (ZcW hw (ZkY g3)).symm,rfl,rfl⟩
 try simp only [sQ,ne_eq] at g3
 refine Zi (ZA (Zf (Ze (xD (h:=xM (h:=?_))))))
 exact ZC (k+1) [] so2 ⟨rfl,oz,Zbp hw ha (ZkX g2 g3)⟩ t4 rfl
 try simp only [sQ,ne_eq] at g1
 refine Z0 (Zal (Z6 (ZK (Zf (Za (xA (h:=Zh ?_)))))))
 exact ZW .ret (.inl rfl) [_] t1 ⟨Zm (Zey (ZbJ oz ha)).symm,rfl,rfl⟩

set_option maxHeartbeats 400000 in
theorem ZrE (q:Option Addr) (cp:Nat) (bs:List Bool) (v:Bool) (B:Kn) (hb:SlK B q cp 1 Zm6 bs):Za6 (pj J) 134 [.slice q bs.length cp,.bool v] B (.int .i64 (Za0 (fun y=>decide (v=y)) bs)):=by
 refine Zc 19 Tryz.func134 rfl rfl rfl (Nat.le_of_ble_eq_true rfl) ?_
 have hbn:=hb.len
 refine Za (xA (h:=Zk (Za (xM (h:=xV Tryz.underlying105 (h:=xM (h:=Zp (ZS (α:=Nat) [0,1,7] (fun k=>[(8,.int .i64 k)]) [] (fun k=>[]) (fun k Bx=>Bx=B∧k≤bs.length∧∀y,y∈bs.take k→decide (v=y)=false) (fun k=>bs.length - k) 0 t1 rfl (⟨rfl,Nat.zero_le _,by simp⟩) (fun k B1 hle1 hI=>?_)))))))))
 obtain ⟨rfl,hk,ha⟩:=hI
 refine ZR [(0,_),(1,_),(7,_),(8,_)] [] t4 rfl (Za (Zaf (h:=Zk (Zd rfl (fun g1=>?_) (fun g1=>?_)))))
 try simp only [sQ,ne_eq] at g1
 refine Zi (Zf (Zk (Zp (Za (xM (h:=xA (h:=Za (xM (h:=xM (h:=xM (h:=?_)))))))))))
 obtain ⟨y,hy⟩:=Zar (xs:=bs) (i:=k) om
 obtain ⟨bb3,oo3,rfl⟩:=hb.base hy
 obtain ⟨_,rfl,hc4⟩:=hb.elem hy
 refine xIx Tryz.underlying105 sz4 (h:=y1 lk4 hc4 0 (h:=Zo (Zfs rfl rfl rfl rfl rfl (Zc7 Tryz.underlying4) (Zd rfl (fun g2=>?_) (fun g2=>?_)))))
 try simp only [sQ,ne_eq] at g2
 refine Za (xM (h:=xA (h:=Zh (ZO (Zs (Zad (ZO (Zs ?_))))))))
 exact ZW .ret (.inl rfl) [_] t1 ⟨Za4 (ZhI hy (decide_eq_true g2) ha).symm,rfl,rfl⟩
 try simp only [sQ,ne_eq] at g2
 refine Zi (ZA (Zf (Ze (xD (h:=xM (h:=?_))))))
 exact ZC (k+1) [] so2 ⟨rfl,oz,Zbp hy ha (decide_eq_false g2)⟩ t4 rfl
 try simp only [sQ,ne_eq] at g1
 refine Z0 (Zal (Z6 (ZK (Zf (Za (xA (h:=Zh ?_)))))))
 exact ZW .ret (.inl rfl) [_] t1 ⟨Za4 (ZeZ (ZbJ oz ha)).symm,rfl,rfl⟩

set_option maxHeartbeats 400000 in
theorem ZmX (q:Option Addr) (cp:Nat) (bs:List Bool) (v:Bool) (B:Kn) (hb:SlK B q cp 1 Zm6 bs):Za6 (pj J) 82 [.slice q bs.length cp,.bool v] B (.bool (decide (0≤Za0 (fun y=>decide (v=y)) bs))):=by
 refine Zc 9 Tryz.func82 rfl rfl rfl (Nat.le_of_ble_eq_true rfl) ?_
 refine Za (xA (h:=Za (xM (h:=xM (h:=xR Zwe rfl (ZrE _ _ _ _ _ hb) (h:=Zd2 (h:=xA (h:=Zh ?_))))))))
 exact ZW .ret (.inl rfl) [_] t1 ⟨rfl,rfl,rfl⟩

set_option maxHeartbeats 400000 in
theorem Zlx (l:Str) (hl:l.length≤2000000) (B:Kn):Za6 (pj J) 38 [str l] B (.bool (Zcj l)):=by
 refine Zc 16 Tryz.func38 rfl rfl rfl (Nat.le_of_ble_eq_true rfl) ?_
 refine Za (xA (h:=Za (xM (h:=xB [(0,_)] [_,_] [_,_] Zwq Zu1 (h:=xAl [_,_] Zu1 (h:=fun b1=>xS [_,_] 0 [_,_] Zwp (h:=Zu [_] rfl (Za (Zo (Zjh 0 rfl rfl rfl Zw4 rfl (Zr4 _ _ 0 oz oz _) ?_))))))))))
 refine xM (h:=xE (h:=xE (h:=xA (h:=xA (h:=Za (xM (h:=xM (h:=Zq (d:=13) rfl (fun g1=>?_) (fun g1=>?_)))))))))
 try simp only [sQ,ne_eq] at g1
 refine Zo (ZhV 0 rfl rfl rfl Zu8 rfl (ZnM _ _ (dom l 0).2 (ZuL (Nat.zero_le _)) oz _) ?_)
 refine xT (h:=xA (h:=Zh ?_))
 exact ZW .ret (.inl rfl) [_] t1 ⟨Zm (by rw [Bool.eq_iff_iff,← ZlL];simp [ZmU] at g1;simp [g1];try omega),rfl,rfl⟩
 try simp only [sQ,ne_eq] at g1
 refine xP (h:=xF (h:=xA (h:=Zh ?_)))
 exact ZW .ret (.inl rfl) [_] t1 ⟨Zm (by symm;rw [Bool.eq_false_iff,ne_eq,← ZlL];intro hc;simp [ZmU,hc.1] at g1;omega),rfl,rfl⟩

set_option maxHeartbeats 800000 in
theorem Zkt (Wg C n i b o b1 b3 b5 b6:Nat) (q1 q2 q3:Option Addr) (c1 c2 c3:Nat) (x:DHost) (m:DFolder) (qg qm:Option Addr) (cg cm:Nat) (hin:i<n) (B:Kn) (hc900:Zbx B b o [str x.domain,.slice q1 x.users.length c1,.slice q2 x.folders.length c2,.int .i64 x.queue.next,.slice q3 x.queue.items.length c3]) (hu:SlK B q1 c1 3 Zg x.users) (hc901:Zbx B b1 0 [ptr ⟨b,o,none⟩]) (hc903:Zbx B b3 0 [.slice (some ⟨C,0,none⟩) n n]) (hc905:Zbx B b5 0 [.int .i64 i]) (hc906:Zbx B b6 0 [str m.owner,str m.name,.slice qg m.grants.length cg,.int .i64 m.next,.slice qm m.mail.length cm]) (hg:SlK B qg cg 2 ZB m.grants) (hm:SlK B qm cm 3 ZF m.mail) (ho:m.owner.length≤2000000) (hnm:m.name.length≤2000000):@ZeA ⟨4⟩ Tryz.prog wgL.tWg Wg C n i (.bool (Za1 x.users m)) (Go.Conc.G (Frame.enter Tryz.prog 77 #[ptr ⟨Wg,0,none⟩,ptr ⟨b1,0,none⟩,ptr ⟨b6,0,none⟩,ptr ⟨b3,0,none⟩,ptr ⟨b5,0,none⟩] .deferred) [Zf4 Tryz.prog]) B []:=by
 letI:Go.ConcR.Payload:=⟨4⟩
 refine ZsR (Lk:=wgL) (P:=Tryz.prog) (caps:=[ptr ⟨Wg,0,none⟩,ptr ⟨b1,0,none⟩,ptr ⟨b6,0,none⟩,ptr ⟨b3,0,none⟩,ptr ⟨b5,0,none⟩]) (nt:=27) (I:=keeps B [] []) (K:=fun _ _ _ _=>False) Zma Tryz.func77 rfl rfl (Nat.le_of_ble_eq_true rfl) rfl mo kr ⟨Kn.le.refl _,Zaq.refl _ _⟩ (fun _ _ _ _ h=>h) ?_
 refine aT 0 rfl (ZD fun D B L hI=>Zl rfl rfl Zup rfl ((hc903.mono hI.1) _ 0 _ rfl) r4) (h:=aT 1 rfl (ZD fun D B L hI=>Zl rfl rfl lk3 rfl ((hc905.mono hI.1) _ 0 _ rfl) r4) (h:=aT 2 rfl (ZD fun D B L hI=>Zl rfl rfl ZvA rfl ((hc901.mono hI.1) _ 0 _ rfl) r4) (h:=aW 3 rfl Zce (h:=aT 4 rfl (ZD fun D B L hI=>Zl rfl rfl lk9 rfl ((hc906.mono hI.1) _ 0 _ rfl) r4) (h:=aT 5 rfl (ZD fun D B L hI=>ZaS rfl rfl Zu9 rfl (ZhH _ _ _ _ _ _ _ _ x m.owner om2 _ (hc900.mono hI.1) (hu.mono Zg.mono hI.1)) r4) (h:=?_))))))
 refine aM 6 rfl (h:=Zaw (d:=11) rfl (fun g1=>?_) (fun g1=>?_))
 try simp only [sQ,ne_eq] at g1
 refine aW 7 rfl ZdA (h:=aT 8 rfl (ZD fun D B L hI=>Zl rfl rfl lk9 rfl ((hc906.mono hI.1) _ 1 _ rfl) r4) (h:=aT 9 rfl (ZD fun D B L hI=>ZaS rfl rfl ZtX rfl (Zdm _ om2 _) r4) (h:=?_)))
 refine aPT 10 rfl (h:=aM 11 rfl (h:=Zaw (d:=16) rfl (fun g2=>?_) (fun g2=>?_)))
 try simp only [sQ,ne_eq] at g2
 refine aW 12 rfl ZdS (h:=aT 13 rfl (ZD fun D B L hI=>Zl rfl rfl Zru rfl ((hc906.mono hI.1) _ 2 _ rfl) r4) (h:=aT 14 rfl (ZD fun D B L hI=>ZaS rfl rfl Zw0 rfl (Zp4 _ _ _ _ (hg.mono ZB.mono hI.1)) r4) (h:=aPT 15 rfl (h:=aM 16 rfl (h:=Zaw (d:=21) rfl (fun g3=>?_) (fun g3=>?_))))))
 try simp only [sQ,ne_eq] at g3
 refine aW 17 rfl ZbY (h:=aT 18 rfl (ZD fun D B L hI=>Z5 [_,_] rfl rfl ZbL rfl (Zic (hc906.mono hI.1) 3 rfl rfl) r4) (h:=aT 19 rfl (ZD fun D B L hI=>ZaS rfl rfl ZwB rfl (Zly _ _ (⟨m.next,m.mail⟩:DBox) _ (hm.mono ZF.mono hI.1)) r4) (h:=aPT 20 rfl (h:=aT 21 rfl (ZD fun D B L hI=>Za7 rfl rfl Tryz.underlying105 sz4 rfl rfl oz oz r4) (h:=?_)))))
 refine ZhO 22 kr rfl kr kr kr (fun T hn hT=>?_)
 refine Zf7 (L:=[]) hT Zma (by simp [Za1,DFolder.box,g1,g2,g3]) rfl hin rfl Tryz.sizeOf4 (Zda sz4) (by exact ZhB C i) rfl kr Tryz.func77 rfl
 try simp only [sQ,ne_eq] at g3
 refine aZ 17 rfl (h:=aZ 18 rfl (h:=aZ 19 rfl (h:=aPF 20 rfl (h:=aT 21 rfl (ZD fun D B L hI=>Za7 rfl rfl Tryz.underlying105 sz4 rfl rfl oz oz r4) (h:=?_)))))
 refine ZhO 22 kr rfl kr kr kr (fun T hn hT=>?_)
 refine Zf7 (L:=[]) hT Zma (by simp [Za1,DFolder.box,g1,g2,g3]) rfl hin rfl Tryz.sizeOf4 (Zda sz4) (by exact ZhB C i) rfl kr Tryz.func77 rfl
 try simp only [sQ,ne_eq] at g2
 refine aZ 12 rfl (h:=aZ 13 rfl (h:=aZ 14 rfl (h:=aPF 15 rfl (h:=aM 16 rfl (h:=aZ 17 rfl (h:=aZ 18 rfl (h:=aZ 19 rfl (h:=aPF 20 rfl (h:=aT 21 rfl (ZD fun D B L hI=>Za7 rfl rfl Tryz.underlying105 sz4 rfl rfl oz oz r4) (h:=?_))))))))))
 refine ZhO 22 kr rfl kr kr kr (fun T hn hT=>?_)
 refine Zf7 (L:=[]) hT Zma (by simp [Za1,DFolder.box,g1,g2]) rfl hin rfl Tryz.sizeOf4 (Zda sz4) (by exact ZhB C i) rfl kr Tryz.func77 rfl
 try simp only [sQ,ne_eq] at g1
 refine aZ 7 rfl (h:=aZ 8 rfl (h:=aZ 9 rfl (h:=aPF 10 rfl (h:=aM 11 rfl (h:=aZ 12 rfl (h:=aZ 13 rfl (h:=aZ 14 rfl (h:=aPF 15 rfl (h:=aM 16 rfl (h:=aZ 17 rfl (h:=aZ 18 rfl (h:=aZ 19 rfl (h:=?_)))))))))))))
 refine aPF 20 rfl (h:=aT 21 rfl (ZD fun D B L hI=>Za7 rfl rfl Tryz.underlying105 sz4 rfl rfl oz oz r4) (h:=?_))
 refine ZhO 22 kr rfl kr kr kr (fun T hn hT=>?_)
 refine Zf7 (L:=[]) hT Zma (by simp [Za1,DFolder.box,g1]) rfl hin rfl Tryz.sizeOf4 (Zda sz4) (by exact ZhB C i) rfl kr Tryz.func77 rfl

set_option maxHeartbeats 1600000 in
theorem Zjb (hJ:Joins Tryz.prog J) (b o:Nat) (q1 q2 q3:Option Addr) (c1 c2 c3:Nat) (x:DHost) (B:Kn) (hc900:Zbx B b o [str x.domain,.slice q1 x.users.length c1,.slice q2 x.folders.length c2,.int .i64 x.queue.next,.slice q3 x.queue.items.length c3]) (hu:SlK B q1 c1 3 Zg x.users) (hf:SlK B q2 c2 5 Zb x.folders):ZL (pj J) 41 [ptr ⟨b,o,none⟩] B [] (fun v B' Ls=>Ls=[]∧v = .bool (x.folders.all (Za1 x.users))):=by
 have hfn:=hf.len
 letI:Go.ConcR.Payload:=⟨4⟩
 refine Zr8 30 Tryz.func41 rfl rfl (Nat.le_of_ble_eq_true rfl) fun X kind c cs F T0 hk hke hA hn0 hT0=>?_
 let C0:Cx (pj J):=⟨X,fb 41 kind,c :: cs,F,hke⟩
 refine Ze8 (C:=C0) (L:=[]) (ZjZ (C:=C0) (L:=[]) hn0 hT0 (xBx [_] (h:=fun b1=>xA (h:=?_))))
 intro T1 hn1 hT1
 refine ZlM (C:=C0) rfl 0 rfl fun B1 hle1 hm1=>?_
 have hc901:=Zdu hm1
 replace hc900:=hc900.mono hle1
 replace hu:=hu.mono Zg.mono hle1
 replace hf:=hf.mono Zb.mono hle1
 replace hA:=fun v B' Ls' h=>hA v B' Ls' (hle1.trans h)
 refine Ze8 (C:=C0) (L:=[[]]) (ZjZ (C:=C0) (L:=[[]]) hn1 hT1 (y1 ZvA hc901 0 (h:=xNc (h:=xW ZT (h:=y1 ZbV hc900 2 (h:=xV Tryz.underlying24 (h:=Zo (Zmc (m:=x.folders.length) (c:=x.folders.length) (by_:=1) [.bool false] rfl rfl ZvF zo4 rfl rfl ⟨_,_,rfl,rfl⟩ ⟨_,_,rfl,rfl⟩ (Nat.le_refl _) oz (fun Cb=>?_)))))))))
 refine xAl [_] Zvg (h:=fun b2=>xS [_] 2 [_] Zvu (h:=?_))
 intro T2 hn2 hT2
 refine ZlM (C:=C0) rfl 2 rfl fun B2 hle2 hm2=>?_
 have hc903:=Zdu hm2
 replace hc900:=hc900.mono hle2
 replace hu:=hu.mono Zg.mono hle2
 replace hf:=hf.mono Zb.mono hle2
 replace hc901:=hc901.mono hle2
 replace hA:=fun v B' Ls' h=>hA v B' Ls' (hle2.trans h)
 refine Ze8 (C:=C0) (L:=[[],Zbn Cb (zrow [.bool false] x.folders.length) 4,[]]) (Zgy (C:=C0) (L:=[[],Zbn Cb (zrow [.bool false] x.folders.length) 4,[]]) (Zrl (C:=Cb) (n:=x.folders.length) (val:=ZqY x) (L₁:=F) (cells:=(zrow [.bool false] x.folders.length).toArray) (i:=0) (todo:=[]) hJ rfl hke Zvf rfl oz (by simp [Zj3]) (.refl _) (fun hmain Wg hW1 hW2=>?_)))
 let C1:Cx (.lone Tryz.prog):=⟨phL Tryz.prog 115 Wg Cb x.folders.length (ZqY x) X.R .a5 (0),fb 41 kind,c :: cs,F,hke⟩
 have hT3:=hT2.putT (n:=30) (dst:=some 4) hn2 rfl (ptr ⟨Wg,0,none⟩)
 have hn3:(putT T2 (some 4) (ptr ⟨Wg,0,none⟩)).size=30:=by rw [ZbA,hn2]
 refine Zdh (C:=C1) (L:=[]) (Ze8 (C:=C1) (L:=[]) (Ze8 (C:=C1) (L:=[]) (ZjZ (C:=C1) (L:=[]) hn3 hT3 (y1 ZvA hc901 0 (h:=xNc (h:=xW ZT (h:=y1 ZbV hc900 2 (h:=xV Tryz.underlying24 (h:=xM (h:=?_))))))))))
 intro T4 hn4 hT4
 refine ZnN (C:=C1) (L:=[]) (Zs6 (nt:=30) (fun j=>[(1,ptr ⟨b1,0,none⟩),(3,ptr ⟨b2,0,none⟩),(4,ptr ⟨Wg,0,none⟩),(16,.slice q2 x.folders.length c2),(17,.int .i64 x.folders.length),(18,.int .i64 ((j:Nat):Int))]) (fun j hj B3 T5 hle3 hn5 hT5 hnext=>?_) hn4 (hT4.sub' t6))
 replace hc900:=hc900.mono hle3
 replace hu:=hu.mono Zg.mono hle3
 replace hf:=hf.mono Zb.mono hle3
 replace hc901:=hc901.mono hle3
 replace hc903:=hc903.mono hle3
 replace hA:=fun v B' Ls' h=>hA v B' Ls' (hle3.trans h)
 let C2:Cx (.lone Tryz.prog):=⟨phL Tryz.prog 115 Wg Cb x.folders.length (ZqY x) X.R .a5 (j),fb 41 kind,c :: cs,F,hke⟩
 refine Ze8 (C:=C2) (L:=[]) (ZjZ (C:=C2) (L:=[]) hn5 hT5 (Zaf (h:=?_)))
 intro T6 hn6 hT6
 refine Ze8 (C:=C2) (L:=[]) ?_
 rcases Nat.lt_or_ge j x.folders.length with hlt | hge
 refine ZqE (C:=C2) (L:=[]) (t:=true) (by exact congrArg (fun t=>some (Value.bool t)) (decide_eq_true oz)) hT6 ?_
 refine ZtM (C:=C2) (L:=[]) (Ze8 (C:=C2) (L:=[]) (ZnN (C:=C2) (L:=[]) (Ze8 (C:=C2) (L:=[]) (ZjZ (C:=C2) (L:=[]) hn6 hT6 (xM (h:=?_))))))
 obtain ⟨m,hm⟩:=Zar (xs:=x.folders) (i:=j) om
 obtain ⟨bb4,oo4,rfl⟩:=hf.base hm
 obtain ⟨_,⟨qg5,cg5,qm5,cm5,rfl,hg5,hm5,hb5,hb5b⟩,hc5⟩:=hf.elem hm
 have hg5n:=hg5.len
 have hm5n:=hm5.len
 have hm5s:=ZX hm5
 refine xIx Tryz.underlying24 ZaT (h:=yL [_,_,_,_,_] ZeC hc5 0 (h:=xAl [_] zo3 (h:=fun b6=>xAl [_,_,_,_,_] ZcS (h:=fun b7=>xS [_] 0 [_] sz3 (h:=xS [_,_,_,_,_] 1 [_,_,_,_,_] ZaT (h:=?_))))))
 intro T7 hn7 hT7
 refine ZlM (C:=C2) rfl 0 rfl fun B4 hle4 hpm4=>?_
 have hc905:=Zdu hpm4
 refine ZlM (C:=C2) rfl 1 rfl fun B5 hle5 hpm5=>?_
 have hc906:=Zdu hpm5
 replace hc905:=hc905.mono hle5
 replace hc900:=hc900.mono (hle4.trans hle5)
 replace hu:=hu.mono Zg.mono (hle4.trans hle5)
 replace hf:=hf.mono Zb.mono (hle4.trans hle5)
 replace hc901:=hc901.mono (hle4.trans hle5)
 replace hc903:=hc903.mono (hle4.trans hle5)
 replace hg5:=hg5.mono ZB.mono (hle4.trans hle5)
 replace hm5:=hm5.mono ZF.mono (hle4.trans hle5)
 refine Ze8 (C:=C2) (L:=[[],[]]) (Zgy (C:=C2) (L:=[[],[]]) (Zum (Lk:=wgL) (i:=0) (todo:=[]) Zma hlt rfl Zw1 rfl rfl hT7 hke ?_))
 let C3:Cx (.lone Tryz.prog):=⟨phL Tryz.prog 115 Wg Cb x.folders.length (ZqY x) X.R .a2 (j),fb 41 kind,c :: cs,F,hke⟩
 have hT8:=hT7.putT (n:=30) (dst:=(some 23)) hn7 rfl (.tuple #[])
 have hn8:(putT T7 (some 23) (.tuple #[])).size=30:=by rw [ZbA,hn7]
 refine Zdh (C:=C3) (L:=[]) (Zgy (C:=C3) (L:=[]) (Zwm (C:=C3) (L:=[]) (i:=0) (todo:=[1]) rfl hn8 hT8 (Zo (ZgC (xs:=[]) (ys:=[.tmp 4,.tmp 1,.tmp 6,.tmp 3,.tmp 5]) rfl rfl rfl rfl ?_))))
 intro T9 hn9 hT9
 refine Zvy (i:=1) (todo:=[]) rfl rfl hT9 hke Tryz.func77 rfl rfl (by rw [Znc hm];exact Zkt Wg Cb x.folders.length j b o b1 b2 b6 b7 _ _ _ _ _ _ x m _ _ _ _ hlt B5 hc900 hu hc901 hc903 hc905 hc906 hg5 hm5 hb5 hb5b) ?_
 let C4:Cx (.lone Tryz.prog):=⟨phL Tryz.prog 115 Wg Cb x.folders.length (ZqY x) X.R .a5 (j+1),fb 41 kind,c :: cs,F,hke⟩
 refine Zdh (C:=C4) (L:=[]) (ZoK (C:=C4) (L:=[]) ?_)
 have hn10:=hn9
 have hT10:=hT9
 refine ZjZ (C:=C4) (L:=[]) hn10 hT10 (xD (h:=xM (h:=?_)))
 intro T11 hn11 hT11
 exact hnext hlt _ _ (hle4.trans hle5) hn11 (hT11.sub' t6)
 obtain rfl:j=x.folders.length:=by omega
 refine ZqE (C:=C2) (L:=[]) (t:=false) (by exact congrArg (fun t=>some (Value.bool t)) (decide_eq_false oz)) hT6 ?_
 refine ZtN (C:=C2) (L:=[]) (by rfl) ?_
 refine Ze8 (C:=C2) (L:=[]) (Zgy (C:=C2) (L:=[]) (Zs5 (Lk:=wgL) (X:=X) (i:=0) (todo:=[]) Zma oz rfl ZwZ rfl hT6 hke (fun _ _ _ h=>h) ?_))
 have hT7:=hT6.putT (n:=30) (dst:=(some 26)) hn6 rfl (.tuple #[])
 have hn7:(putT T6 (some 26) (.tuple #[])).size=30:=by rw [ZbA,hn6]
 refine Zdh (C:=C0) (L:=[[(Cb,Obj.cells ((List.range x.folders.length).map (ZqY x)).toArray 4 (0,0))]]) (ZlM (C:=C0) (L:=[[(Cb,Obj.cells ((List.range x.folders.length).map (ZqY x)).toArray 4 (0,0))]]) rfl 0 rfl fun B4 hle4 hm4=>?_)
 have hvb:=Zpd hm4 hfn
 replace hc900:=hc900.mono hle4
 replace hu:=hu.mono Zg.mono hle4
 replace hf:=hf.mono Zb.mono hle4
 replace hc901:=hc901.mono hle4
 replace hc903:=hc903.mono hle4
 replace hA:=fun v B' Ls' h=>hA v B' Ls' (hle4.trans h)
 refine Ztz Tryz.func41 rfl hk hke hn7 hT7 hA ?_
 rw [show (x.folders.length:Nat)=(x.folders.map (Za1 x.users)).length from (List.length_map ..).symm] at hc903
 refine Za (y1 Zup hc903 0 (h:=xR ZwY rfl (ZmX _ _ _ _ _ hvb) (h:=xN (h:=xA (h:=Zu [_] rfl (Zh ?_))))))
 exact ZW .ret (.inl rfl) [_] t1 ⟨rfl,congrArg Value.bool ZkI⟩

set_option maxHeartbeats 400000 in
theorem ZaV (hJ:Joins Tryz.prog J) (q1 q2 q3:Option Addr) (c1 c2 c3:Nat) (x:DHost) (hd:x.domain.length≤2000000) (B:Kn) (hu:SlK B q1 c1 3 Zg x.users) (hf:SlK B q2 c2 5 Zb x.folders) (hi:SlK B q3 c3 4 Zj x.queue.items):ZL (pj J) 16 [.agg #[str x.domain,.slice q1 x.users.length c1,.slice q2 x.folders.length c2,.int .i64 x.queue.next,.slice q3 x.queue.items.length c3]] B [] (fun v B' Ls=>Ls=[]∧v = .bool (Zx x)):=by
 refine Zc 63 Tryz.func16 rfl rfl rfl (Nat.le_of_ble_eq_true rfl) ?_
 rw [← Zox]
 have hfn:=hf.len
 have hun:=hu.len
 have hin:=hi.len
 refine Za (xBx [_,_,_,_,_] (h:=fun b1=>xA (h:=Zu [_] rfl (Zo5 0 rfl (fun B2 hle2 hpm2=>?_)))))
 have hc2:=Zdu hpm2
 replace hu:=hu.mono Zg.mono hle2
 replace hf:=hf.mono Zb.mono hle2
 replace hi:=hi.mono Zj.mono hle2
 refine Zk (Za (xW ZnE (h:=y1 lk9 hc2 0 (h:=xR Zxq rfl (Zlx _ om2 _) (h:=?_)))))
 refine xN (h:=xM (h:=Zq (d:=10) rfl (fun g1=>?_) (fun g1=>?_)))
 try simp only [sQ,ne_eq] at g1
 refine xP (h:=xP (h:=xP (h:=xP (h:=xT (h:=xM (h:=xP (h:=xP (h:=xP (h:=xP (h:=xT (h:=xM (h:=xP (h:=?_)))))))))))))
 refine xP (h:=xP (h:=xP (h:=xT (h:=Zu [_] rfl (Zd (t:=true) rfl (fun _=>Za (xA (h:=Zh (Zs ?_)))) (fun h=>Bool.noConfusion h))))))
 exact ZW .ret (.inl rfl) [_] t1 ⟨rfl,Zm (by simp [Zdx,g1])⟩
 try simp only [sQ,ne_eq] at g1
 refine xW ZaK (h:=y1 Zfj hc2 1 (h:=xR ZwA rfl (Ziw _ _ _ _ hu) (h:=xN (h:=xF (h:=xM (h:=Zq (d:=16) rfl (fun g2=>?_) (fun g2=>?_)))))))
 try simp only [sQ,ne_eq] at g2
 refine xP (h:=xP (h:=xP (h:=xP (h:=xT (h:=xM (h:=xP (h:=xP (h:=xP (h:=xP (h:=xT (h:=Zu [_] rfl (Zd (t:=true) rfl (fun _=>?_) (fun h=>Bool.noConfusion h)))))))))))))
 refine Za (xA (h:=Zh (Zs ?_)))
 exact ZW .ret (.inl rfl) [_] t1 ⟨rfl,Zm (by simp [Zdx,g1,g2])⟩
 try simp only [sQ,ne_eq] at g2
 refine xW ZcD (h:=yL [_,_] Zer hc2 3 (h:=xR Zxp rfl (ZmG _ _ x.queue _ hi) (h:=xN (h:=xF (h:=xM (h:=Zq (d:=22) rfl (fun g3=>?_) (fun g3=>?_)))))))
 try simp only [sQ,ne_eq] at g3
 refine xP (h:=xP (h:=xP (h:=xP (h:=xT (h:=Zu [_] rfl (Zd (t:=true) rfl (fun _=>Za (xA (h:=Zh (Zs ?_)))) (fun h=>Bool.noConfusion h)))))))
 exact ZW .ret (.inl rfl) [_] t1 ⟨rfl,Zm (by simp [Zdx,g1,g2,g3])⟩
 try simp only [sQ,ne_eq] at g3
 refine xW ZT (h:=y1 ZbV hc2 2 (h:=xV Tryz.underlying24 (h:=Zbf (h:=xF (h:=Zu [_] rfl (Zd rfl (fun g4=>?_) (fun g4=>?_)))))))
 try simp only [sQ,ne_eq] at g4
 refine Za (xA (h:=Zh (Zs ?_)))
 exact ZW .ret (.inl rfl) [_] t1 ⟨rfl,Zm (by simp [Zdx];intros;omega)⟩
 try simp only [sQ,ne_eq] at g4
 refine Zi (Zf (Zk (Za (xW ZT (h:=y1 ZbV hc2 2 (h:=xW ZT (h:=y1 ZbV hc2 2 (h:=xV Tryz.underlying24 (h:=xU (h:=Zo (Zvl (m:=(x.folders.length - 1)) rfl rfl rfl rfl om ?_)))))))))))
 have hsl:((x.folders.take (x.folders.length - 1)).drop 0).length=x.folders.length - 1:=by simp
 obtain ⟨hq6,q6,cp6,hv6,hr6⟩:=hf.cutE 0 (x.folders.length - 1) om om
 have hr6n:=hr6.len
 refine Zo (Zft (a:=0) (b:=(x.folders.length - 1)) hv6 om hq6 rfl rfl Tryz.underlying24 ZaT rfl rfl ⟨_,_,rfl,by first | omega | (simp;done) | (simp;omega)⟩ ?_)
 refine xV Tryz.underlying24 (h:=xM (h:=Zp (ZS (α:=Nat) [0,1,27,35,36] (fun k=>[(37,.int .i64 k)]) [] (fun k=>[]) (fun k Bx=>Bx=B2∧k≤x.folders.length - 1∧Zsj x.folders k) (fun k=>x.folders.length - k) 0 t1 rfl (⟨rfl,Nat.zero_le _,Zoe⟩) (fun k B7 hle7 hI=>?_))))
 obtain ⟨rfl,hk,hord⟩:=hI
 refine ZR [(0,_),(1,_),(27,_),(35,_),(36,_),(37,_)] [_] t6 rfl (Za (Zaf (h:=Zk (Zd rfl (fun g5=>?_) (fun g5=>?_)))))
 try simp only [sQ,ne_eq] at g5
 refine Zi (Zf (Zk (Zp (Za (xM (h:=?_))))))
 obtain ⟨fa,hfa⟩:=Zar (xs:=((x.folders.take (x.folders.length - 1)).drop 0)) (i:=k) om
 obtain ⟨bb9,oo9,rfl⟩:=hr6.base hfa
 obtain ⟨_,⟨qg10,cg10,qm10,cm10,rfl,hg10,hm10,hb10,hb10b⟩,hc10⟩:=hr6.elem hfa
 have hg10n:=hg10.len
 have hm10n:=hm10.len
 have hm10s:=ZX hm10
 refine xIx Tryz.underlying24 ZaT (h:=?_)
 have hfa0:x.folders[k]? = some fa:=by rw [List.drop_zero,List.getElem?_take] at hfa;split at hfa <;> simp_all
 refine yL [_,_,_,_,_] ZeC hc10 0 (h:=xAl [_,_,_,_,_] ZcS (h:=fun b11=>xA (h:=xS [_,_,_,_,_] 1 [_,_,_,_,_] ZaT (h:=Zu [_,_] rfl (Za (xW ZT (h:=y1 ZbV hc2 2 (h:=xM (h:=xD (h:=?_))))))))))
 obtain ⟨fb,hfb⟩:=Zar (xs:=x.folders) (i:=(k+1)) om
 obtain ⟨bb13,oo13,rfl⟩:=hf.base hfb
 obtain ⟨_,⟨qg14,cg14,qm14,cm14,rfl,hg14,hm14,hb14,hb14b⟩,hc14⟩:=hf.elem hfb
 have hg14n:=hg14.len
 have hm14n:=hm14.len
 have hm14s:=ZX hm14
 refine xIx Tryz.underlying24 ZaT (h:=yL [_,_,_,_,_] ZeC hc14 0 (h:=xAl [_,_,_,_,_] ZcS (h:=fun b15=>xS [_,_,_,_,_] 2 [_,_,_,_,_] ZaT (h:=Zu [_,_,_] rfl (Za (xL [_,_,_,_,_] ZeC 1 (h:=xW Zce (h:=x1 lk9 2 (h:=xW ZdA (h:=x1 lk9 2 (h:=xR Zxo rfl (ZmN fa _ _ _ _ fb.owner fb.name _) (h:=Zd2 (h:=?_)))))))))))))
 refine Zd rfl (fun g6=>?_) (fun g6=>?_)
 try simp only [sQ,ne_eq] at g6
 refine Za (xA (h:=Zh (ZO (Zs (Zad (ZO (Zs ?_)))))))
 exact ZW .ret (.inl rfl) [_] t1 ⟨rfl,Zm (by simp [Zdx,Zro hfa0 hfb ((ZlO fa fb).1 g6)])⟩
 try simp only [sQ,ne_eq] at g6
 refine Zi (ZA (Zf (Ze (xD (h:=xM (h:=?_))))))
 exact ZC (k+1) [0] so2 ⟨rfl,oz,Zof hord hfa0 hfb (by rw [← Bool.not_eq_false,← ZlO];omega)⟩ t6 rfl
 try simp only [sQ,ne_eq] at g5
 have ho:=Zrn (fs:=x.folders) (fun i a b h=>hord i a b oz)
 refine Z0 (Zal (Z6 (ZK (Zf (Za (Zo (Z2 rfl rfl Zxn rfl (Zjb hJ _ _ _ _ _ _ _ _ x _ hc2 hu hf) ?_)))))))
 intro v17 B17 hle17
 rintro rfl
 replace hu:=hu.mono Zg.mono hle17
 replace hf:=hf.mono Zb.mono hle17
 replace hi:=hi.mono Zj.mono hle17
 replace hc2:=hc2.mono hle17
 replace hr6:=hr6.mono Zb.mono hle17
 refine xM (h:=Zq (d:=57) rfl (fun g7=>?_) (fun g7=>?_))
 try simp only [sQ,ne_eq] at g7
 refine xR Zxm rfl (ZnU _ _ _ _ _ _ _ _ x _ hc2 hu hf) (h:=xT (h:=xM (h:=Zq (d:=60) rfl (fun g8=>?_) (fun g8=>?_))))
 try simp only [sQ,ne_eq] at g8
 refine xR Zxl rfl (Zmw _ _ _ _ _ _ _ _ x _ hc2 hu hi) (h:=xT (h:=xA (h:=Zh ?_)))
 exact ZW .ret (.inl rfl) [_] t1 ⟨rfl,Zm (by simp [Zdx,g1,g2,g3,ho,g7,g8];try omega)⟩
 try simp only [sQ,ne_eq] at g8
 refine xP (h:=xF (h:=xA (h:=Zh ?_)))
 exact ZW .ret (.inl rfl) [_] t1 ⟨rfl,Zm (by simp [Zdx,g1,g2,g3,ho,g7,g8];try omega)⟩
 try simp only [sQ,ne_eq] at g7
 refine xP (h:=xF (h:=xM (h:=xP (h:=xF (h:=xA (h:=Zh ?_))))))
 exact ZW .ret (.inl rfl) [_] t1 ⟨rfl,Zm (by simp [Zdx,g7])⟩

set_option maxHeartbeats 400000 in
theorem Zn1 (q1 q2 q3:Option Addr) (c1 c2 c3:Nat) (x:DHost) (u:Str) (hd:x.domain.length≤2000000) (B:Kn) (hu:SlK B q1 c1 3 Zg x.users) (hf:SlK B q2 c2 5 Zb x.folders) (hi:SlK B q3 c3 4 Zj x.queue.items):Za6 (pj J) 12 [.agg #[str x.domain,.slice q1 x.users.length c1,.slice q2 x.folders.length c2,.int .i64 x.queue.next,.slice q3 x.queue.items.length c3],str u] B (.int .i64 (Zbo x u)):=by
 refine Zc 18 Tryz.func12 rfl rfl rfl (Nat.le_of_ble_eq_true rfl) ?_
 refine Za (xBx [_,_,_,_,_] (h:=fun b1=>xA (h:=Zu [_] rfl (Zk (Za (xL [_,_,_,_,_] ZZ 0 (h:=xR Zl8 rfl (ZaG _ _ _ _ _ _ x om2 _ hu hf hi) (h:=?_))))))))
 refine xN (h:=xM (h:=Zq (d:=8) rfl (fun g1=>?_) (fun g1=>?_)))
 try simp only [sQ,ne_eq] at g1
 refine xP (h:=xP (h:=xP (h:=xP (h:=xP (h:=xT (h:=Zd (t:=true) rfl (fun _=>Za (xA (h:=Zh (Zs ?_)))) (fun h=>Bool.noConfusion h)))))))
 exact ZW .ret (.inl rfl) [_] t1 ⟨Za4 (by rw [Zhg (by simpa using g1)]),rfl,rfl⟩
 try simp only [sQ,ne_eq] at g1
 refine xW ZaK (h:=x1 Zfj 0 (h:=xM (h:=xR ZoX rfl (ZbC _ _ _ _ _ hu) (h:=Zaf (h:=xF (h:=Zd rfl (fun g2=>?_) (fun g2=>?_)))))))
 try simp only [sQ,ne_eq] at g2
 refine Za (xA (h:=Zh (Zs ?_)))
 exact ZW .ret (.inl rfl) [_] t1 ⟨Za4 (by rw [Zhf oz]),rfl,rfl⟩
 try simp only [sQ,ne_eq] at g2
 refine Zi (Zf (Za (xL [_,_,_,_,_] ZZ 0 (h:=xM (h:=xR ZvJ rfl (Zio _ _ _ _ _ _ x _ _ hf) (h:=xA (h:=Zh ?_)))))))
 exact ZW .ret (.inl rfl) [_] t1 ⟨Za4 (by rw [Ze0 (by simpa using g1) oz]),rfl,rfl⟩

set_option maxHeartbeats 400000 in
theorem ZjL (hJ:Joins Tryz.prog J) (q1 q2 q3:Option Addr) (c1 c2 c3:Nat) (x:DHost) (u:Str) (hn:u.length≤2000000) (hd:x.domain.length≤2000000) (B:Kn) (hu:SlK B q1 c1 3 Zg x.users) (hf:SlK B q2 c2 5 Zb x.folders) (hi:SlK B q3 c3 4 Zj x.queue.items):ZL (pj J) 11 [.agg #[str x.domain,.slice q1 x.users.length c1,.slice q2 x.folders.length c2,.int .i64 x.queue.next,.slice q3 x.queue.items.length c3],str u] B [] (fun v B' Ls=>Ls=[]∧v = .int .i64 (Zbo x u)):=by
 refine Zc 15 Tryz.func11 rfl rfl rfl (Nat.le_of_ble_eq_true rfl) ?_
 refine Za (xBx [_,_,_,_,_] (h:=fun b1=>xA (h:=Zu [_] rfl (Zo5 0 rfl (fun B2 hle2 hpm2=>?_)))))
 have hc2:=Zdu hpm2
 replace hu:=hu.mono Zg.mono hle2
 replace hf:=hf.mono Zb.mono hle2
 replace hi:=hi.mono Zj.mono hle2
 refine Zk (Za (yL [_,_,_,_,_] ZZ hc2 0 (h:=Zo (Z2 rfl rfl ZoI rfl (ZaV hJ _ _ _ _ _ _ x om2 _ hu hf hi) ?_))))
 intro v3 B3 hle3
 rintro rfl
 replace hu:=hu.mono Zg.mono hle3
 replace hf:=hf.mono Zb.mono hle3
 replace hi:=hi.mono Zj.mono hle3
 replace hc2:=hc2.mono hle3
 refine xN (h:=xM (h:=Zq (d:=8) rfl (fun g1=>?_) (fun g1=>?_)))
 try simp only [sQ,ne_eq] at g1
 refine xP (h:=xP (h:=xP (h:=xT (h:=Zu [_] rfl (Zd (t:=true) rfl (fun _=>Za (xA (h:=Zh (Zs ?_)))) (fun h=>Bool.noConfusion h))))))
 exact ZW .ret (.inl rfl) [_] t1 ⟨rfl,Za4 (by rw [Zhg (by simpa using g1)])⟩
 try simp only [sQ,ne_eq] at g1
 refine xM (h:=xR Zu9 rfl (ZhH _ _ _ _ _ _ _ _ x u om2 _ hc2 hu) (h:=?_))
 refine xN (h:=xF (h:=Zu [_] rfl (Zd rfl (fun g2=>?_) (fun g2=>?_))))
 try simp only [sQ,ne_eq] at g2
 refine Za (xA (h:=Zh (Zs ?_)))
 exact ZW .ret (.inl rfl) [_] t1 ⟨rfl,Za4 (by rw [Zhf (by rw [Ziy (by simpa using g1)] at g2;simpa using g2)])⟩
 try simp only [sQ,ne_eq] at g2
 refine Zi (Zf (Za (xM (h:=xR ZwC rfl (Zsy _ _ _ _ _ _ _ _ x u _ hc2 hf) (h:=xA (h:=Zh ?_))))))
 exact ZW .ret (.inl rfl) [_] t1 ⟨rfl,Za4 (by rw [Ze0 (by simpa using g1) (by rw [Ziy (by simpa using g1)] at g2;simpa using g2),Zhi (by simpa using g1)])⟩

set_option maxHeartbeats 400000 in
theorem Zn4 (q:Option Addr) (cp:Nat) (us:List DUser) (n:Str) (hn:n.length≤2000000) (B:Kn) (hu:SlK B q cp 3 Zg us):Za6 (pj J) 96 [.slice q us.length cp,str n] B (.tuple #[.agg #[str (Zan us n).1.name,str (Zan us n).1.pass,.int .i64 (Zan us n).1.quota],.bool (Zan us n).2]):=by
 refine Zc 22 Tryz.func96 rfl rfl rfl (Nat.le_of_ble_eq_true rfl) ?_
 have hun:=hu.len
 have hix:=Zko us n
 refine Za (xAl [_,_,_] ZeJ (h:=fun b1=>xA (h:=Zu [_] rfl (Zk (Za (xM (h:=xR Zwy rfl (Zh5 _ _ _ _ hu) (h:=xN (h:=xM (h:=Zq (d:=9) rfl (fun g1=>?_) (fun g1=>?_)))))))))))
 try simp only [sQ,ne_eq] at g1
 refine xP (h:=xP (h:=xP (h:=xP (h:=xT (h:=Zd (t:=true) rfl (fun _=>Za (xB [] [_,_,_] [_,_,_] ZpI ZeJ (h:=xS [_,_,_] 0 [_,_,_] Zdi (h:=xA (h:=Zu [_] rfl (Zh (Zs ?_))))))) (fun h=>Bool.noConfusion h))))))
 exact ZW .ret (.inl rfl) [_,_] ⟨⟨_,rfl,.inr ⟨[_,_,_],Zl6,Zae 0 rfl rfl rfl,rfl⟩⟩,rfl,trivial⟩ ⟨by rw [Zan,if_neg (by simpa using g1)];rfl,rfl,rfl⟩
 try simp only [sQ,ne_eq] at g1
 refine xM (h:=xM (h:=xR ZoX rfl (ZbC _ _ _ _ _ hu) (h:=Zaf (h:=xF (h:=Zd rfl (fun g2=>?_) (fun g2=>?_))))))
 try simp only [sQ,ne_eq] at g2
 refine Za (xB [] [_,_,_] [_,_,_] ZpI ZeJ (h:=xS [_,_,_] 0 [_,_,_] Zdi (h:=xA (h:=Zu [_] rfl (Zh (Zs ?_))))))
 exact ZW .ret (.inl rfl) [_,_] ⟨⟨_,rfl,.inr ⟨[_,_,_],Zl6,Zae 0 rfl rfl rfl,rfl⟩⟩,rfl,trivial⟩ ⟨by rw [Zan,if_pos (by simpa using g1),ZmQ oz];rfl,rfl,rfl⟩
 try simp only [sQ,ne_eq] at g2
 refine Zi (Zf (Za (xM (h:=xM (h:=xM (h:=xR ZoX rfl (ZbC _ _ _ _ _ hu) (h:=?_)))))))
 obtain ⟨z,hz⟩:=Zec (xs:=us) (i:=(Zde us n)) om om
 obtain ⟨bb6,oo6,rfl⟩:=hu.base hz
 obtain ⟨_,⟨rfl,hb7,hb7b⟩,hc7⟩:=hu.elem hz
 refine xIx Tryz.underlying23 Zdi (h:=yL [_,_,_] Zl6 hc7 0 (h:=xS [_,_,_] 0 [_,_,_] Zdi (h:=xA (h:=Zu [_] rfl (Zh ?_)))))
 exact ZW .ret (.inl rfl) [_,_] ⟨⟨_,rfl,.inr ⟨[_,_,_],Zl6,Zae 0 rfl rfl rfl,rfl⟩⟩,rfl,trivial⟩ ⟨by rw [Zan,if_pos (by simpa using g1),ZnG oz hz];rfl,rfl,rfl⟩

set_option maxHeartbeats 400000 in
theorem Zmo (q:Option Addr) (cp:Nat) (us:List DUser) (n:Str) (hn:n.length≤2000000) (p:Str) (hp:p.length≤2000000) (B:Kn) (hu:SlK B q cp 3 Zg us):Za6 (pj J) 57 [.slice q us.length cp,str n,str p] B (.bool (ZbS us n p)):=by
 refine Zc 22 Tryz.func57 rfl rfl rfl (Nat.le_of_ble_eq_true rfl) ?_
 refine Za (xA (h:=Za (xM (h:=xM (h:=xR ZwR rfl (Zn4 _ _ us n om2 _ hu) (h:=?_))))))
 refine xM (h:=xE (h:=xE (h:=xAl [_,_,_] ZeJ (h:=fun b2=>xS [_,_,_] 0 [_,_,_] Zdi (h:=xA (h:=Zu [_] rfl (Za (xM (h:=xM (h:=Zq (d:=16) rfl (fun g1=>?_) (fun g1=>?_)))))))))))
 try simp only [sQ,ne_eq] at g1
 refine xW ZjS (h:=x1 lk9 0 (h:=xM (h:=Zcs (h:=xT (h:=xA (h:=Zh ?_))))))
 exact ZW .ret (.inl rfl) [_] t1 ⟨Zm (by simp [ZbS,g1]),rfl,rfl⟩
 try simp only [sQ,ne_eq] at g1
 refine xP (h:=xP (h:=xP (h:=xP (h:=xF (h:=xA (h:=Zh ?_))))))
 exact ZW .ret (.inl rfl) [_] t1 ⟨Zm (by simp [ZbS,g1]),rfl,rfl⟩

set_option maxHeartbeats 400000 in
theorem ZfY (q:Option Addr) (cp:Nat) (us:List DUser) (n:Str) (hn:n.length≤2000000) (p:Str) (hp:p.length≤2000000) (B:Kn) (hu:SlK B q cp 3 Zg us):Za6 (pj J) 25 [.slice q us.length cp,str n,str p] B (.bool (ZbS us n p)):=by
 refine Zc 22 Tryz.func25 rfl rfl rfl (Nat.le_of_ble_eq_true rfl) ?_
 refine Za (xA (h:=Za (xM (h:=xM (h:=xR Zvc rfl (Zem _ _ _ n om2 _ hu) (h:=?_))))))
 refine xM (h:=xE (h:=xE (h:=xAl [_,_,_] ZeJ (h:=fun b2=>xS [_,_,_] 0 [_,_,_] Zdi (h:=xA (h:=Zu [_] rfl (Za (xM (h:=xM (h:=Zq (d:=16) rfl (fun g1=>?_) (fun g1=>?_)))))))))))
 try simp only [sQ,ne_eq] at g1
 refine xW ZjS (h:=x1 lk9 0 (h:=xM (h:=Zcs (h:=xT (h:=xA (h:=Zh ?_))))))
 exact ZW .ret (.inl rfl) [_] t1 ⟨Zm (by simp [ZbS,g1]),rfl,rfl⟩
 try simp only [sQ,ne_eq] at g1
 refine xP (h:=xP (h:=xP (h:=xP (h:=xF (h:=xA (h:=Zh ?_))))))
 exact ZW .ret (.inl rfl) [_] t1 ⟨Zm (by simp [ZbS,g1]),rfl,rfl⟩

set_option maxHeartbeats 400000 in
theorem Zjr (q1 q2 q3:Option Addr) (c1 c2 c3:Nat) (x:DHost) (n p:Str) (hn:n.length≤2000000) (hp:p.length≤2000000) (hd:x.domain.length≤2000000) (B:Kn) (hu:SlK B q1 c1 3 Zg x.users) (hf:SlK B q2 c2 5 Zb x.folders) (hi:SlK B q3 c3 4 Zj x.queue.items):Za6 (pj J) 24 [.agg #[str x.domain,.slice q1 x.users.length c1,.slice q2 x.folders.length c2,.int .i64 x.queue.next,.slice q3 x.queue.items.length c3],str n,str p] B (.tuple #[.agg #[str (Zbg x n p).1.user,str (Zbg x n p).1.owner,str (Zbg x n p).1.name],.bool (Zbg x n p).2]):=by
 refine Zc 23 Tryz.func24 rfl rfl rfl (Nat.le_of_ble_eq_true rfl) ?_
 refine Za (xBx [_,_,_,_,_] (h:=fun b1=>xAl [_,_,_] Zl9 (h:=fun b2=>xA (h:=Zu [_,_] rfl (Zk (Za (xL [_,_,_,_,_] ZZ 0 (h:=xR Zl8 rfl (ZaG _ _ _ _ _ _ x om2 _ hu hf hi) (h:=?_)))))))))
 refine xN (h:=xM (h:=Zq (d:=11) rfl (fun g1=>?_) (fun g1=>?_)))
 try simp only [sQ,ne_eq] at g1
 refine xP (h:=xP (h:=xP (h:=xP (h:=xP (h:=xP (h:=xT (h:=Zd (t:=true) rfl (fun _=>Za (xB [] [_,_,_] [_,_,_] Zsz Zl9 (h:=xS [_,_,_] 1 [_,_,_] Zpm (h:=xA (h:=Zu [_,_] rfl ?_))))) (fun h=>Bool.noConfusion h))))))))
 refine Zh (Zs ?_)
 exact ZW .ret (.inl rfl) [_,_] ⟨⟨_,rfl,.inr ⟨[_,_,_],Zkf,Zae 1 rfl rfl rfl,rfl⟩⟩,rfl,trivial⟩ ⟨by rw [Zeq (by simp [g1])];rfl,rfl,rfl⟩
 try simp only [sQ,ne_eq] at g1
 refine xW ZaK (h:=x1 Zfj 0 (h:=xM (h:=xM (h:=xR Zxd rfl (Zmo _ _ x.users n om2 p om2 _ hu) (h:=?_)))))
 refine xN (h:=xF (h:=Zd rfl (fun g2=>?_) (fun g2=>?_)))
 try simp only [sQ,ne_eq] at g2
 refine Za (xB [] [_,_,_] [_,_,_] Zsz Zl9 (h:=xS [_,_,_] 1 [_,_,_] Zpm (h:=xA (h:=Zu [_,_] rfl (Zh (Zs ?_))))))
 exact ZW .ret (.inl rfl) [_,_] ⟨⟨_,rfl,.inr ⟨[_,_,_],Zkf,Zae 1 rfl rfl rfl,rfl⟩⟩,rfl,trivial⟩ ⟨by rw [Zeq (by simp [g1,g2])];rfl,rfl,rfl⟩
 try simp only [sQ,ne_eq] at g2
 refine Zi (Zf (Za (xM (h:=xM (h:=xB [(0,_),(1,_),(2,_)] [_,_,_] [_,_,_] Zsz Zl9 (h:=xS [_,_,_] 1 [_,_,_] Zpm (h:=xA (h:=Zu [_,_] rfl (Zh ?_)))))))))
 exact ZW .ret (.inl rfl) [_,_] ⟨⟨_,rfl,.inr ⟨[_,_,_],Zkf,Zae 1 rfl rfl rfl,rfl⟩⟩,rfl,trivial⟩ ⟨by rw [Zg9 (by simp [g1,g2])];rfl,rfl,rfl⟩

set_option maxHeartbeats 400000 in
theorem ZjM (hJ:Joins Tryz.prog J) (q1 q2 q3:Option Addr) (c1 c2 c3:Nat) (x:DHost) (n p:Str) (hn:n.length≤2000000) (hp:p.length≤2000000) (hd:x.domain.length≤2000000) (B:Kn) (hu:SlK B q1 c1 3 Zg x.users) (hf:SlK B q2 c2 5 Zb x.folders) (hi:SlK B q3 c3 4 Zj x.queue.items):ZL (pj J) 23 [.agg #[str x.domain,.slice q1 x.users.length c1,.slice q2 x.folders.length c2,.int .i64 x.queue.next,.slice q3 x.queue.items.length c3],str n,str p] B [] (fun v B' Ls=>Ls=[]∧v=(.tuple #[.agg #[str (Zbg x n p).1.user,str (Zbg x n p).1.owner,str (Zbg x n p).1.name],.bool (Zbg x n p).2])):=by
 refine Zc 23 Tryz.func23 rfl rfl rfl (Nat.le_of_ble_eq_true rfl) ?_
 refine Za (xBx [_,_,_,_,_] (h:=fun b1=>xAl [_,_,_] Zl9 (h:=fun b2=>xA (h:=Zu [_,_] rfl (Zk (Za (xL [_,_,_,_,_] ZZ 0 (h:=Zo (Z2 rfl rfl ZoI rfl (ZaV hJ _ _ _ _ _ _ x om2 _ hu hf hi) ?_)))))))))
 intro v3 B3 hle3
 rintro rfl
 replace hu:=hu.mono Zg.mono hle3
 replace hf:=hf.mono Zb.mono hle3
 replace hi:=hi.mono Zj.mono hle3
 refine xN (h:=xM (h:=Zq (d:=11) rfl (fun g1=>?_) (fun g1=>?_)))
 try simp only [sQ,ne_eq] at g1
 refine xP (h:=xP (h:=xP (h:=xP (h:=xP (h:=xP (h:=xT (h:=Zd (t:=true) rfl (fun _=>Za (xB [] [_,_,_] [_,_,_] Zsz Zl9 (h:=xS [_,_,_] 1 [_,_,_] Zpm (h:=xA (h:=Zu [_,_] rfl ?_))))) (fun h=>Bool.noConfusion h))))))))
 refine Zh (Zs ?_)
 exact ZW .ret (.inl rfl) [_,_] ⟨⟨_,rfl,.inr ⟨[_,_,_],Zkf,Zae 1 rfl rfl rfl,rfl⟩⟩,rfl,trivial⟩ ⟨rfl,by rw [Zeq (by simp [g1])];rfl⟩
 try simp only [sQ,ne_eq] at g1
 refine xW ZaK (h:=x1 Zfj 0 (h:=xM (h:=xM (h:=xR ZvL rfl (ZfY _ _ x.users n om2 p om2 _ hu) (h:=?_)))))
 refine xN (h:=xF (h:=Zd rfl (fun g2=>?_) (fun g2=>?_)))
 try simp only [sQ,ne_eq] at g2
 refine Za (xB [] [_,_,_] [_,_,_] Zsz Zl9 (h:=xS [_,_,_] 1 [_,_,_] Zpm (h:=xA (h:=Zu [_,_] rfl (Zh (Zs ?_))))))
 exact ZW .ret (.inl rfl) [_,_] ⟨⟨_,rfl,.inr ⟨[_,_,_],Zkf,Zae 1 rfl rfl rfl,rfl⟩⟩,rfl,trivial⟩ ⟨rfl,by rw [Zeq (by simp [g1,g2])];rfl⟩
 try simp only [sQ,ne_eq] at g2
 refine Zi (Zf (Za (xM (h:=xM (h:=xB [(0,_),(1,_),(2,_)] [_,_,_] [_,_,_] Zsz Zl9 (h:=xS [_,_,_] 1 [_,_,_] Zpm (h:=xA (h:=Zu [_,_] rfl (Zh ?_)))))))))
 exact ZW .ret (.inl rfl) [_,_] ⟨⟨_,rfl,.inr ⟨[_,_,_],Zkf,Zae 1 rfl rfl rfl,rfl⟩⟩,rfl,trivial⟩ ⟨rfl,by rw [Zg9 (by simp [g1,g2])];rfl⟩

set_option maxHeartbeats 400000 in
theorem Zle (q q':Option Addr) (cp cp':Nat) (xs ys:List DGrant) (B:Kn) (ha:SlK B q cp 2 ZB xs) (hb:SlK B q' cp' 2 ZB ys):Za6 (pj J) 52 [.slice q xs.length cp,.slice q' ys.length cp'] B (.bool (decide (xs=ys))):=by
 refine Zc 26 Tryz.func52 rfl rfl rfl (Nat.le_of_ble_eq_true rfl) ?_
 have han:=ha.len
 have hbn:=hb.len
 refine Za (xA (h:=Zk (Za (xM (h:=xV Tryz.underlying33 (h:=xM (h:=xV Tryz.underlying33 (h:=Zdq (h:=Zd rfl (fun g1=>?_) (fun g1=>?_))))))))))
 try simp only [sQ,ne_eq] at g1
 refine Za (xA (h:=Zh (Zs ?_)))
 exact ZW .ret (.inl rfl) [_] t1 ⟨Zm (Zqs g1),rfl,rfl⟩
 try simp only [sQ,ne_eq] at g1
 refine Zi (Zf (Zk (Za (xA (h:=Zp (ZS (α:=Nat) [0,1,10] (fun k=>[(5,.int .i64 k)]) [] (fun k=>[]) (fun k Bx=>Bx=B∧k≤xs.length∧xs.take k=ys.take k) (fun k=>xs.length - k) 0 t1 rfl (⟨rfl,Nat.zero_le _,by simp⟩) (fun k B1 hle1 hI=>?_)))))))
 obtain ⟨rfl,hk,he⟩:=hI
 refine ZR [(0,_),(1,_),(5,_),(10,_)] [] t4 rfl (Zk (Za (xM (h:=xM (h:=xV Tryz.underlying33 (h:=Zaf (h:=Zd rfl (fun g2=>?_) (fun g2=>?_))))))))
 try simp only [sQ,ne_eq] at g2
 refine Zi (Zf (Zk (Zp (Zk (Z9 (same _ _) mo kr ⟨rfl,rfl⟩ (fun _ _=>?_))))))
 refine aM 0 rfl (h:=aM 1 rfl (h:=?_))
 obtain ⟨x,hx⟩:=Zar (xs:=xs) (i:=k) om
 obtain ⟨bb3,oo3,rfl⟩:=ha.base hx
 obtain ⟨_,⟨rfl,hb4⟩,hc4⟩:=ha.elem hx
 refine aIx 2 rfl Tryz.underlying33 ZbG (h:=aT 3 rfl (Zap fun D=>Z5 [_,_] rfl rfl Zon rfl (Zic hc4 0 rfl rfl) r4) (h:=aM 4 rfl (h:=aM 5 rfl (h:=?_))))
 obtain ⟨y,hy⟩:=Zar (xs:=ys) (i:=k) om
 obtain ⟨bb6,oo6,rfl⟩:=hb.base hy
 obtain ⟨_,⟨rfl,hb7⟩,hc7⟩:=hb.elem hy
 refine aIx 6 rfl Tryz.underlying33 ZbG (h:=aT 7 rfl (Zap fun D=>Z5 [_,_] rfl rfl Zon rfl (Zic hc7 0 rfl rfl) r4) (h:=aT 8 rfl (Zap fun D=>Zm8 (rs:=[_,_]) rfl rfl rfl rfl Ztx ⟨⟨_,_,rfl,rfl,ZbN Tryz.underlying9⟩,⟨_,_,rfl,rfl,ZkA Tryz.underlying3⟩,trivial⟩ r4) (h:=Zz kr kr ?_)))
 refine Zf (Zd rfl (fun g3=>?_) (fun g3=>?_))
 try simp only [sQ,ne_eq] at g3
 refine Za (xA (h:=Zh (ZO (Zs (Zad (ZO (Zs ?_)))))))
 exact ZW .ret (.inl rfl) [_] t1 ⟨Zm (ZnJ hx hy (by rintro rfl;simp at g3)),rfl,rfl⟩
 try simp only [sQ,ne_eq] at g3
 refine Zi (ZA (Zf (Ze (xM (h:=xD (h:=xA (h:=?_)))))))
 exact ZC (k+1) [] so2 ⟨rfl,oz,Zg4 hx hy (by cases x;cases y;simpa [and_assoc] using g3) he⟩ t4 rfl
 try simp only [sQ,ne_eq] at g2
 refine Z0 (Zal (Z6 (ZK (Zf (Za (xA (h:=Zh ?_)))))))
 exact ZW .ret (.inl rfl) [_] t1 ⟨Zm (eqT oz oz he),rfl,rfl⟩

set_option maxHeartbeats 400000 in
theorem Zn6 (q q':Option Addr) (cp cp':Nat) (xs ys:List DMail) (B:Kn) (ha:SlK B q cp 3 ZF xs) (hb:SlK B q' cp' 3 ZF ys):Za6 (pj J) 94 [.slice q xs.length cp,.slice q' ys.length cp'] B (.bool (decide (xs=ys))):=by
 refine Zc 26 Tryz.func94 rfl rfl rfl (Nat.le_of_ble_eq_true rfl) ?_
 have han:=ha.len
 have hbn:=hb.len
 refine Za (xA (h:=Zk (Za (xM (h:=xV Tryz.underlying34 (h:=xM (h:=xV Tryz.underlying34 (h:=Zdq (h:=Zd rfl (fun g1=>?_) (fun g1=>?_))))))))))
 try simp only [sQ,ne_eq] at g1
 refine Za (xA (h:=Zh (Zs ?_)))
 exact ZW .ret (.inl rfl) [_] t1 ⟨Zm (Zqs g1),rfl,rfl⟩
 try simp only [sQ,ne_eq] at g1
 refine Zi (Zf (Zk (Za (xA (h:=Zp (ZS (α:=Nat) [0,1,10] (fun k=>[(5,.int .i64 k)]) [] (fun k=>[]) (fun k Bx=>Bx=B∧k≤xs.length∧xs.take k=ys.take k) (fun k=>xs.length - k) 0 t1 rfl (⟨rfl,Nat.zero_le _,by simp⟩) (fun k B1 hle1 hI=>?_)))))))
 obtain ⟨rfl,hk,he⟩:=hI
 refine ZR [(0,_),(1,_),(5,_),(10,_)] [] t4 rfl (Zk (Za (xM (h:=xM (h:=xV Tryz.underlying34 (h:=Zaf (h:=Zd rfl (fun g2=>?_) (fun g2=>?_))))))))
 try simp only [sQ,ne_eq] at g2
 refine Zi (Zf (Zk (Zp (Zk (Z9 (same _ _) mo kr ⟨rfl,rfl⟩ (fun _ _=>?_))))))
 refine aM 0 rfl (h:=aM 1 rfl (h:=?_))
 obtain ⟨x,hx⟩:=Zar (xs:=xs) (i:=k) om
 obtain ⟨bb3,oo3,rfl⟩:=ha.base hx
 obtain ⟨_,⟨rfl,hb4⟩,hc4⟩:=ha.elem hx
 refine aIx 2 rfl Tryz.underlying34 ZgE (h:=aT 3 rfl (Zap fun D=>Z5 [_,_,_] rfl rfl ZsD rfl (Zic hc4 0 rfl rfl) r4) (h:=aM 4 rfl (h:=aM 5 rfl (h:=?_))))
 obtain ⟨y,hy⟩:=Zar (xs:=ys) (i:=k) om
 obtain ⟨bb6,oo6,rfl⟩:=hb.base hy
 obtain ⟨_,⟨rfl,hb7⟩,hc7⟩:=hb.elem hy
 refine aIx 6 rfl Tryz.underlying34 ZgE (h:=aT 7 rfl (Zap fun D=>Z5 [_,_,_] rfl rfl ZsD rfl (Zic hc7 0 rfl rfl) r4) (h:=aT 8 rfl (Zap fun D=>Zm8 (rs:=[_,_,_]) rfl rfl rfl rfl Zuu ⟨⟨_,_,rfl,rfl,ZkA Tryz.underlying3⟩,⟨_,_,rfl,rfl,ZkA Tryz.underlying3⟩,⟨_,_,rfl,rfl,ZbN Tryz.underlying9⟩,trivial⟩ r4) (h:=Zz kr kr ?_)))
 refine Zf (Zd rfl (fun g3=>?_) (fun g3=>?_))
 try simp only [sQ,ne_eq] at g3
 refine Za (xA (h:=Zh (ZO (Zs (Zad (ZO (Zs ?_)))))))
 exact ZW .ret (.inl rfl) [_] t1 ⟨Zm (ZnJ hx hy (by rintro rfl;simp at g3)),rfl,rfl⟩
 try simp only [sQ,ne_eq] at g3
 refine Zi (ZA (Zf (Ze (xM (h:=xD (h:=xA (h:=?_)))))))
 exact ZC (k+1) [] so2 ⟨rfl,oz,Zg4 hx hy (by cases x;cases y;simpa [and_assoc] using g3) he⟩ t4 rfl
 try simp only [sQ,ne_eq] at g2
 refine Z0 (Zal (Z6 (ZK (Zf (Za (xA (h:=Zh ?_)))))))
 exact ZW .ret (.inl rfl) [_] t1 ⟨Zm (eqT oz oz he),rfl,rfl⟩

set_option maxHeartbeats 400000 in
theorem ZpC (q1:Option Addr) (c1:Nat) (q2:Option Addr) (c2:Nat) (a b:DBox) (B:Kn) (h1:SlK B q1 c1 3 ZF a.mail) (h2:SlK B q2 c2 3 ZF b.mail):Za6 (pj J) 53 [.agg #[.int .i64 a.next,.slice q1 a.mail.length c1],.agg #[.int .i64 b.next,.slice q2 b.mail.length c2]] B (.bool (decide (a=b))):=by
 refine Zc 17 Tryz.func53 rfl rfl rfl (Nat.le_of_ble_eq_true rfl) ?_
 refine Za (xBx [_,_] (h:=fun b1=>xBx [_,_] (h:=fun b2=>xA (h:=Zu [_,_] rfl (Za (xW Zcq (h:=x1 lk3 0 (h:=xW Zcq (h:=x1 lk3 1 (h:=ZI (h:=xM (h:=Zq (d:=10) rfl (fun g1=>?_) (fun g1=>?_)))))))))))))
 try simp only [sQ,ne_eq] at g1
 refine xW ZaQ (h:=x1 Zfw 0 (h:=xW ZaQ (h:=x1 Zfw 1 (h:=xR ZwS rfl (Zn6 _ _ _ _ _ _ _ h1 h2) (h:=xT (h:=xA (h:=Zh ?_)))))))
 exact ZW .ret (.inl rfl) [_] t1 ⟨Zm (by cases a;cases b;simp_all),rfl,rfl⟩
 try simp only [sQ,ne_eq] at g1
 refine xP (h:=xP (h:=xP (h:=xP (h:=xP (h:=xF (h:=xA (h:=Zh ?_)))))))
 exact ZW .ret (.inl rfl) [_] t1 ⟨Zm (by cases a;cases b;simp_all),rfl,rfl⟩

set_option maxHeartbeats 400000 in
theorem ZcY (qa1 qb1:Option Addr) (ca1 cb1:Nat) (qa2 qb2:Option Addr) (ca2 cb2:Nat) (a b:DFolder) (B:Kn) (hg1:SlK B qa1 ca1 2 ZB a.grants) (hm1:SlK B qb1 cb1 3 ZF a.mail) (hg2:SlK B qa2 ca2 2 ZB b.grants) (hm2:SlK B qb2 cb2 3 ZF b.mail):Za6 (pj J) 19 [.agg #[str a.owner,str a.name,.slice qa1 a.grants.length ca1,.int .i64 a.next,.slice qb1 a.mail.length cb1],.agg #[str b.owner,str b.name,.slice qa2 b.grants.length ca2,.int .i64 b.next,.slice qb2 b.mail.length cb2]] B (.bool (decide (a=b))):=by
 refine Zc 31 Tryz.func19 rfl rfl rfl (Nat.le_of_ble_eq_true rfl) ?_
 refine Za (xBx [_,_,_,_,_] (h:=fun b1=>xBx [_,_,_,_,_] (h:=fun b2=>xA (h:=Zu [_,_] rfl (Za (xW Zce (h:=x1 lk9 0 (h:=xW Zce (h:=x1 lk9 1 (h:=Zcs (h:=xM (h:=Zq (d:=10) rfl (fun g1=>?_) (fun g1=>?_)))))))))))))
 try simp only [sQ,ne_eq] at g1
 refine xW ZdA (h:=x1 lk9 0 (h:=xW ZdA (h:=x1 lk9 1 (h:=Zcs (h:=xT (h:=xM (h:=Zq (d:=17) rfl (fun g2=>?_) (fun g2=>?_))))))))
 try simp only [sQ,ne_eq] at g2
 refine xW ZdS (h:=x1 Zru 0 (h:=xW ZdS (h:=x1 Zru 1 (h:=xR Zxh rfl (Zle _ _ _ _ _ _ _ hg1 hg2) (h:=xT (h:=xM (h:=Zq (d:=24) rfl (fun g3=>?_) (fun g3=>?_))))))))
 try simp only [sQ,ne_eq] at g3
 refine xW ZbY (h:=xL [_,_] ZbL 0 (h:=xW ZbY (h:=xL [_,_] ZbL 1 (h:=xR Zxg rfl (ZpC _ _ _ _ (⟨a.next,a.mail⟩:DBox) (⟨b.next,b.mail⟩:DBox) _ hm1 hm2) (h:=xT (h:=xA (h:=Zh ?_)))))))
 exact ZW .ret (.inl rfl) [_] t1 ⟨Zm (by cases a;cases b;simp_all),rfl,rfl⟩
 try simp only [sQ,ne_eq] at g3
 refine xP (h:=xP (h:=xP (h:=xP (h:=xP (h:=xF (h:=xA (h:=Zh ?_)))))))
 exact ZW .ret (.inl rfl) [_] t1 ⟨Zm (by cases a;cases b;simp_all),rfl,rfl⟩
 try simp only [sQ,ne_eq] at g2
 refine xP (h:=xP (h:=xP (h:=xP (h:=xP (h:=xF (h:=xM (h:=xP (h:=xP (h:=xP (h:=xP (h:=xP (h:=xF (h:=?_)))))))))))))
 refine xA (h:=Zh ?_)
 exact ZW .ret (.inl rfl) [_] t1 ⟨Zm (by cases a;cases b;simp_all),rfl,rfl⟩
 try simp only [sQ,ne_eq] at g1
 refine xP (h:=xP (h:=xP (h:=xP (h:=xP (h:=xF (h:=xM (h:=xP (h:=xP (h:=xP (h:=xP (h:=xP (h:=xF (h:=?_)))))))))))))
 refine xM (h:=xP (h:=xP (h:=xP (h:=xP (h:=xP (h:=xF (h:=xA (h:=Zh ?_))))))))
 exact ZW .ret (.inl rfl) [_] t1 ⟨Zm (by cases a;cases b;simp_all),rfl,rfl⟩

set_option maxRecDepth 4000 in
set_option maxHeartbeats 400000 in
theorem Zop (b : Nat) (q : Option Addr) (m cp p : Nat) (hp : p ≤ 850000000000) (hm : m ≤ 2000) (B : Kn) (hbm : Zac B q m) : ZL (pj J) 67 [ptr ⟨b, 0, none⟩] B [rd b q m cp p] (fun v B' Ls => ∃ q' cp' us p', v = .slice q' us.length cp' ∧ SlK B' q' cp' 3 Zg us ∧ us.length ≤ 5 ∧ p' ≤ p + 10 ∧ Ls = [rd b q m cp p']) := by
  refine Zc 61 Tryz.func67 rfl rfl rfl (Nat.le_of_ble_eq_true rfl) ?_
  refine Za (xA (h:=Za (xB [(0, _), (1, _), (2, _)] [_, _, _] [_, _, _] ZpI ZeJ (h:=xM (h:=xX 0 rfl Za5 rfl (ZM _ _ _ _ _ _ (by omega) (by omega) (by omega) hm _ hbm) (h:=?_))))))
  rintro _ _ ⟨ru, rfl, rua, rub, rfl⟩
  refine xD (h:=xB [(0, _), (1, _), (2, _)] [_, _, _] [_, _, _] ZpI ZeJ (h:=xM (h:=xX 0 rfl Za5 rfl (ZM _ _ _ _ _ _ (by omega) (by omega) (by omega) hm _ hbm) (h:=?_))))
  rintro _ _ ⟨ro, rfl, roa, rob, rfl⟩
  refine xD (h:=xB [(0, _), (1, _), (2, _)] [_, _, _] [_, _, _] ZpI ZeJ (h:=xBs [(0, _), (1, _), (2, _)] [_, _, _, _, _, _, _, _, _] Tryz.underlying23 Zdi ZeJ (h:=fun b3 => xA (h:=Zu [_, _] rfl ?_))))
  obtain ⟨us0, hn0, hv0⟩ : ∃ us0 : List DUser, us0.length = 3 ∧ Zaa B (Zbn b3 [str [97, 109, 121], str [97, 49], int 60, str [98, 111, 98], str [98, 50], int (20 + ru), str [99, 121, 100], str [99, 51], int (100 + ro)] 41) (some ⟨b3, 0, none⟩) 3 41 3 Zg us0 := ⟨[⟨[97, 109, 121], [97, 49], 60⟩, ⟨[98, 111, 98], [98, 50], 20 + ru⟩, ⟨[99, 121, 100], [99, 51], 100 + ro⟩], rfl, Zaa.lit (rows := [[str [97, 109, 121], str [97, 49], int 60], [str [98, 111, 98], str [98, 50], int (20 + ru)], [str [99, 121, 100], str [99, 51], int (100 + ro)]]) (.cons ⟨rfl, by simp, by simp⟩ (.cons ⟨rfl, by simp, by simp⟩ (.cons ⟨rfl, by simp, by simp⟩ .nil))) (by intro row hr; simp only [List.mem_cons, List.not_mem_nil, or_false] at hr; rcases hr with rfl | rfl | rfl <;> rfl)⟩
  refine Za (xM (h:=xM (h:=xX 0 rfl Za5 rfl (ZM _ _ _ _ _ _ (by omega) (by omega) (by omega) hm _ hbm) (h:=?_))))
  rintro _ _ ⟨ry, rfl, rya, ryb, rfl⟩
  refine xD (h:=Zo (Zff rfl rfl Tryz.underlying23 Zdi rfl (a := 0) (b := (1 + ry).toNat) rfl ⟨_, _, rfl, by omega⟩ (by omega) (by omega) ?_))
  refine xA (h:=Zu [_, _] rfl ?_)
  obtain ⟨us1, hn1, hv1⟩ : ∃ us1 : List DUser, us1.length = (1 + ry).toNat ∧ Zaa B _ _ 3 41 3 Zg us1 := ⟨us0.take (1 + ry).toNat, by rw [List.length_take]; omega, hv0.take (by omega)⟩
  rw [hv0.slice0 (sz := 3), show (1 + ry).toNat - 0 = us1.length from by omega]
  refine Za (xM (h:=xM (h:=xV Tryz.underlying23 (h:=xX 0 rfl Za5 rfl (ZM _ _ _ _ _ _ (by omega) (by omega) (by omega) hm _ hbm) (h:=?_)))))
  rintro _ _ ⟨rk, rfl, rka, rkb, rfl⟩
  refine xA (h:=Zu [_, _] rfl (Zo8 (α := Gh DUser) [0, 2, 4] (fun g => [(3, .slice g.a g.xs.length g.c)]) (fun g => [rd b q m cp g.p, g.l]) (fun g Bx => g.p ≤ p + 10 ∧ g.xs.length ≤ 5 ∧ Zaa Bx g.l g.a g.c 41 3 Zg g.xs) ?_ (fun g B6 hle6 hF => ?_)))
  refine Za (xM (h:=xX 0 rfl Za5 rfl (ZM _ _ _ _ _ _ (by omega) (by omega) (by omega) hm _ hbm) (h:=?_)))
  rintro _ _ ⟨rj, rfl, rja, rjb, rfl⟩
  refine Zu [_, _] rfl (Zp (Za (ZI (h:=xA (h:=Zd rfl (fun g1 => ?_) (fun g1 => ?_))))))
  try simp only [sQ, ne_eq] at g1
  refine Ze (xM (h:=xM (h:=xM (h:=xX 0 rfl ZrX rfl (Zcw _ _ _ _ _ (by omega) hm _ hbm) (h:=?_)))))
  rintro _ _ ⟨xs, rfl, hxs, rfl⟩
  obtain ⟨z, hz⟩ := Zec (xs := us1) (i := rk) (by first | omega | (simp; done) | (simp; omega)) (by first | omega | (simp; done) | (simp; omega))
  obtain ⟨bb10, _, hp10, ⟨rfl, hb10, hb10b⟩, hw10, hc10⟩ := hv1.row hz
  refine xIp hp10 Tryz.underlying23 Zdi (h:=xW ZcH (h:=Zo (ZdU (k := (rk).toNat) (off := 0) (⟨xs, z.pass, z.quota⟩) [_] 1 hv1 hp10 hz rfl rfl sz9 rfl rfl rfl rfl rfl rfl (by rintro _ ⟨rfl, e1, e2⟩; exact ⟨rfl, show xs.length ≤ 2000000 by omega, e2⟩) (fun l11 hv11 => ?_))))
  refine ZA ?_
  obtain ⟨us12, hn12, hv12⟩ : ∃ us12 : List DUser, us12.length = us1.length ∧ Zaa B l11 _ _ 41 3 Zg us12 := ⟨_, by rw [List.length_set], hv11⟩
  rw [← hn12]
  exact ZJ ⟨0, ((((((p + 1) + 1) + 1) + 1) + 1) + 2), l11, (some ⟨b3, 0, none⟩), 3, us12⟩ [0, 1] ⟨by simp only []; omega, by first | (simp only []; omega) | (simp; omega), hv12⟩ ⟨rfl, rfl, rfl, rfl, trivial⟩ rfl
  try simp only [sQ, ne_eq] at g1
  refine Za (ZI (h:=xA (h:=Zd rfl (fun g2 => ?_) (fun g2 => ?_))))
  try simp only [sQ, ne_eq] at g2
  refine Ze (xM (h:=xM (h:=xM (h:=xX 0 rfl ZrX rfl (Zcw _ _ _ _ _ (by omega) hm _ hbm) (h:=?_)))))
  rintro _ _ ⟨xs, rfl, hxs, rfl⟩
  obtain ⟨z, hz⟩ := Zec (xs := us1) (i := rk) (by first | omega | (simp; done) | (simp; omega)) (by first | omega | (simp; done) | (simp; omega))
  obtain ⟨bb15, _, hp15, ⟨rfl, hb15, hb15b⟩, hw15, hc15⟩ := hv1.row hz
  refine xIp hp15 Tryz.underlying23 Zdi (h:=xW ZjS (h:=Zo (ZdU (k := (rk).toNat) (off := 1) (⟨z.name, xs, z.quota⟩) [_] 1 hv1 hp15 hz rfl rfl sz9 rfl rfl rfl rfl rfl rfl (by rintro _ ⟨rfl, e1, e2⟩; exact ⟨rfl, e1, show xs.length ≤ 2000000 by omega⟩) (fun l16 hv16 => ?_))))
  refine ZA ?_
  obtain ⟨us17, hn17, hv17⟩ : ∃ us17 : List DUser, us17.length = us1.length ∧ Zaa B l16 _ _ 41 3 Zg us17 := ⟨_, by rw [List.length_set], hv16⟩
  rw [← hn17]
  exact ZJ ⟨0, ((((((p + 1) + 1) + 1) + 1) + 1) + 2), l16, (some ⟨b3, 0, none⟩), 3, us17⟩ [0, 1] ⟨by simp only []; omega, by first | (simp only []; omega) | (simp; omega), hv17⟩ ⟨rfl, rfl, rfl, rfl, trivial⟩ rfl
  try simp only [sQ, ne_eq] at g2
  refine Za (ZI (h:=xA (h:=Zd rfl (fun g3 => ?_) (fun g3 => ?_))))
  try simp only [sQ, ne_eq] at g3
  refine Ze (xM (h:=xM (h:=xBs [(0, _), (1, _), (2, _), (3, _)] [_, _, _, _] Tryz.underlying137 sz3 zo3 (h:=fun b18 => Z3 2 rfl (Zaa.ints (ls := ([(-1), 0, 200, 201] : List Int))) Zbz.mono (by first | omega | decide | (simp; done) | (simp; omega)) (fun B19 hle19 hr19 => ?_)))))
  replace hv1 := hv1.mono Zg.mono hle19
  replace hbm := hbm.mono hle19
  have hr19n := hr19.len
  refine xM (h:=xX 0 rfl Za5 rfl (ZM _ _ _ _ _ _ (by omega) (by omega) (by omega) hm _ hbm) (h:=?_))
  rintro _ _ ⟨rs, rfl, rsa, rsb, rfl⟩
  obtain ⟨e, he⟩ := Zec (xs := ([(-1), 0, 200, 201] : List Int)) (i := rs) (by first | omega | (simp; done) | (simp; omega)) (by first | omega | (simp; done) | (simp; omega))
  obtain ⟨_, rfl, hc22⟩ := hr19.elem he
  refine xIx Tryz.underlying137 sz3 (h:=y1 lk3 hc22 0 (h:=?_))
  obtain ⟨z, hz⟩ := Zec (xs := us1) (i := rk) (by first | omega | (simp; done) | (simp; omega)) (by first | omega | (simp; done) | (simp; omega))
  obtain ⟨bb24, _, hp24, ⟨rfl, hb24, hb24b⟩, hw24, hc24⟩ := hv1.row hz
  refine xIp hp24 Tryz.underlying23 Zdi (h:=xW ZfA (h:=Zo (ZdU (k := (rk).toNat) (off := 2) (⟨z.name, z.pass, e⟩) [_] 1 hv1 hp24 hz rfl rfl sz3 rfl rfl rfl rfl rfl rfl (by rintro _ ⟨rfl, e1, e2⟩; exact ⟨rfl, e1, e2⟩) (fun l25 hv25 => ?_))))
  refine ZA ?_
  obtain ⟨us26, hn26, hv26⟩ : ∃ us26 : List DUser, us26.length = us1.length ∧ Zaa B19 l25 _ _ 41 3 Zg us26 := ⟨_, by rw [List.length_set], hv25⟩
  rw [← hn26]
  exact ZJ ⟨0, ((((((p + 1) + 1) + 1) + 1) + 1) + 1), l25, (some ⟨b3, 0, none⟩), 3, us26⟩ [0, 1] ⟨by simp only []; omega, by first | (simp only []; omega) | (simp; omega), hv26⟩ ⟨rfl, rfl, rfl, rfl, trivial⟩ rfl
  try simp only [sQ, ne_eq] at g3
  refine Za (ZI (h:=xA (h:=Zd rfl (fun g4 => ?_) (fun g4 => ?_))))
  try simp only [sQ, ne_eq] at g4
  refine Ze (xM (h:=xB [(0, _), (1, _), (2, _)] [_, _, _] [_, _, _] ZpI ZeJ (h:=xB [(0, _), (1, _), (2, _)] [_, _, _] [_, _, _] ZpI ZeJ (h:=xBs [(0, _), (1, _)] [_, _, _, _, _, _] Tryz.underlying23 Zdi ZeJ (h:=fun b27 => Zo (Znb (rows := [[str [100, 97, 110], str [100, 52], .int .i64 9], [str [101, 118, 101], str [101, 53], .int .i64 9]]) (ys := [⟨[100, 97, 110], [100, 52], 9⟩, ⟨[101, 118, 101], [101, 53], 9⟩]) (R := Zg) 1 rfl hv1 rfl rfl rfl ZmS Zmj rfl rfl rfl (ZaZ.box 2 rfl) rfl (by intro row hr; simp only [List.mem_cons, List.not_mem_nil, or_false] at hr; rcases hr with rfl | rfl <;> rfl) (.cons (⟨rfl, by first | assumption | omega | (simp; done) | (simp; omega), by first | assumption | omega | (simp; done) | (simp; omega)⟩) (.cons (⟨rfl, by first | assumption | omega | (simp; done) | (simp; done) | (simp; omega), by first | assumption | omega | (simp; done) | (simp; done) | (simp; omega)⟩) .nil)) (by first | omega | (simp; done) | (simp; omega)) (fun l28 p28 c28 hv28 => ?_)))))))
  refine xA (h:=ZA ?_)
  exact ZJ ⟨0, (((((p + 1) + 1) + 1) + 1) + 1), l28, p28, c28, (us1 ++ [⟨[100, 97, 110], [100, 52], 9⟩, ⟨[101, 118, 101], [101, 53], 9⟩])⟩ [0, 1] ⟨by simp only []; omega, by first | (simp only []; omega) | (simp; omega), hv28⟩ ⟨rfl, rfl, rfl, rfl, trivial⟩ rfl
  try simp only [sQ, ne_eq] at g4
  refine Zi (ZA ?_)
  exact ZJ ⟨0, (((((p + 1) + 1) + 1) + 1) + 1), _, (some ⟨b3, 0, none⟩), 3, us1⟩ [0, 1] ⟨by simp only []; omega, by first | (simp only []; omega) | (simp; omega), hv1⟩ ⟨rfl, rfl, rfl, rfl, trivial⟩ rfl
  obtain ⟨hgp, hgn, hw⟩ := hF
  replace hbm := hbm.mono hle6
  refine ZR [(0, _), (2, _), (3, _), (4, _)] [_, _] ⟨rfl, rfl, rfl, rfl, trivial⟩ rfl (ZdL 1 rfl hw Zg.mono (by first | omega | decide | (simp; done) | (simp; omega)) (fun B29 hle29 hr29 => ?_))
  replace hbm := hbm.mono hle29
  have hr29n := hr29.len
  refine Za (xM (h:=xA (h:=Zu [_, _] rfl (Zh ?_))))
  exact Zah .ret (.inl rfl) [_] [0] rfl ⟨rfl, trivial⟩ ⟨_, _, _, _, rfl, hr29, by omega, by omega, rfl⟩

set_option maxHeartbeats 400000 in
theorem ZoM (q:Option Addr) (cp:Nat) (x:DBox) (B:Kn) (hm:SlK B q cp 3 ZF x.mail):ZL (pj J) 93 [.agg #[.int .i64 x.next,.slice q x.mail.length cp]] B [] (fun v B' Ls=>B'=B∧∃l a c,Ls=[l]∧v = .agg #[.int .i64 x.next,.slice a x.mail.length c]∧Zaa B l a c 67 3 ZF x.mail):=by
 refine Zc 10 Tryz.func93 rfl rfl rfl (Nat.le_of_ble_eq_true rfl) ?_
 have hxn:=hm.len
 refine Za (xBx [_,_] (h:=fun b1=>xAl [_,_] Zfe (h:=fun b2=>Zu [_,_] rfl (Zk (Z9 (keeps _ [0] _) mo kr ⟨Kn.le.refl _,Zaq.refl _ _⟩ (fun _ _=>?_))))))
 refine aW 0 rfl Zcq (h:=aT 1 rfl (ZD fun D B L hI=>Zl rfl rfl lk3 rfl (atL 0 (hI.2.1.trans rfl) rfl rfl) r4) (h:=aW 3 rfl ZaQ (h:=aT 4 rfl (ZD fun D B L hI=>Zl rfl rfl Zfw rfl (atL 0 (hI.2.1.trans rfl) rfl rfl) r4) (h:=Zt 2 kr rfl kr (Zw (parts:=[]) [] rfl rfl Tryz.underlying34 ZgE ZnS rfl rfl rfl rfl rfl (fun b3=>?_))))))
 refine ⟨⟨Kn.le.refl _,t1⟩,(Zt 5 kr rfl kr (ZaJ (R:=ZF) 2 rfl (Zaa.lit0 (R:=ZF)) rfl rfl rfl Zu5 Zu2 rfl rfl rfl hm.rows ZF.one rfl om (fun l4 p4 c4 hv4=>?_)))⟩
 refine ⟨⟨Kn.le.refl _,t1⟩,(aT 6 rfl (ZD fun D B L hI=>ZaL (parts:=[(0,_),(1,_)]) [_,_] [_,_] rfl rfl Znn Zfe rfl rfl rfl r4) (h:=ZY 7 kr rfl kr kr kr (ZN [_,_] 1 [_,_] rfl rfl ZcJ rfl rfl rfl rfl rfl rfl rfl rfl ?_)))⟩
 refine Zf (Zu [_,_,_] rfl (Zh ?_))
 exact Zah .ret (.inl rfl) [_] [2] rfl ⟨⟨_,rfl,.inr ⟨[_,_],ZbL,Zae 1 rfl rfl rfl,rfl⟩⟩,trivial⟩ ⟨rfl,_,_,_,rfl,rfl,hv4⟩

end Go.Proofs.YtkiiodddgcdekaaGreat
