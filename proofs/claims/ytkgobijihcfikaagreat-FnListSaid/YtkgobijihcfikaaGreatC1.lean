/-
  WHAT THE FUNCTIONS THAT THE LAWS REACH COMPUTE: each function's contract, proved off its printed body (the text is written by program). No condition beyond those that each theorem states.
-/
import Derived.Test.YtkgobijihcfikaaGreatC0
namespace Go.Proofs.YtkgobijihcfikaaGreat
open Go Go.BL
set_option linter.unusedVariables false
set_option linter.unusedSimpArgs false
set_option maxRecDepth 4000
variable {J : JoinT}
set_option maxHeartbeats 400000 in
theorem ZmD (aq:Option Addr) (cq:Nat) (q:DQueue) (B:Kn) (hq:SlK B aq cq 4 Zj q.items):Za1 (pj J) 48 [.agg #[.int .i64 q.next,.slice aq q.items.length cq]] B (.bool (Zah q)):=by
 refine Ze 42 Tryz.func48 rfl rfl rfl (Nat.le_of_ble_eq_true rfl) ?_
 have hqn:=hq.len
 refine Za (xBx [_,_] (h:=fun b1=>xA (h:=Zw [_] rfl (Zk (Za (xW ZaM (h:=x1 ZfP 0 (h:=xV Tryz.underlying25 (h:=Zbx (h:=xM (h:=Zt (d:=9) rfl (fun g1=>?_) (fun g1=>?_))))))))))))
 try simp only [sQ,ne_eq] at g1
 refine xP (h:=xP (h:=xP (h:=xT (h:=xM (h:=xP (h:=xP (h:=xP (h:=xT (h:=Zc (t:=true) rfl (fun _=>Za (xA (h:=Zi (Zs ?_)))) (fun h=>Bool.noConfusion h))))))))))
 exact Z2 .ret (.inl rfl) [_] t1 ⟨Zn (ZgB oz),rfl,rfl⟩
 try simp only [sQ,ne_eq] at g1
 refine xW Ze3 (h:=x1 lk3 0 (h:=Zae (h:=xF (h:=xM (h:=Zt (d:=14) rfl (fun g2=>?_) (fun g2=>?_))))))
 try simp only [sQ,ne_eq] at g2
 refine xP (h:=xP (h:=xP (h:=xT (h:=Zc (t:=true) rfl (fun _=>Za (xA (h:=Zi (Zs ?_)))) (fun h=>Bool.noConfusion h)))))
 exact Z2 .ret (.inl rfl) [_] t1 ⟨Zn (ZgB oz),rfl,rfl⟩
 try simp only [sQ,ne_eq] at g2
 refine xW Ze3 (h:=x1 lk3 0 (h:=Zbx (h:=xF (h:=Zc rfl (fun g3=>?_) (fun g3=>?_)))))
 try simp only [sQ,ne_eq] at g3
 refine Za (xA (h:=Zi (Zs ?_)))
 exact Z2 .ret (.inl rfl) [_] t1 ⟨Zn (ZgB oz),rfl,rfl⟩
 try simp only [sQ,ne_eq] at g3
 refine Zh (Zf (Zk (Za (xW ZaM (h:=x1 ZfP 0 (h:=xV Tryz.underlying25 (h:=xM (h:=Zo (ZR (α:=Nat) [0,1,18,20,21] (fun k=>[(22,.int .i64 k)]) [] (fun k=>[]) (fun k Bx=>Bx=B∧k≤q.items.length∧(q.items.take k).all ZcB=true) (fun k=>q.items.length - k) 0 t1 rfl (⟨rfl,Nat.zero_le _,by simp⟩) (fun k B2 hle2 hI=>?_))))))))))
 obtain ⟨rfl,hk,ha⟩:=hI
 refine ZP [(0,_),(1,_),(18,_),(20,_),(21,_),(22,_)] [_] t6 rfl (Za (Zae (h:=Zk (Zc rfl (fun g4=>?_) (fun g4=>?_)))))
 try simp only [sQ,ne_eq] at g4
 refine Zh (Zf (Zk (Zo (Za ?_))))
 obtain ⟨x,hx⟩:=Zan (xs:=q.items) (i:=k) om
 obtain ⟨bb4,oo4,rfl⟩:=hq.base hx
 obtain ⟨_,⟨qi5,ci5,rfl,hi5,hb5,hb5b⟩,hc5⟩:=hq.elem hx
 have hi5n:=hi5.len
 refine xIx Tryz.underlying25 ZeA (h:=yL [_,_,_,_] Zl3 hc5 0 (h:=xAl [_,_,_,_] Zi3 (h:=fun b6=>xS [_,_,_,_] 1 [_,_,_,_] ZeA (h:=Zw [_,_] rfl (Za (xW ZnB (h:=x1 lk9 1 (h:=xW ZbM (h:=x1 ZhA 1 (h:=xW Zqv (h:=x1 lk9 1 (h:=xB [(0,_),(1,_),(2,_)] [_,_,_] [_,_,_] ZvC Zuq (h:=?_)))))))))))))
 refine xR ZxJ rfl (Zly _ _ ⟨x.fr,x.left,x.text⟩ _ hi5 oa oa) (h:=?_)
 refine xN (h:=Zc rfl (fun g5=>?_) (fun g5=>?_))
 try simp only [sQ,ne_eq] at g5
 refine Za (xA (h:=Zi (ZM (Zs (Zaa (ZM (Zs ?_)))))))
 exact Z2 .ret (.inl rfl) [_] t1 ⟨Zn (Zmq hx g5),rfl,rfl⟩
 try simp only [sQ,ne_eq] at g5
 refine Zh (Zy (Zf (Zd (xD (h:=xM (h:=?_))))))
 exact ZA (k+1) [0] so2 ⟨rfl,oz,Zvr hx g5 ha⟩ t6 rfl
 try simp only [sQ,ne_eq] at g4
 refine ZU (Zad (ZV (ZF (Zf (Za (xW ZaM (h:=x1 ZfP 0 (h:=xW Ze3 (h:=x1 lk3 0 (h:=xU (h:=xR ZxI rfl (ZmF _ _ _ _ _ hq) (h:=xA (h:=Zi ?_)))))))))))))
 exact Z2 .ret (.inl rfl) [_] t1 ⟨Zn (Zmp oz ha oz oz oz),rfl,rfl⟩

set_option maxHeartbeats 400000 in
theorem ZeX (n:Int) (B:Kn):Za1 (pj J) 132 [.int .i64 n] B (.bool (decide (0≤n) && decide (n≤31))):=by
 refine Ze 5 Tryz.func132 rfl rfl rfl (Nat.le_of_ble_eq_true rfl) ?_
 refine Za (xA (h:=Za (xM (h:=xR ZjP rfl (Zco _ _ _ _) (h:=xA (h:=Zi ?_))))))
 exact Z2 .ret (.inl rfl) [_] t1 ⟨rfl,rfl,rfl⟩

set_option maxHeartbeats 400000 in
theorem ZmE (n:Int) (B:Kn):Za1 (pj J) 151 [.int .i64 n] B (.bool (decide (0≤n) && decide (n≤31))):=by
 refine Ze 9 Tryz.func151 rfl rfl rfl (Nat.le_of_ble_eq_true rfl) ?_
 refine Za (xA (h:=Za (xM (h:=ZdB (h:=xM (h:=Zt (d:=5) rfl (fun g1=>?_) (fun g1=>?_)))))))
 try simp only [sQ,ne_eq] at g1
 refine xM (h:=ZcE (h:=xT (h:=xA (h:=Zi ?_))))
 exact Z2 .ret (.inl rfl) [_] t1 ⟨Zn (by rw [Bool.eq_iff_iff];simp [g1];try omega),rfl,rfl⟩
 try simp only [sQ,ne_eq] at g1
 refine xP (h:=xP (h:=xF (h:=xA (h:=Zi ?_))))
 exact Z2 .ret (.inl rfl) [_] t1 ⟨Zn (by rw [Bool.eq_iff_iff];simp [g1];try omega),rfl,rfl⟩

set_option maxHeartbeats 400000 in
theorem Zp9 (m:DMail) (hm:m.text.length≤2000000) (B:Kn):Za1 (pj J) 91 [.agg #[.int .i64 m.uid,.int .i64 m.flags,str m.text]] B (.bool (ZbG m)):=by
 refine Ze 17 Tryz.func91 rfl rfl rfl (Nat.le_of_ble_eq_true rfl) ?_
 refine Za (xBx [_,_,_] (h:=fun b1=>xA (h:=Zw [_] rfl (Za (xW Ze4 (h:=x1 lk3 0 (h:=xR ZjP rfl (Zco _ _ _ _) (h:=xM (h:=Zt (d:=6) rfl (fun g1=>?_) (fun g1=>?_))))))))))
 try simp only [sQ,ne_eq] at g1
 refine xW ZfT (h:=x1 lk3 0 (h:=xR ZqJ rfl (ZeX _ _) (h:=xT (h:=xM (h:=Zt (d:=11) rfl (fun g2=>?_) (fun g2=>?_))))))
 try simp only [sQ,ne_eq] at g2
 refine xW ZiK (h:=x1 lk9 0 (h:=xVs Tryz.underlying9 (h:=ZcE (h:=xT (h:=xA (h:=Zi ?_))))))
 exact Z2 .ret (.inl rfl) [_] t1 ⟨Zn (by rw [Bool.eq_iff_iff];simp [ZbG,g1,g2];try omega),rfl,rfl⟩
 try simp only [sQ,ne_eq] at g2
 refine xP (h:=xP (h:=xP (h:=xP (h:=xF (h:=xA (h:=Zi ?_))))))
 exact Z2 .ret (.inl rfl) [_] t1 ⟨Zn (by rw [Bool.eq_iff_iff];simp [ZbG,g1,g2];try omega),rfl,rfl⟩
 try simp only [sQ,ne_eq] at g1
 refine xP (h:=xP (h:=xP (h:=xF (h:=xM (h:=xP (h:=xP (h:=xP (h:=xP (h:=xF (h:=xA (h:=Zi ?_)))))))))))
 exact Z2 .ret (.inl rfl) [_] t1 ⟨Zn (by rw [Bool.eq_iff_iff];simp [ZbG,g1];try omega),rfl,rfl⟩

set_option maxHeartbeats 400000 in
theorem Zoz (m:DMail) (hm:m.text.length≤2000000) (B:Kn):Za1 (pj J) 121 [.agg #[.int .i64 m.uid,.int .i64 m.flags,str m.text]] B (.bool (ZbG m)):=by
 refine Ze 22 Tryz.func121 rfl rfl rfl (Nat.le_of_ble_eq_true rfl) ?_
 refine Za (xBx [_,_,_] (h:=fun b1=>xA (h:=Zw [_] rfl (Za (xW Ze4 (h:=x1 lk3 0 (h:=ZdB (h:=xM (h:=Zt (d:=6) rfl (fun g1=>?_) (fun g1=>?_))))))))))
 try simp only [sQ,ne_eq] at g1
 refine xW Ze4 (h:=x1 lk3 0 (h:=ZcE (h:=xT (h:=xM (h:=Zt (d:=11) rfl (fun g2=>?_) (fun g2=>?_))))))
 try simp only [sQ,ne_eq] at g2
 refine xW ZfT (h:=x1 lk3 0 (h:=xR ZwK rfl (ZmE _ _) (h:=xT (h:=xM (h:=Zt (d:=16) rfl (fun g3=>?_) (fun g3=>?_))))))
 try simp only [sQ,ne_eq] at g3
 refine xW ZiK (h:=x1 lk9 0 (h:=xVs Tryz.underlying9 (h:=ZcE (h:=xT (h:=xA (h:=Zi ?_))))))
 exact Z2 .ret (.inl rfl) [_] t1 ⟨Zn (by rw [Bool.eq_iff_iff];simp [ZbG,g1,g2,g3];try omega),rfl,rfl⟩
 try simp only [sQ,ne_eq] at g3
 refine xP (h:=xP (h:=xP (h:=xP (h:=xF (h:=xA (h:=Zi ?_))))))
 exact Z2 .ret (.inl rfl) [_] t1 ⟨Zn (by rw [Bool.eq_iff_iff];simp [ZbG,g1,g2,g3];try omega),rfl,rfl⟩
 try simp only [sQ,ne_eq] at g2
 refine xP (h:=xP (h:=xP (h:=xF (h:=xM (h:=xP (h:=xP (h:=xP (h:=xP (h:=xF (h:=xA (h:=Zi ?_)))))))))))
 exact Z2 .ret (.inl rfl) [_] t1 ⟨Zn (by rw [Bool.eq_iff_iff];simp [ZbG,g1,g2];try omega),rfl,rfl⟩
 try simp only [sQ,ne_eq] at g1
 refine xP (h:=xP (h:=xP (h:=xF (h:=xM (h:=xP (h:=xP (h:=xP (h:=xF (h:=xM (h:=xP (h:=xP (h:=xP (h:=?_)))))))))))))
 refine xP (h:=xF (h:=xA (h:=Zi ?_)))
 exact Z2 .ret (.inl rfl) [_] t1 ⟨Zn (by rw [Bool.eq_iff_iff];simp [ZbG,g1];try omega),rfl,rfl⟩

set_option maxHeartbeats 400000 in
theorem Zga (q:Option Addr) (cp:Nat) (x:DBox) (B:Kn) (hx:SlK B q cp 3 ZD x.mail):Za1 (pj J) 61 [.agg #[.int .i64 x.next,.slice q x.mail.length cp]] B (.bool (Zbl x)):=by
 refine Ze 46 Tryz.func61 rfl rfl rfl (Nat.le_of_ble_eq_true rfl) ?_
 have hxn:=hx.len
 refine Za (xBx [_,_] (h:=fun b1=>xA (h:=Zw [_] rfl (Za (xA (h:=Zk (Za (xA (h:=Zo (ZR (α:=Nat × Int) [0,1] (fun g=>[(3,.int .i64 g.2),(4,.int .i64 g.1)]) [] (fun g=>[]) (fun g Bx=>Bx=B∧g.1≤x.mail.length∧Zch (x.mail.take g.1)=(true,g.2)∧0≤g.2∧g.2≤99) (fun g=>x.mail.length - g.1) (0,0) t2 rfl (⟨rfl,Nat.zero_le _,ZeM,oz,oz⟩) (fun g B2 hle2 hI=>?_)))))))))))
 obtain ⟨rfl,hk,hs,hl0,hl1⟩:=hI
 refine ZP [(0,_),(1,_),(3,_),(4,_)] [_] t4 rfl (Zk (Za (xM (h:=xW ZaL (h:=x1 Zfo 0 (h:=xV Tryz.underlying37 (h:=Zae (h:=Zc rfl (fun g1=>?_) (fun g1=>?_)))))))))
 try simp only [sQ,ne_eq] at g1
 refine Zh (Zf (Zk (Zo (Zk (Za (xW ZaL (h:=x1 Zfo 0 (h:=xM (h:=?_)))))))))
 obtain ⟨m,hm⟩:=Zan (xs:=x.mail) (i:=g.1) om
 obtain ⟨bb4,oo4,rfl⟩:=hx.base hm
 obtain ⟨_,⟨rfl,hb5⟩,hc5⟩:=hx.elem hm
 refine xIx Tryz.underlying37 Zcv (h:=yL [_,_,_] Zln hc5 0 (h:=xR ZxB rfl (Zp9 m om2 _) (h:=?_)))
 refine xN (h:=xM (h:=Zt (d:=19) rfl (fun g2=>?_) (fun g2=>?_)))
 try simp only [sQ,ne_eq] at g2
 refine xP (h:=xP (h:=xP (h:=xP (h:=xP (h:=xP (h:=xP (h:=xP (h:=xT (h:=Zc (t:=true) rfl (fun _=>Za (xA (h:=Zi (Zs (ZM (Zs (Zaa (ZM (Zs ?_))))))))) (fun h=>Bool.noConfusion h))))))))))
 exact Z2 .ret (.inl rfl) [_] t1 ⟨Zn (Zgr (ZfJ hm (by rw [show (scn ZbQ (fun _ m=>m.uid) 0 (x.mail.take g.1)).2=g.2 from congrArg Prod.snd hs];simp [ZbQ,g2]))).symm,rfl,rfl⟩
 try simp only [sQ,ne_eq] at g2
 refine xW ZaL (h:=x1 Zfo 0 (h:=xM (h:=xIx Tryz.underlying37 Zcv (h:=xW Ze4 (h:=y1 lk3 hc5 0 (h:=xM (h:=ZcE (h:=xF (h:=Zc rfl (fun g3=>?_) (fun g3=>?_))))))))))
 try simp only [sQ,ne_eq] at g3
 refine Za (xA (h:=Zi (Zs (ZM (Zs (Zaa (ZM (Zs ?_))))))))
 exact Z2 .ret (.inl rfl) [_] t1 ⟨Zn (Zgr (ZfJ hm (by rw [show (scn ZbQ (fun _ m=>m.uid) 0 (x.mail.take g.1)).2=g.2 from congrArg Prod.snd hs];simp [ZbQ,g2];omega))).symm,rfl,rfl⟩
 try simp only [sQ,ne_eq] at g3
 refine Zh (Zf (Zd (xW ZaL (h:=x1 Zfo 0 (h:=xM (h:=xIx Tryz.underlying37 Zcv (h:=xW Ze4 (h:=y1 lk3 hc5 0 (h:=xA (h:=Zy (Zf (Zd (xM (h:=?_))))))))))))))
 refine xD (h:=xA (h:=?_))
 exact ZA (g.1+1,m.uid) [0] so2 ⟨rfl,oz,Zcg hm hs (by simp [ZbQ,g2];omega),ZjE g2⟩ t4 rfl
 try simp only [sQ,ne_eq] at g1
 refine ZU (Zad (ZV (ZF (Zf (Za (xW Zcf (h:=x1 lk3 0 (h:=xM (h:=xD (h:=xR ZjP rfl (Zco _ _ _ _) (h:=xM (h:=Zt (d:=40) rfl (fun g4=>?_) (fun g4=>?_)))))))))))))
 try simp only [sQ,ne_eq] at g4
 refine xW ZaL (h:=x1 Zfo 0 (h:=xV Tryz.underlying37 (h:=ZcE (h:=xT (h:=xA (h:=Zi ?_))))))
 exact Z2 .ret (.inl rfl) [_] t1 ⟨Zn (by rw [Zdu (ZdP hs oz),g4,Bool.true_and,Bool.eq_iff_iff];simp;omega),rfl,rfl⟩
 try simp only [sQ,ne_eq] at g4
 refine xP (h:=xP (h:=xP (h:=xP (h:=xF (h:=xA (h:=Zi ?_))))))
 exact Z2 .ret (.inl rfl) [_] t1 ⟨Zn (by rw [Zdu (ZdP hs oz),g4,Bool.false_and]),rfl,rfl⟩

set_option maxHeartbeats 400000 in
theorem ZlA (q:Option Addr) (cp:Nat) (x:DBox) (B:Kn) (hx:SlK B q cp 3 ZD x.mail):Za1 (pj J) 85 [.agg #[.int .i64 x.next,.slice q x.mail.length cp]] B (.bool (Zbl x)):=by
 refine Ze 38 Tryz.func85 rfl rfl rfl (Nat.le_of_ble_eq_true rfl) ?_
 have hxn:=hx.len
 refine Za (xBx [_,_] (h:=fun b1=>xA (h:=Zw [_] rfl (Zk (Za (xW ZaL (h:=x1 Zfo 0 (h:=xV Tryz.underlying37 (h:=Zbx (h:=Zc rfl (fun g0=>?_) (fun g0=>?_)))))))))))
 try simp only [sQ,ne_eq] at g0
 refine Za (xA (h:=Zi (Zs ?_)))
 exact Z2 .ret (.inl rfl) [_] t1 ⟨Zn (by simp [Zbl];omega),rfl,rfl⟩
 try simp only [sQ,ne_eq] at g0
 refine Zh (Zf (Za (xA (h:=Zk (Za (xW ZaL (h:=x1 Zfo 0 (h:=xV Tryz.underlying37 (h:=xM (h:=Zo (ZR (α:=Nat × Int) [0,1,9,11,12] (fun g=>[(3,.int .i64 g.2),(13,.int .i64 g.1)]) [] (fun g=>[]) (fun g Bx=>Bx=B∧g.1≤x.mail.length∧Zch (x.mail.take g.1)=(true,g.2)∧0≤g.2∧g.2≤99) (fun g=>x.mail.length - g.1) (0,0) t2 rfl (⟨rfl,Nat.zero_le _,ZeM,oz,oz⟩) (fun g B2 hle2 hI=>?_))))))))))))
 obtain ⟨rfl,hk,hs,hl0,hl1⟩:=hI
 refine ZP [(0,_),(1,_),(3,_),(9,_),(11,_),(12,_),(13,_)] [_] t7 rfl (Za (Zae (h:=Zk (Zc rfl (fun g1=>?_) (fun g1=>?_)))))
 try simp only [sQ,ne_eq] at g1
 refine Zh (Zf (Zk (Zo (Za ?_))))
 obtain ⟨m,hm⟩:=Zan (xs:=x.mail) (i:=g.1) om
 obtain ⟨bb4,oo4,rfl⟩:=hx.base hm
 obtain ⟨_,⟨rfl,hb5⟩,hc5⟩:=hx.elem hm
 refine xIx Tryz.underlying37 Zcv (h:=yL [_,_,_] Zln hc5 0 (h:=xAl [_,_,_] Zfy (h:=fun b6=>xS [_,_,_] 1 [_,_,_] Zcv (h:=Zw [_,_] rfl (Zk (Za (xL [_,_,_] Zln 1 (h:=xR ZwU rfl (Zoz m om2 _) (h:=?_)))))))))
 refine xN (h:=xM (h:=Zt (d:=20) rfl (fun g2=>?_) (fun g2=>?_)))
 try simp only [sQ,ne_eq] at g2
 refine xP (h:=xP (h:=xP (h:=xP (h:=xT (h:=Zc (t:=true) rfl (fun _=>Za (xA (h:=Zi (Zs (ZM (Zs (Zaa (ZM (Zs ?_))))))))) (fun h=>Bool.noConfusion h))))))
 exact Z2 .ret (.inl rfl) [_] t1 ⟨Zn (Zgr (ZfJ hm (by rw [show (scn ZbQ (fun _ m=>m.uid) 0 (x.mail.take g.1)).2=g.2 from congrArg Prod.snd hs];simp [ZbQ,g2]))).symm,rfl,rfl⟩
 try simp only [sQ,ne_eq] at g2
 refine xW Ze4 (h:=x1 lk3 1 (h:=xM (h:=ZcE (h:=xF (h:=Zc rfl (fun g3=>?_) (fun g3=>?_))))))
 try simp only [sQ,ne_eq] at g3
 refine Za (xA (h:=Zi (Zs (ZM (Zs (Zaa (ZM (Zs ?_))))))))
 exact Z2 .ret (.inl rfl) [_] t1 ⟨Zn (Zgr (ZfJ hm (by rw [show (scn ZbQ (fun _ m=>m.uid) 0 (x.mail.take g.1)).2=g.2 from congrArg Prod.snd hs];simp [ZbQ,g2];omega))).symm,rfl,rfl⟩
 try simp only [sQ,ne_eq] at g3
 refine Zh (Zf (Zd (xW Ze4 (h:=x1 lk3 1 (h:=xA (h:=Zy (Zf (Zd (xD (h:=xM (h:=?_)))))))))))
 exact ZA (g.1+1,m.uid) [0] so2 ⟨rfl,oz,Zcg hm hs (by simp [ZbQ,g2];omega),ZjE g2⟩ t7 rfl
 try simp only [sQ,ne_eq] at g1
 refine ZU (Zad (ZV (ZF (Zf (Za (xW Zcf (h:=x1 lk3 0 (h:=xM (h:=Zbx (h:=xM (h:=Zt (d:=33) rfl (fun g4=>?_) (fun g4=>?_))))))))))))
 try simp only [sQ,ne_eq] at g4
 refine xW Zcf (h:=x1 lk3 0 (h:=ZcE (h:=xT (h:=xA (h:=Zi ?_)))))
 exact Z2 .ret (.inl rfl) [_] t1 ⟨Zn (by rw [Zdu (ZdP hs oz),Bool.eq_iff_iff];simp;omega),rfl,rfl⟩
 try simp only [sQ,ne_eq] at g4
 refine xP (h:=xP (h:=xP (h:=xF (h:=xA (h:=Zi ?_)))))
 exact Z2 .ret (.inl rfl) [_] t1 ⟨Zn (by rw [Zdu (ZdP hs oz),Bool.eq_iff_iff];simp;omega),rfl,rfl⟩

set_option maxHeartbeats 400000 in
theorem Zp8 (q:Option Addr) (cp:Nat) (x:DBox) (B:Kn) (hx:SlK B q cp 3 ZD x.mail):Za1 (pj J) 63 [.agg #[.int .i64 x.next,.slice q x.mail.length cp]] B (.int .i64 (Zap x.mail)):=by
 refine Ze 22 Tryz.func63 rfl rfl rfl (Nat.le_of_ble_eq_true rfl) ?_
 have hxn:=hx.len
 refine Za (xBx [_,_] (h:=fun b1=>xA (h:=Zw [_] rfl (Za (xA (h:=Zk (Za (xA (h:=Zo (ZR (α:=Nat × Nat) [0,1,2] (fun g=>[(3,.int .i64 g.2),(4,.int .i64 g.1)]) [] (fun g=>[]) (fun g Bx=>Bx=B∧g.1≤x.mail.length∧g.2=Zap (x.mail.take g.1)∧g.2≤g.1*2000000) (fun g=>x.mail.length - g.1) (0,0) t2 rfl (⟨rfl,Nat.zero_le _,by simp [Zap],oz⟩) (fun g B2 hle2 hI=>?_)))))))))))
 obtain ⟨rfl,hk,hs,hl⟩:=hI
 refine ZP [(0,_),(1,_),(2,_),(3,_),(4,_)] [_] t5 rfl (Zk (Za (xM (h:=xW ZaL (h:=x1 Zfo 0 (h:=xV Tryz.underlying37 (h:=Zae (h:=Zc rfl (fun g1=>?_) (fun g1=>?_)))))))))
 try simp only [sQ,ne_eq] at g1
 refine Zh (Zf (Zk (Zo (Zd (xM (h:=xW ZaL (h:=x1 Zfo 0 (h:=xM (h:=?_)))))))))
 obtain ⟨m,hm⟩:=Zan (xs:=x.mail) (i:=g.1) om
 obtain ⟨bb4,oo4,rfl⟩:=hx.base hm
 obtain ⟨_,⟨rfl,hb5⟩,hc5⟩:=hx.elem hm
 refine xIx Tryz.underlying37 Zcv (h:=xW ZiK (h:=y1 lk9 hc5 2 (h:=xVs Tryz.underlying9 (h:=xD (h:=xA (h:=Zy (Zf (Zd (xM (h:=xD (h:=xA (h:=?_))))))))))))
 exact ZA (g.1+1,g.2+m.text.length) [0] so2 ⟨rfl,oz,by rw [Zh4 hm,← hs],oz⟩ t5 rfl
 try simp only [sQ,ne_eq] at g1
 refine ZU (Zad (ZV (ZF (Zf (Za (xM (h:=xA (h:=Zi ?_))))))))
 exact Z2 .ret (.inl rfl) [_] t1 ⟨ZaW (by rw [← Zjs hs oz]),rfl,rfl⟩

set_option maxHeartbeats 400000 in
theorem ZqU (q:Option Addr) (cp:Nat) (x:DBox) (B:Kn) (hx:SlK B q cp 3 ZD x.mail):Za1 (pj J) 153 [.agg #[.int .i64 x.next,.slice q x.mail.length cp]] B (.int .i64 (ZdW x)):=by
 refine Ze 23 Tryz.func153 rfl rfl rfl (Nat.le_of_ble_eq_true rfl) ?_
 have hxn:=hx.len
 refine Za (xBx [_,_] (h:=fun b1=>xA (h:=Zw [_] rfl (Zk (Za (xL [_,_] ZbD 0 (h:=xR Zw8 rfl (ZlA _ _ (⟨x.next,x.mail⟩:DBox) _ hx) (h:=xN (h:=Zc rfl (fun g0=>?_) (fun g0=>?_))))))))))
 try simp only [sQ,ne_eq] at g0
 refine Za (xA (h:=Zi (Zs ?_)))
 exact Z2 .ret (.inl rfl) [_] t1 ⟨ZaW (by simp [ZdW,g0]),rfl,rfl⟩
 try simp only [sQ,ne_eq] at g0
 refine Zh (Zf (Za (xA (h:=Zk (Za (xW ZaL (h:=x1 Zfo 0 (h:=xV Tryz.underlying37 (h:=xM (h:=Zo (ZR (α:=Nat × Nat) [0,1,2,8,10,11] (fun g=>[(3,.int .i64 g.2),(12,.int .i64 g.1)]) [] (fun g=>[]) (fun g Bx=>Bx=B∧g.1≤x.mail.length∧g.2=Zap (x.mail.take g.1)∧g.2≤g.1*2000000) (fun g=>x.mail.length - g.1) (0,0) t2 rfl (⟨rfl,Nat.zero_le _,by simp [Zap],oz⟩) (fun g B3 hle3 hI=>?_))))))))))))
 obtain ⟨rfl,hk,hs,hl⟩:=hI
 refine ZP [(0,_),(1,_),(2,_),(3,_),(8,_),(10,_),(11,_),(12,_)] [_] t8 rfl (Za (Zae (h:=Zk (Zc rfl (fun g1=>?_) (fun g1=>?_)))))
 try simp only [sQ,ne_eq] at g1
 refine Zh (Zf (Zk (Zo (Za ?_))))
 obtain ⟨m,hm⟩:=Zan (xs:=x.mail) (i:=g.1) om
 obtain ⟨bb5,oo5,rfl⟩:=hx.base hm
 obtain ⟨_,⟨rfl,hb6⟩,hc6⟩:=hx.elem hm
 refine xIx Tryz.underlying37 Zcv (h:=yL [_,_,_] Zln hc6 0 (h:=xAl [_,_,_] Zfy (h:=fun b7=>xS [_,_,_] 1 [_,_,_] Zcv (h:=Zw [_,_] rfl (Zd (xM (h:=xW ZiK (h:=x1 lk9 1 (h:=xVs Tryz.underlying9 (h:=xD (h:=xA (h:=Zy (Zf ?_)))))))))))))
 refine Zd (xD (h:=xM (h:=?_)))
 exact ZA (g.1+1,g.2+m.text.length) [0] so2 ⟨rfl,oz,by rw [Zh4 hm,← hs],oz⟩ t8 rfl
 try simp only [sQ,ne_eq] at g1
 refine ZU (Zad (ZV (ZF (Zf (Za (xM (h:=xA (h:=Zi ?_))))))))
 exact Z2 .ret (.inl rfl) [_] t1 ⟨ZaW (by rw [ZdW,if_pos g0,← Zjs hs oz]),rfl,rfl⟩

set_option maxHeartbeats 400000 in
theorem Zry (n:Int) (B:Kn):Za1 (pj J) 69 [.int .i64 n] B (.bool (decide (0≤n) && decide (n≤63))):=by
 refine Ze 9 Tryz.func69 rfl rfl rfl (Nat.le_of_ble_eq_true rfl) ?_
 refine Za (xA (h:=Za (xM (h:=ZdB (h:=xM (h:=Zt (d:=5) rfl (fun g1=>?_) (fun g1=>?_)))))))
 try simp only [sQ,ne_eq] at g1
 refine xM (h:=ZcE (h:=xT (h:=xA (h:=Zi ?_))))
 exact Z2 .ret (.inl rfl) [_] t1 ⟨Zn (by rw [Bool.eq_iff_iff];simp [g1];try omega),rfl,rfl⟩
 try simp only [sQ,ne_eq] at g1
 refine xP (h:=xP (h:=xF (h:=xA (h:=Zi ?_))))
 exact Z2 .ret (.inl rfl) [_] t1 ⟨Zn (by rw [Bool.eq_iff_iff];simp [g1];try omega),rfl,rfl⟩

set_option maxHeartbeats 400000 in
theorem Zl9 (u:DUser) (h1:u.name.length≤2000000) (h2:u.pass.length≤2000000) (B:Kn):Za1 (pj J) 77 [.agg #[str u.name,str u.pass,.int .i64 u.quota]] B (.bool (Zcu u)):=by
 refine Ze 26 Tryz.func77 rfl rfl rfl (Nat.le_of_ble_eq_true rfl) ?_
 refine Za (xBx [_,_,_] (h:=fun b1=>xA (h:=Zw [_] rfl (Za (xW Zc0 (h:=x1 lk9 0 (h:=xR Zs4 rfl (Zcp _ om2 _) (h:=?_))))))))
 refine xM (h:=Zt (d:=6) rfl (fun g1=>?_) (fun g1=>?_))
 try simp only [sQ,ne_eq] at g1
 refine xW Zc0 (h:=x1 lk9 0 (h:=Zjg (h:=xT (h:=xM (h:=Zt (d:=11) rfl (fun g2=>?_) (fun g2=>?_))))))
 try simp only [sQ,ne_eq] at g2
 refine xW Zqw (h:=x1 lk9 0 (h:=xR Zs4 rfl (Zcp _ om2 _) (h:=?_)))
 refine xT (h:=xM (h:=Zt (d:=16) rfl (fun g3=>?_) (fun g3=>?_)))
 try simp only [sQ,ne_eq] at g3
 refine xW ZiI (h:=x1 lk3 0 (h:=ZdB (h:=xT (h:=xM (h:=Zt (d:=21) rfl (fun g4=>?_) (fun g4=>?_))))))
 try simp only [sQ,ne_eq] at g4
 refine xW ZiI (h:=x1 lk3 0 (h:=ZcE (h:=xT (h:=xA (h:=Zi ?_)))))
 exact Z2 .ret (.inl rfl) [_] t1 ⟨Zn (by rw [Bool.eq_iff_iff];simp [Zcu,anyone,g1,g2,g3,g4];try omega),rfl,rfl⟩
 try simp only [sQ,ne_eq] at g4
 refine xP (h:=xP (h:=xP (h:=xF (h:=xA (h:=Zi ?_)))))
 exact Z2 .ret (.inl rfl) [_] t1 ⟨Zn (by rw [Bool.eq_iff_iff];simp [Zcu,anyone,g1,g2,g3,g4];try omega),rfl,rfl⟩
 try simp only [sQ,ne_eq] at g3
 refine xP (h:=xP (h:=xP (h:=xF (h:=xM (h:=xP (h:=xP (h:=xP (h:=xF (h:=xA (h:=Zi ?_))))))))))
 exact Z2 .ret (.inl rfl) [_] t1 ⟨Zn (by rw [Bool.eq_iff_iff];simp [Zcu,anyone,g1,g2,g3];try omega),rfl,rfl⟩
 try simp only [sQ,ne_eq] at g2
 refine xP (h:=xP (h:=xP (h:=xF (h:=xM (h:=xP (h:=xP (h:=xP (h:=xF (h:=xM (h:=xP (h:=xP (h:=xP (h:=?_)))))))))))))
 refine xF (h:=xA (h:=Zi ?_))
 exact Z2 .ret (.inl rfl) [_] t1 ⟨Zn (by rw [Bool.eq_iff_iff];simp [Zcu,anyone,g1,g2];try omega),rfl,rfl⟩
 try simp only [sQ,ne_eq] at g1
 refine xP (h:=xP (h:=xP (h:=xF (h:=xM (h:=xP (h:=xP (h:=xP (h:=xF (h:=xM (h:=xP (h:=xP (h:=xP (h:=?_)))))))))))))
 refine xF (h:=xM (h:=xP (h:=xP (h:=xP (h:=xF (h:=xA (h:=Zi ?_)))))))
 exact Z2 .ret (.inl rfl) [_] t1 ⟨Zn (by rw [Bool.eq_iff_iff];simp [Zcu,anyone,g1];try omega),rfl,rfl⟩

set_option maxHeartbeats 400000 in
theorem Zix (q:Option Addr) (cp:Nat) (us:List DUser) (B:Kn) (hu:SlK B q cp 3 Zg us):Za1 (pj J) 47 [.slice q us.length cp] B (.bool (Zaw us)):=by
 refine Ze 32 Tryz.func47 rfl rfl rfl (Nat.le_of_ble_eq_true rfl) ?_
 have hun:=hu.len
 refine Za (xA (h:=Zk (Za (xM (h:=xV Tryz.underlying23 (h:=Zae (h:=xM (h:=Zt (d:=9) rfl (fun g0=>?_) (fun g0=>?_)))))))))
 try simp only [sQ,ne_eq] at g0
 refine xP (h:=xP (h:=xP (h:=xT (h:=Zc (t:=true) rfl (fun _=>Za (xA (h:=Zi (Zs ?_)))) (fun h=>Bool.noConfusion h)))))
 exact Z2 .ret (.inl rfl) [_] t1 ⟨Zn (by rw [Bool.eq_iff_iff];simp [Zaw];omega),rfl,rfl⟩
 try simp only [sQ,ne_eq] at g0
 refine xM (h:=xV Tryz.underlying23 (h:=Zbx (h:=xF (h:=Zc rfl (fun g0b=>?_) (fun g0b=>?_)))))
 try simp only [sQ,ne_eq] at g0b
 refine Za (xA (h:=Zi (Zs ?_)))
 exact Z2 .ret (.inl rfl) [_] t1 ⟨Zn (by rw [Bool.eq_iff_iff];simp [Zaw];omega),rfl,rfl⟩
 try simp only [sQ,ne_eq] at g0b
 refine Zh (Zf (Za (xA (h:=Zk (Za (xM (h:=xV Tryz.underlying23 (h:=xM (h:=Zo (ZR (α:=Nat × Str) [0,13,14,15] (fun g=>[(3,str g.2),(16,.int .i64 g.1)]) [] (fun g=>[]) (fun g Bx=>Bx=B∧g.1≤us.length∧ZdE (us.take g.1)=(true,g.2)∧g.2.length≤2000000) (fun g=>us.length - g.1) (0,[]) t2 rfl (⟨rfl,Nat.zero_le _,ZeM,by simp⟩) (fun g B1 hle1 hI=>?_)))))))))))
 obtain ⟨rfl,hk,hs,hl⟩:=hI
 refine ZP [(0,_),(3,_),(13,_),(14,_),(15,_),(16,_)] [] t6 rfl (Za (Zae (h:=Zk (Zc rfl (fun g1=>?_) (fun g1=>?_)))))
 try simp only [sQ,ne_eq] at g1
 refine Zh (Zf (Zk (Zo (Za ?_))))
 obtain ⟨m,hm⟩:=Zan (xs:=us) (i:=g.1) om
 obtain ⟨bb3,oo3,rfl⟩:=hu.base hm
 obtain ⟨_,⟨rfl,hb4,hb4b⟩,hc4⟩:=hu.elem hm
 refine xIx Tryz.underlying23 ZeJ (h:=yL [_,_,_] Zo0 hc4 0 (h:=xAl [_,_,_] Zgw (h:=fun b5=>xS [_,_,_] 0 [_,_,_] ZeJ (h:=Zw [_] rfl (Zk (Za (xL [_,_,_] Zo0 0 (h:=xR ZxK rfl (Zl9 m om2 om2 _) (h:=?_)))))))))
 refine xN (h:=xM (h:=Zt (d:=23) rfl (fun g2=>?_) (fun g2=>?_)))
 try simp only [sQ,ne_eq] at g2
 refine xP (h:=xP (h:=xP (h:=xP (h:=xT (h:=Zc (t:=true) rfl (fun _=>Za (xA (h:=Zi (Zs (ZM (Zs (Zaa (ZM (Zs ?_))))))))) (fun h=>Bool.noConfusion h))))))
 exact Z2 .ret (.inl rfl) [_] t1 ⟨Zn (ZfB (ZfJ hm (by rw [show (scn Zdl (fun _ u=>u.name) [] (us.take g.1)).2=g.2 from congrArg Prod.snd hs];simp [Zdl,g2]))).symm,rfl,rfl⟩
 try simp only [sQ,ne_eq] at g2
 refine xW Zc0 (h:=x1 lk9 0 (h:=xM (h:=Zp (ZsV rfl rfl rfl rfl (xF (h:=Zc rfl (fun g3=>?_) (fun g3=>?_)))))))
 try simp only [sQ,ne_eq] at g3
 refine Za (xA (h:=Zi (Zs (ZM (Zs (Zaa (ZM (Zs ?_))))))))
 exact Z2 .ret (.inl rfl) [_] t1 ⟨Zn (ZfB (ZfJ hm (by rw [show (scn Zdl (fun _ u=>u.name) [] (us.take g.1)).2=g.2 from congrArg Prod.snd hs,Zdl,Zbq g.2 m.name,g3];simp))).symm,rfl,rfl⟩
 try simp only [sQ,ne_eq] at g3
 refine Zh (Zf (Zd (xW Zc0 (h:=x1 lk9 0 (h:=xA (h:=Zy (Zf (Zd (xD (h:=xM (h:=?_)))))))))))
 exact ZA (g.1+1,m.name) [] so2 ⟨rfl,oz,Zcg hm hs (by rw [Zdl,Zbq g.2 m.name,g2,g3];rfl),oy⟩ t6 rfl
 try simp only [sQ,ne_eq] at g1
 refine ZU (Zad (ZV (ZF (Zf (Za (xA (h:=Zi ?_)))))))
 exact Z2 .ret (.inl rfl) [_] t1 ⟨Zn (by rw [ZhU (ZdP hs oz),Bool.eq_iff_iff];simp;omega),rfl,rfl⟩

set_option maxHeartbeats 400000 in
theorem ZkR (x:DUser) (u:Str) (b:Nat) (h1:x.name.length≤2000000) (h2:u.length≤2000000) (B:Kn) (hb:Zbv B b 0 [str u]):Za1 (pj J) 130 [.agg #[str x.name,str x.pass,.int .i64 x.quota],ptr ⟨b,0,none⟩] B (.bool (decide (x.name=u))):=by
 refine Ze 8 Tryz.func130 rfl rfl rfl (Nat.le_of_ble_eq_true rfl) ?_
 refine Za (xBx [_,_,_] (h:=fun b1=>xA (h:=Zw [_] rfl (Za (xW Zc0 (h:=x1 lk9 0 (h:=Zp (Zl rfl rfl lk9 rfl (hb _ 0 _ rfl) (ZcF (h:=xA (h:=Zi ?_)))))))))))
 exact Z2 .ret (.inl rfl) [_] t1 ⟨rfl,rfl,rfl⟩

set_option maxHeartbeats 400000 in
theorem ZqC (q:Option Addr) (cp:Nat) (us:List DUser) (F:FuncId) (cap:Array Value) (t:DUser→Bool) (B:Kn) (hu:SlK B q cp 3 Zg us) (he:enters (pj J) F=true) (hF :∀x:DUser,x.name.length≤2000000→x.pass.length≤2000000→Za1 (pj J) F ([.agg #[str x.name,str x.pass,.int .i64 x.quota]] ++ cap.toList) B (.bool (t x))):Za1 (pj J) 129 [.slice q us.length cp,.func (.func F) #[] cap] B (.tuple #[.agg #[str (ZfV t us).1.name,str (ZfV t us).1.pass,.int .i64 (ZfV t us).1.quota],.bool (ZfV t us).2]):=by
 refine Ze 21 Tryz.func129 rfl rfl rfl (Nat.le_of_ble_eq_true rfl) ?_
 have hun:=hu.len
 refine Za (xAl [_,_,_] Zgw (h:=fun b1=>xA (h:=Zw [_] rfl (Zk (Za (xM (h:=xV Tryz.underlying23 (h:=xM (h:=Zo (ZR (α:=Nat) [0,1,4,9,10] (fun k=>[(11,.int .i64 k)]) [] (fun k=>[]) (fun k Bx=>Bx=B∧k≤us.length∧∀y,y∈us.take k→t y=false) (fun k=>us.length - k) 0 t1 rfl (⟨rfl,Nat.zero_le _,by simp⟩) (fun k B2 hle2 hI=>?_)))))))))))
 obtain ⟨rfl,hk,ha⟩:=hI
 refine ZP [(0,_),(1,_),(4,_),(9,_),(10,_),(11,_)] [_] t6 rfl (Za (Zae (h:=Zk (Zc rfl (fun g1=>?_) (fun g1=>?_)))))
 try simp only [sQ,ne_eq] at g1
 refine Zh (Zf (Zk (Zo (Za ?_))))
 obtain ⟨m,hm⟩:=Zan (xs:=us) (i:=k) om
 obtain ⟨bb4,oo4,rfl⟩:=hu.base hm
 obtain ⟨_,⟨rfl,hb5,hb5b⟩,hc5⟩:=hu.elem hm
 refine xIx Tryz.underlying23 ZeJ (h:=yL [_,_,_] Zo0 hc5 0 (h:=xAl [_,_,_] Zgw (h:=fun b6=>xS [_,_,_] 1 [_,_,_] ZeJ (h:=Zw [_,_] rfl (Za (xM (h:=xL [_,_,_] Zo0 1 (h:=Zp (ZsQ rfl rfl he rfl rfl (hF m om2 om2) ?_)))))))))
 refine Zc rfl (fun g2=>?_) (fun g2=>?_)
 try simp only [sQ,ne_eq] at g2
 refine Za (xL [_,_,_] Zo0 1 (h:=xS [_,_,_] 0 [_,_,_] ZeJ (h:=xA (h:=Zw [_,_] rfl (Zi (ZM (Zs (Zaa (ZM (Zs ?_))))))))))
 exact Z2 .ret (.inl rfl) [_,_] ⟨⟨_,rfl,.inr ⟨[_,_,_],Zo0,Zaj 0 rfl rfl rfl,rfl⟩⟩,rfl,trivial⟩ ⟨by rw [ZqB hm g2 ha];rfl,rfl,rfl⟩
 try simp only [sQ,ne_eq] at g2
 refine Zh (Zy (Zf (Zd (xD (h:=xM (h:=?_))))))
 exact ZA (k+1) [0] so2 ⟨rfl,oz,Zbo hm ha g2⟩ t6 rfl
 try simp only [sQ,ne_eq] at g1
 refine ZU (Zad (ZV (ZF (Zf (Za (xAl [_,_,_] Zgw (h:=fun b8=>Zw [_,_] rfl (Za (xL [_,_,_] Zo0 1 (h:=xS [_,_,_] 0 [_,_,_] ZeJ (h:=xA (h:=Zw [_,_] rfl (Zi ?_)))))))))))))
 exact Z2 .ret (.inl rfl) [_,_] ⟨⟨_,rfl,.inr ⟨[_,_,_],Zo0,Zaj 0 rfl rfl rfl,rfl⟩⟩,rfl,trivial⟩ ⟨by rw [ZoL (ZbA oz ha)];rfl,rfl,rfl⟩

set_option maxHeartbeats 400000 in
theorem ZhW (q:Option Addr) (cp:Nat) (us:List DUser) (nm:Str) (hn:nm.length≤2000000) (B:Kn) (hu:SlK B q cp 3 Zg us):Za1 (pj J) 89 [.slice q us.length cp,str nm] B (.tuple #[.agg #[str (ZaX us nm).1.name,str (ZaX us nm).1.pass,.int .i64 (ZaX us nm).1.quota],.bool (ZaX us nm).2]):=by
 refine Ze 15 Tryz.func89 rfl rfl rfl (Nat.le_of_ble_eq_true rfl) ?_
 have hun:=hu.len
 refine Za (xBx [_] (h:=fun b1=>xAl [_,_,_] Zgw (h:=fun b2=>xA (h:=Zw [_,_] rfl (Zk (Za (xM (h:=xR Zxc rfl (Zix _ _ _ _ hu) (h:=xN (h:=Zc rfl (fun g0=>?_) (fun g0=>?_)))))))))))
 try simp only [sQ,ne_eq] at g0
 refine Za (xB [] [_,_,_] [_,_,_] ZrG Zgw (h:=xS [_,_,_] 1 [_,_,_] ZeJ (h:=xA (h:=Zw [_,_] rfl (Zi (Zs ?_))))))
 exact Z2 .ret (.inl rfl) [_,_] ⟨⟨_,rfl,.inr ⟨[_,_,_],Zo0,Zaj 1 rfl rfl rfl,rfl⟩⟩,rfl,trivial⟩ ⟨by rw [ZaX,g0];rfl,rfl,rfl⟩
 try simp only [sQ,ne_eq] at g0
 refine Zh (Zf (Za (xM (h:=Zp (Zgx (xs:=[]) (ys:=[_]) rfl rfl rfl rfl (Zp (ZhR 0 rfl rfl rfl ZwR rfl (Za1.borrow fun hm=>ZqC _ _ us 130 _ (fun y=>decide (y.name=nm)) _ (hu.mono Zg.mono (Kn.le_add _ _)) ZwP (fun y h1 h2=>ZkR y nm _ h1 hn _ (Zj5 hm))) (xE (h:=xE (h:=xS [_,_,_] 1 [_,_,_] ZeJ (h:=xA (h:=Zw [_,_] rfl (Zi ?_)))))))))))))
 exact Z2 .ret (.inl rfl) [_,_] ⟨⟨_,rfl,.inr ⟨[_,_,_],Zo0,Zaj 1 rfl rfl rfl,rfl⟩⟩,rfl,trivial⟩ ⟨by rw [ZaX,if_pos g0];rfl,rfl,rfl⟩

set_option maxHeartbeats 400000 in
theorem ZhD (b o:Nat) (q1 q2 q3:Option Addr) (c1 c2 c3:Nat) (x:DHost) (nm:Str) (hn:nm.length≤2000000) (B:Kn) (hh:Zbv B b o [str x.domain,.slice q1 x.users.length c1,.slice q2 x.folders.length c2,.int .i64 x.queue.next,.slice q3 x.queue.items.length c3]) (hu:SlK B q1 c1 3 Zg x.users):Za1 (pj J) 53 [ptr ⟨b,o,none⟩,str nm] B (.bool (ZaX x.users nm).2):=by
 refine Ze 17 Tryz.func53 rfl rfl rfl (Nat.le_of_ble_eq_true rfl) ?_
 refine Za (xA (h:=Za (xM (h:=xNc (h:=xW ZbN (h:=Zp (Zl rfl rfl Zim rfl (hh _ 1 _ rfl) (xM (h:=xR Zw7 rfl (ZhW _ _ _ nm om2 _ hu) (h:=?_))))))))))
 refine xM (h:=xE (h:=xE (h:=xAl [_,_,_] Zgw (h:=fun b2=>xS [_,_,_] 0 [_,_,_] ZeJ (h:=xA (h:=Zw [_] rfl (Za (xM (h:=xA (h:=Zi ?_))))))))))
 exact Z2 .ret (.inl rfl) [_] t1 ⟨rfl,rfl,rfl⟩

set_option maxHeartbeats 400000 in
theorem Zdp (q1 q2 q3:Option Addr) (c1 c2 c3:Nat) (x:DHost) (ow nm:Str) (ho:ow.length≤2000000) (hn:nm.length≤2000000) (B:Kn) (hf:SlK B q2 c2 5 Zb x.folders):Za1 (pj J) 33 [.agg #[str x.domain,.slice q1 x.users.length c1,.slice q2 x.folders.length c2,.int .i64 x.queue.next,.slice q3 x.queue.items.length c3],str ow,str nm] B (.int .i64 (Za6 (inF ow nm) x.folders)):=by
 refine Ze 34 Tryz.func33 rfl rfl rfl (Nat.le_of_ble_eq_true rfl) ?_
 have hfn:=hf.len
 refine Za (xBx [_,_,_,_,_] (h:=fun b1=>xA (h:=Zw [_] rfl (Zk (Za (xA (h:=Zo (ZR (α:=Nat) [0,1,2,3] (fun k=>[(7,.int .i64 k)]) [] (fun k=>[]) (fun k Bx=>Bx=B∧k≤x.folders.length∧∀y,y∈x.folders.take k→inF ow nm y=false) (fun k=>x.folders.length - k) 0 t1 rfl (⟨rfl,Nat.zero_le _,by simp⟩) (fun k B2 hle2 hI=>?_)))))))))
 obtain ⟨rfl,hk,ha⟩:=hI
 refine ZP [(0,_),(1,_),(2,_),(3,_),(7,_)] [_] t5 rfl (Zk (Za (xM (h:=xW ZZ (h:=x1 Zb3 0 (h:=xV Tryz.underlying24 (h:=Zae (h:=Zc rfl (fun g1=>?_) (fun g1=>?_)))))))))
 try simp only [sQ,ne_eq] at g1
 refine Zh (Zf (Zk (Zo (Za (xW ZZ (h:=x1 Zb3 0 (h:=xM (h:=?_))))))))
 obtain ⟨y,hy⟩:=Zan (xs:=x.folders) (i:=k) om
 obtain ⟨bb4,oo4,rfl⟩:=hf.base hy
 obtain ⟨_,⟨qg5,cg5,qm5,cm5,rfl,hg5,hm5,hb5,hb5b⟩,hc5⟩:=hf.elem hy
 have hg5n:=hg5.len
 have hm5n:=hm5.len
 have hm5s:=ZS hm5
 refine xIx Tryz.underlying24 ZaD (h:=xW Zbi (h:=y1 lk9 hc5 0 (h:=xM (h:=ZcF (h:=xM (h:=Zt (d:=23) rfl (fun g2=>?_) (fun g2=>?_)))))))
 try simp only [sQ,ne_eq] at g2
 refine xW ZZ (h:=x1 Zb3 0 (h:=xM (h:=xIx Tryz.underlying24 ZaD (h:=xW Zc1 (h:=y1 lk9 hc5 1 (h:=xM (h:=ZcF (h:=xT (h:=Zc rfl (fun g3=>?_) (fun g3=>?_))))))))))
 try simp only [sQ,ne_eq] at g3
 refine Za (xM (h:=xA (h:=Zi (ZM (Zs (Zaa (ZM (Zs ?_))))))))
 exact Z2 .ret (.inl rfl) [_] t1 ⟨ZaW (ZhE hy (by simp [inF,g2,g3]) ha).symm,rfl,rfl⟩
 try simp only [sQ,ne_eq] at g3
 refine Zh (Zy (Zf (Zd (xM (h:=xD (h:=xA (h:=?_)))))))
 exact ZA (k+1) [0] so2 ⟨rfl,oz,Zbo hy ha (by simp [inF,g2,g3])⟩ t5 rfl
 try simp only [sQ,ne_eq] at g2
 refine xP (h:=xP (h:=xP (h:=xP (h:=xP (h:=xP (h:=xP (h:=xP (h:=xF (h:=Zc (t:=false) rfl (fun h=>Bool.noConfusion h) (fun _=>Zh (Zy (Zf (Zd ?_)))))))))))))
 refine xM (h:=xD (h:=xA (h:=?_)))
 exact ZA (k+1) [0] so2 ⟨rfl,oz,Zbo hy ha (by simp [inF,g2])⟩ t5 rfl
 try simp only [sQ,ne_eq] at g1
 refine ZU (Zad (ZV (ZF (Zf (Za (xA (h:=Zi ?_)))))))
 exact Z2 .ret (.inl rfl) [_] t1 ⟨ZaW (ZeY (ZbA oz ha)).symm,rfl,rfl⟩

set_option maxHeartbeats 400000 in
theorem Zt1 (f:DFolder) (qa qb:Option Addr) (ca cb:Nat) (ow nm:Str) (b b':Nat) (h1:f.owner.length≤2000000) (h2:f.name.length≤2000000) (h3:ow.length≤2000000) (h4:nm.length≤2000000) (B:Kn) (hb:Zbv B b 0 [str ow]) (hb2:Zbv B b' 0 [str nm]):Za1 (pj J) 73 [.agg #[str f.owner,str f.name,.slice qa f.grants.length ca,.int .i64 f.next,.slice qb f.mail.length cb],ptr ⟨b,0,none⟩,ptr ⟨b',0,none⟩] B (.bool (inF ow nm f)):=by
 refine Ze 15 Tryz.func73 rfl rfl rfl (Nat.le_of_ble_eq_true rfl) ?_
 refine Za (xBx [_,_,_,_,_] (h:=fun b1=>xA (h:=Zw [_] rfl (Za (xW Zbi (h:=x1 lk9 0 (h:=Zp (Zl rfl rfl lk9 rfl (hb _ 0 _ rfl) (ZcF (h:=xM (h:=Zt (d:=9) rfl (fun g1=>?_) (fun g1=>?_))))))))))))
 try simp only [sQ,ne_eq] at g1
 refine xW Zc1 (h:=x1 lk9 0 (h:=Zp (Zl rfl rfl lk9 rfl (hb2 _ 0 _ rfl) (ZcF (h:=xT (h:=xA (h:=Zi ?_)))))))
 exact Z2 .ret (.inl rfl) [_] t1 ⟨Zn (by rw [Bool.eq_iff_iff];simp [inF,g1]),rfl,rfl⟩
 try simp only [sQ,ne_eq] at g1
 refine xP (h:=xP (h:=xP (h:=xP (h:=xF (h:=xA (h:=Zi ?_))))))
 exact Z2 .ret (.inl rfl) [_] t1 ⟨Zn (by rw [Bool.eq_iff_iff];simp [inF,g1]),rfl,rfl⟩

set_option maxHeartbeats 400000 in
theorem Zr2 (q:Option Addr) (cp:Nat) (fs:List DFolder) (F:FuncId) (cap:Array Value) (t:DFolder→Bool) (B:Kn) (hf:SlK B q cp 5 Zb fs) (he:enters (pj J) F=true) (hF :∀(f:DFolder) (qa qb:Option Addr) (ca cb:Nat),f.owner.length≤2000000→f.name.length≤2000000→Za1 (pj J) F ([.agg #[str f.owner,str f.name,.slice qa f.grants.length ca,.int .i64 f.next,.slice qb f.mail.length cb]] ++ cap.toList) B (.bool (t f))):Za1 (pj J) 72 [.slice q fs.length cp,.func (.func F) #[] cap] B (.int .i64 (Za6 t fs)):=by
 refine Ze 19 Tryz.func72 rfl rfl rfl (Nat.le_of_ble_eq_true rfl) ?_
 have hfn:=hf.len
 refine Za (xA (h:=Zk (Za (xM (h:=xV Tryz.underlying24 (h:=xM (h:=Zo (ZR (α:=Nat) [0,1,7] (fun k=>[(8,.int .i64 k)]) [] (fun k=>[]) (fun k Bx=>Bx=B∧k≤fs.length∧∀y,y∈fs.take k→t y=false) (fun k=>fs.length - k) 0 t1 rfl (⟨rfl,Nat.zero_le _,by simp⟩) (fun k B1 hle1 hI=>?_)))))))))
 obtain ⟨rfl,hk,ha⟩:=hI
 refine ZP [(0,_),(1,_),(7,_),(8,_)] [] t4 rfl (Za (Zae (h:=Zk (Zc rfl (fun g1=>?_) (fun g1=>?_)))))
 try simp only [sQ,ne_eq] at g1
 refine Zh (Zf (Zk (Zo (Za (xM (h:=xA (h:=Za (xM (h:=xM (h:=xM (h:=?_)))))))))))
 obtain ⟨y,hy⟩:=Zan (xs:=fs) (i:=k) om
 obtain ⟨bb3,oo3,rfl⟩:=hf.base hy
 obtain ⟨_,⟨qg4,cg4,qm4,cm4,rfl,hg4,hm4,hb4,hb4b⟩,hc4⟩:=hf.elem hy
 have hg4n:=hg4.len
 have hm4n:=hm4.len
 have hm4s:=ZS hm4
 refine xIx Tryz.underlying24 ZaD (h:=yL [_,_,_,_,_] Zfn hc4 0 (h:=Zp (ZsQ rfl rfl he rfl rfl (hF y _ _ _ _ om2 om2) ?_)))
 refine Zc rfl (fun g2=>?_) (fun g2=>?_)
 try simp only [sQ,ne_eq] at g2
 refine Za (xM (h:=xA (h:=Zi (ZM (Zs (Zaa (ZM (Zs ?_))))))))
 exact Z2 .ret (.inl rfl) [_] t1 ⟨ZaW (ZhE hy g2 ha).symm,rfl,rfl⟩
 try simp only [sQ,ne_eq] at g2
 refine Zh (Zy (Zf (Zd (xD (h:=xM (h:=?_))))))
 exact ZA (k+1) [] so2 ⟨rfl,oz,Zbo hy ha g2⟩ t4 rfl
 try simp only [sQ,ne_eq] at g1
 refine ZU (Zad (ZV (ZF (Zf (Za (xA (h:=Zi ?_)))))))
 exact Z2 .ret (.inl rfl) [_] t1 ⟨ZaW (ZeY (ZbA oz ha)).symm,rfl,rfl⟩

set_option maxHeartbeats 400000 in
theorem Zs3 (b o:Nat) (q1 q2 q3:Option Addr) (c1 c2 c3:Nat) (x:DHost) (ow nm:Str) (ho:ow.length≤2000000) (hn:nm.length≤2000000) (B:Kn) (hh:Zbv B b o [str x.domain,.slice q1 x.users.length c1,.slice q2 x.folders.length c2,.int .i64 x.queue.next,.slice q3 x.queue.items.length c3]) (hf:SlK B q2 c2 5 Zb x.folders):Za1 (pj J) 42 [ptr ⟨b,o,none⟩,str ow,str nm] B (.int .i64 (Za6 (inF ow nm) x.folders)):=by
 refine Ze 13 Tryz.func42 rfl rfl rfl (Nat.le_of_ble_eq_true rfl) ?_
 refine Za (xBx [_] (h:=fun b1=>xBx [_] (h:=fun b2=>xA (h:=Zw [_,_] rfl (Za (xM (h:=xNc (h:=xW ZZ (h:=Zp (Zl rfl rfl Zb3 rfl (hh _ 2 _ rfl) (Zp (Zgx (xs:=[]) (ys:=[_,_]) rfl rfl rfl rfl (Zp (Zuy 0 1 rfl rfl rfl rfl rfl ZxN rfl (Za1.borrow2 fun hm1 hm2=>Zr2 _ _ x.folders 73 _ (inF ow nm) _ ((hf.mono Zb.mono (Kn.le_add _ _)).mono Zb.mono (Kn.le_add _ _)) ZxM (fun f qa qb ca cb h1 h2=>Zt1 f qa qb ca cb ow nm _ _ h1 h2 ho hn _ (Zj5 hm1) (Zj5 hm2))) (xA (h:=?_))))))))))))))))
 refine Zi ?_
 exact Z2 .ret (.inl rfl) [_] t1 ⟨rfl,rfl,rfl⟩

set_option maxHeartbeats 400000 in
theorem Zmr (b o:Nat) (q1 q2 q3:Option Addr) (c1 c2 c3:Nat) (x:DHost) (B:Kn) (hh:Zbv B b o [str x.domain,.slice q1 x.users.length c1,.slice q2 x.folders.length c2,.int .i64 x.queue.next,.slice q3 x.queue.items.length c3]) (hu:SlK B q1 c1 3 Zg x.users) (hi:SlK B q3 c3 4 Zj x.queue.items):Za1 (pj J) 52 [ptr ⟨b,o,none⟩] B (.bool (x.queue.items.all (Zda x.users))):=by
 refine Ze 35 Tryz.func52 rfl rfl rfl (Nat.le_of_ble_eq_true rfl) ?_
 have hin:=hi.len
 refine Za (xA (h:=Zk (Za (xM (h:=xNc (h:=xW ZcG (h:=xW ZaM (h:=Zp (Zl rfl rfl ZfP rfl (hh _ 4 _ rfl) (xV Tryz.underlying25 (h:=xM (h:=Zo (ZR (α:=Nat) [0,11,12] (fun k=>[(13,.int .i64 k)]) [] (fun k=>[]) (fun k Bx=>Bx=B∧k≤x.queue.items.length∧∀y,y∈x.queue.items.take k→Zda x.users y=true) (fun k=>x.queue.items.length - k) 0 t1 rfl (⟨rfl,Nat.zero_le _,by simp⟩) (fun k B1 hle1 hI=>?_))))))))))))))
 obtain ⟨rfl,hk,ha⟩:=hI
 refine ZP [(0,_),(11,_),(12,_),(13,_)] [] t4 rfl (Za (Zae (h:=Zk (Zc rfl (fun g1=>?_) (fun g1=>?_)))))
 try simp only [sQ,ne_eq] at g1
 refine Zh (Zf (Zk (Zo (Za ?_))))
 obtain ⟨y,hy⟩:=Zan (xs:=x.queue.items) (i:=k) om
 obtain ⟨bb3,oo3,rfl⟩:=hi.base hy
 obtain ⟨_,⟨qi4,ci4,rfl,hi4,hb4,hb4b⟩,hc4⟩:=hi.elem hy
 have hi4n:=hi4.len
 refine xIx Tryz.underlying25 ZeA (h:=yL [_,_,_,_] Zl3 hc4 0 (h:=xAl [_,_,_,_] Zi3 (h:=fun b5=>xS [_,_,_,_] 0 [_,_,_,_] ZeA (h:=Zw [_] rfl (Zk (Za (xM (h:=xW ZnB (h:=x1 lk9 0 (h:=xR ZvI rfl (ZhD _ _ _ _ _ _ _ _ x y.fr om2 _ hh hu) (h:=?_)))))))))))
 refine xN (h:=Zc rfl (fun g2=>?_) (fun g2=>?_))
 try simp only [sQ,ne_eq] at g2
 refine Za (xA (h:=Zi (Zs (ZM (Zs (Zaa (ZM (Zs ?_))))))))
 exact Z2 .ret (.inl rfl) [_] t1 ⟨Zn (ZcU hy (by simp [Zda,g2])).symm,rfl,rfl⟩
 try simp only [sQ,ne_eq] at g2
 refine Zh (Zf (Za (xW ZbM (h:=x1 ZhA 0 (h:=xV Tryz.underlying67 (h:=xM (h:=Zo (ZR (α:=Nat) [0,4,11,12,13,14,21,23,24] (fun j=>[(25,.int .i64 j)]) [] (fun j=>[]) (fun j Bx=>Bx=B1∧j≤y.left.length∧∀z,z∈y.left.take j→(ZaX x.users z).2=true) (fun j=>y.left.length - j) 0 t1 rfl (⟨rfl,Nat.zero_le _,by simp⟩) (fun j B7 hle7 hI=>?_)))))))))
 obtain ⟨rfl,hj,hb⟩:=hI
 refine ZP [(0,_),(4,_),(11,_),(12,_),(13,_),(14,_),(21,_),(23,_),(24,_),(25,_)] [_] t10 rfl (Za (Zae (h:=Zk (Zc rfl (fun g3=>?_) (fun g3=>?_)))))
 try simp only [sQ,ne_eq] at g3
 refine Zh (Zf (Zk (Zo (Za ?_))))
 obtain ⟨z,hz⟩:=Zan (xs:=y.left) (i:=j) om
 obtain ⟨bb9,oo9,rfl⟩:=hi4.base hz
 obtain ⟨_,⟨rfl,hb10⟩,hc10⟩:=hi4.elem hz
 refine xIx Tryz.underlying67 sz9 (h:=y1 lk9 hc10 0 (h:=xA (h:=Za (xM (h:=xM (h:=xR ZvI rfl (ZhD _ _ _ _ _ _ _ _ x z om2 _ hh hu) (h:=?_)))))))
 refine xN (h:=Zc rfl (fun g4=>?_) (fun g4=>?_))
 try simp only [sQ,ne_eq] at g4
 refine Za (xA (h:=Zi (ZM (Zs (Zaa (ZM (ZM (Zs (Zaa (ZM (Zs ?_)))))))))))
 exact Z2 .ret (.inl rfl) [_] t1 ⟨Zn (ZcU hy (by rw [Zda,ZcU hz g4,Bool.and_false])).symm,rfl,rfl⟩
 try simp only [sQ,ne_eq] at g4
 refine Zh (Zy (Zf (Zd (xD (h:=xM (h:=?_))))))
 exact ZA (j+1) [0] so2 ⟨rfl,oz,Zbo hz hb g4⟩ t10 rfl
 try simp only [sQ,ne_eq] at g3
 refine ZU (Zad (ZV (ZF (Zy (Zf (Zd (xD (h:=xM (h:=?_)))))))))
 exact ZA (k+1) [] so2 ⟨rfl,oz,Zbo hy ha (by rw [Zda,g2,Zet (ZbA oz hb)];rfl)⟩ t4 rfl
 try simp only [sQ,ne_eq] at g1
 refine ZU (Zad (ZV (ZF (Zf (Za (xA (h:=Zi ?_)))))))
 exact Z2 .ret (.inl rfl) [_] t1 ⟨Zn (Zet (ZbA oz ha)).symm,rfl,rfl⟩

set_option maxHeartbeats 400000 in
theorem Zlt (f g:DFolder) (qa qb qc qd:Option Addr) (ca cb cc cd:Nat) (B:Kn):Za1 (pj J) 62 [.agg #[str f.owner,str f.name,.slice qa f.grants.length ca,.int .i64 f.next,.slice qb f.mail.length cb],.agg #[str g.owner,str g.name,.slice qc g.grants.length cc,.int .i64 g.next,.slice qd g.mail.length cd]] B (.bool (ZbY f g)):=by
 refine Ze 24 Tryz.func62 rfl rfl rfl (Nat.le_of_ble_eq_true rfl) ?_
 refine Za (xBx [_,_,_,_,_] (h:=fun b1=>xBx [_,_,_,_,_] (h:=fun b2=>xA (h:=Zw [_,_] rfl (Za (xW Zbi (h:=x1 lk9 0 (h:=xW Zbi (h:=x1 lk9 1 (h:=ZsP (h:=xM (h:=Zt (d:=10) rfl (fun g1=>?_) (fun g1=>?_)))))))))))))
 try simp only [sQ,ne_eq] at g1
 refine xP (h:=xP (h:=xP (h:=xP (h:=xP (h:=xP (h:=xP (h:=xP (h:=xP (h:=xP (h:=xP (h:=xP (h:=xT (h:=?_)))))))))))))
 refine xA (h:=Zi ?_)
 exact Z2 .ret (.inl rfl) [_] t1 ⟨Zn (by rw [Bool.eq_iff_iff];simp [ZbY,ZcS,g1]),rfl,rfl⟩
 try simp only [sQ,ne_eq] at g1
 refine xW Zbi (h:=x1 lk9 0 (h:=xW Zbi (h:=x1 lk9 1 (h:=ZcF (h:=xM (h:=Zt (d:=16) rfl (fun g2=>?_) (fun g2=>?_)))))))
 try simp only [sQ,ne_eq] at g2
 refine xW Zc1 (h:=x1 lk9 0 (h:=xW Zc1 (h:=x1 lk9 1 (h:=ZsP (h:=xT (h:=xF (h:=xA (h:=Zi ?_))))))))
 exact Z2 .ret (.inl rfl) [_] t1 ⟨Zn (by rw [Bool.eq_iff_iff];simp [ZbY,ZcS,g1,g2]),rfl,rfl⟩
 try simp only [sQ,ne_eq] at g2
 refine xP (h:=xP (h:=xP (h:=xP (h:=xP (h:=xF (h:=xF (h:=xA (h:=Zi ?_))))))))
 exact Z2 .ret (.inl rfl) [_] t1 ⟨Zn (by rw [Bool.eq_iff_iff];simp [ZbY,ZcS,g1,g2]),rfl,rfl⟩

set_option maxHeartbeats 400000 in
theorem Zmg (q:Option Addr) (cp:Nat) (us:List DUser) (B:Kn) (hu:SlK B q cp 3 Zg us):Za1 (pj J) 30 [.slice q us.length cp] B (.bool (Zaw us)):=by
 refine Ze 54 Tryz.func30 rfl rfl rfl (Nat.le_of_ble_eq_true rfl) ?_
 have hun:=hu.len
 refine Za (xA (h:=Zk (Za (xA (h:=Zo (ZR (α:=Nat × Str) [0] (fun g=>[(3,.int .i64 g.1)]) [] (fun g=>[]) (fun g Bx=>Bx=B∧g.1≤us.length∧ZdE (us.take g.1)=(true,g.2)∧Prev (fun y=>y.name) ([]:Str) us g.1 g.2) (fun g=>us.length - g.1) (0,[]) t1 rfl (⟨rfl,Nat.zero_le _,ZeM,.zero⟩) (fun g B1 hle1 hI=>?_)))))))
 obtain ⟨rfl,hk,hs,hp⟩:=hI
 refine ZP [(0,_),(3,_)] [] t2 rfl (Zk (Za (xM (h:=xM (h:=xV Tryz.underlying23 (h:=Zae (h:=Zc rfl (fun g1=>?_) (fun g1=>?_))))))))
 try simp only [sQ,ne_eq] at g1
 refine Zh (Zf (Zk (Zo (Za (xM (h:=xM (h:=?_)))))))
 obtain ⟨m,hm⟩:=Zan (xs:=us) (i:=g.1) om
 obtain ⟨bb3,oo3,rfl⟩:=hu.base hm
 obtain ⟨_,⟨rfl,hb4,hb4b⟩,hc4⟩:=hu.elem hm
 refine xIx Tryz.underlying23 ZeJ (h:=yL [_,_,_] Zo0 hc4 0 (h:=xAl [_,_,_] Zgw (h:=fun b5=>xS [_,_,_] 0 [_,_,_] ZeJ (h:=Zw [_] rfl (Zk (Z7 (same _ _) mo kr ⟨rfl,rfl⟩ (fun _ _=>?_)))))))
 refine aW 0 rfl Zc0 (h:=aT 1 rfl (Zak fun D=>Zl rfl rfl lk9 rfl (atL 0 rfl rfl rfl) r4) (h:=aT 2 rfl (Zak fun D=>ZaC rfl rfl Zsl rfl (ZbX _ om2 _) r4) (h:=?_)))
 refine aN 3 rfl (h:=aM 4 rfl (h:=Zal (d:=19) rfl (fun g2=>?_) (fun g2=>?_)))
 try simp only [sQ,ne_eq] at g2
 refine aZ 5 rfl (h:=aZ 6 rfl (h:=aZ 7 rfl (h:=aPT 8 rfl (h:=aM 9 rfl (h:=aZ 10 rfl (h:=aZ 11 rfl (h:=aZ 12 rfl (h:=aZ 13 rfl (h:=aPT 14 rfl (h:=aM 15 rfl (h:=aZ 16 rfl (h:=aZ 17 rfl (h:=?_)))))))))))))
 refine aZ 18 rfl (h:=aZ 19 rfl (h:=aPT 20 rfl (h:=aM 21 rfl (h:=aZ 22 rfl (h:=aZ 23 rfl (h:=aZ 24 rfl (h:=aZ 25 rfl (h:=aZ 26 rfl (h:=aZ 27 rfl (h:=aZ 28 rfl (h:=aZ 29 rfl (h:=aZ 30 rfl (h:=?_)))))))))))))
 refine aZ 31 rfl (h:=aZ 32 rfl (h:=aZ 33 rfl (h:=aZ 34 rfl (h:=aPT 35 rfl (h:=ZC kr kr ?_)))))
 refine Zf (Zc (t:=true) rfl (fun _=>Za (xA (h:=Zi (ZM (Zs (Zaa (ZM (Zs ?_)))))))) (fun h=>Bool.noConfusion h))
 exact Z2 .ret (.inl rfl) [_] t1 ⟨Zn (Zdk hm hs (by simp [Zdl,Zcu,anyone,g1,g2])).symm,rfl,rfl⟩
 try simp only [sQ,ne_eq] at g2
 refine aW 5 rfl Zc0 (h:=aT 6 rfl (Zak fun D=>Zl rfl rfl lk9 rfl (atL 0 rfl rfl rfl) r4) (h:=Zq7 7 rfl (h:=aPF 8 rfl (h:=aM 9 rfl (h:=Zal (d:=24) rfl (fun g3=>?_) (fun g3=>?_))))))
 try simp only [sQ,ne_eq] at g3
 refine aZ 10 rfl (h:=aZ 11 rfl (h:=aZ 12 rfl (h:=aZ 13 rfl (h:=aPT 14 rfl (h:=aM 15 rfl (h:=aZ 16 rfl (h:=aZ 17 rfl (h:=aZ 18 rfl (h:=aZ 19 rfl (h:=aPT 20 rfl (h:=aM 21 rfl (h:=aZ 22 rfl (h:=?_)))))))))))))
 refine aZ 23 rfl (h:=aZ 24 rfl (h:=aZ 25 rfl (h:=aZ 26 rfl (h:=aZ 27 rfl (h:=aZ 28 rfl (h:=aZ 29 rfl (h:=aZ 30 rfl (h:=aZ 31 rfl (h:=aZ 32 rfl (h:=aZ 33 rfl (h:=aZ 34 rfl (h:=aPT 35 rfl (h:=?_)))))))))))))
 refine ZC kr kr ?_
 refine Zf (Zc (t:=true) rfl (fun _=>Za (xA (h:=Zi (ZM (Zs (Zaa (ZM (Zs ?_)))))))) (fun h=>Bool.noConfusion h))
 exact Z2 .ret (.inl rfl) [_] t1 ⟨Zn (Zdk hm hs (by simp [Zdl,Zcu,anyone,g1,g2,g3])).symm,rfl,rfl⟩
 try simp only [sQ,ne_eq] at g3
 refine aW 10 rfl Zqw (h:=aT 11 rfl (Zak fun D=>Zl rfl rfl lk9 rfl (atL 0 rfl rfl rfl) r4) (h:=aT 12 rfl (Zak fun D=>ZaC rfl rfl Zsl rfl (ZbX _ om2 _) r4) (h:=?_)))
 refine aN 13 rfl (h:=aPF 14 rfl (h:=aM 15 rfl (h:=Zal (d:=30) rfl (fun g4=>?_) (fun g4=>?_))))
 try simp only [sQ,ne_eq] at g4
 refine aZ 16 rfl (h:=aZ 17 rfl (h:=aZ 18 rfl (h:=aZ 19 rfl (h:=aPT 20 rfl (h:=aM 21 rfl (h:=aZ 22 rfl (h:=aZ 23 rfl (h:=aZ 24 rfl (h:=aZ 25 rfl (h:=aZ 26 rfl (h:=aZ 27 rfl (h:=aZ 28 rfl (h:=?_)))))))))))))
 refine aZ 29 rfl (h:=aZ 30 rfl (h:=aZ 31 rfl (h:=aZ 32 rfl (h:=aZ 33 rfl (h:=aZ 34 rfl (h:=aPT 35 rfl (h:=ZC kr kr ?_)))))))
 refine Zf (Zc (t:=true) rfl (fun _=>Za (xA (h:=Zi (ZM (Zs (Zaa (ZM (Zs ?_)))))))) (fun h=>Bool.noConfusion h))
 exact Z2 .ret (.inl rfl) [_] t1 ⟨Zn (Zdk hm hs (by simp [Zdl,Zcu,anyone,g1,g2,g3,g4])).symm,rfl,rfl⟩
 try simp only [sQ,ne_eq] at g4
 refine aW 16 rfl ZiI (h:=aT 17 rfl (Zak fun D=>Zl rfl rfl lk3 rfl (atL 0 rfl rfl rfl) r4) (h:=aT 18 rfl (Zak fun D=>ZaC rfl rfl ZjP rfl (Zco _ _ _ _) r4) (h:=aN 19 rfl (h:=aPF 20 rfl (h:=aM 21 rfl (h:=Zal (d:=36) rfl (fun g5=>?_) (fun g5=>?_)))))))
 try simp only [sQ,ne_eq] at g5
 refine aZ 22 rfl (h:=aZ 23 rfl (h:=aZ 24 rfl (h:=aZ 25 rfl (h:=aZ 26 rfl (h:=aZ 27 rfl (h:=aZ 28 rfl (h:=aZ 29 rfl (h:=aZ 30 rfl (h:=aZ 31 rfl (h:=aZ 32 rfl (h:=aZ 33 rfl (h:=aZ 34 rfl (h:=?_)))))))))))))
 refine aPT 35 rfl (h:=ZC kr kr ?_)
 refine Zf (Zc (t:=true) rfl (fun _=>Za (xA (h:=Zi (ZM (Zs (Zaa (ZM (Zs ?_)))))))) (fun h=>Bool.noConfusion h))
 exact Z2 .ret (.inl rfl) [_] t1 ⟨Zn (Zdk hm hs (by simp [Zdl,Zcu,anyone,g1,g2,g3,g4,g5])).symm,rfl,rfl⟩
 try simp only [sQ,ne_eq] at g5
 refine aM 22 rfl (h:=Zhq 23 rfl (h:=aM 24 rfl (h:=Zal (d:=39) rfl (fun g6=>?_) (fun g6=>?_))))
 try simp only [sQ,ne_eq] at g6
 refine aM 25 rfl (h:=aM 26 rfl (h:=aU 27 rfl (h:=?_)))
 obtain ⟨y,hy⟩:=Zex (xs:=us) (i:=(↑g.1 - 1)) om om
 obtain ⟨_,⟨rfl,hb10,hb10b⟩,hc10⟩:=hu.elem hy
 refine aIx 28 rfl Tryz.underlying23 ZeJ (h:=?_)
 have hpe:=hp.at hy oz
 refine aW 29 rfl Zc0 (h:=aT 30 rfl (Zak fun D=>Zl rfl rfl lk9 rfl (hc10 _ 0 _ rfl) r4) (h:=aW 31 rfl Zc0 (h:=aT 32 rfl (Zak fun D=>Zl rfl rfl lk9 rfl (atL 0 rfl rfl rfl) r4) (h:=aT 33 rfl (Zak fun D=>Zpe rfl rfl rfl rfl r4) (h:=aPT 34 rfl (h:=aPF 35 rfl (h:=ZC kr kr ?_)))))))
 refine Zf (Zc rfl (fun g7=>?_) (fun g7=>?_))
 try simp only [sQ,ne_eq] at g7
 refine Za (xA (h:=Zi (ZM (Zs (Zaa (ZM (Zs ?_)))))))
 exact Z2 .ret (.inl rfl) [_] t1 ⟨Zn (Zdk hm hs (by simp [Zdl,Zcu,anyone,g1,g2,g3,g4,g5,g6,g7,hpe])).symm,rfl,rfl⟩
 try simp only [sQ,ne_eq] at g7
 refine Zh (Zy (Zf (Zd (xM (h:=xD (h:=xA (h:=?_)))))))
 exact ZA (g.1+1,m.name) [] so2 ⟨rfl,oz,Zcg hm hs (by rw [hpe];simp [Zdl,Zcu,anyone,g2,g3,g4,g7];simp at g5;omega),.succ hm⟩ t2 rfl
 try simp only [sQ,ne_eq] at g6
 refine aZ 25 rfl (h:=aZ 26 rfl (h:=aZ 27 rfl (h:=aZ 28 rfl (h:=aZ 29 rfl (h:=aZ 30 rfl (h:=aZ 31 rfl (h:=aZ 32 rfl (h:=aZ 33 rfl (h:=aPF 34 rfl (h:=aPF 35 rfl (h:=ZC kr kr ?_)))))))))))
 refine Zf (Zc (t:=false) rfl (fun h=>Bool.noConfusion h) (fun _=>Zh (Zy (Zf (Zd (xM (h:=xD (h:=xA (h:=?_)))))))))
 exact ZA (g.1+1,m.name) [] so2 ⟨rfl,oz,Zcg hm hs (by rw [hp.at0 oz];simp [Zdl,Zcu,anyone,g2,g3,g4,Znr (ZjC g2)];simp at g5;omega),.succ hm⟩ t2 rfl
 try simp only [sQ,ne_eq] at g1
 refine ZU (Zad (ZV (ZF (Zf (Za (xM (h:=xV Tryz.underlying23 (h:=xR ZjP rfl (Zco _ _ _ _) (h:=xA (h:=Zi ?_))))))))))
 exact Z2 .ret (.inl rfl) [_] t1 ⟨Zn (by rw [ZhU (ZdP hs oz),Bool.eq_iff_iff];simp;omega),rfl,rfl⟩

set_option maxHeartbeats 400000 in
theorem Zgc (q:Option Addr) (cp:Nat) (gs:List DGrant) (B:Kn) (hg:SlK B q cp 2 Zx gs):Za1 (pj J) 60 [.slice q gs.length cp] B (.bool (ZbR gs)):=by
 refine Ze 47 Tryz.func60 rfl rfl rfl (Nat.le_of_ble_eq_true rfl) ?_
 have hgn:=hg.len
 refine Za (xA (h:=Zk (Za (xA (h:=Zo (ZR (α:=Nat × Str) [0] (fun g=>[(3,.int .i64 g.1)]) [] (fun g=>[]) (fun g Bx=>Bx=B∧g.1≤gs.length∧ZcZ (gs.take g.1)=(true,g.2)∧Prev (fun y=>y.user) ([]:Str) gs g.1 g.2) (fun g=>gs.length - g.1) (0,[]) t1 rfl (⟨rfl,Nat.zero_le _,ZeM,.zero⟩) (fun g B1 hle1 hI=>?_)))))))
 obtain ⟨rfl,hk,hs,hp⟩:=hI
 refine ZP [(0,_),(3,_)] [] t2 rfl (Zk (Za (xM (h:=xM (h:=xV Tryz.underlying36 (h:=Zae (h:=Zc rfl (fun g1=>?_) (fun g1=>?_))))))))
 try simp only [sQ,ne_eq] at g1
 refine Zh (Zf (Zk (Zo (Zk (Z7 (same _ _) mo kr ⟨rfl,rfl⟩ (fun _ _=>?_))))))
 refine aM 0 rfl (h:=aM 1 rfl (h:=?_))
 obtain ⟨m,hm⟩:=Zan (xs:=gs) (i:=g.1) om
 obtain ⟨bb3,oo3,rfl⟩:=hg.base hm
 obtain ⟨_,⟨rfl,hb4⟩,hc4⟩:=hg.elem hm
 refine aIx 2 rfl Tryz.underlying36 Zbn (h:=aW 3 rfl ZcO (h:=aT 4 rfl (Zak fun D=>Zl rfl rfl lk9 rfl (hc4 _ 0 _ rfl) r4) (h:=aT 5 rfl (Zak fun D=>ZaC rfl rfl Zsl rfl (ZbX _ om2 _) r4) (h:=?_))))
 refine aN 6 rfl (h:=aM 7 rfl (h:=Zal (d:=17) rfl (fun g2=>?_) (fun g2=>?_)))
 try simp only [sQ,ne_eq] at g2
 refine aZ 8 rfl (h:=aZ 9 rfl (h:=aZ 10 rfl (h:=aZ 11 rfl (h:=aZ 12 rfl (h:=aZ 13 rfl (h:=aZ 14 rfl (h:=aPT 15 rfl (h:=aM 16 rfl (h:=aZ 17 rfl (h:=aZ 18 rfl (h:=aZ 19 rfl (h:=aZ 20 rfl (h:=?_)))))))))))))
 refine aZ 21 rfl (h:=aZ 22 rfl (h:=aZ 23 rfl (h:=aZ 24 rfl (h:=aZ 25 rfl (h:=aZ 26 rfl (h:=aZ 27 rfl (h:=aZ 28 rfl (h:=aZ 29 rfl (h:=aZ 30 rfl (h:=aZ 31 rfl (h:=aZ 32 rfl (h:=aPT 33 rfl (h:=?_)))))))))))))
 refine ZC kr kr ?_
 refine Zf (Zc (t:=true) rfl (fun _=>Za (xA (h:=Zi (ZM (Zs (Zaa (ZM (Zs ?_)))))))) (fun h=>Bool.noConfusion h))
 exact Z2 .ret (.inl rfl) [_] t1 ⟨Zn (Zdy hm hs (by simp [Zcs,g1,g2])).symm,rfl,rfl⟩
 try simp only [sQ,ne_eq] at g2
 refine aM 8 rfl (h:=aM 9 rfl (h:=aIx 10 rfl Tryz.underlying36 Zbn (h:=aW 11 rfl ZgM (h:=aT 12 rfl (Zak fun D=>Zl rfl rfl lk3 rfl (hc4 _ 1 _ rfl) r4) (h:=aT 13 rfl (Zak fun D=>ZaC rfl rfl ZjP rfl (Zco _ _ _ _) r4) (h:=aN 14 rfl (h:=aPF 15 rfl (h:=aM 16 rfl (h:=Zal (d:=26) rfl (fun g4=>?_) (fun g4=>?_))))))))))
 try simp only [sQ,ne_eq] at g4
 refine aZ 17 rfl (h:=aZ 18 rfl (h:=aZ 19 rfl (h:=aZ 20 rfl (h:=aZ 21 rfl (h:=aZ 22 rfl (h:=aZ 23 rfl (h:=aZ 24 rfl (h:=aZ 25 rfl (h:=aZ 26 rfl (h:=aZ 27 rfl (h:=aZ 28 rfl (h:=aZ 29 rfl (h:=?_)))))))))))))
 refine aZ 30 rfl (h:=aZ 31 rfl (h:=aZ 32 rfl (h:=aPT 33 rfl (h:=ZC kr kr ?_))))
 refine Zf (Zc (t:=true) rfl (fun _=>Za (xA (h:=Zi (ZM (Zs (Zaa (ZM (Zs ?_)))))))) (fun h=>Bool.noConfusion h))
 exact Z2 .ret (.inl rfl) [_] t1 ⟨Zn (Zdy hm hs (by simp [Zcs,g1,g2,g4])).symm,rfl,rfl⟩
 try simp only [sQ,ne_eq] at g4
 refine aM 17 rfl (h:=Zhq 18 rfl (h:=aM 19 rfl (h:=Zal (d:=29) rfl (fun g6=>?_) (fun g6=>?_))))
 try simp only [sQ,ne_eq] at g6
 refine aM 20 rfl (h:=aM 21 rfl (h:=aU 22 rfl (h:=?_)))
 obtain ⟨y,hy⟩:=Zex (xs:=gs) (i:=(↑g.1 - 1)) om om
 obtain ⟨_,⟨rfl,hb8⟩,hc8⟩:=hg.elem hy
 refine aIx 23 rfl Tryz.underlying36 Zbn (h:=?_)
 have hpe:=hp.at hy oz
 refine aW 24 rfl ZcO (h:=aT 25 rfl (Zak fun D=>Zl rfl rfl lk9 rfl (hc8 _ 0 _ rfl) r4) (h:=aM 26 rfl (h:=aM 27 rfl (h:=aIx 28 rfl Tryz.underlying36 Zbn (h:=aW 29 rfl ZcO (h:=aT 30 rfl (Zak fun D=>Zl rfl rfl lk9 rfl (hc4 _ 0 _ rfl) r4) (h:=aT 31 rfl (Zak fun D=>Zpe rfl rfl rfl rfl r4) (h:=aPT 32 rfl (h:=aPF 33 rfl (h:=ZC kr kr ?_))))))))))
 refine Zf (Zc rfl (fun g7=>?_) (fun g7=>?_))
 try simp only [sQ,ne_eq] at g7
 refine Za (xA (h:=Zi (ZM (Zs (Zaa (ZM (Zs ?_)))))))
 exact Z2 .ret (.inl rfl) [_] t1 ⟨Zn (Zdy hm hs (by simp [Zcs,g1,g2,g4,g6,g7,hpe])).symm,rfl,rfl⟩
 try simp only [sQ,ne_eq] at g7
 refine Zh (Zy (Zf (Zd (xM (h:=xD (h:=xA (h:=?_)))))))
 exact ZA (g.1+1,m.user) [] so2 ⟨rfl,oz,Zcg hm hs (by rw [hpe];simp [Zcs,g2,g7];simp at g4;omega),.succ hm⟩ t2 rfl
 try simp only [sQ,ne_eq] at g6
 refine aZ 20 rfl (h:=aZ 21 rfl (h:=aZ 22 rfl (h:=aZ 23 rfl (h:=aZ 24 rfl (h:=aZ 25 rfl (h:=aZ 26 rfl (h:=aZ 27 rfl (h:=aZ 28 rfl (h:=aZ 29 rfl (h:=aZ 30 rfl (h:=aZ 31 rfl (h:=aPF 32 rfl (h:=?_)))))))))))))
 refine aPF 33 rfl (h:=ZC kr kr ?_)
 refine Zf (Zc (t:=false) rfl (fun h=>Bool.noConfusion h) (fun _=>Zh (Zy (Zf (Zd (xM (h:=xD (h:=xA (h:=?_)))))))))
 exact ZA (g.1+1,m.user) [] so2 ⟨rfl,oz,Zcg hm hs (by rw [hp.at0 oz];simp [Zcs,g2,Znr (ZjC g2)];simp at g4;omega),.succ hm⟩ t2 rfl
 try simp only [sQ,ne_eq] at g1
 refine ZU (Zad (ZV (ZF (Zf (Za (xM (h:=xV Tryz.underlying36 (h:=ZcE (h:=xA (h:=Zi ?_))))))))))
 exact Z2 .ret (.inl rfl) [_] t1 ⟨Zn (by rw [Zl0 (ZdP hs oz),Bool.eq_iff_iff];simp;try omega),rfl,rfl⟩

set_option maxHeartbeats 400000 in
theorem ZjF (q1 q2 q3:Option Addr) (c1 c2 c3:Nat) (x:DHost) (q:Option Addr) (cp:Nat) (ns:List Str) (B:Kn) (hu:SlK B q1 c1 3 Zg x.users) (hn:SlK B q cp 1 Zba ns):Za1 (pj J) 35 [.agg #[str x.domain,.slice q1 x.users.length c1,.slice q2 x.folders.length c2,.int .i64 x.queue.next,.slice q3 x.queue.items.length c3],.slice q ns.length cp] B (.bool (Zgl x.users ns)):=by
 refine Ze 20 Tryz.func35 rfl rfl rfl (Nat.le_of_ble_eq_true rfl) ?_
 have hnn:=hn.len
 have hun:=hu.len
 refine Za (xBx [_,_,_,_,_] (h:=fun b1=>xA (h:=Zw [_] rfl (Zk (Za (xA (h:=Zo (ZR (α:=Nat) [0,1,2] (fun k=>[(5,.int .i64 k)]) [] (fun k=>[]) (fun k Bx=>Bx=B∧k≤ns.length∧∀z,z∈ns.take k→decide (0≤ZcC x.users z)=true) (fun k=>ns.length - k) 0 t1 rfl (⟨rfl,Nat.zero_le _,by simp⟩) (fun k B2 hle2 hI=>?_)))))))))
 obtain ⟨rfl,hk,ha⟩:=hI
 refine ZP [(0,_),(1,_),(2,_),(5,_)] [_] t4 rfl (Zk (Za (xM (h:=xM (h:=xV Tryz.underlying67 (h:=Zae (h:=Zc rfl (fun g1=>?_) (fun g1=>?_))))))))
 try simp only [sQ,ne_eq] at g1
 refine Zh (Zf (Zk (Zo (Zk (Z7 (same _ _) mo kr ⟨rfl,rfl⟩ (fun _ _=>?_))))))
 refine aW 0 rfl ZbN (h:=aT 1 rfl (Zak fun D=>Zl rfl rfl Zim rfl (atL 0 rfl rfl rfl) r4) (h:=aM 2 rfl (h:=aM 3 rfl (h:=?_))))
 obtain ⟨z,hz⟩:=Zan (xs:=ns) (i:=k) om
 obtain ⟨bb4,oo4,rfl⟩:=hn.base hz
 obtain ⟨_,⟨rfl,hb5⟩,hc5⟩:=hn.elem hz
 refine aIx 4 rfl Tryz.underlying67 sz9 (h:=aT 5 rfl (Zak fun D=>Zl rfl rfl lk9 rfl (hc5 _ 0 _ rfl) r4) (h:=aT 6 rfl (Zak fun D=>ZaC rfl rfl Zrf rfl (Zcc _ _ _ _ _ hu) r4) (h:=Zq6 7 rfl (h:=ZC kr kr ?_))))
 refine Zf (Zc rfl (fun g2=>?_) (fun g2=>?_))
 try simp only [sQ,ne_eq] at g2
 refine Za (xA (h:=Zi (ZM (Zs (Zaa (ZM (Zs ?_)))))))
 exact Z2 .ret (.inl rfl) [_] t1 ⟨Zn (ZcU hz (by simp;omega)).symm,rfl,rfl⟩
 try simp only [sQ,ne_eq] at g2
 refine Zh (Zy (Zf (Zd (xM (h:=xD (h:=xA (h:=?_)))))))
 exact ZA (k+1) [0] so2 ⟨rfl,oz,Zbo hz ha (by simp;omega)⟩ t4 rfl
 try simp only [sQ,ne_eq] at g1
 refine ZU (Zad (ZV (ZF (Zf (Za (xA (h:=Zi ?_)))))))
 exact Z2 .ret (.inl rfl) [_] t1 ⟨Zn (Zet (ZbA oz ha)).symm,rfl,rfl⟩

set_option maxHeartbeats 400000 in
theorem Zls (q1 q2 q3:Option Addr) (c1 c2 c3:Nat) (x:DHost) (u:Str) (B:Kn) (hf:SlK B q2 c2 5 Zb x.folders):Za1 (pj J) 34 [.agg #[str x.domain,.slice q1 x.users.length c1,.slice q2 x.folders.length c2,.int .i64 x.queue.next,.slice q3 x.queue.items.length c3],str u] B (.int .i64 (Zbb x.folders u)):=by
 refine Ze 32 Tryz.func34 rfl rfl rfl (Nat.le_of_ble_eq_true rfl) ?_
 have hfn:=hf.len
 refine Za (xBx [_,_,_,_,_] (h:=fun b1=>xA (h:=Zw [_] rfl (Za (xA (h:=Zk (Za (xA (h:=Zo (ZR (α:=Nat × Nat) [0,1,2,4] (fun g=>[(5,.int .i64 g.2),(6,.int .i64 g.1)]) [] (fun g=>[]) (fun g Bx=>Bx=B∧g.1≤x.folders.length∧g.2=Zbb (x.folders.take g.1) u∧g.2≤g.1*4000000000000) (fun g=>x.folders.length - g.1) (0,0) t2 rfl (⟨rfl,Nat.zero_le _,by simp [Zbb],oz⟩) (fun g B2 hle2 hI=>?_)))))))))))
 obtain ⟨rfl,hk,hs,hl⟩:=hI
 refine ZP [(0,_),(1,_),(2,_),(4,_),(5,_),(6,_)] [_] t6 rfl (Zk (Za (xM (h:=xW ZZ (h:=x1 Zb3 0 (h:=xV Tryz.underlying24 (h:=Zae (h:=Zc rfl (fun g1=>?_) (fun g1=>?_)))))))))
 try simp only [sQ,ne_eq] at g1
 refine Zh (Zf (Zk (Zo (Za (xW ZZ (h:=x1 Zb3 0 (h:=xM (h:=?_))))))))
 obtain ⟨m,hm⟩:=Zan (xs:=x.folders) (i:=g.1) om
 obtain ⟨bb4,oo4,rfl⟩:=hf.base hm
 obtain ⟨_,⟨qg5,cg5,qm5,cm5,rfl,hg5,hm5,hb5,hb5b⟩,hc5⟩:=hf.elem hm
 have hg5n:=hg5.len
 have hm5n:=hm5.len
 have hm5s:=ZS hm5
 refine xIx Tryz.underlying24 ZaD (h:=xW Zbi (h:=y1 lk9 hc5 0 (h:=xM (h:=ZcF (h:=Zc rfl (fun g2=>?_) (fun g2=>?_))))))
 try simp only [sQ,ne_eq] at g2
 refine Zd (xM (h:=xW ZZ (h:=x1 Zb3 0 (h:=xM (h:=xIx Tryz.underlying24 ZaD (h:=xW Zbh (h:=yL [_,_] ZbD hc5 3 (h:=xR ZxS rfl (Zp8 _ _ (⟨m.next,m.mail⟩:DBox) _ hm5) (h:=xD (h:=xA (h:=Zy (Zf (Zd ?_)))))))))))))
 refine xM (h:=xD (h:=xA (h:=?_)))
 exact ZA (g.1+1,g.2+Zap m.mail) [0] so2 ⟨rfl,so,by rw [Zjn hm,← hs,if_pos g2],so⟩ t6 rfl
 try simp only [sQ,ne_eq] at g2
 refine Zh (Zy (Zf (Zd (xM (h:=xD (h:=xA (h:=?_)))))))
 exact ZA (g.1+1,g.2) [0] so2 ⟨rfl,so,by rw [Zjn hm,← hs,if_neg g2];simp only [Nat.add_zero],Nat.le_trans hl (Nat.mul_le_mul_right _ (Nat.le_succ _))⟩ t6 rfl
 try simp only [sQ,ne_eq] at g1
 refine ZU (Zad (ZV (ZF (Zf (Za (xM (h:=xA (h:=Zi ?_))))))))
 exact Z2 .ret (.inl rfl) [_] t1 ⟨ZaW (by rw [← Zpo hs oz]),rfl,rfl⟩

set_option maxHeartbeats 400000 in
theorem Zlu (q1 q2 q3:Option Addr) (c1 c2 c3:Nat) (x:DHost) (B:Kn) (hu:SlK B q1 c1 3 Zg x.users) (hf:SlK B q2 c2 5 Zb x.folders):Za1 (pj J) 32 [.agg #[str x.domain,.slice q1 x.users.length c1,.slice q2 x.folders.length c2,.int .i64 x.queue.next,.slice q3 x.queue.items.length c3]] B (.bool (Zce x.users x.folders)):=by
 refine Ze 60 Tryz.func32 rfl rfl rfl (Nat.le_of_ble_eq_true rfl) ?_
 have hfn:=hf.len
 have hun:=hu.len
 refine Za (xBx [_,_,_,_,_] (h:=fun b1=>xA (h:=Zw [_] rfl (Zk (Za (xA (h:=Zo (ZR (α:=Nat × Option DFolder) [0,1] (fun g=>[(3,.int .i64 g.1)]) [] (fun g=>[]) (fun g Bx=>Bx=B∧g.1≤x.folders.length∧Zdh x.users (x.folders.take g.1)=(true,g.2)∧Prev some none x.folders g.1 g.2) (fun g=>x.folders.length - g.1) (0,none) t1 rfl (⟨rfl,Nat.zero_le _,ZeM,.zero⟩) (fun g B2 hle2 hI=>?_)))))))))
 obtain ⟨rfl,hk,hs,hp⟩:=hI
 refine ZP [(0,_),(1,_),(3,_)] [_] t3 rfl (Zk (Za (xM (h:=xW ZZ (h:=x1 Zb3 0 (h:=xV Tryz.underlying24 (h:=Zae (h:=Zc rfl (fun g1=>?_) (fun g1=>?_)))))))))
 try simp only [sQ,ne_eq] at g1
 refine Zh (Zf (Zk (Zo (Za (xW ZZ (h:=x1 Zb3 0 (h:=xM (h:=?_))))))))
 obtain ⟨m,hm⟩:=Zan (xs:=x.folders) (i:=g.1) om
 obtain ⟨bb4,oo4,rfl⟩:=hf.base hm
 obtain ⟨_,⟨qg5,cg5,qm5,cm5,rfl,hg5,hm5,hb5,hb5b⟩,hc5⟩:=hf.elem hm
 have hg5n:=hg5.len
 have hm5n:=hm5.len
 have hm5s:=ZS hm5
 refine xIx Tryz.underlying24 ZaD (h:=yL [_,_,_,_,_] Zfn hc5 0 (h:=xAl [_,_,_,_,_] Zb8 (h:=fun b6=>xS [_,_,_,_,_] 1 [_,_,_,_,_] ZaD (h:=Zw [_,_] rfl (Zk (Z7 (same _ _) mo kr ⟨rfl,rfl⟩ (fun _ _=>?_)))))))
 refine aW 0 rfl ZbN (h:=aT 1 rfl (Zak fun D=>Zl rfl rfl Zim rfl (atL 0 rfl rfl rfl) r4) (h:=aW 2 rfl Zbi (h:=aT 3 rfl (Zak fun D=>Zl rfl rfl lk9 rfl (atL 1 rfl rfl rfl) r4) (h:=aT 4 rfl (Zak fun D=>ZaC rfl rfl Zrf rfl (Zcc _ _ _ _ _ hu) r4) (h:=Zq6 5 rfl (h:=aM 6 rfl (h:=Zal (d:=23) rfl (fun g2=>?_) (fun g2=>?_))))))))
 try simp only [sQ,ne_eq] at g2
 refine aZ 7 rfl (h:=aZ 8 rfl (h:=aZ 9 rfl (h:=aZ 10 rfl (h:=aPT 11 rfl (h:=aM 12 rfl (h:=aZ 13 rfl (h:=aZ 14 rfl (h:=aZ 15 rfl (h:=aZ 16 rfl (h:=aPT 17 rfl (h:=aM 18 rfl (h:=aZ 19 rfl (h:=?_)))))))))))))
 refine aZ 20 rfl (h:=aZ 21 rfl (h:=aZ 22 rfl (h:=aPT 23 rfl (h:=aM 24 rfl (h:=aZ 25 rfl (h:=aZ 26 rfl (h:=aZ 27 rfl (h:=aZ 28 rfl (h:=aZ 29 rfl (h:=aZ 30 rfl (h:=aZ 31 rfl (h:=aZ 32 rfl (h:=?_)))))))))))))
 refine aZ 33 rfl (h:=aZ 34 rfl (h:=aZ 35 rfl (h:=aZ 36 rfl (h:=aZ 37 rfl (h:=aPT 38 rfl (h:=ZC kr kr ?_))))))
 refine Zf (Zc (t:=true) rfl (fun _=>Za (xA (h:=Zi (ZM (Zs (Zaa (ZM (Zs ?_)))))))) (fun h=>Bool.noConfusion h))
 exact Z2 .ret (.inl rfl) [_] t1 ⟨Zn (ZcD hm hs (by simp [ZbT,Z6,DFolder.box,g1,g2];try omega)).symm,rfl,rfl⟩
 try simp only [sQ,ne_eq] at g2
 refine aW 7 rfl Zc1 (h:=aT 8 rfl (Zak fun D=>Zl rfl rfl lk9 rfl (atL 1 rfl rfl rfl) r4) (h:=aT 9 rfl (Zak fun D=>ZaC rfl rfl Zsl rfl (ZbX _ om2 _) r4) (h:=?_)))
 refine aN 10 rfl (h:=aPF 11 rfl (h:=aM 12 rfl (h:=Zal (d:=29) rfl (fun g3=>?_) (fun g3=>?_))))
 try simp only [sQ,ne_eq] at g3
 refine aZ 13 rfl (h:=aZ 14 rfl (h:=aZ 15 rfl (h:=aZ 16 rfl (h:=aPT 17 rfl (h:=aM 18 rfl (h:=aZ 19 rfl (h:=aZ 20 rfl (h:=aZ 21 rfl (h:=aZ 22 rfl (h:=aPT 23 rfl (h:=aM 24 rfl (h:=aZ 25 rfl (h:=?_)))))))))))))
 refine aZ 26 rfl (h:=aZ 27 rfl (h:=aZ 28 rfl (h:=aZ 29 rfl (h:=aZ 30 rfl (h:=aZ 31 rfl (h:=aZ 32 rfl (h:=aZ 33 rfl (h:=aZ 34 rfl (h:=aZ 35 rfl (h:=aZ 36 rfl (h:=aZ 37 rfl (h:=aPT 38 rfl (h:=?_)))))))))))))
 refine ZC kr kr ?_
 refine Zf (Zc (t:=true) rfl (fun _=>Za (xA (h:=Zi (ZM (Zs (Zaa (ZM (Zs ?_)))))))) (fun h=>Bool.noConfusion h))
 exact Z2 .ret (.inl rfl) [_] t1 ⟨Zn (ZcD hm hs (by simp [ZbT,Z6,DFolder.box,g1,g2,g3];try omega)).symm,rfl,rfl⟩
 try simp only [sQ,ne_eq] at g3
 refine aW 13 rfl ZbU (h:=aT 14 rfl (Zak fun D=>Zl rfl rfl Zlm rfl (atL 1 rfl rfl rfl) r4) (h:=aT 15 rfl (Zak fun D=>ZaC rfl rfl ZvH rfl (Zgc _ _ _ _ hg5) r4) (h:=aN 16 rfl (h:=aPF 17 rfl (h:=aM 18 rfl (h:=Zal (d:=35) rfl (fun g4=>?_) (fun g4=>?_)))))))
 try simp only [sQ,ne_eq] at g4
 refine aZ 19 rfl (h:=aZ 20 rfl (h:=aZ 21 rfl (h:=aZ 22 rfl (h:=aPT 23 rfl (h:=aM 24 rfl (h:=aZ 25 rfl (h:=aZ 26 rfl (h:=aZ 27 rfl (h:=aZ 28 rfl (h:=aZ 29 rfl (h:=aZ 30 rfl (h:=aZ 31 rfl (h:=?_)))))))))))))
 refine aZ 32 rfl (h:=aZ 33 rfl (h:=aZ 34 rfl (h:=aZ 35 rfl (h:=aZ 36 rfl (h:=aZ 37 rfl (h:=aPT 38 rfl (h:=ZC kr kr ?_)))))))
 refine Zf (Zc (t:=true) rfl (fun _=>Za (xA (h:=Zi (ZM (Zs (Zaa (ZM (Zs ?_)))))))) (fun h=>Bool.noConfusion h))
 exact Z2 .ret (.inl rfl) [_] t1 ⟨Zn (ZcD hm hs (by simp [ZbT,Z6,DFolder.box,g1,g2,g3,g4];try omega)).symm,rfl,rfl⟩
 try simp only [sQ,ne_eq] at g4
 refine aW 19 rfl Zbh (h:=aT 20 rfl (Zak fun D=>Z8 [_,_] rfl rfl ZbD rfl (Zaj 1 rfl rfl rfl) r4) (h:=aT 21 rfl (Zak fun D=>ZaC rfl rfl ZvG rfl (Zga _ _ (⟨m.next,m.mail⟩:DBox) _ hm5) r4) (h:=aN 22 rfl (h:=aPF 23 rfl (h:=aM 24 rfl (h:=Zal (d:=41) rfl (fun g5=>?_) (fun g5=>?_)))))))
 try simp only [sQ,ne_eq] at g5
 refine aZ 25 rfl (h:=aZ 26 rfl (h:=aZ 27 rfl (h:=aZ 28 rfl (h:=aZ 29 rfl (h:=aZ 30 rfl (h:=aZ 31 rfl (h:=aZ 32 rfl (h:=aZ 33 rfl (h:=aZ 34 rfl (h:=aZ 35 rfl (h:=aZ 36 rfl (h:=aZ 37 rfl (h:=?_)))))))))))))
 refine aPT 38 rfl (h:=ZC kr kr ?_)
 refine Zf (Zc (t:=true) rfl (fun _=>Za (xA (h:=Zi (ZM (Zs (Zaa (ZM (Zs ?_)))))))) (fun h=>Bool.noConfusion h))
 exact Z2 .ret (.inl rfl) [_] t1 ⟨Zn (ZcD hm hs (by simp [ZbT,Z6,DFolder.box,g1,g2,g3,g4,g5];try omega)).symm,rfl,rfl⟩
 try simp only [sQ,ne_eq] at g5
 refine aM 25 rfl (h:=Zhq 26 rfl (h:=aM 27 rfl (h:=Zal (d:=44) rfl (fun g6=>?_) (fun g6=>?_))))
 try simp only [sQ,ne_eq] at g6
 refine aW 28 rfl ZZ (h:=aT 29 rfl (Zak fun D=>Zl rfl rfl Zb3 rfl (atL 0 rfl rfl rfl) r4) (h:=aM 30 rfl (h:=aU 31 rfl (h:=?_))))
 obtain ⟨y,hy⟩:=Zex (xs:=x.folders) (i:=(↑g.1 - 1)) om om
 obtain ⟨_,⟨qg12,cg12,qm12,cm12,rfl,hg12,hm12,hb12,hb12b⟩,hc12⟩:=hf.elem hy
 have hg12n:=hg12.len
 have hm12n:=hm12.len
 have hm12s:=ZS hm12
 refine aIx 32 rfl Tryz.underlying24 ZaD (h:=?_)
 have hpe:=hp.at hy oz
 refine aT 33 rfl (Zak fun D=>Z8 [_,_,_,_,_] rfl rfl Zfn rfl (Zh9 hc12 0 rfl rfl) r4) (h:=aT 34 rfl (Zak fun D=>Z8 [_,_,_,_,_] rfl rfl Zfn rfl (Zaj 1 rfl rfl rfl) r4) (h:=aT 35 rfl (Zak fun D=>ZaC rfl rfl Zxb rfl (Zlt y m _ _ _ _ _ _ _ _ _) r4) (h:=aN 36 rfl (h:=aPT 37 rfl (h:=aPF 38 rfl (h:=ZC kr kr ?_))))))
 refine Zf (Zc rfl (fun g7=>?_) (fun g7=>?_))
 try simp only [sQ,ne_eq] at g7
 refine Za (xA (h:=Zi (ZM (Zs (Zaa (ZM (Zs ?_)))))))
 exact Z2 .ret (.inl rfl) [_] t1 ⟨Zn (ZcD hm hs (by simp [ZbT,Z6,DFolder.box,g1,g2,g3,g4,g5,g6,g7,hpe];try omega)).symm,rfl,rfl⟩
 try simp only [sQ,ne_eq] at g7
 refine Zh (Zy (Zf (Zd (xM (h:=xD (h:=xA (h:=?_)))))))
 exact ZA (g.1+1,some m) [0] so2 ⟨rfl,oz,Zcg hm hs (by rw [hpe];simp [ZbT,Z6,DFolder.box,g3,g4,g5,g7];omega),.succ hm⟩ t3 rfl
 try simp only [sQ,ne_eq] at g6
 refine aZ 28 rfl (h:=aZ 29 rfl (h:=aZ 30 rfl (h:=aZ 31 rfl (h:=aZ 32 rfl (h:=aZ 33 rfl (h:=aZ 34 rfl (h:=aZ 35 rfl (h:=aZ 36 rfl (h:=aPF 37 rfl (h:=aPF 38 rfl (h:=ZC kr kr ?_)))))))))))
 refine Zf (Zc (t:=false) rfl (fun h=>Bool.noConfusion h) (fun _=>Zh (Zy (Zf (Zd (xM (h:=xD (h:=xA (h:=?_)))))))))
 exact ZA (g.1+1,some m) [0] so2 ⟨rfl,oz,Zcg hm hs (by rw [hp.at0 oz];simp [ZbT,Z6,DFolder.box,g3,g4,g5];omega),.succ hm⟩ t3 rfl
 try simp only [sQ,ne_eq] at g1
 refine ZU (Zad (ZV (ZF (Zf (Za (xW ZZ (h:=x1 Zb3 0 (h:=xV Tryz.underlying24 (h:=ZcE (h:=xA (h:=Zi ?_)))))))))))
 exact Z2 .ret (.inl rfl) [_] t1 ⟨Zn (by rw [Zkr (ZdP hs oz),Bool.eq_iff_iff];simp;try omega),rfl,rfl⟩

set_option maxHeartbeats 400000 in
theorem ZaS (q1 q2 q3:Option Addr) (c1 c2 c3:Nat) (x:DHost) (hd:x.domain.length≤2000000) (B:Kn) (hu:SlK B q1 c1 3 Zg x.users) (hf:SlK B q2 c2 5 Zb x.folders) (hi:SlK B q3 c3 4 Zj x.queue.items):Za1 (pj J) 11 [.agg #[str x.domain,.slice q1 x.users.length c1,.slice q2 x.folders.length c2,.int .i64 x.queue.next,.slice q3 x.queue.items.length c3]] B (.bool (Zz x)):=by
 refine Ze 87 Tryz.func11 rfl rfl rfl (Nat.le_of_ble_eq_true rfl) ?_
 have hfn:=hf.len
 have hun:=hu.len
 have hin:=hi.len
 refine Za (xBx [_,_,_,_,_] (h:=fun b1=>xA (h:=Zw [_] rfl (Zk (Za (xW ZnC (h:=x1 lk9 0 (h:=xR Zx6 rfl (Zk4 _ om2 _) (h:=?_)))))))))
 refine xN (h:=xM (h:=Zt (d:=10) rfl (fun g1=>?_) (fun g1=>?_)))
 try simp only [sQ,ne_eq] at g1
 refine xP (h:=xP (h:=xP (h:=xP (h:=xT (h:=xM (h:=xP (h:=xP (h:=xP (h:=xP (h:=xT (h:=xM (h:=xP (h:=?_)))))))))))))
 refine xP (h:=xP (h:=xT (h:=Zc (t:=true) rfl (fun _=>Za (xA (h:=Zi (Zs ?_)))) (fun h=>Bool.noConfusion h))))
 exact Z2 .ret (.inl rfl) [_] t1 ⟨Zn (by simp [Zz,g1]),rfl,rfl⟩
 try simp only [sQ,ne_eq] at g1
 refine xW ZbN (h:=x1 Zim 0 (h:=xR Zx5 rfl (Zmg _ _ _ _ hu) (h:=xN (h:=xF (h:=xM (h:=Zt (d:=16) rfl (fun g2=>?_) (fun g2=>?_)))))))
 try simp only [sQ,ne_eq] at g2
 refine xP (h:=xP (h:=xP (h:=xP (h:=xT (h:=xM (h:=xP (h:=xP (h:=xP (h:=xT (h:=Zc (t:=true) rfl (fun _=>Za (xA (h:=?_))) (fun h=>Bool.noConfusion h)))))))))))
 refine Zi (Zs ?_)
 exact Z2 .ret (.inl rfl) [_] t1 ⟨Zn (by simp [Zz,g1,g2]),rfl,rfl⟩
 try simp only [sQ,ne_eq] at g2
 refine xW ZcG (h:=xL [_,_] Zel 0 (h:=xR Zwl rfl (ZfF _ _ x.queue _ hi) (h:=xN (h:=xF (h:=xM (h:=Zt (d:=22) rfl (fun g3=>?_) (fun g3=>?_)))))))
 try simp only [sQ,ne_eq] at g3
 refine xP (h:=xP (h:=xP (h:=xT (h:=Zc (t:=true) rfl (fun _=>Za (xA (h:=Zi (Zs ?_)))) (fun h=>Bool.noConfusion h)))))
 exact Z2 .ret (.inl rfl) [_] t1 ⟨Zn (by simp [Zz,g1,g2,g3]),rfl,rfl⟩
 try simp only [sQ,ne_eq] at g3
 refine xL [_,_,_,_,_] Z3 0 (h:=xR Zx4 rfl (Zlu _ _ _ _ _ _ x _ hu hf) (h:=xN (h:=xF (h:=Zc rfl (fun g4=>?_) (fun g4=>?_)))))
 try simp only [sQ,ne_eq] at g4
 refine Za (xA (h:=Zi (Zs ?_)))
 exact Z2 .ret (.inl rfl) [_] t1 ⟨Zn (by simp [Zz,g1,g2,g3,g4]),rfl,rfl⟩
 try simp only [sQ,ne_eq] at g4
 refine Zh (Zf (Zk (Za (xA (h:=Zo (ZR (α:=Nat) [0,1,26] (fun k=>[(3,.int .i64 k)]) [] (fun k=>[]) (fun k Bx=>Bx=B∧k≤x.users.length∧∀z,z∈x.users.take k→ZaR x.folders z=true) (fun k=>x.users.length - k) 0 t1 rfl (⟨rfl,Nat.zero_le _,by simp⟩) (fun k B6 hle6 hI=>?_)))))))
 obtain ⟨rfl,hk,ha⟩:=hI
 refine ZP [(0,_),(1,_),(3,_),(26,_)] [_] t4 rfl (Zk (Za (xM (h:=xW ZbN (h:=x1 Zim 0 (h:=xV Tryz.underlying23 (h:=Zae (h:=Zc rfl (fun g5=>?_) (fun g5=>?_)))))))))
 try simp only [sQ,ne_eq] at g5
 refine Zh (Zf (Zk (Zo (Zk (Z7 (same _ _) mo kr ⟨rfl,rfl⟩ (fun _ _=>?_))))))
 refine aT 0 rfl (Zak fun D=>Z8 [_,_,_,_,_] rfl rfl Z3 rfl (Zaj 0 rfl rfl rfl) r4) (h:=aW 1 rfl ZbN (h:=aT 2 rfl (Zak fun D=>Zl rfl rfl Zim rfl (atL 0 rfl rfl rfl) r4) (h:=aM 3 rfl (h:=?_))))
 obtain ⟨w,hw⟩:=Zan (xs:=x.users) (i:=k) om
 obtain ⟨bb8,oo8,rfl⟩:=hu.base hw
 obtain ⟨_,⟨rfl,hb9,hb9b⟩,hc9⟩:=hu.elem hw
 refine aIx 4 rfl Tryz.underlying23 ZeJ (h:=aW 5 rfl Zc0 (h:=aT 6 rfl (Zak fun D=>Zl rfl rfl lk9 rfl (hc9 _ 0 _ rfl) r4) (h:=aT 7 rfl (Zak fun D=>ZaC rfl rfl Zt7 rfl (Zdp _ _ _ _ _ _ x w.name [105,110,98,111,120] om2 om2 _ hf) r4) (h:=?_))))
 refine Zq6 8 rfl (h:=aM 9 rfl (h:=Zal (d:=43) rfl (fun g6=>?_) (fun g6=>?_)))
 try simp only [sQ,ne_eq] at g6
 refine aZ 10 rfl (h:=aZ 11 rfl (h:=aZ 12 rfl (h:=aZ 13 rfl (h:=aZ 14 rfl (h:=aZ 15 rfl (h:=aZ 16 rfl (h:=aZ 17 rfl (h:=aZ 18 rfl (h:=aZ 19 rfl (h:=aZ 20 rfl (h:=aZ 21 rfl (h:=aZ 22 rfl (h:=?_)))))))))))))
 refine aZ 23 rfl (h:=aZ 24 rfl (h:=aPT 25 rfl (h:=ZC kr kr ?_)))
 refine Zf (Zc (t:=true) rfl (fun _=>Za (xA (h:=Zi (ZM (Zs (Zaa (ZM (Zs ?_)))))))) (fun h=>Bool.noConfusion h))
 exact Z2 .ret (.inl rfl) [_] t1 ⟨Zn (Ziy hw (ZkU g6)).symm,rfl,rfl⟩
 try simp only [sQ,ne_eq] at g6
 refine aT 10 rfl (Zak fun D=>Z8 [_,_,_,_,_] rfl rfl Z3 rfl (Zaj 0 rfl rfl rfl) r4) (h:=aW 11 rfl ZbN (h:=aT 12 rfl (Zak fun D=>Zl rfl rfl Zim rfl (atL 0 rfl rfl rfl) r4) (h:=aM 13 rfl (h:=aIx 14 rfl Tryz.underlying23 ZeJ (h:=aW 15 rfl Zc0 (h:=aT 16 rfl (Zak fun D=>Zl rfl rfl lk9 rfl (hc9 _ 0 _ rfl) r4) (h:=aT 17 rfl (Zak fun D=>ZaC rfl rfl Zxi rfl (Zls _ _ _ _ _ _ x _ _ hf) r4) (h:=aW 18 rfl ZbN (h:=aT 19 rfl (Zak fun D=>Zl rfl rfl Zim rfl (atL 0 rfl rfl rfl) r4) (h:=aM 20 rfl (h:=aIx 21 rfl Tryz.underlying23 ZeJ (h:=aW 22 rfl ZiI (h:=?_)))))))))))))
 refine aT 23 rfl (Zak fun D=>Zl rfl rfl lk3 rfl (hc9 _ 2 _ rfl) r4) (h:=Zhq 24 rfl (h:=aPF 25 rfl (h:=ZC kr kr ?_)))
 refine Zf (Zc rfl (fun g7=>?_) (fun g7=>?_))
 try simp only [sQ,ne_eq] at g7
 refine Za (xA (h:=Zi (ZM (Zs (Zaa (ZM (Zs ?_)))))))
 exact Z2 .ret (.inl rfl) [_] t1 ⟨Zn (Ziy hw (ZkT g7)).symm,rfl,rfl⟩
 try simp only [sQ,ne_eq] at g7
 refine Zh (Zy (Zf (Zd (xM (h:=xD (h:=xA (h:=?_)))))))
 exact ZA (k+1) [0] so2 ⟨rfl,oz,Zbo hw ha (ZkS g6 g7)⟩ t4 rfl
 try simp only [sQ,ne_eq] at g5
 refine ZU (Zad (ZV (ZF (Zf (Zk (Za (xA (h:=Zo (ZR (α:=Nat) [0,1,3,26,31] (fun j=>[(4,.int .i64 j)]) [] (fun j=>[]) (fun j Bx=>Bx=B6∧j≤x.queue.items.length∧∀z,z∈x.queue.items.take j→ZaH x.users z=true) (fun j=>x.queue.items.length - j) 0 t1 rfl (⟨rfl,Nat.zero_le _,by simp⟩) (fun j B12 hle12 hI=>?_))))))))))
 obtain ⟨rfl,hj,hb⟩:=hI
 refine ZP [(0,_),(1,_),(3,_),(4,_),(26,_),(31,_)] [_] t6 rfl (Zk (Za (xM (h:=xW ZcG (h:=xW ZaM (h:=x1 ZfP 0 (h:=xV Tryz.underlying25 (h:=Zae (h:=Zc rfl (fun g8=>?_) (fun g8=>?_))))))))))
 try simp only [sQ,ne_eq] at g8
 refine Zh (Zf (Zk (Zo (Za (xW ZcG (h:=xW ZaM (h:=x1 ZfP 0 (h:=xM (h:=?_)))))))))
 obtain ⟨y,hy⟩:=Zan (xs:=x.queue.items) (i:=j) om
 obtain ⟨bb14,oo14,rfl⟩:=hi.base hy
 obtain ⟨_,⟨qi15,ci15,rfl,hi15,hb15,hb15b⟩,hc15⟩:=hi.elem hy
 have hi15n:=hi15.len
 refine xIx Tryz.underlying25 ZeA (h:=yL [_,_,_,_] Zl3 hc15 0 (h:=xAl [_,_,_,_] Zi3 (h:=fun b16=>xS [_,_,_,_] 1 [_,_,_,_] ZeA (h:=Zw [_,_] rfl (Za (xW ZbN (h:=x1 Zim 0 (h:=xW ZnB (h:=x1 lk9 1 (h:=xR Zrf rfl (Zcc _ _ _ _ _ hu) (h:=Zae (h:=xM (h:=?_)))))))))))))
 refine Zt (d:=80) rfl (fun g9=>?_) (fun g9=>?_)
 try simp only [sQ,ne_eq] at g9
 refine xP (h:=xP (h:=xP (h:=xP (h:=xP (h:=xT (h:=Zc (t:=true) rfl (fun _=>Za (xA (h:=Zi (ZM (Zs (Zaa (ZM (Zs ?_)))))))) (fun h=>Bool.noConfusion h)))))))
 exact Z2 .ret (.inl rfl) [_] t1 ⟨Zn (Ziz hy (Zkj g9)).symm,rfl,rfl⟩
 try simp only [sQ,ne_eq] at g9
 refine xL [_,_,_,_,_] Z3 0 (h:=xW ZbM (h:=x1 ZhA 1 (h:=xR Zxh rfl (ZjF _ _ _ _ _ _ x _ _ y.left _ hu hi15) (h:=xN (h:=xF (h:=Zc rfl (fun ga=>?_) (fun ga=>?_)))))))
 try simp only [sQ,ne_eq] at ga
 refine Za (xA (h:=Zi (ZM (Zs (Zaa (ZM (Zs ?_)))))))
 exact Z2 .ret (.inl rfl) [_] t1 ⟨Zn (Ziz hy (Zki ga)).symm,rfl,rfl⟩
 try simp only [sQ,ne_eq] at ga
 refine Zh (Zy (Zf (Zd (xM (h:=xD (h:=xA (h:=?_)))))))
 exact ZA (j+1) [0] so2 ⟨rfl,oz,Zbo hy hb (Zkh g9 ga)⟩ t6 rfl
 try simp only [sQ,ne_eq] at g8
 refine ZU (Zad (ZV (ZF (Zf (Za (xA (h:=Zi ?_)))))))
 exact Z2 .ret (.inl rfl) [_] t1 ⟨Zn (ZoB g1 g2 g3 g4 (Zet (ZbA oz ha)) (Zet (ZbA oz hb))).symm,rfl,rfl⟩

set_option maxHeartbeats 400000 in
theorem ZnT (q:Option Addr) (cp:Nat) (gs:List DGrant) (B:Kn) (hg:SlK B q cp 2 Zx gs):ZN (pj J) 40 [.slice q gs.length cp] B [] (Zm4 gs B):=by
 refine Ze 46 Tryz.func40 rfl rfl rfl (Nat.le_of_ble_eq_true rfl) ?_
 have hgn:=hg.len
 refine Za (xA (h:=xA (h:=Zk (Za (xM (h:=xV Tryz.underlying36 (h:=Zbx (h:=Zc rfl (fun g0=>?_) (fun g0=>?_)))))))))
 try simp only [sQ,ne_eq] at g0
 refine Za (xA (h:=xA (h:=Zi (Zs ?_))))
 exact ZiO .ret (.inl rfl) [_,_] t2 (by simp [ZbR];omega)
 try simp only [sQ,ne_eq] at g0
 refine Zh (Zf (Za (Zp (Zpc rfl rfl (fun b1 l1 hl1=>xA (h:=Zw [_] rfl (Za (xA (h:=Zk (Za (xM (h:=xV Tryz.underlying36 (h:=xM (h:=?_))))))))))))))
 refine Zo (ZR (α:=Nat × Str × Cells) [0,4,10,12,13] (fun g=>[(5,str g.2.1),(14,.int .i64 g.1)]) [0] (fun g=>[g.2.2]) (fun g Bx=>Bx=B∧g.1≤gs.length∧ZcZ (gs.take g.1)=(true,g.2.1)∧g.2.1.length≤2000000∧Zun g.2.2 b1 (ZeB (gs.take g.1))) (fun g=>gs.length - g.1) (0,[],_) t2 rfl (⟨rfl,Nat.zero_le _,ZeM,by simp,hl1⟩) (fun g B2 hle2 hI=>?_))
 obtain ⟨rfl,hk,hs,hnm,hml⟩:=hI
 refine ZP [(0,_),(4,_),(5,_),(10,_),(12,_),(13,_),(14,_)] [_] t7 rfl (Za (Zae (h:=Zk (Zc rfl (fun g1=>?_) (fun g1=>?_)))))
 try simp only [sQ,ne_eq] at g1
 refine Zh (Zf (Zk (Zo (Za ?_))))
 obtain ⟨m,hm⟩:=Zan (xs:=gs) (i:=g.1) om
 obtain ⟨bb4,oo4,rfl⟩:=hg.base hm
 obtain ⟨_,⟨rfl,hb5⟩,hc5⟩:=hg.elem hm
 refine xIx Tryz.underlying36 Zbn (h:=yL [_,_] Zoq hc5 0 (h:=xAl [_,_] ZcH (h:=fun b6=>xS [_,_] 1 [_,_] Zbn (h:=Zw [_,_] rfl (Zk (Za (xW ZcO (h:=x1 lk9 1 (h:=xR Zs4 rfl (Zcp _ om2 _) (h:=?_))))))))))
 refine xN (h:=xM (h:=Zt (d:=22) rfl (fun g2=>?_) (fun g2=>?_)))
 try simp only [sQ,ne_eq] at g2
 refine xP (h:=xP (h:=xP (h:=xP (h:=xT (h:=Zc (t:=true) rfl (fun _=>Za (xA (h:=xA (h:=Zi (Zs (ZM (Zs (Zaa (ZM (Zs ?_)))))))))) (fun h=>Bool.noConfusion h))))))
 exact ZiO .ret (.inl rfl) [_,_] t2 (Zdy hm hs (by rw [Zcs,Zbq g.2.1 m.user];simp [g2];try omega))
 try simp only [sQ,ne_eq] at g2
 refine xW ZcO (h:=x1 lk9 1 (h:=xM (h:=Zp (ZsV rfl rfl rfl rfl (xF (h:=Zc rfl (fun g3=>?_) (fun g3=>?_)))))))
 try simp only [sQ,ne_eq] at g3
 refine Za (xA (h:=xA (h:=Zi (Zs (ZM (Zs (Zaa (ZM (Zs ?_)))))))))
 exact ZiO .ret (.inl rfl) [_,_] t2 (Zdy hm hs (by rw [Zcs,Zbq g.2.1 m.user];simp [g3];try omega))
 try simp only [sQ,ne_eq] at g3
 refine Zh (Zf (Zk (Za (xW ZgM (h:=x1 lk3 1 (h:=Zae (h:=xM (h:=Zt (d:=31) rfl (fun g4=>?_) (fun g4=>?_)))))))))
 try simp only [sQ,ne_eq] at g4
 refine xP (h:=xP (h:=xP (h:=xP (h:=xT (h:=Zc (t:=true) rfl (fun _=>Za (xA (h:=xA (h:=Zi (Zs (ZM (Zs (Zaa (ZM (Zs ?_)))))))))) (fun h=>Bool.noConfusion h))))))
 exact ZiO .ret (.inl rfl) [_,_] t2 (Zdy hm hs (by rw [Zcs,Zbq g.2.1 m.user];simp [g4];try omega))
 try simp only [sQ,ne_eq] at g4
 refine xW ZgM (h:=x1 lk3 1 (h:=xR ZxO rfl (Zry _ _) (h:=xN (h:=xF (h:=Zc rfl (fun g5=>?_) (fun g5=>?_))))))
 try simp only [sQ,ne_eq] at g5
 refine Za (xA (h:=xA (h:=Zi (Zs (ZM (Zs (Zaa (ZM (Zs ?_)))))))))
 exact ZiO .ret (.inl rfl) [_,_] t2 (Zdy hm hs (Bool.eq_false_iff.2 fun hc=>by simp only [Zcs,Bool.and_eq_true,decide_eq_true_eq] at hc;simp only [Bool.and_eq_false_iff,decide_eq_false_iff_not] at g5;omega))
 try simp only [sQ,ne_eq] at g5
 refine Zh (Zf (Za (xM (h:=xW ZcO (h:=x1 lk9 1 (h:=xW ZgM (h:=x1 lk3 1 (h:=Zp (Zl5 (k:=m.user) (v:=m.rights) 0 rfl hml rfl rfl Tryz.underlying76 Tryz.underlying9 rfl rfl rfl (fun l9 hl9=>Zw [_,_] rfl (Zd (xW ZcO (h:=x1 lk9 1 (h:=?_))))))))))))))
 refine xA (h:=Zy (Zf (Zd (xD (h:=xM (h:=?_))))))
 exact ZA (g.1+1,m.user,l9) [0] so2 ⟨rfl,so,Zcg hm hs (by rw [Zcs,Zbq g.2.1 m.user,g2,g3];simp at g5 ⊢;omega),oy,by rw [← ZtN hm hs (by rw [Zbq g.2.1 m.user,g3];rfl)];exact hl9⟩ t7 rfl
 try simp only [sQ,ne_eq] at g1
 refine ZU (Zad (ZV (ZF (Zf (Za (xM (h:=xA (h:=xA (h:=Zi ?_)))))))))
 exact Zt5 .ret (.inl rfl) [_,_] rfl t2 (by rw [Zl0 (ZdP hs oz)];simp;omega) (by have e:=hml;rw [List.take_of_length_le oz] at e;exact e)

set_option maxHeartbeats 400000 in
theorem Zqd (q:Option Addr) (cp:Nat) (gs:List DGrant) (B:Kn) (hg:SlK B q cp 2 Zx gs):Za1 (pj J) 84 [.slice q gs.length cp] B (.bool (ZbR gs)):=by
 refine Ze 11 Tryz.func84 rfl rfl rfl (Nat.le_of_ble_eq_true rfl) ?_
 refine Za (xA (h:=Za (xM (h:=Zp (Zaf rfl rfl Zxe rfl (ZnT _ _ _ _ hg) ?_)))))
 rintro _ _ _ hle1 ⟨m1,l1,rfl,rfl,rfl,hl1⟩
 refine xM (h:=xE (h:=xE (h:=xA (h:=xA (h:=Zw [_] rfl (Za (xM (h:=xA (h:=Zi ?_)))))))))
 exact Z2 .ret (.inl rfl) [_] t1 ⟨rfl,rfl,rfl⟩

set_option maxHeartbeats 400000 in
theorem Zvl (a b:Str) (B:Kn):Za1 (pj J) 107 [str a,str b] B (.int .i64 (Lib.compareBytes a b)):=by
 refine Ze 8 Tryz.func107 rfl rfl rfl (Nat.le_of_ble_eq_true rfl) ?_
 refine Za (xA (h:=Za (xM (h:=xM (h:=Zp (ZvU (fn:=Tryz.f146) rfl rfl Tryz.func146 rfl rfl Zu4 Zu5 rfl rfl (xA (h:=Zi ?_))))))))
 exact Z2 .ret (.inl rfl) [_] t1 ⟨rfl,rfl,rfl⟩

set_option maxHeartbeats 400000 in
theorem Zs6 (a b:Str) (B:Kn):Za1 (pj J) 80 [str a,str b] B (.int .i64 (Lib.compareBytes a b)):=by
 refine Ze 8 Tryz.func80 rfl rfl rfl (Nat.le_of_ble_eq_true rfl) ?_
 refine Za (xA (h:=Za (xM (h:=xM (h:=xR ZwV rfl (Zvl a b _) (h:=xA (h:=Zi ?_)))))))
 exact Z2 .ret (.inl rfl) [_] t1 ⟨rfl,rfl,rfl⟩

set_option maxHeartbeats 400000 in
theorem ZmN (f:DFolder) (qa qb:Option Addr) (ca cb:Nat) (ow nm:Str) (B:Kn):Za1 (pj J) 49 [.agg #[str f.owner,str f.name,.slice qa f.grants.length ca,.int .i64 f.next,.slice qb f.mail.length cb],str ow,str nm] B (.int .i64 (Zvk f ow nm)):=by
 refine Ze 19 Tryz.func49 rfl rfl rfl (Nat.le_of_ble_eq_true rfl) ?_
 refine Za (xBx [_,_,_,_,_] (h:=fun b1=>xA (h:=Zw [_] rfl (Zk (Za (xW Zbi (h:=x1 lk9 0 (h:=xM (h:=xR Zw9 rfl (Zs6 f.owner ow _) (h:=xA (h:=Za (xM (h:=?_)))))))))))))
 refine Zc5 (h:=Zc rfl (fun g1=>?_) (fun g1=>?_))
 try simp only [sQ,ne_eq] at g1
 refine Za (xM (h:=xA (h:=Zi (Zs ?_))))
 exact Z2 .ret (.inl rfl) [_] t1 ⟨ZaW (by rw [Zvk,if_pos g1]),rfl,rfl⟩
 try simp only [sQ,ne_eq] at g1
 refine Zh (Zf (Za (xW Zc1 (h:=x1 lk9 0 (h:=xM (h:=xR Zw9 rfl (Zs6 f.name nm _) (h:=xA (h:=Zi ?_))))))))
 exact Z2 .ret (.inl rfl) [_] t1 ⟨ZaW (by rw [Zvk,if_neg (fun h=>h g1)]),rfl,rfl⟩

set_option maxHeartbeats 400000 in
theorem ZuK (b o:Nat) (q1 q2 q3:Option Addr) (c1 c2 c3:Nat) (x:DHost) (u:Str) (B:Kn) (hh:Zbv B b o [str x.domain,.slice q1 x.users.length c1,.slice q2 x.folders.length c2,.int .i64 x.queue.next,.slice q3 x.queue.items.length c3]) (hf:SlK B q2 c2 5 Zb x.folders):Za1 (pj J) 128 [ptr ⟨b,o,none⟩,str u] B (.int .i64 (ZfC x.folders u)):=by
 refine Ze 28 Tryz.func128 rfl rfl rfl (Nat.le_of_ble_eq_true rfl) ?_
 have hfn:=hf.len
 refine Za (xA (h:=Za (xA (h:=Zk (Za (xM (h:=xNc (h:=xW ZZ (h:=Zp (Zl rfl rfl Zb3 rfl (hh _ 2 _ rfl) (xV Tryz.underlying24 (h:=xM (h:=Zo ?_)))))))))))))
 refine ZR (α:=Nat × Int) [0,1,4,11,12] (fun g=>[(5,.int .i64 g.2),(13,.int .i64 g.1)]) [] (fun g=>[]) (fun g Bx=>Bx=B∧g.1≤x.folders.length∧g.2=ZfC (x.folders.take g.1) u∧-1*g.1≤g.2∧g.2≤g.1*200) (fun g=>x.folders.length - g.1) (0,0) t2 rfl (⟨rfl,Nat.zero_le _,by simp [ZfC],by simp,by simp⟩) (fun g B1 hle1 hI=>?_)
 obtain ⟨rfl,hk,hs,hl0,hl1⟩:=hI
 refine ZP [(0,_),(1,_),(4,_),(5,_),(11,_),(12,_),(13,_)] [] t7 rfl (Za (Zae (h:=Zk (Zc rfl (fun g1=>?_) (fun g1=>?_)))))
 try simp only [sQ,ne_eq] at g1
 refine Zh (Zf (Zk (Zo (Za ?_))))
 obtain ⟨m,hm⟩:=Zan (xs:=x.folders) (i:=g.1) om
 obtain ⟨bb3,oo3,rfl⟩:=hf.base hm
 obtain ⟨_,⟨qg4,cg4,qm4,cm4,rfl,hg4,hm4,hb4,hb4b⟩,hc4⟩:=hf.elem hm
 have hg4n:=hg4.len
 have hm4n:=hm4.len
 have hm4s:=ZS hm4
 refine xIx Tryz.underlying24 ZaD (h:=yL [_,_,_,_,_] Zfn hc4 0 (h:=xAl [_,_,_,_,_] Zb8 (h:=fun b5=>xS [_,_,_,_,_] 0 [_,_,_,_,_] ZaD (h:=Zw [_] rfl (Za (xW Zbi (h:=x1 lk9 0 (h:=xM (h:=ZcF (h:=Zc rfl (fun g2=>?_) (fun g2=>?_)))))))))))
 try simp only [sQ,ne_eq] at g2
 have hbs:=ZjT (⟨m.next,m.mail⟩:DBox)
 refine Zd (xM (h:=xW Zbh (h:=xL [_,_] ZbD 0 (h:=xR ZwJ rfl (ZqU _ _ (⟨m.next,m.mail⟩:DBox) _ hm4) (h:=xD (h:=xA (h:=Zy (Zf (Zd (xD (h:=xM (h:=?_))))))))))))
 exact ZA (g.1+1,g.2+ZdW ⟨m.next,m.mail⟩) [] so2 ⟨rfl,so,by rw [Zjm hm,← hs,if_pos g2],so,so⟩ t7 rfl
 try simp only [sQ,ne_eq] at g2
 refine Zh (Zy (Zf (Zd (xD (h:=xM (h:=?_))))))
 exact ZA (g.1+1,g.2) [] so2 ⟨rfl,so,by rw [Zjm hm,← hs,if_neg g2,Int.add_zero],so,so⟩ t7 rfl
 try simp only [sQ,ne_eq] at g1
 refine ZU (Zad (ZV (ZF (Zf (Za (xM (h:=xA (h:=Zi ?_))))))))
 exact Z2 .ret (.inl rfl) [_] t1 ⟨ZaW (by rw [← Zpl hs oz]),rfl,rfl⟩

set_option maxHeartbeats 400000 in
theorem ZqD (b o:Nat) (q1 q2 q3:Option Addr) (c1 c2 c3:Nat) (x:DHost) (u:Str) (more:Int) (hn:u.length≤2000000) (hm0:0≤more) (hm1:more≤2000000) (B:Kn) (hh:Zbv B b o [str x.domain,.slice q1 x.users.length c1,.slice q2 x.folders.length c2,.int .i64 x.queue.next,.slice q3 x.queue.items.length c3]) (hu:SlK B q1 c1 3 Zg x.users) (hf:SlK B q2 c2 5 Zb x.folders):Za1 (pj J) 88 [ptr ⟨b,o,none⟩,str u,.int .i64 more] B (.bool (Zer x u more)):=by
 refine Ze 30 Tryz.func88 rfl rfl rfl (Nat.le_of_ble_eq_true rfl) ?_
 have hfn:=hf.len
 have hub:=Zrs x.folders u
 refine Za (xA (h:=Za (xM (h:=xNc (h:=xW ZbN (h:=Zp (Zl rfl rfl Zim rfl (hh _ 1 _ rfl) (xM (h:=xR Zw7 rfl (ZhW _ _ _ u om2 _ hu) (h:=?_))))))))))
 refine xM (h:=xE (h:=xE (h:=xAl [_,_,_] Zgw (h:=fun b2=>xS [_,_,_] 0 [_,_,_] ZeJ (h:=xA (h:=Zw [_] rfl (Zk (Z7 (same _ _) mo kr ⟨rfl,rfl⟩ (fun _ _=>?_)))))))))
 refine aM 0 rfl (h:=aN 1 rfl (h:=aM 2 rfl (h:=Zal (d:=20) rfl (fun g1=>?_) (fun g1=>?_))))
 try simp only [sQ,ne_eq] at g1
 refine aZ 3 rfl (h:=aZ 4 rfl (h:=aZ 5 rfl (h:=aZ 6 rfl (h:=aZ 7 rfl (h:=aZ 8 rfl (h:=aZ 9 rfl (h:=aZ 10 rfl (h:=aPT 11 rfl (h:=aA 12 rfl (h:=ZC kr kr ?_))))))))))
 refine Zf (Zi ?_)
 exact Z2 .ret (.inl rfl) [_] t1 ⟨Zn (by rw [Zer,g1];rfl),rfl,rfl⟩
 try simp only [sQ,ne_eq] at g1
 refine aM 3 rfl (h:=aM 4 rfl (h:=aT 5 rfl (Zak fun D=>ZaC rfl rfl ZwS rfl (ZuK _ _ _ _ _ _ _ _ x u _ hh hf) r4) (h:=aM 6 rfl (h:=aD 7 rfl (h:=aW 8 rfl ZiI (h:=aT 9 rfl (Zak fun D=>Zl rfl rfl lk3 rfl (atL 0 rfl rfl rfl) r4) (h:=Zhq 10 rfl (h:=aPF 11 rfl (h:=aA 12 rfl (h:=ZC kr kr ?_))))))))))
 refine Zf (Zi ?_)
 exact Z2 .ret (.inl rfl) [_] t1 ⟨Zn (by rw [Zer,g1];rfl),rfl,rfl⟩

set_option maxHeartbeats 400000 in
theorem ZnW (b o:Nat) (q1 q2 q3:Option Addr) (c1 c2 c3:Nat) (x:DHost) (B:Kn) (hh:Zbv B b o [str x.domain,.slice q1 x.users.length c1,.slice q2 x.folders.length c2,.int .i64 x.queue.next,.slice q3 x.queue.items.length c3]) (hu:SlK B q1 c1 3 Zg x.users) (hf:SlK B q2 c2 5 Zb x.folders):Za1 (pj J) 51 [ptr ⟨b,o,none⟩] B (.bool (ZhV x)):=by
 refine Ze 26 Tryz.func51 rfl rfl rfl (Nat.le_of_ble_eq_true rfl) ?_
 have hfn:=hf.len
 have hun:=hu.len
 refine Za (xA (h:=Zk (Za (xM (h:=xNc (h:=xW ZbN (h:=Zp (Zl rfl rfl Zim rfl (hh _ 1 _ rfl) (xV Tryz.underlying23 (h:=xM (h:=Zo (ZR (α:=Nat) [0,8,9] (fun k=>[(10,.int .i64 k)]) [] (fun k=>[]) (fun k Bx=>Bx=B∧k≤x.users.length∧∀z,z∈x.users.take k→ZcR x z=true) (fun k=>x.users.length - k) 0 t1 rfl (⟨rfl,Nat.zero_le _,by simp⟩) (fun k B1 hle1 hI=>?_)))))))))))))
 obtain ⟨rfl,hk,ha⟩:=hI
 refine ZP [(0,_),(8,_),(9,_),(10,_)] [] t4 rfl (Za (Zae (h:=Zk (Zc rfl (fun g1=>?_) (fun g1=>?_)))))
 try simp only [sQ,ne_eq] at g1
 refine Zh (Zf (Zk (Zo (Za ?_))))
 obtain ⟨w,hw⟩:=Zan (xs:=x.users) (i:=k) om
 obtain ⟨bb3,oo3,rfl⟩:=hu.base hw
 obtain ⟨_,⟨rfl,hb4,hb4b⟩,hc4⟩:=hu.elem hw
 refine xIx Tryz.underlying23 ZeJ (h:=yL [_,_,_] Zo0 hc4 0 (h:=xAl [_,_,_] Zgw (h:=fun b5=>xS [_,_,_] 0 [_,_,_] ZeJ (h:=Zw [_] rfl (Za (xM (h:=xW Zc0 (h:=x1 lk9 0 (h:=xR Zxd rfl (Zs3 _ _ _ _ _ _ _ _ x w.name [105,110,98,111,120] om2 om2 _ hh hf) (h:=?_))))))))))
 refine Zae (h:=xM (h:=Zt (d:=19) rfl (fun g2=>?_) (fun g2=>?_)))
 try simp only [sQ,ne_eq] at g2
 refine xP (h:=xP (h:=xP (h:=xP (h:=xT (h:=Zc (t:=true) rfl (fun _=>Za (xA (h:=Zi (ZM (Zs (Zaa (ZM (Zs ?_)))))))) (fun h=>Bool.noConfusion h))))))
 exact Z2 .ret (.inl rfl) [_] t1 ⟨Zn (ZcU hw (ZkX g2)).symm,rfl,rfl⟩
 try simp only [sQ,ne_eq] at g2
 refine xM (h:=xW Zc0 (h:=x1 lk9 0 (h:=xR ZxD rfl (ZqD _ _ _ _ _ _ _ _ x w.name 0 om2 om2 om2 _ hh hu hf) (h:=?_))))
 refine xF (h:=Zc rfl (fun g3=>?_) (fun g3=>?_))
 try simp only [sQ,ne_eq] at g3
 refine Za (xA (h:=Zi (ZM (Zs (Zaa (ZM (Zs ?_)))))))
 exact Z2 .ret (.inl rfl) [_] t1 ⟨Zn (ZcU hw (ZkW g3)).symm,rfl,rfl⟩
 try simp only [sQ,ne_eq] at g3
 refine Zh (Zy (Zf (Zd (xD (h:=xM (h:=?_))))))
 exact ZA (k+1) [] so2 ⟨rfl,oz,Zbo hw ha (ZkV g2 g3)⟩ t4 rfl
 try simp only [sQ,ne_eq] at g1
 refine ZU (Zad (ZV (ZF (Zf (Za (xA (h:=Zi ?_)))))))
 exact Z2 .ret (.inl rfl) [_] t1 ⟨Zn (Zet (ZbA oz ha)).symm,rfl,rfl⟩

set_option maxHeartbeats 400000 in
theorem Zr3 (q:Option Addr) (cp:Nat) (bs:List Bool) (v:Bool) (B:Kn) (hb:SlK B q cp 1 Zm5 bs):Za1 (pj J) 127 [.slice q bs.length cp,.bool v] B (.int .i64 (Za6 (fun y=>decide (v=y)) bs)):=by
 refine Ze 19 Tryz.func127 rfl rfl rfl (Nat.le_of_ble_eq_true rfl) ?_
 have hbn:=hb.len
 refine Za (xA (h:=Zk (Za (xM (h:=xV Tryz.underlying114 (h:=xM (h:=Zo (ZR (α:=Nat) [0,1,7] (fun k=>[(8,.int .i64 k)]) [] (fun k=>[]) (fun k Bx=>Bx=B∧k≤bs.length∧∀y,y∈bs.take k→decide (v=y)=false) (fun k=>bs.length - k) 0 t1 rfl (⟨rfl,Nat.zero_le _,by simp⟩) (fun k B1 hle1 hI=>?_)))))))))
 obtain ⟨rfl,hk,ha⟩:=hI
 refine ZP [(0,_),(1,_),(7,_),(8,_)] [] t4 rfl (Za (Zae (h:=Zk (Zc rfl (fun g1=>?_) (fun g1=>?_)))))
 try simp only [sQ,ne_eq] at g1
 refine Zh (Zf (Zk (Zo (Za (xM (h:=xA (h:=Za (xM (h:=xM (h:=xM (h:=?_)))))))))))
 obtain ⟨y,hy⟩:=Zan (xs:=bs) (i:=k) om
 obtain ⟨bb3,oo3,rfl⟩:=hb.base hy
 obtain ⟨_,rfl,hc4⟩:=hb.elem hy
 refine xIx Tryz.underlying114 sz4 (h:=y1 lk4 hc4 0 (h:=Zp (ZuH rfl rfl rfl rfl rfl (Zu7 Tryz.underlying4) (Zc rfl (fun g2=>?_) (fun g2=>?_)))))
 try simp only [sQ,ne_eq] at g2
 refine Za (xM (h:=xA (h:=Zi (ZM (Zs (Zaa (ZM (Zs ?_))))))))
 exact Z2 .ret (.inl rfl) [_] t1 ⟨ZaW (ZhE hy (decide_eq_true g2) ha).symm,rfl,rfl⟩
 try simp only [sQ,ne_eq] at g2
 refine Zh (Zy (Zf (Zd (xD (h:=xM (h:=?_))))))
 exact ZA (k+1) [] so2 ⟨rfl,oz,Zbo hy ha (decide_eq_false g2)⟩ t4 rfl
 try simp only [sQ,ne_eq] at g1
 refine ZU (Zad (ZV (ZF (Zf (Za (xA (h:=Zi ?_)))))))
 exact Z2 .ret (.inl rfl) [_] t1 ⟨ZaW (ZeY (ZbA oz ha)).symm,rfl,rfl⟩

set_option maxHeartbeats 400000 in
theorem ZmX (q:Option Addr) (cp:Nat) (bs:List Bool) (v:Bool) (B:Kn) (hb:SlK B q cp 1 Zm5 bs):Za1 (pj J) 87 [.slice q bs.length cp,.bool v] B (.bool (decide (0≤Za6 (fun y=>decide (v=y)) bs))):=by
 refine Ze 9 Tryz.func87 rfl rfl rfl (Nat.le_of_ble_eq_true rfl) ?_
 refine Za (xA (h:=Za (xM (h:=xM (h:=xR ZwT rfl (Zr3 _ _ _ _ _ hb) (h:=ZdB (h:=xA (h:=Zi ?_))))))))
 exact Z2 .ret (.inl rfl) [_] t1 ⟨rfl,rfl,rfl⟩

set_option maxHeartbeats 400000 in
theorem Zlz (l:Str) (hl:l.length≤2000000) (B:Kn):Za1 (pj J) 46 [str l] B (.bool (Zcj l)):=by
 refine Ze 16 Tryz.func46 rfl rfl rfl (Nat.le_of_ble_eq_true rfl) ?_
 refine Za (xA (h:=Za (xM (h:=xB [(0,_)] [_,_] [_,_] ZuV Zrj (h:=xAl [_,_] Zrj (h:=fun b1=>xS [_,_] 0 [_,_] ZuQ (h:=Zw [_] rfl (Za (Zp (Zji 0 rfl rfl rfl ZxL rfl (Zsq _ _ 0 oz oz _) ?_))))))))))
 refine xM (h:=xE (h:=xE (h:=xA (h:=xA (h:=Za (xM (h:=xM (h:=Zt (d:=13) rfl (fun g1=>?_) (fun g1=>?_)))))))))
 try simp only [sQ,ne_eq] at g1
 refine Zp (ZhR 0 rfl rfl rfl ZvF rfl (ZnM _ _ (dom l 0).2 (Zvj (Nat.zero_le _)) oz _) ?_)
 refine xT (h:=xA (h:=Zi ?_))
 exact Z2 .ret (.inl rfl) [_] t1 ⟨Zn (by rw [Bool.eq_iff_iff,← ZlL];simp [ZmU] at g1;simp [g1];try omega),rfl,rfl⟩
 try simp only [sQ,ne_eq] at g1
 refine xP (h:=xF (h:=xA (h:=Zi ?_)))
 exact Z2 .ret (.inl rfl) [_] t1 ⟨Zn (by symm;rw [Bool.eq_false_iff,ne_eq,← ZlL];intro hc;simp [ZmU,hc.1] at g1;omega),rfl,rfl⟩

set_option maxHeartbeats 800000 in
theorem Zkq (Wg C n i b o b1 b3 b5 b6:Nat) (q1 q2 q3:Option Addr) (c1 c2 c3:Nat) (x:DHost) (m:DFolder) (qg qm:Option Addr) (cg cm:Nat) (hin:i<n) (B:Kn) (hc900:Zbv B b o [str x.domain,.slice q1 x.users.length c1,.slice q2 x.folders.length c2,.int .i64 x.queue.next,.slice q3 x.queue.items.length c3]) (hu:SlK B q1 c1 3 Zg x.users) (hc901:Zbv B b1 0 [ptr ⟨b,o,none⟩]) (hc903:Zbv B b3 0 [.slice (some ⟨C,0,none⟩) n n]) (hc905:Zbv B b5 0 [.int .i64 i]) (hc906:Zbv B b6 0 [str m.owner,str m.name,.slice qg m.grants.length cg,.int .i64 m.next,.slice qm m.mail.length cm]) (hg:SlK B qg cg 2 Zx m.grants) (hm:SlK B qm cm 3 ZD m.mail) (ho:m.owner.length≤2000000) (hnm:m.name.length≤2000000):@Zev ⟨4⟩ Tryz.prog wgL.tWg Wg C n i (.bool (ZaY x.users m)) (Go.Conc.G (Frame.enter Tryz.prog 82 #[ptr ⟨Wg,0,none⟩,ptr ⟨b1,0,none⟩,ptr ⟨b6,0,none⟩,ptr ⟨b3,0,none⟩,ptr ⟨b5,0,none⟩] .deferred) [ZfY Tryz.prog]) B []:=by
 letI:Go.ConcR.Payload:=⟨4⟩
 refine Ztf (Lk:=wgL) (P:=Tryz.prog) (caps:=[ptr ⟨Wg,0,none⟩,ptr ⟨b1,0,none⟩,ptr ⟨b6,0,none⟩,ptr ⟨b3,0,none⟩,ptr ⟨b5,0,none⟩]) (nt:=27) (I:=keeps B [] []) (K:=fun _ _ _ _=>False) Zl4 Tryz.func82 rfl rfl (Nat.le_of_ble_eq_true rfl) rfl mo kr ⟨Kn.le.refl _,Zat.refl _ _⟩ (fun _ _ _ _ h=>h) ?_
 refine aT 0 rfl (ZG fun D B L hI=>Zl rfl rfl ZuZ rfl ((hc903.mono hI.1) _ 0 _ rfl) r4) (h:=aT 1 rfl (ZG fun D B L hI=>Zl rfl rfl lk3 rfl ((hc905.mono hI.1) _ 0 _ rfl) r4) (h:=aT 2 rfl (ZG fun D B L hI=>Zl rfl rfl Zwc rfl ((hc901.mono hI.1) _ 0 _ rfl) r4) (h:=aW 3 rfl Zbi (h:=aT 4 rfl (ZG fun D B L hI=>Zl rfl rfl lk9 rfl ((hc906.mono hI.1) _ 0 _ rfl) r4) (h:=aT 5 rfl (ZG fun D B L hI=>ZaC rfl rfl ZvI rfl (ZhD _ _ _ _ _ _ _ _ x m.owner om2 _ (hc900.mono hI.1) (hu.mono Zg.mono hI.1)) r4) (h:=?_))))))
 refine aM 6 rfl (h:=Zal (d:=11) rfl (fun g1=>?_) (fun g1=>?_))
 try simp only [sQ,ne_eq] at g1
 refine aW 7 rfl Zc1 (h:=aT 8 rfl (ZG fun D B L hI=>Zl rfl rfl lk9 rfl ((hc906.mono hI.1) _ 1 _ rfl) r4) (h:=aT 9 rfl (ZG fun D B L hI=>ZaC rfl rfl Zs4 rfl (Zcp _ om2 _) r4) (h:=?_)))
 refine aPT 10 rfl (h:=aM 11 rfl (h:=Zal (d:=16) rfl (fun g2=>?_) (fun g2=>?_)))
 try simp only [sQ,ne_eq] at g2
 refine aW 12 rfl ZbU (h:=aT 13 rfl (ZG fun D B L hI=>Zl rfl rfl Zlm rfl ((hc906.mono hI.1) _ 2 _ rfl) r4) (h:=aT 14 rfl (ZG fun D B L hI=>ZaC rfl rfl ZxG rfl (Zqd _ _ _ _ (hg.mono Zx.mono hI.1)) r4) (h:=aPT 15 rfl (h:=aM 16 rfl (h:=Zal (d:=21) rfl (fun g3=>?_) (fun g3=>?_))))))
 try simp only [sQ,ne_eq] at g3
 refine aW 17 rfl Zbh (h:=aT 18 rfl (ZG fun D B L hI=>Z8 [_,_] rfl rfl ZbD rfl (Zh9 (hc906.mono hI.1) 3 rfl rfl) r4) (h:=aT 19 rfl (ZG fun D B L hI=>ZaC rfl rfl Zw8 rfl (ZlA _ _ (⟨m.next,m.mail⟩:DBox) _ (hm.mono ZD.mono hI.1)) r4) (h:=aPT 20 rfl (h:=aT 21 rfl (ZG fun D B L hI=>Za3 rfl rfl Tryz.underlying114 sz4 rfl rfl oz oz r4) (h:=?_)))))
 refine ZhJ 22 kr rfl kr kr kr (fun T hn hT=>?_)
 refine Zf1 (L:=[]) hT Zl4 (by simp [ZaY,DFolder.box,g1,g2,g3]) rfl hin rfl Tryz.sizeOf4 (Zc8 sz4) (by exact Zhx C i) rfl kr Tryz.func82 rfl
 try simp only [sQ,ne_eq] at g3
 refine aZ 17 rfl (h:=aZ 18 rfl (h:=aZ 19 rfl (h:=aPF 20 rfl (h:=aT 21 rfl (ZG fun D B L hI=>Za3 rfl rfl Tryz.underlying114 sz4 rfl rfl oz oz r4) (h:=?_)))))
 refine ZhJ 22 kr rfl kr kr kr (fun T hn hT=>?_)
 refine Zf1 (L:=[]) hT Zl4 (by simp [ZaY,DFolder.box,g1,g2,g3]) rfl hin rfl Tryz.sizeOf4 (Zc8 sz4) (by exact Zhx C i) rfl kr Tryz.func82 rfl
 try simp only [sQ,ne_eq] at g2
 refine aZ 12 rfl (h:=aZ 13 rfl (h:=aZ 14 rfl (h:=aPF 15 rfl (h:=aM 16 rfl (h:=aZ 17 rfl (h:=aZ 18 rfl (h:=aZ 19 rfl (h:=aPF 20 rfl (h:=aT 21 rfl (ZG fun D B L hI=>Za3 rfl rfl Tryz.underlying114 sz4 rfl rfl oz oz r4) (h:=?_))))))))))
 refine ZhJ 22 kr rfl kr kr kr (fun T hn hT=>?_)
 refine Zf1 (L:=[]) hT Zl4 (by simp [ZaY,DFolder.box,g1,g2]) rfl hin rfl Tryz.sizeOf4 (Zc8 sz4) (by exact Zhx C i) rfl kr Tryz.func82 rfl
 try simp only [sQ,ne_eq] at g1
 refine aZ 7 rfl (h:=aZ 8 rfl (h:=aZ 9 rfl (h:=aPF 10 rfl (h:=aM 11 rfl (h:=aZ 12 rfl (h:=aZ 13 rfl (h:=aZ 14 rfl (h:=aPF 15 rfl (h:=aM 16 rfl (h:=aZ 17 rfl (h:=aZ 18 rfl (h:=aZ 19 rfl (h:=?_)))))))))))))
 refine aPF 20 rfl (h:=aT 21 rfl (ZG fun D B L hI=>Za3 rfl rfl Tryz.underlying114 sz4 rfl rfl oz oz r4) (h:=?_))
 refine ZhJ 22 kr rfl kr kr kr (fun T hn hT=>?_)
 refine Zf1 (L:=[]) hT Zl4 (by simp [ZaY,DFolder.box,g1]) rfl hin rfl Tryz.sizeOf4 (Zc8 sz4) (by exact Zhx C i) rfl kr Tryz.func82 rfl

set_option maxHeartbeats 1600000 in
theorem Zjc (hJ:Joins Tryz.prog J) (b o:Nat) (q1 q2 q3:Option Addr) (c1 c2 c3:Nat) (x:DHost) (B:Kn) (hc900:Zbv B b o [str x.domain,.slice q1 x.users.length c1,.slice q2 x.folders.length c2,.int .i64 x.queue.next,.slice q3 x.queue.items.length c3]) (hu:SlK B q1 c1 3 Zg x.users) (hf:SlK B q2 c2 5 Zb x.folders):ZN (pj J) 50 [ptr ⟨b,o,none⟩] B [] (fun v B' Ls=>Ls=[]∧v = .bool (x.folders.all (ZaY x.users))):=by
 have hfn:=hf.len
 letI:Go.ConcR.Payload:=⟨4⟩
 refine Zsu 30 Tryz.func50 rfl rfl (Nat.le_of_ble_eq_true rfl) fun X kind c cs F T0 hk hke hA hn0 hT0=>?_
 let C0:Cx (pj J):=⟨X,fb 50 kind,c :: cs,F,hke⟩
 refine Ze5 (C:=C0) (L:=[]) (ZjR (C:=C0) (L:=[]) hn0 hT0 (xBx [_] (h:=fun b1=>xA (h:=?_))))
 intro T1 hn1 hT1
 refine ZlM (C:=C0) rfl 0 rfl fun B1 hle1 hm1=>?_
 have hc901:=ZcW hm1
 replace hc900:=hc900.mono hle1
 replace hu:=hu.mono Zg.mono hle1
 replace hf:=hf.mono Zb.mono hle1
 replace hA:=fun v B' Ls' h=>hA v B' Ls' (hle1.trans h)
 refine Ze5 (C:=C0) (L:=[[]]) (ZjR (C:=C0) (L:=[[]]) hn1 hT1 (y1 Zwc hc901 0 (h:=xNc (h:=xW ZZ (h:=y1 Zb3 hc900 2 (h:=xV Tryz.underlying24 (h:=Zp (Zl6 (m:=x.folders.length) (c:=x.folders.length) (by_:=1) [.bool false] rfl rfl Zwg zo4 rfl rfl ⟨_,_,rfl,rfl⟩ ⟨_,_,rfl,rfl⟩ (Nat.le_refl _) oz (fun Cb=>?_)))))))))
 refine xAl [_] ZvN (h:=fun b2=>xS [_] 2 [_] Zv2 (h:=?_))
 intro T2 hn2 hT2
 refine ZlM (C:=C0) rfl 2 rfl fun B2 hle2 hm2=>?_
 have hc903:=ZcW hm2
 replace hc900:=hc900.mono hle2
 replace hu:=hu.mono Zg.mono hle2
 replace hf:=hf.mono Zb.mono hle2
 replace hc901:=hc901.mono hle2
 replace hA:=fun v B' Ls' h=>hA v B' Ls' (hle2.trans h)
 refine Ze5 (C:=C0) (L:=[[],Zbm Cb (zrow [.bool false] x.folders.length) 4,[]]) (Zgq (C:=C0) (L:=[[],Zbm Cb (zrow [.bool false] x.folders.length) 4,[]]) (ZrH (C:=Cb) (n:=x.folders.length) (val:=Zrc x) (L₁:=F) (cells:=(zrow [.bool false] x.folders.length).toArray) (i:=0) (todo:=[]) hJ rfl hke ZvM rfl oz (by simp [ZjX]) (.refl _) (fun hmain Wg hW1 hW2=>?_)))
 let C1:Cx (.lone Tryz.prog):=⟨phL Tryz.prog 124 Wg Cb x.folders.length (Zrc x) X.R .a5 (0),fb 50 kind,c :: cs,F,hke⟩
 have hT3:=hT2.putT (n:=30) (dst:=some 4) hn2 rfl (ptr ⟨Wg,0,none⟩)
 have hn3:(putT T2 (some 4) (ptr ⟨Wg,0,none⟩)).size=30:=by rw [ZbF,hn2]
 refine Zdd (C:=C1) (L:=[]) (Ze5 (C:=C1) (L:=[]) (Ze5 (C:=C1) (L:=[]) (ZjR (C:=C1) (L:=[]) hn3 hT3 (y1 Zwc hc901 0 (h:=xNc (h:=xW ZZ (h:=y1 Zb3 hc900 2 (h:=xV Tryz.underlying24 (h:=xM (h:=?_))))))))))
 intro T4 hn4 hT4
 refine ZnN (C:=C1) (L:=[]) (Ztv (nt:=30) (fun j=>[(1,ptr ⟨b1,0,none⟩),(3,ptr ⟨b2,0,none⟩),(4,ptr ⟨Wg,0,none⟩),(16,.slice q2 x.folders.length c2),(17,.int .i64 x.folders.length),(18,.int .i64 ((j:Nat):Int))]) (fun j hj B3 T5 hle3 hn5 hT5 hnext=>?_) hn4 (hT4.sub' t6))
 replace hc900:=hc900.mono hle3
 replace hu:=hu.mono Zg.mono hle3
 replace hf:=hf.mono Zb.mono hle3
 replace hc901:=hc901.mono hle3
 replace hc903:=hc903.mono hle3
 replace hA:=fun v B' Ls' h=>hA v B' Ls' (hle3.trans h)
 let C2:Cx (.lone Tryz.prog):=⟨phL Tryz.prog 124 Wg Cb x.folders.length (Zrc x) X.R .a5 (j),fb 50 kind,c :: cs,F,hke⟩
 refine Ze5 (C:=C2) (L:=[]) (ZjR (C:=C2) (L:=[]) hn5 hT5 (Zae (h:=?_)))
 intro T6 hn6 hT6
 refine Ze5 (C:=C2) (L:=[]) ?_
 rcases Nat.lt_or_ge j x.folders.length with hlt | hge
 refine ZqP (C:=C2) (L:=[]) (t:=true) (by exact congrArg (fun t=>some (Value.bool t)) (decide_eq_true oz)) hT6 ?_
 refine Zuf (C:=C2) (L:=[]) (Ze5 (C:=C2) (L:=[]) (ZnN (C:=C2) (L:=[]) (Ze5 (C:=C2) (L:=[]) (ZjR (C:=C2) (L:=[]) hn6 hT6 (xM (h:=?_))))))
 obtain ⟨m,hm⟩:=Zan (xs:=x.folders) (i:=j) om
 obtain ⟨bb4,oo4,rfl⟩:=hf.base hm
 obtain ⟨_,⟨qg5,cg5,qm5,cm5,rfl,hg5,hm5,hb5,hb5b⟩,hc5⟩:=hf.elem hm
 have hg5n:=hg5.len
 have hm5n:=hm5.len
 have hm5s:=ZS hm5
 refine xIx Tryz.underlying24 ZaD (h:=yL [_,_,_,_,_] Zfn hc5 0 (h:=xAl [_] zo3 (h:=fun b6=>xAl [_,_,_,_,_] Zb8 (h:=fun b7=>xS [_] 0 [_] sz3 (h:=xS [_,_,_,_,_] 1 [_,_,_,_,_] ZaD (h:=?_))))))
 intro T7 hn7 hT7
 refine ZlM (C:=C2) rfl 0 rfl fun B4 hle4 hpm4=>?_
 have hc905:=ZcW hpm4
 refine ZlM (C:=C2) rfl 1 rfl fun B5 hle5 hpm5=>?_
 have hc906:=ZcW hpm5
 replace hc905:=hc905.mono hle5
 replace hc900:=hc900.mono (hle4.trans hle5)
 replace hu:=hu.mono Zg.mono (hle4.trans hle5)
 replace hf:=hf.mono Zb.mono (hle4.trans hle5)
 replace hc901:=hc901.mono (hle4.trans hle5)
 replace hc903:=hc903.mono (hle4.trans hle5)
 replace hg5:=hg5.mono Zx.mono (hle4.trans hle5)
 replace hm5:=hm5.mono ZD.mono (hle4.trans hle5)
 refine Ze5 (C:=C2) (L:=[[],[]]) (Zgq (C:=C2) (L:=[[],[]]) (ZuW (Lk:=wgL) (i:=0) (todo:=[]) Zl4 hlt rfl ZxH rfl rfl hT7 hke ?_))
 let C3:Cx (.lone Tryz.prog):=⟨phL Tryz.prog 124 Wg Cb x.folders.length (Zrc x) X.R .a2 (j),fb 50 kind,c :: cs,F,hke⟩
 have hT8:=hT7.putT (n:=30) (dst:=(some 23)) hn7 rfl (.tuple #[])
 have hn8:(putT T7 (some 23) (.tuple #[])).size=30:=by rw [ZbF,hn7]
 refine Zdd (C:=C3) (L:=[]) (Zgq (C:=C3) (L:=[]) (Zw2 (C:=C3) (L:=[]) (i:=0) (todo:=[1]) rfl hn8 hT8 (Zp (Zgx (xs:=[]) (ys:=[.tmp 4,.tmp 1,.tmp 6,.tmp 3,.tmp 5]) rfl rfl rfl rfl ?_))))
 intro T9 hn9 hT9
 refine Zwa (i:=1) (todo:=[]) rfl rfl hT9 hke Tryz.func82 rfl rfl (by rw [Znc hm];exact Zkq Wg Cb x.folders.length j b o b1 b2 b6 b7 _ _ _ _ _ _ x m _ _ _ _ hlt B5 hc900 hu hc901 hc903 hc905 hc906 hg5 hm5 hb5 hb5b) ?_
 let C4:Cx (.lone Tryz.prog):=⟨phL Tryz.prog 124 Wg Cb x.folders.length (Zrc x) X.R .a5 (j+1),fb 50 kind,c :: cs,F,hke⟩
 refine Zdd (C:=C4) (L:=[]) (ZoO (C:=C4) (L:=[]) ?_)
 have hn10:=hn9
 have hT10:=hT9
 refine ZjR (C:=C4) (L:=[]) hn10 hT10 (xD (h:=xM (h:=?_)))
 intro T11 hn11 hT11
 exact hnext hlt _ _ (hle4.trans hle5) hn11 (hT11.sub' t6)
 obtain rfl:j=x.folders.length:=by omega
 refine ZqP (C:=C2) (L:=[]) (t:=false) (by exact congrArg (fun t=>some (Value.bool t)) (decide_eq_false oz)) hT6 ?_
 refine Zug (C:=C2) (L:=[]) (by rfl) ?_
 refine Ze5 (C:=C2) (L:=[]) (Zgq (C:=C2) (L:=[]) (Ztu (Lk:=wgL) (X:=X) (i:=0) (todo:=[]) Zl4 oz rfl ZxF rfl hT6 hke (fun _ _ _ h=>h) ?_))
 have hT7:=hT6.putT (n:=30) (dst:=(some 26)) hn6 rfl (.tuple #[])
 have hn7:(putT T6 (some 26) (.tuple #[])).size=30:=by rw [ZbF,hn6]
 refine Zdd (C:=C0) (L:=[[(Cb,Obj.cells ((List.range x.folders.length).map (Zrc x)).toArray 4 (0,0))]]) (ZlM (C:=C0) (L:=[[(Cb,Obj.cells ((List.range x.folders.length).map (Zrc x)).toArray 4 (0,0))]]) rfl 0 rfl fun B4 hle4 hm4=>?_)
 have hvb:=Zpj hm4 hfn
 replace hc900:=hc900.mono hle4
 replace hu:=hu.mono Zg.mono hle4
 replace hf:=hf.mono Zb.mono hle4
 replace hc901:=hc901.mono hle4
 replace hc903:=hc903.mono hle4
 replace hA:=fun v B' Ls' h=>hA v B' Ls' (hle4.trans h)
 refine Zt2 Tryz.func50 rfl hk hke hn7 hT7 hA ?_
 rw [show (x.folders.length:Nat)=(x.folders.map (ZaY x.users)).length from (List.length_map ..).symm] at hc903
 refine Za (y1 ZuZ hc903 0 (h:=xR ZxE rfl (ZmX _ _ _ _ _ hvb) (h:=xN (h:=xA (h:=Zw [_] rfl (Zi ?_))))))
 exact Z2 .ret (.inl rfl) [_] t1 ⟨rfl,congrArg Value.bool ZkG⟩

set_option maxHeartbeats 400000 in
theorem ZfQ (hJ:Joins Tryz.prog J) (q1 q2 q3:Option Addr) (c1 c2 c3:Nat) (x:DHost) (hd:x.domain.length≤2000000) (B:Kn) (hu:SlK B q1 c1 3 Zg x.users) (hf:SlK B q2 c2 5 Zb x.folders) (hi:SlK B q3 c3 4 Zj x.queue.items):ZN (pj J) 22 [.agg #[str x.domain,.slice q1 x.users.length c1,.slice q2 x.folders.length c2,.int .i64 x.queue.next,.slice q3 x.queue.items.length c3]] B [] (fun v B' Ls=>Ls=[]∧v = .bool (Zz x)):=by
 refine Ze 63 Tryz.func22 rfl rfl rfl (Nat.le_of_ble_eq_true rfl) ?_
 rw [← ZoC]
 have hfn:=hf.len
 have hun:=hu.len
 have hin:=hi.len
 refine Za (xBx [_,_,_,_,_] (h:=fun b1=>xA (h:=Zw [_] rfl (ZnV 0 rfl (fun B2 hle2 hpm2=>?_)))))
 have hc2:=ZcW hpm2
 replace hu:=hu.mono Zg.mono hle2
 replace hf:=hf.mono Zb.mono hle2
 replace hi:=hi.mono Zj.mono hle2
 refine Zk (Za (xW ZnC (h:=y1 lk9 hc2 0 (h:=xR Zx0 rfl (Zlz _ om2 _) (h:=?_)))))
 refine xN (h:=xM (h:=Zt (d:=10) rfl (fun g1=>?_) (fun g1=>?_)))
 try simp only [sQ,ne_eq] at g1
 refine xP (h:=xP (h:=xP (h:=xP (h:=xT (h:=xM (h:=xP (h:=xP (h:=xP (h:=xP (h:=xT (h:=xM (h:=xP (h:=?_)))))))))))))
 refine xP (h:=xP (h:=xP (h:=xT (h:=Zw [_] rfl (Zc (t:=true) rfl (fun _=>Za (xA (h:=Zi (Zs ?_)))) (fun h=>Bool.noConfusion h))))))
 exact Z2 .ret (.inl rfl) [_] t1 ⟨rfl,Zn (by simp [Zdq,g1])⟩
 try simp only [sQ,ne_eq] at g1
 refine xW ZbN (h:=y1 Zim hc2 1 (h:=xR Zxc rfl (Zix _ _ _ _ hu) (h:=xN (h:=xF (h:=xM (h:=Zt (d:=16) rfl (fun g2=>?_) (fun g2=>?_)))))))
 try simp only [sQ,ne_eq] at g2
 refine xP (h:=xP (h:=xP (h:=xP (h:=xT (h:=xM (h:=xP (h:=xP (h:=xP (h:=xP (h:=xT (h:=Zw [_] rfl (Zc (t:=true) rfl (fun _=>?_) (fun h=>Bool.noConfusion h)))))))))))))
 refine Za (xA (h:=Zi (Zs ?_)))
 exact Z2 .ret (.inl rfl) [_] t1 ⟨rfl,Zn (by simp [Zdq,g1,g2])⟩
 try simp only [sQ,ne_eq] at g2
 refine xW ZcG (h:=yL [_,_] Zel hc2 3 (h:=xR ZxZ rfl (ZmD _ _ x.queue _ hi) (h:=xN (h:=xF (h:=xM (h:=Zt (d:=22) rfl (fun g3=>?_) (fun g3=>?_)))))))
 try simp only [sQ,ne_eq] at g3
 refine xP (h:=xP (h:=xP (h:=xP (h:=xT (h:=Zw [_] rfl (Zc (t:=true) rfl (fun _=>Za (xA (h:=Zi (Zs ?_)))) (fun h=>Bool.noConfusion h)))))))
 exact Z2 .ret (.inl rfl) [_] t1 ⟨rfl,Zn (by simp [Zdq,g1,g2,g3])⟩
 try simp only [sQ,ne_eq] at g3
 refine xW ZZ (h:=y1 Zb3 hc2 2 (h:=xV Tryz.underlying24 (h:=Zbx (h:=xF (h:=Zw [_] rfl (Zc rfl (fun g4=>?_) (fun g4=>?_)))))))
 try simp only [sQ,ne_eq] at g4
 refine Za (xA (h:=Zi (Zs ?_)))
 exact Z2 .ret (.inl rfl) [_] t1 ⟨rfl,Zn (by simp [Zdq];intros;omega)⟩
 try simp only [sQ,ne_eq] at g4
 refine Zh (Zf (Zk (Za (xW ZZ (h:=y1 Zb3 hc2 2 (h:=xW ZZ (h:=y1 Zb3 hc2 2 (h:=xV Tryz.underlying24 (h:=xU (h:=Zp (ZvT (m:=(x.folders.length - 1)) rfl rfl rfl rfl om ?_)))))))))))
 have hsl:((x.folders.take (x.folders.length - 1)).drop 0).length=x.folders.length - 1:=by simp
 obtain ⟨hq6,q6,cp6,hv6,hr6⟩:=hf.cutE 0 (x.folders.length - 1) om om
 have hr6n:=hr6.len
 refine Zp (Zg3 (a:=0) (b:=(x.folders.length - 1)) hv6 om hq6 rfl rfl Tryz.underlying24 ZaD rfl rfl ⟨_,_,rfl,by first | omega | (simp;done) | (simp;omega)⟩ ?_)
 refine xV Tryz.underlying24 (h:=xM (h:=Zo (ZR (α:=Nat) [0,1,27,35,36] (fun k=>[(37,.int .i64 k)]) [] (fun k=>[]) (fun k Bx=>Bx=B2∧k≤x.folders.length - 1∧ZsK x.folders k) (fun k=>x.folders.length - k) 0 t1 rfl (⟨rfl,Nat.zero_le _,Zoi⟩) (fun k B7 hle7 hI=>?_))))
 obtain ⟨rfl,hk,hord⟩:=hI
 refine ZP [(0,_),(1,_),(27,_),(35,_),(36,_),(37,_)] [_] t6 rfl (Za (Zae (h:=Zk (Zc rfl (fun g5=>?_) (fun g5=>?_)))))
 try simp only [sQ,ne_eq] at g5
 refine Zh (Zf (Zk (Zo (Za (xM (h:=?_))))))
 obtain ⟨fa,hfa⟩:=Zan (xs:=((x.folders.take (x.folders.length - 1)).drop 0)) (i:=k) om
 obtain ⟨bb9,oo9,rfl⟩:=hr6.base hfa
 obtain ⟨_,⟨qg10,cg10,qm10,cm10,rfl,hg10,hm10,hb10,hb10b⟩,hc10⟩:=hr6.elem hfa
 have hg10n:=hg10.len
 have hm10n:=hm10.len
 have hm10s:=ZS hm10
 refine xIx Tryz.underlying24 ZaD (h:=?_)
 have hfa0:x.folders[k]? = some fa:=by rw [List.drop_zero,List.getElem?_take] at hfa;split at hfa <;> simp_all
 refine yL [_,_,_,_,_] Zfn hc10 0 (h:=xAl [_,_,_,_,_] Zb8 (h:=fun b11=>xA (h:=xS [_,_,_,_,_] 1 [_,_,_,_,_] ZaD (h:=Zw [_,_] rfl (Za (xW ZZ (h:=y1 Zb3 hc2 2 (h:=xM (h:=xD (h:=?_))))))))))
 obtain ⟨fb,hfb⟩:=Zan (xs:=x.folders) (i:=(k+1)) om
 obtain ⟨bb13,oo13,rfl⟩:=hf.base hfb
 obtain ⟨_,⟨qg14,cg14,qm14,cm14,rfl,hg14,hm14,hb14,hb14b⟩,hc14⟩:=hf.elem hfb
 have hg14n:=hg14.len
 have hm14n:=hm14.len
 have hm14s:=ZS hm14
 refine xIx Tryz.underlying24 ZaD (h:=yL [_,_,_,_,_] Zfn hc14 0 (h:=xAl [_,_,_,_,_] Zb8 (h:=fun b15=>xS [_,_,_,_,_] 2 [_,_,_,_,_] ZaD (h:=Zw [_,_,_] rfl (Za (xL [_,_,_,_,_] Zfn 1 (h:=xW Zbi (h:=x1 lk9 2 (h:=xW Zc1 (h:=x1 lk9 2 (h:=xR ZxY rfl (ZmN fa _ _ _ _ fb.owner fb.name _) (h:=ZdB (h:=?_)))))))))))))
 refine Zc rfl (fun g6=>?_) (fun g6=>?_)
 try simp only [sQ,ne_eq] at g6
 refine Za (xA (h:=Zi (ZM (Zs (Zaa (ZM (Zs ?_)))))))
 exact Z2 .ret (.inl rfl) [_] t1 ⟨rfl,Zn (by simp [Zdq,ZrL hfa0 hfb ((ZlO fa fb).1 g6)])⟩
 try simp only [sQ,ne_eq] at g6
 refine Zh (Zy (Zf (Zd (xD (h:=xM (h:=?_))))))
 exact ZA (k+1) [0] so2 ⟨rfl,oz,Zoj hord hfa0 hfb (by rw [← Bool.not_eq_false,← ZlO];omega)⟩ t6 rfl
 try simp only [sQ,ne_eq] at g5
 have ho:=ZrK (fs:=x.folders) (fun i a b h=>hord i a b oz)
 refine ZU (Zad (ZV (ZF (Zf (Za (Zp (Zac rfl rfl ZxX rfl (Zjc hJ _ _ _ _ _ _ _ _ x _ hc2 hu hf) ?_)))))))
 intro v17 B17 hle17
 rintro rfl
 replace hu:=hu.mono Zg.mono hle17
 replace hf:=hf.mono Zb.mono hle17
 replace hi:=hi.mono Zj.mono hle17
 replace hc2:=hc2.mono hle17
 replace hr6:=hr6.mono Zb.mono hle17
 refine xM (h:=Zt (d:=57) rfl (fun g7=>?_) (fun g7=>?_))
 try simp only [sQ,ne_eq] at g7
 refine xR ZxW rfl (ZnW _ _ _ _ _ _ _ _ x _ hc2 hu hf) (h:=xT (h:=xM (h:=Zt (d:=60) rfl (fun g8=>?_) (fun g8=>?_))))
 try simp only [sQ,ne_eq] at g8
 refine xR ZxV rfl (Zmr _ _ _ _ _ _ _ _ x _ hc2 hu hi) (h:=xT (h:=xA (h:=Zi ?_)))
 exact Z2 .ret (.inl rfl) [_] t1 ⟨rfl,Zn (by simp [Zdq,g1,g2,g3,ho,g7,g8];try omega)⟩
 try simp only [sQ,ne_eq] at g8
 refine xP (h:=xF (h:=xA (h:=Zi ?_)))
 exact Z2 .ret (.inl rfl) [_] t1 ⟨rfl,Zn (by simp [Zdq,g1,g2,g3,ho,g7,g8];try omega)⟩
 try simp only [sQ,ne_eq] at g7
 refine xP (h:=xF (h:=xM (h:=xP (h:=xF (h:=xA (h:=Zi ?_))))))
 exact Z2 .ret (.inl rfl) [_] t1 ⟨rfl,Zn (by simp [Zdq,g7])⟩

set_option maxHeartbeats 400000 in
theorem Zk9 (q q':Option Addr) (cp cp':Nat) (xs ys:List DGrant) (B:Kn) (ha:SlK B q cp 2 Zx xs) (hb:SlK B q' cp' 2 Zx ys):Za1 (pj J) 55 [.slice q xs.length cp,.slice q' ys.length cp'] B (.bool (decide (xs=ys))):=by
 refine Ze 26 Tryz.func55 rfl rfl rfl (Nat.le_of_ble_eq_true rfl) ?_
 have han:=ha.len
 have hbn:=hb.len
 refine Za (xA (h:=Zk (Za (xM (h:=xV Tryz.underlying36 (h:=xM (h:=xV Tryz.underlying36 (h:=Zc5 (h:=Zc rfl (fun g1=>?_) (fun g1=>?_))))))))))
 try simp only [sQ,ne_eq] at g1
 refine Za (xA (h:=Zi (Zs ?_)))
 exact Z2 .ret (.inl rfl) [_] t1 ⟨Zn (ZmS g1),rfl,rfl⟩
 try simp only [sQ,ne_eq] at g1
 refine Zh (Zf (Zk (Za (xA (h:=Zo (ZR (α:=Nat) [0,1,10] (fun k=>[(5,.int .i64 k)]) [] (fun k=>[]) (fun k Bx=>Bx=B∧k≤xs.length∧xs.take k=ys.take k) (fun k=>xs.length - k) 0 t1 rfl (⟨rfl,Nat.zero_le _,by simp⟩) (fun k B1 hle1 hI=>?_)))))))
 obtain ⟨rfl,hk,he⟩:=hI
 refine ZP [(0,_),(1,_),(5,_),(10,_)] [] t4 rfl (Zk (Za (xM (h:=xM (h:=xV Tryz.underlying36 (h:=Zae (h:=Zc rfl (fun g2=>?_) (fun g2=>?_))))))))
 try simp only [sQ,ne_eq] at g2
 refine Zh (Zf (Zk (Zo (Zk (Z7 (same _ _) mo kr ⟨rfl,rfl⟩ (fun _ _=>?_))))))
 refine aM 0 rfl (h:=aM 1 rfl (h:=?_))
 obtain ⟨x,hx⟩:=Zan (xs:=xs) (i:=k) om
 obtain ⟨bb3,oo3,rfl⟩:=ha.base hx
 obtain ⟨_,⟨rfl,hb4⟩,hc4⟩:=ha.elem hx
 refine aIx 2 rfl Tryz.underlying36 Zbn (h:=aT 3 rfl (Zak fun D=>Z8 [_,_] rfl rfl Zoq rfl (Zh9 hc4 0 rfl rfl) r4) (h:=aM 4 rfl (h:=aM 5 rfl (h:=?_))))
 obtain ⟨y,hy⟩:=Zan (xs:=ys) (i:=k) om
 obtain ⟨bb6,oo6,rfl⟩:=hb.base hy
 obtain ⟨_,⟨rfl,hb7⟩,hc7⟩:=hb.elem hy
 refine aIx 6 rfl Tryz.underlying36 Zbn (h:=aT 7 rfl (Zak fun D=>Z8 [_,_] rfl rfl Zoq rfl (Zh9 hc7 0 rfl rfl) r4) (h:=aT 8 rfl (Zak fun D=>ZsT (rs:=[_,_]) rfl rfl rfl rfl Zt0 ⟨⟨_,_,rfl,rfl,ZnG Tryz.underlying9⟩,⟨_,_,rfl,rfl,Zkv Tryz.underlying3⟩,trivial⟩ r4) (h:=ZC kr kr ?_)))
 refine Zf (Zc rfl (fun g3=>?_) (fun g3=>?_))
 try simp only [sQ,ne_eq] at g3
 refine Za (xA (h:=Zi (ZM (Zs (Zaa (ZM (Zs ?_)))))))
 exact Z2 .ret (.inl rfl) [_] t1 ⟨Zn (Zkw hx hy (by rintro rfl;simp at g3)),rfl,rfl⟩
 try simp only [sQ,ne_eq] at g3
 refine Zh (Zy (Zf (Zd (xM (h:=xD (h:=xA (h:=?_)))))))
 exact ZA (k+1) [] so2 ⟨rfl,oz,ZeH hx hy (by cases x;cases y;simpa [and_assoc] using g3) he⟩ t4 rfl
 try simp only [sQ,ne_eq] at g2
 refine ZU (Zad (ZV (ZF (Zf (Za (xA (h:=Zi ?_)))))))
 exact Z2 .ret (.inl rfl) [_] t1 ⟨Zn (eqT oz oz he),rfl,rfl⟩

set_option maxHeartbeats 400000 in
theorem Zn6 (q q':Option Addr) (cp cp':Nat) (xs ys:List DMail) (B:Kn) (ha:SlK B q cp 3 ZD xs) (hb:SlK B q' cp' 3 ZD ys):Za1 (pj J) 44 [.slice q xs.length cp,.slice q' ys.length cp'] B (.bool (decide (xs=ys))):=by
 refine Ze 26 Tryz.func44 rfl rfl rfl (Nat.le_of_ble_eq_true rfl) ?_
 have han:=ha.len
 have hbn:=hb.len
 refine Za (xA (h:=Zk (Za (xM (h:=xV Tryz.underlying37 (h:=xM (h:=xV Tryz.underlying37 (h:=Zc5 (h:=Zc rfl (fun g1=>?_) (fun g1=>?_))))))))))
 try simp only [sQ,ne_eq] at g1
 refine Za (xA (h:=Zi (Zs ?_)))
 exact Z2 .ret (.inl rfl) [_] t1 ⟨Zn (ZmS g1),rfl,rfl⟩
 try simp only [sQ,ne_eq] at g1
 refine Zh (Zf (Zk (Za (xA (h:=Zo (ZR (α:=Nat) [0,1,10] (fun k=>[(5,.int .i64 k)]) [] (fun k=>[]) (fun k Bx=>Bx=B∧k≤xs.length∧xs.take k=ys.take k) (fun k=>xs.length - k) 0 t1 rfl (⟨rfl,Nat.zero_le _,by simp⟩) (fun k B1 hle1 hI=>?_)))))))
 obtain ⟨rfl,hk,he⟩:=hI
 refine ZP [(0,_),(1,_),(5,_),(10,_)] [] t4 rfl (Zk (Za (xM (h:=xM (h:=xV Tryz.underlying37 (h:=Zae (h:=Zc rfl (fun g2=>?_) (fun g2=>?_))))))))
 try simp only [sQ,ne_eq] at g2
 refine Zh (Zf (Zk (Zo (Zk (Z7 (same _ _) mo kr ⟨rfl,rfl⟩ (fun _ _=>?_))))))
 refine aM 0 rfl (h:=aM 1 rfl (h:=?_))
 obtain ⟨x,hx⟩:=Zan (xs:=xs) (i:=k) om
 obtain ⟨bb3,oo3,rfl⟩:=ha.base hx
 obtain ⟨_,⟨rfl,hb4⟩,hc4⟩:=ha.elem hx
 refine aIx 2 rfl Tryz.underlying37 Zcv (h:=aT 3 rfl (Zak fun D=>Z8 [_,_,_] rfl rfl Zln rfl (Zh9 hc4 0 rfl rfl) r4) (h:=aM 4 rfl (h:=aM 5 rfl (h:=?_))))
 obtain ⟨y,hy⟩:=Zan (xs:=ys) (i:=k) om
 obtain ⟨bb6,oo6,rfl⟩:=hb.base hy
 obtain ⟨_,⟨rfl,hb7⟩,hc7⟩:=hb.elem hy
 refine aIx 6 rfl Tryz.underlying37 Zcv (h:=aT 7 rfl (Zak fun D=>Z8 [_,_,_] rfl rfl Zln rfl (Zh9 hc7 0 rfl rfl) r4) (h:=aT 8 rfl (Zak fun D=>ZsT (rs:=[_,_,_]) rfl rfl rfl rfl ZtZ ⟨⟨_,_,rfl,rfl,Zkv Tryz.underlying3⟩,⟨_,_,rfl,rfl,Zkv Tryz.underlying3⟩,⟨_,_,rfl,rfl,ZnG Tryz.underlying9⟩,trivial⟩ r4) (h:=ZC kr kr ?_)))
 refine Zf (Zc rfl (fun g3=>?_) (fun g3=>?_))
 try simp only [sQ,ne_eq] at g3
 refine Za (xA (h:=Zi (ZM (Zs (Zaa (ZM (Zs ?_)))))))
 exact Z2 .ret (.inl rfl) [_] t1 ⟨Zn (Zkw hx hy (by rintro rfl;simp at g3)),rfl,rfl⟩
 try simp only [sQ,ne_eq] at g3
 refine Zh (Zy (Zf (Zd (xM (h:=xD (h:=xA (h:=?_)))))))
 exact ZA (k+1) [] so2 ⟨rfl,oz,ZeH hx hy (by cases x;cases y;simpa [and_assoc] using g3) he⟩ t4 rfl
 try simp only [sQ,ne_eq] at g2
 refine ZU (Zad (ZV (ZF (Zf (Za (xA (h:=Zi ?_)))))))
 exact Z2 .ret (.inl rfl) [_] t1 ⟨Zn (eqT oz oz he),rfl,rfl⟩

set_option maxHeartbeats 400000 in
theorem Zh8 (q1:Option Addr) (c1:Nat) (q2:Option Addr) (c2:Nat) (a b:DBox) (B:Kn) (h1:SlK B q1 c1 3 ZD a.mail) (h2:SlK B q2 c2 3 ZD b.mail):Za1 (pj J) 20 [.agg #[.int .i64 a.next,.slice q1 a.mail.length c1],.agg #[.int .i64 b.next,.slice q2 b.mail.length c2]] B (.bool (decide (a=b))):=by
 refine Ze 17 Tryz.func20 rfl rfl rfl (Nat.le_of_ble_eq_true rfl) ?_
 refine Za (xBx [_,_] (h:=fun b1=>xBx [_,_] (h:=fun b2=>xA (h:=Zw [_,_] rfl (Za (xW Zcf (h:=x1 lk3 0 (h:=xW Zcf (h:=x1 lk3 1 (h:=ZJ (h:=xM (h:=Zt (d:=10) rfl (fun g1=>?_) (fun g1=>?_)))))))))))))
 try simp only [sQ,ne_eq] at g1
 refine xW ZaL (h:=x1 Zfo 0 (h:=xW ZaL (h:=x1 Zfo 1 (h:=xR Zx1 rfl (Zn6 _ _ _ _ _ _ _ h1 h2) (h:=xT (h:=xA (h:=Zi ?_)))))))
 exact Z2 .ret (.inl rfl) [_] t1 ⟨Zn (by cases a;cases b;simp_all),rfl,rfl⟩
 try simp only [sQ,ne_eq] at g1
 refine xP (h:=xP (h:=xP (h:=xP (h:=xP (h:=xF (h:=xA (h:=Zi ?_)))))))
 exact Z2 .ret (.inl rfl) [_] t1 ⟨Zn (by cases a;cases b;simp_all),rfl,rfl⟩

set_option maxHeartbeats 400000 in
theorem Zla (qa1 qb1:Option Addr) (ca1 cb1:Nat) (qa2 qb2:Option Addr) (ca2 cb2:Nat) (a b:DFolder) (B:Kn) (hg1:SlK B qa1 ca1 2 Zx a.grants) (hm1:SlK B qb1 cb1 3 ZD a.mail) (hg2:SlK B qa2 ca2 2 Zx b.grants) (hm2:SlK B qb2 cb2 3 ZD b.mail):Za1 (pj J) 28 [.agg #[str a.owner,str a.name,.slice qa1 a.grants.length ca1,.int .i64 a.next,.slice qb1 a.mail.length cb1],.agg #[str b.owner,str b.name,.slice qa2 b.grants.length ca2,.int .i64 b.next,.slice qb2 b.mail.length cb2]] B (.bool (decide (a=b))):=by
 refine Ze 31 Tryz.func28 rfl rfl rfl (Nat.le_of_ble_eq_true rfl) ?_
 refine Za (xBx [_,_,_,_,_] (h:=fun b1=>xBx [_,_,_,_,_] (h:=fun b2=>xA (h:=Zw [_,_] rfl (Za (xW Zbi (h:=x1 lk9 0 (h:=xW Zbi (h:=x1 lk9 1 (h:=ZcF (h:=xM (h:=Zt (d:=10) rfl (fun g1=>?_) (fun g1=>?_)))))))))))))
 try simp only [sQ,ne_eq] at g1
 refine xW Zc1 (h:=x1 lk9 0 (h:=xW Zc1 (h:=x1 lk9 1 (h:=ZcF (h:=xT (h:=xM (h:=Zt (d:=17) rfl (fun g2=>?_) (fun g2=>?_))))))))
 try simp only [sQ,ne_eq] at g2
 refine xW ZbU (h:=x1 Zlm 0 (h:=xW ZbU (h:=x1 Zlm 1 (h:=xR ZxU rfl (Zk9 _ _ _ _ _ _ _ hg1 hg2) (h:=xT (h:=xM (h:=Zt (d:=24) rfl (fun g3=>?_) (fun g3=>?_))))))))
 try simp only [sQ,ne_eq] at g3
 refine xW Zbh (h:=xL [_,_] ZbD 0 (h:=xW Zbh (h:=xL [_,_] ZbD 1 (h:=xR Zwp rfl (Zh8 _ _ _ _ (⟨a.next,a.mail⟩:DBox) (⟨b.next,b.mail⟩:DBox) _ hm1 hm2) (h:=xT (h:=xA (h:=Zi ?_)))))))
 exact Z2 .ret (.inl rfl) [_] t1 ⟨Zn (by cases a;cases b;simp_all),rfl,rfl⟩
 try simp only [sQ,ne_eq] at g3
 refine xP (h:=xP (h:=xP (h:=xP (h:=xP (h:=xF (h:=xA (h:=Zi ?_)))))))
 exact Z2 .ret (.inl rfl) [_] t1 ⟨Zn (by cases a;cases b;simp_all),rfl,rfl⟩
 try simp only [sQ,ne_eq] at g2
 refine xP (h:=xP (h:=xP (h:=xP (h:=xP (h:=xF (h:=xM (h:=xP (h:=xP (h:=xP (h:=xP (h:=xP (h:=xF (h:=?_)))))))))))))
 refine xA (h:=Zi ?_)
 exact Z2 .ret (.inl rfl) [_] t1 ⟨Zn (by cases a;cases b;simp_all),rfl,rfl⟩
 try simp only [sQ,ne_eq] at g1
 refine xP (h:=xP (h:=xP (h:=xP (h:=xP (h:=xF (h:=xM (h:=xP (h:=xP (h:=xP (h:=xP (h:=xP (h:=xF (h:=?_)))))))))))))
 refine xM (h:=xP (h:=xP (h:=xP (h:=xP (h:=xP (h:=xF (h:=xA (h:=Zi ?_))))))))
 exact Z2 .ret (.inl rfl) [_] t1 ⟨Zn (by cases a;cases b;simp_all),rfl,rfl⟩

set_option maxHeartbeats 400000 in
theorem Zbc (q q':Option Addr) (cp cp':Nat) (xs ys:List DFolder) (B:Kn) (ha:SlK B q cp 5 Zb xs) (hb:SlK B q' cp' 5 Zb ys):Za1 (pj J) 10 [.slice q xs.length cp,.slice q' ys.length cp'] B (.bool (decide (xs=ys))):=by
 refine Ze 27 Tryz.func10 rfl rfl rfl (Nat.le_of_ble_eq_true rfl) ?_
 have han:=ha.len
 have hbn:=hb.len
 refine Za ?_
 refine xA (h:=?_)
 refine Zk ?_
 refine Za ?_
 refine xM (h:=?_)
 refine xV Tryz.underlying24 (h:=?_)
 refine xM (h:=?_)
 refine xV Tryz.underlying24 (h:=?_)
 refine Zc5 (h:=?_)
 refine Zc rfl (fun g1=>?_) (fun g1=>?_)
 try simp only [sQ,ne_eq] at g1
 refine Za ?_
 refine xA (h:=?_)
 refine Zi (Zs ?_)
 exact Z2 .ret (.inl rfl) [_] t1 ⟨Zn (ZmS g1),rfl,rfl⟩
 try simp only [sQ,ne_eq] at g1
 refine Zh ?_
 refine Zf ?_
 refine Zk ?_
 refine Za ?_
 refine xA (h:=?_)
 refine Zo ?_
 refine ZR (α:=Nat) [0,1,10] (fun k=>[(5,.int .i64 k)]) [] (fun k=>[]) (fun k Bx=>Bx=B∧k≤xs.length∧xs.take k=ys.take k) (fun k=>xs.length - k) 0 t1 rfl (⟨rfl,Nat.zero_le _,by simp⟩) (fun k B1 hle1 hI=>?_)
 obtain ⟨rfl,hk,he⟩:=hI
 refine ZP [(0,_),(1,_),(5,_),(10,_)] [] t4 rfl ?_
 refine Zk ?_
 refine Za ?_
 refine xM (h:=?_)
 refine xM (h:=?_)
 refine xV Tryz.underlying24 (h:=?_)
 refine Zae (h:=?_)
 refine Zc rfl (fun g2=>?_) (fun g2=>?_)
 try simp only [sQ,ne_eq] at g2
 refine Zh ?_
 refine Zf ?_
 refine Zk ?_
 refine Zo ?_
 refine Zk ?_
 refine Z7 (same _ _) mo kr ⟨rfl,rfl⟩ (fun _ _=>?_)
 refine aM 0 rfl (h:=?_)
 refine aM 1 rfl (h:=?_)
 obtain ⟨x,hx⟩:=Zan (xs:=xs) (i:=k) om
 obtain ⟨bb3,oo3,rfl⟩:=ha.base hx
 obtain ⟨_,⟨qg4,cg4,qm4,cm4,rfl,hg4,hm4,hb4,hb4b⟩,hc4⟩:=ha.elem hx
 have hg4n:=hg4.len
 have hm4n:=hm4.len
 have hm4s:=ZS hm4
 refine aIx 2 rfl Tryz.underlying24 ZaD (h:=?_)
 refine aT 3 rfl (Zak fun D=>Z8 [_,_,_,_,_] rfl rfl Zfn rfl (Zh9 hc4 0 rfl rfl) r4) (h:=?_)
 refine aM 4 rfl (h:=?_)
 refine aM 5 rfl (h:=?_)
 obtain ⟨y,hy⟩:=Zan (xs:=ys) (i:=k) om
 obtain ⟨bb6,oo6,rfl⟩:=hb.base hy
 obtain ⟨_,⟨qg7,cg7,qm7,cm7,rfl,hg7,hm7,hb7,hb7b⟩,hc7⟩:=hb.elem hy
 have hg7n:=hg7.len
 have hm7n:=hm7.len
 have hm7s:=ZS hm7
 refine aIx 6 rfl Tryz.underlying24 ZaD (h:=?_)
 refine aT 7 rfl (Zak fun D=>Z8 [_,_,_,_,_] rfl rfl Zfn rfl (Zh9 hc7 0 rfl rfl) r4) (h:=?_)
 refine aT 8 rfl (Zak fun D=>ZaC rfl rfl Zx7 rfl (Zla _ _ _ _ _ _ _ _ x y _ hg4 hm4 hg7 hm7) r4) (h:=?_)
 refine aN 9 rfl (h:=?_)
 refine ZC kr kr ?_
 refine Zf ?_
 refine Zc rfl (fun g3=>?_) (fun g3=>?_)
 try simp only [sQ,ne_eq] at g3
 refine Za ?_
 refine xA (h:=?_)
 refine Zi (ZM (Zs (Zaa (ZM (Zs ?_)))))
 exact Z2 .ret (.inl rfl) [_] t1 ⟨Zn (Zkw hx hy g3),rfl,rfl⟩
 try simp only [sQ,ne_eq] at g3
 refine Zh ?_
 refine Zy (Zf ?_)
 refine Zd ?_
 refine xM (h:=?_)
 refine xD (h:=?_)
 refine xA (h:=?_)
 exact ZA (k+1) [] so2 ⟨rfl,oz,ZeH hx hy g3 he⟩ t4 rfl
 try simp only [sQ,ne_eq] at g2
 refine ZU (Zad (ZV (ZF (Zf ?_))))
 refine Za ?_
 refine xA (h:=?_)
 refine Zi ?_
 exact Z2 .ret (.inl rfl) [_] t1 ⟨Zn (eqT oz oz he),rfl,rfl⟩

set_option maxRecDepth 4000 in
set_option maxHeartbeats 400000 in
theorem Zot (b : Nat) (q : Option Addr) (m cp p : Nat) (hp : p ≤ 850000000000) (hm : m ≤ 2000) (B : Kn) (hbm : Zai B q m) : ZN (pj J) 94 [ptr ⟨b, 0, none⟩] B [rd b q m cp p] (fun v B' Ls => ∃ q' cp' us p', v = .slice q' us.length cp' ∧ SlK B' q' cp' 3 Zg us ∧ us.length ≤ 5 ∧ p' ≤ p + 10 ∧ Ls = [rd b q m cp p']) := by
  refine Ze 61 Tryz.func94 rfl rfl rfl (Nat.le_of_ble_eq_true rfl) ?_
  refine Za (xA (h:=Za (xB [(0, _), (1, _), (2, _)] [_, _, _] [_, _, _] ZrG Zgw (h:=xM (h:=xX 0 rfl Za0 rfl (ZO _ _ _ _ _ _ (by omega) (by omega) (by omega) hm _ hbm) (h:=?_))))))
  rintro _ _ ⟨ru, rfl, rua, rub, rfl⟩
  refine xD (h:=xB [(0, _), (1, _), (2, _)] [_, _, _] [_, _, _] ZrG Zgw (h:=xM (h:=xX 0 rfl Za0 rfl (ZO _ _ _ _ _ _ (by omega) (by omega) (by omega) hm _ hbm) (h:=?_))))
  rintro _ _ ⟨ro, rfl, roa, rob, rfl⟩
  refine xD (h:=xB [(0, _), (1, _), (2, _)] [_, _, _] [_, _, _] ZrG Zgw (h:=xBs [(0, _), (1, _), (2, _)] [_, _, _, _, _, _, _, _, _] Tryz.underlying23 ZeJ Zgw (h:=fun b3 => xA (h:=Zw [_, _] rfl ?_))))
  obtain ⟨us0, hn0, hv0⟩ : ∃ us0 : List DUser, us0.length = 3 ∧ Z4 B (Zbm b3 [str [97, 109, 121], str [97, 49], int 60, str [98, 111, 98], str [98, 50], int (20 + ru), str [99, 121, 100], str [99, 51], int (100 + ro)] 65) (some ⟨b3, 0, none⟩) 3 65 3 Zg us0 := ⟨[⟨[97, 109, 121], [97, 49], 60⟩, ⟨[98, 111, 98], [98, 50], 20 + ru⟩, ⟨[99, 121, 100], [99, 51], 100 + ro⟩], rfl, Z4.lit (rows := [[str [97, 109, 121], str [97, 49], int 60], [str [98, 111, 98], str [98, 50], int (20 + ru)], [str [99, 121, 100], str [99, 51], int (100 + ro)]]) (.cons ⟨rfl, by simp, by simp⟩ (.cons ⟨rfl, by simp, by simp⟩ (.cons ⟨rfl, by simp, by simp⟩ .nil))) (by intro row hr; simp only [List.mem_cons, List.not_mem_nil, or_false] at hr; rcases hr with rfl | rfl | rfl <;> rfl)⟩
  refine Za (xM (h:=xM (h:=xX 0 rfl Za0 rfl (ZO _ _ _ _ _ _ (by omega) (by omega) (by omega) hm _ hbm) (h:=?_))))
  rintro _ _ ⟨ry, rfl, rya, ryb, rfl⟩
  refine xD (h:=Zp (Zfc rfl rfl Tryz.underlying23 ZeJ rfl (a := 0) (b := (1 + ry).toNat) rfl ⟨_, _, rfl, by omega⟩ (by omega) (by omega) ?_))
  refine xA (h:=Zw [_, _] rfl ?_)
  obtain ⟨us1, hn1, hv1⟩ : ∃ us1 : List DUser, us1.length = (1 + ry).toNat ∧ Z4 B _ _ 3 65 3 Zg us1 := ⟨us0.take (1 + ry).toNat, by rw [List.length_take]; omega, hv0.take (by omega)⟩
  rw [hv0.slice0 (sz := 3), show (1 + ry).toNat - 0 = us1.length from by omega]
  refine Za (xM (h:=xM (h:=xV Tryz.underlying23 (h:=xX 0 rfl Za0 rfl (ZO _ _ _ _ _ _ (by omega) (by omega) (by omega) hm _ hbm) (h:=?_)))))
  rintro _ _ ⟨rk, rfl, rka, rkb, rfl⟩
  refine xA (h:=Zw [_, _] rfl (Zpb (α := Gh DUser) [0, 2, 4] (fun g => [(3, .slice g.a g.xs.length g.c)]) (fun g => [rd b q m cp g.p, g.l]) (fun g Bx => g.p ≤ p + 10 ∧ g.xs.length ≤ 5 ∧ Z4 Bx g.l g.a g.c 65 3 Zg g.xs) ?_ (fun g B6 hle6 hF => ?_)))
  refine Za (xM (h:=xX 0 rfl Za0 rfl (ZO _ _ _ _ _ _ (by omega) (by omega) (by omega) hm _ hbm) (h:=?_)))
  rintro _ _ ⟨rj, rfl, rja, rjb, rfl⟩
  refine Zw [_, _] rfl (Zo (Za (ZJ (h:=xA (h:=Zc rfl (fun g1 => ?_) (fun g1 => ?_))))))
  try simp only [sQ, ne_eq] at g1
  refine Zd (xM (h:=xM (h:=xM (h:=xX 0 rfl Zsk rfl (Zcz _ _ _ _ _ (by omega) hm _ hbm) (h:=?_)))))
  rintro _ _ ⟨xs, rfl, hxs, rfl⟩
  obtain ⟨z, hz⟩ := Zex (xs := us1) (i := rk) (by first | omega | (simp; done) | (simp; omega)) (by first | omega | (simp; done) | (simp; omega))
  obtain ⟨bb10, _, hp10, ⟨rfl, hb10, hb10b⟩, hw10, hc10⟩ := hv1.row hz
  refine xIp hp10 Tryz.underlying23 ZeJ (h:=xW Zc0 (h:=Zp (Zee (k := (rk).toNat) (off := 0) (⟨xs, z.pass, z.quota⟩) [_] 1 hv1 hp10 hz rfl rfl sz9 rfl rfl rfl rfl rfl rfl (by rintro _ ⟨rfl, e1, e2⟩; exact ⟨rfl, show xs.length ≤ 2000000 by omega, e2⟩) (fun l11 hv11 => ?_))))
  refine Zy ?_
  obtain ⟨us12, hn12, hv12⟩ : ∃ us12 : List DUser, us12.length = us1.length ∧ Z4 B l11 _ _ 65 3 Zg us12 := ⟨_, by rw [List.length_set], hv11⟩
  rw [← hn12]
  exact ZK ⟨0, ((((((p + 1) + 1) + 1) + 1) + 1) + 2), l11, (some ⟨b3, 0, none⟩), 3, us12⟩ [0, 1] ⟨by simp only []; omega, by first | (simp only []; omega) | (simp; omega), hv12⟩ ⟨rfl, rfl, rfl, rfl, trivial⟩ rfl
  try simp only [sQ, ne_eq] at g1
  refine Za (ZJ (h:=xA (h:=Zc rfl (fun g2 => ?_) (fun g2 => ?_))))
  try simp only [sQ, ne_eq] at g2
  refine Zd (xM (h:=xM (h:=xM (h:=xX 0 rfl Zsk rfl (Zcz _ _ _ _ _ (by omega) hm _ hbm) (h:=?_)))))
  rintro _ _ ⟨xs, rfl, hxs, rfl⟩
  obtain ⟨z, hz⟩ := Zex (xs := us1) (i := rk) (by first | omega | (simp; done) | (simp; omega)) (by first | omega | (simp; done) | (simp; omega))
  obtain ⟨bb15, _, hp15, ⟨rfl, hb15, hb15b⟩, hw15, hc15⟩ := hv1.row hz
  refine xIp hp15 Tryz.underlying23 ZeJ (h:=xW Zqw (h:=Zp (Zee (k := (rk).toNat) (off := 1) (⟨z.name, xs, z.quota⟩) [_] 1 hv1 hp15 hz rfl rfl sz9 rfl rfl rfl rfl rfl rfl (by rintro _ ⟨rfl, e1, e2⟩; exact ⟨rfl, e1, show xs.length ≤ 2000000 by omega⟩) (fun l16 hv16 => ?_))))
  refine Zy ?_
  obtain ⟨us17, hn17, hv17⟩ : ∃ us17 : List DUser, us17.length = us1.length ∧ Z4 B l16 _ _ 65 3 Zg us17 := ⟨_, by rw [List.length_set], hv16⟩
  rw [← hn17]
  exact ZK ⟨0, ((((((p + 1) + 1) + 1) + 1) + 1) + 2), l16, (some ⟨b3, 0, none⟩), 3, us17⟩ [0, 1] ⟨by simp only []; omega, by first | (simp only []; omega) | (simp; omega), hv17⟩ ⟨rfl, rfl, rfl, rfl, trivial⟩ rfl
  try simp only [sQ, ne_eq] at g2
  refine Za (ZJ (h:=xA (h:=Zc rfl (fun g3 => ?_) (fun g3 => ?_))))
  try simp only [sQ, ne_eq] at g3
  refine Zd (xM (h:=xM (h:=xBs [(0, _), (1, _), (2, _), (3, _)] [_, _, _, _] Tryz.underlying147 sz3 zo3 (h:=fun b18 => ZY 2 rfl (Z4.ints (ls := ([(-1), 0, 200, 201] : List Int))) ZbE.mono (by first | omega | decide | (simp; done) | (simp; omega)) (fun B19 hle19 hr19 => ?_)))))
  replace hv1 := hv1.mono Zg.mono hle19
  replace hbm := hbm.mono hle19
  have hr19n := hr19.len
  refine xM (h:=xX 0 rfl Za0 rfl (ZO _ _ _ _ _ _ (by omega) (by omega) (by omega) hm _ hbm) (h:=?_))
  rintro _ _ ⟨rs, rfl, rsa, rsb, rfl⟩
  obtain ⟨e, he⟩ := Zex (xs := ([(-1), 0, 200, 201] : List Int)) (i := rs) (by first | omega | (simp; done) | (simp; omega)) (by first | omega | (simp; done) | (simp; omega))
  obtain ⟨_, rfl, hc22⟩ := hr19.elem he
  refine xIx Tryz.underlying147 sz3 (h:=y1 lk3 hc22 0 (h:=?_))
  obtain ⟨z, hz⟩ := Zex (xs := us1) (i := rk) (by first | omega | (simp; done) | (simp; omega)) (by first | omega | (simp; done) | (simp; omega))
  obtain ⟨bb24, _, hp24, ⟨rfl, hb24, hb24b⟩, hw24, hc24⟩ := hv1.row hz
  refine xIp hp24 Tryz.underlying23 ZeJ (h:=xW ZiI (h:=Zp (Zee (k := (rk).toNat) (off := 2) (⟨z.name, z.pass, e⟩) [_] 1 hv1 hp24 hz rfl rfl sz3 rfl rfl rfl rfl rfl rfl (by rintro _ ⟨rfl, e1, e2⟩; exact ⟨rfl, e1, e2⟩) (fun l25 hv25 => ?_))))
  refine Zy ?_
  obtain ⟨us26, hn26, hv26⟩ : ∃ us26 : List DUser, us26.length = us1.length ∧ Z4 B19 l25 _ _ 65 3 Zg us26 := ⟨_, by rw [List.length_set], hv25⟩
  rw [← hn26]
  exact ZK ⟨0, ((((((p + 1) + 1) + 1) + 1) + 1) + 1), l25, (some ⟨b3, 0, none⟩), 3, us26⟩ [0, 1] ⟨by simp only []; omega, by first | (simp only []; omega) | (simp; omega), hv26⟩ ⟨rfl, rfl, rfl, rfl, trivial⟩ rfl
  try simp only [sQ, ne_eq] at g3
  refine Za (ZJ (h:=xA (h:=Zc rfl (fun g4 => ?_) (fun g4 => ?_))))
  try simp only [sQ, ne_eq] at g4
  refine Zd (xM (h:=xB [(0, _), (1, _), (2, _)] [_, _, _] [_, _, _] ZrG Zgw (h:=xB [(0, _), (1, _), (2, _)] [_, _, _] [_, _, _] ZrG Zgw (h:=xBs [(0, _), (1, _)] [_, _, _, _, _, _] Tryz.underlying23 ZeJ Zgw (h:=fun b27 => Zp (Znb (rows := [[str [100, 97, 110], str [100, 52], .int .i64 9], [str [101, 118, 101], str [101, 53], .int .i64 9]]) (ys := [⟨[100, 97, 110], [100, 52], 9⟩, ⟨[101, 118, 101], [101, 53], 9⟩]) (R := Zg) 1 rfl hv1 rfl rfl rfl ZoM ZnZ rfl rfl rfl (ZaI.box 2 rfl) rfl (by intro row hr; simp only [List.mem_cons, List.not_mem_nil, or_false] at hr; rcases hr with rfl | rfl <;> rfl) (.cons (⟨rfl, by first | assumption | omega | (simp; done) | (simp; omega), by first | assumption | omega | (simp; done) | (simp; omega)⟩) (.cons (⟨rfl, by first | assumption | omega | (simp; done) | (simp; done) | (simp; omega), by first | assumption | omega | (simp; done) | (simp; done) | (simp; omega)⟩) .nil)) (by first | omega | (simp; done) | (simp; omega)) (fun l28 p28 c28 hv28 => ?_)))))))
  refine xA (h:=Zy ?_)
  exact ZK ⟨0, (((((p + 1) + 1) + 1) + 1) + 1), l28, p28, c28, (us1 ++ [⟨[100, 97, 110], [100, 52], 9⟩, ⟨[101, 118, 101], [101, 53], 9⟩])⟩ [0, 1] ⟨by simp only []; omega, by first | (simp only []; omega) | (simp; omega), hv28⟩ ⟨rfl, rfl, rfl, rfl, trivial⟩ rfl
  try simp only [sQ, ne_eq] at g4
  refine Zh (Zy ?_)
  exact ZK ⟨0, (((((p + 1) + 1) + 1) + 1) + 1), _, (some ⟨b3, 0, none⟩), 3, us1⟩ [0, 1] ⟨by simp only []; omega, by first | (simp only []; omega) | (simp; omega), hv1⟩ ⟨rfl, rfl, rfl, rfl, trivial⟩ rfl
  obtain ⟨hgp, hgn, hw⟩ := hF
  replace hbm := hbm.mono hle6
  refine ZP [(0, _), (2, _), (3, _), (4, _)] [_, _] ⟨rfl, rfl, rfl, rfl, trivial⟩ rfl (ZdD 1 rfl hw Zg.mono (by first | omega | decide | (simp; done) | (simp; omega)) (fun B29 hle29 hr29 => ?_))
  replace hbm := hbm.mono hle29
  have hr29n := hr29.len
  refine Za (xM (h:=xA (h:=Zw [_, _] rfl (Zi ?_))))
  exact Zag .ret (.inl rfl) [_] [0] rfl ⟨rfl, trivial⟩ ⟨_, _, _, _, rfl, hr29, by omega, by omega, rfl⟩

set_option maxHeartbeats 400000 in
theorem ZgR (q:Option Addr) (cp:Nat) (x:DBox) (B:Kn) (hm:SlK B q cp 3 ZD x.mail):ZN (pj J) 24 [.agg #[.int .i64 x.next,.slice q x.mail.length cp]] B [] (fun v B' Ls=>B'=B∧∃l a c,Ls=[l]∧v = .agg #[.int .i64 x.next,.slice a x.mail.length c]∧Z4 B l a c 110 3 ZD x.mail):=by
 refine Ze 10 Tryz.func24 rfl rfl rfl (Nat.le_of_ble_eq_true rfl) ?_
 have hxn:=hm.len
 refine Za (xBx [_,_] (h:=fun b1=>xAl [_,_] ZeD (h:=fun b2=>Zw [_,_] rfl (Zk (Z7 (keeps _ [0] _) mo kr ⟨Kn.le.refl _,Zat.refl _ _⟩ (fun _ _=>?_))))))
 refine aW 0 rfl Zcf (h:=aT 1 rfl (ZG fun D B L hI=>Zl rfl rfl lk3 rfl (atL 0 (hI.2.1.trans rfl) rfl rfl) r4) (h:=aW 3 rfl ZaL (h:=aT 4 rfl (ZG fun D B L hI=>Zl rfl rfl Zfo rfl (atL 0 (hI.2.1.trans rfl) rfl rfl) r4) (h:=Zr 2 kr rfl kr (Zu (parts:=[]) [] rfl rfl Tryz.underlying37 Zcv Zfy rfl rfl rfl rfl rfl (fun b3=>?_))))))
 refine ⟨⟨Kn.le.refl _,t1⟩,(Zr 5 kr rfl kr (ZaV (R:=ZD) 2 rfl (Z4.lit0 (R:=ZD)) rfl rfl rfl ZvE ZvA rfl rfl rfl hm.rows ZD.one rfl om (fun l4 p4 c4 hv4=>?_)))⟩
 refine ⟨⟨Kn.le.refl _,t1⟩,(aT 6 rfl (ZG fun D B L hI=>Zav (parts:=[(0,_),(1,_)]) [_,_] [_,_] rfl rfl Zl2 ZeD rfl rfl rfl r4) (h:=Z0 7 kr rfl kr kr kr (ZQ [_,_] 1 [_,_] rfl rfl ZcI rfl rfl rfl rfl rfl rfl rfl rfl ?_)))⟩
 refine Zf (Zw [_,_,_] rfl (Zi ?_))
 exact Zag .ret (.inl rfl) [_] [2] rfl ⟨⟨_,rfl,.inr ⟨[_,_],ZbD,Zaj 1 rfl rfl rfl,rfl⟩⟩,trivial⟩ ⟨rfl,_,_,_,rfl,rfl,hv4⟩

set_option maxHeartbeats 400000 in
theorem Zks (qa qb:Option Addr) (ca cb:Nat) (x:DFolder) (B:Kn) (hg:SlK B qa ca 2 Zx x.grants) (hm:SlK B qb cb 3 ZD x.mail):ZN (pj J) 43 [.agg #[str x.owner,str x.name,.slice qa x.grants.length ca,.int .i64 x.next,.slice qb x.mail.length cb]] B [] (fun v B' Ls=>B'=B∧∃l a c l' a' c',Ls=[l,l']∧v = .agg #[str x.owner,str x.name,.slice a x.grants.length c,.int .i64 x.next,.slice a' x.mail.length c']∧Z4 B l a c 101 2 Zx x.grants∧Z4 B l' a' c' 110 3 ZD x.mail):=by
 refine Ze 13 Tryz.func43 rfl rfl rfl (Nat.le_of_ble_eq_true rfl) ?_
 have hgn:=hg.len
 have hmn:=hm.len
 refine Za (xBx [_,_,_,_,_] (h:=fun b1=>xAl [_,_,_,_,_] Zb8 (h:=fun b2=>Zw [_,_] rfl (Za (xBs [] [] Tryz.underlying36 Zbn ZcH (h:=fun b3=>xW ZbU (h:=x1 Zlm 0 (h:=Zp (ZaV (R:=Zx) 2 rfl (Z4.lit0 (R:=Zx)) rfl rfl rfl ZqF Zpu rfl rfl rfl hg.rows Zx.one rfl om (fun l4 p4 c4 hv4=>?_))))))))))
 refine xW ZbU (h:=xS [_] 0 [_,_,_,_,_] Zur (h:=Zw [_,_,_] rfl (Za (xW Zbh (h:=xL [_,_] ZbD 0 (h:=Zp (Zaf rfl rfl Zwm rfl (ZgR _ _ (⟨x.next,x.mail⟩:DBox) _ hm) ?_)))))))
 rintro _ _ _ hle5 ⟨rfl,l5,a5,c5,rfl,rfl,hs5⟩
 refine xW Zbh (h:=xS [_,_] 0 [_,_,_,_,_] ZcI (h:=Zw [_,_,_,_] rfl (Za (xL [_,_,_,_,_] Zfn 0 (h:=xS [_,_,_,_,_] 1 [_,_,_,_,_] ZaD (h:=Zw [_,_,_,_] rfl (Zi ?_)))))))
 exact Zag .ret (.inl rfl) [_] [2,3] rfl ⟨⟨_,rfl,.inr ⟨[_,_,_,_,_],Zfn,Zaj 1 rfl rfl rfl,rfl⟩⟩,trivial⟩ ⟨rfl,_,_,_,_,_,_,rfl,rfl,hv4,hs5⟩

set_option maxHeartbeats 400000 in
theorem ZeZ (hJ:Joins Tryz.prog J) (q1 q2 q3:Option Addr) (c1 c2 c3:Nat) (x:DHost) (o n:Str) (ho:o.length≤2000000) (hn:n.length≤2000000) (hd:x.domain.length≤2000000) (B:Kn) (hu:SlK B q1 c1 3 Zg x.users) (hf:SlK B q2 c2 5 Zb x.folders) (hi:SlK B q3 c3 4 Zj x.queue.items):ZN (pj J) 19 [.agg #[str x.domain,.slice q1 x.users.length c1,.slice q2 x.folders.length c2,.int .i64 x.queue.next,.slice q3 x.queue.items.length c3],str o,str n] B [] (fun v B' Ls=>Ls=[]∧∃qa ca qb cb,v = .tuple #[.agg #[str (ZL x o n).1.owner,str (ZL x o n).1.name,.slice qa (ZL x o n).1.grants.length ca,.int .i64 (ZL x o n).1.next,.slice qb (ZL x o n).1.mail.length cb],.bool (ZL x o n).2]∧SlK B' qa ca 2 Zx (ZL x o n).1.grants∧SlK B' qb cb 3 ZD (ZL x o n).1.mail):=by
 refine Ze 25 Tryz.func19 rfl rfl rfl (Nat.le_of_ble_eq_true rfl) ?_
 have hfn:=hf.len
 have hix:=ZdR (inF o n) x.folders
 refine Za (xBx [_,_,_,_,_] (h:=fun b1=>xAl [_,_,_,_,_] Zb8 (h:=fun b2=>xA (h:=Zw [_,_] rfl (ZnV 0 rfl (fun B3 hle3 hpm3=>?_))))))
 have hc3:=ZcW hpm3
 replace hu:=hu.mono Zg.mono hle3
 replace hf:=hf.mono Zb.mono hle3
 replace hi:=hi.mono Zj.mono hle3
 refine Zk (Za (yL [_,_,_,_,_] Z3 hc3 0 (h:=Zp (Zac rfl rfl Zwo rfl (ZfQ hJ _ _ _ _ _ _ x om2 _ hu hf hi) ?_))))
 intro v4 B4 hle4
 rintro rfl
 replace hu:=hu.mono Zg.mono hle4
 replace hf:=hf.mono Zb.mono hle4
 replace hi:=hi.mono Zj.mono hle4
 replace hc3:=hc3.mono hle4
 refine xN (h:=Zw [_,_] rfl (Zc rfl (fun g1=>?_) (fun g1=>?_)))
 try simp only [sQ,ne_eq] at g1
 rw [Zjb (x:=x) (o:=o) (n:=n) (by simpa using g1)]
 refine Za (xB [] [_,_,_,_,_] [_,_,_,_,_] Zre Zb8 (h:=xS [_,_,_,_,_] 1 [_,_,_,_,_] ZaD (h:=xA (h:=Zw [_,_] rfl (Zi (Zs ?_))))))
 exact Zag .ret (.inl rfl) [_,_] [] rfl ⟨⟨_,rfl,.inr ⟨[_,_,_,_,_],Zfn,Zaj 1 rfl rfl rfl,rfl⟩⟩,rfl,trivial⟩ ⟨rfl,none,0,none,0,rfl,SlK.nil,SlK.nil⟩
 try simp only [sQ,ne_eq] at g1
 refine Zh (Zf (Za (xM (h:=xM (h:=xR Zxd rfl (Zs3 _ _ _ _ _ _ _ _ x o n om2 om2 _ hc3 hf) (h:=?_))))))
 refine xA (h:=Zk (Za (xM (h:=Zae (h:=Zc rfl (fun g2=>?_) (fun g2=>?_))))))
 try simp only [sQ,ne_eq] at g2
 rw [ZiC (x:=x) (o:=o) (n:=n) oz]
 refine Za (xB [] [_,_,_,_,_] [_,_,_,_,_] Zre Zb8 (h:=xS [_,_,_,_,_] 1 [_,_,_,_,_] ZaD (h:=xA (h:=Zw [_,_] rfl (Zi (Zs ?_))))))
 exact Zag .ret (.inl rfl) [_,_] [] rfl ⟨⟨_,rfl,.inr ⟨[_,_,_,_,_],Zfn,Zaj 1 rfl rfl rfl,rfl⟩⟩,rfl,trivial⟩ ⟨rfl,none,0,none,0,rfl,SlK.nil,SlK.nil⟩
 try simp only [sQ,ne_eq] at g2
 refine Zh (Zf (Za (xW ZZ (h:=y1 Zb3 hc3 2 (h:=xM (h:=?_))))))
 obtain ⟨w,hw⟩:=Zex (xs:=x.folders) (i:=(Za6 (inF o n) x.folders)) om om
 obtain ⟨bb7,oo7,rfl⟩:=hf.base hw
 obtain ⟨_,⟨qg8,cg8,qm8,cm8,rfl,hg8,hm8,hb8,hb8b⟩,hc8⟩:=hf.elem hw
 have hg8n:=hg8.len
 have hm8n:=hm8.len
 have hm8s:=ZS hm8
 refine xIx Tryz.underlying24 ZaD (h:=yL [_,_,_,_,_] Zfn hc8 0 (h:=Zp (Zaf rfl rfl Zx2 rfl (Zks _ _ _ _ w _ hg8 hm8) ?_)))
 rintro _ _ _ hle9 ⟨rfl,l9,a9,c9,l9b,a9b,c9b,rfl,rfl,hs9,hs9b⟩
 refine ZY 2 rfl hs9 Zx.mono om3 (fun B10 hle10 hr10=>?_)
 replace hu:=hu.mono Zg.mono hle10
 replace hf:=hf.mono Zb.mono hle10
 replace hi:=hi.mono Zj.mono hle10
 replace hc3:=hc3.mono hle10
 replace hg8:=hg8.mono Zx.mono hle10
 replace hm8:=hm8.mono ZD.mono hle10
 replace hc8:=hc8.mono hle10
 replace hs9b:=hs9b.mono ZD.mono hle10
 have hr10n:=hr10.len
 refine ZY 3 rfl hs9b ZD.mono om3 (fun B11 hle11 hr11=>?_)
 replace hu:=hu.mono Zg.mono hle11
 replace hf:=hf.mono Zb.mono hle11
 replace hi:=hi.mono Zj.mono hle11
 replace hc3:=hc3.mono hle11
 replace hg8:=hg8.mono Zx.mono hle11
 replace hm8:=hm8.mono ZD.mono hle11
 replace hc8:=hc8.mono hle11
 replace hr10:=hr10.mono Zx.mono hle11
 have hr11n:=hr11.len
 refine xS [_,_,_,_,_] 1 [_,_,_,_,_] ZaD (h:=xA (h:=Zw [_,_,_,_] rfl (Zi ?_)))
 exact Zag .ret (.inl rfl) [_,_] [] rfl ⟨⟨_,rfl,.inr ⟨[_,_,_,_,_],Zfn,Zaj 1 rfl rfl rfl,rfl⟩⟩,rfl,trivial⟩ (by rw [ZiB (x:=x) (o:=o) (n:=n) (by simpa using g1) oz hw];exact ⟨rfl,_,_,_,_,rfl,hr10,hr11⟩)

end Go.Proofs.YtkgobijihcfikaaGreat
