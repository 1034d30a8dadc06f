/-
  WHAT THE FUNCTIONS THAT THE LAWS REACH COMPUTE: each function's contract, proved off its printed body (the text is written by program). No condition beyond those that each theorem states.
-/
import Derived.Test.YtglldnolbfgppaaGreatDoorC1
namespace Go.Proofs.YtglldnolbfgppaaGreatDoor
open Go Go.BL
set_option linter.unusedVariables false
set_option linter.unusedSimpArgs false
set_option maxRecDepth 4000
variable {J : JoinT}
set_option maxHeartbeats 400000 in
theorem Ziy (u y z:Str) (h1:u.length≤140737488355328) (h2:y.length≤140737488355328) (h3:z.length≤140737488355328) (left:Int) (hl0:0≤left) (hl1:left≤1048576) (B:Kn):Z3 (pj J) 5 [.agg #[str u,str y,str z],.int .i64 left] B (.int .i64 (szI left (u.length+y.length+z.length))):=by
 refine Zb 27 Tryz.func5 rfl rfl rfl (Nat.le_of_ble_eq_true rfl) ?_
 refine Za (xBx [_,_,_] (h:=fun b1=>xA (h:=ZM [_] rfl (Za (xM (h:=xW ZoF (h:=x1 lk9 0 (h:=xVs Tryz.underlying9 (h:=xU (h:=xA (h:=Zi (Za ?_))))))))))))
 refine xM (h:=ZF (h:=Zc rfl (fun g1=>?_) (fun g1=>?_)))
 try simp only [sQ,ne_eq] at g1
 refine Za (xA (h:=Zg (Zm ?_)))
 exact Zy .ret (.inl rfl) [_] t1 ⟨ZC (by first | (unfold szI;split <;> omega)),rfl,rfl⟩
 try simp only [sQ,ne_eq] at g1
 refine Zh (Ze (Za (xM (h:=xW ZoE (h:=x1 lk9 0 (h:=xVs Tryz.underlying9 (h:=xU (h:=xA (h:=Zi (Za (xM (h:=ZF (h:=?_)))))))))))))
 refine Zc rfl (fun g2=>?_) (fun g2=>?_)
 try simp only [sQ,ne_eq] at g2
 refine Za (xA (h:=Zg (Zm ?_)))
 exact Zy .ret (.inl rfl) [_] t1 ⟨ZC (by first | (unfold szI;split <;> omega)),rfl,rfl⟩
 try simp only [sQ,ne_eq] at g2
 refine Zh (Ze (Za (xM (h:=xW ZoD (h:=x1 lk9 0 (h:=xVs Tryz.underlying9 (h:=xU (h:=xA (h:=Zi (Za (xM (h:=ZF (h:=?_)))))))))))))
 refine Zc rfl (fun g3=>?_) (fun g3=>?_)
 try simp only [sQ,ne_eq] at g3
 refine Za (xA (h:=Zg (Zm ?_)))
 exact Zy .ret (.inl rfl) [_] t1 ⟨ZC (by first | (unfold szI;split <;> omega)),rfl,rfl⟩
 try simp only [sQ,ne_eq] at g3
 refine Zh (Ze (Za (xM (h:=xA (h:=Zg ?_)))))
 exact Zy .ret (.inl rfl) [_] t1 ⟨ZC (by first | (unfold szI;split <;> omega)),rfl,rfl⟩

set_option maxHeartbeats 400000 in
theorem Za4 (u y z:Str) (B:Kn):Z3 (pj J) 8 [.agg #[str u,str y,str z]] B (.agg #[str u,str y,str z]):=by
 refine Zb 14 Tryz.func8 rfl rfl rfl (Nat.le_of_ble_eq_true rfl) ?_
 refine Za (xBx [_,_,_] (h:=fun b1=>xAl [_,_,_] Zgr (h:=fun b2=>ZM [_,_] rfl (Za (xAl [_,_,_] Zgr (h:=fun b3=>ZM [_,_,_] rfl (Za (xW ZoF (h:=x1 lk9 0 (h:=xW ZfY (h:=xS [_] 2 [_,_,_] sz9 (h:=ZM [_,_,_] rfl ?_))))))))))))
 refine Za (xW ZoE (h:=x1 lk9 0 (h:=xW Zmb (h:=xS [_] 2 [_,_,_] sz9 (h:=ZM [_,_,_] rfl (Za (xW ZoD (h:=x1 lk9 0 (h:=xW Zma (h:=xS [_] 2 [_,_,_] sz9 (h:=ZM [_,_,_] rfl (Za ?_))))))))))))
 refine xL [_,_,_] Ze0 2 (h:=xS [_,_,_] 1 [_,_,_] ZgV (h:=ZM [_,_,_] rfl (Zg ?_)))
 exact Zy .ret (.inl rfl) [_] ⟨⟨_,rfl,.inr ⟨[_,_,_],Ze0,Zby 1 rfl rfl rfl,rfl⟩⟩,trivial⟩ ⟨rfl,rfl,rfl⟩

theorem ZqZ (v:Value) (Q:Value→Kn→Cells→Prop) (B:Kn) (L:Cells):hb Tryz.prog (Extern.ReflectliteType.typeOf #[.iface 232 v]) Q B L=Q (.iface 196 (.agg #[.pointer (some ⟨5,232,none⟩)])) B L:=by kernel_rfl

theorem Zq0 (v:Value) (k:Nat) (Q:FuncId × Value→Kn→Cells→Prop) (B:Kn) (L:Cells):hb Tryz.prog (Go.method (k+1) 196 v "Comparable") Q B L=Q (179,v) B L:=by kernel_rfl

theorem Zq1 (Q:Value→Kn→Cells→Prop) (B:Kn) (L:Cells):hb Tryz.prog ((Extern.ReflectliteType.method fun t=>do Extern.Rtype.noPackHeld "Comparable" t;pure (.bool (← typeInfo t).comparable)) #[(.agg #[.pointer (some ⟨5,232,none⟩)])]) Q B L=Q (.bool true) B L:=by kernel_rfl

theorem ZpM:Extern.find Tryz.f179=some (Extern.ReflectliteType.method fun t=>do Extern.Rtype.noPackHeld "Comparable" t;pure (.bool (← typeInfo t).comparable)):=by kernel_rfl
theorem ZpL:Extern.find Tryz.f88=some Extern.ReflectliteType.typeOf:=by kernel_rfl

theorem ZrR:Extern.findNext Tryz.f88=none:=by kernel_rfl
theorem ZrS:Extern.findNext Tryz.f179=none:=by kernel_rfl

set_option maxHeartbeats 400000 in
theorem ZpJ (c k:Nat) (hc:c<4) (hk:k<4) (a:Nat→Addr)  (B:Kn) (hE:ErrsB 232 B a):Z3 (pj J) 89 [errv 232 a (c+1),errv 232 a (k+1),.bool true] B (.bool (decide (c+1=k+1))):=by
 refine Zb 54 Tryz.func89 rfl rfl rfl (Nat.le_of_ble_eq_true rfl) ?_
 refine Za (xA (h:=Zn (ZD (α:=Unit) [1,2] (fun u=>[(0,errv 232 a (c+1))]) [] (fun u=>[]) (fun u Bx=>Bx=B) (fun u=>0) () t1 rfl (rfl) (fun u B1 hle1 hI=>?_))))
 subst hI
 refine ZJ [(0,_),(1,_),(2,_)] [] t3 rfl (Zn (Zi (Za (xM (h:=xM (h:=Zv (d:=15) rfl (fun g1=>?_) (fun g1=>by cases g1)))))))
 try simp only [sQ,ne_eq] at g1
 refine xM (h:=xM (h:=Zr (ZkZ (a:=a) (c:=(c+1)) (k:=k) hE oz oz rfl rfl Tryz.underlying58 Tryz.underlying232 ZsS Zqx rfl rfl ?_)))
 refine xT (h:=Zc rfl (fun g2=>?_) (fun g2=>?_))
 try simp only [sQ,ne_eq] at g2
 refine Za (xA (h:=Zg (Zm (Zz (ZG (Zz ?_))))))
 exact Zy .ret (.inl rfl) [_] t1 ⟨Zd (decide_eq_true g2).symm,rfl,rfl⟩
 try simp only [sQ,ne_eq] at g2
 refine Zh (Ze (Zi (Za (xM (h:=Zr (Zft rfl rfl Tryz.underlying198 kr Zru rfl ?_))))))
 refine xM (h:=xE (h:=xE (h:=xA (h:=xA (h:=Za (xM (h:=xM (h:=Zv (d:=26) rfl (fun g3=>by cases g3) (fun g3=>?_)))))))))
 try simp only [sQ,ne_eq] at g3
 refine xP (h:=xP (h:=xP (h:=xF (h:=Zc (t:=false) rfl (fun h=>Bool.noConfusion h) (fun _=>Zh (Ze (Za (xM (h:=Zn (Za (Zr (Zft rfl rfl Tryz.underlying201 kr Zrt rfl ?_))))))))))))
 refine xE (h:=xE (h:=Zc rfl (fun g5=>by cases g5) (fun g5=>?_)))
 try simp only [sQ,ne_eq] at g5
 refine Za (Zr (Zft rfl rfl Tryz.underlying203 kr Zrs rfl ?_))
 refine xE (h:=xE (h:=Zc rfl (fun g6=>by cases g6) (fun g6=>?_)))
 try simp only [sQ,ne_eq] at g6
 refine Za (xA (h:=Za (xA (h:=Zg (Zz (Zz (ZG (Zz ?_))))))))
 exact Zy .ret (.inl rfl) [_] t1 ⟨Zd (decide_eq_false g2).symm,rfl,rfl⟩

set_option maxHeartbeats 400000 in
theorem ZpI (c k:Nat) (hc:c<4) (hk:k<4) (a:Nat→Addr)  (B:Kn) (hE:ErrsB 232 B a):Z3 (pj J) 50 [errv 232 a (c+1),errv 232 a (k+1)] B (.bool (decide (c+1=k+1))):=by
 refine Zb 22 Tryz.func50 rfl rfl rfl (Nat.le_of_ble_eq_true rfl) ?_
 refine Za (xA (h:=Zi (Za (xM (h:=Zr (Zjo (tE:=232) (a:=a) (c:=(c+1)) rfl rfl Tryz.underlying58 rfl (xM (h:=Zv (d:=8) rfl (fun g1=>by simp at g1) (fun g1=>?_)))))))))
 try simp only [sQ,ne_eq] at g1
 refine xM (h:=Zr (Zjo (tE:=232) (a:=a) (c:=(k+1)) rfl rfl Tryz.underlying58 rfl (xF (h:=Zc rfl (fun g2=>by simp at g2) (fun g2=>?_)))))
 try simp only [sQ,ne_eq] at g2
 refine Zh (Ze (Za (xM (h:=Zr (Zqp (fn:=Tryz.f88) rfl rfl Tryz.func88 rfl rfl ZrR ZpL rfl (ZqZ _) (Zr (Zqm (f:=179) (fn:=Tryz.f179) rfl rfl Tryz.func179 rfl rfl ZrS ZpM rfl (Zq0 _) Zq1 (xA (h:=Za (xM (h:=xM (h:=xM (h:=xR Ztl rfl (ZpJ c k oz oz a _ hE) (h:=?_))))))))))))))
 refine xA (h:=Zg ?_)
 exact Zy .ret (.inl rfl) [_] t1 ⟨rfl,rfl,rfl⟩

set_option maxHeartbeats 400000 in
theorem ZpK (k:Nat) (hk:k<4) (a:Nat→Addr)  (B:Kn) (hE:ErrsB 232 B a):Z3 (pj J) 50 [.nilIface,errv 232 a (k+1)] B (.bool (decide (0=k+1))):=by
 refine Zb 22 Tryz.func50 rfl rfl rfl (Nat.le_of_ble_eq_true rfl) ?_
 refine Za (xA (h:=Zi (Za (xM (h:=Zr (Zjo (tE:=232) (a:=a) (c:=0) rfl rfl Tryz.underlying58 rfl (xM (h:=Zv (d:=8) rfl (fun g1=>?_) (fun g1=>by simp at g1)))))))))
 try simp only [sQ,ne_eq] at g1
 refine xP (h:=xP (h:=xT (h:=Zc (t:=true) rfl (fun _=>Za (xM (h:=xM (h:=Zr (ZkZ (a:=a) (c:=0) (k:=k) hE oz oz rfl rfl Tryz.underlying58 Tryz.underlying232 ZsS Zqx rfl rfl ?_))))) (fun h=>Bool.noConfusion h))))
 refine xA (h:=Zg (Zm ?_))
 exact Zy .ret (.inl rfl) [_] t1 ⟨rfl,rfl,rfl⟩

theorem ZjS (c k:Nat) (hc:c<5) (hk:k<4) (a:Nat→Addr)  (B:Kn) (hE:ErrsB 232 B a):Z3 (pj J) 50 [errv 232 a c,errv 232 a (k+1)] B (.bool (decide (c=k+1))):=by
 cases c with
 | zero=>exact ZpK k hk a B hE
 | succ c=>exact ZpI c k oz hk a B hE

set_option maxHeartbeats 400000 in
theorem Zku (c:Nat) (hc:c<5) (a:Nat→Addr)  (B:Kn) (hE:ErrsB 232 B a):Z3 (pj J) 23 [errv 232 a (c)] B (.int .i64 c):=by
 refine Zb 22 Tryz.func23 rfl rfl rfl (Nat.le_of_ble_eq_true rfl) ?_
 refine Za (xA (h:=Zi (Zn (Za (xM (h:=Zr (Zjo (tE:=232) (a:=a) (c:=c) rfl rfl Tryz.underlying58 rfl (xA (h:=Zc rfl (fun g0=>?_) (fun g0=>?_))))))))))
 try simp only [sQ,ne_eq] at g0
 refine Za (xA (h:=Zg (Zz (Zm ?_))))
 exact Zy .ret (.inl rfl) [_] t1 ⟨ZC oz,rfl,rfl⟩
 try simp only [sQ,ne_eq] at g0
 refine Za (xM (h:=Zr (Zu rfl rfl Zpp rfl ((hE.row 0 (by decide)) _ 0 _ rfl) ?_)))
 refine xR Zrp rfl (ZjS c 0 om2 om2 a _ hE) (h:=?_)
 refine xA (h:=Zc rfl (fun g1=>?_) (fun g1=>?_))
 try simp only [sQ,ne_eq] at g1
 refine Za (xA (h:=Zg (Zz (Zm ?_))))
 exact Zy .ret (.inl rfl) [_] t1 ⟨ZC oz,rfl,rfl⟩
 try simp only [sQ,ne_eq] at g1
 refine Za (xM (h:=Zr (Zu rfl rfl Zpp rfl ((hE.row 1 (by decide)) _ 0 _ rfl) ?_)))
 refine xR Zrp rfl (ZjS c 1 om2 om2 a _ hE) (h:=?_)
 refine xA (h:=Zc rfl (fun g2=>?_) (fun g2=>?_))
 try simp only [sQ,ne_eq] at g2
 refine Za (xA (h:=Zg (Zz (Zm ?_))))
 exact Zy .ret (.inl rfl) [_] t1 ⟨ZC oz,rfl,rfl⟩
 try simp only [sQ,ne_eq] at g2
 refine Za (xM (h:=Zr (Zu rfl rfl Zpp rfl ((hE.row 2 (by decide)) _ 0 _ rfl) ?_)))
 refine xR Zrp rfl (ZjS c 2 om2 om2 a _ hE) (h:=?_)
 refine xA (h:=Zc rfl (fun g3=>?_) (fun g3=>?_))
 try simp only [sQ,ne_eq] at g3
 refine Za (xA (h:=Zg (Zz (Zm ?_))))
 exact Zy .ret (.inl rfl) [_] t1 ⟨ZC oz,rfl,rfl⟩
 try simp only [sQ,ne_eq] at g3
 refine Za (xM (h:=Zr (Zu rfl rfl Zpp rfl ((hE.row 3 (by decide)) _ 0 _ rfl) ?_)))
 refine xR Zrp rfl (ZjS c 3 om2 om2 a _ hE) (h:=?_)
 refine xA (h:=Zc rfl (fun g4=>?_) (fun g4=>?_))
 try simp only [sQ,ne_eq] at g4
 refine Za (xA (h:=Zg (Zz (Zm ?_))))
 exact Zy .ret (.inl rfl) [_] t1 ⟨ZC oz,rfl,rfl⟩
 try simp only [sQ,ne_eq] at g4
 refine Zh (ZR (Ze (Za (xA (h:=Zg ?_)))))
 exact Zy .ret (.inl rfl) [_] t1 ⟨ZC oz,rfl,rfl⟩

set_option maxHeartbeats 400000 in
theorem ZpX (b o:Nat) (q1 q2 q3:Option Addr) (c1 c2 c3:Nat) (x:DHost) (u ow nm:Str) (rr:Int) (hn:u.length≤2000000) (ho:ow.length≤2000000) (hm:nm.length≤2000000) (a:Nat→Addr)  (B:Kn) (hE:ErrsB 232 B a) (hh:Zak B b o [str x.domain,.slice q1 x.users.length c1,.slice q2 x.folders.length c2,.int .i64 x.queue.next,.slice q3 x.queue.items.length c3]) (hu:SlK B q1 c1 3 Zs x.users) (hf:SlK B q2 c2 5 Zj x.folders):Z3 (pj J) 22 [ptr ⟨b,o,none⟩,str u,str ow,str nm,.int .i64 rr] B (.tuple #[.int .i64 (if Zip x.users x.folders u ow nm rr=0 then Zcl (inF ow nm) x.folders else -1),errv 232 a (Zip x.users x.folders u ow nm rr)]):=by
 refine Zb 47 Tryz.func22 rfl rfl rfl (Nat.le_of_ble_eq_true rfl) ?_
 have hfn:=hf.len
 have hix:=ZiZ (inF ow nm) x.folders
 refine Za (xA (h:=xA (h:=Za (xM (h:=xM (h:=xM (h:=xR ZsO rfl (ZoL _ _ _ _ _ _ _ _ x ow nm om2 om2 _ hh hf) (h:=?_))))))))
 refine xA (h:=Zi (Za (xM (h:=ZF (h:=xM (h:=Zv (d:=19) rfl (fun g1=>?_) (fun g1=>?_)))))))
 try simp only [sQ,ne_eq] at g1
 refine xP (h:=xP (h:=xP (h:=xP (h:=xP (h:=xP (h:=xP (h:=xP (h:=xP (h:=xP (h:=xP (h:=xT (h:=Zc (t:=true) rfl (fun _=>?_) (fun h=>Bool.noConfusion h)))))))))))))
 refine Zi (Z2 (same _ _) mo kr ⟨rfl,rfl⟩ (fun _ _=>?_))
 refine aT 0 rfl (Z5 fun D=>Zu rfl rfl Zpp rfl ((hE.row 0 (by decide)) _ 0 _ rfl) r4) (h:=?_)
 refine aA 1 rfl (h:=aA 2 rfl (h:=Zt kr kr ?_))
 refine Ze (Zg (Zm ?_))
 exact Zy .ret (.inl rfl) [_,_] t2 ⟨(by rw [show Zip x.users x.folders u ow nm rr=1 from ZmC (by simpa using g1)];rfl),rfl,rfl⟩
 try simp only [sQ,ne_eq] at g1
 refine xM (h:=xM (h:=xM (h:=xNc (h:=xW ZaA (h:=Zr (Zu rfl rfl Zfh rfl (hh _ 2 _ rfl) (xM (h:=?_))))))))
 obtain ⟨w,hw⟩:=ZqS (xs:=x.folders) (i:=(Zcl (inF ow nm) x.folders)) om om
 obtain ⟨bb3,oo3,rfl⟩:=hf.base hw
 obtain ⟨_,⟨qg4,cg4,qm4,cm4,rfl,hg4,hm4,hb4,hb4b⟩,hc4⟩:=hf.elem hw
 have hg4n:=hg4.len
 have hm4n:=hm4.len
 have hm4s:=Zam hm4
 refine xIx Tryz.underlying37 ZeU (h:=yL [_,_,_,_,_] ZiR hc4 0 (h:=xR ZsN rfl (ZqK _ _ _ _ _ _ _ _ x _ _ _ _ u w _ om2 om2 _ hh hu hg4) (h:=?_)))
 refine xN (h:=xF (h:=Zc rfl (fun g3=>?_) (fun g3=>?_)))
 try simp only [sQ,ne_eq] at g3
 refine Zi (Z2 (same _ _) mo kr ⟨rfl,rfl⟩ (fun _ _=>?_))
 refine aT 0 rfl (Z5 fun D=>Zu rfl rfl Zpp rfl ((hE.row 0 (by decide)) _ 0 _ rfl) r4) (h:=?_)
 refine aA 1 rfl (h:=aA 2 rfl (h:=Zt kr kr ?_))
 refine Ze (Zg (Zm ?_))
 exact Zy .ret (.inl rfl) [_,_] t2 ⟨(by rw [show Zip x.users x.folders u ow nm rr=1 from by rw [Zhj oz hw,if_pos (by simpa using g3)]];rfl),rfl,rfl⟩
 try simp only [sQ,ne_eq] at g3
 refine Zh (Ze (Zi (Za (xM (h:=xM (h:=xM (h:=xNc (h:=xW ZaA (h:=Zr (Zu rfl rfl Zfh rfl (hh _ 2 _ rfl) (xM (h:=xIx Tryz.underlying37 ZeU (h:=yL [_,_,_,_,_] ZiR hc4 0 (h:=?_))))))))))))))
 refine xM (h:=xR ZsN rfl (ZqK _ _ _ _ _ _ _ _ x _ _ _ _ u w _ om2 om2 _ hh hu hg4) (h:=?_))
 refine xN (h:=Zc rfl (fun g4=>?_) (fun g4=>?_))
 try simp only [sQ,ne_eq] at g4
 refine Zi (Z2 (same _ _) mo kr ⟨rfl,rfl⟩ (fun _ _=>?_))
 refine aT 0 rfl (Z5 fun D=>Zu rfl rfl Zpp rfl ((hE.row 1 (by decide)) _ 0 _ rfl) r4) (h:=?_)
 refine aA 1 rfl (h:=aA 2 rfl (h:=Zt kr kr ?_))
 refine Ze (Zg (Zm ?_))
 exact Zy .ret (.inl rfl) [_,_] t2 ⟨(by rw [show Zip x.users x.folders u ow nm rr=2 from by rw [Zhj oz hw,if_neg (by simp [g3]),if_pos (by simpa using g4)]];rfl),rfl,rfl⟩
 try simp only [sQ,ne_eq] at g4
 refine Zh (Ze (Za (xM (h:=xA (h:=xA (h:=Zg ?_))))))
 exact Zy .ret (.inl rfl) [_,_] t2 ⟨(by rw [show Zip x.users x.folders u ow nm rr=0 from by rw [Zhj oz hw,if_neg (by simp [g3]),if_neg (by simp [g4])]];rfl),rfl,rfl⟩

set_option maxHeartbeats 400000 in
theorem ZeV (hJ:Joins Tryz.prog J) (q1 q2 q3:Option Addr) (c1 c2 c3:Nat) (x:DHost) (z:DSess) (o n:Str) (h1:z.user.length≤2000000) (h2:z.owner.length≤2000000) (h3:z.name.length≤2000000) (ho:o.length≤2000000) (hn:n.length≤2000000) (hd:x.domain.length≤2000000) (a:Nat→Addr)  (B:Kn) (hE:ErrsB 232 B a) (hu:SlK B q1 c1 3 Zs x.users) (hf:SlK B q2 c2 5 Zj x.folders) (hi:SlK B q3 c3 4 ZB x.queue.items):ZT (pj J) 9 [.agg #[str x.domain,.slice q1 x.users.length c1,.slice q2 x.folders.length c2,.int .i64 x.queue.next,.slice q3 x.queue.items.length c3],.agg #[str z.user,str z.owner,str z.name],str o,str n] B [] (fun v B' Ls=>Ls=[]∧v = .tuple #[.agg #[str (Zd3 x z o n).1.user,str (Zd3 x z o n).1.owner,str (Zd3 x z o n).1.name],.int .i64 (Zd3 x z o n).2]):=by
 refine Zb 34 Tryz.func9 rfl rfl rfl (Nat.le_of_ble_eq_true rfl) ?_
 have hfn:=hf.len
 refine Za (xBx [_,_,_,_,_] (h:=fun b1=>xBx [_,_,_] (h:=fun b2=>xAl [_,_,_] Zgr (h:=fun b3=>xA (h:=ZM [_,_,_] rfl (Zqd 0 rfl (fun B4 hle4 hpm4=>?_)))))))
 have hc4:=Zcr hpm4
 replace hu:=hu.mono Zs.mono hle4
 replace hf:=hf.mono Zj.mono hle4
 replace hi:=hi.mono ZB.mono hle4
 replace hE:=hE.mono hle4
 refine Zi (Za (yL [_,_,_,_,_] Zfg hc4 0 (h:=Zr (Zce rfl rfl Zub rfl (Zi1 hJ _ _ _ _ _ _ x om2 _ hu hf hi) ?_))))
 intro v5 B5 hle5
 rintro rfl
 replace hu:=hu.mono Zs.mono hle5
 replace hf:=hf.mono Zj.mono hle5
 replace hi:=hi.mono ZB.mono hle5
 replace hc4:=hc4.mono hle5
 replace hE:=hE.mono hle5
 refine xN (h:=ZM [_,_,_] rfl (Zc rfl (fun g1=>?_) (fun g1=>?_)))
 try simp only [sQ,ne_eq] at g1
 refine Za (xB [] [_,_,_] [_,_,_] Zrm Zgr (h:=xS [_,_,_] 2 [_,_,_] ZgV (h:=xA (h:=ZM [_,_,_] rfl (Zg (Zm ?_))))))
 exact ZeK .ret (.inl rfl) [_,_] [] rfl ⟨⟨_,rfl,.inr ⟨[_,_,_],Ze0,Zby 2 rfl rfl rfl,rfl⟩⟩,rfl,trivial⟩ ⟨rfl,by rw [Zjx (by simpa using g1)];rfl⟩
 try simp only [sQ,ne_eq] at g1
 have hck:=ZpV x.users x.folders z.user o n 2
 have hce:=Zn2 (u:=z.user) (o:=o) (n:=n) (show Zac x=true by simpa using g1)
 refine Zh (Ze (Zi (Za (xW ZfY (h:=x1 lk9 1 (h:=xM (h:=xM (h:=xR Zua rfl (ZpX _ _ _ _ _ _ _ _ x z.user o n 2 om2 om2 om2 a _ hE hc4 hu hf) (h:=?_)))))))))
 refine xM (h:=xE (h:=xE (h:=xA (h:=xA (h:=Za (xM (h:=Zr (Zqg (tE:=232) (a:=a) (c:=(Zip x.users x.folders z.user o n 2)) rfl rfl Tryz.underlying58 rfl (Zc rfl (fun g2=>?_) (fun g2=>?_))))))))))
 try simp only [sQ,ne_eq] at g2
 refine Zi (Z2 (keeps _ [1] _) mo kr ⟨Kn.le.refl _,ZaV.refl _ _⟩ (fun _ _=>?_))
 refine aT 0 rfl (Z6 fun D B L hI=>ZK [_,_,_] rfl rfl Ze0 rfl (Zby 1 (hI.2.1.trans rfl) rfl rfl) r4) (h:=aM 1 rfl (h:=aT 2 rfl (Z6 fun D B L hI=>ZQ rfl rfl Zt9 rfl (Zku (Zip x.users x.folders z.user o n 2) om2 a _ (hE.mono hI.1)) r4) (h:=?_)))
 refine Zbk 3 kr rfl kr kr (ZaD [_,_,_] 2 [_,_,_] rfl rfl ZgV rfl rfl rfl rfl rfl rfl rfl rfl ?_)
 refine aA 4 rfl (h:=Zt kr kr ?_)
 refine Ze (ZM [_,_,_] rfl (Zg (Zm ?_)))
 exact ZeK .ret (.inl rfl) [_,_] [] rfl ⟨⟨_,rfl,.inr ⟨[_,_,_],Ze0,Zby 2 rfl rfl rfl,rfl⟩⟩,rfl,trivial⟩ ⟨rfl,by rw [Zlq (by simpa using g1) oz,← hce];rfl⟩
 try simp only [sQ,ne_eq] at g2
 refine Zh (Ze (Za (xW ZfY (h:=x1 lk9 1 (h:=xM (h:=xM (h:=xB [(0,_),(1,_),(2,_)] [_,_,_] [_,_,_] Zrm Zgr (h:=xS [_,_,_] 2 [_,_,_] ZgV (h:=xA (h:=ZM [_,_,_] rfl (Zg ?_)))))))))))
 exact ZeK .ret (.inl rfl) [_,_] [] rfl ⟨⟨_,rfl,.inr ⟨[_,_,_],Ze0,Zby 2 rfl rfl rfl,rfl⟩⟩,rfl,trivial⟩ ⟨rfl,by rw [Zjv (by simpa using g1) oz];rfl⟩

set_option maxHeartbeats 400000 in
theorem Zjw (q1 q2 q3:Option Addr) (c1 c2 c3:Nat) (x:DHost) (z:DSess) (o n:Str) (h1:z.user.length≤2000000) (h2:z.owner.length≤2000000) (h3:z.name.length≤2000000) (ho:o.length≤2000000) (hn:n.length≤2000000) (hd:x.domain.length≤2000000) (B:Kn) (hu:SlK B q1 c1 3 Zs x.users) (hf:SlK B q2 c2 5 Zj x.folders) (hi:SlK B q3 c3 4 ZB x.queue.items):Z3 (pj J) 6 [.agg #[str x.domain,.slice q1 x.users.length c1,.slice q2 x.folders.length c2,.int .i64 x.queue.next,.slice q3 x.queue.items.length c3],.agg #[str z.user,str z.owner,str z.name],str o,str n] B (.tuple #[.agg #[str (Zd3 x z o n).1.user,str (Zd3 x z o n).1.owner,str (Zd3 x z o n).1.name],.int .i64 (Zd3 x z o n).2]):=by
 refine Zb 32 Tryz.func6 rfl rfl rfl (Nat.le_of_ble_eq_true rfl) ?_
 have hfn:=hf.len
 have hix:=ZiZ (inF o n) x.folders
 refine Za (xBx [_,_,_,_,_] (h:=fun b1=>xBx [_,_,_] (h:=fun b2=>xAl [_,_,_] Zgr (h:=fun b3=>xA (h:=ZM [_,_,_] rfl (Zi (Za (xL [_,_,_,_,_] Zfg 0 (h:=xR Zug rfl (Zj9 _ _ _ _ _ _ x om2 _ hu hf hi) (h:=?_))))))))))
 refine xN (h:=Zc rfl (fun g1=>?_) (fun g1=>?_))
 try simp only [sQ,ne_eq] at g1
 refine Za (xB [] [_,_,_] [_,_,_] Zrm Zgr (h:=xS [_,_,_] 2 [_,_,_] ZgV (h:=xA (h:=ZM [_,_,_] rfl (Zg (Zm ?_))))))
 exact Zy .ret (.inl rfl) [_,_] ⟨⟨_,rfl,.inr ⟨[_,_,_],Ze0,Zby 2 rfl rfl rfl,rfl⟩⟩,rfl,trivial⟩ ⟨(by rw [Zjx (by simpa using g1)];rfl),rfl,rfl⟩
 try simp only [sQ,ne_eq] at g1
 have hrr:=Zhc (show Zac x=true by simpa using g1)
 refine Zh (Ze (Zi (Z2 (same _ _) mo kr ⟨rfl,rfl⟩ (fun _ _=>?_))))
 refine aT 0 rfl (Z5 fun D=>ZK [_,_,_,_,_] rfl rfl Zfg rfl (Zby 0 rfl rfl rfl) r4) (h:=aW 1 rfl ZfY (h:=aT 2 rfl (Z5 fun D=>Zu rfl rfl lk9 rfl (atL 1 rfl rfl rfl) r4) (h:=aT 3 rfl (Z5 fun D=>ZK [_,_,_,_,_] rfl rfl Zfg rfl (Zby 0 rfl rfl rfl) r4) (h:=aM 4 rfl (h:=aM 5 rfl (h:=aT 6 rfl (Z5 fun D=>ZQ rfl rfl ZsR rfl (ZhX _ _ _ _ _ _ x o n om2 om2 _ hf) r4) (h:=?_)))))))
 refine aT 7 rfl (Z5 fun D=>ZQ rfl rfl Zuf rfl (Zko _ _ _ _ _ _ x z.user (Zcl (inF o n) x.folders) 2 oz hrr oz _ hu hf) r4) (h:=?_)
 refine aA 8 rfl (h:=Zt kr kr ?_)
 refine Ze (Zi (Za (xM (h:=Zax (h:=Zc rfl (fun g2=>?_) (fun g2=>?_))))))
 try simp only [sQ,ne_eq] at g2
 refine Za (xL [_,_,_] Ze0 1 (h:=xM (h:=xS [_,_,_] 2 [_,_,_] ZgV (h:=xA (h:=ZM [_,_,_] rfl (Zg (Zm ?_)))))))
 exact Zy .ret (.inl rfl) [_,_] ⟨⟨_,rfl,.inr ⟨[_,_,_],Ze0,Zby 2 rfl rfl rfl,rfl⟩⟩,rfl,trivial⟩ ⟨(by rw [Zlq (by simpa using g1) g2];rfl),rfl,rfl⟩
 try simp only [sQ,ne_eq] at g2
 refine Zh (Ze (Za (xW ZfY (h:=x1 lk9 1 (h:=xM (h:=xM (h:=xB [(0,_),(1,_),(2,_)] [_,_,_] [_,_,_] Zrm Zgr (h:=xS [_,_,_] 2 [_,_,_] ZgV (h:=xA (h:=ZM [_,_,_] rfl (Zg ?_)))))))))))
 exact Zy .ret (.inl rfl) [_,_] ⟨⟨_,rfl,.inr ⟨[_,_,_],Ze0,Zby 2 rfl rfl rfl,rfl⟩⟩,rfl,trivial⟩ ⟨(by rw [Zjv (by simpa using g1) g2];rfl),rfl,rfl⟩

set_option maxHeartbeats 400000 in
theorem ZaO (a b:DSess) (B:Kn):Z3 (pj J) 10 [.agg #[str a.user,str a.owner,str a.name],.agg #[str b.user,str b.owner,str b.name]] B (.bool (decide (a=b))):=by
 refine Zb 20 Tryz.func10 rfl rfl rfl (Nat.le_of_ble_eq_true rfl) ?_
 refine Za (xBx [_,_,_] (h:=fun b1=>xBx [_,_,_] (h:=fun b2=>xA (h:=ZM [_,_] rfl (Zi (Za (xW ZfY (h:=x1 lk9 0 (h:=xW ZfY (h:=x1 lk9 1 (h:=Zcn (h:=Zc rfl (fun g1=>?_) (fun g1=>?_)))))))))))))
 try simp only [sQ,ne_eq] at g1
 refine Za (xA (h:=Zg (Zm ?_)))
 exact Zy .ret (.inl rfl) [_] t1 ⟨Zd (by symm;rw [decide_eq_false_iff_not];rintro rfl;exact g1 rfl),rfl,rfl⟩
 try simp only [sQ,ne_eq] at g1
 refine Zh (Ze (Zi (Za (xW Zmb (h:=x1 lk9 0 (h:=xW Zmb (h:=x1 lk9 1 (h:=Zcn (h:=Zc rfl (fun g2=>?_) (fun g2=>?_))))))))))
 try simp only [sQ,ne_eq] at g2
 refine Za (xA (h:=Zg (Zm ?_)))
 exact Zy .ret (.inl rfl) [_] t1 ⟨Zd (by symm;rw [decide_eq_false_iff_not];rintro rfl;exact g2 rfl),rfl,rfl⟩
 try simp only [sQ,ne_eq] at g2
 refine Zh (Ze (Zi (Za (xW Zma (h:=x1 lk9 0 (h:=xW Zma (h:=x1 lk9 1 (h:=Zcn (h:=Zc rfl (fun g3=>?_) (fun g3=>?_))))))))))
 try simp only [sQ,ne_eq] at g3
 refine Za (xA (h:=Zg (Zm ?_)))
 exact Zy .ret (.inl rfl) [_] t1 ⟨Zd (by symm;rw [decide_eq_false_iff_not];rintro rfl;exact g3 rfl),rfl,rfl⟩
 try simp only [sQ,ne_eq] at g3
 refine Zh (Ze (Za (xA (h:=Zg ?_))))
 exact Zy .ret (.inl rfl) [_] t1 ⟨Zd (by symm;rw [decide_eq_true_eq];cases a;cases b;simp_all),rfl,rfl⟩

set_option maxHeartbeats 1600000 in
theorem Zi5 (q1 q2 q3:Option Addr) (c1 c2 c3:Nat) (x:DHost) (hd:x.domain.length≤140737488355328) (u y z o n:Str) (hw1:u.length≤140737488355328) (hw2:y.length≤140737488355328) (hw3:z.length≤140737488355328) (hw4:o.length≤140737488355328) (hw5:n.length≤140737488355328) (a:Nat→Addr)  (B:Kn) (hE:ErrsB 232 B a) (hu:SlB B q1 c1 3 Zgo x.users) (hf:SlB B q2 c2 5 Zcj x.folders) (hi:SlB B q3 c3 4 ZeP x.queue.items) :∃code,Tryz.f3.body=some code∧wpS (pj (ZkM Tryz.prog)) 66 code (Zgn (pj (ZkM Tryz.prog)) [.tmp 8] (fun v B' Ls=>v = .bool true)) (Zc5 [.agg #[str x.domain,.slice q1 x.users.length c1,.slice q2 x.folders.length c2,.int .i64 x.queue.next,.slice q3 x.queue.items.length c3],.agg #[str u,str y,str z],str o,str n] 0) [] B []:=by
 have hJ:=ZiU Tryz.prog
 refine ⟨_,rfl,(Za (xBx [_,_,_,_,_] (h:=fun b1=>xBx [_,_,_] (h:=fun b2=>xA (h:=ZM [_,_] rfl (Zi (Za (xM (h:=xVs Tryz.underlying9 (h:=Zdy (h:=Zc rfl (fun g0=>?_) (fun g0=>?_))))))))))))⟩
 try simp only [sQ,ne_eq] at g0
 refine Za (xA (h:=Zg (Zm ?_)))
 exact Zy .ret (.inl rfl) [_] t1 rfl
 try simp only [sQ,ne_eq] at g0
 refine Zh (Ze (Zi (Za (xM (h:=xVs Tryz.underlying9 (h:=Zdy (h:=Zc rfl (fun g0b=>?_) (fun g0b=>?_))))))))
 try simp only [sQ,ne_eq] at g0b
 refine Za (xA (h:=Zg (Zm ?_)))
 exact Zy .ret (.inl rfl) [_] t1 rfl
 try simp only [sQ,ne_eq] at g0b
 refine Zh (Ze (Za (xA (h:=Za (xL [_,_,_,_,_] ZjK 0 (h:=xM (h:=xR en4 rfl (Znb _ _ _ _ _ _ x om 1048576 om om _ hu hf hi) (h:=?_))))))))
 refine xA (h:=Zi (Za (xM (h:=ZF (h:=Zc rfl (fun g1=>?_) (fun g1=>?_))))))
 try simp only [sQ,ne_eq] at g1
 refine Za (xA (h:=Zg (Zm ?_)))
 exact Zy .ret (.inl rfl) [_] t1 rfl
 try simp only [sQ,ne_eq] at g1
 have hsg:=Zbf (left:=1048576) oz g1
 refine Zh (Ze (Za (xL [_,_,_] Zp7 1 (h:=xM (h:=xR en5 rfl (Ziy u y z om2 om2 om2 (szI 1048576 (Zcp x)) om2 om2 _) (h:=?_))))))
 refine xA (h:=Zi (Za (xM (h:=ZF (h:=Zc rfl (fun g2=>?_) (fun g2=>?_))))))
 try simp only [sQ,ne_eq] at g2
 refine Za (xA (h:=Zg (Zm ?_)))
 exact Zy .ret (.inl rfl) [_] t1 rfl
 try simp only [sQ,ne_eq] at g2
 have hsz:=(Zbf oz g1).2
 have hsu:=(Zbf oz g2).2
 replace hsz:Zcp x≤1048576:=by omega
 have hsz2:=Zl1 hsz
 replace hu:=Ziu hu hsz2.2.1
 replace hf:=Zhd hf hsz2.2.2.1
 replace hi:=ZiV hi hsz2.2.2.2
 have hun:=hu.len
 have hfn:=hf.len
 have hin:=hi.len
 refine Zh (Ze (Zi (Z2 (keeps _ [0,1] _) mo kr ⟨Kn.le.refl _,ZaV.refl _ _⟩ (fun _ _=>?_))))
 refine aT 0 rfl (Z6 fun D B L hI=>ZK [_,_,_,_,_] rfl rfl ZjK rfl (Zby 0 (hI.2.1.trans rfl) rfl rfl) r4) (h:=aT 2 rfl (Z6 fun D B L hI=>ZK [_,_,_] rfl rfl Zp7 rfl (Zby 1 (hI.2.2.1.trans rfl) rfl rfl) r4) (h:=aM 4 rfl (h:=aM 5 rfl (h:=Zd0 [1,10] kr kr kr ⟨?_,?_⟩))))
 refine (Zal rfl rfl en7 rfl (ZaG _ _ _ _ _ _ x _ hu hf hi om2) ?_)
 rintro _ B5 _ hle5 ⟨q5,c5,l5,q5b,c5b,l5b,q5c,c5c,l5c,rfl,rfl,rfl,hv5,hv5b,hv5c⟩
 refine ⟨⟨Kn.le.refl _,t2⟩,(ZdH 2 rfl hv5 Zs.any om (fun B' hle'=>⟨hle',t2⟩) (fun B6 hle6 hr6=>?_))⟩
 replace hu:=hu.mono Zs.mono hle6
 replace hf:=hf.mono Zj.mono hle6
 replace hi:=hi.mono ZB.mono hle6
 replace hE:=hE.mono hle6
 have hr6n:=hr6.len
 refine Zbc 3 rfl hv5b Zar.known Zj.mono om (fun B' hle'=>⟨hle6.trans hle',t2⟩) (fun B7 hle7 hr7=>?_)
 replace hu:=hu.mono Zs.mono hle7
 replace hf:=hf.mono Zj.mono hle7
 replace hi:=hi.mono ZB.mono hle7
 replace hr6:=hr6.mono Zs.mono hle7
 replace hE:=hE.mono hle7
 have hr7n:=hr7.len
 refine Zbc 4 rfl hv5c ZbP.known ZB.mono om (fun B' hle'=>⟨(hle6.trans hle7).trans hle',t2⟩) (fun B8 hle8 hr8=>?_)
 replace hu:=hu.mono Zs.mono hle8
 replace hf:=hf.mono Zj.mono hle8
 replace hi:=hi.mono ZB.mono hle8
 replace hr6:=hr6.mono Zs.mono hle8
 replace hr7:=hr7.mono Zj.mono hle8
 replace hE:=hE.mono hle8
 have hr8n:=hr8.len
 refine Zd0 [3,10] kr kr kr ⟨?_,?_⟩
 refine (ZQ rfl rfl en8 rfl (Za4 u y z _) (⟨⟨((hle6.trans hle7).trans hle8),t2⟩,(Zd0 [6,10] kr kr kr ⟨?_,?_⟩)⟩))
 refine (ZQ rfl rfl en6 rfl (Zjw _ _ _ _ _ _ x (⟨u,y,z⟩:DSess) o n om2 om2 om2 om2 om2 om2 _ hr6 hr7 hr8) ?_)
 refine ⟨⟨((hle6.trans hle7).trans hle8),t2⟩,(aM 7 rfl (h:=aE 8 rfl (h:=aE 9 rfl (h:=ZS 10 kr rfl kr (Zbm (l:=[_,_,_]) rfl rfl Zgr rfl (fun b11=>?_))))))⟩
 refine ⟨⟨((hle6.trans hle7).trans hle8),t2⟩,(Zbk 11 kr rfl kr kr (ZaD [_,_,_] 5 [_,_,_] rfl rfl ZgV rfl rfl rfl rfl rfl rfl rfl rfl ?_))⟩
 refine aA 12 rfl (h:=Zt kr kr ?_)
 refine Ze (ZM [_,_,_,_,_,_] rfl (Za (xL [_,_,_,_,_] ZjK 0 (h:=Zr (Zal rfl rfl en7 rfl (ZaG _ _ _ _ _ _ x _ hu hf hi om2) ?_)))))
 rintro _ B12 _ hle12 ⟨q12,c12,l12,q12b,c12b,l12b,q12c,c12c,l12c,rfl,rfl,rfl,hv12,hv12b,hv12c⟩
 refine ZjD 6 rfl hv12 Zs.any om (fun B13 hle13 hr13=>?_)
 replace hu:=hu.mono Zs.mono hle13
 replace hf:=hf.mono Zj.mono hle13
 replace hi:=hi.mono ZB.mono hle13
 replace hE:=hE.mono hle13
 have hr13n:=hr13.len
 refine ZeW 7 rfl hv12b Zar.known Zj.mono om (fun B14 hle14 hr14=>?_)
 replace hu:=hu.mono Zs.mono hle14
 replace hf:=hf.mono Zj.mono hle14
 replace hi:=hi.mono ZB.mono hle14
 replace hr13:=hr13.mono Zs.mono hle14
 replace hE:=hE.mono hle14
 have hr14n:=hr14.len
 refine ZeW 8 rfl hv12c ZbP.known ZB.mono om (fun B15 hle15 hr15=>?_)
 replace hu:=hu.mono Zs.mono hle15
 replace hf:=hf.mono Zj.mono hle15
 replace hi:=hi.mono ZB.mono hle15
 replace hr13:=hr13.mono Zs.mono hle15
 replace hr14:=hr14.mono Zj.mono hle15
 replace hE:=hE.mono hle15
 have hr15n:=hr15.len
 refine xAl [_,_,_,_,_] Zp4 (h:=fun b16=>xS [_,_,_,_,_] 9 [_,_,_,_,_] Zqw (h:=ZM [_,_,_,_,_,_,_,_,_,_] rfl (Zi (Z2 (keeps _ [1,9] _) mo kr ⟨Kn.le.refl _,ZaV.refl _ _⟩ (fun _ _=>?_)))))
 refine aT 0 rfl (Z6 fun D B L hI=>ZK [_,_,_,_,_] rfl rfl Zfg rfl (Zby 9 (hI.2.2.1.trans rfl) rfl rfl) r4) (h:=aT 1 rfl (Z6 fun D B L hI=>ZK [_,_,_] rfl rfl Zp7 rfl (Zby 1 (hI.2.1.trans rfl) rfl rfl) r4) (h:=aT 2 rfl (Z6 fun D B L hI=>ZQ rfl rfl en8 rfl (Za4 u y z _) r4) (h:=aM 3 rfl (h:=aM 4 rfl (h:=Zd0 [5,9] kr kr kr ⟨?_,?_⟩)))))
 refine (Zce rfl rfl en9 rfl (ZeV hJ _ _ _ _ _ _ x (⟨u,y,z⟩:DSess) o n om2 om2 om2 om2 om2 om2 a _ hE hr13 hr14 hr15) ?_)
 intro v18 B18 hle18
 rintro rfl
 replace hu:=hu.mono Zs.mono hle18
 replace hf:=hf.mono Zj.mono hle18
 replace hi:=hi.mono ZB.mono hle18
 replace hr13:=hr13.mono Zs.mono hle18
 replace hr14:=hr14.mono Zj.mono hle18
 replace hr15:=hr15.mono ZB.mono hle18
 replace hE:=hE.mono hle18
 refine ⟨⟨hle18,t2⟩,(aM 6 rfl (h:=aE 7 rfl (h:=aE 8 rfl (h:=ZS 9 kr rfl kr (Zbm (l:=[_,_,_]) rfl rfl Zgr rfl (fun b19=>?_))))))⟩
 refine ⟨⟨hle18,t2⟩,(Zbk 10 kr rfl kr kr (ZaD [_,_,_] 10 [_,_,_] rfl rfl ZgV rfl rfl rfl rfl rfl rfl rfl rfl ?_))⟩
 refine aA 11 rfl (h:=Zt kr kr ?_)
 refine Ze (ZM [_,_,_,_,_,_,_,_,_,_,_] rfl (Zi (Za (xL [_,_,_] Ze0 10 (h:=xL [_,_,_] Ze0 5 (h:=xR ZoO rfl (ZaO ((Zd3 x (⟨u,y,z⟩:DSess) o n).1) ((Zd3 x (⟨u,y,z⟩:DSess) o n).1) _) (h:=xN (h:=xM (h:=Zv (d:=56) rfl (fun g3=>by simp at g3) (fun g3=>?_))))))))))
 try simp only [sQ,ne_eq] at g3
 refine xM (h:=xM (h:=Zax (h:=xF (h:=Zc rfl (fun g4=>by simp at g4) (fun g4=>?_)))))
 try simp only [sQ,ne_eq] at g4
 refine Zh (Ze (Zi (Zi (Z2 (keeps _ [0,9] _) mo kr ⟨Kn.le.refl _,ZaV.refl _ _⟩ (fun _ _=>?_)))))
 refine aT 0 rfl (Z6 fun D B L hI=>ZK [_,_,_,_,_] rfl rfl Zfg rfl (Zby 9 (hI.2.2.1.trans rfl) rfl rfl) r4) (h:=aT 1 rfl (Z6 fun D B L hI=>ZK [_,_,_,_,_] rfl rfl ZjK rfl (Zby 0 (hI.2.1.trans rfl) rfl rfl) r4) (h:=ZS 2 kr rfl kr (Zal rfl rfl en7 rfl (ZaG _ _ _ _ _ _ x _ hu hf hi om2) ?_)))
 rintro _ B21 _ hle21 ⟨q21,c21,l21,q21b,c21b,l21b,q21c,c21c,l21c,rfl,rfl,rfl,hv21,hv21b,hv21c⟩
 refine ⟨⟨Kn.le.refl _,t2⟩,(ZdH 11 rfl hv21 Zs.any om (fun B' hle'=>⟨hle',t2⟩) (fun B22 hle22 hr22=>?_))⟩
 replace hu:=hu.mono Zs.mono hle22
 replace hf:=hf.mono Zj.mono hle22
 replace hi:=hi.mono ZB.mono hle22
 replace hr13:=hr13.mono Zs.mono hle22
 replace hr14:=hr14.mono Zj.mono hle22
 replace hr15:=hr15.mono ZB.mono hle22
 replace hE:=hE.mono hle22
 have hr22n:=hr22.len
 refine Zbc 12 rfl hv21b Zar.known Zj.mono om (fun B' hle'=>⟨hle22.trans hle',t2⟩) (fun B23 hle23 hr23=>?_)
 replace hu:=hu.mono Zs.mono hle23
 replace hf:=hf.mono Zj.mono hle23
 replace hi:=hi.mono ZB.mono hle23
 replace hr13:=hr13.mono Zs.mono hle23
 replace hr14:=hr14.mono Zj.mono hle23
 replace hr15:=hr15.mono ZB.mono hle23
 replace hr22:=hr22.mono Zs.mono hle23
 replace hE:=hE.mono hle23
 have hr23n:=hr23.len
 refine Zbc 13 rfl hv21c ZbP.known ZB.mono om (fun B' hle'=>⟨(hle22.trans hle23).trans hle',t2⟩) (fun B24 hle24 hr24=>?_)
 replace hu:=hu.mono Zs.mono hle24
 replace hf:=hf.mono Zj.mono hle24
 replace hi:=hi.mono ZB.mono hle24
 replace hr13:=hr13.mono Zs.mono hle24
 replace hr14:=hr14.mono Zj.mono hle24
 replace hr15:=hr15.mono ZB.mono hle24
 replace hr22:=hr22.mono Zs.mono hle24
 replace hr23:=hr23.mono Zj.mono hle24
 replace hE:=hE.mono hle24
 have hr24n:=hr24.len
 refine ZS 3 kr rfl kr (ZQ rfl rfl ZoN rfl (Zcb _ _ _ _ _ _ _ _ _ _ _ _ x x _ hr13 hr14 hr15 hr22 hr23 hr24) ?_)
 refine ⟨⟨((hle22.trans hle23).trans hle24),t2⟩,(aN 4 rfl (h:=Zt kr kr ?_))⟩
 refine Ze (ZM [_,_,_,_,_,_,_,_,_,_,_,_,_,_] rfl (Zc rfl (fun g5=>by simp at g5) (fun g5=>?_)))
 try simp only [sQ,ne_eq] at g5
 refine Zh (Ze (Za (xA (h:=Zg ?_))))
 exact Zy .ret (.inl rfl) [_] t1 rfl
 refine (Zbm (l:=[_,_,_]) rfl rfl Zgr rfl (fun b26=>⟨⟨Kn.le.refl _,t2⟩,(ZS 5 kr rfl kr (Zce rfl rfl en9 rfl (ZeV hJ _ _ _ _ _ _ x (⟨u,y,z⟩:DSess) o n om2 om2 om2 om2 om2 om2 a _ hE hr13 hr14 hr15) ?_))⟩))
 intro v27 B27 hle27
 rintro rfl
 replace hu:=hu.mono Zs.mono hle27
 replace hf:=hf.mono Zj.mono hle27
 replace hi:=hi.mono ZB.mono hle27
 replace hr13:=hr13.mono Zs.mono hle27
 replace hr14:=hr14.mono Zj.mono hle27
 replace hr15:=hr15.mono ZB.mono hle27
 replace hE:=hE.mono hle27
 refine ⟨⟨hle27,t2⟩,(aM 6 rfl (h:=aE 7 rfl (h:=aE 8 rfl (h:=Zbk 10 kr rfl kr kr (ZaD [_,_,_] 10 [_,_,_] rfl rfl ZgV rfl rfl rfl rfl rfl rfl rfl rfl ?_)))))⟩
 refine aA 11 rfl (h:=Zt kr kr ?_)
 refine Ze (ZM [_,_,_,_,_,_,_,_,_,_,_] rfl (Zi (Za (xL [_,_,_] Ze0 10 (h:=xL [_,_,_] Ze0 5 (h:=xR ZoO rfl (ZaO ((Zd3 x (⟨u,y,z⟩:DSess) o n).1) ((Zd3 x (⟨u,y,z⟩:DSess) o n).1) _) (h:=xN (h:=xM (h:=Zv (d:=56) rfl (fun g3=>by simp at g3) (fun g3=>?_))))))))))
 try simp only [sQ,ne_eq] at g3
 refine xM (h:=xM (h:=Zax (h:=xF (h:=Zc rfl (fun g4=>by simp at g4) (fun g4=>?_)))))
 try simp only [sQ,ne_eq] at g4
 refine Zh (Ze (Zi (Zi (Z2 (keeps _ [0,9] _) mo kr ⟨Kn.le.refl _,ZaV.refl _ _⟩ (fun _ _=>?_)))))
 refine aT 0 rfl (Z6 fun D B L hI=>ZK [_,_,_,_,_] rfl rfl Zfg rfl (Zby 9 (hI.2.2.1.trans rfl) rfl rfl) r4) (h:=aT 1 rfl (Z6 fun D B L hI=>ZK [_,_,_,_,_] rfl rfl ZjK rfl (Zby 0 (hI.2.1.trans rfl) rfl rfl) r4) (h:=ZS 2 kr rfl kr (Zal rfl rfl en7 rfl (ZaG _ _ _ _ _ _ x _ hu hf hi om2) ?_)))
 rintro _ B29 _ hle29 ⟨q29,c29,l29,q29b,c29b,l29b,q29c,c29c,l29c,rfl,rfl,rfl,hv29,hv29b,hv29c⟩
 refine ⟨⟨Kn.le.refl _,t2⟩,(ZdH 11 rfl hv29 Zs.any om (fun B' hle'=>⟨hle',t2⟩) (fun B30 hle30 hr30=>?_))⟩
 replace hu:=hu.mono Zs.mono hle30
 replace hf:=hf.mono Zj.mono hle30
 replace hi:=hi.mono ZB.mono hle30
 replace hr13:=hr13.mono Zs.mono hle30
 replace hr14:=hr14.mono Zj.mono hle30
 replace hr15:=hr15.mono ZB.mono hle30
 replace hE:=hE.mono hle30
 have hr30n:=hr30.len
 refine Zbc 12 rfl hv29b Zar.known Zj.mono om (fun B' hle'=>⟨hle30.trans hle',t2⟩) (fun B31 hle31 hr31=>?_)
 replace hu:=hu.mono Zs.mono hle31
 replace hf:=hf.mono Zj.mono hle31
 replace hi:=hi.mono ZB.mono hle31
 replace hr13:=hr13.mono Zs.mono hle31
 replace hr14:=hr14.mono Zj.mono hle31
 replace hr15:=hr15.mono ZB.mono hle31
 replace hr30:=hr30.mono Zs.mono hle31
 replace hE:=hE.mono hle31
 have hr31n:=hr31.len
 refine Zbc 13 rfl hv29c ZbP.known ZB.mono om (fun B' hle'=>⟨(hle30.trans hle31).trans hle',t2⟩) (fun B32 hle32 hr32=>?_)
 replace hu:=hu.mono Zs.mono hle32
 replace hf:=hf.mono Zj.mono hle32
 replace hi:=hi.mono ZB.mono hle32
 replace hr13:=hr13.mono Zs.mono hle32
 replace hr14:=hr14.mono Zj.mono hle32
 replace hr15:=hr15.mono ZB.mono hle32
 replace hr30:=hr30.mono Zs.mono hle32
 replace hr31:=hr31.mono Zj.mono hle32
 replace hE:=hE.mono hle32
 have hr32n:=hr32.len
 refine ZS 3 kr rfl kr (ZQ rfl rfl ZoN rfl (Zcb _ _ _ _ _ _ _ _ _ _ _ _ x x _ hr13 hr14 hr15 hr30 hr31 hr32) ?_)
 refine ⟨⟨((hle30.trans hle31).trans hle32),t2⟩,(aN 4 rfl (h:=Zt kr kr ?_))⟩
 refine Ze (ZM [_,_,_,_,_,_,_,_,_,_,_,_,_,_] rfl (Zc rfl (fun g5=>by simp at g5) (fun g5=>?_)))
 try simp only [sQ,ne_eq] at g5
 refine Zh (Ze (Za (xA (h:=Zg ?_))))
 exact Zy .ret (.inl rfl) [_] t1 rfl
 refine (Zbm (l:=[_,_,_]) rfl rfl Zgr rfl (fun b34=>⟨⟨((hle6.trans hle7).trans hle8),t2⟩,(ZS 6 kr rfl kr (ZQ rfl rfl en6 rfl (Zjw _ _ _ _ _ _ x (⟨u,y,z⟩:DSess) o n om2 om2 om2 om2 om2 om2 _ hr6 hr7 hr8) ?_))⟩))
 refine ⟨⟨((hle6.trans hle7).trans hle8),t2⟩,(aM 7 rfl (h:=aE 8 rfl (h:=aE 9 rfl (h:=Zbk 11 kr rfl kr kr (ZaD [_,_,_] 5 [_,_,_] rfl rfl ZgV rfl rfl rfl rfl rfl rfl rfl rfl ?_)))))⟩
 refine aA 12 rfl (h:=Zt kr kr ?_)
 refine Ze (ZM [_,_,_,_,_,_] rfl (Za (xL [_,_,_,_,_] ZjK 0 (h:=Zr (Zal rfl rfl en7 rfl (ZaG _ _ _ _ _ _ x _ hu hf hi om2) ?_)))))
 rintro _ B36 _ hle36 ⟨q36,c36,l36,q36b,c36b,l36b,q36c,c36c,l36c,rfl,rfl,rfl,hv36,hv36b,hv36c⟩
 refine ZjD 6 rfl hv36 Zs.any om (fun B37 hle37 hr37=>?_)
 replace hu:=hu.mono Zs.mono hle37
 replace hf:=hf.mono Zj.mono hle37
 replace hi:=hi.mono ZB.mono hle37
 replace hE:=hE.mono hle37
 have hr37n:=hr37.len
 refine ZeW 7 rfl hv36b Zar.known Zj.mono om (fun B38 hle38 hr38=>?_)
 replace hu:=hu.mono Zs.mono hle38
 replace hf:=hf.mono Zj.mono hle38
 replace hi:=hi.mono ZB.mono hle38
 replace hr37:=hr37.mono Zs.mono hle38
 replace hE:=hE.mono hle38
 have hr38n:=hr38.len
 refine ZeW 8 rfl hv36c ZbP.known ZB.mono om (fun B39 hle39 hr39=>?_)
 replace hu:=hu.mono Zs.mono hle39
 replace hf:=hf.mono Zj.mono hle39
 replace hi:=hi.mono ZB.mono hle39
 replace hr37:=hr37.mono Zs.mono hle39
 replace hr38:=hr38.mono Zj.mono hle39
 replace hE:=hE.mono hle39
 have hr39n:=hr39.len
 refine xAl [_,_,_,_,_] Zp4 (h:=fun b40=>xS [_,_,_,_,_] 9 [_,_,_,_,_] Zqw (h:=ZM [_,_,_,_,_,_,_,_,_,_] rfl (Zi (Z2 (keeps _ [1,9] _) mo kr ⟨Kn.le.refl _,ZaV.refl _ _⟩ (fun _ _=>?_)))))
 refine aT 0 rfl (Z6 fun D B L hI=>ZK [_,_,_,_,_] rfl rfl Zfg rfl (Zby 9 (hI.2.2.1.trans rfl) rfl rfl) r4) (h:=aT 1 rfl (Z6 fun D B L hI=>ZK [_,_,_] rfl rfl Zp7 rfl (Zby 1 (hI.2.1.trans rfl) rfl rfl) r4) (h:=aT 2 rfl (Z6 fun D B L hI=>ZQ rfl rfl en8 rfl (Za4 u y z _) r4) (h:=aM 3 rfl (h:=aM 4 rfl (h:=Zd0 [5,9] kr kr kr ⟨?_,?_⟩)))))
 refine (Zce rfl rfl en9 rfl (ZeV hJ _ _ _ _ _ _ x (⟨u,y,z⟩:DSess) o n om2 om2 om2 om2 om2 om2 a _ hE hr37 hr38 hr39) ?_)
 intro v42 B42 hle42
 rintro rfl
 replace hu:=hu.mono Zs.mono hle42
 replace hf:=hf.mono Zj.mono hle42
 replace hi:=hi.mono ZB.mono hle42
 replace hr37:=hr37.mono Zs.mono hle42
 replace hr38:=hr38.mono Zj.mono hle42
 replace hr39:=hr39.mono ZB.mono hle42
 replace hE:=hE.mono hle42
 refine ⟨⟨hle42,t2⟩,(aM 6 rfl (h:=aE 7 rfl (h:=aE 8 rfl (h:=ZS 9 kr rfl kr (Zbm (l:=[_,_,_]) rfl rfl Zgr rfl (fun b43=>?_))))))⟩
 refine ⟨⟨hle42,t2⟩,(Zbk 10 kr rfl kr kr (ZaD [_,_,_] 10 [_,_,_] rfl rfl ZgV rfl rfl rfl rfl rfl rfl rfl rfl ?_))⟩
 refine aA 11 rfl (h:=Zt kr kr ?_)
 refine Ze (ZM [_,_,_,_,_,_,_,_,_,_,_] rfl (Zi (Za (xL [_,_,_] Ze0 10 (h:=xL [_,_,_] Ze0 5 (h:=xR ZoO rfl (ZaO ((Zd3 x (⟨u,y,z⟩:DSess) o n).1) ((Zd3 x (⟨u,y,z⟩:DSess) o n).1) _) (h:=xN (h:=xM (h:=Zv (d:=56) rfl (fun g3=>by simp at g3) (fun g3=>?_))))))))))
 try simp only [sQ,ne_eq] at g3
 refine xM (h:=xM (h:=Zax (h:=xF (h:=Zc rfl (fun g4=>by simp at g4) (fun g4=>?_)))))
 try simp only [sQ,ne_eq] at g4
 refine Zh (Ze (Zi (Zi (Z2 (keeps _ [0,9] _) mo kr ⟨Kn.le.refl _,ZaV.refl _ _⟩ (fun _ _=>?_)))))
 refine aT 0 rfl (Z6 fun D B L hI=>ZK [_,_,_,_,_] rfl rfl Zfg rfl (Zby 9 (hI.2.2.1.trans rfl) rfl rfl) r4) (h:=aT 1 rfl (Z6 fun D B L hI=>ZK [_,_,_,_,_] rfl rfl ZjK rfl (Zby 0 (hI.2.1.trans rfl) rfl rfl) r4) (h:=ZS 2 kr rfl kr (Zal rfl rfl en7 rfl (ZaG _ _ _ _ _ _ x _ hu hf hi om2) ?_)))
 rintro _ B45 _ hle45 ⟨q45,c45,l45,q45b,c45b,l45b,q45c,c45c,l45c,rfl,rfl,rfl,hv45,hv45b,hv45c⟩
 refine ⟨⟨Kn.le.refl _,t2⟩,(ZdH 11 rfl hv45 Zs.any om (fun B' hle'=>⟨hle',t2⟩) (fun B46 hle46 hr46=>?_))⟩
 replace hu:=hu.mono Zs.mono hle46
 replace hf:=hf.mono Zj.mono hle46
 replace hi:=hi.mono ZB.mono hle46
 replace hr37:=hr37.mono Zs.mono hle46
 replace hr38:=hr38.mono Zj.mono hle46
 replace hr39:=hr39.mono ZB.mono hle46
 replace hE:=hE.mono hle46
 have hr46n:=hr46.len
 refine Zbc 12 rfl hv45b Zar.known Zj.mono om (fun B' hle'=>⟨hle46.trans hle',t2⟩) (fun B47 hle47 hr47=>?_)
 replace hu:=hu.mono Zs.mono hle47
 replace hf:=hf.mono Zj.mono hle47
 replace hi:=hi.mono ZB.mono hle47
 replace hr37:=hr37.mono Zs.mono hle47
 replace hr38:=hr38.mono Zj.mono hle47
 replace hr39:=hr39.mono ZB.mono hle47
 replace hr46:=hr46.mono Zs.mono hle47
 replace hE:=hE.mono hle47
 have hr47n:=hr47.len
 refine Zbc 13 rfl hv45c ZbP.known ZB.mono om (fun B' hle'=>⟨(hle46.trans hle47).trans hle',t2⟩) (fun B48 hle48 hr48=>?_)
 replace hu:=hu.mono Zs.mono hle48
 replace hf:=hf.mono Zj.mono hle48
 replace hi:=hi.mono ZB.mono hle48
 replace hr37:=hr37.mono Zs.mono hle48
 replace hr38:=hr38.mono Zj.mono hle48
 replace hr39:=hr39.mono ZB.mono hle48
 replace hr46:=hr46.mono Zs.mono hle48
 replace hr47:=hr47.mono Zj.mono hle48
 replace hE:=hE.mono hle48
 have hr48n:=hr48.len
 refine ZS 3 kr rfl kr (ZQ rfl rfl ZoN rfl (Zcb _ _ _ _ _ _ _ _ _ _ _ _ x x _ hr37 hr38 hr39 hr46 hr47 hr48) ?_)
 refine ⟨⟨((hle46.trans hle47).trans hle48),t2⟩,(aN 4 rfl (h:=Zt kr kr ?_))⟩
 refine Ze (ZM [_,_,_,_,_,_,_,_,_,_,_,_,_,_] rfl (Zc rfl (fun g5=>by simp at g5) (fun g5=>?_)))
 try simp only [sQ,ne_eq] at g5
 refine Zh (Ze (Za (xA (h:=Zg ?_))))
 exact Zy .ret (.inl rfl) [_] t1 rfl
 refine (Zbm (l:=[_,_,_]) rfl rfl Zgr rfl (fun b50=>⟨⟨Kn.le.refl _,t2⟩,(ZS 5 kr rfl kr (Zce rfl rfl en9 rfl (ZeV hJ _ _ _ _ _ _ x (⟨u,y,z⟩:DSess) o n om2 om2 om2 om2 om2 om2 a _ hE hr37 hr38 hr39) ?_))⟩))
 intro v51 B51 hle51
 rintro rfl
 replace hu:=hu.mono Zs.mono hle51
 replace hf:=hf.mono Zj.mono hle51
 replace hi:=hi.mono ZB.mono hle51
 replace hr37:=hr37.mono Zs.mono hle51
 replace hr38:=hr38.mono Zj.mono hle51
 replace hr39:=hr39.mono ZB.mono hle51
 replace hE:=hE.mono hle51
 refine ⟨⟨hle51,t2⟩,(aM 6 rfl (h:=aE 7 rfl (h:=aE 8 rfl (h:=Zbk 10 kr rfl kr kr (ZaD [_,_,_] 10 [_,_,_] rfl rfl ZgV rfl rfl rfl rfl rfl rfl rfl rfl ?_)))))⟩
 refine aA 11 rfl (h:=Zt kr kr ?_)
 refine Ze (ZM [_,_,_,_,_,_,_,_,_,_,_] rfl (Zi (Za (xL [_,_,_] Ze0 10 (h:=xL [_,_,_] Ze0 5 (h:=xR ZoO rfl (ZaO ((Zd3 x (⟨u,y,z⟩:DSess) o n).1) ((Zd3 x (⟨u,y,z⟩:DSess) o n).1) _) (h:=xN (h:=xM (h:=Zv (d:=56) rfl (fun g3=>by simp at g3) (fun g3=>?_))))))))))
 try simp only [sQ,ne_eq] at g3
 refine xM (h:=xM (h:=Zax (h:=xF (h:=Zc rfl (fun g4=>by simp at g4) (fun g4=>?_)))))
 try simp only [sQ,ne_eq] at g4
 refine Zh (Ze (Zi (Zi (Z2 (keeps _ [0,9] _) mo kr ⟨Kn.le.refl _,ZaV.refl _ _⟩ (fun _ _=>?_)))))
 refine aT 0 rfl (Z6 fun D B L hI=>ZK [_,_,_,_,_] rfl rfl Zfg rfl (Zby 9 (hI.2.2.1.trans rfl) rfl rfl) r4) (h:=aT 1 rfl (Z6 fun D B L hI=>ZK [_,_,_,_,_] rfl rfl ZjK rfl (Zby 0 (hI.2.1.trans rfl) rfl rfl) r4) (h:=ZS 2 kr rfl kr (Zal rfl rfl en7 rfl (ZaG _ _ _ _ _ _ x _ hu hf hi om2) ?_)))
 rintro _ B53 _ hle53 ⟨q53,c53,l53,q53b,c53b,l53b,q53c,c53c,l53c,rfl,rfl,rfl,hv53,hv53b,hv53c⟩
 refine ⟨⟨Kn.le.refl _,t2⟩,(ZdH 11 rfl hv53 Zs.any om (fun B' hle'=>⟨hle',t2⟩) (fun B54 hle54 hr54=>?_))⟩
 replace hu:=hu.mono Zs.mono hle54
 replace hf:=hf.mono Zj.mono hle54
 replace hi:=hi.mono ZB.mono hle54
 replace hr37:=hr37.mono Zs.mono hle54
 replace hr38:=hr38.mono Zj.mono hle54
 replace hr39:=hr39.mono ZB.mono hle54
 replace hE:=hE.mono hle54
 have hr54n:=hr54.len
 refine Zbc 12 rfl hv53b Zar.known Zj.mono om (fun B' hle'=>⟨hle54.trans hle',t2⟩) (fun B55 hle55 hr55=>?_)
 replace hu:=hu.mono Zs.mono hle55
 replace hf:=hf.mono Zj.mono hle55
 replace hi:=hi.mono ZB.mono hle55
 replace hr37:=hr37.mono Zs.mono hle55
 replace hr38:=hr38.mono Zj.mono hle55
 replace hr39:=hr39.mono ZB.mono hle55
 replace hr54:=hr54.mono Zs.mono hle55
 replace hE:=hE.mono hle55
 have hr55n:=hr55.len
 refine Zbc 13 rfl hv53c ZbP.known ZB.mono om (fun B' hle'=>⟨(hle54.trans hle55).trans hle',t2⟩) (fun B56 hle56 hr56=>?_)
 replace hu:=hu.mono Zs.mono hle56
 replace hf:=hf.mono Zj.mono hle56
 replace hi:=hi.mono ZB.mono hle56
 replace hr37:=hr37.mono Zs.mono hle56
 replace hr38:=hr38.mono Zj.mono hle56
 replace hr39:=hr39.mono ZB.mono hle56
 replace hr54:=hr54.mono Zs.mono hle56
 replace hr55:=hr55.mono Zj.mono hle56
 replace hE:=hE.mono hle56
 have hr56n:=hr56.len
 refine ZS 3 kr rfl kr (ZQ rfl rfl ZoN rfl (Zcb _ _ _ _ _ _ _ _ _ _ _ _ x x _ hr37 hr38 hr39 hr54 hr55 hr56) ?_)
 refine ⟨⟨((hle54.trans hle55).trans hle56),t2⟩,(aN 4 rfl (h:=Zt kr kr ?_))⟩
 refine Ze (ZM [_,_,_,_,_,_,_,_,_,_,_,_,_,_] rfl (Zc rfl (fun g5=>by simp at g5) (fun g5=>?_)))
 try simp only [sQ,ne_eq] at g5
 refine Zh (Ze (Za (xA (h:=Zg ?_))))
 exact Zy .ret (.inl rfl) [_] t1 rfl
 refine (Zbm (l:=[_,_,_]) rfl rfl Zgr rfl (fun b58=>⟨⟨((hle6.trans hle7).trans hle8),t2⟩,(ZS 3 kr rfl kr (ZQ rfl rfl en8 rfl (Za4 u y z _) ?_))⟩))
 refine ⟨⟨((hle6.trans hle7).trans hle8),t2⟩,(ZS 6 kr rfl kr (ZQ rfl rfl en6 rfl (Zjw _ _ _ _ _ _ x (⟨u,y,z⟩:DSess) o n om2 om2 om2 om2 om2 om2 _ hr6 hr7 hr8) ?_))⟩
 refine ⟨⟨((hle6.trans hle7).trans hle8),t2⟩,(aM 7 rfl (h:=aE 8 rfl (h:=aE 9 rfl (h:=Zbk 11 kr rfl kr kr (ZaD [_,_,_] 5 [_,_,_] rfl rfl ZgV rfl rfl rfl rfl rfl rfl rfl rfl ?_)))))⟩
 refine aA 12 rfl (h:=Zt kr kr ?_)
 refine Ze (ZM [_,_,_,_,_,_] rfl (Za (xL [_,_,_,_,_] ZjK 0 (h:=Zr (Zal rfl rfl en7 rfl (ZaG _ _ _ _ _ _ x _ hu hf hi om2) ?_)))))
 rintro _ B61 _ hle61 ⟨q61,c61,l61,q61b,c61b,l61b,q61c,c61c,l61c,rfl,rfl,rfl,hv61,hv61b,hv61c⟩
 refine ZjD 6 rfl hv61 Zs.any om (fun B62 hle62 hr62=>?_)
 replace hu:=hu.mono Zs.mono hle62
 replace hf:=hf.mono Zj.mono hle62
 replace hi:=hi.mono ZB.mono hle62
 replace hE:=hE.mono hle62
 have hr62n:=hr62.len
 refine ZeW 7 rfl hv61b Zar.known Zj.mono om (fun B63 hle63 hr63=>?_)
 replace hu:=hu.mono Zs.mono hle63
 replace hf:=hf.mono Zj.mono hle63
 replace hi:=hi.mono ZB.mono hle63
 replace hr62:=hr62.mono Zs.mono hle63
 replace hE:=hE.mono hle63
 have hr63n:=hr63.len
 refine ZeW 8 rfl hv61c ZbP.known ZB.mono om (fun B64 hle64 hr64=>?_)
 replace hu:=hu.mono Zs.mono hle64
 replace hf:=hf.mono Zj.mono hle64
 replace hi:=hi.mono ZB.mono hle64
 replace hr62:=hr62.mono Zs.mono hle64
 replace hr63:=hr63.mono Zj.mono hle64
 replace hE:=hE.mono hle64
 have hr64n:=hr64.len
 refine xAl [_,_,_,_,_] Zp4 (h:=fun b65=>xS [_,_,_,_,_] 9 [_,_,_,_,_] Zqw (h:=ZM [_,_,_,_,_,_,_,_,_,_] rfl (Zi (Z2 (keeps _ [1,9] _) mo kr ⟨Kn.le.refl _,ZaV.refl _ _⟩ (fun _ _=>?_)))))
 refine aT 0 rfl (Z6 fun D B L hI=>ZK [_,_,_,_,_] rfl rfl Zfg rfl (Zby 9 (hI.2.2.1.trans rfl) rfl rfl) r4) (h:=aT 1 rfl (Z6 fun D B L hI=>ZK [_,_,_] rfl rfl Zp7 rfl (Zby 1 (hI.2.1.trans rfl) rfl rfl) r4) (h:=aT 2 rfl (Z6 fun D B L hI=>ZQ rfl rfl en8 rfl (Za4 u y z _) r4) (h:=aM 3 rfl (h:=aM 4 rfl (h:=Zd0 [5,9] kr kr kr ⟨?_,?_⟩)))))
 refine (Zce rfl rfl en9 rfl (ZeV hJ _ _ _ _ _ _ x (⟨u,y,z⟩:DSess) o n om2 om2 om2 om2 om2 om2 a _ hE hr62 hr63 hr64) ?_)
 intro v67 B67 hle67
 rintro rfl
 replace hu:=hu.mono Zs.mono hle67
 replace hf:=hf.mono Zj.mono hle67
 replace hi:=hi.mono ZB.mono hle67
 replace hr62:=hr62.mono Zs.mono hle67
 replace hr63:=hr63.mono Zj.mono hle67
 replace hr64:=hr64.mono ZB.mono hle67
 replace hE:=hE.mono hle67
 refine ⟨⟨hle67,t2⟩,(aM 6 rfl (h:=aE 7 rfl (h:=aE 8 rfl (h:=ZS 9 kr rfl kr (Zbm (l:=[_,_,_]) rfl rfl Zgr rfl (fun b68=>?_))))))⟩
 refine ⟨⟨hle67,t2⟩,(Zbk 10 kr rfl kr kr (ZaD [_,_,_] 10 [_,_,_] rfl rfl ZgV rfl rfl rfl rfl rfl rfl rfl rfl ?_))⟩
 refine aA 11 rfl (h:=Zt kr kr ?_)
 refine Ze (ZM [_,_,_,_,_,_,_,_,_,_,_] rfl (Zi (Za (xL [_,_,_] Ze0 10 (h:=xL [_,_,_] Ze0 5 (h:=xR ZoO rfl (ZaO ((Zd3 x (⟨u,y,z⟩:DSess) o n).1) ((Zd3 x (⟨u,y,z⟩:DSess) o n).1) _) (h:=xN (h:=xM (h:=Zv (d:=56) rfl (fun g3=>by simp at g3) (fun g3=>?_))))))))))
 try simp only [sQ,ne_eq] at g3
 refine xM (h:=xM (h:=Zax (h:=xF (h:=Zc rfl (fun g4=>by simp at g4) (fun g4=>?_)))))
 try simp only [sQ,ne_eq] at g4
 refine Zh (Ze (Zi (Zi (Z2 (keeps _ [0,9] _) mo kr ⟨Kn.le.refl _,ZaV.refl _ _⟩ (fun _ _=>?_)))))
 refine aT 0 rfl (Z6 fun D B L hI=>ZK [_,_,_,_,_] rfl rfl Zfg rfl (Zby 9 (hI.2.2.1.trans rfl) rfl rfl) r4) (h:=aT 1 rfl (Z6 fun D B L hI=>ZK [_,_,_,_,_] rfl rfl ZjK rfl (Zby 0 (hI.2.1.trans rfl) rfl rfl) r4) (h:=ZS 2 kr rfl kr (Zal rfl rfl en7 rfl (ZaG _ _ _ _ _ _ x _ hu hf hi om2) ?_)))
 rintro _ B70 _ hle70 ⟨q70,c70,l70,q70b,c70b,l70b,q70c,c70c,l70c,rfl,rfl,rfl,hv70,hv70b,hv70c⟩
 refine ⟨⟨Kn.le.refl _,t2⟩,(ZdH 11 rfl hv70 Zs.any om (fun B' hle'=>⟨hle',t2⟩) (fun B71 hle71 hr71=>?_))⟩
 replace hu:=hu.mono Zs.mono hle71
 replace hf:=hf.mono Zj.mono hle71
 replace hi:=hi.mono ZB.mono hle71
 replace hr62:=hr62.mono Zs.mono hle71
 replace hr63:=hr63.mono Zj.mono hle71
 replace hr64:=hr64.mono ZB.mono hle71
 replace hE:=hE.mono hle71
 have hr71n:=hr71.len
 refine Zbc 12 rfl hv70b Zar.known Zj.mono om (fun B' hle'=>⟨hle71.trans hle',t2⟩) (fun B72 hle72 hr72=>?_)
 replace hu:=hu.mono Zs.mono hle72
 replace hf:=hf.mono Zj.mono hle72
 replace hi:=hi.mono ZB.mono hle72
 replace hr62:=hr62.mono Zs.mono hle72
 replace hr63:=hr63.mono Zj.mono hle72
 replace hr64:=hr64.mono ZB.mono hle72
 replace hr71:=hr71.mono Zs.mono hle72
 replace hE:=hE.mono hle72
 have hr72n:=hr72.len
 refine Zbc 13 rfl hv70c ZbP.known ZB.mono om (fun B' hle'=>⟨(hle71.trans hle72).trans hle',t2⟩) (fun B73 hle73 hr73=>?_)
 replace hu:=hu.mono Zs.mono hle73
 replace hf:=hf.mono Zj.mono hle73
 replace hi:=hi.mono ZB.mono hle73
 replace hr62:=hr62.mono Zs.mono hle73
 replace hr63:=hr63.mono Zj.mono hle73
 replace hr64:=hr64.mono ZB.mono hle73
 replace hr71:=hr71.mono Zs.mono hle73
 replace hr72:=hr72.mono Zj.mono hle73
 replace hE:=hE.mono hle73
 have hr73n:=hr73.len
 refine ZS 3 kr rfl kr (ZQ rfl rfl ZoN rfl (Zcb _ _ _ _ _ _ _ _ _ _ _ _ x x _ hr62 hr63 hr64 hr71 hr72 hr73) ?_)
 refine ⟨⟨((hle71.trans hle72).trans hle73),t2⟩,(aN 4 rfl (h:=Zt kr kr ?_))⟩
 refine Ze (ZM [_,_,_,_,_,_,_,_,_,_,_,_,_,_] rfl (Zc rfl (fun g5=>by simp at g5) (fun g5=>?_)))
 try simp only [sQ,ne_eq] at g5
 refine Zh (Ze (Za (xA (h:=Zg ?_))))
 exact Zy .ret (.inl rfl) [_] t1 rfl
 refine (Zbm (l:=[_,_,_]) rfl rfl Zgr rfl (fun b75=>⟨⟨Kn.le.refl _,t2⟩,(ZS 5 kr rfl kr (Zce rfl rfl en9 rfl (ZeV hJ _ _ _ _ _ _ x (⟨u,y,z⟩:DSess) o n om2 om2 om2 om2 om2 om2 a _ hE hr62 hr63 hr64) ?_))⟩))
 intro v76 B76 hle76
 rintro rfl
 replace hu:=hu.mono Zs.mono hle76
 replace hf:=hf.mono Zj.mono hle76
 replace hi:=hi.mono ZB.mono hle76
 replace hr62:=hr62.mono Zs.mono hle76
 replace hr63:=hr63.mono Zj.mono hle76
 replace hr64:=hr64.mono ZB.mono hle76
 replace hE:=hE.mono hle76
 refine ⟨⟨hle76,t2⟩,(aM 6 rfl (h:=aE 7 rfl (h:=aE 8 rfl (h:=Zbk 10 kr rfl kr kr (ZaD [_,_,_] 10 [_,_,_] rfl rfl ZgV rfl rfl rfl rfl rfl rfl rfl rfl ?_)))))⟩
 refine aA 11 rfl (h:=Zt kr kr ?_)
 refine Ze (ZM [_,_,_,_,_,_,_,_,_,_,_] rfl (Zi (Za (xL [_,_,_] Ze0 10 (h:=xL [_,_,_] Ze0 5 (h:=xR ZoO rfl (ZaO ((Zd3 x (⟨u,y,z⟩:DSess) o n).1) ((Zd3 x (⟨u,y,z⟩:DSess) o n).1) _) (h:=xN (h:=xM (h:=Zv (d:=56) rfl (fun g3=>by simp at g3) (fun g3=>?_))))))))))
 try simp only [sQ,ne_eq] at g3
 refine xM (h:=xM (h:=Zax (h:=xF (h:=Zc rfl (fun g4=>by simp at g4) (fun g4=>?_)))))
 try simp only [sQ,ne_eq] at g4
 refine Zh (Ze (Zi (Zi (Z2 (keeps _ [0,9] _) mo kr ⟨Kn.le.refl _,ZaV.refl _ _⟩ (fun _ _=>?_)))))
 refine aT 0 rfl (Z6 fun D B L hI=>ZK [_,_,_,_,_] rfl rfl Zfg rfl (Zby 9 (hI.2.2.1.trans rfl) rfl rfl) r4) (h:=aT 1 rfl (Z6 fun D B L hI=>ZK [_,_,_,_,_] rfl rfl ZjK rfl (Zby 0 (hI.2.1.trans rfl) rfl rfl) r4) (h:=ZS 2 kr rfl kr (Zal rfl rfl en7 rfl (ZaG _ _ _ _ _ _ x _ hu hf hi om2) ?_)))
 rintro _ B78 _ hle78 ⟨q78,c78,l78,q78b,c78b,l78b,q78c,c78c,l78c,rfl,rfl,rfl,hv78,hv78b,hv78c⟩
 refine ⟨⟨Kn.le.refl _,t2⟩,(ZdH 11 rfl hv78 Zs.any om (fun B' hle'=>⟨hle',t2⟩) (fun B79 hle79 hr79=>?_))⟩
 replace hu:=hu.mono Zs.mono hle79
 replace hf:=hf.mono Zj.mono hle79
 replace hi:=hi.mono ZB.mono hle79
 replace hr62:=hr62.mono Zs.mono hle79
 replace hr63:=hr63.mono Zj.mono hle79
 replace hr64:=hr64.mono ZB.mono hle79
 replace hE:=hE.mono hle79
 have hr79n:=hr79.len
 refine Zbc 12 rfl hv78b Zar.known Zj.mono om (fun B' hle'=>⟨hle79.trans hle',t2⟩) (fun B80 hle80 hr80=>?_)
 replace hu:=hu.mono Zs.mono hle80
 replace hf:=hf.mono Zj.mono hle80
 replace hi:=hi.mono ZB.mono hle80
 replace hr62:=hr62.mono Zs.mono hle80
 replace hr63:=hr63.mono Zj.mono hle80
 replace hr64:=hr64.mono ZB.mono hle80
 replace hr79:=hr79.mono Zs.mono hle80
 replace hE:=hE.mono hle80
 have hr80n:=hr80.len
 refine Zbc 13 rfl hv78c ZbP.known ZB.mono om (fun B' hle'=>⟨(hle79.trans hle80).trans hle',t2⟩) (fun B81 hle81 hr81=>?_)
 replace hu:=hu.mono Zs.mono hle81
 replace hf:=hf.mono Zj.mono hle81
 replace hi:=hi.mono ZB.mono hle81
 replace hr62:=hr62.mono Zs.mono hle81
 replace hr63:=hr63.mono Zj.mono hle81
 replace hr64:=hr64.mono ZB.mono hle81
 replace hr79:=hr79.mono Zs.mono hle81
 replace hr80:=hr80.mono Zj.mono hle81
 replace hE:=hE.mono hle81
 have hr81n:=hr81.len
 refine ZS 3 kr rfl kr (ZQ rfl rfl ZoN rfl (Zcb _ _ _ _ _ _ _ _ _ _ _ _ x x _ hr62 hr63 hr64 hr79 hr80 hr81) ?_)
 refine ⟨⟨((hle79.trans hle80).trans hle81),t2⟩,(aN 4 rfl (h:=Zt kr kr ?_))⟩
 refine Ze (ZM [_,_,_,_,_,_,_,_,_,_,_,_,_,_] rfl (Zc rfl (fun g5=>by simp at g5) (fun g5=>?_)))
 try simp only [sQ,ne_eq] at g5
 refine Zh (Ze (Za (xA (h:=Zg ?_))))
 exact Zy .ret (.inl rfl) [_] t1 rfl
 refine (Zbm (l:=[_,_,_]) rfl rfl Zgr rfl (fun b83=>⟨⟨Kn.le.refl _,t2⟩,(ZS 1 kr rfl kr (Zal rfl rfl en7 rfl (ZaG _ _ _ _ _ _ x _ hu hf hi om2) ?_))⟩))
 rintro _ B84 _ hle84 ⟨q84,c84,l84,q84b,c84b,l84b,q84c,c84c,l84c,rfl,rfl,rfl,hv84,hv84b,hv84c⟩
 refine ⟨⟨Kn.le.refl _,t2⟩,(ZdH 3 rfl hv84 Zs.any om (fun B' hle'=>⟨hle',t2⟩) (fun B85 hle85 hr85=>?_))⟩
 replace hu:=hu.mono Zs.mono hle85
 replace hf:=hf.mono Zj.mono hle85
 replace hi:=hi.mono ZB.mono hle85
 replace hE:=hE.mono hle85
 have hr85n:=hr85.len
 refine Zbc 4 rfl hv84b Zar.known Zj.mono om (fun B' hle'=>⟨hle85.trans hle',t2⟩) (fun B86 hle86 hr86=>?_)
 replace hu:=hu.mono Zs.mono hle86
 replace hf:=hf.mono Zj.mono hle86
 replace hi:=hi.mono ZB.mono hle86
 replace hr85:=hr85.mono Zs.mono hle86
 replace hE:=hE.mono hle86
 have hr86n:=hr86.len
 refine Zbc 5 rfl hv84c ZbP.known ZB.mono om (fun B' hle'=>⟨(hle85.trans hle86).trans hle',t2⟩) (fun B87 hle87 hr87=>?_)
 replace hu:=hu.mono Zs.mono hle87
 replace hf:=hf.mono Zj.mono hle87
 replace hi:=hi.mono ZB.mono hle87
 replace hr85:=hr85.mono Zs.mono hle87
 replace hr86:=hr86.mono Zj.mono hle87
 replace hE:=hE.mono hle87
 have hr87n:=hr87.len
 refine ZS 3 kr rfl kr (ZQ rfl rfl en8 rfl (Za4 u y z _) ?_)
 refine ⟨⟨((hle85.trans hle86).trans hle87),t2⟩,(ZS 6 kr rfl kr (ZQ rfl rfl en6 rfl (Zjw _ _ _ _ _ _ x (⟨u,y,z⟩:DSess) o n om2 om2 om2 om2 om2 om2 _ hr85 hr86 hr87) ?_))⟩
 refine ⟨⟨((hle85.trans hle86).trans hle87),t2⟩,(aM 7 rfl (h:=aE 8 rfl (h:=aE 9 rfl (h:=Zbk 11 kr rfl kr kr (ZaD [_,_,_] 2 [_,_,_] rfl rfl ZgV rfl rfl rfl rfl rfl rfl rfl rfl ?_)))))⟩
 refine aA 12 rfl (h:=Zt kr kr ?_)
 refine Ze (ZM [_,_,_,_,_,_] rfl (Za (xL [_,_,_,_,_] ZjK 0 (h:=Zr (Zal rfl rfl en7 rfl (ZaG _ _ _ _ _ _ x _ hu hf hi om2) ?_)))))
 rintro _ B90 _ hle90 ⟨q90,c90,l90,q90b,c90b,l90b,q90c,c90c,l90c,rfl,rfl,rfl,hv90,hv90b,hv90c⟩
 refine ZjD 6 rfl hv90 Zs.any om (fun B91 hle91 hr91=>?_)
 replace hu:=hu.mono Zs.mono hle91
 replace hf:=hf.mono Zj.mono hle91
 replace hi:=hi.mono ZB.mono hle91
 replace hE:=hE.mono hle91
 have hr91n:=hr91.len
 refine ZeW 7 rfl hv90b Zar.known Zj.mono om (fun B92 hle92 hr92=>?_)
 replace hu:=hu.mono Zs.mono hle92
 replace hf:=hf.mono Zj.mono hle92
 replace hi:=hi.mono ZB.mono hle92
 replace hr91:=hr91.mono Zs.mono hle92
 replace hE:=hE.mono hle92
 have hr92n:=hr92.len
 refine ZeW 8 rfl hv90c ZbP.known ZB.mono om (fun B93 hle93 hr93=>?_)
 replace hu:=hu.mono Zs.mono hle93
 replace hf:=hf.mono Zj.mono hle93
 replace hi:=hi.mono ZB.mono hle93
 replace hr91:=hr91.mono Zs.mono hle93
 replace hr92:=hr92.mono Zj.mono hle93
 replace hE:=hE.mono hle93
 have hr93n:=hr93.len
 refine xAl [_,_,_,_,_] Zp4 (h:=fun b94=>xS [_,_,_,_,_] 9 [_,_,_,_,_] Zqw (h:=ZM [_,_,_,_,_,_,_,_,_,_] rfl (Zi (Z2 (keeps _ [1,9] _) mo kr ⟨Kn.le.refl _,ZaV.refl _ _⟩ (fun _ _=>?_)))))
 refine aT 0 rfl (Z6 fun D B L hI=>ZK [_,_,_,_,_] rfl rfl Zfg rfl (Zby 9 (hI.2.2.1.trans rfl) rfl rfl) r4) (h:=aT 1 rfl (Z6 fun D B L hI=>ZK [_,_,_] rfl rfl Zp7 rfl (Zby 1 (hI.2.1.trans rfl) rfl rfl) r4) (h:=aT 2 rfl (Z6 fun D B L hI=>ZQ rfl rfl en8 rfl (Za4 u y z _) r4) (h:=aM 3 rfl (h:=aM 4 rfl (h:=Zd0 [5,9] kr kr kr ⟨?_,?_⟩)))))
 refine (Zce rfl rfl en9 rfl (ZeV hJ _ _ _ _ _ _ x (⟨u,y,z⟩:DSess) o n om2 om2 om2 om2 om2 om2 a _ hE hr91 hr92 hr93) ?_)
 intro v96 B96 hle96
 rintro rfl
 replace hu:=hu.mono Zs.mono hle96
 replace hf:=hf.mono Zj.mono hle96
 replace hi:=hi.mono ZB.mono hle96
 replace hr91:=hr91.mono Zs.mono hle96
 replace hr92:=hr92.mono Zj.mono hle96
 replace hr93:=hr93.mono ZB.mono hle96
 replace hE:=hE.mono hle96
 refine ⟨⟨hle96,t2⟩,(aM 6 rfl (h:=aE 7 rfl (h:=aE 8 rfl (h:=ZS 9 kr rfl kr (Zbm (l:=[_,_,_]) rfl rfl Zgr rfl (fun b97=>?_))))))⟩
 refine ⟨⟨hle96,t2⟩,(Zbk 10 kr rfl kr kr (ZaD [_,_,_] 10 [_,_,_] rfl rfl ZgV rfl rfl rfl rfl rfl rfl rfl rfl ?_))⟩
 refine aA 11 rfl (h:=Zt kr kr ?_)
 refine Ze (ZM [_,_,_,_,_,_,_,_,_,_,_] rfl (Zi (Za (xL [_,_,_] Ze0 10 (h:=xL [_,_,_] Ze0 2 (h:=xR ZoO rfl (ZaO ((Zd3 x (⟨u,y,z⟩:DSess) o n).1) ((Zd3 x (⟨u,y,z⟩:DSess) o n).1) _) (h:=xN (h:=xM (h:=Zv (d:=56) rfl (fun g3=>by simp at g3) (fun g3=>?_))))))))))
 try simp only [sQ,ne_eq] at g3
 refine xM (h:=xM (h:=Zax (h:=xF (h:=Zc rfl (fun g4=>by simp at g4) (fun g4=>?_)))))
 try simp only [sQ,ne_eq] at g4
 refine Zh (Ze (Zi (Zi (Z2 (keeps _ [0,9] _) mo kr ⟨Kn.le.refl _,ZaV.refl _ _⟩ (fun _ _=>?_)))))
 refine aT 0 rfl (Z6 fun D B L hI=>ZK [_,_,_,_,_] rfl rfl Zfg rfl (Zby 9 (hI.2.2.1.trans rfl) rfl rfl) r4) (h:=aT 1 rfl (Z6 fun D B L hI=>ZK [_,_,_,_,_] rfl rfl ZjK rfl (Zby 0 (hI.2.1.trans rfl) rfl rfl) r4) (h:=ZS 2 kr rfl kr (Zal rfl rfl en7 rfl (ZaG _ _ _ _ _ _ x _ hu hf hi om2) ?_)))
 rintro _ B99 _ hle99 ⟨q99,c99,l99,q99b,c99b,l99b,q99c,c99c,l99c,rfl,rfl,rfl,hv99,hv99b,hv99c⟩
 refine ⟨⟨Kn.le.refl _,t2⟩,(ZdH 11 rfl hv99 Zs.any om (fun B' hle'=>⟨hle',t2⟩) (fun B100 hle100 hr100=>?_))⟩
 replace hu:=hu.mono Zs.mono hle100
 replace hf:=hf.mono Zj.mono hle100
 replace hi:=hi.mono ZB.mono hle100
 replace hr91:=hr91.mono Zs.mono hle100
 replace hr92:=hr92.mono Zj.mono hle100
 replace hr93:=hr93.mono ZB.mono hle100
 replace hE:=hE.mono hle100
 have hr100n:=hr100.len
 refine Zbc 12 rfl hv99b Zar.known Zj.mono om (fun B' hle'=>⟨hle100.trans hle',t2⟩) (fun B101 hle101 hr101=>?_)
 replace hu:=hu.mono Zs.mono hle101
 replace hf:=hf.mono Zj.mono hle101
 replace hi:=hi.mono ZB.mono hle101
 replace hr91:=hr91.mono Zs.mono hle101
 replace hr92:=hr92.mono Zj.mono hle101
 replace hr93:=hr93.mono ZB.mono hle101
 replace hr100:=hr100.mono Zs.mono hle101
 replace hE:=hE.mono hle101
 have hr101n:=hr101.len
 refine Zbc 13 rfl hv99c ZbP.known ZB.mono om (fun B' hle'=>⟨(hle100.trans hle101).trans hle',t2⟩) (fun B102 hle102 hr102=>?_)
 replace hu:=hu.mono Zs.mono hle102
 replace hf:=hf.mono Zj.mono hle102
 replace hi:=hi.mono ZB.mono hle102
 replace hr91:=hr91.mono Zs.mono hle102
 replace hr92:=hr92.mono Zj.mono hle102
 replace hr93:=hr93.mono ZB.mono hle102
 replace hr100:=hr100.mono Zs.mono hle102
 replace hr101:=hr101.mono Zj.mono hle102
 replace hE:=hE.mono hle102
 have hr102n:=hr102.len
 refine ZS 3 kr rfl kr (ZQ rfl rfl ZoN rfl (Zcb _ _ _ _ _ _ _ _ _ _ _ _ x x _ hr91 hr92 hr93 hr100 hr101 hr102) ?_)
 refine ⟨⟨((hle100.trans hle101).trans hle102),t2⟩,(aN 4 rfl (h:=Zt kr kr ?_))⟩
 refine Ze (ZM [_,_,_,_,_,_,_,_,_,_,_,_,_,_] rfl (Zc rfl (fun g5=>by simp at g5) (fun g5=>?_)))
 try simp only [sQ,ne_eq] at g5
 refine Zh (Ze (Za (xA (h:=Zg ?_))))
 exact Zy .ret (.inl rfl) [_] t1 rfl
 refine (Zbm (l:=[_,_,_]) rfl rfl Zgr rfl (fun b104=>⟨⟨Kn.le.refl _,t2⟩,(ZS 5 kr rfl kr (Zce rfl rfl en9 rfl (ZeV hJ _ _ _ _ _ _ x (⟨u,y,z⟩:DSess) o n om2 om2 om2 om2 om2 om2 a _ hE hr91 hr92 hr93) ?_))⟩))
 intro v105 B105 hle105
 rintro rfl
 replace hu:=hu.mono Zs.mono hle105
 replace hf:=hf.mono Zj.mono hle105
 replace hi:=hi.mono ZB.mono hle105
 replace hr91:=hr91.mono Zs.mono hle105
 replace hr92:=hr92.mono Zj.mono hle105
 replace hr93:=hr93.mono ZB.mono hle105
 replace hE:=hE.mono hle105
 refine ⟨⟨hle105,t2⟩,(aM 6 rfl (h:=aE 7 rfl (h:=aE 8 rfl (h:=Zbk 10 kr rfl kr kr (ZaD [_,_,_] 10 [_,_,_] rfl rfl ZgV rfl rfl rfl rfl rfl rfl rfl rfl ?_)))))⟩
 refine aA 11 rfl (h:=Zt kr kr ?_)
 refine Ze (ZM [_,_,_,_,_,_,_,_,_,_,_] rfl (Zi (Za (xL [_,_,_] Ze0 10 (h:=xL [_,_,_] Ze0 2 (h:=xR ZoO rfl (ZaO ((Zd3 x (⟨u,y,z⟩:DSess) o n).1) ((Zd3 x (⟨u,y,z⟩:DSess) o n).1) _) (h:=xN (h:=xM (h:=Zv (d:=56) rfl (fun g3=>by simp at g3) (fun g3=>?_))))))))))
 try simp only [sQ,ne_eq] at g3
 refine xM (h:=xM (h:=Zax (h:=xF (h:=Zc rfl (fun g4=>by simp at g4) (fun g4=>?_)))))
 try simp only [sQ,ne_eq] at g4
 refine Zh (Ze (Zi (Zi (Z2 (keeps _ [0,9] _) mo kr ⟨Kn.le.refl _,ZaV.refl _ _⟩ (fun _ _=>?_)))))
 refine aT 0 rfl (Z6 fun D B L hI=>ZK [_,_,_,_,_] rfl rfl Zfg rfl (Zby 9 (hI.2.2.1.trans rfl) rfl rfl) r4) (h:=aT 1 rfl (Z6 fun D B L hI=>ZK [_,_,_,_,_] rfl rfl ZjK rfl (Zby 0 (hI.2.1.trans rfl) rfl rfl) r4) (h:=ZS 2 kr rfl kr (Zal rfl rfl en7 rfl (ZaG _ _ _ _ _ _ x _ hu hf hi om2) ?_)))
 rintro _ B107 _ hle107 ⟨q107,c107,l107,q107b,c107b,l107b,q107c,c107c,l107c,rfl,rfl,rfl,hv107,hv107b,hv107c⟩
 refine ⟨⟨Kn.le.refl _,t2⟩,(ZdH 11 rfl hv107 Zs.any om (fun B' hle'=>⟨hle',t2⟩) (fun B108 hle108 hr108=>?_))⟩
 replace hu:=hu.mono Zs.mono hle108
 replace hf:=hf.mono Zj.mono hle108
 replace hi:=hi.mono ZB.mono hle108
 replace hr91:=hr91.mono Zs.mono hle108
 replace hr92:=hr92.mono Zj.mono hle108
 replace hr93:=hr93.mono ZB.mono hle108
 replace hE:=hE.mono hle108
 have hr108n:=hr108.len
 refine Zbc 12 rfl hv107b Zar.known Zj.mono om (fun B' hle'=>⟨hle108.trans hle',t2⟩) (fun B109 hle109 hr109=>?_)
 replace hu:=hu.mono Zs.mono hle109
 replace hf:=hf.mono Zj.mono hle109
 replace hi:=hi.mono ZB.mono hle109
 replace hr91:=hr91.mono Zs.mono hle109
 replace hr92:=hr92.mono Zj.mono hle109
 replace hr93:=hr93.mono ZB.mono hle109
 replace hr108:=hr108.mono Zs.mono hle109
 replace hE:=hE.mono hle109
 have hr109n:=hr109.len
 refine Zbc 13 rfl hv107c ZbP.known ZB.mono om (fun B' hle'=>⟨(hle108.trans hle109).trans hle',t2⟩) (fun B110 hle110 hr110=>?_)
 replace hu:=hu.mono Zs.mono hle110
 replace hf:=hf.mono Zj.mono hle110
 replace hi:=hi.mono ZB.mono hle110
 replace hr91:=hr91.mono Zs.mono hle110
 replace hr92:=hr92.mono Zj.mono hle110
 replace hr93:=hr93.mono ZB.mono hle110
 replace hr108:=hr108.mono Zs.mono hle110
 replace hr109:=hr109.mono Zj.mono hle110
 replace hE:=hE.mono hle110
 have hr110n:=hr110.len
 refine ZS 3 kr rfl kr (ZQ rfl rfl ZoN rfl (Zcb _ _ _ _ _ _ _ _ _ _ _ _ x x _ hr91 hr92 hr93 hr108 hr109 hr110) ?_)
 refine ⟨⟨((hle108.trans hle109).trans hle110),t2⟩,(aN 4 rfl (h:=Zt kr kr ?_))⟩
 refine Ze (ZM [_,_,_,_,_,_,_,_,_,_,_,_,_,_] rfl (Zc rfl (fun g5=>by simp at g5) (fun g5=>?_)))
 try simp only [sQ,ne_eq] at g5
 refine Zh (Ze (Za (xA (h:=Zg ?_))))
 exact Zy .ret (.inl rfl) [_] t1 rfl

end Go.Proofs.YtglldnolbfgppaaGreatDoor
