/-
  WHAT THE FUNCTIONS THAT THE LAWS REACH COMPUTE: each function's contract, proved off its printed body (the text is written by program). No condition beyond those that each theorem states.
-/
import Derived.Test.YthgggppcgbglkaaGreatDoorC0
namespace Go.Proofs.YthgggppcgbglkaaGreatDoor
open Go Go.BL
set_option linter.unusedVariables false
set_option linter.unusedSimpArgs false
set_option maxRecDepth 4000
variable {J : JoinT}
set_option maxHeartbeats 400000 in
theorem Zg9 (q:Option Addr) (cp:Nat) (us:List DUser) (nm:Str) (hn:nm.length≤2000000) (B:Kn) (hu:SlK B q cp 3 Zm us):Zag (pj J) 102 [.slice q us.length cp,str nm] B (.tuple #[.agg #[str (ZaU us nm).1.name,str (ZaU us nm).1.pass,.int .i64 (ZaU us nm).1.quota],.bool (ZaU us nm).2]):=by
 refine Zb 15 Tryz.func102 rfl rfl rfl (Nat.le_of_ble_eq_true rfl) ?_
 have hun:=hu.len
 refine Za (xBx [_] (h:=fun b1=>xAl [_,_,_] ZdP (h:=fun b2=>xA (h:=ZB [_,_] rfl (Ze (Za (xM (h:=xR ZuF rfl (Zhv _ _ _ _ hu) (h:=xN (h:=Zc rfl (fun g0=>?_) (fun g0=>?_)))))))))))
 try simp only [sQ,ne_eq] at g0
 refine Za (xB [] [_,_,_] [_,_,_] ZvI ZdP (h:=xS [_,_,_] 1 [_,_,_] Zbe (h:=xA (h:=ZB [_,_] rfl (Zh (Zq ?_))))))
 exact ZE .ret (.inl rfl) [_,_] ⟨⟨_,rfl,.inr ⟨[_,_,_],Ze2,ZbH 1 rfl rfl rfl,rfl⟩⟩,rfl,trivial⟩ ⟨by rw [ZaU,g0];rfl,rfl,rfl⟩
 try simp only [sQ,ne_eq] at g0
 refine Zf (Zd (Za (xM (h:=Zp (Zdv (xs:=[]) (ys:=[_]) rfl rfl rfl rfl (Zp (Zh7 0 rfl rfl rfl ZwB rfl (Zag.borrow fun hm=>Zpt _ _ us 157 _ (fun y=>decide (y.name=nm)) _ (hu.mono Zm.mono (Kn.le_add _ _)) ZwA (fun y h1 h2=>ZjD y nm _ h1 hn _ (ZiS hm))) (xE (h:=xE (h:=xS [_,_,_] 1 [_,_,_] Zbe (h:=xA (h:=ZB [_,_] rfl (Zh ?_)))))))))))))
 exact ZE .ret (.inl rfl) [_,_] ⟨⟨_,rfl,.inr ⟨[_,_,_],Ze2,ZbH 1 rfl rfl rfl,rfl⟩⟩,rfl,trivial⟩ ⟨by rw [ZaU,if_pos g0];rfl,rfl,rfl⟩

set_option maxHeartbeats 400000 in
theorem Zi8 (b o:Nat) (q1 q2 q3:Option Addr) (c1 c2 c3:Nat) (x:DHost) (nm:Str) (hn:nm.length≤2000000) (B:Kn) (hh:ZaK B b o [str x.domain,.slice q1 x.users.length c1,.slice q2 x.folders.length c2,.int .i64 x.queue.next,.slice q3 x.queue.items.length c3]) (hu:SlK B q1 c1 3 Zm x.users):Zag (pj J) 44 [ptr ⟨b,o,none⟩,str nm] B (.bool (ZaU x.users nm).2):=by
 refine Zb 17 Tryz.func44 rfl rfl rfl (Nat.le_of_ble_eq_true rfl) ?_
 refine Za (xA (h:=Za (xM (h:=xNc (h:=xW ZbK (h:=Zp (Zr rfl rfl Zis rfl (hh _ 1 _ rfl) (xM (h:=xR ZuN rfl (Zg9 _ _ _ nm om2 _ hu) (h:=?_))))))))))
 refine xM (h:=xE (h:=xE (h:=xAl [_,_,_] ZdP (h:=fun b2=>xS [_,_,_] 0 [_,_,_] Zbe (h:=xA (h:=ZB [_] rfl (Za (xM (h:=xA (h:=Zh ?_))))))))))
 exact ZE .ret (.inl rfl) [_] t1 ⟨rfl,rfl,rfl⟩

set_option maxHeartbeats 400000 in
theorem Zkc (q1 q2 q3:Option Addr) (c1 c2 c3:Nat) (x:DHost) (ow nm:Str) (ho:ow.length≤2000000) (hn:nm.length≤2000000) (B:Kn) (hf:SlK B q2 c2 5 Zk x.folders):Zag (pj J) 33 [.agg #[str x.domain,.slice q1 x.users.length c1,.slice q2 x.folders.length c2,.int .i64 x.queue.next,.slice q3 x.queue.items.length c3],str ow,str nm] B (.int .i64 (Zb4 (inF ow nm) x.folders)):=by
 refine Zb 34 Tryz.func33 rfl rfl rfl (Nat.le_of_ble_eq_true rfl) ?_
 have hfn:=hf.len
 refine Za (xBx [_,_,_,_,_] (h:=fun b1=>xA (h:=ZB [_] rfl (Ze (Za (xA (h:=Zl (ZA (α:=Nat) [0,1,2,3] (fun k=>[(7,.int .i64 k)]) [] (fun k=>[]) (fun k Bx=>Bx=B∧k≤x.folders.length∧∀y,y∈x.folders.take k→inF ow nm y=false) (fun k=>x.folders.length - k) 0 t1 rfl (⟨rfl,Nat.zero_le _,by simp⟩) (fun k B2 hle2 hI=>?_)))))))))
 obtain ⟨rfl,hk,ha⟩:=hI
 refine ZG [(0,_),(1,_),(2,_),(3,_),(7,_)] [_] t5 rfl (Ze (Za (xM (h:=xW ZaI (h:=x1 ZfF 0 (h:=xV Tryz.underlying31 (h:=ZI (h:=Zc rfl (fun g1=>?_) (fun g1=>?_)))))))))
 try simp only [sQ,ne_eq] at g1
 refine Zf (Zd (Ze (Zl (Za (xW ZaI (h:=x1 ZfF 0 (h:=xM (h:=?_))))))))
 obtain ⟨y,hy⟩:=ZZ (xs:=x.folders) (i:=k) om
 obtain ⟨bb4,oo4,rfl⟩:=hf.base hy
 obtain ⟨_,⟨qg5,cg5,qm5,cm5,rfl,hg5,hm5,hb5,hb5b⟩,hc5⟩:=hf.elem hy
 have hg5n:=hg5.len
 have hm5n:=hm5.len
 have hm5s:=Zay hm5
 refine xIx Tryz.underlying31 Zcb (h:=xW Zca (h:=y1 lk9 hc5 0 (h:=xM (h:=Zem (h:=xM (h:=Zz (d:=23) rfl (fun g2=>?_) (fun g2=>?_)))))))
 try simp only [sQ,ne_eq] at g2
 refine xW ZaI (h:=x1 ZfF 0 (h:=xM (h:=xIx Tryz.underlying31 Zcb (h:=xW ZdF (h:=y1 lk9 hc5 1 (h:=xM (h:=Zem (h:=xT (h:=Zc rfl (fun g3=>?_) (fun g3=>?_))))))))))
 try simp only [sQ,ne_eq] at g3
 refine Za (xM (h:=xA (h:=Zh (ZD (Zq (ZS (ZD (Zq ?_))))))))
 exact ZE .ret (.inl rfl) [_] t1 ⟨ZN (ZgX hy (by simp [inF,g2,g3]) ha).symm,rfl,rfl⟩
 try simp only [sQ,ne_eq] at g3
 refine Zf (ZT (Zd (Zg (xM (h:=xD (h:=xA (h:=?_)))))))
 exact ZF (k+1) [0] so2 ⟨rfl,oz,Zbj hy ha (by simp [inF,g2,g3])⟩ t5 rfl
 try simp only [sQ,ne_eq] at g2
 refine xP (h:=xP (h:=xP (h:=xP (h:=xP (h:=xP (h:=xP (h:=xP (h:=xF (h:=Zc (t:=false) rfl (fun h=>Bool.noConfusion h) (fun _=>Zf (ZT (Zd (Zg ?_)))))))))))))
 refine xM (h:=xD (h:=xA (h:=?_)))
 exact ZF (k+1) [0] so2 ⟨rfl,oz,Zbj hy ha (by simp [inF,g2])⟩ t5 rfl
 try simp only [sQ,ne_eq] at g1
 refine ZH (Z0 (ZJ (Zw (Zd (Za (xA (h:=Zh ?_)))))))
 exact ZE .ret (.inl rfl) [_] t1 ⟨ZN (Zey (Zbw oz ha)).symm,rfl,rfl⟩

set_option maxHeartbeats 400000 in
theorem ZsY (f:DFolder) (qa qb:Option Addr) (ca cb:Nat) (ow nm:Str) (b b':Nat) (h1:f.owner.length≤2000000) (h2:f.name.length≤2000000) (h3:ow.length≤2000000) (h4:nm.length≤2000000) (B:Kn) (hb:ZaK B b 0 [str ow]) (hb2:ZaK B b' 0 [str nm]):Zag (pj J) 126 [.agg #[str f.owner,str f.name,.slice qa f.grants.length ca,.int .i64 f.next,.slice qb f.mail.length cb],ptr ⟨b,0,none⟩,ptr ⟨b',0,none⟩] B (.bool (inF ow nm f)):=by
 refine Zb 15 Tryz.func126 rfl rfl rfl (Nat.le_of_ble_eq_true rfl) ?_
 refine Za (xBx [_,_,_,_,_] (h:=fun b1=>xA (h:=ZB [_] rfl (Za (xW Zca (h:=x1 lk9 0 (h:=Zp (Zr rfl rfl lk9 rfl (hb _ 0 _ rfl) (Zem (h:=xM (h:=Zz (d:=9) rfl (fun g1=>?_) (fun g1=>?_))))))))))))
 try simp only [sQ,ne_eq] at g1
 refine xW ZdF (h:=x1 lk9 0 (h:=Zp (Zr rfl rfl lk9 rfl (hb2 _ 0 _ rfl) (Zem (h:=xT (h:=xA (h:=Zh ?_)))))))
 exact ZE .ret (.inl rfl) [_] t1 ⟨Zi (by rw [Bool.eq_iff_iff];simp [inF,g1]),rfl,rfl⟩
 try simp only [sQ,ne_eq] at g1
 refine xP (h:=xP (h:=xP (h:=xP (h:=xF (h:=xA (h:=Zh ?_))))))
 exact ZE .ret (.inl rfl) [_] t1 ⟨Zi (by rw [Bool.eq_iff_iff];simp [inF,g1]),rfl,rfl⟩

set_option maxHeartbeats 400000 in
theorem ZqN (q:Option Addr) (cp:Nat) (fs:List DFolder) (F:FuncId) (cap:Array Value) (t:DFolder→Bool) (B:Kn) (hf:SlK B q cp 5 Zk fs) (he:enters (pj J) F=true) (hF :∀(f:DFolder) (qa qb:Option Addr) (ca cb:Nat),f.owner.length≤2000000→f.name.length≤2000000→Zag (pj J) F ([.agg #[str f.owner,str f.name,.slice qa f.grants.length ca,.int .i64 f.next,.slice qb f.mail.length cb]] ++ cap.toList) B (.bool (t f))):Zag (pj J) 125 [.slice q fs.length cp,.func (.func F) #[] cap] B (.int .i64 (Zb4 t fs)):=by
 refine Zb 19 Tryz.func125 rfl rfl rfl (Nat.le_of_ble_eq_true rfl) ?_
 have hfn:=hf.len
 refine Za (xA (h:=Ze (Za (xM (h:=xV Tryz.underlying31 (h:=xM (h:=Zl (ZA (α:=Nat) [0,1,7] (fun k=>[(8,.int .i64 k)]) [] (fun k=>[]) (fun k Bx=>Bx=B∧k≤fs.length∧∀y,y∈fs.take k→t y=false) (fun k=>fs.length - k) 0 t1 rfl (⟨rfl,Nat.zero_le _,by simp⟩) (fun k B1 hle1 hI=>?_)))))))))
 obtain ⟨rfl,hk,ha⟩:=hI
 refine ZG [(0,_),(1,_),(7,_),(8,_)] [] t4 rfl (Za (ZI (h:=Ze (Zc rfl (fun g1=>?_) (fun g1=>?_)))))
 try simp only [sQ,ne_eq] at g1
 refine Zf (Zd (Ze (Zl (Za (xM (h:=xA (h:=Za (xM (h:=xM (h:=xM (h:=?_)))))))))))
 obtain ⟨y,hy⟩:=ZZ (xs:=fs) (i:=k) om
 obtain ⟨bb3,oo3,rfl⟩:=hf.base hy
 obtain ⟨_,⟨qg4,cg4,qm4,cm4,rfl,hg4,hm4,hb4,hb4b⟩,hc4⟩:=hf.elem hy
 have hg4n:=hg4.len
 have hm4n:=hm4.len
 have hm4s:=Zay hm4
 refine xIx Tryz.underlying31 Zcb (h:=yL [_,_,_,_,_] Ziq hc4 0 (h:=Zp (Zrv rfl rfl he rfl rfl (hF y _ _ _ _ om2 om2) ?_)))
 refine Zc rfl (fun g2=>?_) (fun g2=>?_)
 try simp only [sQ,ne_eq] at g2
 refine Za (xM (h:=xA (h:=Zh (ZD (Zq (ZS (ZD (Zq ?_))))))))
 exact ZE .ret (.inl rfl) [_] t1 ⟨ZN (ZgX hy g2 ha).symm,rfl,rfl⟩
 try simp only [sQ,ne_eq] at g2
 refine Zf (ZT (Zd (Zg (xD (h:=xM (h:=?_))))))
 exact ZF (k+1) [] so2 ⟨rfl,oz,Zbj hy ha g2⟩ t4 rfl
 try simp only [sQ,ne_eq] at g1
 refine ZH (Z0 (ZJ (Zw (Zd (Za (xA (h:=Zh ?_)))))))
 exact ZE .ret (.inl rfl) [_] t1 ⟨ZN (Zey (Zbw oz ha)).symm,rfl,rfl⟩

set_option maxHeartbeats 400000 in
theorem Zms (b o:Nat) (q1 q2 q3:Option Addr) (c1 c2 c3:Nat) (x:DHost) (ow nm:Str) (ho:ow.length≤2000000) (hn:nm.length≤2000000) (B:Kn) (hh:ZaK B b o [str x.domain,.slice q1 x.users.length c1,.slice q2 x.folders.length c2,.int .i64 x.queue.next,.slice q3 x.queue.items.length c3]) (hf:SlK B q2 c2 5 Zk x.folders):Zag (pj J) 74 [ptr ⟨b,o,none⟩,str ow,str nm] B (.int .i64 (Zb4 (inF ow nm) x.folders)):=by
 refine Zb 13 Tryz.func74 rfl rfl rfl (Nat.le_of_ble_eq_true rfl) ?_
 refine Za (xBx [_] (h:=fun b1=>xBx [_] (h:=fun b2=>xA (h:=ZB [_,_] rfl (Za (xM (h:=xNc (h:=xW ZaI (h:=Zp (Zr rfl rfl ZfF rfl (hh _ 2 _ rfl) (Zp (Zdv (xs:=[]) (ys:=[_,_]) rfl rfl rfl rfl (Zp (ZtA 0 1 rfl rfl rfl rfl rfl ZwU rfl (Zag.borrow2 fun hm1 hm2=>ZqN _ _ x.folders 126 _ (inF ow nm) _ ((hf.mono Zk.mono (Kn.le_add _ _)).mono Zk.mono (Kn.le_add _ _)) ZwT (fun f qa qb ca cb h1 h2=>ZsY f qa qb ca cb ow nm _ _ h1 h2 ho hn _ (ZiS hm1) (ZiS hm2))) (xA (h:=?_))))))))))))))))
 refine Zh ?_
 exact ZE .ret (.inl rfl) [_] t1 ⟨rfl,rfl,rfl⟩

set_option maxHeartbeats 400000 in
theorem Zk4 (b o:Nat) (q1 q2 q3:Option Addr) (c1 c2 c3:Nat) (x:DHost) (B:Kn) (hh:ZaK B b o [str x.domain,.slice q1 x.users.length c1,.slice q2 x.folders.length c2,.int .i64 x.queue.next,.slice q3 x.queue.items.length c3]) (hu:SlK B q1 c1 3 Zm x.users) (hi:SlK B q3 c3 4 Zs x.queue.items):Zag (pj J) 153 [ptr ⟨b,o,none⟩] B (.bool (x.queue.items.all (ZcK x.users))):=by
 refine Zb 35 Tryz.func153 rfl rfl rfl (Nat.le_of_ble_eq_true rfl) ?_
 have hin:=hi.len
 refine Za (xA (h:=Ze (Za (xM (h:=xNc (h:=xW ZbE (h:=xW ZaV (h:=Zp (Zr rfl rfl ZgP rfl (hh _ 4 _ rfl) (xV Tryz.underlying32 (h:=xM (h:=Zl (ZA (α:=Nat) [0,11,12] (fun k=>[(13,.int .i64 k)]) [] (fun k=>[]) (fun k Bx=>Bx=B∧k≤x.queue.items.length∧∀y,y∈x.queue.items.take k→ZcK x.users y=true) (fun k=>x.queue.items.length - k) 0 t1 rfl (⟨rfl,Nat.zero_le _,by simp⟩) (fun k B1 hle1 hI=>?_))))))))))))))
 obtain ⟨rfl,hk,ha⟩:=hI
 refine ZG [(0,_),(11,_),(12,_),(13,_)] [] t4 rfl (Za (ZI (h:=Ze (Zc rfl (fun g1=>?_) (fun g1=>?_)))))
 try simp only [sQ,ne_eq] at g1
 refine Zf (Zd (Ze (Zl (Za ?_))))
 obtain ⟨y,hy⟩:=ZZ (xs:=x.queue.items) (i:=k) om
 obtain ⟨bb3,oo3,rfl⟩:=hi.base hy
 obtain ⟨_,⟨qi4,ci4,rfl,hi4,hb4,hb4b⟩,hc4⟩:=hi.elem hy
 have hi4n:=hi4.len
 refine xIx Tryz.underlying32 Za0 (h:=yL [_,_,_,_] Zdq hc4 0 (h:=xAl [_,_,_,_] Zdo (h:=fun b5=>xS [_,_,_,_] 0 [_,_,_,_] Za0 (h:=ZB [_] rfl (Ze (Za (xM (h:=xW Zd6 (h:=x1 lk9 0 (h:=xR ZvV rfl (Zi8 _ _ _ _ _ _ _ _ x y.fr om2 _ hh hu) (h:=?_)))))))))))
 refine xN (h:=Zc rfl (fun g2=>?_) (fun g2=>?_))
 try simp only [sQ,ne_eq] at g2
 refine Za (xA (h:=Zh (Zq (ZD (Zq (ZS (ZD (Zq ?_))))))))
 exact ZE .ret (.inl rfl) [_] t1 ⟨Zi (Zdn hy (by simp [ZcK,g2])).symm,rfl,rfl⟩
 try simp only [sQ,ne_eq] at g2
 refine Zf (Zd (Za (xW ZaE (h:=x1 ZgW 0 (h:=xV Tryz.underlying43 (h:=xM (h:=Zl (ZA (α:=Nat) [0,4,11,12,13,14,21,23,24] (fun j=>[(25,.int .i64 j)]) [] (fun j=>[]) (fun j Bx=>Bx=B1∧j≤y.left.length∧∀z,z∈y.left.take j→(ZaU x.users z).2=true) (fun j=>y.left.length - j) 0 t1 rfl (⟨rfl,Nat.zero_le _,by simp⟩) (fun j B7 hle7 hI=>?_)))))))))
 obtain ⟨rfl,hj,hb⟩:=hI
 refine ZG [(0,_),(4,_),(11,_),(12,_),(13,_),(14,_),(21,_),(23,_),(24,_),(25,_)] [_] t10 rfl (Za (ZI (h:=Ze (Zc rfl (fun g3=>?_) (fun g3=>?_)))))
 try simp only [sQ,ne_eq] at g3
 refine Zf (Zd (Ze (Zl (Za ?_))))
 obtain ⟨z,hz⟩:=ZZ (xs:=y.left) (i:=j) om
 obtain ⟨bb9,oo9,rfl⟩:=hi4.base hz
 obtain ⟨_,⟨rfl,hb10⟩,hc10⟩:=hi4.elem hz
 refine xIx Tryz.underlying43 sz9 (h:=y1 lk9 hc10 0 (h:=xA (h:=Za (xM (h:=xM (h:=xR ZvV rfl (Zi8 _ _ _ _ _ _ _ _ x z om2 _ hh hu) (h:=?_)))))))
 refine xN (h:=Zc rfl (fun g4=>?_) (fun g4=>?_))
 try simp only [sQ,ne_eq] at g4
 refine Za (xA (h:=Zh (ZD (Zq (ZS (ZD (ZD (Zq (ZS (ZD (Zq ?_)))))))))))
 exact ZE .ret (.inl rfl) [_] t1 ⟨Zi (Zdn hy (by rw [ZcK,Zdn hz g4,Bool.and_false])).symm,rfl,rfl⟩
 try simp only [sQ,ne_eq] at g4
 refine Zf (ZT (Zd (Zg (xD (h:=xM (h:=?_))))))
 exact ZF (j+1) [0] so2 ⟨rfl,oz,Zbj hz hb g4⟩ t10 rfl
 try simp only [sQ,ne_eq] at g3
 refine ZH (Z0 (ZJ (Zw (ZT (Zd (Zg (xD (h:=xM (h:=?_)))))))))
 exact ZF (k+1) [] so2 ⟨rfl,oz,Zbj hy ha (by rw [ZcK,g2,ZeX (Zbw oz hb)];rfl)⟩ t4 rfl
 try simp only [sQ,ne_eq] at g1
 refine ZH (Z0 (ZJ (Zw (Zd (Za (xA (h:=Zh ?_)))))))
 exact ZE .ret (.inl rfl) [_] t1 ⟨Zi (ZeX (Zbw oz ha)).symm,rfl,rfl⟩

set_option maxHeartbeats 400000 in
theorem ZoS (f g:DFolder) (qa qb qc qd:Option Addr) (ca cb cc cd:Nat) (B:Kn):Zag (pj J) 71 [.agg #[str f.owner,str f.name,.slice qa f.grants.length ca,.int .i64 f.next,.slice qb f.mail.length cb],.agg #[str g.owner,str g.name,.slice qc g.grants.length cc,.int .i64 g.next,.slice qd g.mail.length cd]] B (.bool (ZfX f g)):=by
 refine Zb 24 Tryz.func71 rfl rfl rfl (Nat.le_of_ble_eq_true rfl) ?_
 refine Za (xBx [_,_,_,_,_] (h:=fun b1=>xBx [_,_,_,_,_] (h:=fun b2=>xA (h:=ZB [_,_] rfl (Za (xW Zca (h:=x1 lk9 0 (h:=xW Zca (h:=x1 lk9 1 (h:=Zrt (h:=xM (h:=Zz (d:=10) rfl (fun g1=>?_) (fun g1=>?_)))))))))))))
 try simp only [sQ,ne_eq] at g1
 refine xP (h:=xP (h:=xP (h:=xP (h:=xP (h:=xP (h:=xP (h:=xP (h:=xP (h:=xP (h:=xP (h:=xP (h:=xT (h:=?_)))))))))))))
 refine xA (h:=Zh ?_)
 exact ZE .ret (.inl rfl) [_] t1 ⟨Zi (by rw [Bool.eq_iff_iff];simp [ZfX,Zd2,g1]),rfl,rfl⟩
 try simp only [sQ,ne_eq] at g1
 refine xW Zca (h:=x1 lk9 0 (h:=xW Zca (h:=x1 lk9 1 (h:=Zem (h:=xM (h:=Zz (d:=16) rfl (fun g2=>?_) (fun g2=>?_)))))))
 try simp only [sQ,ne_eq] at g2
 refine xW ZdF (h:=x1 lk9 0 (h:=xW ZdF (h:=x1 lk9 1 (h:=Zrt (h:=xT (h:=xF (h:=xA (h:=Zh ?_))))))))
 exact ZE .ret (.inl rfl) [_] t1 ⟨Zi (by rw [Bool.eq_iff_iff];simp [ZfX,Zd2,g1,g2]),rfl,rfl⟩
 try simp only [sQ,ne_eq] at g2
 refine xP (h:=xP (h:=xP (h:=xP (h:=xP (h:=xF (h:=xF (h:=xA (h:=Zh ?_))))))))
 exact ZE .ret (.inl rfl) [_] t1 ⟨Zi (by rw [Bool.eq_iff_iff];simp [ZfX,Zd2,g1,g2]),rfl,rfl⟩

set_option maxHeartbeats 400000 in
theorem ZkY (q:Option Addr) (cp:Nat) (us:List DUser) (B:Kn) (hu:SlK B q cp 3 Zm us):Zag (pj J) 86 [.slice q us.length cp] B (.bool (Zax us)):=by
 refine Zb 54 Tryz.func86 rfl rfl rfl (Nat.le_of_ble_eq_true rfl) ?_
 have hun:=hu.len
 refine Za (xA (h:=Ze (Za (xA (h:=Zl (ZA (α:=Nat × Str) [0] (fun g=>[(3,.int .i64 g.1)]) [] (fun g=>[]) (fun g Bx=>Bx=B∧g.1≤us.length∧ZdS (us.take g.1)=(true,g.2)∧Prev (fun y=>y.name) ([]:Str) us g.1 g.2) (fun g=>us.length - g.1) (0,[]) t1 rfl (⟨rfl,Nat.zero_le _,Zfp,.zero⟩) (fun g B1 hle1 hI=>?_)))))))
 obtain ⟨rfl,hk,hs,hp⟩:=hI
 refine ZG [(0,_),(3,_)] [] t2 rfl (Ze (Za (xM (h:=xM (h:=xV Tryz.underlying30 (h:=ZI (h:=Zc rfl (fun g1=>?_) (fun g1=>?_))))))))
 try simp only [sQ,ne_eq] at g1
 refine Zf (Zd (Ze (Zl (Za (xM (h:=xM (h:=?_)))))))
 obtain ⟨m,hm⟩:=ZZ (xs:=us) (i:=g.1) om
 obtain ⟨bb3,oo3,rfl⟩:=hu.base hm
 obtain ⟨_,⟨rfl,hb4,hb4b⟩,hc4⟩:=hu.elem hm
 refine xIx Tryz.underlying30 Zbe (h:=yL [_,_,_] Ze2 hc4 0 (h:=xAl [_,_,_] ZdP (h:=fun b5=>xS [_,_,_] 0 [_,_,_] Zbe (h:=ZB [_] rfl (Ze (Zaa (same _ _) mo kr ⟨rfl,rfl⟩ (fun _ _=>?_)))))))
 refine aW 0 rfl Za5 (h:=aT 1 rfl (Zam fun D=>Zr rfl rfl lk9 rfl (atL 0 rfl rfl rfl) r4) (h:=aT 2 rfl (Zam fun D=>Zak rfl rfl Zs9 rfl (Zch _ om2 _) r4) (h:=?_)))
 refine aN 3 rfl (h:=aM 4 rfl (h:=ZaR (d:=19) rfl (fun g2=>?_) (fun g2=>?_)))
 try simp only [sQ,ne_eq] at g2
 refine aZ 5 rfl (h:=aZ 6 rfl (h:=aZ 7 rfl (h:=aPT 8 rfl (h:=aM 9 rfl (h:=aZ 10 rfl (h:=aZ 11 rfl (h:=aZ 12 rfl (h:=aZ 13 rfl (h:=aPT 14 rfl (h:=aM 15 rfl (h:=aZ 16 rfl (h:=aZ 17 rfl (h:=?_)))))))))))))
 refine aZ 18 rfl (h:=aZ 19 rfl (h:=aPT 20 rfl (h:=aM 21 rfl (h:=aZ 22 rfl (h:=aZ 23 rfl (h:=aZ 24 rfl (h:=aZ 25 rfl (h:=aZ 26 rfl (h:=aZ 27 rfl (h:=aZ 28 rfl (h:=aZ 29 rfl (h:=aZ 30 rfl (h:=?_)))))))))))))
 refine aZ 31 rfl (h:=aZ 32 rfl (h:=aZ 33 rfl (h:=aZ 34 rfl (h:=aPT 35 rfl (h:=ZC kr kr ?_)))))
 refine Zd (Zc (t:=true) rfl (fun _=>Za (xA (h:=Zh (ZD (Zq (ZS (ZD (Zq ?_)))))))) (fun h=>Bool.noConfusion h))
 exact ZE .ret (.inl rfl) [_] t1 ⟨Zi (ZcT hm hs (by simp [Zeg,ZcD,anyone,g1,g2])).symm,rfl,rfl⟩
 try simp only [sQ,ne_eq] at g2
 refine aW 5 rfl Za5 (h:=aT 6 rfl (Zam fun D=>Zr rfl rfl lk9 rfl (atL 0 rfl rfl rfl) r4) (h:=Zu2 7 rfl (h:=aPF 8 rfl (h:=aM 9 rfl (h:=ZaR (d:=24) rfl (fun g3=>?_) (fun g3=>?_))))))
 try simp only [sQ,ne_eq] at g3
 refine aZ 10 rfl (h:=aZ 11 rfl (h:=aZ 12 rfl (h:=aZ 13 rfl (h:=aPT 14 rfl (h:=aM 15 rfl (h:=aZ 16 rfl (h:=aZ 17 rfl (h:=aZ 18 rfl (h:=aZ 19 rfl (h:=aPT 20 rfl (h:=aM 21 rfl (h:=aZ 22 rfl (h:=?_)))))))))))))
 refine aZ 23 rfl (h:=aZ 24 rfl (h:=aZ 25 rfl (h:=aZ 26 rfl (h:=aZ 27 rfl (h:=aZ 28 rfl (h:=aZ 29 rfl (h:=aZ 30 rfl (h:=aZ 31 rfl (h:=aZ 32 rfl (h:=aZ 33 rfl (h:=aZ 34 rfl (h:=aPT 35 rfl (h:=?_)))))))))))))
 refine ZC kr kr ?_
 refine Zd (Zc (t:=true) rfl (fun _=>Za (xA (h:=Zh (ZD (Zq (ZS (ZD (Zq ?_)))))))) (fun h=>Bool.noConfusion h))
 exact ZE .ret (.inl rfl) [_] t1 ⟨Zi (ZcT hm hs (by simp [Zeg,ZcD,anyone,g1,g2,g3])).symm,rfl,rfl⟩
 try simp only [sQ,ne_eq] at g3
 refine aW 10 rfl Zfx (h:=aT 11 rfl (Zam fun D=>Zr rfl rfl lk9 rfl (atL 0 rfl rfl rfl) r4) (h:=aT 12 rfl (Zam fun D=>Zak rfl rfl Zs9 rfl (Zch _ om2 _) r4) (h:=?_)))
 refine aN 13 rfl (h:=aPF 14 rfl (h:=aM 15 rfl (h:=ZaR (d:=30) rfl (fun g4=>?_) (fun g4=>?_))))
 try simp only [sQ,ne_eq] at g4
 refine aZ 16 rfl (h:=aZ 17 rfl (h:=aZ 18 rfl (h:=aZ 19 rfl (h:=aPT 20 rfl (h:=aM 21 rfl (h:=aZ 22 rfl (h:=aZ 23 rfl (h:=aZ 24 rfl (h:=aZ 25 rfl (h:=aZ 26 rfl (h:=aZ 27 rfl (h:=aZ 28 rfl (h:=?_)))))))))))))
 refine aZ 29 rfl (h:=aZ 30 rfl (h:=aZ 31 rfl (h:=aZ 32 rfl (h:=aZ 33 rfl (h:=aZ 34 rfl (h:=aPT 35 rfl (h:=ZC kr kr ?_)))))))
 refine Zd (Zc (t:=true) rfl (fun _=>Za (xA (h:=Zh (ZD (Zq (ZS (ZD (Zq ?_)))))))) (fun h=>Bool.noConfusion h))
 exact ZE .ret (.inl rfl) [_] t1 ⟨Zi (ZcT hm hs (by simp [Zeg,ZcD,anyone,g1,g2,g3,g4])).symm,rfl,rfl⟩
 try simp only [sQ,ne_eq] at g4
 refine aW 16 rfl Zc5 (h:=aT 17 rfl (Zam fun D=>Zr rfl rfl lk3 rfl (atL 0 rfl rfl rfl) r4) (h:=aT 18 rfl (Zam fun D=>Zak rfl rfl Zra rfl (ZfY _ _ _ _) r4) (h:=aN 19 rfl (h:=aPF 20 rfl (h:=aM 21 rfl (h:=ZaR (d:=36) rfl (fun g5=>?_) (fun g5=>?_)))))))
 try simp only [sQ,ne_eq] at g5
 refine aZ 22 rfl (h:=aZ 23 rfl (h:=aZ 24 rfl (h:=aZ 25 rfl (h:=aZ 26 rfl (h:=aZ 27 rfl (h:=aZ 28 rfl (h:=aZ 29 rfl (h:=aZ 30 rfl (h:=aZ 31 rfl (h:=aZ 32 rfl (h:=aZ 33 rfl (h:=aZ 34 rfl (h:=?_)))))))))))))
 refine aPT 35 rfl (h:=ZC kr kr ?_)
 refine Zd (Zc (t:=true) rfl (fun _=>Za (xA (h:=Zh (ZD (Zq (ZS (ZD (Zq ?_)))))))) (fun h=>Bool.noConfusion h))
 exact ZE .ret (.inl rfl) [_] t1 ⟨Zi (ZcT hm hs (by simp [Zeg,ZcD,anyone,g1,g2,g3,g4,g5])).symm,rfl,rfl⟩
 try simp only [sQ,ne_eq] at g5
 refine aM 22 rfl (h:=ZnA 23 rfl (h:=aM 24 rfl (h:=ZaR (d:=39) rfl (fun g6=>?_) (fun g6=>?_))))
 try simp only [sQ,ne_eq] at g6
 refine aM 25 rfl (h:=aM 26 rfl (h:=aU 27 rfl (h:=?_)))
 obtain ⟨y,hy⟩:=Zuu (xs:=us) (i:=(↑g.1 - 1)) om om
 obtain ⟨_,⟨rfl,hb10,hb10b⟩,hc10⟩:=hu.elem hy
 refine aIx 28 rfl Tryz.underlying30 Zbe (h:=?_)
 have hpe:=hp.at hy oz
 refine aW 29 rfl Za5 (h:=aT 30 rfl (Zam fun D=>Zr rfl rfl lk9 rfl (hc10 _ 0 _ rfl) r4) (h:=aW 31 rfl Za5 (h:=aT 32 rfl (Zam fun D=>Zr rfl rfl lk9 rfl (atL 0 rfl rfl rfl) r4) (h:=aT 33 rfl (Zam fun D=>ZrC rfl rfl rfl rfl r4) (h:=aPT 34 rfl (h:=aPF 35 rfl (h:=ZC kr kr ?_)))))))
 refine Zd (Zc rfl (fun g7=>?_) (fun g7=>?_))
 try simp only [sQ,ne_eq] at g7
 refine Za (xA (h:=Zh (ZD (Zq (ZS (ZD (Zq ?_)))))))
 exact ZE .ret (.inl rfl) [_] t1 ⟨Zi (ZcT hm hs (by simp [Zeg,ZcD,anyone,g1,g2,g3,g4,g5,g6,g7,hpe])).symm,rfl,rfl⟩
 try simp only [sQ,ne_eq] at g7
 refine Zf (ZT (Zd (Zg (xM (h:=xD (h:=xA (h:=?_)))))))
 exact ZF (g.1+1,m.name) [] so2 ⟨rfl,oz,Zcp hm hs (by rw [hpe];simp [Zeg,ZcD,anyone,g2,g3,g4,g7];simp at g5;omega),.succ hm⟩ t2 rfl
 try simp only [sQ,ne_eq] at g6
 refine aZ 25 rfl (h:=aZ 26 rfl (h:=aZ 27 rfl (h:=aZ 28 rfl (h:=aZ 29 rfl (h:=aZ 30 rfl (h:=aZ 31 rfl (h:=aZ 32 rfl (h:=aZ 33 rfl (h:=aPF 34 rfl (h:=aPF 35 rfl (h:=ZC kr kr ?_)))))))))))
 refine Zd (Zc (t:=false) rfl (fun h=>Bool.noConfusion h) (fun _=>Zf (ZT (Zd (Zg (xM (h:=xD (h:=xA (h:=?_)))))))))
 exact ZF (g.1+1,m.name) [] so2 ⟨rfl,oz,Zcp hm hs (by rw [hp.at0 oz];simp [Zeg,ZcD,anyone,g2,g3,g4,Zmf (Zik g2)];simp at g5;omega),.succ hm⟩ t2 rfl
 try simp only [sQ,ne_eq] at g1
 refine ZH (Z0 (ZJ (Zw (Zd (Za (xM (h:=xV Tryz.underlying30 (h:=xR Zra rfl (ZfY _ _ _ _) (h:=xA (h:=Zh ?_))))))))))
 exact ZE .ret (.inl rfl) [_] t1 ⟨Zi (by rw [Zg7 (ZdY hs oz),Bool.eq_iff_iff];simp;omega),rfl,rfl⟩

set_option maxHeartbeats 400000 in
theorem Zok (q:Option Addr) (cp:Nat) (gs:List DGrant) (B:Kn) (hg:SlK B q cp 2 Z5 gs):Zag (pj J) 94 [.slice q gs.length cp] B (.bool (Zgx gs)):=by
 refine Zb 47 Tryz.func94 rfl rfl rfl (Nat.le_of_ble_eq_true rfl) ?_
 have hgn:=hg.len
 refine Za (xA (h:=Ze (Za (xA (h:=Zl (ZA (α:=Nat × Str) [0] (fun g=>[(3,.int .i64 g.1)]) [] (fun g=>[]) (fun g Bx=>Bx=B∧g.1≤gs.length∧Zc2 (gs.take g.1)=(true,g.2)∧Prev (fun y=>y.user) ([]:Str) gs g.1 g.2) (fun g=>gs.length - g.1) (0,[]) t1 rfl (⟨rfl,Nat.zero_le _,Zfp,.zero⟩) (fun g B1 hle1 hI=>?_)))))))
 obtain ⟨rfl,hk,hs,hp⟩:=hI
 refine ZG [(0,_),(3,_)] [] t2 rfl (Ze (Za (xM (h:=xM (h:=xV Tryz.underlying68 (h:=ZI (h:=Zc rfl (fun g1=>?_) (fun g1=>?_))))))))
 try simp only [sQ,ne_eq] at g1
 refine Zf (Zd (Ze (Zl (Ze (Zaa (same _ _) mo kr ⟨rfl,rfl⟩ (fun _ _=>?_))))))
 refine aM 0 rfl (h:=aM 1 rfl (h:=?_))
 obtain ⟨m,hm⟩:=ZZ (xs:=gs) (i:=g.1) om
 obtain ⟨bb3,oo3,rfl⟩:=hg.base hm
 obtain ⟨_,⟨rfl,hb4⟩,hc4⟩:=hg.elem hm
 refine aIx 2 rfl Tryz.underlying68 Zer (h:=aW 3 rfl ZcC (h:=aT 4 rfl (Zam fun D=>Zr rfl rfl lk9 rfl (hc4 _ 0 _ rfl) r4) (h:=aT 5 rfl (Zam fun D=>Zak rfl rfl Zs9 rfl (Zch _ om2 _) r4) (h:=?_))))
 refine aN 6 rfl (h:=aM 7 rfl (h:=ZaR (d:=17) rfl (fun g2=>?_) (fun g2=>?_)))
 try simp only [sQ,ne_eq] at g2
 refine aZ 8 rfl (h:=aZ 9 rfl (h:=aZ 10 rfl (h:=aZ 11 rfl (h:=aZ 12 rfl (h:=aZ 13 rfl (h:=aZ 14 rfl (h:=aPT 15 rfl (h:=aM 16 rfl (h:=aZ 17 rfl (h:=aZ 18 rfl (h:=aZ 19 rfl (h:=aZ 20 rfl (h:=?_)))))))))))))
 refine aZ 21 rfl (h:=aZ 22 rfl (h:=aZ 23 rfl (h:=aZ 24 rfl (h:=aZ 25 rfl (h:=aZ 26 rfl (h:=aZ 27 rfl (h:=aZ 28 rfl (h:=aZ 29 rfl (h:=aZ 30 rfl (h:=aZ 31 rfl (h:=aZ 32 rfl (h:=aPT 33 rfl (h:=?_)))))))))))))
 refine ZC kr kr ?_
 refine Zd (Zc (t:=true) rfl (fun _=>Za (xA (h:=Zh (ZD (Zq (ZS (ZD (Zq ?_)))))))) (fun h=>Bool.noConfusion h))
 exact ZE .ret (.inl rfl) [_] t1 ⟨Zi (Zc8 hm hs (by simp [ZcF,g1,g2])).symm,rfl,rfl⟩
 try simp only [sQ,ne_eq] at g2
 refine aM 8 rfl (h:=aM 9 rfl (h:=aIx 10 rfl Tryz.underlying68 Zer (h:=aW 11 rfl Zd4 (h:=aT 12 rfl (Zam fun D=>Zr rfl rfl lk3 rfl (hc4 _ 1 _ rfl) r4) (h:=aT 13 rfl (Zam fun D=>Zak rfl rfl Zra rfl (ZfY _ _ _ _) r4) (h:=aN 14 rfl (h:=aPF 15 rfl (h:=aM 16 rfl (h:=ZaR (d:=26) rfl (fun g4=>?_) (fun g4=>?_))))))))))
 try simp only [sQ,ne_eq] at g4
 refine aZ 17 rfl (h:=aZ 18 rfl (h:=aZ 19 rfl (h:=aZ 20 rfl (h:=aZ 21 rfl (h:=aZ 22 rfl (h:=aZ 23 rfl (h:=aZ 24 rfl (h:=aZ 25 rfl (h:=aZ 26 rfl (h:=aZ 27 rfl (h:=aZ 28 rfl (h:=aZ 29 rfl (h:=?_)))))))))))))
 refine aZ 30 rfl (h:=aZ 31 rfl (h:=aZ 32 rfl (h:=aPT 33 rfl (h:=ZC kr kr ?_))))
 refine Zd (Zc (t:=true) rfl (fun _=>Za (xA (h:=Zh (ZD (Zq (ZS (ZD (Zq ?_)))))))) (fun h=>Bool.noConfusion h))
 exact ZE .ret (.inl rfl) [_] t1 ⟨Zi (Zc8 hm hs (by simp [ZcF,g1,g2,g4])).symm,rfl,rfl⟩
 try simp only [sQ,ne_eq] at g4
 refine aM 17 rfl (h:=ZnA 18 rfl (h:=aM 19 rfl (h:=ZaR (d:=29) rfl (fun g6=>?_) (fun g6=>?_))))
 try simp only [sQ,ne_eq] at g6
 refine aM 20 rfl (h:=aM 21 rfl (h:=aU 22 rfl (h:=?_)))
 obtain ⟨y,hy⟩:=Zuu (xs:=gs) (i:=(↑g.1 - 1)) om om
 obtain ⟨_,⟨rfl,hb8⟩,hc8⟩:=hg.elem hy
 refine aIx 23 rfl Tryz.underlying68 Zer (h:=?_)
 have hpe:=hp.at hy oz
 refine aW 24 rfl ZcC (h:=aT 25 rfl (Zam fun D=>Zr rfl rfl lk9 rfl (hc8 _ 0 _ rfl) r4) (h:=aM 26 rfl (h:=aM 27 rfl (h:=aIx 28 rfl Tryz.underlying68 Zer (h:=aW 29 rfl ZcC (h:=aT 30 rfl (Zam fun D=>Zr rfl rfl lk9 rfl (hc4 _ 0 _ rfl) r4) (h:=aT 31 rfl (Zam fun D=>ZrC rfl rfl rfl rfl r4) (h:=aPT 32 rfl (h:=aPF 33 rfl (h:=ZC kr kr ?_))))))))))
 refine Zd (Zc rfl (fun g7=>?_) (fun g7=>?_))
 try simp only [sQ,ne_eq] at g7
 refine Za (xA (h:=Zh (ZD (Zq (ZS (ZD (Zq ?_)))))))
 exact ZE .ret (.inl rfl) [_] t1 ⟨Zi (Zc8 hm hs (by simp [ZcF,g1,g2,g4,g6,g7,hpe])).symm,rfl,rfl⟩
 try simp only [sQ,ne_eq] at g7
 refine Zf (ZT (Zd (Zg (xM (h:=xD (h:=xA (h:=?_)))))))
 exact ZF (g.1+1,m.user) [] so2 ⟨rfl,oz,Zcp hm hs (by rw [hpe];simp [ZcF,g2,g7];simp at g4;omega),.succ hm⟩ t2 rfl
 try simp only [sQ,ne_eq] at g6
 refine aZ 20 rfl (h:=aZ 21 rfl (h:=aZ 22 rfl (h:=aZ 23 rfl (h:=aZ 24 rfl (h:=aZ 25 rfl (h:=aZ 26 rfl (h:=aZ 27 rfl (h:=aZ 28 rfl (h:=aZ 29 rfl (h:=aZ 30 rfl (h:=aZ 31 rfl (h:=aPF 32 rfl (h:=?_)))))))))))))
 refine aPF 33 rfl (h:=ZC kr kr ?_)
 refine Zd (Zc (t:=false) rfl (fun h=>Bool.noConfusion h) (fun _=>Zf (ZT (Zd (Zg (xM (h:=xD (h:=xA (h:=?_)))))))))
 exact ZF (g.1+1,m.user) [] so2 ⟨rfl,oz,Zcp hm hs (by rw [hp.at0 oz];simp [ZcF,g2,Zmf (Zik g2)];simp at g4;omega),.succ hm⟩ t2 rfl
 try simp only [sQ,ne_eq] at g1
 refine ZH (Z0 (ZJ (Zw (Zd (Za (xM (h:=xV Tryz.underlying68 (h:=Zce (h:=xA (h:=Zh ?_))))))))))
 exact ZE .ret (.inl rfl) [_] t1 ⟨Zi (by rw [ZkI (ZdY hs oz),Bool.eq_iff_iff];simp;try omega),rfl,rfl⟩

set_option maxHeartbeats 400000 in
theorem Zm8 (q1 q2 q3:Option Addr) (c1 c2 c3:Nat) (x:DHost) (q:Option Addr) (cp:Nat) (ns:List Str) (B:Kn) (hu:SlK B q1 c1 3 Zm x.users) (hn:SlK B q cp 1 Zbv ns):Zag (pj J) 57 [.agg #[str x.domain,.slice q1 x.users.length c1,.slice q2 x.folders.length c2,.int .i64 x.queue.next,.slice q3 x.queue.items.length c3],.slice q ns.length cp] B (.bool (Zit x.users ns)):=by
 refine Zb 20 Tryz.func57 rfl rfl rfl (Nat.le_of_ble_eq_true rfl) ?_
 have hnn:=hn.len
 have hun:=hu.len
 refine Za (xBx [_,_,_,_,_] (h:=fun b1=>xA (h:=ZB [_] rfl (Ze (Za (xA (h:=Zl (ZA (α:=Nat) [0,1,2] (fun k=>[(5,.int .i64 k)]) [] (fun k=>[]) (fun k Bx=>Bx=B∧k≤ns.length∧∀z,z∈ns.take k→decide (0≤ZfG x.users z)=true) (fun k=>ns.length - k) 0 t1 rfl (⟨rfl,Nat.zero_le _,by simp⟩) (fun k B2 hle2 hI=>?_)))))))))
 obtain ⟨rfl,hk,ha⟩:=hI
 refine ZG [(0,_),(1,_),(2,_),(5,_)] [_] t4 rfl (Ze (Za (xM (h:=xM (h:=xV Tryz.underlying43 (h:=ZI (h:=Zc rfl (fun g1=>?_) (fun g1=>?_))))))))
 try simp only [sQ,ne_eq] at g1
 refine Zf (Zd (Ze (Zl (Ze (Zaa (same _ _) mo kr ⟨rfl,rfl⟩ (fun _ _=>?_))))))
 refine aW 0 rfl ZbK (h:=aT 1 rfl (Zam fun D=>Zr rfl rfl Zis rfl (atL 0 rfl rfl rfl) r4) (h:=aM 2 rfl (h:=aM 3 rfl (h:=?_))))
 obtain ⟨z,hz⟩:=ZZ (xs:=ns) (i:=k) om
 obtain ⟨bb4,oo4,rfl⟩:=hn.base hz
 obtain ⟨_,⟨rfl,hb5⟩,hc5⟩:=hn.elem hz
 refine aIx 4 rfl Tryz.underlying43 sz9 (h:=aT 5 rfl (Zam fun D=>Zr rfl rfl lk9 rfl (hc5 _ 0 _ rfl) r4) (h:=aT 6 rfl (Zam fun D=>Zak rfl rfl Zvb rfl (ZfZ _ _ _ _ _ hu) r4) (h:=Zrp 7 rfl (h:=ZC kr kr ?_))))
 refine Zd (Zc rfl (fun g2=>?_) (fun g2=>?_))
 try simp only [sQ,ne_eq] at g2
 refine Za (xA (h:=Zh (ZD (Zq (ZS (ZD (Zq ?_)))))))
 exact ZE .ret (.inl rfl) [_] t1 ⟨Zi (Zdn hz (by simp;omega)).symm,rfl,rfl⟩
 try simp only [sQ,ne_eq] at g2
 refine Zf (ZT (Zd (Zg (xM (h:=xD (h:=xA (h:=?_)))))))
 exact ZF (k+1) [0] so2 ⟨rfl,oz,Zbj hz ha (by simp;omega)⟩ t4 rfl
 try simp only [sQ,ne_eq] at g1
 refine ZH (Z0 (ZJ (Zw (Zd (Za (xA (h:=Zh ?_)))))))
 exact ZE .ret (.inl rfl) [_] t1 ⟨Zi (ZeX (Zbw oz ha)).symm,rfl,rfl⟩

set_option maxHeartbeats 400000 in
theorem Zka (q1 q2 q3:Option Addr) (c1 c2 c3:Nat) (x:DHost) (u:Str) (B:Kn) (hf:SlK B q2 c2 5 Zk x.folders):Zag (pj J) 89 [.agg #[str x.domain,.slice q1 x.users.length c1,.slice q2 x.folders.length c2,.int .i64 x.queue.next,.slice q3 x.queue.items.length c3],str u] B (.int .i64 (Zcv x.folders u)):=by
 refine Zb 32 Tryz.func89 rfl rfl rfl (Nat.le_of_ble_eq_true rfl) ?_
 have hfn:=hf.len
 refine Za (xBx [_,_,_,_,_] (h:=fun b1=>xA (h:=ZB [_] rfl (Za (xA (h:=Ze (Za (xA (h:=Zl (ZA (α:=Nat × Nat) [0,1,2,4] (fun g=>[(5,.int .i64 g.2),(6,.int .i64 g.1)]) [] (fun g=>[]) (fun g Bx=>Bx=B∧g.1≤x.folders.length∧g.2=Zcv (x.folders.take g.1) u∧g.2≤g.1*4000000000000) (fun g=>x.folders.length - g.1) (0,0) t2 rfl (⟨rfl,Nat.zero_le _,by simp [Zcv],oz⟩) (fun g B2 hle2 hI=>?_)))))))))))
 obtain ⟨rfl,hk,hs,hl⟩:=hI
 refine ZG [(0,_),(1,_),(2,_),(4,_),(5,_),(6,_)] [_] t6 rfl (Ze (Za (xM (h:=xW ZaI (h:=x1 ZfF 0 (h:=xV Tryz.underlying31 (h:=ZI (h:=Zc rfl (fun g1=>?_) (fun g1=>?_)))))))))
 try simp only [sQ,ne_eq] at g1
 refine Zf (Zd (Ze (Zl (Za (xW ZaI (h:=x1 ZfF 0 (h:=xM (h:=?_))))))))
 obtain ⟨m,hm⟩:=ZZ (xs:=x.folders) (i:=g.1) om
 obtain ⟨bb4,oo4,rfl⟩:=hf.base hm
 obtain ⟨_,⟨qg5,cg5,qm5,cm5,rfl,hg5,hm5,hb5,hb5b⟩,hc5⟩:=hf.elem hm
 have hg5n:=hg5.len
 have hm5n:=hm5.len
 have hm5s:=Zay hm5
 refine xIx Tryz.underlying31 Zcb (h:=xW Zca (h:=y1 lk9 hc5 0 (h:=xM (h:=Zem (h:=Zc rfl (fun g2=>?_) (fun g2=>?_))))))
 try simp only [sQ,ne_eq] at g2
 refine Zg (xM (h:=xW ZaI (h:=x1 ZfF 0 (h:=xM (h:=xIx Tryz.underlying31 Zcb (h:=xW Zb9 (h:=yL [_,_] Zfs hc5 3 (h:=xR ZwK rfl (ZoU _ _ (⟨m.next,m.mail⟩:DBox) _ hm5) (h:=xD (h:=xA (h:=ZT (Zd (Zg ?_)))))))))))))
 refine xM (h:=xD (h:=xA (h:=?_)))
 exact ZF (g.1+1,g.2+ZbC m.mail) [0] so2 ⟨rfl,so,by rw [Zia hm,← hs,if_pos g2],so⟩ t6 rfl
 try simp only [sQ,ne_eq] at g2
 refine Zf (ZT (Zd (Zg (xM (h:=xD (h:=xA (h:=?_)))))))
 exact ZF (g.1+1,g.2) [0] so2 ⟨rfl,so,by rw [Zia hm,← hs,if_neg g2];simp only [Nat.add_zero],Nat.le_trans hl (Nat.mul_le_mul_right _ (Nat.le_succ _))⟩ t6 rfl
 try simp only [sQ,ne_eq] at g1
 refine ZH (Z0 (ZJ (Zw (Zd (Za (xM (h:=xA (h:=Zh ?_))))))))
 exact ZE .ret (.inl rfl) [_] t1 ⟨ZN (by rw [← Zn1 hs oz]),rfl,rfl⟩

set_option maxHeartbeats 400000 in
theorem Zkb (q1 q2 q3:Option Addr) (c1 c2 c3:Nat) (x:DHost) (B:Kn) (hu:SlK B q1 c1 3 Zm x.users) (hf:SlK B q2 c2 5 Zk x.folders):Zag (pj J) 88 [.agg #[str x.domain,.slice q1 x.users.length c1,.slice q2 x.folders.length c2,.int .i64 x.queue.next,.slice q3 x.queue.items.length c3]] B (.bool (Zb8 x.users x.folders)):=by
 refine Zb 60 Tryz.func88 rfl rfl rfl (Nat.le_of_ble_eq_true rfl) ?_
 have hfn:=hf.len
 have hun:=hu.len
 refine Za (xBx [_,_,_,_,_] (h:=fun b1=>xA (h:=ZB [_] rfl (Ze (Za (xA (h:=Zl (ZA (α:=Nat × Option DFolder) [0,1] (fun g=>[(3,.int .i64 g.1)]) [] (fun g=>[]) (fun g Bx=>Bx=B∧g.1≤x.folders.length∧ZcQ x.users (x.folders.take g.1)=(true,g.2)∧Prev some none x.folders g.1 g.2) (fun g=>x.folders.length - g.1) (0,none) t1 rfl (⟨rfl,Nat.zero_le _,Zfp,.zero⟩) (fun g B2 hle2 hI=>?_)))))))))
 obtain ⟨rfl,hk,hs,hp⟩:=hI
 refine ZG [(0,_),(1,_),(3,_)] [_] t3 rfl (Ze (Za (xM (h:=xW ZaI (h:=x1 ZfF 0 (h:=xV Tryz.underlying31 (h:=ZI (h:=Zc rfl (fun g1=>?_) (fun g1=>?_)))))))))
 try simp only [sQ,ne_eq] at g1
 refine Zf (Zd (Ze (Zl (Za (xW ZaI (h:=x1 ZfF 0 (h:=xM (h:=?_))))))))
 obtain ⟨m,hm⟩:=ZZ (xs:=x.folders) (i:=g.1) om
 obtain ⟨bb4,oo4,rfl⟩:=hf.base hm
 obtain ⟨_,⟨qg5,cg5,qm5,cm5,rfl,hg5,hm5,hb5,hb5b⟩,hc5⟩:=hf.elem hm
 have hg5n:=hg5.len
 have hm5n:=hm5.len
 have hm5s:=Zay hm5
 refine xIx Tryz.underlying31 Zcb (h:=yL [_,_,_,_,_] Ziq hc5 0 (h:=xAl [_,_,_,_,_] Zf9 (h:=fun b6=>xS [_,_,_,_,_] 1 [_,_,_,_,_] Zcb (h:=ZB [_,_] rfl (Ze (Zaa (same _ _) mo kr ⟨rfl,rfl⟩ (fun _ _=>?_)))))))
 refine aW 0 rfl ZbK (h:=aT 1 rfl (Zam fun D=>Zr rfl rfl Zis rfl (atL 0 rfl rfl rfl) r4) (h:=aW 2 rfl Zca (h:=aT 3 rfl (Zam fun D=>Zr rfl rfl lk9 rfl (atL 1 rfl rfl rfl) r4) (h:=aT 4 rfl (Zam fun D=>Zak rfl rfl Zvb rfl (ZfZ _ _ _ _ _ hu) r4) (h:=Zrp 5 rfl (h:=aM 6 rfl (h:=ZaR (d:=23) rfl (fun g2=>?_) (fun g2=>?_))))))))
 try simp only [sQ,ne_eq] at g2
 refine aZ 7 rfl (h:=aZ 8 rfl (h:=aZ 9 rfl (h:=aZ 10 rfl (h:=aPT 11 rfl (h:=aM 12 rfl (h:=aZ 13 rfl (h:=aZ 14 rfl (h:=aZ 15 rfl (h:=aZ 16 rfl (h:=aPT 17 rfl (h:=aM 18 rfl (h:=aZ 19 rfl (h:=?_)))))))))))))
 refine aZ 20 rfl (h:=aZ 21 rfl (h:=aZ 22 rfl (h:=aPT 23 rfl (h:=aM 24 rfl (h:=aZ 25 rfl (h:=aZ 26 rfl (h:=aZ 27 rfl (h:=aZ 28 rfl (h:=aZ 29 rfl (h:=aZ 30 rfl (h:=aZ 31 rfl (h:=aZ 32 rfl (h:=?_)))))))))))))
 refine aZ 33 rfl (h:=aZ 34 rfl (h:=aZ 35 rfl (h:=aZ 36 rfl (h:=aZ 37 rfl (h:=aPT 38 rfl (h:=ZC kr kr ?_))))))
 refine Zd (Zc (t:=true) rfl (fun _=>Za (xA (h:=Zh (ZD (Zq (ZS (ZD (Zq ?_)))))))) (fun h=>Bool.noConfusion h))
 exact ZE .ret (.inl rfl) [_] t1 ⟨Zi (Zb7 hm hs (by simp [Zbt,Z8,DFolder.box,g1,g2];try omega)).symm,rfl,rfl⟩
 try simp only [sQ,ne_eq] at g2
 refine aW 7 rfl ZdF (h:=aT 8 rfl (Zam fun D=>Zr rfl rfl lk9 rfl (atL 1 rfl rfl rfl) r4) (h:=aT 9 rfl (Zam fun D=>Zak rfl rfl Zs9 rfl (Zch _ om2 _) r4) (h:=?_)))
 refine aN 10 rfl (h:=aPF 11 rfl (h:=aM 12 rfl (h:=ZaR (d:=29) rfl (fun g3=>?_) (fun g3=>?_))))
 try simp only [sQ,ne_eq] at g3
 refine aZ 13 rfl (h:=aZ 14 rfl (h:=aZ 15 rfl (h:=aZ 16 rfl (h:=aPT 17 rfl (h:=aM 18 rfl (h:=aZ 19 rfl (h:=aZ 20 rfl (h:=aZ 21 rfl (h:=aZ 22 rfl (h:=aPT 23 rfl (h:=aM 24 rfl (h:=aZ 25 rfl (h:=?_)))))))))))))
 refine aZ 26 rfl (h:=aZ 27 rfl (h:=aZ 28 rfl (h:=aZ 29 rfl (h:=aZ 30 rfl (h:=aZ 31 rfl (h:=aZ 32 rfl (h:=aZ 33 rfl (h:=aZ 34 rfl (h:=aZ 35 rfl (h:=aZ 36 rfl (h:=aZ 37 rfl (h:=aPT 38 rfl (h:=?_)))))))))))))
 refine ZC kr kr ?_
 refine Zd (Zc (t:=true) rfl (fun _=>Za (xA (h:=Zh (ZD (Zq (ZS (ZD (Zq ?_)))))))) (fun h=>Bool.noConfusion h))
 exact ZE .ret (.inl rfl) [_] t1 ⟨Zi (Zb7 hm hs (by simp [Zbt,Z8,DFolder.box,g1,g2,g3];try omega)).symm,rfl,rfl⟩
 try simp only [sQ,ne_eq] at g3
 refine aW 13 rfl ZeC (h:=aT 14 rfl (Zam fun D=>Zr rfl rfl ZrJ rfl (atL 1 rfl rfl rfl) r4) (h:=aT 15 rfl (Zam fun D=>Zak rfl rfl ZxP rfl (Zok _ _ _ _ hg5) r4) (h:=aN 16 rfl (h:=aPF 17 rfl (h:=aM 18 rfl (h:=ZaR (d:=35) rfl (fun g4=>?_) (fun g4=>?_)))))))
 try simp only [sQ,ne_eq] at g4
 refine aZ 19 rfl (h:=aZ 20 rfl (h:=aZ 21 rfl (h:=aZ 22 rfl (h:=aPT 23 rfl (h:=aM 24 rfl (h:=aZ 25 rfl (h:=aZ 26 rfl (h:=aZ 27 rfl (h:=aZ 28 rfl (h:=aZ 29 rfl (h:=aZ 30 rfl (h:=aZ 31 rfl (h:=?_)))))))))))))
 refine aZ 32 rfl (h:=aZ 33 rfl (h:=aZ 34 rfl (h:=aZ 35 rfl (h:=aZ 36 rfl (h:=aZ 37 rfl (h:=aPT 38 rfl (h:=ZC kr kr ?_)))))))
 refine Zd (Zc (t:=true) rfl (fun _=>Za (xA (h:=Zh (ZD (Zq (ZS (ZD (Zq ?_)))))))) (fun h=>Bool.noConfusion h))
 exact ZE .ret (.inl rfl) [_] t1 ⟨Zi (Zb7 hm hs (by simp [Zbt,Z8,DFolder.box,g1,g2,g3,g4];try omega)).symm,rfl,rfl⟩
 try simp only [sQ,ne_eq] at g4
 refine aW 19 rfl Zb9 (h:=aT 20 rfl (Zam fun D=>Zab [_,_] rfl rfl Zfs rfl (ZbH 1 rfl rfl rfl) r4) (h:=aT 21 rfl (Zam fun D=>Zak rfl rfl ZwL rfl (Zoj _ _ (⟨m.next,m.mail⟩:DBox) _ hm5) r4) (h:=aN 22 rfl (h:=aPF 23 rfl (h:=aM 24 rfl (h:=ZaR (d:=41) rfl (fun g5=>?_) (fun g5=>?_)))))))
 try simp only [sQ,ne_eq] at g5
 refine aZ 25 rfl (h:=aZ 26 rfl (h:=aZ 27 rfl (h:=aZ 28 rfl (h:=aZ 29 rfl (h:=aZ 30 rfl (h:=aZ 31 rfl (h:=aZ 32 rfl (h:=aZ 33 rfl (h:=aZ 34 rfl (h:=aZ 35 rfl (h:=aZ 36 rfl (h:=aZ 37 rfl (h:=?_)))))))))))))
 refine aPT 38 rfl (h:=ZC kr kr ?_)
 refine Zd (Zc (t:=true) rfl (fun _=>Za (xA (h:=Zh (ZD (Zq (ZS (ZD (Zq ?_)))))))) (fun h=>Bool.noConfusion h))
 exact ZE .ret (.inl rfl) [_] t1 ⟨Zi (Zb7 hm hs (by simp [Zbt,Z8,DFolder.box,g1,g2,g3,g4,g5];try omega)).symm,rfl,rfl⟩
 try simp only [sQ,ne_eq] at g5
 refine aM 25 rfl (h:=ZnA 26 rfl (h:=aM 27 rfl (h:=ZaR (d:=44) rfl (fun g6=>?_) (fun g6=>?_))))
 try simp only [sQ,ne_eq] at g6
 refine aW 28 rfl ZaI (h:=aT 29 rfl (Zam fun D=>Zr rfl rfl ZfF rfl (atL 0 rfl rfl rfl) r4) (h:=aM 30 rfl (h:=aU 31 rfl (h:=?_))))
 obtain ⟨y,hy⟩:=Zuu (xs:=x.folders) (i:=(↑g.1 - 1)) om om
 obtain ⟨_,⟨qg12,cg12,qm12,cm12,rfl,hg12,hm12,hb12,hb12b⟩,hc12⟩:=hf.elem hy
 have hg12n:=hg12.len
 have hm12n:=hm12.len
 have hm12s:=Zay hm12
 refine aIx 32 rfl Tryz.underlying31 Zcb (h:=?_)
 have hpe:=hp.at hy oz
 refine aT 33 rfl (Zam fun D=>Zab [_,_,_,_,_] rfl rfl Ziq rfl (Zl7 hc12 0 rfl rfl) r4) (h:=aT 34 rfl (Zam fun D=>Zab [_,_,_,_,_] rfl rfl Ziq rfl (ZbH 1 rfl rfl rfl) r4) (h:=aT 35 rfl (Zam fun D=>Zak rfl rfl Zx1 rfl (ZoS y m _ _ _ _ _ _ _ _ _) r4) (h:=aN 36 rfl (h:=aPT 37 rfl (h:=aPF 38 rfl (h:=ZC kr kr ?_))))))
 refine Zd (Zc rfl (fun g7=>?_) (fun g7=>?_))
 try simp only [sQ,ne_eq] at g7
 refine Za (xA (h:=Zh (ZD (Zq (ZS (ZD (Zq ?_)))))))
 exact ZE .ret (.inl rfl) [_] t1 ⟨Zi (Zb7 hm hs (by simp [Zbt,Z8,DFolder.box,g1,g2,g3,g4,g5,g6,g7,hpe];try omega)).symm,rfl,rfl⟩
 try simp only [sQ,ne_eq] at g7
 refine Zf (ZT (Zd (Zg (xM (h:=xD (h:=xA (h:=?_)))))))
 exact ZF (g.1+1,some m) [0] so2 ⟨rfl,oz,Zcp hm hs (by rw [hpe];simp [Zbt,Z8,DFolder.box,g3,g4,g5,g7];omega),.succ hm⟩ t3 rfl
 try simp only [sQ,ne_eq] at g6
 refine aZ 28 rfl (h:=aZ 29 rfl (h:=aZ 30 rfl (h:=aZ 31 rfl (h:=aZ 32 rfl (h:=aZ 33 rfl (h:=aZ 34 rfl (h:=aZ 35 rfl (h:=aZ 36 rfl (h:=aPF 37 rfl (h:=aPF 38 rfl (h:=ZC kr kr ?_)))))))))))
 refine Zd (Zc (t:=false) rfl (fun h=>Bool.noConfusion h) (fun _=>Zf (ZT (Zd (Zg (xM (h:=xD (h:=xA (h:=?_)))))))))
 exact ZF (g.1+1,some m) [0] so2 ⟨rfl,oz,Zcp hm hs (by rw [hp.at0 oz];simp [Zbt,Z8,DFolder.box,g3,g4,g5];omega),.succ hm⟩ t3 rfl
 try simp only [sQ,ne_eq] at g1
 refine ZH (Z0 (ZJ (Zw (Zd (Za (xW ZaI (h:=x1 ZfF 0 (h:=xV Tryz.underlying31 (h:=Zce (h:=xA (h:=Zh ?_)))))))))))
 exact ZE .ret (.inl rfl) [_] t1 ⟨Zi (by rw [Zje (ZdY hs oz),Bool.eq_iff_iff];simp;try omega),rfl,rfl⟩

set_option maxHeartbeats 400000 in
theorem ZmS (q1 q2 q3:Option Addr) (c1 c2 c3:Nat) (x:DHost) (hd:x.domain.length≤2000000) (B:Kn) (hu:SlK B q1 c1 3 Zm x.users) (hf:SlK B q2 c2 5 Zk x.folders) (hi:SlK B q3 c3 4 Zs x.queue.items):Zag (pj J) 30 [.agg #[str x.domain,.slice q1 x.users.length c1,.slice q2 x.folders.length c2,.int .i64 x.queue.next,.slice q3 x.queue.items.length c3]] B (.bool (Zad x)):=by
 refine Zb 87 Tryz.func30 rfl rfl rfl (Nat.le_of_ble_eq_true rfl) ?_
 have hfn:=hf.len
 have hun:=hu.len
 have hin:=hi.len
 refine Za (xBx [_,_,_,_,_] (h:=fun b1=>xA (h:=ZB [_] rfl (Ze (Za (xW ZhG (h:=x1 lk9 0 (h:=xR ZxU rfl (ZjR _ om2 _) (h:=?_)))))))))
 refine xN (h:=xM (h:=Zz (d:=10) rfl (fun g1=>?_) (fun g1=>?_)))
 try simp only [sQ,ne_eq] at g1
 refine xP (h:=xP (h:=xP (h:=xP (h:=xT (h:=xM (h:=xP (h:=xP (h:=xP (h:=xP (h:=xT (h:=xM (h:=xP (h:=?_)))))))))))))
 refine xP (h:=xP (h:=xT (h:=Zc (t:=true) rfl (fun _=>Za (xA (h:=Zh (Zq ?_)))) (fun h=>Bool.noConfusion h))))
 exact ZE .ret (.inl rfl) [_] t1 ⟨Zi (by simp [Zad,g1]),rfl,rfl⟩
 try simp only [sQ,ne_eq] at g1
 refine xW ZbK (h:=x1 Zis 0 (h:=xR ZxT rfl (ZkY _ _ _ _ hu) (h:=xN (h:=xF (h:=xM (h:=Zz (d:=16) rfl (fun g2=>?_) (fun g2=>?_)))))))
 try simp only [sQ,ne_eq] at g2
 refine xP (h:=xP (h:=xP (h:=xP (h:=xT (h:=xM (h:=xP (h:=xP (h:=xP (h:=xT (h:=Zc (t:=true) rfl (fun _=>Za (xA (h:=?_))) (fun h=>Bool.noConfusion h)))))))))))
 refine Zh (Zq ?_)
 exact ZE .ret (.inl rfl) [_] t1 ⟨Zi (by simp [Zad,g1,g2]),rfl,rfl⟩
 try simp only [sQ,ne_eq] at g2
 refine xW ZbE (h:=xL [_,_] Zed 0 (h:=xR ZxS rfl (ZkZ _ _ x.queue _ hi) (h:=xN (h:=xF (h:=xM (h:=Zz (d:=22) rfl (fun g3=>?_) (fun g3=>?_)))))))
 try simp only [sQ,ne_eq] at g3
 refine xP (h:=xP (h:=xP (h:=xT (h:=Zc (t:=true) rfl (fun _=>Za (xA (h:=Zh (Zq ?_)))) (fun h=>Bool.noConfusion h)))))
 exact ZE .ret (.inl rfl) [_] t1 ⟨Zi (by simp [Zad,g1,g2,g3]),rfl,rfl⟩
 try simp only [sQ,ne_eq] at g3
 refine xL [_,_,_,_,_] ZcA 0 (h:=xR ZxR rfl (Zkb _ _ _ _ _ _ x _ hu hf) (h:=xN (h:=xF (h:=Zc rfl (fun g4=>?_) (fun g4=>?_)))))
 try simp only [sQ,ne_eq] at g4
 refine Za (xA (h:=Zh (Zq ?_)))
 exact ZE .ret (.inl rfl) [_] t1 ⟨Zi (by simp [Zad,g1,g2,g3,g4]),rfl,rfl⟩
 try simp only [sQ,ne_eq] at g4
 refine Zf (Zd (Ze (Za (xA (h:=Zl (ZA (α:=Nat) [0,1,26] (fun k=>[(3,.int .i64 k)]) [] (fun k=>[]) (fun k Bx=>Bx=B∧k≤x.users.length∧∀z,z∈x.users.take k→Za3 x.folders z=true) (fun k=>x.users.length - k) 0 t1 rfl (⟨rfl,Nat.zero_le _,by simp⟩) (fun k B6 hle6 hI=>?_)))))))
 obtain ⟨rfl,hk,ha⟩:=hI
 refine ZG [(0,_),(1,_),(3,_),(26,_)] [_] t4 rfl (Ze (Za (xM (h:=xW ZbK (h:=x1 Zis 0 (h:=xV Tryz.underlying30 (h:=ZI (h:=Zc rfl (fun g5=>?_) (fun g5=>?_)))))))))
 try simp only [sQ,ne_eq] at g5
 refine Zf (Zd (Ze (Zl (Ze (Zaa (same _ _) mo kr ⟨rfl,rfl⟩ (fun _ _=>?_))))))
 refine aT 0 rfl (Zam fun D=>Zab [_,_,_,_,_] rfl rfl ZcA rfl (ZbH 0 rfl rfl rfl) r4) (h:=aW 1 rfl ZbK (h:=aT 2 rfl (Zam fun D=>Zr rfl rfl Zis rfl (atL 0 rfl rfl rfl) r4) (h:=aM 3 rfl (h:=?_))))
 obtain ⟨w,hw⟩:=ZZ (xs:=x.users) (i:=k) om
 obtain ⟨bb8,oo8,rfl⟩:=hu.base hw
 obtain ⟨_,⟨rfl,hb9,hb9b⟩,hc9⟩:=hu.elem hw
 refine aIx 4 rfl Tryz.underlying30 Zbe (h:=aW 5 rfl Za5 (h:=aT 6 rfl (Zam fun D=>Zr rfl rfl lk9 rfl (hc9 _ 0 _ rfl) r4) (h:=aT 7 rfl (Zam fun D=>Zak rfl rfl Zxw rfl (Zkc _ _ _ _ _ _ x w.name [105,110,98,111,120] om2 om2 _ hf) r4) (h:=?_))))
 refine Zrp 8 rfl (h:=aM 9 rfl (h:=ZaR (d:=43) rfl (fun g6=>?_) (fun g6=>?_)))
 try simp only [sQ,ne_eq] at g6
 refine aZ 10 rfl (h:=aZ 11 rfl (h:=aZ 12 rfl (h:=aZ 13 rfl (h:=aZ 14 rfl (h:=aZ 15 rfl (h:=aZ 16 rfl (h:=aZ 17 rfl (h:=aZ 18 rfl (h:=aZ 19 rfl (h:=aZ 20 rfl (h:=aZ 21 rfl (h:=aZ 22 rfl (h:=?_)))))))))))))
 refine aZ 23 rfl (h:=aZ 24 rfl (h:=aPT 25 rfl (h:=ZC kr kr ?_)))
 refine Zd (Zc (t:=true) rfl (fun _=>Za (xA (h:=Zh (ZD (Zq (ZS (ZD (Zq ?_)))))))) (fun h=>Bool.noConfusion h))
 exact ZE .ret (.inl rfl) [_] t1 ⟨Zi (Zhz hw (ZjG g6)).symm,rfl,rfl⟩
 try simp only [sQ,ne_eq] at g6
 refine aT 10 rfl (Zam fun D=>Zab [_,_,_,_,_] rfl rfl ZcA rfl (ZbH 0 rfl rfl rfl) r4) (h:=aW 11 rfl ZbK (h:=aT 12 rfl (Zam fun D=>Zr rfl rfl Zis rfl (atL 0 rfl rfl rfl) r4) (h:=aM 13 rfl (h:=aIx 14 rfl Tryz.underlying30 Zbe (h:=aW 15 rfl Za5 (h:=aT 16 rfl (Zam fun D=>Zr rfl rfl lk9 rfl (hc9 _ 0 _ rfl) r4) (h:=aT 17 rfl (Zam fun D=>Zak rfl rfl Zxt rfl (Zka _ _ _ _ _ _ x _ _ hf) r4) (h:=aW 18 rfl ZbK (h:=aT 19 rfl (Zam fun D=>Zr rfl rfl Zis rfl (atL 0 rfl rfl rfl) r4) (h:=aM 20 rfl (h:=aIx 21 rfl Tryz.underlying30 Zbe (h:=aW 22 rfl Zc5 (h:=?_)))))))))))))
 refine aT 23 rfl (Zam fun D=>Zr rfl rfl lk3 rfl (hc9 _ 2 _ rfl) r4) (h:=ZnA 24 rfl (h:=aPF 25 rfl (h:=ZC kr kr ?_)))
 refine Zd (Zc rfl (fun g7=>?_) (fun g7=>?_))
 try simp only [sQ,ne_eq] at g7
 refine Za (xA (h:=Zh (ZD (Zq (ZS (ZD (Zq ?_)))))))
 exact ZE .ret (.inl rfl) [_] t1 ⟨Zi (Zhz hw (ZjF g7)).symm,rfl,rfl⟩
 try simp only [sQ,ne_eq] at g7
 refine Zf (ZT (Zd (Zg (xM (h:=xD (h:=xA (h:=?_)))))))
 exact ZF (k+1) [0] so2 ⟨rfl,oz,Zbj hw ha (ZjE g6 g7)⟩ t4 rfl
 try simp only [sQ,ne_eq] at g5
 refine ZH (Z0 (ZJ (Zw (Zd (Ze (Za (xA (h:=Zl (ZA (α:=Nat) [0,1,3,26,31] (fun j=>[(4,.int .i64 j)]) [] (fun j=>[]) (fun j Bx=>Bx=B6∧j≤x.queue.items.length∧∀z,z∈x.queue.items.take j→ZaN x.users z=true) (fun j=>x.queue.items.length - j) 0 t1 rfl (⟨rfl,Nat.zero_le _,by simp⟩) (fun j B12 hle12 hI=>?_))))))))))
 obtain ⟨rfl,hj,hb⟩:=hI
 refine ZG [(0,_),(1,_),(3,_),(4,_),(26,_),(31,_)] [_] t6 rfl (Ze (Za (xM (h:=xW ZbE (h:=xW ZaV (h:=x1 ZgP 0 (h:=xV Tryz.underlying32 (h:=ZI (h:=Zc rfl (fun g8=>?_) (fun g8=>?_))))))))))
 try simp only [sQ,ne_eq] at g8
 refine Zf (Zd (Ze (Zl (Za (xW ZbE (h:=xW ZaV (h:=x1 ZgP 0 (h:=xM (h:=?_)))))))))
 obtain ⟨y,hy⟩:=ZZ (xs:=x.queue.items) (i:=j) om
 obtain ⟨bb14,oo14,rfl⟩:=hi.base hy
 obtain ⟨_,⟨qi15,ci15,rfl,hi15,hb15,hb15b⟩,hc15⟩:=hi.elem hy
 have hi15n:=hi15.len
 refine xIx Tryz.underlying32 Za0 (h:=yL [_,_,_,_] Zdq hc15 0 (h:=xAl [_,_,_,_] Zdo (h:=fun b16=>xS [_,_,_,_] 1 [_,_,_,_] Za0 (h:=ZB [_,_] rfl (Za (xW ZbK (h:=x1 Zis 0 (h:=xW Zd6 (h:=x1 lk9 1 (h:=xR Zvb rfl (ZfZ _ _ _ _ _ hu) (h:=ZI (h:=xM (h:=?_)))))))))))))
 refine Zz (d:=80) rfl (fun g9=>?_) (fun g9=>?_)
 try simp only [sQ,ne_eq] at g9
 refine xP (h:=xP (h:=xP (h:=xP (h:=xP (h:=xT (h:=Zc (t:=true) rfl (fun _=>Za (xA (h:=Zh (ZD (Zq (ZS (ZD (Zq ?_)))))))) (fun h=>Bool.noConfusion h)))))))
 exact ZE .ret (.inl rfl) [_] t1 ⟨Zi (ZhA hy (Zi7 g9)).symm,rfl,rfl⟩
 try simp only [sQ,ne_eq] at g9
 refine xL [_,_,_,_,_] ZcA 0 (h:=xW ZaE (h:=x1 ZgW 1 (h:=xR Zx7 rfl (Zm8 _ _ _ _ _ _ x _ _ y.left _ hu hi15) (h:=xN (h:=xF (h:=Zc rfl (fun ga=>?_) (fun ga=>?_)))))))
 try simp only [sQ,ne_eq] at ga
 refine Za (xA (h:=Zh (ZD (Zq (ZS (ZD (Zq ?_)))))))
 exact ZE .ret (.inl rfl) [_] t1 ⟨Zi (ZhA hy (Zi6 ga)).symm,rfl,rfl⟩
 try simp only [sQ,ne_eq] at ga
 refine Zf (ZT (Zd (Zg (xM (h:=xD (h:=xA (h:=?_)))))))
 exact ZF (j+1) [0] so2 ⟨rfl,oz,Zbj hy hb (Zi5 g9 ga)⟩ t6 rfl
 try simp only [sQ,ne_eq] at g8
 refine ZH (Z0 (ZJ (Zw (Zd (Za (xA (h:=Zh ?_)))))))
 exact ZE .ret (.inl rfl) [_] t1 ⟨Zi (Znc g1 g2 g3 g4 (ZeX (Zbw oz ha)) (ZeX (Zbw oz hb))).symm,rfl,rfl⟩

set_option maxHeartbeats 400000 in
theorem Zrn (q:Option Addr) (cp:Nat) (gs:List DGrant) (B:Kn) (hg:SlK B q cp 2 Z5 gs):Zx (pj J) 103 [.slice q gs.length cp] B [] (ZlP gs B):=by
 refine Zb 46 Tryz.func103 rfl rfl rfl (Nat.le_of_ble_eq_true rfl) ?_
 have hgn:=hg.len
 refine Za (xA (h:=xA (h:=Ze (Za (xM (h:=xV Tryz.underlying68 (h:=Zdb (h:=Zc rfl (fun g0=>?_) (fun g0=>?_)))))))))
 try simp only [sQ,ne_eq] at g0
 refine Za (xA (h:=xA (h:=Zh (Zq ?_))))
 exact ZhM .ret (.inl rfl) [_,_] t2 (by simp [Zgx];omega)
 try simp only [sQ,ne_eq] at g0
 refine Zf (Zd (Za (Zp (ZnS rfl rfl (fun b1 l1 hl1=>xA (h:=ZB [_] rfl (Za (xA (h:=Ze (Za (xM (h:=xV Tryz.underlying68 (h:=xM (h:=?_))))))))))))))
 refine Zl (ZA (α:=Nat × Str × Cells) [0,4,10,12,13] (fun g=>[(5,str g.2.1),(14,.int .i64 g.1)]) [0] (fun g=>[g.2.2]) (fun g Bx=>Bx=B∧g.1≤gs.length∧Zc2 (gs.take g.1)=(true,g.2.1)∧g.2.1.length≤2000000∧Ztu g.2.2 b1 (ZrK (gs.take g.1))) (fun g=>gs.length - g.1) (0,[],_) t2 rfl (⟨rfl,Nat.zero_le _,Zfp,by simp,hl1⟩) (fun g B2 hle2 hI=>?_))
 obtain ⟨rfl,hk,hs,hnm,hml⟩:=hI
 refine ZG [(0,_),(4,_),(5,_),(10,_),(12,_),(13,_),(14,_)] [_] t7 rfl (Za (ZI (h:=Ze (Zc rfl (fun g1=>?_) (fun g1=>?_)))))
 try simp only [sQ,ne_eq] at g1
 refine Zf (Zd (Ze (Zl (Za ?_))))
 obtain ⟨m,hm⟩:=ZZ (xs:=gs) (i:=g.1) om
 obtain ⟨bb4,oo4,rfl⟩:=hg.base hm
 obtain ⟨_,⟨rfl,hb5⟩,hc5⟩:=hg.elem hm
 refine xIx Tryz.underlying68 Zer (h:=yL [_,_] ZoO hc5 0 (h:=xAl [_,_] ZmB (h:=fun b6=>xS [_,_] 1 [_,_] Zer (h:=ZB [_,_] rfl (Ze (Za (xW ZcC (h:=x1 lk9 1 (h:=xR Ztt rfl (ZcP _ om2 _) (h:=?_))))))))))
 refine xN (h:=xM (h:=Zz (d:=22) rfl (fun g2=>?_) (fun g2=>?_)))
 try simp only [sQ,ne_eq] at g2
 refine xP (h:=xP (h:=xP (h:=xP (h:=xT (h:=Zc (t:=true) rfl (fun _=>Za (xA (h:=xA (h:=Zh (Zq (ZD (Zq (ZS (ZD (Zq ?_)))))))))) (fun h=>Bool.noConfusion h))))))
 exact ZhM .ret (.inl rfl) [_,_] t2 (Zc8 hm hs (by rw [ZcF,Zbz g.2.1 m.user];simp [g2];try omega))
 try simp only [sQ,ne_eq] at g2
 refine xW ZcC (h:=x1 lk9 1 (h:=xM (h:=Zp (ZrB rfl rfl rfl rfl (xF (h:=Zc rfl (fun g3=>?_) (fun g3=>?_)))))))
 try simp only [sQ,ne_eq] at g3
 refine Za (xA (h:=xA (h:=Zh (Zq (ZD (Zq (ZS (ZD (Zq ?_)))))))))
 exact ZhM .ret (.inl rfl) [_,_] t2 (Zc8 hm hs (by rw [ZcF,Zbz g.2.1 m.user];simp [g3];try omega))
 try simp only [sQ,ne_eq] at g3
 refine Zf (Zd (Ze (Za (xW Zd4 (h:=x1 lk3 1 (h:=ZI (h:=xM (h:=Zz (d:=31) rfl (fun g4=>?_) (fun g4=>?_)))))))))
 try simp only [sQ,ne_eq] at g4
 refine xP (h:=xP (h:=xP (h:=xP (h:=xT (h:=Zc (t:=true) rfl (fun _=>Za (xA (h:=xA (h:=Zh (Zq (ZD (Zq (ZS (ZD (Zq ?_)))))))))) (fun h=>Bool.noConfusion h))))))
 exact ZhM .ret (.inl rfl) [_,_] t2 (Zc8 hm hs (by rw [ZcF,Zbz g.2.1 m.user];simp [g4];try omega))
 try simp only [sQ,ne_eq] at g4
 refine xW Zd4 (h:=x1 lk3 1 (h:=xR Zyj rfl (Zqo _ _) (h:=xN (h:=xF (h:=Zc rfl (fun g5=>?_) (fun g5=>?_))))))
 try simp only [sQ,ne_eq] at g5
 refine Za (xA (h:=xA (h:=Zh (Zq (ZD (Zq (ZS (ZD (Zq ?_)))))))))
 exact ZhM .ret (.inl rfl) [_,_] t2 (Zc8 hm hs (Bool.eq_false_iff.2 fun hc=>by simp only [ZcF,Bool.and_eq_true,decide_eq_true_eq] at hc;simp only [Bool.and_eq_false_iff,decide_eq_false_iff_not] at g5;omega))
 try simp only [sQ,ne_eq] at g5
 refine Zf (Zd (Za (xM (h:=xW ZcC (h:=x1 lk9 1 (h:=xW Zd4 (h:=x1 lk3 1 (h:=Zp (ZkM (k:=m.user) (v:=m.rights) 0 rfl hml rfl rfl Tryz.underlying141 Tryz.underlying9 rfl rfl rfl (fun l9 hl9=>ZB [_,_] rfl (Zg (xW ZcC (h:=x1 lk9 1 (h:=?_))))))))))))))
 refine xA (h:=ZT (Zd (Zg (xD (h:=xM (h:=?_))))))
 exact ZF (g.1+1,m.user,l9) [0] so2 ⟨rfl,so,Zcp hm hs (by rw [ZcF,Zbz g.2.1 m.user,g2,g3];simp at g5 ⊢;omega),oy,by rw [← ZsG hm hs (by rw [Zbz g.2.1 m.user,g3];rfl)];exact hl9⟩ t7 rfl
 try simp only [sQ,ne_eq] at g1
 refine ZH (Z0 (ZJ (Zw (Zd (Za (xM (h:=xA (h:=xA (h:=Zh ?_)))))))))
 exact Zs7 .ret (.inl rfl) [_,_] rfl t2 (by rw [ZkI (ZdY hs oz)];simp;omega) (by have e:=hml;rw [List.take_of_length_le oz] at e;exact e)

set_option maxHeartbeats 400000 in
theorem Zo0 (q:Option Addr) (cp:Nat) (gs:List DGrant) (B:Kn) (hg:SlK B q cp 2 Z5 gs):Zag (pj J) 187 [.slice q gs.length cp] B (.bool (Zgx gs)):=by
 refine Zb 11 Tryz.func187 rfl rfl rfl (Nat.le_of_ble_eq_true rfl) ?_
 refine Za (xA (h:=Za (xM (h:=Zp (ZX rfl rfl Zw9 rfl (Zrn _ _ _ _ hg) ?_)))))
 rintro _ B1 _ hle1 ⟨m1,l1,rfl,rfl,rfl,hl1⟩
 refine xM (h:=xE (h:=xE (h:=xA (h:=xA (h:=ZB [_] rfl (Za (xM (h:=xA (h:=Zh ?_)))))))))
 exact ZE .ret (.inl rfl) [_] t1 ⟨rfl,rfl,rfl⟩

set_option maxHeartbeats 400000 in
theorem ZuS (a b:Str) (B:Kn):Zag (pj J) 173 [str a,str b] B (.int .i64 (Lib.compareBytes a b)):=by
 refine Zb 8 Tryz.func173 rfl rfl rfl (Nat.le_of_ble_eq_true rfl) ?_
 refine Za (xA (h:=Za (xM (h:=xM (h:=Zp (Zvu (fn:=Tryz.f200) rfl rfl Tryz.func200 rfl rfl Zuw Zux rfl rfl (xA (h:=Zh ?_))))))))
 exact ZE .ret (.inl rfl) [_] t1 ⟨rfl,rfl,rfl⟩

set_option maxHeartbeats 400000 in
theorem ZrU (a b:Str) (B:Kn):Zag (pj J) 127 [str a,str b] B (.int .i64 (Lib.compareBytes a b)):=by
 refine Zb 8 Tryz.func127 rfl rfl rfl (Nat.le_of_ble_eq_true rfl) ?_
 refine Za (xA (h:=Za (xM (h:=xM (h:=xR Zwp rfl (ZuS a b _) (h:=xA (h:=Zh ?_)))))))
 exact ZE .ret (.inl rfl) [_] t1 ⟨rfl,rfl,rfl⟩

set_option maxHeartbeats 400000 in
theorem Zly (f:DFolder) (qa qb:Option Addr) (ca cb:Nat) (ow nm:Str) (B:Kn):Zag (pj J) 75 [.agg #[str f.owner,str f.name,.slice qa f.grants.length ca,.int .i64 f.next,.slice qb f.mail.length cb],str ow,str nm] B (.int .i64 (ZuR f ow nm)):=by
 refine Zb 19 Tryz.func75 rfl rfl rfl (Nat.le_of_ble_eq_true rfl) ?_
 refine Za (xBx [_,_,_,_,_] (h:=fun b1=>xA (h:=ZB [_] rfl (Ze (Za (xW Zca (h:=x1 lk9 0 (h:=xM (h:=xR ZuK rfl (ZrU f.owner ow _) (h:=xA (h:=Za (xM (h:=?_)))))))))))))
 refine ZaT (h:=Zc rfl (fun g1=>?_) (fun g1=>?_))
 try simp only [sQ,ne_eq] at g1
 refine Za (xM (h:=xA (h:=Zh (Zq ?_))))
 exact ZE .ret (.inl rfl) [_] t1 ⟨ZN (by rw [ZuR,if_pos g1]),rfl,rfl⟩
 try simp only [sQ,ne_eq] at g1
 refine Zf (Zd (Za (xW ZdF (h:=x1 lk9 0 (h:=xM (h:=xR ZuK rfl (ZrU f.name nm _) (h:=xA (h:=Zh ?_))))))))
 exact ZE .ret (.inl rfl) [_] t1 ⟨ZN (by rw [ZuR,if_neg (fun h=>h g1)]),rfl,rfl⟩

set_option maxHeartbeats 400000 in
theorem ZtS (b o:Nat) (q1 q2 q3:Option Addr) (c1 c2 c3:Nat) (x:DHost) (u:Str) (B:Kn) (hh:ZaK B b o [str x.domain,.slice q1 x.users.length c1,.slice q2 x.folders.length c2,.int .i64 x.queue.next,.slice q3 x.queue.items.length c3]) (hf:SlK B q2 c2 5 Zk x.folders):Zag (pj J) 166 [ptr ⟨b,o,none⟩,str u] B (.int .i64 (ZeY x.folders u)):=by
 refine Zb 28 Tryz.func166 rfl rfl rfl (Nat.le_of_ble_eq_true rfl) ?_
 have hfn:=hf.len
 refine Za (xA (h:=Za (xA (h:=Ze (Za (xM (h:=xNc (h:=xW ZaI (h:=Zp (Zr rfl rfl ZfF rfl (hh _ 2 _ rfl) (xV Tryz.underlying31 (h:=xM (h:=Zl ?_)))))))))))))
 refine ZA (α:=Nat × Int) [0,1,4,11,12] (fun g=>[(5,.int .i64 g.2),(13,.int .i64 g.1)]) [] (fun g=>[]) (fun g Bx=>Bx=B∧g.1≤x.folders.length∧g.2=ZeY (x.folders.take g.1) u∧-1*g.1≤g.2∧g.2≤g.1*200) (fun g=>x.folders.length - g.1) (0,0) t2 rfl (⟨rfl,Nat.zero_le _,by simp [ZeY],by simp,by simp⟩) (fun g B1 hle1 hI=>?_)
 obtain ⟨rfl,hk,hs,hl0,hl1⟩:=hI
 refine ZG [(0,_),(1,_),(4,_),(5,_),(11,_),(12,_),(13,_)] [] t7 rfl (Za (ZI (h:=Ze (Zc rfl (fun g1=>?_) (fun g1=>?_)))))
 try simp only [sQ,ne_eq] at g1
 refine Zf (Zd (Ze (Zl (Za ?_))))
 obtain ⟨m,hm⟩:=ZZ (xs:=x.folders) (i:=g.1) om
 obtain ⟨bb3,oo3,rfl⟩:=hf.base hm
 obtain ⟨_,⟨qg4,cg4,qm4,cm4,rfl,hg4,hm4,hb4,hb4b⟩,hc4⟩:=hf.elem hm
 have hg4n:=hg4.len
 have hm4n:=hm4.len
 have hm4s:=Zay hm4
 refine xIx Tryz.underlying31 Zcb (h:=yL [_,_,_,_,_] Ziq hc4 0 (h:=xAl [_,_,_,_,_] Zf9 (h:=fun b5=>xS [_,_,_,_,_] 0 [_,_,_,_,_] Zcb (h:=ZB [_] rfl (Za (xW Zca (h:=x1 lk9 0 (h:=xM (h:=Zem (h:=Zc rfl (fun g2=>?_) (fun g2=>?_)))))))))))
 try simp only [sQ,ne_eq] at g2
 have hbs:=ZiF (⟨m.next,m.mail⟩:DBox)
 refine Zg (xM (h:=xW Zb9 (h:=xL [_,_] Zfs 0 (h:=xR Zv7 rfl (ZpO _ _ (⟨m.next,m.mail⟩:DBox) _ hm4) (h:=xD (h:=xA (h:=ZT (Zd (Zg (xD (h:=xM (h:=?_))))))))))))
 exact ZF (g.1+1,g.2+Zds ⟨m.next,m.mail⟩) [] so2 ⟨rfl,so,by rw [Zh9 hm,← hs,if_pos g2],so,so⟩ t7 rfl
 try simp only [sQ,ne_eq] at g2
 refine Zf (ZT (Zd (Zg (xD (h:=xM (h:=?_))))))
 exact ZF (g.1+1,g.2) [] so2 ⟨rfl,so,by rw [Zh9 hm,← hs,if_neg g2,Int.add_zero],so,so⟩ t7 rfl
 try simp only [sQ,ne_eq] at g1
 refine ZH (Z0 (ZJ (Zw (Zd (Za (xM (h:=xA (h:=Zh ?_))))))))
 exact ZE .ret (.inl rfl) [_] t1 ⟨ZN (by rw [← Zn0 hs oz]),rfl,rfl⟩

set_option maxHeartbeats 400000 in
theorem Zku (b o:Nat) (q1 q2 q3:Option Addr) (c1 c2 c3:Nat) (x:DHost) (u:Str) (more:Int) (hn:u.length≤2000000) (hm0:0≤more) (hm1:more≤2000000) (B:Kn) (hh:ZaK B b o [str x.domain,.slice q1 x.users.length c1,.slice q2 x.folders.length c2,.int .i64 x.queue.next,.slice q3 x.queue.items.length c3]) (hu:SlK B q1 c1 3 Zm x.users) (hf:SlK B q2 c2 5 Zk x.folders):Zag (pj J) 121 [ptr ⟨b,o,none⟩,str u,.int .i64 more] B (.bool (ZbN x u more)):=by
 refine Zb 30 Tryz.func121 rfl rfl rfl (Nat.le_of_ble_eq_true rfl) ?_
 have hfn:=hf.len
 have hub:=Zp7 x.folders u
 refine Za (xA (h:=Za (xM (h:=xNc (h:=xW ZbK (h:=Zp (Zr rfl rfl Zis rfl (hh _ 1 _ rfl) (xM (h:=xR ZuN rfl (Zg9 _ _ _ u om2 _ hu) (h:=?_))))))))))
 refine xM (h:=xE (h:=xE (h:=xAl [_,_,_] ZdP (h:=fun b2=>xS [_,_,_] 0 [_,_,_] Zbe (h:=xA (h:=ZB [_] rfl (Ze (Zaa (same _ _) mo kr ⟨rfl,rfl⟩ (fun _ _=>?_)))))))))
 refine aM 0 rfl (h:=aN 1 rfl (h:=aM 2 rfl (h:=ZaR (d:=20) rfl (fun g1=>?_) (fun g1=>?_))))
 try simp only [sQ,ne_eq] at g1
 refine aZ 3 rfl (h:=aZ 4 rfl (h:=aZ 5 rfl (h:=aZ 6 rfl (h:=aZ 7 rfl (h:=aZ 8 rfl (h:=aZ 9 rfl (h:=aZ 10 rfl (h:=aPT 11 rfl (h:=aA 12 rfl (h:=ZC kr kr ?_))))))))))
 refine Zd (Zh ?_)
 exact ZE .ret (.inl rfl) [_] t1 ⟨Zi (by rw [ZbN,g1];rfl),rfl,rfl⟩
 try simp only [sQ,ne_eq] at g1
 refine aM 3 rfl (h:=aM 4 rfl (h:=aT 5 rfl (Zam fun D=>Zak rfl rfl Zwt rfl (ZtS _ _ _ _ _ _ _ _ x u _ hh hf) r4) (h:=aM 6 rfl (h:=aD 7 rfl (h:=aW 8 rfl Zc5 (h:=aT 9 rfl (Zam fun D=>Zr rfl rfl lk3 rfl (atL 0 rfl rfl rfl) r4) (h:=ZnA 10 rfl (h:=aPF 11 rfl (h:=aA 12 rfl (h:=ZC kr kr ?_))))))))))
 refine Zd (Zh ?_)
 exact ZE .ret (.inl rfl) [_] t1 ⟨Zi (by rw [ZbN,g1];rfl),rfl,rfl⟩

set_option maxHeartbeats 400000 in
theorem ZmG (b o:Nat) (q1 q2 q3:Option Addr) (c1 c2 c3:Nat) (x:DHost) (B:Kn) (hh:ZaK B b o [str x.domain,.slice q1 x.users.length c1,.slice q2 x.folders.length c2,.int .i64 x.queue.next,.slice q3 x.queue.items.length c3]) (hu:SlK B q1 c1 3 Zm x.users) (hf:SlK B q2 c2 5 Zk x.folders):Zag (pj J) 152 [ptr ⟨b,o,none⟩] B (.bool (Zg8 x)):=by
 refine Zb 26 Tryz.func152 rfl rfl rfl (Nat.le_of_ble_eq_true rfl) ?_
 have hfn:=hf.len
 have hun:=hu.len
 refine Za (xA (h:=Ze (Za (xM (h:=xNc (h:=xW ZbK (h:=Zp (Zr rfl rfl Zis rfl (hh _ 1 _ rfl) (xV Tryz.underlying30 (h:=xM (h:=Zl (ZA (α:=Nat) [0,8,9] (fun k=>[(10,.int .i64 k)]) [] (fun k=>[]) (fun k Bx=>Bx=B∧k≤x.users.length∧∀z,z∈x.users.take k→Zco x z=true) (fun k=>x.users.length - k) 0 t1 rfl (⟨rfl,Nat.zero_le _,by simp⟩) (fun k B1 hle1 hI=>?_)))))))))))))
 obtain ⟨rfl,hk,ha⟩:=hI
 refine ZG [(0,_),(8,_),(9,_),(10,_)] [] t4 rfl (Za (ZI (h:=Ze (Zc rfl (fun g1=>?_) (fun g1=>?_)))))
 try simp only [sQ,ne_eq] at g1
 refine Zf (Zd (Ze (Zl (Za ?_))))
 obtain ⟨w,hw⟩:=ZZ (xs:=x.users) (i:=k) om
 obtain ⟨bb3,oo3,rfl⟩:=hu.base hw
 obtain ⟨_,⟨rfl,hb4,hb4b⟩,hc4⟩:=hu.elem hw
 refine xIx Tryz.underlying30 Zbe (h:=yL [_,_,_] Ze2 hc4 0 (h:=xAl [_,_,_] ZdP (h:=fun b5=>xS [_,_,_] 0 [_,_,_] Zbe (h:=ZB [_] rfl (Za (xM (h:=xW Za5 (h:=x1 lk9 0 (h:=xR Zva rfl (Zms _ _ _ _ _ _ _ _ x w.name [105,110,98,111,120] om2 om2 _ hh hf) (h:=?_))))))))))
 refine ZI (h:=xM (h:=Zz (d:=19) rfl (fun g2=>?_) (fun g2=>?_)))
 try simp only [sQ,ne_eq] at g2
 refine xP (h:=xP (h:=xP (h:=xP (h:=xT (h:=Zc (t:=true) rfl (fun _=>Za (xA (h:=Zh (ZD (Zq (ZS (ZD (Zq ?_)))))))) (fun h=>Bool.noConfusion h))))))
 exact ZE .ret (.inl rfl) [_] t1 ⟨Zi (Zdn hw (ZjJ g2)).symm,rfl,rfl⟩
 try simp only [sQ,ne_eq] at g2
 refine xM (h:=xW Za5 (h:=x1 lk9 0 (h:=xR ZuL rfl (Zku _ _ _ _ _ _ _ _ x w.name 0 om2 om2 om2 _ hh hu hf) (h:=?_))))
 refine xF (h:=Zc rfl (fun g3=>?_) (fun g3=>?_))
 try simp only [sQ,ne_eq] at g3
 refine Za (xA (h:=Zh (ZD (Zq (ZS (ZD (Zq ?_)))))))
 exact ZE .ret (.inl rfl) [_] t1 ⟨Zi (Zdn hw (ZjI g3)).symm,rfl,rfl⟩
 try simp only [sQ,ne_eq] at g3
 refine Zf (ZT (Zd (Zg (xD (h:=xM (h:=?_))))))
 exact ZF (k+1) [] so2 ⟨rfl,oz,Zbj hw ha (ZjH g2 g3)⟩ t4 rfl
 try simp only [sQ,ne_eq] at g1
 refine ZH (Z0 (ZJ (Zw (Zd (Za (xA (h:=Zh ?_)))))))
 exact ZE .ret (.inl rfl) [_] t1 ⟨Zi (ZeX (Zbw oz ha)).symm,rfl,rfl⟩

set_option maxHeartbeats 400000 in
theorem ZqO (q:Option Addr) (cp:Nat) (bs:List Bool) (v:Bool) (B:Kn) (hb:SlK B q cp 1 ZlR bs):Zag (pj J) 224 [.slice q bs.length cp,.bool v] B (.int .i64 (Zb4 (fun y=>decide (v=y)) bs)):=by
 refine Zb 19 Tryz.func224 rfl rfl rfl (Nat.le_of_ble_eq_true rfl) ?_
 have hbn:=hb.len
 refine Za (xA (h:=Ze (Za (xM (h:=xV Tryz.underlying235 (h:=xM (h:=Zl (ZA (α:=Nat) [0,1,7] (fun k=>[(8,.int .i64 k)]) [] (fun k=>[]) (fun k Bx=>Bx=B∧k≤bs.length∧∀y,y∈bs.take k→decide (v=y)=false) (fun k=>bs.length - k) 0 t1 rfl (⟨rfl,Nat.zero_le _,by simp⟩) (fun k B1 hle1 hI=>?_)))))))))
 obtain ⟨rfl,hk,ha⟩:=hI
 refine ZG [(0,_),(1,_),(7,_),(8,_)] [] t4 rfl (Za (ZI (h:=Ze (Zc rfl (fun g1=>?_) (fun g1=>?_)))))
 try simp only [sQ,ne_eq] at g1
 refine Zf (Zd (Ze (Zl (Za (xM (h:=xA (h:=Za (xM (h:=xM (h:=xM (h:=?_)))))))))))
 obtain ⟨y,hy⟩:=ZZ (xs:=bs) (i:=k) om
 obtain ⟨bb3,oo3,rfl⟩:=hb.base hy
 obtain ⟨_,rfl,hc4⟩:=hb.elem hy
 refine xIx Tryz.underlying235 sz4 (h:=y1 lk4 hc4 0 (h:=Zp (Zjy rfl rfl rfl rfl rfl (ZuC Tryz.underlying4) (Zc rfl (fun g2=>?_) (fun g2=>?_)))))
 try simp only [sQ,ne_eq] at g2
 refine Za (xM (h:=xA (h:=Zh (ZD (Zq (ZS (ZD (Zq ?_))))))))
 exact ZE .ret (.inl rfl) [_] t1 ⟨ZN (ZgX hy (decide_eq_true g2) ha).symm,rfl,rfl⟩
 try simp only [sQ,ne_eq] at g2
 refine Zf (ZT (Zd (Zg (xD (h:=xM (h:=?_))))))
 exact ZF (k+1) [] so2 ⟨rfl,oz,Zbj hy ha (decide_eq_false g2)⟩ t4 rfl
 try simp only [sQ,ne_eq] at g1
 refine ZH (Z0 (ZJ (Zw (Zd (Za (xA (h:=Zh ?_)))))))
 exact ZE .ret (.inl rfl) [_] t1 ⟨ZN (Zey (Zbw oz ha)).symm,rfl,rfl⟩

set_option maxHeartbeats 400000 in
theorem ZlI (q:Option Addr) (cp:Nat) (bs:List Bool) (v:Bool) (B:Kn) (hb:SlK B q cp 1 ZlR bs):Zag (pj J) 189 [.slice q bs.length cp,.bool v] B (.bool (decide (0≤Zb4 (fun y=>decide (v=y)) bs))):=by
 refine Zb 9 Tryz.func189 rfl rfl rfl (Nat.le_of_ble_eq_true rfl) ?_
 refine Za (xA (h:=Za (xM (h:=xM (h:=xR Zv1 rfl (ZqO _ _ _ _ _ hb) (h:=Zel (h:=xA (h:=Zh ?_))))))))
 exact ZE .ret (.inl rfl) [_] t1 ⟨rfl,rfl,rfl⟩

set_option maxHeartbeats 400000 in
theorem Zkh (l:Str) (hl:l.length≤2000000) (B:Kn):Zag (pj J) 149 [str l] B (.bool (Zcy l)):=by
 refine Zb 16 Tryz.func149 rfl rfl rfl (Nat.le_of_ble_eq_true rfl) ?_
 refine Za (xA (h:=Za (xM (h:=xB [(0,_)] [_,_] [_,_] Zt9 ZpY (h:=xAl [_,_] ZpY (h:=fun b1=>xS [_,_] 0 [_,_] Zt1 (h:=ZB [_] rfl (Za (Zp (Zh5 0 rfl rfl rfl Zwi rfl (Zrc _ _ 0 oz oz _) ?_))))))))))
 refine xM (h:=xE (h:=xE (h:=xA (h:=xA (h:=Za (xM (h:=xM (h:=Zz (d:=13) rfl (fun g1=>?_) (fun g1=>?_)))))))))
 try simp only [sQ,ne_eq] at g1
 refine Zp (Zh7 0 rfl rfl rfl Zrb rfl (Zmw _ _ (dom l 0).2 (ZuO (Nat.zero_le _)) oz _) ?_)
 refine xT (h:=xA (h:=Zh ?_))
 exact ZE .ret (.inl rfl) [_] t1 ⟨Zi (by rw [Bool.eq_iff_iff,← Zkv];simp [ZlG] at g1;simp [g1];try omega),rfl,rfl⟩
 try simp only [sQ,ne_eq] at g1
 refine xP (h:=xF (h:=xA (h:=Zh ?_)))
 exact ZE .ret (.inl rfl) [_] t1 ⟨Zi (by symm;rw [Bool.eq_false_iff,ne_eq,← Zkv];intro hc;simp [ZlG,hc.1] at g1;omega),rfl,rfl⟩

set_option maxHeartbeats 800000 in
theorem Zjd (Wg C n i b o b1 b3 b5 b6:Nat) (q1 q2 q3:Option Addr) (c1 c2 c3:Nat) (x:DHost) (m:DFolder) (qg qm:Option Addr) (cg cm:Nat) (hin:i<n) (B:Kn) (hc900:ZaK B b o [str x.domain,.slice q1 x.users.length c1,.slice q2 x.folders.length c2,.int .i64 x.queue.next,.slice q3 x.queue.items.length c3]) (hu:SlK B q1 c1 3 Zm x.users) (hc901:ZaK B b1 0 [ptr ⟨b,o,none⟩]) (hc903:ZaK B b3 0 [.slice (some ⟨C,0,none⟩) n n]) (hc905:ZaK B b5 0 [.int .i64 i]) (hc906:ZaK B b6 0 [str m.owner,str m.name,.slice qg m.grants.length cg,.int .i64 m.next,.slice qm m.mail.length cm]) (hg:SlK B qg cg 2 Z5 m.grants) (hm:SlK B qm cm 3 Z3 m.mail) (ho:m.owner.length≤2000000) (hnm:m.name.length≤2000000):@Zeb ⟨4⟩ Tryz.prog wgL.tWg Wg C n i (.bool (ZaH x.users m)) (Go.Conc.G (Frame.enter Tryz.prog 185 #[ptr ⟨Wg,0,none⟩,ptr ⟨b1,0,none⟩,ptr ⟨b6,0,none⟩,ptr ⟨b3,0,none⟩,ptr ⟨b5,0,none⟩] .deferred) [ZfB Tryz.prog]) B []:=by
 letI:Go.ConcR.Payload:=⟨4⟩
 refine Zr3 (Lk:=wgL) (P:=Tryz.prog) (caps:=[ptr ⟨Wg,0,none⟩,ptr ⟨b1,0,none⟩,ptr ⟨b6,0,none⟩,ptr ⟨b3,0,none⟩,ptr ⟨b5,0,none⟩]) (nt:=27) (I:=keeps B [] []) (K:=fun _ _ _ _=>False) ZkL Tryz.func185 rfl rfl (Nat.le_of_ble_eq_true rfl) rfl mo kr ⟨Kn.le.refl _,ZbD.refl _ _⟩ (fun _ _ _ _ h=>h) ?_
 refine aT 0 rfl (Z6 fun D B L hI=>Zr rfl rfl Zug rfl ((hc903.mono hI.1) _ 0 _ rfl) r4) (h:=aT 1 rfl (Z6 fun D B L hI=>Zr rfl rfl lk3 rfl ((hc905.mono hI.1) _ 0 _ rfl) r4) (h:=aT 2 rfl (Z6 fun D B L hI=>Zr rfl rfl ZvL rfl ((hc901.mono hI.1) _ 0 _ rfl) r4) (h:=aW 3 rfl Zca (h:=aT 4 rfl (Z6 fun D B L hI=>Zr rfl rfl lk9 rfl ((hc906.mono hI.1) _ 0 _ rfl) r4) (h:=aT 5 rfl (Z6 fun D B L hI=>Zak rfl rfl ZvV rfl (Zi8 _ _ _ _ _ _ _ _ x m.owner om2 _ (hc900.mono hI.1) (hu.mono Zm.mono hI.1)) r4) (h:=?_))))))
 refine aM 6 rfl (h:=ZaR (d:=11) rfl (fun g1=>?_) (fun g1=>?_))
 try simp only [sQ,ne_eq] at g1
 refine aW 7 rfl ZdF (h:=aT 8 rfl (Z6 fun D B L hI=>Zr rfl rfl lk9 rfl ((hc906.mono hI.1) _ 1 _ rfl) r4) (h:=aT 9 rfl (Z6 fun D B L hI=>Zak rfl rfl Ztt rfl (ZcP _ om2 _) r4) (h:=?_)))
 refine aPT 10 rfl (h:=aM 11 rfl (h:=ZaR (d:=16) rfl (fun g2=>?_) (fun g2=>?_)))
 try simp only [sQ,ne_eq] at g2
 refine aW 12 rfl ZeC (h:=aT 13 rfl (Z6 fun D B L hI=>Zr rfl rfl ZrJ rfl ((hc906.mono hI.1) _ 2 _ rfl) r4) (h:=aT 14 rfl (Z6 fun D B L hI=>Zak rfl rfl Zwf rfl (Zo0 _ _ _ _ (hg.mono Z5.mono hI.1)) r4) (h:=aPT 15 rfl (h:=aM 16 rfl (h:=ZaR (d:=21) rfl (fun g3=>?_) (fun g3=>?_))))))
 try simp only [sQ,ne_eq] at g3
 refine aW 17 rfl Zb9 (h:=aT 18 rfl (Z6 fun D B L hI=>Zab [_,_] rfl rfl Zfs rfl (Zl7 (hc906.mono hI.1) 3 rfl rfl) r4) (h:=aT 19 rfl (Z6 fun D B L hI=>Zak rfl rfl Ztb rfl (Zhy _ _ (⟨m.next,m.mail⟩:DBox) _ (hm.mono Z3.mono hI.1)) r4) (h:=aPT 20 rfl (h:=aT 21 rfl (Z6 fun D B L hI=>ZbO rfl rfl Tryz.underlying235 sz4 rfl rfl oz oz r4) (h:=?_)))))
 refine ZgZ 22 kr rfl kr kr kr (fun T hn hT=>?_)
 refine ZfH (L:=[]) hT ZkL (by simp [ZaH,DFolder.box,g1,g2,g3]) rfl hin rfl Tryz.sizeOf4 (ZcI sz4) (by exact ZgT C i) rfl kr Tryz.func185 rfl
 try simp only [sQ,ne_eq] at g3
 refine aZ 17 rfl (h:=aZ 18 rfl (h:=aZ 19 rfl (h:=aPF 20 rfl (h:=aT 21 rfl (Z6 fun D B L hI=>ZbO rfl rfl Tryz.underlying235 sz4 rfl rfl oz oz r4) (h:=?_)))))
 refine ZgZ 22 kr rfl kr kr kr (fun T hn hT=>?_)
 refine ZfH (L:=[]) hT ZkL (by simp [ZaH,DFolder.box,g1,g2,g3]) rfl hin rfl Tryz.sizeOf4 (ZcI sz4) (by exact ZgT C i) rfl kr Tryz.func185 rfl
 try simp only [sQ,ne_eq] at g2
 refine aZ 12 rfl (h:=aZ 13 rfl (h:=aZ 14 rfl (h:=aPF 15 rfl (h:=aM 16 rfl (h:=aZ 17 rfl (h:=aZ 18 rfl (h:=aZ 19 rfl (h:=aPF 20 rfl (h:=aT 21 rfl (Z6 fun D B L hI=>ZbO rfl rfl Tryz.underlying235 sz4 rfl rfl oz oz r4) (h:=?_))))))))))
 refine ZgZ 22 kr rfl kr kr kr (fun T hn hT=>?_)
 refine ZfH (L:=[]) hT ZkL (by simp [ZaH,DFolder.box,g1,g2]) rfl hin rfl Tryz.sizeOf4 (ZcI sz4) (by exact ZgT C i) rfl kr Tryz.func185 rfl
 try simp only [sQ,ne_eq] at g1
 refine aZ 7 rfl (h:=aZ 8 rfl (h:=aZ 9 rfl (h:=aPF 10 rfl (h:=aM 11 rfl (h:=aZ 12 rfl (h:=aZ 13 rfl (h:=aZ 14 rfl (h:=aPF 15 rfl (h:=aM 16 rfl (h:=aZ 17 rfl (h:=aZ 18 rfl (h:=aZ 19 rfl (h:=?_)))))))))))))
 refine aPF 20 rfl (h:=aT 21 rfl (Z6 fun D B L hI=>ZbO rfl rfl Tryz.underlying235 sz4 rfl rfl oz oz r4) (h:=?_))
 refine ZgZ 22 kr rfl kr kr kr (fun T hn hT=>?_)
 refine ZfH (L:=[]) hT ZkL (by simp [ZaH,DFolder.box,g1]) rfl hin rfl Tryz.sizeOf4 (ZcI sz4) (by exact ZgT C i) rfl kr Tryz.func185 rfl

set_option maxHeartbeats 1600000 in
theorem Zh0 (hJ:Joins Tryz.prog J) (b o:Nat) (q1 q2 q3:Option Addr) (c1 c2 c3:Nat) (x:DHost) (B:Kn) (hc900:ZaK B b o [str x.domain,.slice q1 x.users.length c1,.slice q2 x.folders.length c2,.int .i64 x.queue.next,.slice q3 x.queue.items.length c3]) (hu:SlK B q1 c1 3 Zm x.users) (hf:SlK B q2 c2 5 Zk x.folders):Zx (pj J) 151 [ptr ⟨b,o,none⟩] B [] (fun v B' Ls=>Ls=[]∧v = .bool (x.folders.all (ZaH x.users))):=by
 have hfn:=hf.len
 letI:Go.ConcR.Payload:=⟨4⟩
 refine Zrg 30 Tryz.func151 rfl rfl (Nat.le_of_ble_eq_true rfl) fun X kind c cs F T0 hk hke hA hn0 hT0=>?_
 let C0:Cx (pj J):=⟨X,fb 151 kind,c :: cs,F,hke⟩
 refine ZeF (C:=C0) (L:=[]) (ZiD (C:=C0) (L:=[]) hn0 hT0 (xBx [_] (h:=fun b1=>xA (h:=?_))))
 intro T1 hn1 hT1
 refine Zky (C:=C0) rfl 0 rfl fun B1 hle1 hm1=>?_
 have hc901:=Zb1 hm1
 replace hc900:=hc900.mono hle1
 replace hu:=hu.mono Zm.mono hle1
 replace hf:=hf.mono Zk.mono hle1
 replace hA:=fun v B' Ls' h=>hA v B' Ls' (hle1.trans h)
 refine ZeF (C:=C0) (L:=[[]]) (ZiD (C:=C0) (L:=[[]]) hn1 hT1 (y1 ZvL hc901 0 (h:=xNc (h:=xW ZaI (h:=y1 ZfF hc900 2 (h:=xV Tryz.underlying31 (h:=Zp (Za2 (m:=x.folders.length) (c:=x.folders.length) (by_:=1) [.bool false] rfl rfl ZvS zo4 rfl rfl ⟨_,_,rfl,rfl⟩ ⟨_,_,rfl,rfl⟩ (Nat.le_refl _) oz (fun Cb=>?_)))))))))
 refine xAl [_] Zvi (h:=fun b2=>xS [_] 2 [_] ZvE (h:=?_))
 intro T2 hn2 hT2
 refine Zky (C:=C0) rfl 2 rfl fun B2 hle2 hm2=>?_
 have hc903:=Zb1 hm2
 replace hc900:=hc900.mono hle2
 replace hu:=hu.mono Zm.mono hle2
 replace hf:=hf.mono Zk.mono hle2
 replace hc901:=hc901.mono hle2
 replace hA:=fun v B' Ls' h=>hA v B' Ls' (hle2.trans h)
 refine ZeF (C:=C0) (L:=[[],Z7 Cb (zrow [.bool false] x.folders.length) 4,[]]) (Zf3 (C:=C0) (L:=[[],Z7 Cb (zrow [.bool false] x.folders.length) 4,[]]) (Zqv (C:=Cb) (n:=x.folders.length) (val:=ZpX x) (L₁:=F) (cells:=(zrow [.bool false] x.folders.length).toArray) (i:=0) (todo:=[]) hJ rfl hke Zvh rfl oz (by simp [ZbW]) (.refl _) (fun hmain Wg hW1 hW2=>?_)))
 let C1:Cx (.lone Tryz.prog):=⟨phL Tryz.prog 245 Wg Cb x.folders.length (ZpX x) X.R .a5 (0),fb 151 kind,c :: cs,F,hke⟩
 have hT3:=hT2.putT (n:=30) (dst:=some 4) hn2 rfl (ptr ⟨Wg,0,none⟩)
 have hn3:(putT T2 (some 4) (ptr ⟨Wg,0,none⟩)).size=30:=by rw [Za8,hn2]
 refine ZcM (C:=C1) (L:=[]) (ZeF (C:=C1) (L:=[]) (ZeF (C:=C1) (L:=[]) (ZiD (C:=C1) (L:=[]) hn3 hT3 (y1 ZvL hc901 0 (h:=xNc (h:=xW ZaI (h:=y1 ZfF hc900 2 (h:=xV Tryz.underlying31 (h:=xM (h:=?_))))))))))
 intro T4 hn4 hT4
 refine Zmy (C:=C1) (L:=[]) (Zsu (nt:=30) (fun j=>[(1,ptr ⟨b1,0,none⟩),(3,ptr ⟨b2,0,none⟩),(4,ptr ⟨Wg,0,none⟩),(16,.slice q2 x.folders.length c2),(17,.int .i64 x.folders.length),(18,.int .i64 ((j:Nat):Int))]) (fun j hj B3 T5 hle3 hn5 hT5 hnext=>?_) hn4 (hT4.sub' t6))
 replace hc900:=hc900.mono hle3
 replace hu:=hu.mono Zm.mono hle3
 replace hf:=hf.mono Zk.mono hle3
 replace hc901:=hc901.mono hle3
 replace hc903:=hc903.mono hle3
 replace hA:=fun v B' Ls' h=>hA v B' Ls' (hle3.trans h)
 let C2:Cx (.lone Tryz.prog):=⟨phL Tryz.prog 245 Wg Cb x.folders.length (ZpX x) X.R .a5 (j),fb 151 kind,c :: cs,F,hke⟩
 refine ZeF (C:=C2) (L:=[]) (ZiD (C:=C2) (L:=[]) hn5 hT5 (ZI (h:=?_)))
 intro T6 hn6 hT6
 refine ZeF (C:=C2) (L:=[]) ?_
 rcases Nat.lt_or_ge j x.folders.length with hlt | hge
 refine ZpL (C:=C2) (L:=[]) (t:=true) (by exact congrArg (fun t=>some (Value.bool t)) (decide_eq_true oz)) hT6 ?_
 refine Zth (C:=C2) (L:=[]) (ZeF (C:=C2) (L:=[]) (Zmy (C:=C2) (L:=[]) (ZeF (C:=C2) (L:=[]) (ZiD (C:=C2) (L:=[]) hn6 hT6 (xM (h:=?_))))))
 obtain ⟨m,hm⟩:=ZZ (xs:=x.folders) (i:=j) om
 obtain ⟨bb4,oo4,rfl⟩:=hf.base hm
 obtain ⟨_,⟨qg5,cg5,qm5,cm5,rfl,hg5,hm5,hb5,hb5b⟩,hc5⟩:=hf.elem hm
 have hg5n:=hg5.len
 have hm5n:=hm5.len
 have hm5s:=Zay hm5
 refine xIx Tryz.underlying31 Zcb (h:=yL [_,_,_,_,_] Ziq hc5 0 (h:=xAl [_] zo3 (h:=fun b6=>xAl [_,_,_,_,_] Zf9 (h:=fun b7=>xS [_] 0 [_] sz3 (h:=xS [_,_,_,_,_] 1 [_,_,_,_,_] Zcb (h:=?_))))))
 intro T7 hn7 hT7
 refine Zky (C:=C2) rfl 0 rfl fun B4 hle4 hpm4=>?_
 have hc905:=Zb1 hpm4
 refine Zky (C:=C2) rfl 1 rfl fun B5 hle5 hpm5=>?_
 have hc906:=Zb1 hpm5
 replace hc905:=hc905.mono hle5
 replace hc900:=hc900.mono (hle4.trans hle5)
 replace hu:=hu.mono Zm.mono (hle4.trans hle5)
 replace hf:=hf.mono Zk.mono (hle4.trans hle5)
 replace hc901:=hc901.mono (hle4.trans hle5)
 replace hc903:=hc903.mono (hle4.trans hle5)
 replace hg5:=hg5.mono Z5.mono (hle4.trans hle5)
 replace hm5:=hm5.mono Z3.mono (hle4.trans hle5)
 refine ZeF (C:=C2) (L:=[[],[]]) (Zf3 (C:=C2) (L:=[[],[]]) (Zua (Lk:=wgL) (i:=0) (todo:=[]) ZkL hlt rfl Zwg rfl rfl hT7 hke ?_))
 let C3:Cx (.lone Tryz.prog):=⟨phL Tryz.prog 245 Wg Cb x.folders.length (ZpX x) X.R .a2 (j),fb 151 kind,c :: cs,F,hke⟩
 have hT8:=hT7.putT (n:=30) (dst:=(some 23)) hn7 rfl (.tuple #[])
 have hn8:(putT T7 (some 23) (.tuple #[])).size=30:=by rw [Za8,hn7]
 refine ZcM (C:=C3) (L:=[]) (Zf3 (C:=C3) (L:=[]) (Zxb (C:=C3) (L:=[]) (i:=0) (todo:=[1]) rfl hn8 hT8 (Zp (Zdv (xs:=[]) (ys:=[.tmp 4,.tmp 1,.tmp 6,.tmp 3,.tmp 5]) rfl rfl rfl rfl ?_))))
 intro T9 hn9 hT9
 refine ZvJ (i:=1) (todo:=[]) rfl rfl hT9 hke Tryz.func185 rfl rfl (by rw [ZlV hm];exact Zjd Wg Cb x.folders.length j b o b1 b2 b6 b7 _ _ _ _ _ _ x m _ _ _ _ hlt B5 hc900 hu hc901 hc903 hc905 hc906 hg5 hm5 hb5 hb5b) ?_
 let C4:Cx (.lone Tryz.prog):=⟨phL Tryz.prog 245 Wg Cb x.folders.length (ZpX x) X.R .a5 (j+1),fb 151 kind,c :: cs,F,hke⟩
 refine ZcM (C:=C4) (L:=[]) (Zns (C:=C4) (L:=[]) ?_)
 have hn10:=hn9
 have hT10:=hT9
 refine ZiD (C:=C4) (L:=[]) hn10 hT10 (xD (h:=xM (h:=?_)))
 intro T11 hn11 hT11
 exact hnext hlt _ _ (hle4.trans hle5) hn11 (hT11.sub' t6)
 obtain rfl:j=x.folders.length:=by omega
 refine ZpL (C:=C2) (L:=[]) (t:=false) (by exact congrArg (fun t=>some (Value.bool t)) (decide_eq_false oz)) hT6 ?_
 refine Zti (C:=C2) (L:=[]) (by rfl) ?_
 refine ZeF (C:=C2) (L:=[]) (Zf3 (C:=C2) (L:=[]) (Zst (Lk:=wgL) (X:=X) (i:=0) (todo:=[]) ZkL oz rfl Zwe rfl hT6 hke (fun _ _ _ h=>h) ?_))
 have hT7:=hT6.putT (n:=30) (dst:=(some 26)) hn6 rfl (.tuple #[])
 have hn7:(putT T6 (some 26) (.tuple #[])).size=30:=by rw [Za8,hn6]
 refine ZcM (C:=C0) (L:=[[(Cb,Obj.cells ((List.range x.folders.length).map (ZpX x)).toArray 4 (0,0))]]) (Zky (C:=C0) (L:=[[(Cb,Obj.cells ((List.range x.folders.length).map (ZpX x)).toArray 4 (0,0))]]) rfl 0 rfl fun B4 hle4 hm4=>?_)
 have hvb:=ZnX hm4 hfn
 replace hc900:=hc900.mono hle4
 replace hu:=hu.mono Zm.mono hle4
 replace hf:=hf.mono Zk.mono hle4
 replace hc901:=hc901.mono hle4
 replace hc903:=hc903.mono hle4
 replace hA:=fun v B' Ls' h=>hA v B' Ls' (hle4.trans h)
 refine ZsZ Tryz.func151 rfl hk hke hn7 hT7 hA ?_
 rw [show (x.folders.length:Nat)=(x.folders.map (ZaH x.users)).length from (List.length_map ..).symm] at hc903
 refine Za (y1 Zug hc903 0 (h:=xR Zwd rfl (ZlI _ _ _ _ _ hvb) (h:=xN (h:=xA (h:=ZB [_] rfl (Zh ?_))))))
 exact ZE .ret (.inl rfl) [_] t1 ⟨rfl,congrArg Value.bool Zjp⟩

set_option maxHeartbeats 400000 in
theorem Zlq (hJ:Joins Tryz.prog J) (q1 q2 q3:Option Addr) (c1 c2 c3:Nat) (x:DHost) (hd:x.domain.length≤2000000) (B:Kn) (hu:SlK B q1 c1 3 Zm x.users) (hf:SlK B q2 c2 5 Zk x.folders) (hi:SlK B q3 c3 4 Zs x.queue.items):Zx (pj J) 98 [.agg #[str x.domain,.slice q1 x.users.length c1,.slice q2 x.folders.length c2,.int .i64 x.queue.next,.slice q3 x.queue.items.length c3]] B [] (fun v B' Ls=>Ls=[]∧v = .bool (Zad x)):=by
 refine Zb 63 Tryz.func98 rfl rfl rfl (Nat.le_of_ble_eq_true rfl) ?_
 rw [← Znd]
 have hfn:=hf.len
 have hun:=hu.len
 have hin:=hi.len
 refine Za (xBx [_,_,_,_,_] (h:=fun b1=>xA (h:=ZB [_] rfl (Zp3 0 rfl (fun B2 hle2 hpm2=>?_)))))
 have hc2:=Zb1 hpm2
 replace hu:=hu.mono Zm.mono hle2
 replace hf:=hf.mono Zk.mono hle2
 replace hi:=hi.mono Zs.mono hle2
 refine Ze (Za (xW ZhG (h:=y1 lk9 hc2 0 (h:=xR ZwG rfl (Zkh _ om2 _) (h:=?_)))))
 refine xN (h:=xM (h:=Zz (d:=10) rfl (fun g1=>?_) (fun g1=>?_)))
 try simp only [sQ,ne_eq] at g1
 refine xP (h:=xP (h:=xP (h:=xP (h:=xT (h:=xM (h:=xP (h:=xP (h:=xP (h:=xP (h:=xT (h:=xM (h:=xP (h:=?_)))))))))))))
 refine xP (h:=xP (h:=xP (h:=xT (h:=ZB [_] rfl (Zc (t:=true) rfl (fun _=>Za (xA (h:=Zh (Zq ?_)))) (fun h=>Bool.noConfusion h))))))
 exact ZE .ret (.inl rfl) [_] t1 ⟨rfl,Zi (by simp [Zc1,g1])⟩
 try simp only [sQ,ne_eq] at g1
 refine xW ZbK (h:=y1 Zis hc2 1 (h:=xR ZuF rfl (Zhv _ _ _ _ hu) (h:=xN (h:=xF (h:=xM (h:=Zz (d:=16) rfl (fun g2=>?_) (fun g2=>?_)))))))
 try simp only [sQ,ne_eq] at g2
 refine xP (h:=xP (h:=xP (h:=xP (h:=xT (h:=xM (h:=xP (h:=xP (h:=xP (h:=xP (h:=xT (h:=ZB [_] rfl (Zc (t:=true) rfl (fun _=>?_) (fun h=>Bool.noConfusion h)))))))))))))
 refine Za (xA (h:=Zh (Zq ?_)))
 exact ZE .ret (.inl rfl) [_] t1 ⟨rfl,Zi (by simp [Zc1,g1,g2])⟩
 try simp only [sQ,ne_eq] at g2
 refine xW ZbE (h:=yL [_,_] Zed hc2 3 (h:=xR ZuM rfl (Zhw _ _ x.queue _ hi) (h:=xN (h:=xF (h:=xM (h:=Zz (d:=22) rfl (fun g3=>?_) (fun g3=>?_)))))))
 try simp only [sQ,ne_eq] at g3
 refine xP (h:=xP (h:=xP (h:=xP (h:=xT (h:=ZB [_] rfl (Zc (t:=true) rfl (fun _=>Za (xA (h:=Zh (Zq ?_)))) (fun h=>Bool.noConfusion h)))))))
 exact ZE .ret (.inl rfl) [_] t1 ⟨rfl,Zi (by simp [Zc1,g1,g2,g3])⟩
 try simp only [sQ,ne_eq] at g3
 refine xW ZaI (h:=y1 ZfF hc2 2 (h:=xV Tryz.underlying31 (h:=Zdb (h:=xF (h:=ZB [_] rfl (Zc rfl (fun g4=>?_) (fun g4=>?_)))))))
 try simp only [sQ,ne_eq] at g4
 refine Za (xA (h:=Zh (Zq ?_)))
 exact ZE .ret (.inl rfl) [_] t1 ⟨rfl,Zi (by simp [Zc1];intros;omega)⟩
 try simp only [sQ,ne_eq] at g4
 refine Zf (Zd (Ze (Za (xW ZaI (h:=y1 ZfF hc2 2 (h:=xW ZaI (h:=y1 ZfF hc2 2 (h:=xV Tryz.underlying31 (h:=xU (h:=Zp (Zvt (m:=(x.folders.length - 1)) rfl rfl rfl rfl om ?_)))))))))))
 have hsl:((x.folders.take (x.folders.length - 1)).drop 0).length=x.folders.length - 1:=by simp
 obtain ⟨hq6,q6,cp6,hv6,hr6⟩:=hf.cutE 0 (x.folders.length - 1) om om
 have hr6n:=hr6.len
 refine Zp (Zjz (a:=0) (b:=(x.folders.length - 1)) hv6 om hq6 rfl rfl Tryz.underlying31 Zcb rfl rfl ⟨_,_,rfl,by first | omega | (simp;done) | (simp;omega)⟩ ?_)
 refine xV Tryz.underlying31 (h:=xM (h:=Zl (ZA (α:=Nat) [0,1,27,35,36] (fun k=>[(37,.int .i64 k)]) [] (fun k=>[]) (fun k Bx=>Bx=B2∧k≤x.folders.length - 1∧Zrq x.folders k) (fun k=>x.folders.length - k) 0 t1 rfl (⟨rfl,Nat.zero_le _,ZmY⟩) (fun k B7 hle7 hI=>?_))))
 obtain ⟨rfl,hk,hord⟩:=hI
 refine ZG [(0,_),(1,_),(27,_),(35,_),(36,_),(37,_)] [_] t6 rfl (Za (ZI (h:=Ze (Zc rfl (fun g5=>?_) (fun g5=>?_)))))
 try simp only [sQ,ne_eq] at g5
 refine Zf (Zd (Ze (Zl (Za (xM (h:=?_))))))
 obtain ⟨fa,hfa⟩:=ZZ (xs:=((x.folders.take (x.folders.length - 1)).drop 0)) (i:=k) om
 obtain ⟨bb9,oo9,rfl⟩:=hr6.base hfa
 obtain ⟨_,⟨qg10,cg10,qm10,cm10,rfl,hg10,hm10,hb10,hb10b⟩,hc10⟩:=hr6.elem hfa
 have hg10n:=hg10.len
 have hm10n:=hm10.len
 have hm10s:=Zay hm10
 refine xIx Tryz.underlying31 Zcb (h:=?_)
 have hfa0:x.folders[k]? = some fa:=by rw [List.drop_zero,List.getElem?_take] at hfa;split at hfa <;> simp_all
 refine yL [_,_,_,_,_] Ziq hc10 0 (h:=xAl [_,_,_,_,_] Zf9 (h:=fun b11=>xA (h:=xS [_,_,_,_,_] 1 [_,_,_,_,_] Zcb (h:=ZB [_,_] rfl (Za (xW ZaI (h:=y1 ZfF hc2 2 (h:=xM (h:=xD (h:=?_))))))))))
 obtain ⟨fb,hfb⟩:=ZZ (xs:=x.folders) (i:=(k+1)) om
 obtain ⟨bb13,oo13,rfl⟩:=hf.base hfb
 obtain ⟨_,⟨qg14,cg14,qm14,cm14,rfl,hg14,hm14,hb14,hb14b⟩,hc14⟩:=hf.elem hfb
 have hg14n:=hg14.len
 have hm14n:=hm14.len
 have hm14s:=Zay hm14
 refine xIx Tryz.underlying31 Zcb (h:=yL [_,_,_,_,_] Ziq hc14 0 (h:=xAl [_,_,_,_,_] Zf9 (h:=fun b15=>xS [_,_,_,_,_] 2 [_,_,_,_,_] Zcb (h:=ZB [_,_,_] rfl (Za (xL [_,_,_,_,_] Ziq 1 (h:=xW Zca (h:=x1 lk9 2 (h:=xW ZdF (h:=x1 lk9 2 (h:=xR Zx0 rfl (Zly fa _ _ _ _ fb.owner fb.name _) (h:=Zel (h:=?_)))))))))))))
 refine Zc rfl (fun g6=>?_) (fun g6=>?_)
 try simp only [sQ,ne_eq] at g6
 refine Za (xA (h:=Zh (ZD (Zq (ZS (ZD (Zq ?_)))))))
 exact ZE .ret (.inl rfl) [_] t1 ⟨rfl,Zi (by simp [Zc1,Zqy hfa0 hfb ((ZkA fa fb).1 g6)])⟩
 try simp only [sQ,ne_eq] at g6
 refine Zf (ZT (Zd (Zg (xD (h:=xM (h:=?_))))))
 exact ZF (k+1) [0] so2 ⟨rfl,oz,ZmZ hord hfa0 hfb (by rw [← Bool.not_eq_false,← ZkA];omega)⟩ t6 rfl
 try simp only [sQ,ne_eq] at g5
 have ho:=Zqx (fs:=x.folders) (fun i a b h=>hord i a b oz)
 refine ZH (Z0 (ZJ (Zw (Zd (Za (Zp (Zgb rfl rfl ZwF rfl (Zh0 hJ _ _ _ _ _ _ _ _ x _ hc2 hu hf) ?_)))))))
 intro v17 B17 hle17
 rintro rfl
 replace hu:=hu.mono Zm.mono hle17
 replace hf:=hf.mono Zk.mono hle17
 replace hi:=hi.mono Zs.mono hle17
 replace hc2:=hc2.mono hle17
 replace hr6:=hr6.mono Zk.mono hle17
 refine xM (h:=Zz (d:=57) rfl (fun g7=>?_) (fun g7=>?_))
 try simp only [sQ,ne_eq] at g7
 refine xR ZwE rfl (ZmG _ _ _ _ _ _ _ _ x _ hc2 hu hf) (h:=xT (h:=xM (h:=Zz (d:=60) rfl (fun g8=>?_) (fun g8=>?_))))
 try simp only [sQ,ne_eq] at g8
 refine xR ZwD rfl (Zk4 _ _ _ _ _ _ _ _ x _ hc2 hu hi) (h:=xT (h:=xA (h:=Zh ?_)))
 exact ZE .ret (.inl rfl) [_] t1 ⟨rfl,Zi (by simp [Zc1,g1,g2,g3,ho,g7,g8];try omega)⟩
 try simp only [sQ,ne_eq] at g8
 refine xP (h:=xF (h:=xA (h:=Zh ?_)))
 exact ZE .ret (.inl rfl) [_] t1 ⟨rfl,Zi (by simp [Zc1,g1,g2,g3,ho,g7,g8];try omega)⟩
 try simp only [sQ,ne_eq] at g7
 refine xP (h:=xF (h:=xM (h:=xP (h:=xF (h:=xA (h:=Zh ?_))))))
 exact ZE .ret (.inl rfl) [_] t1 ⟨rfl,Zi (by simp [Zc1,g7])⟩

set_option maxHeartbeats 400000 in
theorem Zqd (x:DUser) (h1:x.name.length≤140737488355328) (h2:x.pass.length≤140737488355328) (left:Int) (hl0:0≤left) (hl1:left≤1048576) (B:Kn)  : Zag (pj J) 82 [.agg #[str x.name,str x.pass,.int .i64 x.quota],.int .i64 left] B (.int .i64 (szI left (ZcU x))):=by
 refine Zb 20 Tryz.func82 rfl rfl rfl (Nat.le_of_ble_eq_true rfl) ?_
 refine Za (xBx [_,_,_] (h:=fun b1=>xA (h:=ZB [_] rfl (Za (xM (h:=xW Zpq (h:=x1 lk9 0 (h:=xVs Tryz.underlying9 (h:=xU (h:=xA (h:=Ze (Za ?_))))))))))))
 refine xM (h:=ZI (h:=Zc rfl (fun g1=>?_) (fun g1=>?_)))
 try simp only [sQ,ne_eq] at g1
 refine Za (xA (h:=Zh (Zq ?_)))
 exact ZE .ret (.inl rfl) [_] t1 ⟨ZN (by first | (unfold szI ZcU;split <;> omega)),rfl,rfl⟩
 try simp only [sQ,ne_eq] at g1
 refine Zf (Zd (Za (xM (h:=xW Zpp (h:=x1 lk9 0 (h:=xVs Tryz.underlying9 (h:=xU (h:=xA (h:=Ze (Za (xM (h:=ZI (h:=?_)))))))))))))
 refine Zc rfl (fun g2=>?_) (fun g2=>?_)
 try simp only [sQ,ne_eq] at g2
 refine Za (xA (h:=Zh (Zq ?_)))
 exact ZE .ret (.inl rfl) [_] t1 ⟨ZN (by first | (unfold szI ZcU;split <;> omega)),rfl,rfl⟩
 try simp only [sQ,ne_eq] at g2
 refine Zf (Zd (Za (xM (h:=xA (h:=Zh ?_)))))
 exact ZE .ret (.inl rfl) [_] t1 ⟨ZN (by first | (unfold szI ZcU;split <;> omega)),rfl,rfl⟩

set_option maxHeartbeats 400000 in
theorem Zoe (x:DGrant) (h1:x.user.length≤140737488355328) (left:Int) (hl0:0≤left) (hl1:left≤1048576) (B:Kn)  : Zag (pj J) 176 [.agg #[str x.user,.int .i64 x.rights],.int .i64 left] B (.int .i64 (szI left (Zcg x))):=by
 refine Zb 13 Tryz.func176 rfl rfl rfl (Nat.le_of_ble_eq_true rfl) ?_
 refine Za (xBx [_,_] (h:=fun b1=>xA (h:=ZB [_] rfl (Za (xM (h:=xW Zpg (h:=x1 lk9 0 (h:=xVs Tryz.underlying9 (h:=xU (h:=xA (h:=Ze (Za ?_))))))))))))
 refine xM (h:=ZI (h:=Zc rfl (fun g1=>?_) (fun g1=>?_)))
 try simp only [sQ,ne_eq] at g1
 refine Za (xA (h:=Zh (Zq ?_)))
 exact ZE .ret (.inl rfl) [_] t1 ⟨ZN (by first | (unfold szI Zcg;split <;> omega)),rfl,rfl⟩
 try simp only [sQ,ne_eq] at g1
 refine Zf (Zd (Za (xM (h:=xA (h:=Zh ?_)))))
 exact ZE .ret (.inl rfl) [_] t1 ⟨ZN (by first | (unfold szI Zcg;split <;> omega)),rfl,rfl⟩

set_option maxHeartbeats 400000 in
theorem Zqf (x:DMail) (h1:x.text.length≤140737488355328) (left:Int) (hl0:0≤left) (hl1:left≤1048576) (B:Kn)  : Zag (pj J) 203 [.agg #[.int .i64 x.uid,.int .i64 x.flags,str x.text],.int .i64 left] B (.int .i64 (szI left (Zdd x))):=by
 refine Zb 13 Tryz.func203 rfl rfl rfl (Nat.le_of_ble_eq_true rfl) ?_
 refine Za (xBx [_,_,_] (h:=fun b1=>xA (h:=ZB [_] rfl (Za (xM (h:=xW Zpd (h:=x1 lk9 0 (h:=xVs Tryz.underlying9 (h:=xU (h:=xA (h:=Ze (Za ?_))))))))))))
 refine xM (h:=ZI (h:=Zc rfl (fun g1=>?_) (fun g1=>?_)))
 try simp only [sQ,ne_eq] at g1
 refine Za (xA (h:=Zh (Zq ?_)))
 exact ZE .ret (.inl rfl) [_] t1 ⟨ZN (by first | (unfold szI Zdd;split <;> omega)),rfl,rfl⟩
 try simp only [sQ,ne_eq] at g1
 refine Zf (Zd (Za (xM (h:=xA (h:=Zh ?_)))))
 exact ZE .ret (.inl rfl) [_] t1 ⟨ZN (by first | (unfold szI Zdd;split <;> omega)),rfl,rfl⟩

set_option maxRecDepth 4000 in
set_option maxHeartbeats 400000 in
theorem Zqe (q : Option Addr) (cp : Nat) (xs : List Str) (left : Int) (hl0 : 0 ≤ left) (hl1 : left ≤ 1048576) (B : Kn) (hx : SlB B q cp 1 ZiH xs) : Zag (pj J) 55 [.slice q xs.length cp, .int .i64 left] B (.int .i64 (szI left (szL List.length xs))) := by
  refine Zb 28 Tryz.func55 rfl rfl rfl (Nat.le_of_ble_eq_true rfl) ?_
  have hxn := hx.len
  refine Za (xA (h:=Za (xM (h:=xM (h:=xV Tryz.underlying43 (h:=xU (h:=xA (h:=Ze (Za (xM (h:=ZI (h:=Zc rfl (fun g1 => ?_) (fun g1 => ?_)))))))))))))
  try simp only [sQ, ne_eq] at g1
  refine Za (xA (h:=Zh (Zq ?_)))
  exact ZE .ret (.inl rfl) [_] ⟨rfl, trivial⟩ ⟨ZN (Zgf (by omega)).symm, rfl, rfl⟩
  try simp only [sQ, ne_eq] at g1
  refine Zf (Zd (Ze (Za (xA (h:=Zl (ZA (α := Nat × Int) [0, 11] (fun g => [(1, .int .i64 g.2), (5, .int .i64 g.1)]) [] (fun g => []) (fun g Bx => Bx = B ∧ g.1 ≤ xs.length ∧ g.2 = left - xs.length - ((xs.take g.1).map List.length).sum ∧ 0 ≤ g.2) (fun g => xs.length - g.1) (0, left - ↑xs.length) ⟨rfl, rfl, trivial⟩ rfl (⟨rfl, Nat.zero_le _, by simp, g1⟩) (fun g B1 hle1 hI => ?_)))))))
  obtain ⟨rfl, hk, hs, hl⟩ := hI
  refine ZG [(0, _), (1, _), (5, _), (11, _)] [] ⟨rfl, rfl, rfl, rfl, trivial⟩ rfl (Ze (Za (xM (h:=xM (h:=xV Tryz.underlying43 (h:=ZI (h:=Zc rfl (fun g2 => ?_) (fun g2 => ?_))))))))
  try simp only [sQ, ne_eq] at g2
  refine Zf (Zd (Ze (Zl (Za (xM (h:=xM (h:=xM (h:=?_))))))))
  obtain ⟨z, hz⟩ := ZZ (xs := xs) (i := g.1) (by first | omega | (simp; done) | (simp; omega))
  obtain ⟨bb3, oo3, rfl⟩ := hx.base hz
  obtain ⟨_, ⟨rfl, hb4⟩, hc4⟩ := hx.elem hz
  refine xIx Tryz.underlying43 sz9 (h:=y1 lk9 hc4 0 (h:=xVs Tryz.underlying9 (h:=xU (h:=xA (h:=Za (xM (h:=ZI (h:=Zc rfl (fun g3 => ?_) (fun g3 => ?_)))))))))
  try simp only [sQ, ne_eq] at g3
  refine Za (xA (h:=Zh (ZD (Zq (ZS (ZD (Zq ?_)))))))
  exact ZE .ret (.inl rfl) [_] ⟨rfl, trivial⟩ ⟨ZN (Zgd hz hs (by omega)).symm, rfl, rfl⟩
  try simp only [sQ, ne_eq] at g3
  refine Zf (ZT (Zd (Zg (xM (h:=xD (h:=xA (h:=?_)))))))
  exact ZF (g.1 + 1, g.2 - z.length) [] (by first | omega | (simp only []; omega)) ⟨rfl, by simp only []; omega, by rw [ZdU _ hz, hs]; omega, g3⟩ ⟨rfl, rfl, rfl, rfl, trivial⟩ rfl
  try simp only [sQ, ne_eq] at g2
  refine ZH (Z0 (ZJ (Zw (Zd (Za (xM (h:=xA (h:=Zh ?_))))))))
  exact ZE .ret (.inl rfl) [_] ⟨rfl, trivial⟩ ⟨ZN (Zge hs hl (by omega)).symm, rfl, rfl⟩

set_option maxRecDepth 4000 in
set_option maxHeartbeats 400000 in
theorem Zoa (q : Option Addr) (cp : Nat) (xs : List DUser) (left : Int) (hl0 : 0 ≤ left) (hl1 : left ≤ 1048576) (B : Kn) (hx : SlB B q cp 3 Zh2 xs) : Zag (pj J) 27 [.slice q xs.length cp, .int .i64 left] B (.int .i64 (szI left (szL ZcU xs))) := by
  refine Zb 27 Tryz.func27 rfl rfl rfl (Nat.le_of_ble_eq_true rfl) ?_
  have hxn := hx.len
  refine Za (xA (h:=Za (xM (h:=xM (h:=xV Tryz.underlying22 (h:=xU (h:=xA (h:=Ze (Za (xM (h:=ZI (h:=Zc rfl (fun g1 => ?_) (fun g1 => ?_)))))))))))))
  try simp only [sQ, ne_eq] at g1
  refine Za (xA (h:=Zh (Zq ?_)))
  exact ZE .ret (.inl rfl) [_] ⟨rfl, trivial⟩ ⟨ZN (Zgf (by omega)).symm, rfl, rfl⟩
  try simp only [sQ, ne_eq] at g1
  refine Zf (Zd (Ze (Za (xA (h:=Zl (ZA (α := Nat × Int) [0, 11] (fun g => [(1, .int .i64 g.2), (5, .int .i64 g.1)]) [] (fun g => []) (fun g Bx => Bx = B ∧ g.1 ≤ xs.length ∧ g.2 = left - xs.length - ((xs.take g.1).map ZcU).sum ∧ 0 ≤ g.2) (fun g => xs.length - g.1) (0, left - ↑xs.length) ⟨rfl, rfl, trivial⟩ rfl (⟨rfl, Nat.zero_le _, by simp, g1⟩) (fun g B1 hle1 hI => ?_)))))))
  obtain ⟨rfl, hk, hs, hl⟩ := hI
  refine ZG [(0, _), (1, _), (5, _), (11, _)] [] ⟨rfl, rfl, rfl, rfl, trivial⟩ rfl (Ze (Za (xM (h:=xM (h:=xV Tryz.underlying22 (h:=ZI (h:=Zc rfl (fun g2 => ?_) (fun g2 => ?_))))))))
  try simp only [sQ, ne_eq] at g2
  refine Zf (Zd (Ze (Zl (Za (xM (h:=xM (h:=?_)))))))
  obtain ⟨z, hz⟩ := ZZ (xs := xs) (i := g.1) (by first | omega | (simp; done) | (simp; omega))
  obtain ⟨bb3, oo3, rfl⟩ := hx.base hz
  obtain ⟨_, ⟨rfl, hb4, hb4b⟩, hc4⟩ := hx.elem hz
  refine xIx Tryz.underlying22 Zt3 (h:=yL [_, _, _] Zun hc4 0 (h:=xM (h:=xR ZxX rfl (Zqd z (by first | omega | (simp; done) | (simp; omega)) (by first | omega | (simp; done) | (simp; omega)) g.2 (by first | omega | (simp; done) | (simp; omega)) (by first | omega | (simp; done) | (simp; omega)) _) (h:=?_))))
  refine xA (h:=Za (xM (h:=ZI (h:=Zc rfl (fun g3 => ?_) (fun g3 => ?_)))))
  try simp only [sQ, ne_eq] at g3
  refine Za (xA (h:=Zh (ZD (Zq (ZS (ZD (Zq ?_)))))))
  exact ZE .ret (.inl rfl) [_] ⟨rfl, trivial⟩ ⟨ZN (Zgd hz hs ((Zcf hl).1 g3)).symm, rfl, rfl⟩
  try simp only [sQ, ne_eq] at g3
  refine Zf (ZT (Zd (Zg (xM (h:=xD (h:=xA (h:=?_)))))))
  exact ZF (g.1 + 1, szI g.2 (ZcU z)) [] (by first | omega | (simp only []; omega)) ⟨rfl, by simp only []; omega, by have := (Zcw hl g3).1; rw [ZdU _ hz]; simp only []; omega, g3⟩ ⟨rfl, rfl, rfl, rfl, trivial⟩ rfl
  try simp only [sQ, ne_eq] at g2
  refine ZH (Z0 (ZJ (Zw (Zd (Za (xM (h:=xA (h:=Zh ?_))))))))
  exact ZE .ret (.inl rfl) [_] ⟨rfl, trivial⟩ ⟨ZN (Zge hs hl (by omega)).symm, rfl, rfl⟩

set_option maxRecDepth 4000 in
set_option maxHeartbeats 400000 in
theorem ZmL (q : Option Addr) (cp : Nat) (xs : List DGrant) (left : Int) (hl0 : 0 ≤ left) (hl1 : left ≤ 1048576) (B : Kn) (hx : SlB B q cp 2 Zfg xs) : Zag (pj J) 138 [.slice q xs.length cp, .int .i64 left] B (.int .i64 (szI left (szL Zcg xs))) := by
  refine Zb 27 Tryz.func138 rfl rfl rfl (Nat.le_of_ble_eq_true rfl) ?_
  have hxn := hx.len
  refine Za (xA (h:=Za (xM (h:=xM (h:=xV Tryz.underlying114 (h:=xU (h:=xA (h:=Ze (Za (xM (h:=ZI (h:=Zc rfl (fun g1 => ?_) (fun g1 => ?_)))))))))))))
  try simp only [sQ, ne_eq] at g1
  refine Za (xA (h:=Zh (Zq ?_)))
  exact ZE .ret (.inl rfl) [_] ⟨rfl, trivial⟩ ⟨ZN (Zgf (by omega)).symm, rfl, rfl⟩
  try simp only [sQ, ne_eq] at g1
  refine Zf (Zd (Ze (Za (xA (h:=Zl (ZA (α := Nat × Int) [0, 11] (fun g => [(1, .int .i64 g.2), (5, .int .i64 g.1)]) [] (fun g => []) (fun g Bx => Bx = B ∧ g.1 ≤ xs.length ∧ g.2 = left - xs.length - ((xs.take g.1).map Zcg).sum ∧ 0 ≤ g.2) (fun g => xs.length - g.1) (0, left - ↑xs.length) ⟨rfl, rfl, trivial⟩ rfl (⟨rfl, Nat.zero_le _, by simp, g1⟩) (fun g B1 hle1 hI => ?_)))))))
  obtain ⟨rfl, hk, hs, hl⟩ := hI
  refine ZG [(0, _), (1, _), (5, _), (11, _)] [] ⟨rfl, rfl, rfl, rfl, trivial⟩ rfl (Ze (Za (xM (h:=xM (h:=xV Tryz.underlying114 (h:=ZI (h:=Zc rfl (fun g2 => ?_) (fun g2 => ?_))))))))
  try simp only [sQ, ne_eq] at g2
  refine Zf (Zd (Ze (Zl (Za (xM (h:=xM (h:=?_)))))))
  obtain ⟨z, hz⟩ := ZZ (xs := xs) (i := g.1) (by first | omega | (simp; done) | (simp; omega))
  obtain ⟨bb3, oo3, rfl⟩ := hx.base hz
  obtain ⟨_, ⟨rfl, hb4⟩, hc4⟩ := hx.elem hz
  refine xIx Tryz.underlying114 ZtZ (h:=yL [_, _] Zuh hc4 0 (h:=xM (h:=xR Zwn rfl (Zoe z (by first | omega | (simp; done) | (simp; omega)) g.2 (by first | omega | (simp; done) | (simp; omega)) (by first | omega | (simp; done) | (simp; omega)) _) (h:=?_))))
  refine xA (h:=Za (xM (h:=ZI (h:=Zc rfl (fun g3 => ?_) (fun g3 => ?_)))))
  try simp only [sQ, ne_eq] at g3
  refine Za (xA (h:=Zh (ZD (Zq (ZS (ZD (Zq ?_)))))))
  exact ZE .ret (.inl rfl) [_] ⟨rfl, trivial⟩ ⟨ZN (Zgd hz hs ((Zcf hl).1 g3)).symm, rfl, rfl⟩
  try simp only [sQ, ne_eq] at g3
  refine Zf (ZT (Zd (Zg (xM (h:=xD (h:=xA (h:=?_)))))))
  exact ZF (g.1 + 1, szI g.2 (Zcg z)) [] (by first | omega | (simp only []; omega)) ⟨rfl, by simp only []; omega, by have := (Zcw hl g3).1; rw [ZdU _ hz]; simp only []; omega, g3⟩ ⟨rfl, rfl, rfl, rfl, trivial⟩ rfl
  try simp only [sQ, ne_eq] at g2
  refine ZH (Z0 (ZJ (Zw (Zd (Za (xM (h:=xA (h:=Zh ?_))))))))
  exact ZE .ret (.inl rfl) [_] ⟨rfl, trivial⟩ ⟨ZN (Zge hs hl (by omega)).symm, rfl, rfl⟩

set_option maxRecDepth 4000 in
set_option maxHeartbeats 400000 in
theorem Zoc (q : Option Addr) (cp : Nat) (xs : List DMail) (left : Int) (hl0 : 0 ≤ left) (hl1 : left ≤ 1048576) (B : Kn) (hx : SlB B q cp 3 Zgy xs) : Zag (pj J) 177 [.slice q xs.length cp, .int .i64 left] B (.int .i64 (szI left (szL Zdd xs))) := by
  refine Zb 27 Tryz.func177 rfl rfl rfl (Nat.le_of_ble_eq_true rfl) ?_
  have hxn := hx.len
  refine Za (xA (h:=Za (xM (h:=xM (h:=xV Tryz.underlying115 (h:=xU (h:=xA (h:=Ze (Za (xM (h:=ZI (h:=Zc rfl (fun g1 => ?_) (fun g1 => ?_)))))))))))))
  try simp only [sQ, ne_eq] at g1
  refine Za (xA (h:=Zh (Zq ?_)))
  exact ZE .ret (.inl rfl) [_] ⟨rfl, trivial⟩ ⟨ZN (Zgf (by omega)).symm, rfl, rfl⟩
  try simp only [sQ, ne_eq] at g1
  refine Zf (Zd (Ze (Za (xA (h:=Zl (ZA (α := Nat × Int) [0, 11] (fun g => [(1, .int .i64 g.2), (5, .int .i64 g.1)]) [] (fun g => []) (fun g Bx => Bx = B ∧ g.1 ≤ xs.length ∧ g.2 = left - xs.length - ((xs.take g.1).map Zdd).sum ∧ 0 ≤ g.2) (fun g => xs.length - g.1) (0, left - ↑xs.length) ⟨rfl, rfl, trivial⟩ rfl (⟨rfl, Nat.zero_le _, by simp, g1⟩) (fun g B1 hle1 hI => ?_)))))))
  obtain ⟨rfl, hk, hs, hl⟩ := hI
  refine ZG [(0, _), (1, _), (5, _), (11, _)] [] ⟨rfl, rfl, rfl, rfl, trivial⟩ rfl (Ze (Za (xM (h:=xM (h:=xV Tryz.underlying115 (h:=ZI (h:=Zc rfl (fun g2 => ?_) (fun g2 => ?_))))))))
  try simp only [sQ, ne_eq] at g2
  refine Zf (Zd (Ze (Zl (Za (xM (h:=xM (h:=?_)))))))
  obtain ⟨z, hz⟩ := ZZ (xs := xs) (i := g.1) (by first | omega | (simp; done) | (simp; omega))
  obtain ⟨bb3, oo3, rfl⟩ := hx.base hz
  obtain ⟨_, ⟨rfl, hb4⟩, hc4⟩ := hx.elem hz
  refine xIx Tryz.underlying115 ZtX (h:=yL [_, _, _] Zuf hc4 0 (h:=xM (h:=xR Zv4 rfl (Zqf z (by first | omega | (simp; done) | (simp; omega)) g.2 (by first | omega | (simp; done) | (simp; omega)) (by first | omega | (simp; done) | (simp; omega)) _) (h:=?_))))
  refine xA (h:=Za (xM (h:=ZI (h:=Zc rfl (fun g3 => ?_) (fun g3 => ?_)))))
  try simp only [sQ, ne_eq] at g3
  refine Za (xA (h:=Zh (ZD (Zq (ZS (ZD (Zq ?_)))))))
  exact ZE .ret (.inl rfl) [_] ⟨rfl, trivial⟩ ⟨ZN (Zgd hz hs ((Zcf hl).1 g3)).symm, rfl, rfl⟩
  try simp only [sQ, ne_eq] at g3
  refine Zf (ZT (Zd (Zg (xM (h:=xD (h:=xA (h:=?_)))))))
  exact ZF (g.1 + 1, szI g.2 (Zdd z)) [] (by first | omega | (simp only []; omega)) ⟨rfl, by simp only []; omega, by have := (Zcw hl g3).1; rw [ZdU _ hz]; simp only []; omega, g3⟩ ⟨rfl, rfl, rfl, rfl, trivial⟩ rfl
  try simp only [sQ, ne_eq] at g2
  refine ZH (Z0 (ZJ (Zw (Zd (Za (xM (h:=xA (h:=Zh ?_))))))))
  exact ZE .ret (.inl rfl) [_] ⟨rfl, trivial⟩ ⟨ZN (Zge hs hl (by omega)).symm, rfl, rfl⟩

set_option maxHeartbeats 400000 in
theorem Zqg (q:Option Addr) (cp:Nat) (x:DItem) (h1:x.fr.length≤140737488355328) (h2:x.text.length≤140737488355328) (left:Int) (hl0:0≤left) (hl1:left≤1048576) (B:Kn) (hx:SlB B q cp 1 ZiH x.left):Zag (pj J) 140 [.agg #[.int .i64 x.id,str x.fr,str x.text,.slice q x.left.length cp],.int .i64 left] B (.int .i64 (szI left (Zbm x))):=by
 refine Zb 26 Tryz.func140 rfl rfl rfl (Nat.le_of_ble_eq_true rfl) ?_
 have hxn:=hx.len
 refine Za (xBx [_,_,_,_] (h:=fun b1=>xA (h:=ZB [_] rfl (Za (xM (h:=xW Zpj (h:=x1 lk9 0 (h:=xVs Tryz.underlying9 (h:=xU (h:=xA (h:=Ze (Za ?_))))))))))))
 refine xM (h:=ZI (h:=Zc rfl (fun g1=>?_) (fun g1=>?_)))
 try simp only [sQ,ne_eq] at g1
 refine Za (xA (h:=Zh (Zq ?_)))
 exact ZE .ret (.inl rfl) [_] t1 ⟨ZN (by rw [ZbP (by unfold Zbm;omega)]),rfl,rfl⟩
 try simp only [sQ,ne_eq] at g1
 refine Zf (Zd (Za (xM (h:=xW Zpi (h:=x1 lk9 0 (h:=xVs Tryz.underlying9 (h:=xU (h:=xA (h:=Ze (Za (xM (h:=ZI (h:=?_)))))))))))))
 refine Zc rfl (fun g2=>?_) (fun g2=>?_)
 try simp only [sQ,ne_eq] at g2
 refine Za (xA (h:=Zh (Zq ?_)))
 exact ZE .ret (.inl rfl) [_] t1 ⟨ZN (by rw [ZbP (by unfold Zbm;omega)]),rfl,rfl⟩
 try simp only [sQ,ne_eq] at g2
 refine Zf (Zd (Za (xW Zph (h:=x1 ZgW 0 (h:=xM (h:=?_))))))
 have hq2:=Zqe (J:=J) _ _ x.left ((left - ↑x.fr.length) - ↑x.text.length) om om _ hx
 refine xR Zx9 rfl hq2 (h:=xA (h:=Ze (Za (xM (h:=ZI (h:=Zc rfl (fun g3=>?_) (fun g3=>?_)))))))
 try simp only [sQ,ne_eq] at g3
 have g3x:=(Zcf oz).1 g3
 refine Za (xA (h:=Zh (Zq ?_)))
 exact ZE .ret (.inl rfl) [_] t1 ⟨ZN (by rw [ZbP (by unfold Zbm Zeq;omega)]),rfl,rfl⟩
 try simp only [sQ,ne_eq] at g3
 have g3x:=Zcw oz g3
 refine Zf (Zd (Za (xM (h:=xA (h:=Zh ?_)))))
 exact ZE .ret (.inl rfl) [_] t1 ⟨ZN (by (try dsimp only at *);rw [ZlZ (left:=left) (s:=Zbm x) (by unfold Zbm Zeq;omega)];unfold Zbm Zeq;omega),rfl,rfl⟩

set_option maxRecDepth 4000 in
set_option maxHeartbeats 400000 in
theorem Zod (q : Option Addr) (cp : Nat) (xs : List DItem) (left : Int) (hl0 : 0 ≤ left) (hl1 : left ≤ 1048576) (B : Kn) (hx : SlB B q cp 4 Zgz xs) : Zag (pj J) 84 [.slice q xs.length cp, .int .i64 left] B (.int .i64 (szI left (szL Zbm xs))) := by
  refine Zb 27 Tryz.func84 rfl rfl rfl (Nat.le_of_ble_eq_true rfl) ?_
  have hxn := hx.len
  refine Za (xA (h:=Za (xM (h:=xM (h:=xV Tryz.underlying24 (h:=xU (h:=xA (h:=Ze (Za (xM (h:=ZI (h:=Zc rfl (fun g1 => ?_) (fun g1 => ?_)))))))))))))
  try simp only [sQ, ne_eq] at g1
  refine Za (xA (h:=Zh (Zq ?_)))
  exact ZE .ret (.inl rfl) [_] ⟨rfl, trivial⟩ ⟨ZN (Zgf (by omega)).symm, rfl, rfl⟩
  try simp only [sQ, ne_eq] at g1
  refine Zf (Zd (Ze (Za (xA (h:=Zl (ZA (α := Nat × Int) [0, 11] (fun g => [(1, .int .i64 g.2), (5, .int .i64 g.1)]) [] (fun g => []) (fun g Bx => Bx = B ∧ g.1 ≤ xs.length ∧ g.2 = left - xs.length - ((xs.take g.1).map Zbm).sum ∧ 0 ≤ g.2) (fun g => xs.length - g.1) (0, left - ↑xs.length) ⟨rfl, rfl, trivial⟩ rfl (⟨rfl, Nat.zero_le _, by simp, g1⟩) (fun g B1 hle1 hI => ?_)))))))
  obtain ⟨rfl, hk, hs, hl⟩ := hI
  refine ZG [(0, _), (1, _), (5, _), (11, _)] [] ⟨rfl, rfl, rfl, rfl, trivial⟩ rfl (Ze (Za (xM (h:=xM (h:=xV Tryz.underlying24 (h:=ZI (h:=Zc rfl (fun g2 => ?_) (fun g2 => ?_))))))))
  try simp only [sQ, ne_eq] at g2
  refine Zf (Zd (Ze (Zl (Za (xM (h:=xM (h:=?_)))))))
  obtain ⟨z, hz⟩ := ZZ (xs := xs) (i := g.1) (by first | omega | (simp; done) | (simp; omega))
  obtain ⟨bb3, oo3, rfl⟩ := hx.base hz
  obtain ⟨_, ⟨qi4, ci4, rfl, hi4, hb4, hb4b⟩, hc4⟩ := hx.elem hz
  have hi4n := hi4.len
  refine xIx Tryz.underlying24 Zt0 (h:=yL [_, _, _, _] Zui hc4 0 (h:=xM (h:=?_)))
  have hq5 := Zqg (J := J) _ _ z (by first | omega | (simp; done) | (simp; omega)) (by first | omega | (simp; done) | (simp; omega)) g.2 (by first | omega | (simp; done) | (simp; omega)) (by first | omega | (simp; done) | (simp; omega)) _ hi4
  refine xR ZwN rfl hq5 (h:=xA (h:=Za (xM (h:=ZI (h:=Zc rfl (fun g3 => ?_) (fun g3 => ?_))))))
  try simp only [sQ, ne_eq] at g3
  refine Za (xA (h:=Zh (ZD (Zq (ZS (ZD (Zq ?_)))))))
  exact ZE .ret (.inl rfl) [_] ⟨rfl, trivial⟩ ⟨ZN (Zgd hz hs ((Zcf hl).1 g3)).symm, rfl, rfl⟩
  try simp only [sQ, ne_eq] at g3
  refine Zf (ZT (Zd (Zg (xM (h:=xD (h:=xA (h:=?_)))))))
  exact ZF (g.1 + 1, szI g.2 (Zbm z)) [] (by first | omega | (simp only []; omega)) ⟨rfl, by simp only []; omega, by have := (Zcw hl g3).1; rw [ZdU _ hz]; simp only []; omega, g3⟩ ⟨rfl, rfl, rfl, rfl, trivial⟩ rfl
  try simp only [sQ, ne_eq] at g2
  refine ZH (Z0 (ZJ (Zw (Zd (Za (xM (h:=xA (h:=Zh ?_))))))))
  exact ZE .ret (.inl rfl) [_] ⟨rfl, trivial⟩ ⟨ZN (Zge hs hl (by omega)).symm, rfl, rfl⟩

set_option maxHeartbeats 400000 in
theorem Zsi (q:Option Addr) (cp:Nat) (x:DBox) (left:Int) (hl0:0≤left) (hl1:left≤1048576) (B:Kn) (hx:SlB B q cp 3 Zgy x.mail):Zag (pj J) 139 [.agg #[.int .i64 x.next,.slice q x.mail.length cp],.int .i64 left] B (.int .i64 (szI left (szL Zdd x.mail))):=by
 refine Zb 12 Tryz.func139 rfl rfl rfl (Nat.le_of_ble_eq_true rfl) ?_
 have hxn:=hx.len
 refine Za (xBx [_,_] (h:=fun b1=>xA (h:=ZB [_] rfl (Za (xW Zpo (h:=x1 Zul 0 (h:=xM (h:=?_))))))))
 have hq2:=Zoc (J:=J) _ _ x.mail left om om _ hx
 refine xR Zwm rfl hq2 (h:=xA (h:=Ze (Za (xM (h:=ZI (h:=Zc rfl (fun g1=>?_) (fun g1=>?_)))))))
 try simp only [sQ,ne_eq] at g1
 have g1x:=(Zcf oz).1 g1
 refine Za (xA (h:=Zh (Zq ?_)))
 exact ZE .ret (.inl rfl) [_] t1 ⟨ZN (by rw [ZbP g1x]),rfl,rfl⟩
 try simp only [sQ,ne_eq] at g1
 refine Zf (Zd (Za (xM (h:=xA (h:=Zh ?_)))))
 exact ZE .ret (.inl rfl) [_] t1 ⟨rfl,rfl,rfl⟩

set_option maxHeartbeats 400000 in
theorem Zob (q:Option Addr) (cp:Nat) (x:DQueue) (left:Int) (hl0:0≤left) (hl1:left≤1048576) (B:Kn) (hx:SlB B q cp 4 Zgz x.items):Zag (pj J) 29 [.agg #[.int .i64 x.next,.slice q x.items.length cp],.int .i64 left] B (.int .i64 (szI left (szL Zbm x.items))):=by
 refine Zb 12 Tryz.func29 rfl rfl rfl (Nat.le_of_ble_eq_true rfl) ?_
 have hxn:=hx.len
 refine Za (xBx [_,_] (h:=fun b1=>xA (h:=ZB [_] rfl (Za (xW ZrS (h:=x1 Zxo 0 (h:=xM (h:=?_))))))))
 have hq2:=Zod (J:=J) _ _ x.items left om om _ hx
 refine xR ZxV rfl hq2 (h:=xA (h:=Ze (Za (xM (h:=ZI (h:=Zc rfl (fun g1=>?_) (fun g1=>?_)))))))
 try simp only [sQ,ne_eq] at g1
 have g1x:=(Zcf oz).1 g1
 refine Za (xA (h:=Zh (Zq ?_)))
 exact ZE .ret (.inl rfl) [_] t1 ⟨ZN (by rw [ZbP g1x]),rfl,rfl⟩
 try simp only [sQ,ne_eq] at g1
 refine Zf (Zd (Za (xM (h:=xA (h:=Zh ?_)))))
 exact ZE .ret (.inl rfl) [_] t1 ⟨rfl,rfl,rfl⟩

set_option maxHeartbeats 400000 in
theorem ZmM (qa qb:Option Addr) (ca cb:Nat) (x:DFolder) (h1:x.owner.length≤140737488355328) (h2:x.name.length≤140737488355328) (left:Int) (hl0:0≤left) (hl1:left≤1048576) (B:Kn) (hx:SlB B qa ca 2 Zfg x.grants) (hy:SlB B qb cb 3 Zgy x.mail):Zag (pj J) 83 [.agg #[str x.owner,str x.name,.slice qa x.grants.length ca,.int .i64 x.next,.slice qb x.mail.length cb],.int .i64 left] B (.int .i64 (szI left (Zaw x))):=by
 refine Zb 32 Tryz.func83 rfl rfl rfl (Nat.le_of_ble_eq_true rfl) ?_
 have hxn:=hx.len
 have hyn:=hy.len
 refine Za (xBx [_,_,_,_,_] (h:=fun b1=>xA (h:=ZB [_] rfl (Za (xM (h:=xW Zpn (h:=x1 lk9 0 (h:=xVs Tryz.underlying9 (h:=xU (h:=xA (h:=Ze (Za ?_))))))))))))
 refine xM (h:=ZI (h:=Zc rfl (fun g1=>?_) (fun g1=>?_)))
 try simp only [sQ,ne_eq] at g1
 refine Za (xA (h:=Zh (Zq ?_)))
 exact ZE .ret (.inl rfl) [_] t1 ⟨ZN (by rw [ZbP (by unfold Zaw;omega)]),rfl,rfl⟩
 try simp only [sQ,ne_eq] at g1
 refine Zf (Zd (Za (xM (h:=xW Zpm (h:=x1 lk9 0 (h:=xVs Tryz.underlying9 (h:=xU (h:=xA (h:=Ze (Za (xM (h:=ZI (h:=?_)))))))))))))
 refine Zc rfl (fun g2=>?_) (fun g2=>?_)
 try simp only [sQ,ne_eq] at g2
 refine Za (xA (h:=Zh (Zq ?_)))
 exact ZE .ret (.inl rfl) [_] t1 ⟨ZN (by rw [ZbP (by unfold Zaw;omega)]),rfl,rfl⟩
 try simp only [sQ,ne_eq] at g2
 refine Zf (Zd (Za (xW Zpl (h:=x1 Zum 0 (h:=xM (h:=?_))))))
 have hq2:=ZmL (J:=J) _ _ x.grants ((left - ↑x.owner.length) - ↑x.name.length) om om _ hx
 refine xR ZwP rfl hq2 (h:=xA (h:=Ze (Za (xM (h:=ZI (h:=Zc rfl (fun g3=>?_) (fun g3=>?_)))))))
 try simp only [sQ,ne_eq] at g3
 have g3x:=(Zcf oz).1 g3
 refine Za (xA (h:=Zh (Zq ?_)))
 exact ZE .ret (.inl rfl) [_] t1 ⟨ZN (by rw [ZbP (by unfold Zaw;omega)]),rfl,rfl⟩
 try simp only [sQ,ne_eq] at g3
 have g3x:=Zcw oz g3
 refine Zf (Zd (Za (xW Zpk (h:=xL [_,_] Zuk 0 (h:=xM (h:=?_))))))
 have hq3:=Zsi (J:=J) _ _ (⟨x.next,x.mail⟩:DBox) (szI ((left - ↑x.owner.length) - ↑x.name.length) (szL Zcg x.grants)) om om _ hy
 refine xR ZwO rfl hq3 (h:=xA (h:=Ze (Za (xM (h:=ZI (h:=Zc rfl (fun g4=>?_) (fun g4=>?_)))))))
 try simp only [sQ,ne_eq] at g4
 have g4x:=(Zcf oz).1 g4
 refine Za (xA (h:=Zh (Zq ?_)))
 exact ZE .ret (.inl rfl) [_] t1 ⟨ZN (by rw [ZbP (by unfold Zaw;omega)]),rfl,rfl⟩
 try simp only [sQ,ne_eq] at g4
 have g4x:=Zcw oz g4
 refine Zf (Zd (Za (xM (h:=xA (h:=Zh ?_)))))
 exact ZE .ret (.inl rfl) [_] t1 ⟨ZN (by (try dsimp only at *);rw [ZlZ (left:=left) (s:=Zaw x) (by unfold Zaw;omega)];unfold Zaw;omega),rfl,rfl⟩

set_option maxRecDepth 4000 in
set_option maxHeartbeats 400000 in
theorem ZkT (q : Option Addr) (cp : Nat) (xs : List DFolder) (left : Int) (hl0 : 0 ≤ left) (hl1 : left ≤ 1048576) (B : Kn) (hx : SlB B q cp 5 Zdt xs) : Zag (pj J) 28 [.slice q xs.length cp, .int .i64 left] B (.int .i64 (szI left (szL Zaw xs))) := by
  refine Zb 27 Tryz.func28 rfl rfl rfl (Nat.le_of_ble_eq_true rfl) ?_
  have hxn := hx.len
  refine Za (xA (h:=Za (xM (h:=xM (h:=xV Tryz.underlying23 (h:=xU (h:=xA (h:=Ze (Za (xM (h:=ZI (h:=Zc rfl (fun g1 => ?_) (fun g1 => ?_)))))))))))))
  try simp only [sQ, ne_eq] at g1
  refine Za (xA (h:=Zh (Zq ?_)))
  exact ZE .ret (.inl rfl) [_] ⟨rfl, trivial⟩ ⟨ZN (Zgf (by omega)).symm, rfl, rfl⟩
  try simp only [sQ, ne_eq] at g1
  refine Zf (Zd (Ze (Za (xA (h:=Zl (ZA (α := Nat × Int) [0, 11] (fun g => [(1, .int .i64 g.2), (5, .int .i64 g.1)]) [] (fun g => []) (fun g Bx => Bx = B ∧ g.1 ≤ xs.length ∧ g.2 = left - xs.length - ((xs.take g.1).map Zaw).sum ∧ 0 ≤ g.2) (fun g => xs.length - g.1) (0, left - ↑xs.length) ⟨rfl, rfl, trivial⟩ rfl (⟨rfl, Nat.zero_le _, by simp, g1⟩) (fun g B1 hle1 hI => ?_)))))))
  obtain ⟨rfl, hk, hs, hl⟩ := hI
  refine ZG [(0, _), (1, _), (5, _), (11, _)] [] ⟨rfl, rfl, rfl, rfl, trivial⟩ rfl (Ze (Za (xM (h:=xM (h:=xV Tryz.underlying23 (h:=ZI (h:=Zc rfl (fun g2 => ?_) (fun g2 => ?_))))))))
  try simp only [sQ, ne_eq] at g2
  refine Zf (Zd (Ze (Zl (Za (xM (h:=xM (h:=?_)))))))
  obtain ⟨z, hz⟩ := ZZ (xs := xs) (i := g.1) (by first | omega | (simp; done) | (simp; omega))
  obtain ⟨bb3, oo3, rfl⟩ := hx.base hz
  obtain ⟨_, ⟨qg4, cg4, qm4, cm4, rfl, hg4, hm4, hb4, hb4b⟩, hc4⟩ := hx.elem hz
  have hg4n := hg4.len
  have hm4n := hm4.len
  refine xIx Tryz.underlying23 Zt2 (h:=yL [_, _, _, _, _] Zuj hc4 0 (h:=xM (h:=?_)))
  have hq5 := ZmM (J := J) _ _ _ _ z (by first | omega | (simp; done) | (simp; omega)) (by first | omega | (simp; done) | (simp; omega)) g.2 (by first | omega | (simp; done) | (simp; omega)) (by first | omega | (simp; done) | (simp; omega)) _ hg4 hm4
  refine xR ZxW rfl hq5 (h:=xA (h:=Za (xM (h:=ZI (h:=Zc rfl (fun g3 => ?_) (fun g3 => ?_))))))
  try simp only [sQ, ne_eq] at g3
  refine Za (xA (h:=Zh (ZD (Zq (ZS (ZD (Zq ?_)))))))
  exact ZE .ret (.inl rfl) [_] ⟨rfl, trivial⟩ ⟨ZN (Zgd hz hs ((Zcf hl).1 g3)).symm, rfl, rfl⟩
  try simp only [sQ, ne_eq] at g3
  refine Zf (ZT (Zd (Zg (xM (h:=xD (h:=xA (h:=?_)))))))
  exact ZF (g.1 + 1, szI g.2 (Zaw z)) [] (by first | omega | (simp only []; omega)) ⟨rfl, by simp only []; omega, by have := (Zcw hl g3).1; rw [ZdU _ hz]; simp only []; omega, g3⟩ ⟨rfl, rfl, rfl, rfl, trivial⟩ rfl
  try simp only [sQ, ne_eq] at g2
  refine ZH (Z0 (ZJ (Zw (Zd (Za (xM (h:=xA (h:=Zh ?_))))))))
  exact ZE .ret (.inl rfl) [_] ⟨rfl, trivial⟩ ⟨ZN (Zge hs hl (by omega)).symm, rfl, rfl⟩

set_option maxHeartbeats 400000 in
theorem Zqh (q1 q2 q3:Option Addr) (c1 c2 c3:Nat) (x:DHost) (hd:x.domain.length≤140737488355328) (left:Int) (hl0:0≤left) (hl1:left≤1048576) (B:Kn) (hu:SlB B q1 c1 3 Zh2 x.users) (hf:SlB B q2 c2 5 Zdt x.folders) (hi:SlB B q3 c3 4 Zgz x.queue.items):Zag (pj J) 8 [.agg #[str x.domain,.slice q1 x.users.length c1,.slice q2 x.folders.length c2,.int .i64 x.queue.next,.slice q3 x.queue.items.length c3],.int .i64 left] B (.int .i64 (szI left (ZcV x))):=by
 refine Zb 31 Tryz.func8 rfl rfl rfl (Nat.le_of_ble_eq_true rfl) ?_
 have hun:=hu.len
 have hfn:=hf.len
 have hin:=hi.len
 refine Za (xBx [_,_,_,_,_] (h:=fun b1=>xA (h:=ZB [_] rfl (Za (xM (h:=xW ZrR (h:=x1 lk9 0 (h:=xVs Tryz.underlying9 (h:=xU (h:=xA (h:=Ze (Za ?_))))))))))))
 refine xM (h:=ZI (h:=Zc rfl (fun g1=>?_) (fun g1=>?_)))
 try simp only [sQ,ne_eq] at g1
 refine Za (xA (h:=Zh (Zq ?_)))
 exact ZE .ret (.inl rfl) [_] t1 ⟨ZN (by rw [ZbP (by unfold ZcV;omega)]),rfl,rfl⟩
 try simp only [sQ,ne_eq] at g1
 refine Zf (Zd (Za (xW ZrQ (h:=x1 Zxq 0 (h:=xM (h:=?_))))))
 have hq2:=Zoa (J:=J) _ _ x.users (left - ↑x.domain.length) om om _ hu
 refine xR Zyr rfl hq2 (h:=xA (h:=Ze (Za (xM (h:=ZI (h:=Zc rfl (fun g2=>?_) (fun g2=>?_)))))))
 try simp only [sQ,ne_eq] at g2
 have g2x:=(Zcf oz).1 g2
 refine Za (xA (h:=Zh (Zq ?_)))
 exact ZE .ret (.inl rfl) [_] t1 ⟨ZN (by rw [ZbP (by unfold ZcV;omega)]),rfl,rfl⟩
 try simp only [sQ,ne_eq] at g2
 have g2x:=Zcw oz g2
 refine Zf (Zd (Za (xW ZrP (h:=x1 Zxp 0 (h:=xM (h:=?_))))))
 have hq3:=ZkT (J:=J) _ _ x.folders (szI (left - ↑x.domain.length) (szL ZcU x.users)) om om _ hf
 refine xR Zyq rfl hq3 (h:=xA (h:=Ze (Za (xM (h:=ZI (h:=Zc rfl (fun g3=>?_) (fun g3=>?_)))))))
 try simp only [sQ,ne_eq] at g3
 have g3x:=(Zcf oz).1 g3
 refine Za (xA (h:=Zh (Zq ?_)))
 exact ZE .ret (.inl rfl) [_] t1 ⟨ZN (by rw [ZbP (by unfold ZcV;omega)]),rfl,rfl⟩
 try simp only [sQ,ne_eq] at g3
 have g3x:=Zcw oz g3
 refine Zf (Zd (Za (xW ZrO (h:=xL [_,_] Zxn 0 (h:=xM (h:=?_))))))
 have hq4:=Zob (J:=J) _ _ (⟨x.queue.next,x.queue.items⟩:DQueue) (szI (szI (left - ↑x.domain.length) (szL ZcU x.users)) (szL Zaw x.folders)) om om _ hi
 refine xR Zyp rfl hq4 (h:=xA (h:=Ze (Za (xM (h:=ZI (h:=Zc rfl (fun g4=>?_) (fun g4=>?_)))))))
 try simp only [sQ,ne_eq] at g4
 have g4x:=(Zcf oz).1 g4
 refine Za (xA (h:=Zh (Zq ?_)))
 exact ZE .ret (.inl rfl) [_] t1 ⟨ZN (by rw [ZbP (by unfold ZcV;omega)]),rfl,rfl⟩
 try simp only [sQ,ne_eq] at g4
 have g4x:=Zcw oz g4
 refine Zf (Zd (Za (xM (h:=xA (h:=Zh ?_)))))
 exact ZE .ret (.inl rfl) [_] t1 ⟨ZN (by (try dsimp only at *);rw [ZlZ (left:=left) (s:=ZcV x) (by unfold ZcV;omega)];unfold ZcV;omega),rfl,rfl⟩

set_option maxHeartbeats 400000 in
theorem Zp8 (x:DUser)  (B:Kn):Zag (pj J) 95 [.agg #[str x.name,str x.pass,.int .i64 x.quota]] B (.agg #[str x.name,str x.pass,.int .i64 x.quota]):=by
 refine Zb 14 Tryz.func95 rfl rfl rfl (Nat.le_of_ble_eq_true rfl) ?_
 refine Za (xBx [_,_,_] (h:=fun b1=>xAl [_,_,_] ZdP (h:=fun b2=>ZB [_,_] rfl (Za (xAl [_,_,_] ZdP (h:=fun b3=>ZB [_,_,_] rfl (Za (xW Zpq (h:=x1 lk9 0 (h:=xW Za5 (h:=xS [_] 2 [_,_,_] sz9 (h:=ZB [_,_,_] rfl ?_))))))))))))
 refine Za (xW Zpp (h:=x1 lk9 0 (h:=xW Zfx (h:=xS [_] 2 [_,_,_] sz9 (h:=ZB [_,_,_] rfl (Za (xW ZsX (h:=x1 lk3 0 (h:=xW Zc5 (h:=xS [_] 2 [_,_,_] sz3 (h:=ZB [_,_,_] rfl (Za ?_))))))))))))
 refine xL [_,_,_] Ze2 2 (h:=xS [_,_,_] 1 [_,_,_] Zbe (h:=ZB [_,_,_] rfl (Zh ?_)))
 exact ZE .ret (.inl rfl) [_] ⟨⟨_,rfl,.inr ⟨[_,_,_],Ze2,ZbH 1 rfl rfl rfl,rfl⟩⟩,trivial⟩ ⟨rfl,rfl,rfl⟩

set_option maxHeartbeats 400000 in
theorem Zn6 (x:DGrant)  (B:Kn):Zag (pj J) 180 [.agg #[str x.user,.int .i64 x.rights]] B (.agg #[str x.user,.int .i64 x.rights]):=by
 refine Zb 11 Tryz.func180 rfl rfl rfl (Nat.le_of_ble_eq_true rfl) ?_
 refine Za (xBx [_,_] (h:=fun b1=>xAl [_,_] ZmB (h:=fun b2=>ZB [_,_] rfl (Za (xAl [_,_] ZmB (h:=fun b3=>ZB [_,_,_] rfl (Za (xW Zpg (h:=x1 lk9 0 (h:=xW ZcC (h:=xS [_] 2 [_,_] sz9 (h:=ZB [_,_,_] rfl ?_))))))))))))
 refine Za (xW ZsU (h:=x1 lk3 0 (h:=xW Zd4 (h:=xS [_] 2 [_,_] sz3 (h:=ZB [_,_,_] rfl (Za (xL [_,_] ZoO 2 (h:=xS [_,_] 1 [_,_] Zer (h:=ZB [_,_,_] rfl (Zh ?_))))))))))
 exact ZE .ret (.inl rfl) [_] ⟨⟨_,rfl,.inr ⟨[_,_],ZoO,ZbH 1 rfl rfl rfl,rfl⟩⟩,trivial⟩ ⟨rfl,rfl,rfl⟩

set_option maxHeartbeats 400000 in
theorem Zqa (x:DMail)  (B:Kn):Zag (pj J) 204 [.agg #[.int .i64 x.uid,.int .i64 x.flags,str x.text]] B (.agg #[.int .i64 x.uid,.int .i64 x.flags,str x.text]):=by
 refine Zb 14 Tryz.func204 rfl rfl rfl (Nat.le_of_ble_eq_true rfl) ?_
 refine Za (xBx [_,_,_] (h:=fun b1=>xAl [_,_,_] Zga (h:=fun b2=>ZB [_,_] rfl (Za (xAl [_,_,_] Zga (h:=fun b3=>ZB [_,_,_] rfl (Za (xW ZsS (h:=x1 lk3 0 (h:=xW ZcB (h:=xS [_] 2 [_,_,_] sz3 (h:=ZB [_,_,_] rfl ?_))))))))))))
 refine Za (xW ZsR (h:=x1 lk3 0 (h:=xW Zfw (h:=xS [_] 2 [_,_,_] sz3 (h:=ZB [_,_,_] rfl (Za (xW Zpd (h:=x1 lk9 0 (h:=xW Zd3 (h:=xS [_] 2 [_,_,_] sz9 (h:=ZB [_,_,_] rfl (Za ?_))))))))))))
 refine xL [_,_,_] Zgl 2 (h:=xS [_,_,_] 1 [_,_,_] Zcx (h:=ZB [_,_,_] rfl (Zh ?_)))
 exact ZE .ret (.inl rfl) [_] ⟨⟨_,rfl,.inr ⟨[_,_,_],Zgl,ZbH 1 rfl rfl rfl,rfl⟩⟩,trivial⟩ ⟨rfl,rfl,rfl⟩

set_option maxHeartbeats 400000 in
theorem Zp9 (q:Option Addr) (cp:Nat) (xs:List Str) (hx20:Zeq xs≤1048576) (B:Kn) (hx:SlK B q cp 1 Zbv xs):Zx (pj J) 59 [.slice q xs.length cp] B [] (fun v B' Ls=>∃q c l,v = .slice q xs.length c∧B'=B∧Ls=[l]∧ZW Kn.none l q c 9 1 Zbv xs):=by
 refine Zb 22 Tryz.func59 rfl rfl rfl (Nat.le_of_ble_eq_true rfl) ?_
 have hxn:=hx.len
 have hx21:=Zsl hx20
 refine Za (xA (h:=Za (xM (h:=xV Tryz.underlying43 (h:=Zp (Za2 (m:=xs.length) (c:=xs.length) (by_:=16) [.string ⟨#[]⟩] rfl rfl ZrT zo9 rfl rfl ⟨_,_,rfl,by first | omega | (simp;done) | (simp;omega)⟩ ⟨_,_,rfl,by first | omega | (simp;done) | (simp;omega)⟩ om om (fun b1=>?_)))))))
 have hv1:=ZW.zeros (B:=Kn.none) (b:=b1) (T:=9) (R:=Zbv) (d:=([]:Str)) (m:=xs.length) (c:=xs.length) (zs:=[.string ⟨#[]⟩]) rfl (⟨rfl,by simp⟩) om
 refine xA (h:=ZB [_] rfl (Ze (Za (xA (h:=Zl (ZA (α:=Nat × Cells) [0,2] (fun g=>[(3,.slice (some ⟨b1,0,none⟩) xs.length xs.length),(4,.int .i64 g.1)]) [0] (fun g=>[g.2]) (fun g Bx=>Bx=B∧g.1≤xs.length∧ZW Kn.none g.2 (some ⟨b1,0,none⟩) xs.length 9 1 Zbv (fill xs ([]:Str) g.1)) (fun g=>xs.length - g.1) (0,_) t2 rfl (⟨rfl,Nat.zero_le _,by rw [ZdI];exact hv1⟩) (fun g B2 hle2 hI=>?_)))))))
 obtain ⟨rfl,hk,hvl⟩:=hI
 have hfl:=ZeP (d:=([]:Str)) hk
 refine ZG [(0,_),(2,_),(3,_),(4,_)] [_] t4 rfl (Ze (Za (xM (h:=xM (h:=xV Tryz.underlying43 (h:=ZI (h:=Zc rfl (fun g1=>?_) (fun g1=>?_))))))))
 try simp only [sQ,ne_eq] at g1
 refine Zf (Zd (Ze (Zl (Zg (xM (h:=xM (h:=xM (h:=xM (h:=?_)))))))))
 obtain ⟨z,hz⟩:=ZZ (xs:=xs) (i:=g.1) om
 obtain ⟨bb4,oo4,rfl⟩:=hx.base hz
 obtain ⟨_,⟨rfl,hb5⟩,hc5⟩:=hx.elem hz
 refine xIx Tryz.underlying43 sz9 (h:=y1 lk9 hc5 0 (h:=xIp rfl Tryz.underlying43 sz9 (h:=Zp (Zp1 (R:=Zbv) (k:=g.1) (z) 0 rfl hvl rfl om rfl rfl sz9 rfl rfl rfl rfl rfl (⟨rfl,by first | assumption | omega | (simp;omega)⟩) (fun l7 hv7=>?_)))))
 refine ZT (Zd (Zg (xM (h:=xD (h:=xA (h:=?_))))))
 exact ZF (g.1+1,l7) [0] so2 ⟨rfl,so,by rw [← ZdJ hz];exact hv7⟩ t4 rfl
 try simp only [sQ,ne_eq] at g1
 refine ZH (Z0 (ZJ (Zw (Zd (Za (xM (h:=xA (h:=Zh ?_))))))))
 exact ZaW .ret (.inl rfl) [_] [0] rfl t1 ⟨_,_,_,rfl,rfl,rfl,by have e:=hvl;rw [ZeQ oz] at e;exact e⟩

set_option maxHeartbeats 400000 in
theorem Zn2 (q:Option Addr) (cp:Nat) (xs:List DUser) (hx20:szL ZcU xs≤1048576) (B:Kn) (hx:SlK B q cp 3 Zm xs):Zx (pj J) 37 [.slice q xs.length cp] B [] (fun v B' Ls=>∃q c l,v = .slice q xs.length c∧B'=B∧Ls=[l]∧ZW Kn.none l q c 123 3 Zm xs):=by
 refine Zb 23 Tryz.func37 rfl rfl rfl (Nat.le_of_ble_eq_true rfl) ?_
 have hxn:=hx.len
 have hx21:=(Zav hx20).1
 refine Za (xA (h:=Za (xM (h:=xV Tryz.underlying22 (h:=Zp (Za2 (m:=xs.length) (c:=xs.length) (by_:=40) [.string ⟨#[]⟩,.string ⟨#[]⟩,.int .i64 0] rfl rfl Znr ZdP rfl rfl ⟨_,_,rfl,by first | omega | (simp;done) | (simp;omega)⟩ ⟨_,_,rfl,by first | omega | (simp;done) | (simp;omega)⟩ om om (fun b1=>?_)))))))
 have hv1:=ZW.zeros (B:=Kn.none) (b:=b1) (T:=123) (R:=Zm) (d:=(⟨[],[],0⟩:DUser)) (m:=xs.length) (c:=xs.length) (zs:=[.string ⟨#[]⟩,.string ⟨#[]⟩,.int .i64 0]) rfl (⟨rfl,by simp,by simp⟩) om
 refine xA (h:=ZB [_] rfl (Ze (Za (xA (h:=Zl (ZA (α:=Nat × Cells) [0,2] (fun g=>[(3,.slice (some ⟨b1,0,none⟩) xs.length xs.length),(4,.int .i64 g.1)]) [0] (fun g=>[g.2]) (fun g Bx=>Bx=B∧g.1≤xs.length∧ZW Kn.none g.2 (some ⟨b1,0,none⟩) xs.length 123 3 Zm (fill xs (⟨[],[],0⟩:DUser) g.1)) (fun g=>xs.length - g.1) (0,_) t2 rfl (⟨rfl,Nat.zero_le _,by rw [ZdI];exact hv1⟩) (fun g B2 hle2 hI=>?_)))))))
 obtain ⟨rfl,hk,hvl⟩:=hI
 have hfl:=ZeP (d:=(⟨[],[],0⟩:DUser)) hk
 refine ZG [(0,_),(2,_),(3,_),(4,_)] [_] t4 rfl (Ze (Za (xM (h:=xM (h:=xV Tryz.underlying22 (h:=ZI (h:=Zc rfl (fun g1=>?_) (fun g1=>?_))))))))
 try simp only [sQ,ne_eq] at g1
 refine Zf (Zd (Ze (Zl (Zg (xM (h:=xM (h:=xM (h:=xM (h:=?_)))))))))
 obtain ⟨z,hz⟩:=ZZ (xs:=xs) (i:=g.1) om
 obtain ⟨bb4,oo4,rfl⟩:=hx.base hz
 obtain ⟨_,⟨rfl,hb5,hb5b⟩,hc5⟩:=hx.elem hz
 refine xIx Tryz.underlying22 Zt3 (h:=yL [_,_,_] Zun hc5 0 (h:=xR ZxO rfl (Zp8 z  _) (h:=xIp rfl Tryz.underlying30 Zbe (h:=Zp (Zp1 (R:=Zm) (k:=g.1) (z) 0 rfl hvl rfl om rfl rfl Zbe rfl rfl rfl rfl rfl (⟨rfl,by first | assumption | omega | (simp;done) | (simp;omega),by first | assumption | omega | (simp;done) | (simp;omega)⟩) (fun l8 hv8=>?_))))))
 refine ZT (Zd (Zg (xM (h:=xD (h:=xA (h:=?_))))))
 exact ZF (g.1+1,l8) [0] so2 ⟨rfl,so,by rw [← ZdJ hz];exact hv8⟩ t4 rfl
 try simp only [sQ,ne_eq] at g1
 refine ZH (Z0 (ZJ (Zw (Zd (Za (xM (h:=xA (h:=Zh ?_))))))))
 exact ZaW .ret (.inl rfl) [_] [0] rfl t1 ⟨_,_,_,rfl,rfl,rfl,by have e:=hvl;rw [ZeQ oz] at e;exact e⟩

set_option maxHeartbeats 400000 in
theorem ZmI (q:Option Addr) (cp:Nat) (xs:List DGrant) (hx20:szL Zcg xs≤1048576) (B:Kn) (hx:SlK B q cp 2 Z5 xs):Zx (pj J) 146 [.slice q xs.length cp] B [] (fun v B' Ls=>∃q c l,v = .slice q xs.length c∧B'=B∧Ls=[l]∧ZW Kn.none l q c 133 2 Z5 xs):=by
 refine Zb 23 Tryz.func146 rfl rfl rfl (Nat.le_of_ble_eq_true rfl) ?_
 have hxn:=hx.len
 have hx21:=(Zav hx20).1
 refine Za (xA (h:=Za (xM (h:=xV Tryz.underlying114 (h:=Zp (Za2 (m:=xs.length) (c:=xs.length) (by_:=24) [.string ⟨#[]⟩,.int .i64 0] rfl rfl ZvQ ZmB rfl rfl ⟨_,_,rfl,by first | omega | (simp;done) | (simp;omega)⟩ ⟨_,_,rfl,by first | omega | (simp;done) | (simp;omega)⟩ om om (fun b1=>?_)))))))
 have hv1:=ZW.zeros (B:=Kn.none) (b:=b1) (T:=133) (R:=Z5) (d:=(⟨[],0⟩:DGrant)) (m:=xs.length) (c:=xs.length) (zs:=[.string ⟨#[]⟩,.int .i64 0]) rfl (⟨rfl,by simp⟩) om
 refine xA (h:=ZB [_] rfl (Ze (Za (xA (h:=Zl (ZA (α:=Nat × Cells) [0,2] (fun g=>[(3,.slice (some ⟨b1,0,none⟩) xs.length xs.length),(4,.int .i64 g.1)]) [0] (fun g=>[g.2]) (fun g Bx=>Bx=B∧g.1≤xs.length∧ZW Kn.none g.2 (some ⟨b1,0,none⟩) xs.length 133 2 Z5 (fill xs (⟨[],0⟩:DGrant) g.1)) (fun g=>xs.length - g.1) (0,_) t2 rfl (⟨rfl,Nat.zero_le _,by rw [ZdI];exact hv1⟩) (fun g B2 hle2 hI=>?_)))))))
 obtain ⟨rfl,hk,hvl⟩:=hI
 have hfl:=ZeP (d:=(⟨[],0⟩:DGrant)) hk
 refine ZG [(0,_),(2,_),(3,_),(4,_)] [_] t4 rfl (Ze (Za (xM (h:=xM (h:=xV Tryz.underlying114 (h:=ZI (h:=Zc rfl (fun g1=>?_) (fun g1=>?_))))))))
 try simp only [sQ,ne_eq] at g1
 refine Zf (Zd (Ze (Zl (Zg (xM (h:=xM (h:=xM (h:=xM (h:=?_)))))))))
 obtain ⟨z,hz⟩:=ZZ (xs:=xs) (i:=g.1) om
 obtain ⟨bb4,oo4,rfl⟩:=hx.base hz
 obtain ⟨_,⟨rfl,hb5⟩,hc5⟩:=hx.elem hz
 refine xIx Tryz.underlying114 ZtZ (h:=yL [_,_] Zuh hc5 0 (h:=xR Zwk rfl (Zn6 z  _) (h:=xIp rfl Tryz.underlying68 Zer (h:=Zp (Zp1 (R:=Z5) (k:=g.1) (z) 0 rfl hvl rfl om rfl rfl Zer rfl rfl rfl rfl rfl (⟨rfl,by first | assumption | omega | (simp;done) | (simp;omega)⟩) (fun l8 hv8=>?_))))))
 refine ZT (Zd (Zg (xM (h:=xD (h:=xA (h:=?_))))))
 exact ZF (g.1+1,l8) [0] so2 ⟨rfl,so,by rw [← ZdJ hz];exact hv8⟩ t4 rfl
 try simp only [sQ,ne_eq] at g1
 refine ZH (Z0 (ZJ (Zw (Zd (Za (xM (h:=xA (h:=Zh ?_))))))))
 exact ZaW .ret (.inl rfl) [_] [0] rfl t1 ⟨_,_,_,rfl,rfl,rfl,by have e:=hvl;rw [ZeQ oz] at e;exact e⟩

set_option maxHeartbeats 400000 in
theorem Zn4 (q:Option Addr) (cp:Nat) (xs:List DMail) (hx20:szL Zdd xs≤1048576) (B:Kn) (hx:SlK B q cp 3 Z3 xs):Zx (pj J) 181 [.slice q xs.length cp] B [] (fun v B' Ls=>∃q c l,v = .slice q xs.length c∧B'=B∧Ls=[l]∧ZW Kn.none l q c 205 3 Z3 xs):=by
 refine Zb 23 Tryz.func181 rfl rfl rfl (Nat.le_of_ble_eq_true rfl) ?_
 have hxn:=hx.len
 have hx21:=(Zav hx20).1
 refine Za (xA (h:=Za (xM (h:=xV Tryz.underlying115 (h:=Zp (Za2 (m:=xs.length) (c:=xs.length) (by_:=32) [.int .i64 0,.int .i64 0,.string ⟨#[]⟩] rfl rfl Ztr Zga rfl rfl ⟨_,_,rfl,by first | omega | (simp;done) | (simp;omega)⟩ ⟨_,_,rfl,by first | omega | (simp;done) | (simp;omega)⟩ om om (fun b1=>?_)))))))
 have hv1:=ZW.zeros (B:=Kn.none) (b:=b1) (T:=205) (R:=Z3) (d:=(⟨0,0,[]⟩:DMail)) (m:=xs.length) (c:=xs.length) (zs:=[.int .i64 0,.int .i64 0,.string ⟨#[]⟩]) rfl (⟨rfl,by simp⟩) om
 refine xA (h:=ZB [_] rfl (Ze (Za (xA (h:=Zl (ZA (α:=Nat × Cells) [0,2] (fun g=>[(3,.slice (some ⟨b1,0,none⟩) xs.length xs.length),(4,.int .i64 g.1)]) [0] (fun g=>[g.2]) (fun g Bx=>Bx=B∧g.1≤xs.length∧ZW Kn.none g.2 (some ⟨b1,0,none⟩) xs.length 205 3 Z3 (fill xs (⟨0,0,[]⟩:DMail) g.1)) (fun g=>xs.length - g.1) (0,_) t2 rfl (⟨rfl,Nat.zero_le _,by rw [ZdI];exact hv1⟩) (fun g B2 hle2 hI=>?_)))))))
 obtain ⟨rfl,hk,hvl⟩:=hI
 have hfl:=ZeP (d:=(⟨0,0,[]⟩:DMail)) hk
 refine ZG [(0,_),(2,_),(3,_),(4,_)] [_] t4 rfl (Ze (Za (xM (h:=xM (h:=xV Tryz.underlying115 (h:=ZI (h:=Zc rfl (fun g1=>?_) (fun g1=>?_))))))))
 try simp only [sQ,ne_eq] at g1
 refine Zf (Zd (Ze (Zl (Zg (xM (h:=xM (h:=xM (h:=xM (h:=?_)))))))))
 obtain ⟨z,hz⟩:=ZZ (xs:=xs) (i:=g.1) om
 obtain ⟨bb4,oo4,rfl⟩:=hx.base hz
 obtain ⟨_,⟨rfl,hb5⟩,hc5⟩:=hx.elem hz
 refine xIx Tryz.underlying115 ZtX (h:=yL [_,_,_] Zuf hc5 0 (h:=xR Zv3 rfl (Zqa z  _) (h:=xIp rfl Tryz.underlying71 Zcx (h:=Zp (Zp1 (R:=Z3) (k:=g.1) (z) 0 rfl hvl rfl om rfl rfl Zcx rfl rfl rfl rfl rfl (⟨rfl,by first | assumption | omega | (simp;done) | (simp;omega)⟩) (fun l8 hv8=>?_))))))
 refine ZT (Zd (Zg (xM (h:=xD (h:=xA (h:=?_))))))
 exact ZF (g.1+1,l8) [0] so2 ⟨rfl,so,by rw [← ZdJ hz];exact hv8⟩ t4 rfl
 try simp only [sQ,ne_eq] at g1
 refine ZH (Z0 (ZJ (Zw (Zd (Za (xM (h:=xA (h:=Zh ?_))))))))
 exact ZaW .ret (.inl rfl) [_] [0] rfl t1 ⟨_,_,_,rfl,rfl,rfl,by have e:=hvl;rw [ZeQ oz] at e;exact e⟩

set_option maxHeartbeats 400000 in
theorem Zqb (q:Option Addr) (cp:Nat) (x:DItem) (B:Kn) (hx:SlK B q cp 1 Zbv x.left) (hl:Zeq x.left≤1048576):Zx (pj J) 148 [.agg #[.int .i64 x.id,str x.fr,str x.text,.slice q x.left.length cp]] B [] (fun v B' Ls=>∃q0 c0 l0,v = .agg #[.int .i64 x.id,str x.fr,str x.text,.slice q0 x.left.length c0]∧B'=B∧Ls=[l0]∧ZW Kn.none l0 q0 c0 9 1 Zbv x.left):=by
 refine Zb 18 Tryz.func148 rfl rfl rfl (Nat.le_of_ble_eq_true rfl) ?_
 refine Za (xBx [_,_,_,_] (h:=fun b1=>xAl [_,_,_,_] Zdo (h:=fun b2=>ZB [_,_] rfl (Za (xAl [_,_,_,_] Zdo (h:=fun b3=>ZB [_,_,_] rfl (Za (xW ZsV (h:=x1 lk3 0 (h:=xW Zc4 (h:=xS [_] 2 [_,_,_,_] sz3 (h:=ZB [_,_,_] rfl ?_))))))))))))
 refine Za (xW Zpj (h:=x1 lk9 0 (h:=xW Zd6 (h:=xS [_] 2 [_,_,_,_] sz9 (h:=ZB [_,_,_] rfl (Za (xW Zpi (h:=x1 lk9 0 (h:=xW Zd5 (h:=xS [_] 2 [_,_,_,_] sz9 (h:=ZB [_,_,_] rfl (Za ?_))))))))))))
 refine xW Zph (h:=x1 ZgW 0 (h:=Zp (ZX rfl rfl Zx6 rfl (Zp9 _ _ x.left om2 _ hx) ?_)))
 rintro _ B4 _ hle4 ⟨q4,c4,l4,rfl,rfl,rfl,hv4⟩
 refine xW ZaE (h:=xS [_] 2 [_,_,_,_] Zto (h:=ZB [_,_,_,_] rfl (Za (xL [_,_,_,_] Zdq 2 (h:=xS [_,_,_,_] 1 [_,_,_,_] Za0 (h:=ZB [_,_,_,_] rfl (Zh ?_)))))))
 exact ZaW .ret (.inl rfl) [_] [3] rfl ⟨⟨_,rfl,.inr ⟨[_,_,_,_],Zdq,ZbH 1 rfl rfl rfl,rfl⟩⟩,trivial⟩ ⟨_,_,_,rfl,rfl,rfl,hv4⟩

set_option maxHeartbeats 400000 in
theorem Zn5 (q:Option Addr) (cp:Nat) (xs:List DItem) (hx20:szL Zbm xs≤1048576) (B:Kn) (hx:SlK B q cp 4 Zs xs):Zx (pj J) 97 [.slice q xs.length cp] B [] (fun v B' Ls=>∃q c l,v = .slice q xs.length c∧B'=B∧Ls=[l]∧ZaP l q c 126 4 (ZaQ 9) xs):=by
 refine Zb 23 Tryz.func97 rfl rfl rfl (Nat.le_of_ble_eq_true rfl) ?_
 have hxn:=hx.len
 have hx21:=(Zav hx20).1
 refine Za (xA (h:=Za (xM (h:=xV Tryz.underlying24 (h:=Zp (Za2 (m:=xs.length) (c:=xs.length) (by_:=64) [.int .i64 0,.string ⟨#[]⟩,.string ⟨#[]⟩,.slice none 0 0] rfl rfl Zts Zdo rfl rfl ⟨_,_,rfl,by first | omega | (simp;done) | (simp;omega)⟩ ⟨_,_,rfl,by first | omega | (simp;done) | (simp;omega)⟩ om om (fun b1=>?_)))))))
 have hd1:=ZaP.zeros (b:=b1) (T:=126) (R:=ZaQ 9) (d:=(⟨0,[],[],[]⟩:DItem)) (m:=xs.length) (c:=xs.length) (zs:=[.int .i64 0,.string ⟨#[]⟩,.string ⟨#[]⟩,.slice none 0 0]) rfl (⟨_,_,rfl,ZW.nil,by simp,by simp,by simp⟩) om
 refine xA (h:=ZB [_] rfl (Ze (Za (xA (h:=Zl (ZA (α:=Nat × Cells) [0,2] (fun g=>[(3,.slice (some ⟨b1,0,none⟩) xs.length xs.length),(4,.int .i64 g.1)]) [0] (fun g=>[g.2]) (fun g Bx=>Bx=B∧g.1≤xs.length∧ZaP g.2 (some ⟨b1,0,none⟩) xs.length 126 4 (ZaQ 9) (fill xs (⟨0,[],[],[]⟩:DItem) g.1)) (fun g=>xs.length - g.1) (0,_) t2 rfl (⟨rfl,Nat.zero_le _,by rw [ZdI];exact hd1⟩) (fun g B2 hle2 hI=>?_)))))))
 obtain ⟨rfl,hk,hvl⟩:=hI
 have hfl:=ZeP (d:=(⟨0,[],[],[]⟩:DItem)) hk
 refine ZG [(0,_),(2,_),(3,_),(4,_)] [_] t4 rfl (Ze (Za (xM (h:=xM (h:=xV Tryz.underlying24 (h:=ZI (h:=Zc rfl (fun g1=>?_) (fun g1=>?_))))))))
 try simp only [sQ,ne_eq] at g1
 refine Zf (Zd (Ze (Zl (Zg (xM (h:=xM (h:=xM (h:=xM (h:=?_)))))))))
 obtain ⟨z,hz⟩:=ZZ (xs:=xs) (i:=g.1) om
 obtain ⟨bb4,oo4,rfl⟩:=hx.base hz
 obtain ⟨_,⟨qi5,ci5,rfl,hi5,hb5,hb5b⟩,hc5⟩:=hx.elem hz
 have hi5n:=hi5.len
 refine xIx Tryz.underlying24 Zt0 (h:=?_)
 have hzz:=(Zav hx20).2 z (List.mem_of_getElem? hz)
 have hza:=ZsK hzz
 refine yL [_,_,_,_] Zui hc5 0 (h:=Zp (ZX rfl rfl ZwH rfl (Zqb _ _ z _ hi5 om2) ?_))
 rintro _ B6 _ hle6 ⟨q6,c6,l6,rfl,rfl,rfl,hv6⟩
 refine xIp rfl Tryz.underlying32 Za0 (h:=Zp (Ztz (R:=ZaQ 9) (k:=g.1) (z) 0 [1] rfl rfl hvl rfl om rfl rfl Za0 rfl rfl rfl rfl rfl (l6) (by simp) (⟨_,_,rfl,hv6,by first | assumption | omega | (simp;done) | (simp;omega),by first | assumption | omega | (simp;done) | (simp;omega),by first | assumption | omega | (simp;done) | (simp;omega)⟩) (fun l8 hd8=>?_)))
 refine ZT (Zd (Zg (xM (h:=xD (h:=xA (h:=?_))))))
 exact ZF (g.1+1,l8) [0] so2 ⟨rfl,so,by rw [← ZdJ hz];exact hd8⟩ t4 rfl
 try simp only [sQ,ne_eq] at g1
 refine ZH (Z0 (ZJ (Zw (Zd (Za (xM (h:=xA (h:=Zh ?_))))))))
 exact ZaW .ret (.inl rfl) [_] [0] rfl t1 ⟨_,_,_,rfl,rfl,rfl,by have e:=hvl;rw [ZeQ oz] at e;exact e⟩

set_option maxHeartbeats 400000 in
theorem Zn3 (q:Option Addr) (cp:Nat) (x:DQueue) (B:Kn) (hx:SlK B q cp 4 Zs x.items) (hl:szL Zbm x.items≤1048576):Zx (pj J) 39 [.agg #[.int .i64 x.next,.slice q x.items.length cp]] B [] (fun v B' Ls=>∃q0 c0 l0,v = .agg #[.int .i64 x.next,.slice q0 x.items.length c0]∧B'=B∧Ls=[l0]∧ZaP l0 q0 c0 126 4 (ZaQ 9) x.items):=by
 refine Zb 12 Tryz.func39 rfl rfl rfl (Nat.le_of_ble_eq_true rfl) ?_
 refine Za (xBx [_,_] (h:=fun b1=>xAl [_,_] Zjr (h:=fun b2=>ZB [_,_] rfl (Za (xAl [_,_] Zjr (h:=fun b3=>ZB [_,_,_] rfl (Za (xW Zuv (h:=x1 lk3 0 (h:=xW Zef (h:=xS [_] 2 [_,_] sz3 (h:=ZB [_,_,_] rfl ?_))))))))))))
 refine Za (xW ZrS (h:=x1 Zxo 0 (h:=Zp (ZX rfl rfl ZxM rfl (Zn5 _ _ x.items om2 _ hx) ?_))))
 rintro _ B4 _ hle4 ⟨q4,c4,l4,rfl,rfl,rfl,hv4⟩
 refine xW ZaV (h:=xS [_] 2 [_,_] Ztp (h:=ZB [_,_,_,_] rfl (Za (xL [_,_] Zed 2 (h:=xS [_,_] 1 [_,_] ZgF (h:=ZB [_,_,_,_] rfl (Zh ?_)))))))
 exact ZaW .ret (.inl rfl) [_] [3] rfl ⟨⟨_,rfl,.inr ⟨[_,_],Zed,ZbH 1 rfl rfl rfl,rfl⟩⟩,trivial⟩ ⟨_,_,_,rfl,rfl,rfl,hv4⟩

set_option maxHeartbeats 400000 in
theorem Zsf (q:Option Addr) (cp:Nat) (x:DBox) (B:Kn) (hx:SlK B q cp 3 Z3 x.mail) (hl:szL Zdd x.mail≤1048576):Zx (pj J) 147 [.agg #[.int .i64 x.next,.slice q x.mail.length cp]] B [] (fun v B' Ls=>∃q0 c0 l0,v = .agg #[.int .i64 x.next,.slice q0 x.mail.length c0]∧B'=B∧Ls=[l0]∧ZW Kn.none l0 q0 c0 205 3 Z3 x.mail):=by
 refine Zb 12 Tryz.func147 rfl rfl rfl (Nat.le_of_ble_eq_true rfl) ?_
 refine Za (xBx [_,_] (h:=fun b1=>xAl [_,_] ZnI (h:=fun b2=>ZB [_,_] rfl (Za (xAl [_,_] ZnI (h:=fun b3=>ZB [_,_,_] rfl (Za (xW ZsW (h:=x1 lk3 0 (h:=xW ZcG (h:=xS [_] 2 [_,_] sz3 (h:=ZB [_,_,_] rfl ?_))))))))))))
 refine Za (xW Zpo (h:=x1 Zul 0 (h:=Zp (ZX rfl rfl Zwj rfl (Zn4 _ _ x.mail om2 _ hx) ?_))))
 rintro _ B4 _ hle4 ⟨q4,c4,l4,rfl,rfl,rfl,hv4⟩
 refine xW Zbu (h:=xS [_] 2 [_,_] ZvC (h:=ZB [_,_,_,_] rfl (Za (xL [_,_] Zfs 2 (h:=xS [_,_] 1 [_,_] ZjO (h:=ZB [_,_,_,_] rfl (Zh ?_)))))))
 exact ZaW .ret (.inl rfl) [_] [3] rfl ⟨⟨_,rfl,.inr ⟨[_,_],Zfs,ZbH 1 rfl rfl rfl,rfl⟩⟩,trivial⟩ ⟨_,_,_,rfl,rfl,rfl,hv4⟩

set_option maxHeartbeats 400000 in
theorem ZmJ (qa qb:Option Addr) (ca cb:Nat) (x:DFolder) (B:Kn) (hx:SlK B qa ca 2 Z5 x.grants) (hy:SlK B qb cb 3 Z3 x.mail) (hl:szL Zcg x.grants≤1048576) (hl2:szL Zdd x.mail≤1048576):Zx (pj J) 96 [.agg #[str x.owner,str x.name,.slice qa x.grants.length ca,.int .i64 x.next,.slice qb x.mail.length cb]] B [] (fun v B' Ls=>∃q0 c0 l0 q1 c1 l1,v = .agg #[str x.owner,str x.name,.slice q0 x.grants.length c0,.int .i64 x.next,.slice q1 x.mail.length c1]∧B'=B∧Ls=[l0,l1]∧ZW Kn.none l0 q0 c0 133 2 Z5 x.grants∧ZW Kn.none l1 q1 c1 205 3 Z3 x.mail):=by
 refine Zb 19 Tryz.func96 rfl rfl rfl (Nat.le_of_ble_eq_true rfl) ?_
 refine Za (xBx [_,_,_,_,_] (h:=fun b1=>xAl [_,_,_,_,_] Zf9 (h:=fun b2=>ZB [_,_] rfl (Za (xAl [_,_,_,_,_] Zf9 (h:=fun b3=>ZB [_,_,_] rfl (Za (xW Zpn (h:=x1 lk9 0 (h:=xW Zca (h:=xS [_] 2 [_,_,_,_,_] sz9 (h:=ZB [_,_,_] rfl ?_))))))))))))
 refine Za (xW Zpm (h:=x1 lk9 0 (h:=xW ZdF (h:=xS [_] 2 [_,_,_,_,_] sz9 (h:=ZB [_,_,_] rfl (Za (xW Zpl (h:=x1 Zum 0 (h:=Zp (ZX rfl rfl ZwJ rfl (ZmI _ _ x.grants om2 _ hx) ?_))))))))))
 rintro _ B4 _ hle4 ⟨q4,c4,l4,rfl,rfl,rfl,hv4⟩
 refine xW ZeC (h:=xS [_] 2 [_,_,_,_,_] ZvD (h:=ZB [_,_,_,_] rfl (Za (xW Zpk (h:=xL [_,_] Zuk 0 (h:=Zp (ZX rfl rfl ZwI rfl (Zsf _ _ ⟨x.next,x.mail⟩ _ hy om2) ?_)))))))
 rintro _ B5 _ hle5 ⟨q5,c5,l5,rfl,rfl,rfl,hv5⟩
 refine xW Zb9 (h:=xS [_,_] 2 [_,_,_,_,_] ZjO (h:=ZB [_,_,_,_,_] rfl (Za (xL [_,_,_,_,_] Ziq 2 (h:=xS [_,_,_,_,_] 1 [_,_,_,_,_] Zcb (h:=ZB [_,_,_,_,_] rfl (Zh ?_)))))))
 exact ZaW .ret (.inl rfl) [_] [3,4] rfl ⟨⟨_,rfl,.inr ⟨[_,_,_,_,_],Ziq,ZbH 1 rfl rfl rfl,rfl⟩⟩,trivial⟩ ⟨_,_,_,_,_,_,rfl,rfl,rfl,hv4,hv5⟩

set_option maxHeartbeats 400000 in
theorem ZkS (q:Option Addr) (cp:Nat) (xs:List DFolder) (hx20:szL Zaw xs≤1048576) (B:Kn) (hx:SlK B q cp 5 Zk xs):Zx (pj J) 38 [.slice q xs.length cp] B [] (fun v B' Ls=>∃q c l,v = .slice q xs.length c∧B'=B∧Ls=[l]∧ZaP l q c 75 5 (Z1 133 205) xs):=by
 refine Zb 23 Tryz.func38 rfl rfl rfl (Nat.le_of_ble_eq_true rfl) ?_
 have hxn:=hx.len
 have hx21:=(Zav hx20).1
 refine Za (xA (h:=Za (xM (h:=xV Tryz.underlying23 (h:=Zp (Za2 (m:=xs.length) (c:=xs.length) (by_:=88) [.string ⟨#[]⟩,.string ⟨#[]⟩,.slice none 0 0,.int .i64 0,.slice none 0 0] rfl rfl Zu9 Zf9 rfl rfl ⟨_,_,rfl,by first | omega | (simp;done) | (simp;omega)⟩ ⟨_,_,rfl,by first | omega | (simp;done) | (simp;omega)⟩ om om (fun b1=>?_)))))))
 have hd1:=ZaP.zeros (b:=b1) (T:=75) (R:=(Z1 133 205)) (d:=(⟨[],[],[],0,[]⟩:DFolder)) (m:=xs.length) (c:=xs.length) (zs:=[.string ⟨#[]⟩,.string ⟨#[]⟩,.slice none 0 0,.int .i64 0,.slice none 0 0]) rfl (⟨_,_,_,_,[],[],rfl,rfl,ZW.nil,ZW.nil,by simp,by simp,by simp,by simp⟩) om
 refine xA (h:=ZB [_] rfl (Ze (Za (xA (h:=Zl (ZA (α:=Nat × Cells) [0,2] (fun g=>[(3,.slice (some ⟨b1,0,none⟩) xs.length xs.length),(4,.int .i64 g.1)]) [0] (fun g=>[g.2]) (fun g Bx=>Bx=B∧g.1≤xs.length∧ZaP g.2 (some ⟨b1,0,none⟩) xs.length 75 5 (Z1 133 205) (fill xs (⟨[],[],[],0,[]⟩:DFolder) g.1)) (fun g=>xs.length - g.1) (0,_) t2 rfl (⟨rfl,Nat.zero_le _,by rw [ZdI];exact hd1⟩) (fun g B2 hle2 hI=>?_)))))))
 obtain ⟨rfl,hk,hvl⟩:=hI
 have hfl:=ZeP (d:=(⟨[],[],[],0,[]⟩:DFolder)) hk
 refine ZG [(0,_),(2,_),(3,_),(4,_)] [_] t4 rfl (Ze (Za (xM (h:=xM (h:=xV Tryz.underlying23 (h:=ZI (h:=Zc rfl (fun g1=>?_) (fun g1=>?_))))))))
 try simp only [sQ,ne_eq] at g1
 refine Zf (Zd (Ze (Zl (Zg (xM (h:=xM (h:=xM (h:=xM (h:=?_)))))))))
 obtain ⟨z,hz⟩:=ZZ (xs:=xs) (i:=g.1) om
 obtain ⟨bb4,oo4,rfl⟩:=hx.base hz
 obtain ⟨_,⟨qg5,cg5,qm5,cm5,rfl,hg5,hm5,hb5,hb5b⟩,hc5⟩:=hx.elem hz
 have hg5n:=hg5.len
 have hm5n:=hm5.len
 have hm5s:=Zay hm5
 refine xIx Tryz.underlying23 Zt2 (h:=?_)
 have hzz:=(Zav hx20).2 z (List.mem_of_getElem? hz)
 have hza:=ZhF hzz
 refine yL [_,_,_,_,_] Zuj hc5 0 (h:=Zp (ZX rfl rfl ZxN rfl (ZmJ _ _ _ _ z _ hg5 hm5 om2 om2) ?_))
 rintro _ B6 _ hle6 ⟨q6,c6,l6,q6b,c6b,l6b,rfl,rfl,rfl,hv6,hv6b⟩
 refine xIp rfl Tryz.underlying31 Zcb (h:=Zp (Ztz (R:=(Z1 133 205)) (k:=g.1) (z) 0 [1,2] rfl rfl hvl rfl om rfl rfl Zcb rfl rfl rfl rfl rfl (l6 ++ l6b) (by simp) (⟨_,_,_,_,_,_,rfl,rfl,(hv6.anyK Z5.any),(hv6b.anyK Z3.any),by first | assumption | omega | (simp;done) | (simp;omega),by first | assumption | omega | (simp;done) | (simp;omega),by first | assumption | omega | (simp;done) | (simp;omega),by first | assumption | omega | (simp;done) | (simp;omega)⟩) (fun l8 hd8=>?_)))
 refine ZT (Zd (Zg (xM (h:=xD (h:=xA (h:=?_))))))
 exact ZF (g.1+1,l8) [0] so2 ⟨rfl,so,by rw [← ZdJ hz];exact hd8⟩ t4 rfl
 try simp only [sQ,ne_eq] at g1
 refine ZH (Z0 (ZJ (Zw (Zd (Za (xM (h:=xA (h:=Zh ?_))))))))
 exact ZaW .ret (.inl rfl) [_] [0] rfl t1 ⟨_,_,_,rfl,rfl,rfl,by have e:=hvl;rw [ZeQ oz] at e;exact e⟩

set_option maxHeartbeats 400000 in
theorem ZgS (q1 q2 q3:Option Addr) (c1 c2 c3:Nat) (x:DHost) (B:Kn) (hu:SlK B q1 c1 3 Zm x.users) (hf:SlK B q2 c2 5 Zk x.folders) (hi:SlK B q3 c3 4 Zs x.queue.items) (hsz:ZcV x≤1048576):Zx (pj J) 10 [.agg #[str x.domain,.slice q1 x.users.length c1,.slice q2 x.folders.length c2,.int .i64 x.queue.next,.slice q3 x.queue.items.length c3]] B [] (fun v B' Ls=>∃q0 c0 l0 q1 c1 l1 q2 c2 l2,v = .agg #[str x.domain,.slice q0 x.users.length c0,.slice q1 x.folders.length c1,.int .i64 x.queue.next,.slice q2 x.queue.items.length c2]∧B'=B∧Ls=[l0,l1,l2]∧ZW Kn.none l0 q0 c0 123 3 Zm x.users∧ZaP l1 q1 c1 75 5 (Z1 133 205) x.folders∧ZaP l2 q2 c2 126 4 (ZaQ 9) x.queue.items):=by
 refine Zb 20 Tryz.func10 rfl rfl rfl (Nat.le_of_ble_eq_true rfl) ?_
 have hsz2:=Zlp hsz
 refine Za (xBx [_,_,_,_,_] (h:=fun b1=>xAl [_,_,_,_,_] Zcn (h:=fun b2=>ZB [_,_] rfl (Za (xAl [_,_,_,_,_] Zcn (h:=fun b3=>ZB [_,_,_] rfl (Za (xW ZrR (h:=x1 lk9 0 (h:=xW ZhG (h:=xS [_] 2 [_,_,_,_,_] sz9 (h:=ZB [_,_,_] rfl ?_))))))))))))
 refine Za (xW ZrQ (h:=x1 Zxq 0 (h:=Zp (ZX rfl rfl Zyn rfl (Zn2 _ _ x.users om2 _ hu) ?_))))
 rintro _ B4 _ hle4 ⟨q4,c4,l4,rfl,rfl,rfl,hv4⟩
 refine xW ZbK (h:=xS [_] 2 [_,_,_,_,_] ZxD (h:=ZB [_,_,_,_] rfl (Za (xW ZrP (h:=x1 Zxp 0 (h:=Zp (ZX rfl rfl Zym rfl (ZkS _ _ x.folders om2 _ hf) ?_)))))))
 rintro _ B5 _ hle5 ⟨q5,c5,l5,rfl,rfl,rfl,hv5⟩
 refine xW ZaI (h:=xS [_] 2 [_,_,_,_,_] Zxh (h:=ZB [_,_,_,_,_] rfl (Za (xW ZrO (h:=xL [_,_] Zxn 0 (h:=Zp (ZX rfl rfl Zyl rfl (Zn3 _ _ ⟨x.queue.next,x.queue.items⟩ _ hi om2) ?_)))))))
 rintro _ B6 _ hle6 ⟨q6,c6,l6,rfl,rfl,rfl,hv6⟩
 refine xW ZbE (h:=xS [_,_] 2 [_,_,_,_,_] ZgF (h:=ZB [_,_,_,_,_,_] rfl (Za (xL [_,_,_,_,_] ZcA 2 (h:=xS [_,_,_,_,_] 1 [_,_,_,_,_] Zde (h:=ZB [_,_,_,_,_,_] rfl (Zh ?_)))))))
 exact ZaW .ret (.inl rfl) [_] [3,4,5] rfl ⟨⟨_,rfl,.inr ⟨[_,_,_,_,_],ZcA,ZbH 1 rfl rfl rfl,rfl⟩⟩,trivial⟩ ⟨_,_,_,_,_,_,_,_,_,rfl,rfl,rfl,hv4,hv5,hv6⟩

set_option maxHeartbeats 400000 in
theorem Zq6   (a b:DUser) (B:Kn)   : Zag (pj J) 105 [.agg #[str a.name,str a.pass,.int .i64 a.quota],.agg #[str b.name,str b.pass,.int .i64 b.quota]] B (.bool (decide (a=b))):=by
 refine Zb 20 Tryz.func105 rfl rfl rfl (Nat.le_of_ble_eq_true rfl) ?_
 refine Za (xBx [_,_,_] (h:=fun b1=>xBx [_,_,_] (h:=fun b2=>xA (h:=ZB [_,_] rfl (Ze (Za (xW Za5 (h:=x1 lk9 0 (h:=xW Za5 (h:=x1 lk9 1 (h:=Zek (h:=Zc rfl (fun g1=>?_) (fun g1=>?_)))))))))))))
 try simp only [sQ,ne_eq] at g1
 refine Za (xA (h:=Zh (Zq ?_)))
 exact ZE .ret (.inl rfl) [_] t1 ⟨Zi (by symm;rw [decide_eq_false_iff_not];rintro rfl;exact g1 rfl),rfl,rfl⟩
 try simp only [sQ,ne_eq] at g1
 refine Zf (Zd (Ze (Za (xW Zfx (h:=x1 lk9 0 (h:=xW Zfx (h:=x1 lk9 1 (h:=Zek (h:=Zc rfl (fun g2=>?_) (fun g2=>?_))))))))))
 try simp only [sQ,ne_eq] at g2
 refine Za (xA (h:=Zh (Zq ?_)))
 exact ZE .ret (.inl rfl) [_] t1 ⟨Zi (by symm;rw [decide_eq_false_iff_not];rintro rfl;exact g2 rfl),rfl,rfl⟩
 try simp only [sQ,ne_eq] at g2
 refine Zf (Zd (Ze (Za (xW Zc5 (h:=x1 lk3 0 (h:=xW Zc5 (h:=x1 lk3 1 (h:=ZaT (h:=Zc rfl (fun g3=>?_) (fun g3=>?_))))))))))
 try simp only [sQ,ne_eq] at g3
 refine Za (xA (h:=Zh (Zq ?_)))
 exact ZE .ret (.inl rfl) [_] t1 ⟨Zi (by symm;rw [decide_eq_false_iff_not];rintro rfl;exact g3 rfl),rfl,rfl⟩
 try simp only [sQ,ne_eq] at g3
 refine Zf (Zd (Za (xA (h:=Zh ?_))))
 exact ZE .ret (.inl rfl) [_] t1 ⟨Zi (by symm;rw [decide_eq_true_eq];cases a;cases b;simp_all),rfl,rfl⟩

set_option maxHeartbeats 400000 in
theorem ZpB   (a b:DGrant) (B:Kn)   : Zag (pj J) 194 [.agg #[str a.user,.int .i64 a.rights],.agg #[str b.user,.int .i64 b.rights]] B (.bool (decide (a=b))):=by
 refine Zb 15 Tryz.func194 rfl rfl rfl (Nat.le_of_ble_eq_true rfl) ?_
 refine Za (xBx [_,_] (h:=fun b1=>xBx [_,_] (h:=fun b2=>xA (h:=ZB [_,_] rfl (Ze (Za (xW ZcC (h:=x1 lk9 0 (h:=xW ZcC (h:=x1 lk9 1 (h:=Zek (h:=Zc rfl (fun g1=>?_) (fun g1=>?_)))))))))))))
 try simp only [sQ,ne_eq] at g1
 refine Za (xA (h:=Zh (Zq ?_)))
 exact ZE .ret (.inl rfl) [_] t1 ⟨Zi (by symm;rw [decide_eq_false_iff_not];rintro rfl;exact g1 rfl),rfl,rfl⟩
 try simp only [sQ,ne_eq] at g1
 refine Zf (Zd (Ze (Za (xW Zd4 (h:=x1 lk3 0 (h:=xW Zd4 (h:=x1 lk3 1 (h:=ZaT (h:=Zc rfl (fun g2=>?_) (fun g2=>?_))))))))))
 try simp only [sQ,ne_eq] at g2
 refine Za (xA (h:=Zh (Zq ?_)))
 exact ZE .ret (.inl rfl) [_] t1 ⟨Zi (by symm;rw [decide_eq_false_iff_not];rintro rfl;exact g2 rfl),rfl,rfl⟩
 try simp only [sQ,ne_eq] at g2
 refine Zf (Zd (Za (xA (h:=Zh ?_))))
 exact ZE .ret (.inl rfl) [_] t1 ⟨Zi (by symm;rw [decide_eq_true_eq];cases a;cases b;simp_all),rfl,rfl⟩

end Go.Proofs.YthgggppcgbglkaaGreatDoor
