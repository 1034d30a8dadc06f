/-
  WHAT THE FUNCTIONS THAT THE LAWS REACH COMPUTE: each function's contract, proved off its printed body (the text is written by program). No condition beyond those that each theorem states.
-/
import Derived.Test.YtnfoidafdcgdbaaGreatDoorC1
namespace Go.Proofs.YtnfoidafdcgdbaaGreatDoor
open Go Go.BL
set_option linter.unusedVariables false
set_option linter.unusedSimpArgs false
set_option maxRecDepth 4000
variable {J : JoinT}
set_option maxHeartbeats 400000 in
theorem Znb (q1 q2 q3:Option Addr) (c1 c2 c3:Nat) (x:DHost) (k:Int) (u:Str) (r:Int) (f:DFolder) (hk0:0≤k) (hk:x.folders[k.toNat]? = some f) (hrr:Zhn x.folders) (h1:0<r) (B:Kn) (hf:SlK B q2 c2 5 Zb x.folders):Za1 (pj J) 43 [.agg #[str x.domain,.slice q1 x.users.length c1,.slice q2 x.folders.length c2,.int .i64 x.queue.next,.slice q3 x.queue.items.length c3],.int .i64 k,str u,.int .i64 r] B (.bool (ZiP f u r)):=by
 refine Zc 31 Tryz.func43 rfl rfl rfl (Nat.le_of_ble_eq_true rfl) ?_
 have hfn:=hf.len
 have hkl:=(List.getElem?_eq_some_iff.1 hk).1
 have hrb:=Zl3 f.grants u
 refine Za (xBx [_,_,_,_,_] (h:=fun b1=>xA (h:=Zw [_] rfl (Za (xM (h:=xW Z0 (h:=x1 Zcy 0 (h:=xM (h:=?_)))))))))
 obtain ⟨bb2,oo2,rfl⟩:=hf.base hk
 obtain ⟨_,⟨qg3,cg3,qm3,cm3,rfl,hg3,hm3,hb3,hb3b⟩,hc3⟩:=hf.elem hk
 have hg3n:=hg3.len
 have hm3n:=hm3.len
 have hm3s:=Z4 hm3
 refine xIx Tryz.underlying24 Zbj (h:=xW ZcU (h:=y1 lk9 hc3 0 (h:=ZdT (h:=xM (h:=Zt (d:=17) rfl (fun g1=>?_) (fun g1=>?_))))))
 try simp only [sQ,ne_eq] at g1
 refine xP (h:=xP (h:=xP (h:=xP (h:=xP (h:=xP (h:=xP (h:=xP (h:=xP (h:=xP (h:=xP (h:=xP (h:=xT (h:=?_)))))))))))))
 refine xA (h:=Zg ?_)
 exact ZW .ret (.inl rfl) [_] t1 ⟨Zp (by simp [ZiP,g1]),rfl,rfl⟩
 try simp only [sQ,ne_eq] at g1
 refine xW Z0 (h:=x1 Zcy 0 (h:=xM (h:=xIx Tryz.underlying24 Zbj (h:=xW ZdI (h:=y1 Zrt hc3 2 (h:=xM (h:=xR Zxq rfl (Zto _ _ f.grants u (by first | assumption | exact hrr _ (List.mem_of_getElem? (oy))) _ hg3) (h:=?_))))))))
 refine xM (h:=Zn (Zfj (a:=(ZbF f.grants u)) (b:=r) (r:=Int.tdiv (ZbF f.grants u) r) rfl rfl rfl rfl oz (Zja oz oz oz) ?_))
 refine Zn (ZfN (a:=(Int.tdiv (ZbF f.grants u) r)) (b:=2) (r:=Int.tmod (Int.tdiv (ZbF f.grants u) r) 2) rfl rfl rfl rfl (by decide) rfl ?_)
 refine ZF (h:=xF (h:=xA (h:=Zg ?_)))
 exact ZW .ret (.inl rfl) [_] t1 ⟨Zp (by simp [ZiP,g1]),rfl,rfl⟩

set_option maxHeartbeats 400000 in
theorem Zdc (q1 q2 q3:Option Addr) (c1 c2 c3:Nat) (x:DHost) (u:Str) (k r:Int) (hk:k<x.folders.length) (hrr:Zhn x.folders) (h1:0<r) (B:Kn) (hu:SlK B q1 c1 3 Zh x.users) (hf:SlK B q2 c2 5 Zb x.folders):Za1 (pj J) 17 [.agg #[str x.domain,.slice q1 x.users.length c1,.slice q2 x.folders.length c2,.int .i64 x.queue.next,.slice q3 x.queue.items.length c3],str u,.int .i64 k,.int .i64 r] B (.int .i64 (Zf9 x.users x.folders u k r)):=by
 refine Zc 32 Tryz.func17 rfl rfl rfl (Nat.le_of_ble_eq_true rfl) ?_
 refine Za (xBx [_,_,_,_,_] (h:=fun b1=>xA (h:=Zw [_] rfl (Zm (Zr (Za (xW Zcn (h:=x1 ZjQ 0 (h:=xM (h:=xR ZsI rfl (ZcS _ _ _ _ _ hu) (h:=Zai (h:=xM (h:=?_)))))))))))))
 refine Zt (d:=15) rfl (fun g1=>?_) (fun g1=>?_)
 try simp only [sQ,ne_eq] at g1
 refine xP (h:=xP (h:=xT (h:=xA (h:=Zd (t:=true) rfl (fun _=>Za (xA (h:=Zg (ZI (Zs ?_))))) (fun h=>Bool.noConfusion h)))))
 exact ZW .ret (.inl rfl) [_] t1 ⟨ZaA (Zj9 (.inl g1)).symm,rfl,rfl⟩
 try simp only [sQ,ne_eq] at g1
 refine xM (h:=Zai (h:=xF (h:=xA (h:=Zd rfl (fun g2=>?_) (fun g2=>?_)))))
 try simp only [sQ,ne_eq] at g2
 refine Za (xA (h:=Zg (ZI (Zs ?_))))
 exact ZW .ret (.inl rfl) [_] t1 ⟨ZaA (Zj9 (.inr g2)).symm,rfl,rfl⟩
 try simp only [sQ,ne_eq] at g2
 have hfn:=hf.len
 obtain ⟨f,hf0⟩ :∃f,x.folders[k.toNat]? = some f:=⟨_,List.getElem?_eq_getElem oz⟩
 have hce:=Zqy (us:=x.users) (u:=u) (r:=r) oz hf0
 refine Za (xL [_,_,_,_,_] Z2 0 (h:=xM (h:=xM (h:=xR Zw3 rfl (Znb _ _ _ _ _ _ x k u 1 _ oz (oy) hrr oz _ hf) (h:=?_)))))
 refine xN (h:=xA (h:=Zd rfl (fun g3=>?_) (fun g3=>?_)))
 try simp only [sQ,ne_eq] at g3
 refine Za (xA (h:=Zg (ZI (Zs ?_))))
 exact ZW .ret (.inl rfl) [_] t1 ⟨ZaA (by rw [hce,if_pos g3]),rfl,rfl⟩
 try simp only [sQ,ne_eq] at g3
 refine Za (xL [_,_,_,_,_] Z2 0 (h:=xM (h:=xM (h:=xM (h:=xR Zw3 rfl (Znb _ _ _ _ _ _ x k u r _ oz (oy) hrr oz _ hf) (h:=?_))))))
 refine xN (h:=xA (h:=Zd rfl (fun g4=>?_) (fun g4=>?_)))
 try simp only [sQ,ne_eq] at g4
 refine Za (xA (h:=Zg (ZI (Zs ?_))))
 exact ZW .ret (.inl rfl) [_] t1 ⟨ZaA (by rw [hce,if_neg (by simp [g3]),if_pos g4]),rfl,rfl⟩
 try simp only [sQ,ne_eq] at g4
 refine Zi (Zz (Zf (Za (xA (h:=Zg ?_)))))
 exact ZW .ret (.inl rfl) [_] t1 ⟨ZaA (by rw [hce,if_neg (by simp [g3]),if_neg (by simp [g4])]),rfl,rfl⟩

set_option maxHeartbeats 400000 in
theorem ZhU (q:Option Addr) (cp:Nat) (x:DBox) (B:Kn) (hm:SlK B q cp 3 ZJ x.mail):ZM (pj J) 130 [.agg #[.int .i64 x.next,.slice q x.mail.length cp]] B [] (fun v B' Ls=>B'=B∧∃l a c,Ls=[l]∧v = .agg #[.int .i64 x.next,.slice a x.mail.length c]∧Z3 B l a c 150 3 ZJ x.mail):=by
 refine Zc 9 Tryz.func130 rfl rfl rfl (Nat.le_of_ble_eq_true rfl) ?_
 have hxn:=hm.len
 refine Za (xBx [_,_] (h:=fun b1=>xAl [_,_] ZeW (h:=fun b2=>Zw [_,_] rfl (Za (xBs [] [] Tryz.underlying54 ZcW Zgf (h:=fun b3=>xW ZaU (h:=x1 ZfJ 0 (h:=Zn (ZaS (R:=ZJ) 2 rfl (Z3.lit0 (R:=ZJ)) rfl rfl rfl Zvt Zvr rfl rfl rfl hm.rows ZJ.one rfl om (fun l4 p4 c4 hv4=>?_))))))))))
 refine xW ZaU (h:=xS [_] 0 [_,_] ZvV (h:=Zw [_,_,_] rfl (Za (xL [_,_] ZbN 0 (h:=xS [_,_] 1 [_,_] ZcC (h:=Zw [_,_,_] rfl (Zg ?_)))))))
 exact Zaf .ret (.inl rfl) [_] [2] rfl ⟨⟨_,rfl,.inr ⟨[_,_],ZbN,Zad 1 rfl rfl rfl,rfl⟩⟩,trivial⟩ ⟨rfl,_,_,_,rfl,rfl,hv4⟩

set_option maxHeartbeats 400000 in
theorem Zmi (qa qb:Option Addr) (ca cb:Nat) (x:DFolder) (B:Kn) (hg:SlK B qa ca 2 ZG x.grants) (hm:SlK B qb cb 3 ZJ x.mail):ZM (pj J) 89 [.agg #[str x.owner,str x.name,.slice qa x.grants.length ca,.int .i64 x.next,.slice qb x.mail.length cb]] B [] (fun v B' Ls=>B'=B∧∃l a c l' a' c',Ls=[l,l']∧v = .agg #[str x.owner,str x.name,.slice a x.grants.length c,.int .i64 x.next,.slice a' x.mail.length c']∧Z3 B l a c 139 2 ZG x.grants∧Z3 B l' a' c' 150 3 ZJ x.mail):=by
 refine Zc 13 Tryz.func89 rfl rfl rfl (Nat.le_of_ble_eq_true rfl) ?_
 have hgn:=hg.len
 have hmn:=hm.len
 refine Za (xBx [_,_,_,_,_] (h:=fun b1=>xAl [_,_,_,_,_] Zdx (h:=fun b2=>Zw [_,_] rfl (Za (xBs [] [] Tryz.underlying53 ZbL Zdy (h:=fun b3=>xW ZdI (h:=x1 Zrt 0 (h:=Zn (ZaS (R:=ZG) 2 rfl (Z3.lit0 (R:=ZG)) rfl rfl rfl Zqk Zpa rfl rfl rfl hg.rows ZG.one rfl om (fun l4 p4 c4 hv4=>?_))))))))))
 refine xW ZdI (h:=xS [_] 0 [_,_,_,_,_] Zuv (h:=Zw [_,_,_] rfl (Za (xW Zcm (h:=xL [_,_] ZbN 0 (h:=Zn (Zac rfl rfl ZtR rfl (ZhU _ _ (⟨x.next,x.mail⟩:DBox) _ hm) ?_)))))))
 rintro _ B5 _ hle5 ⟨hB5,l5,a5,c5,rfl,rfl,hs5⟩
 have hB5:=hB5.symm
 subst hB5
 refine xW Zcm (h:=xS [_,_] 0 [_,_,_,_,_] ZcC (h:=Zw [_,_,_,_] rfl (Za (xL [_,_,_,_,_] ZgQ 0 (h:=xS [_,_,_,_,_] 1 [_,_,_,_,_] Zbj (h:=Zw [_,_,_,_] rfl (Zg ?_)))))))
 exact Zaf .ret (.inl rfl) [_] [2,3] rfl ⟨⟨_,rfl,.inr ⟨[_,_,_,_,_],ZgQ,Zad 1 rfl rfl rfl,rfl⟩⟩,trivial⟩ ⟨rfl,_,_,_,_,_,_,rfl,rfl,hv4,hs5⟩

set_option maxHeartbeats 400000 in
theorem Zbd (q1 q2 q3:Option Addr) (c1 c2 c3:Nat) (x:DHost) (B:Kn) (hu:SlK B q1 c1 3 Zh x.users) (hf:SlK B q2 c2 5 Zb x.folders) (hi:SlK B q3 c3 4 Zj x.queue.items):ZM (pj J) 47 [.agg #[str x.domain,.slice q1 x.users.length c1,.slice q2 x.folders.length c2,.int .i64 x.queue.next,.slice q3 x.queue.items.length c3]] B [] (fun v B' Ls=>∃l a c p1 d1 p3 d3,Ls=[l]∧v = .agg #[str x.domain,.slice p1 x.users.length d1,.slice a x.folders.length c,.int .i64 x.queue.next,.slice p3 x.queue.items.length d3]∧SlK B' p1 d1 3 Zh x.users∧Z3 B' l a c 58 5 Zb x.folders∧SlK B' p3 d3 4 Zj x.queue.items):=by
 refine Zc 35 Tryz.func47 rfl rfl rfl (Nat.le_of_ble_eq_true rfl) ?_
 have hun:=hu.len
 have hfn:=hf.len
 have hin:=hi.len
 refine Za (xBx [_,_,_,_,_] (h:=fun b1=>xAl [_,_,_,_,_] Zba (h:=fun b2=>Zw [_,_] rfl (ZoS (α:=GHC × Gh DFolder) [0,1,2] (fun o=>[(3,ptr ⟨o.1.b,0,none⟩)]) (fun o=>[ZaY b1 [str x.domain,.slice q1 x.users.length c1,.slice q2 x.folders.length c2,.int .i64 x.queue.next,.slice q3 x.queue.items.length c3] 29,ZaY b2 [str [],.slice none 0 0,.slice none 0 0,.int .i64 0,.slice none 0 0] 29,o.2.l,ZaY o.1.b [str x.domain,.slice o.1.q1 x.users.length o.1.c1,.slice o.2.a o.2.xs.length o.2.c,.int .i64 x.queue.next,.slice o.1.q3 x.queue.items.length o.1.c3] 29]) (fun o Bx=>SlK Bx o.1.q1 o.1.c1 3 Zh x.users∧o.2.xs=[]∧Z3 Bx o.2.l o.2.a o.2.c 58 5 Zb o.2.xs∧SlK Bx o.1.q3 o.1.c3 4 Zj x.queue.items) ?_ (fun o B3 hle3 hF=>?_)))))
 refine Z9 (keeps _ [0] _) mo kr ⟨Kn.le.refl _,Zar.refl _ _⟩ (fun _ _=>?_)
 refine aW 0 rfl Znj (h:=aT 1 rfl (ZK fun D B L hI=>Zl rfl rfl lk9 rfl (atL 0 (hI.2.1.trans rfl) rfl rfl) r4) (h:=aW 3 rfl Zcn (h:=aT 4 rfl (ZK fun D B L hI=>Zl rfl rfl ZjQ rfl (atL 0 (hI.2.1.trans rfl) rfl rfl) r4) (h:=aW 7 rfl ZcA (h:=aT 8 rfl (ZK fun D B L hI=>Zag [_,_] rfl rfl Zee rfl (Zad 0 (hI.2.1.trans rfl) rfl rfl) r4) (h:=Zap [2,6,11] kr kr kr ⟨?_,?_,?_⟩))))))
 refine (Zy (parts:=[]) [] rfl rfl Tryz.underlying23 ZeY Zge rfl rfl rfl rfl rfl (fun b4=>⟨⟨Kn.le.refl _,t1⟩,(Zap [5,6,11] kr kr kr ⟨?_,?_,?_⟩)⟩))
 refine (ZaS (R:=Zh) 2 rfl (Z3.lit0 (R:=Zh)) rfl rfl rfl Zot ZnE rfl rfl rfl hu.rows Zh.one rfl om (fun l5 p5 c5 hv5=>?_))
 refine ⟨⟨Kn.le.refl _,t1⟩,(ZaJ 2 rfl hv5 Zh.mono om3 (fun B' hle'=>⟨hle',t1⟩) (fun B6 hle6 hr6=>?_))⟩
 replace hu:=hu.mono Zh.mono hle6
 replace hf:=hf.mono Zb.mono hle6
 replace hi:=hi.mono Zj.mono hle6
 have hr6n:=hr6.len
 refine Zap [6,9,11] kr kr kr ⟨?_,?_,?_⟩
 refine (Zy (parts:=[]) [] rfl rfl Tryz.underlying24 Zbj Zdx rfl rfl rfl rfl rfl (fun b7=>⟨⟨hle6,t1⟩,(Zap [9,11] kr kr kr ⟨?_,?_⟩)⟩))
 refine (Zac rfl rfl Zjs rfl (Zat _ _ x.queue _ hi) ?_)
 rintro _ B8 _ hle8 ⟨l8,a8,c8,rfl,rfl,hv8⟩
 replace hu:=hu.mono Zh.mono hle8
 replace hf:=hf.mono Zb.mono hle8
 replace hi:=hi.mono Zj.mono hle8
 replace hr6:=hr6.mono Zh.mono hle8
 replace hv8:=hv8.mono Zj.mono Kn.less_le
 refine ⟨⟨(hle6.trans hle8),t1⟩,(ZaJ 4 rfl hv8 Zj.mono om3 (fun B' hle'=>⟨(hle6.trans hle8).trans hle',t1⟩) (fun B9 hle9 hr9=>?_))⟩
 replace hu:=hu.mono Zh.mono hle9
 replace hf:=hf.mono Zb.mono hle9
 replace hi:=hi.mono Zj.mono hle9
 replace hr6:=hr6.mono Zh.mono hle9
 have hr9n:=hr9.len
 refine aT 10 rfl (ZK fun D B L hI=>ZaH (parts:=[(0,_),(1,_),(2,_),(3,_)]) [_,_,_,_,_] [_,_,_,_,_] rfl rfl ZdV Zba rfl rfl rfl r4) (h:=Zv 11 kr rfl kr (Zam (l:=[_,_,_,_,_]) rfl rfl Zba rfl (fun b10=>?_)))
 refine ⟨⟨((hle6.trans hle8).trans hle9),t1⟩,(ZV 12 kr rfl kr kr kr (ZO [_,_,_,_,_] 5 [_,_,_,_,_] rfl rfl Zaw rfl rfl rfl rfl rfl rfl rfl rfl ?_))⟩
 exact ZH ⟨⟨_,_,_,_,_⟩,⟨0,0,_,_,_,[]⟩⟩ [0,1,3,5] ⟨hr6,rfl,Z3.lit0,hr9⟩ t4 rfl
 refine (Zam (l:=[_,_,_,_,_]) rfl rfl Zba rfl (fun b11=>⟨⟨hle6,t1⟩,(Zv 9 kr rfl kr (Zac rfl rfl Zjs rfl (Zat _ _ x.queue _ hi) ?_))⟩))
 rintro _ B12 _ hle12 ⟨l12,a12,c12,rfl,rfl,hv12⟩
 replace hu:=hu.mono Zh.mono hle12
 replace hf:=hf.mono Zb.mono hle12
 replace hi:=hi.mono Zj.mono hle12
 replace hr6:=hr6.mono Zh.mono hle12
 replace hv12:=hv12.mono Zj.mono Kn.less_le
 refine ⟨⟨(hle6.trans hle12),t1⟩,(ZaJ 5 rfl hv12 Zj.mono om3 (fun B' hle'=>⟨(hle6.trans hle12).trans hle',t1⟩) (fun B13 hle13 hr13=>?_))⟩
 replace hu:=hu.mono Zh.mono hle13
 replace hf:=hf.mono Zb.mono hle13
 replace hi:=hi.mono Zj.mono hle13
 replace hr6:=hr6.mono Zh.mono hle13
 have hr13n:=hr13.len
 refine aT 10 rfl (ZK fun D B L hI=>ZaH (parts:=[(0,_),(1,_),(2,_),(3,_)]) [_,_,_,_,_] [_,_,_,_,_] rfl rfl ZdV Zba rfl rfl rfl r4) (h:=ZV 12 kr rfl kr kr kr (ZO [_,_,_,_,_] 4 [_,_,_,_,_] rfl rfl Zaw rfl rfl rfl rfl rfl rfl rfl rfl ?_))
 exact ZH ⟨⟨_,_,_,_,_⟩,⟨0,0,_,_,_,[]⟩⟩ [0,1,3,4] ⟨hr6,rfl,Z3.lit0,hr13⟩ t4 rfl
 refine (Zac rfl rfl Zjs rfl (Zat _ _ x.queue _ hi) ?_)
 rintro _ B14 _ hle14 ⟨l14,a14,c14,rfl,rfl,hv14⟩
 replace hu:=hu.mono Zh.mono hle14
 replace hf:=hf.mono Zb.mono hle14
 replace hi:=hi.mono Zj.mono hle14
 replace hr6:=hr6.mono Zh.mono hle14
 replace hv14:=hv14.mono Zj.mono Kn.less_le
 refine ⟨⟨(hle6.trans hle14),t1⟩,(ZaJ 3 rfl hv14 Zj.mono om3 (fun B' hle'=>⟨(hle6.trans hle14).trans hle',t1⟩) (fun B15 hle15 hr15=>?_))⟩
 replace hu:=hu.mono Zh.mono hle15
 replace hf:=hf.mono Zb.mono hle15
 replace hi:=hi.mono Zj.mono hle15
 replace hr6:=hr6.mono Zh.mono hle15
 have hr15n:=hr15.len
 refine Zap [6,11] kr kr kr ⟨?_,?_⟩
 refine (Zy (parts:=[]) [] rfl rfl Tryz.underlying24 Zbj Zdx rfl rfl rfl rfl rfl (fun b16=>⟨⟨((hle6.trans hle14).trans hle15),t1⟩,(aT 10 rfl (ZK fun D B L hI=>ZaH (parts:=[(0,_),(1,_),(2,_),(3,_)]) [_,_,_,_,_] [_,_,_,_,_] rfl rfl ZdV Zba rfl rfl rfl r4) (h:=Zv 11 kr rfl kr (Zam (l:=[_,_,_,_,_]) rfl rfl Zba rfl (fun b17=>?_))))⟩))
 refine ⟨⟨((hle6.trans hle14).trans hle15),t1⟩,(ZV 12 kr rfl kr kr kr (ZO [_,_,_,_,_] 5 [_,_,_,_,_] rfl rfl Zaw rfl rfl rfl rfl rfl rfl rfl rfl ?_))⟩
 exact ZH ⟨⟨_,_,_,_,_⟩,⟨0,0,_,_,_,[]⟩⟩ [0,1,4,5] ⟨hr6,rfl,Z3.lit0,hr15⟩ t4 rfl
 refine (Zam (l:=[_,_,_,_,_]) rfl rfl Zba rfl (fun b18=>⟨⟨((hle6.trans hle14).trans hle15),t1⟩,(Zv 6 kr rfl kr (Zy (parts:=[]) [] rfl rfl Tryz.underlying24 Zbj Zdx rfl rfl rfl rfl rfl (fun b19=>?_)))⟩))
 refine ⟨⟨((hle6.trans hle14).trans hle15),t1⟩,(aT 10 rfl (ZK fun D B L hI=>ZaH (parts:=[(0,_),(1,_),(2,_),(3,_)]) [_,_,_,_,_] [_,_,_,_,_] rfl rfl ZdV Zba rfl rfl rfl r4) (h:=ZV 12 kr rfl kr kr kr (ZO [_,_,_,_,_] 4 [_,_,_,_,_] rfl rfl Zaw rfl rfl rfl rfl rfl rfl rfl rfl ?_)))⟩
 exact ZH ⟨⟨_,_,_,_,_⟩,⟨0,0,_,_,_,[]⟩⟩ [0,1,5,4] ⟨hr6,rfl,Z3.lit0,hr15⟩ t4 rfl
 refine (Zam (l:=[_,_,_,_,_]) rfl rfl Zba rfl (fun b20=>⟨⟨hle6,t1⟩,(Zap [6,9] kr kr kr ⟨?_,?_⟩)⟩))
 refine (Zy (parts:=[]) [] rfl rfl Tryz.underlying24 Zbj Zdx rfl rfl rfl rfl rfl (fun b21=>⟨⟨hle6,t1⟩,(Zv 9 kr rfl kr (Zac rfl rfl Zjs rfl (Zat _ _ x.queue _ hi) ?_))⟩))
 rintro _ B22 _ hle22 ⟨l22,a22,c22,rfl,rfl,hv22⟩
 replace hu:=hu.mono Zh.mono hle22
 replace hf:=hf.mono Zb.mono hle22
 replace hi:=hi.mono Zj.mono hle22
 replace hr6:=hr6.mono Zh.mono hle22
 replace hv22:=hv22.mono Zj.mono Kn.less_le
 refine ⟨⟨(hle6.trans hle22),t1⟩,(ZaJ 5 rfl hv22 Zj.mono om3 (fun B' hle'=>⟨(hle6.trans hle22).trans hle',t1⟩) (fun B23 hle23 hr23=>?_))⟩
 replace hu:=hu.mono Zh.mono hle23
 replace hf:=hf.mono Zb.mono hle23
 replace hi:=hi.mono Zj.mono hle23
 replace hr6:=hr6.mono Zh.mono hle23
 have hr23n:=hr23.len
 refine aT 10 rfl (ZK fun D B L hI=>ZaH (parts:=[(0,_),(1,_),(2,_),(3,_)]) [_,_,_,_,_] [_,_,_,_,_] rfl rfl ZdV Zba rfl rfl rfl r4) (h:=ZV 12 kr rfl kr kr kr (ZO [_,_,_,_,_] 3 [_,_,_,_,_] rfl rfl Zaw rfl rfl rfl rfl rfl rfl rfl rfl ?_))
 exact ZH ⟨⟨_,_,_,_,_⟩,⟨0,0,_,_,_,[]⟩⟩ [0,1,4,3] ⟨hr6,rfl,Z3.lit0,hr23⟩ t4 rfl
 refine (Zac rfl rfl Zjs rfl (Zat _ _ x.queue _ hi) ?_)
 rintro _ B24 _ hle24 ⟨l24,a24,c24,rfl,rfl,hv24⟩
 replace hu:=hu.mono Zh.mono hle24
 replace hf:=hf.mono Zb.mono hle24
 replace hi:=hi.mono Zj.mono hle24
 replace hr6:=hr6.mono Zh.mono hle24
 replace hv24:=hv24.mono Zj.mono Kn.less_le
 refine ⟨⟨(hle6.trans hle24),t1⟩,(ZaJ 4 rfl hv24 Zj.mono om3 (fun B' hle'=>⟨(hle6.trans hle24).trans hle',t1⟩) (fun B25 hle25 hr25=>?_))⟩
 replace hu:=hu.mono Zh.mono hle25
 replace hf:=hf.mono Zb.mono hle25
 replace hi:=hi.mono Zj.mono hle25
 replace hr6:=hr6.mono Zh.mono hle25
 have hr25n:=hr25.len
 refine Zv 6 kr rfl kr (Zy (parts:=[]) [] rfl rfl Tryz.underlying24 Zbj Zdx rfl rfl rfl rfl rfl (fun b26=>?_))
 refine ⟨⟨((hle6.trans hle24).trans hle25),t1⟩,(aT 10 rfl (ZK fun D B L hI=>ZaH (parts:=[(0,_),(1,_),(2,_),(3,_)]) [_,_,_,_,_] [_,_,_,_,_] rfl rfl ZdV Zba rfl rfl rfl r4) (h:=ZV 12 kr rfl kr kr kr (ZO [_,_,_,_,_] 3 [_,_,_,_,_] rfl rfl Zaw rfl rfl rfl rfl rfl rfl rfl rfl ?_)))⟩
 exact ZH ⟨⟨_,_,_,_,_⟩,⟨0,0,_,_,_,[]⟩⟩ [0,1,5,3] ⟨hr6,rfl,Z3.lit0,hr25⟩ t4 rfl
 refine (Zy (parts:=[]) [] rfl rfl Tryz.underlying24 Zbj Zdx rfl rfl rfl rfl rfl (fun b27=>⟨⟨Kn.le.refl _,t1⟩,(Zap [5,11] kr kr kr ⟨?_,?_⟩)⟩))
 refine (ZaS (R:=Zh) 2 rfl (Z3.lit0 (R:=Zh)) rfl rfl rfl Zot ZnE rfl rfl rfl hu.rows Zh.one rfl om (fun l28 p28 c28 hv28=>?_))
 refine ⟨⟨Kn.le.refl _,t1⟩,(ZaJ 2 rfl hv28 Zh.mono om3 (fun B' hle'=>⟨hle',t1⟩) (fun B29 hle29 hr29=>?_))⟩
 replace hu:=hu.mono Zh.mono hle29
 replace hf:=hf.mono Zb.mono hle29
 replace hi:=hi.mono Zj.mono hle29
 have hr29n:=hr29.len
 refine Zap [9,11] kr kr kr ⟨?_,?_⟩
 refine (Zac rfl rfl Zjs rfl (Zat _ _ x.queue _ hi) ?_)
 rintro _ B30 _ hle30 ⟨l30,a30,c30,rfl,rfl,hv30⟩
 replace hu:=hu.mono Zh.mono hle30
 replace hf:=hf.mono Zb.mono hle30
 replace hi:=hi.mono Zj.mono hle30
 replace hr29:=hr29.mono Zh.mono hle30
 replace hv30:=hv30.mono Zj.mono Kn.less_le
 refine ⟨⟨(hle29.trans hle30),t1⟩,(ZaJ 4 rfl hv30 Zj.mono om3 (fun B' hle'=>⟨(hle29.trans hle30).trans hle',t1⟩) (fun B31 hle31 hr31=>?_))⟩
 replace hu:=hu.mono Zh.mono hle31
 replace hf:=hf.mono Zb.mono hle31
 replace hi:=hi.mono Zj.mono hle31
 replace hr29:=hr29.mono Zh.mono hle31
 have hr31n:=hr31.len
 refine aT 10 rfl (ZK fun D B L hI=>ZaH (parts:=[(0,_),(1,_),(2,_),(3,_)]) [_,_,_,_,_] [_,_,_,_,_] rfl rfl ZdV Zba rfl rfl rfl r4) (h:=Zv 11 kr rfl kr (Zam (l:=[_,_,_,_,_]) rfl rfl Zba rfl (fun b32=>?_)))
 refine ⟨⟨((hle29.trans hle30).trans hle31),t1⟩,(ZV 12 kr rfl kr kr kr (ZO [_,_,_,_,_] 5 [_,_,_,_,_] rfl rfl Zaw rfl rfl rfl rfl rfl rfl rfl rfl ?_))⟩
 exact ZH ⟨⟨_,_,_,_,_⟩,⟨0,0,_,_,_,[]⟩⟩ [0,1,3,5] ⟨hr29,rfl,Z3.lit0,hr31⟩ t4 rfl
 refine (Zam (l:=[_,_,_,_,_]) rfl rfl Zba rfl (fun b33=>⟨⟨hle29,t1⟩,(Zv 9 kr rfl kr (Zac rfl rfl Zjs rfl (Zat _ _ x.queue _ hi) ?_))⟩))
 rintro _ B34 _ hle34 ⟨l34,a34,c34,rfl,rfl,hv34⟩
 replace hu:=hu.mono Zh.mono hle34
 replace hf:=hf.mono Zb.mono hle34
 replace hi:=hi.mono Zj.mono hle34
 replace hr29:=hr29.mono Zh.mono hle34
 replace hv34:=hv34.mono Zj.mono Kn.less_le
 refine ⟨⟨(hle29.trans hle34),t1⟩,(ZaJ 5 rfl hv34 Zj.mono om3 (fun B' hle'=>⟨(hle29.trans hle34).trans hle',t1⟩) (fun B35 hle35 hr35=>?_))⟩
 replace hu:=hu.mono Zh.mono hle35
 replace hf:=hf.mono Zb.mono hle35
 replace hi:=hi.mono Zj.mono hle35
 replace hr29:=hr29.mono Zh.mono hle35
 have hr35n:=hr35.len
 refine aT 10 rfl (ZK fun D B L hI=>ZaH (parts:=[(0,_),(1,_),(2,_),(3,_)]) [_,_,_,_,_] [_,_,_,_,_] rfl rfl ZdV Zba rfl rfl rfl r4) (h:=ZV 12 kr rfl kr kr kr (ZO [_,_,_,_,_] 4 [_,_,_,_,_] rfl rfl Zaw rfl rfl rfl rfl rfl rfl rfl rfl ?_))
 exact ZH ⟨⟨_,_,_,_,_⟩,⟨0,0,_,_,_,[]⟩⟩ [0,1,3,4] ⟨hr29,rfl,Z3.lit0,hr35⟩ t4 rfl
 refine (Zam (l:=[_,_,_,_,_]) rfl rfl Zba rfl (fun b36=>⟨⟨Kn.le.refl _,t1⟩,(Zv 5 kr rfl kr (ZaS (R:=Zh) 2 rfl (Z3.lit0 (R:=Zh)) rfl rfl rfl Zot ZnE rfl rfl rfl hu.rows Zh.one rfl om (fun l37 p37 c37 hv37=>?_)))⟩))
 refine ⟨⟨Kn.le.refl _,t1⟩,(ZaJ 2 rfl hv37 Zh.mono om3 (fun B' hle'=>⟨hle',t1⟩) (fun B38 hle38 hr38=>?_))⟩
 replace hu:=hu.mono Zh.mono hle38
 replace hf:=hf.mono Zb.mono hle38
 replace hi:=hi.mono Zj.mono hle38
 have hr38n:=hr38.len
 refine Zv 9 kr rfl kr (Zac rfl rfl Zjs rfl (Zat _ _ x.queue _ hi) ?_)
 rintro _ B39 _ hle39 ⟨l39,a39,c39,rfl,rfl,hv39⟩
 replace hu:=hu.mono Zh.mono hle39
 replace hf:=hf.mono Zb.mono hle39
 replace hi:=hi.mono Zj.mono hle39
 replace hr38:=hr38.mono Zh.mono hle39
 replace hv39:=hv39.mono Zj.mono Kn.less_le
 refine ⟨⟨(hle38.trans hle39),t1⟩,(ZaJ 5 rfl hv39 Zj.mono om3 (fun B' hle'=>⟨(hle38.trans hle39).trans hle',t1⟩) (fun B40 hle40 hr40=>?_))⟩
 replace hu:=hu.mono Zh.mono hle40
 replace hf:=hf.mono Zb.mono hle40
 replace hi:=hi.mono Zj.mono hle40
 replace hr38:=hr38.mono Zh.mono hle40
 have hr40n:=hr40.len
 refine aT 10 rfl (ZK fun D B L hI=>ZaH (parts:=[(0,_),(1,_),(2,_),(3,_)]) [_,_,_,_,_] [_,_,_,_,_] rfl rfl ZdV Zba rfl rfl rfl r4) (h:=ZV 12 kr rfl kr kr kr (ZO [_,_,_,_,_] 4 [_,_,_,_,_] rfl rfl Zaw rfl rfl rfl rfl rfl rfl rfl rfl ?_))
 exact ZH ⟨⟨_,_,_,_,_⟩,⟨0,0,_,_,_,[]⟩⟩ [0,1,3,4] ⟨hr38,rfl,Z3.lit0,hr40⟩ t4 rfl
 refine (Zam (l:=[_,_,_,_,_]) rfl rfl Zba rfl (fun b41=>⟨⟨Kn.le.refl _,t1⟩,(Zap [5,6] kr kr kr ⟨?_,?_⟩)⟩))
 refine (ZaS (R:=Zh) 2 rfl (Z3.lit0 (R:=Zh)) rfl rfl rfl Zot ZnE rfl rfl rfl hu.rows Zh.one rfl om (fun l42 p42 c42 hv42=>?_))
 refine ⟨⟨Kn.le.refl _,t1⟩,(ZaJ 2 rfl hv42 Zh.mono om3 (fun B' hle'=>⟨hle',t1⟩) (fun B43 hle43 hr43=>?_))⟩
 replace hu:=hu.mono Zh.mono hle43
 replace hf:=hf.mono Zb.mono hle43
 replace hi:=hi.mono Zj.mono hle43
 have hr43n:=hr43.len
 refine Zap [6,9] kr kr kr ⟨?_,?_⟩
 refine (Zy (parts:=[]) [] rfl rfl Tryz.underlying24 Zbj Zdx rfl rfl rfl rfl rfl (fun b44=>⟨⟨hle43,t1⟩,(Zv 9 kr rfl kr (Zac rfl rfl Zjs rfl (Zat _ _ x.queue _ hi) ?_))⟩))
 rintro _ B45 _ hle45 ⟨l45,a45,c45,rfl,rfl,hv45⟩
 replace hu:=hu.mono Zh.mono hle45
 replace hf:=hf.mono Zb.mono hle45
 replace hi:=hi.mono Zj.mono hle45
 replace hr43:=hr43.mono Zh.mono hle45
 replace hv45:=hv45.mono Zj.mono Kn.less_le
 refine ⟨⟨(hle43.trans hle45),t1⟩,(ZaJ 5 rfl hv45 Zj.mono om3 (fun B' hle'=>⟨(hle43.trans hle45).trans hle',t1⟩) (fun B46 hle46 hr46=>?_))⟩
 replace hu:=hu.mono Zh.mono hle46
 replace hf:=hf.mono Zb.mono hle46
 replace hi:=hi.mono Zj.mono hle46
 replace hr43:=hr43.mono Zh.mono hle46
 have hr46n:=hr46.len
 refine aT 10 rfl (ZK fun D B L hI=>ZaH (parts:=[(0,_),(1,_),(2,_),(3,_)]) [_,_,_,_,_] [_,_,_,_,_] rfl rfl ZdV Zba rfl rfl rfl r4) (h:=ZV 12 kr rfl kr kr kr (ZO [_,_,_,_,_] 3 [_,_,_,_,_] rfl rfl Zaw rfl rfl rfl rfl rfl rfl rfl rfl ?_))
 exact ZH ⟨⟨_,_,_,_,_⟩,⟨0,0,_,_,_,[]⟩⟩ [0,1,4,3] ⟨hr43,rfl,Z3.lit0,hr46⟩ t4 rfl
 refine (Zac rfl rfl Zjs rfl (Zat _ _ x.queue _ hi) ?_)
 rintro _ B47 _ hle47 ⟨l47,a47,c47,rfl,rfl,hv47⟩
 replace hu:=hu.mono Zh.mono hle47
 replace hf:=hf.mono Zb.mono hle47
 replace hi:=hi.mono Zj.mono hle47
 replace hr43:=hr43.mono Zh.mono hle47
 replace hv47:=hv47.mono Zj.mono Kn.less_le
 refine ⟨⟨(hle43.trans hle47),t1⟩,(ZaJ 4 rfl hv47 Zj.mono om3 (fun B' hle'=>⟨(hle43.trans hle47).trans hle',t1⟩) (fun B48 hle48 hr48=>?_))⟩
 replace hu:=hu.mono Zh.mono hle48
 replace hf:=hf.mono Zb.mono hle48
 replace hi:=hi.mono Zj.mono hle48
 replace hr43:=hr43.mono Zh.mono hle48
 have hr48n:=hr48.len
 refine Zv 6 kr rfl kr (Zy (parts:=[]) [] rfl rfl Tryz.underlying24 Zbj Zdx rfl rfl rfl rfl rfl (fun b49=>?_))
 refine ⟨⟨((hle43.trans hle47).trans hle48),t1⟩,(aT 10 rfl (ZK fun D B L hI=>ZaH (parts:=[(0,_),(1,_),(2,_),(3,_)]) [_,_,_,_,_] [_,_,_,_,_] rfl rfl ZdV Zba rfl rfl rfl r4) (h:=ZV 12 kr rfl kr kr kr (ZO [_,_,_,_,_] 3 [_,_,_,_,_] rfl rfl Zaw rfl rfl rfl rfl rfl rfl rfl rfl ?_)))⟩
 exact ZH ⟨⟨_,_,_,_,_⟩,⟨0,0,_,_,_,[]⟩⟩ [0,1,5,3] ⟨hr43,rfl,Z3.lit0,hr48⟩ t4 rfl
 refine (Zy (parts:=[]) [] rfl rfl Tryz.underlying24 Zbj Zdx rfl rfl rfl rfl rfl (fun b50=>⟨⟨Kn.le.refl _,t1⟩,(Zv 5 kr rfl kr (ZaS (R:=Zh) 2 rfl (Z3.lit0 (R:=Zh)) rfl rfl rfl Zot ZnE rfl rfl rfl hu.rows Zh.one rfl om (fun l51 p51 c51 hv51=>?_)))⟩))
 refine ⟨⟨Kn.le.refl _,t1⟩,(ZaJ 2 rfl hv51 Zh.mono om3 (fun B' hle'=>⟨hle',t1⟩) (fun B52 hle52 hr52=>?_))⟩
 replace hu:=hu.mono Zh.mono hle52
 replace hf:=hf.mono Zb.mono hle52
 replace hi:=hi.mono Zj.mono hle52
 have hr52n:=hr52.len
 refine Zv 9 kr rfl kr (Zac rfl rfl Zjs rfl (Zat _ _ x.queue _ hi) ?_)
 rintro _ B53 _ hle53 ⟨l53,a53,c53,rfl,rfl,hv53⟩
 replace hu:=hu.mono Zh.mono hle53
 replace hf:=hf.mono Zb.mono hle53
 replace hi:=hi.mono Zj.mono hle53
 replace hr52:=hr52.mono Zh.mono hle53
 replace hv53:=hv53.mono Zj.mono Kn.less_le
 refine ⟨⟨(hle52.trans hle53),t1⟩,(ZaJ 5 rfl hv53 Zj.mono om3 (fun B' hle'=>⟨(hle52.trans hle53).trans hle',t1⟩) (fun B54 hle54 hr54=>?_))⟩
 replace hu:=hu.mono Zh.mono hle54
 replace hf:=hf.mono Zb.mono hle54
 replace hi:=hi.mono Zj.mono hle54
 replace hr52:=hr52.mono Zh.mono hle54
 have hr54n:=hr54.len
 refine aT 10 rfl (ZK fun D B L hI=>ZaH (parts:=[(0,_),(1,_),(2,_),(3,_)]) [_,_,_,_,_] [_,_,_,_,_] rfl rfl ZdV Zba rfl rfl rfl r4) (h:=ZV 12 kr rfl kr kr kr (ZO [_,_,_,_,_] 3 [_,_,_,_,_] rfl rfl Zaw rfl rfl rfl rfl rfl rfl rfl rfl ?_))
 exact ZH ⟨⟨_,_,_,_,_⟩,⟨0,0,_,_,_,[]⟩⟩ [0,1,4,3] ⟨hr52,rfl,Z3.lit0,hr54⟩ t4 rfl
 refine (Zy (parts:=[]) [] rfl rfl Tryz.underlying24 Zbj Zdx rfl rfl rfl rfl rfl (fun b55=>⟨⟨Kn.le.refl _,t1⟩,(Zap [2,11] kr kr kr ⟨?_,?_⟩)⟩))
 refine (Zy (parts:=[]) [] rfl rfl Tryz.underlying23 ZeY Zge rfl rfl rfl rfl rfl (fun b56=>⟨⟨Kn.le.refl _,t1⟩,(Zap [5,11] kr kr kr ⟨?_,?_⟩)⟩))
 refine (ZaS (R:=Zh) 3 rfl (Z3.lit0 (R:=Zh)) rfl rfl rfl Zot ZnE rfl rfl rfl hu.rows Zh.one rfl om (fun l57 p57 c57 hv57=>?_))
 refine ⟨⟨Kn.le.refl _,t1⟩,(ZaJ 3 rfl hv57 Zh.mono om3 (fun B' hle'=>⟨hle',t1⟩) (fun B58 hle58 hr58=>?_))⟩
 replace hu:=hu.mono Zh.mono hle58
 replace hf:=hf.mono Zb.mono hle58
 replace hi:=hi.mono Zj.mono hle58
 have hr58n:=hr58.len
 refine Zap [9,11] kr kr kr ⟨?_,?_⟩
 refine (Zac rfl rfl Zjs rfl (Zat _ _ x.queue _ hi) ?_)
 rintro _ B59 _ hle59 ⟨l59,a59,c59,rfl,rfl,hv59⟩
 replace hu:=hu.mono Zh.mono hle59
 replace hf:=hf.mono Zb.mono hle59
 replace hi:=hi.mono Zj.mono hle59
 replace hr58:=hr58.mono Zh.mono hle59
 replace hv59:=hv59.mono Zj.mono Kn.less_le
 refine ⟨⟨(hle58.trans hle59),t1⟩,(ZaJ 4 rfl hv59 Zj.mono om3 (fun B' hle'=>⟨(hle58.trans hle59).trans hle',t1⟩) (fun B60 hle60 hr60=>?_))⟩
 replace hu:=hu.mono Zh.mono hle60
 replace hf:=hf.mono Zb.mono hle60
 replace hi:=hi.mono Zj.mono hle60
 replace hr58:=hr58.mono Zh.mono hle60
 have hr60n:=hr60.len
 refine aT 10 rfl (ZK fun D B L hI=>ZaH (parts:=[(0,_),(1,_),(2,_),(3,_)]) [_,_,_,_,_] [_,_,_,_,_] rfl rfl ZdV Zba rfl rfl rfl r4) (h:=Zv 11 kr rfl kr (Zam (l:=[_,_,_,_,_]) rfl rfl Zba rfl (fun b61=>?_)))
 refine ⟨⟨((hle58.trans hle59).trans hle60),t1⟩,(ZV 12 kr rfl kr kr kr (ZO [_,_,_,_,_] 5 [_,_,_,_,_] rfl rfl Zaw rfl rfl rfl rfl rfl rfl rfl rfl ?_))⟩
 exact ZH ⟨⟨_,_,_,_,_⟩,⟨0,0,_,_,_,[]⟩⟩ [0,1,2,5] ⟨hr58,rfl,Z3.lit0,hr60⟩ t4 rfl
 refine (Zam (l:=[_,_,_,_,_]) rfl rfl Zba rfl (fun b62=>⟨⟨hle58,t1⟩,(Zv 9 kr rfl kr (Zac rfl rfl Zjs rfl (Zat _ _ x.queue _ hi) ?_))⟩))
 rintro _ B63 _ hle63 ⟨l63,a63,c63,rfl,rfl,hv63⟩
 replace hu:=hu.mono Zh.mono hle63
 replace hf:=hf.mono Zb.mono hle63
 replace hi:=hi.mono Zj.mono hle63
 replace hr58:=hr58.mono Zh.mono hle63
 replace hv63:=hv63.mono Zj.mono Kn.less_le
 refine ⟨⟨(hle58.trans hle63),t1⟩,(ZaJ 5 rfl hv63 Zj.mono om3 (fun B' hle'=>⟨(hle58.trans hle63).trans hle',t1⟩) (fun B64 hle64 hr64=>?_))⟩
 replace hu:=hu.mono Zh.mono hle64
 replace hf:=hf.mono Zb.mono hle64
 replace hi:=hi.mono Zj.mono hle64
 replace hr58:=hr58.mono Zh.mono hle64
 have hr64n:=hr64.len
 refine aT 10 rfl (ZK fun D B L hI=>ZaH (parts:=[(0,_),(1,_),(2,_),(3,_)]) [_,_,_,_,_] [_,_,_,_,_] rfl rfl ZdV Zba rfl rfl rfl r4) (h:=ZV 12 kr rfl kr kr kr (ZO [_,_,_,_,_] 4 [_,_,_,_,_] rfl rfl Zaw rfl rfl rfl rfl rfl rfl rfl rfl ?_))
 exact ZH ⟨⟨_,_,_,_,_⟩,⟨0,0,_,_,_,[]⟩⟩ [0,1,2,4] ⟨hr58,rfl,Z3.lit0,hr64⟩ t4 rfl
 refine (Zam (l:=[_,_,_,_,_]) rfl rfl Zba rfl (fun b65=>⟨⟨Kn.le.refl _,t1⟩,(Zv 5 kr rfl kr (ZaS (R:=Zh) 3 rfl (Z3.lit0 (R:=Zh)) rfl rfl rfl Zot ZnE rfl rfl rfl hu.rows Zh.one rfl om (fun l66 p66 c66 hv66=>?_)))⟩))
 refine ⟨⟨Kn.le.refl _,t1⟩,(ZaJ 3 rfl hv66 Zh.mono om3 (fun B' hle'=>⟨hle',t1⟩) (fun B67 hle67 hr67=>?_))⟩
 replace hu:=hu.mono Zh.mono hle67
 replace hf:=hf.mono Zb.mono hle67
 replace hi:=hi.mono Zj.mono hle67
 have hr67n:=hr67.len
 refine Zv 9 kr rfl kr (Zac rfl rfl Zjs rfl (Zat _ _ x.queue _ hi) ?_)
 rintro _ B68 _ hle68 ⟨l68,a68,c68,rfl,rfl,hv68⟩
 replace hu:=hu.mono Zh.mono hle68
 replace hf:=hf.mono Zb.mono hle68
 replace hi:=hi.mono Zj.mono hle68
 replace hr67:=hr67.mono Zh.mono hle68
 replace hv68:=hv68.mono Zj.mono Kn.less_le
 refine ⟨⟨(hle67.trans hle68),t1⟩,(ZaJ 5 rfl hv68 Zj.mono om3 (fun B' hle'=>⟨(hle67.trans hle68).trans hle',t1⟩) (fun B69 hle69 hr69=>?_))⟩
 replace hu:=hu.mono Zh.mono hle69
 replace hf:=hf.mono Zb.mono hle69
 replace hi:=hi.mono Zj.mono hle69
 replace hr67:=hr67.mono Zh.mono hle69
 have hr69n:=hr69.len
 refine aT 10 rfl (ZK fun D B L hI=>ZaH (parts:=[(0,_),(1,_),(2,_),(3,_)]) [_,_,_,_,_] [_,_,_,_,_] rfl rfl ZdV Zba rfl rfl rfl r4) (h:=ZV 12 kr rfl kr kr kr (ZO [_,_,_,_,_] 4 [_,_,_,_,_] rfl rfl Zaw rfl rfl rfl rfl rfl rfl rfl rfl ?_))
 exact ZH ⟨⟨_,_,_,_,_⟩,⟨0,0,_,_,_,[]⟩⟩ [0,1,2,4] ⟨hr67,rfl,Z3.lit0,hr69⟩ t4 rfl
 refine (Zam (l:=[_,_,_,_,_]) rfl rfl Zba rfl (fun b70=>⟨⟨Kn.le.refl _,t1⟩,(Zv 2 kr rfl kr (Zy (parts:=[]) [] rfl rfl Tryz.underlying23 ZeY Zge rfl rfl rfl rfl rfl (fun b71=>?_)))⟩))
 refine ⟨⟨Kn.le.refl _,t1⟩,(Zv 5 kr rfl kr (ZaS (R:=Zh) 4 rfl (Z3.lit0 (R:=Zh)) rfl rfl rfl Zot ZnE rfl rfl rfl hu.rows Zh.one rfl om (fun l72 p72 c72 hv72=>?_)))⟩
 refine ⟨⟨Kn.le.refl _,t1⟩,(ZaJ 4 rfl hv72 Zh.mono om3 (fun B' hle'=>⟨hle',t1⟩) (fun B73 hle73 hr73=>?_))⟩
 replace hu:=hu.mono Zh.mono hle73
 replace hf:=hf.mono Zb.mono hle73
 replace hi:=hi.mono Zj.mono hle73
 have hr73n:=hr73.len
 refine Zv 9 kr rfl kr (Zac rfl rfl Zjs rfl (Zat _ _ x.queue _ hi) ?_)
 rintro _ B74 _ hle74 ⟨l74,a74,c74,rfl,rfl,hv74⟩
 replace hu:=hu.mono Zh.mono hle74
 replace hf:=hf.mono Zb.mono hle74
 replace hi:=hi.mono Zj.mono hle74
 replace hr73:=hr73.mono Zh.mono hle74
 replace hv74:=hv74.mono Zj.mono Kn.less_le
 refine ⟨⟨(hle73.trans hle74),t1⟩,(ZaJ 5 rfl hv74 Zj.mono om3 (fun B' hle'=>⟨(hle73.trans hle74).trans hle',t1⟩) (fun B75 hle75 hr75=>?_))⟩
 replace hu:=hu.mono Zh.mono hle75
 replace hf:=hf.mono Zb.mono hle75
 replace hi:=hi.mono Zj.mono hle75
 replace hr73:=hr73.mono Zh.mono hle75
 have hr75n:=hr75.len
 refine aT 10 rfl (ZK fun D B L hI=>ZaH (parts:=[(0,_),(1,_),(2,_),(3,_)]) [_,_,_,_,_] [_,_,_,_,_] rfl rfl ZdV Zba rfl rfl rfl r4) (h:=ZV 12 kr rfl kr kr kr (ZO [_,_,_,_,_] 3 [_,_,_,_,_] rfl rfl Zaw rfl rfl rfl rfl rfl rfl rfl rfl ?_))
 exact ZH ⟨⟨_,_,_,_,_⟩,⟨0,0,_,_,_,[]⟩⟩ [0,1,2,3] ⟨hr73,rfl,Z3.lit0,hr75⟩ t4 rfl
 refine (Zam (l:=[_,_,_,_,_]) rfl rfl Zba rfl (fun b76=>⟨⟨Kn.le.refl _,t1⟩,(Zap [2,6] kr kr kr ⟨?_,?_⟩)⟩))
 refine (Zy (parts:=[]) [] rfl rfl Tryz.underlying23 ZeY Zge rfl rfl rfl rfl rfl (fun b77=>⟨⟨Kn.le.refl _,t1⟩,(Zap [5,6] kr kr kr ⟨?_,?_⟩)⟩))
 refine (ZaS (R:=Zh) 3 rfl (Z3.lit0 (R:=Zh)) rfl rfl rfl Zot ZnE rfl rfl rfl hu.rows Zh.one rfl om (fun l78 p78 c78 hv78=>?_))
 refine ⟨⟨Kn.le.refl _,t1⟩,(ZaJ 3 rfl hv78 Zh.mono om3 (fun B' hle'=>⟨hle',t1⟩) (fun B79 hle79 hr79=>?_))⟩
 replace hu:=hu.mono Zh.mono hle79
 replace hf:=hf.mono Zb.mono hle79
 replace hi:=hi.mono Zj.mono hle79
 have hr79n:=hr79.len
 refine Zap [6,9] kr kr kr ⟨?_,?_⟩
 refine (Zy (parts:=[]) [] rfl rfl Tryz.underlying24 Zbj Zdx rfl rfl rfl rfl rfl (fun b80=>⟨⟨hle79,t1⟩,(Zv 9 kr rfl kr (Zac rfl rfl Zjs rfl (Zat _ _ x.queue _ hi) ?_))⟩))
 rintro _ B81 _ hle81 ⟨l81,a81,c81,rfl,rfl,hv81⟩
 replace hu:=hu.mono Zh.mono hle81
 replace hf:=hf.mono Zb.mono hle81
 replace hi:=hi.mono Zj.mono hle81
 replace hr79:=hr79.mono Zh.mono hle81
 replace hv81:=hv81.mono Zj.mono Kn.less_le
 refine ⟨⟨(hle79.trans hle81),t1⟩,(ZaJ 5 rfl hv81 Zj.mono om3 (fun B' hle'=>⟨(hle79.trans hle81).trans hle',t1⟩) (fun B82 hle82 hr82=>?_))⟩
 replace hu:=hu.mono Zh.mono hle82
 replace hf:=hf.mono Zb.mono hle82
 replace hi:=hi.mono Zj.mono hle82
 replace hr79:=hr79.mono Zh.mono hle82
 have hr82n:=hr82.len
 refine aT 10 rfl (ZK fun D B L hI=>ZaH (parts:=[(0,_),(1,_),(2,_),(3,_)]) [_,_,_,_,_] [_,_,_,_,_] rfl rfl ZdV Zba rfl rfl rfl r4) (h:=ZV 12 kr rfl kr kr kr (ZO [_,_,_,_,_] 2 [_,_,_,_,_] rfl rfl Zaw rfl rfl rfl rfl rfl rfl rfl rfl ?_))
 exact ZH ⟨⟨_,_,_,_,_⟩,⟨0,0,_,_,_,[]⟩⟩ [0,1,4,2] ⟨hr79,rfl,Z3.lit0,hr82⟩ t4 rfl
 refine (Zac rfl rfl Zjs rfl (Zat _ _ x.queue _ hi) ?_)
 rintro _ B83 _ hle83 ⟨l83,a83,c83,rfl,rfl,hv83⟩
 replace hu:=hu.mono Zh.mono hle83
 replace hf:=hf.mono Zb.mono hle83
 replace hi:=hi.mono Zj.mono hle83
 replace hr79:=hr79.mono Zh.mono hle83
 replace hv83:=hv83.mono Zj.mono Kn.less_le
 refine ⟨⟨(hle79.trans hle83),t1⟩,(ZaJ 4 rfl hv83 Zj.mono om3 (fun B' hle'=>⟨(hle79.trans hle83).trans hle',t1⟩) (fun B84 hle84 hr84=>?_))⟩
 replace hu:=hu.mono Zh.mono hle84
 replace hf:=hf.mono Zb.mono hle84
 replace hi:=hi.mono Zj.mono hle84
 replace hr79:=hr79.mono Zh.mono hle84
 have hr84n:=hr84.len
 refine Zv 6 kr rfl kr (Zy (parts:=[]) [] rfl rfl Tryz.underlying24 Zbj Zdx rfl rfl rfl rfl rfl (fun b85=>?_))
 refine ⟨⟨((hle79.trans hle83).trans hle84),t1⟩,(aT 10 rfl (ZK fun D B L hI=>ZaH (parts:=[(0,_),(1,_),(2,_),(3,_)]) [_,_,_,_,_] [_,_,_,_,_] rfl rfl ZdV Zba rfl rfl rfl r4) (h:=ZV 12 kr rfl kr kr kr (ZO [_,_,_,_,_] 2 [_,_,_,_,_] rfl rfl Zaw rfl rfl rfl rfl rfl rfl rfl rfl ?_)))⟩
 exact ZH ⟨⟨_,_,_,_,_⟩,⟨0,0,_,_,_,[]⟩⟩ [0,1,5,2] ⟨hr79,rfl,Z3.lit0,hr84⟩ t4 rfl
 refine (Zy (parts:=[]) [] rfl rfl Tryz.underlying24 Zbj Zdx rfl rfl rfl rfl rfl (fun b86=>⟨⟨Kn.le.refl _,t1⟩,(Zv 5 kr rfl kr (ZaS (R:=Zh) 3 rfl (Z3.lit0 (R:=Zh)) rfl rfl rfl Zot ZnE rfl rfl rfl hu.rows Zh.one rfl om (fun l87 p87 c87 hv87=>?_)))⟩))
 refine ⟨⟨Kn.le.refl _,t1⟩,(ZaJ 3 rfl hv87 Zh.mono om3 (fun B' hle'=>⟨hle',t1⟩) (fun B88 hle88 hr88=>?_))⟩
 replace hu:=hu.mono Zh.mono hle88
 replace hf:=hf.mono Zb.mono hle88
 replace hi:=hi.mono Zj.mono hle88
 have hr88n:=hr88.len
 refine Zv 9 kr rfl kr (Zac rfl rfl Zjs rfl (Zat _ _ x.queue _ hi) ?_)
 rintro _ B89 _ hle89 ⟨l89,a89,c89,rfl,rfl,hv89⟩
 replace hu:=hu.mono Zh.mono hle89
 replace hf:=hf.mono Zb.mono hle89
 replace hi:=hi.mono Zj.mono hle89
 replace hr88:=hr88.mono Zh.mono hle89
 replace hv89:=hv89.mono Zj.mono Kn.less_le
 refine ⟨⟨(hle88.trans hle89),t1⟩,(ZaJ 5 rfl hv89 Zj.mono om3 (fun B' hle'=>⟨(hle88.trans hle89).trans hle',t1⟩) (fun B90 hle90 hr90=>?_))⟩
 replace hu:=hu.mono Zh.mono hle90
 replace hf:=hf.mono Zb.mono hle90
 replace hi:=hi.mono Zj.mono hle90
 replace hr88:=hr88.mono Zh.mono hle90
 have hr90n:=hr90.len
 refine aT 10 rfl (ZK fun D B L hI=>ZaH (parts:=[(0,_),(1,_),(2,_),(3,_)]) [_,_,_,_,_] [_,_,_,_,_] rfl rfl ZdV Zba rfl rfl rfl r4) (h:=ZV 12 kr rfl kr kr kr (ZO [_,_,_,_,_] 2 [_,_,_,_,_] rfl rfl Zaw rfl rfl rfl rfl rfl rfl rfl rfl ?_))
 exact ZH ⟨⟨_,_,_,_,_⟩,⟨0,0,_,_,_,[]⟩⟩ [0,1,4,2] ⟨hr88,rfl,Z3.lit0,hr90⟩ t4 rfl
 refine (Zy (parts:=[]) [] rfl rfl Tryz.underlying24 Zbj Zdx rfl rfl rfl rfl rfl (fun b91=>⟨⟨Kn.le.refl _,t1⟩,(Zv 2 kr rfl kr (Zy (parts:=[]) [] rfl rfl Tryz.underlying23 ZeY Zge rfl rfl rfl rfl rfl (fun b92=>?_)))⟩))
 refine ⟨⟨Kn.le.refl _,t1⟩,(Zv 5 kr rfl kr (ZaS (R:=Zh) 4 rfl (Z3.lit0 (R:=Zh)) rfl rfl rfl Zot ZnE rfl rfl rfl hu.rows Zh.one rfl om (fun l93 p93 c93 hv93=>?_)))⟩
 refine ⟨⟨Kn.le.refl _,t1⟩,(ZaJ 4 rfl hv93 Zh.mono om3 (fun B' hle'=>⟨hle',t1⟩) (fun B94 hle94 hr94=>?_))⟩
 replace hu:=hu.mono Zh.mono hle94
 replace hf:=hf.mono Zb.mono hle94
 replace hi:=hi.mono Zj.mono hle94
 have hr94n:=hr94.len
 refine Zv 9 kr rfl kr (Zac rfl rfl Zjs rfl (Zat _ _ x.queue _ hi) ?_)
 rintro _ B95 _ hle95 ⟨l95,a95,c95,rfl,rfl,hv95⟩
 replace hu:=hu.mono Zh.mono hle95
 replace hf:=hf.mono Zb.mono hle95
 replace hi:=hi.mono Zj.mono hle95
 replace hr94:=hr94.mono Zh.mono hle95
 replace hv95:=hv95.mono Zj.mono Kn.less_le
 refine ⟨⟨(hle94.trans hle95),t1⟩,(ZaJ 5 rfl hv95 Zj.mono om3 (fun B' hle'=>⟨(hle94.trans hle95).trans hle',t1⟩) (fun B96 hle96 hr96=>?_))⟩
 replace hu:=hu.mono Zh.mono hle96
 replace hf:=hf.mono Zb.mono hle96
 replace hi:=hi.mono Zj.mono hle96
 replace hr94:=hr94.mono Zh.mono hle96
 have hr96n:=hr96.len
 refine aT 10 rfl (ZK fun D B L hI=>ZaH (parts:=[(0,_),(1,_),(2,_),(3,_)]) [_,_,_,_,_] [_,_,_,_,_] rfl rfl ZdV Zba rfl rfl rfl r4) (h:=ZV 12 kr rfl kr kr kr (ZO [_,_,_,_,_] 2 [_,_,_,_,_] rfl rfl Zaw rfl rfl rfl rfl rfl rfl rfl rfl ?_))
 exact ZH ⟨⟨_,_,_,_,_⟩,⟨0,0,_,_,_,[]⟩⟩ [0,1,3,2] ⟨hr94,rfl,Z3.lit0,hr96⟩ t4 rfl
 obtain ⟨hou,hoe,hv0,hoi⟩:=hF
 replace hu:=hu.mono Zh.mono hle3
 replace hf:=hf.mono Zb.mono hle3
 replace hi:=hi.mono Zj.mono hle3
 refine ZQ [(0,_),(1,_),(2,_),(3,_)] [_,_,_,_] t4 rfl (Zm (Za (xA (h:=Zr (ZU (α:=Gh DFolder) [0,1,2,3] (fun g=>[(4,.int .i64 g.k)]) [2,3] (fun g=>[g.l,ZaY o.1.b [str x.domain,.slice o.1.q1 x.users.length o.1.c1,.slice g.a g.xs.length g.c,.int .i64 x.queue.next,.slice o.1.q3 x.queue.items.length o.1.c3] 29]) (fun g Bx=>g.k≤x.folders.length∧g.xs=x.folders.take g.k∧Z3 Bx g.l g.a g.c 58 5 Zb g.xs) (fun g=>x.folders.length - g.k) ⟨0,0,_,_,_,_⟩ t1 rfl (⟨Nat.zero_le _,by rw [hoe];rfl,hv0⟩) (fun g B97 hle97 hI=>?_))))))
 obtain ⟨hk,hxs,hv⟩:=hI
 have hxn:=congrArg List.length hxs
 rw [List.length_take] at hxn
 replace hu:=hu.mono Zh.mono hle97
 replace hf:=hf.mono Zb.mono hle97
 replace hi:=hi.mono Zj.mono hle97
 replace hou:=hou.mono Zh.mono hle97
 replace hoi:=hoi.mono Zj.mono hle97
 refine ZQ [(0,_),(1,_),(2,_),(3,_),(4,_)] [_,_,_,_] t5 rfl (Zm (Za (xM (h:=xW Z0 (h:=x1 Zcy 0 (h:=xV Tryz.underlying24 (h:=Zai (h:=Zd rfl (fun g1=>?_) (fun g1=>?_)))))))))
 try simp only [sQ,ne_eq] at g1
 refine Zi (Zf (Zm (Zr (Z9 (keeps _ [0,3] _) mo kr ⟨Kn.le.refl _,Zar.refl _ _⟩ (fun _ _=>?_)))))
 refine aW 0 rfl Z0 (h:=aT 1 rfl (ZK fun D B L hI=>Zl rfl rfl Zcy rfl (atL 3 (hI.2.2.1.trans rfl) rfl rfl) r4) (h:=aW 2 rfl Z0 (h:=aT 3 rfl (ZK fun D B L hI=>Zl rfl rfl Zcy rfl (atL 0 (hI.2.1.trans rfl) rfl rfl) r4) (h:=aM 4 rfl (h:=?_)))))
 obtain ⟨w,hw⟩:=Zax (xs:=x.folders) (i:=g.k) om
 obtain ⟨bb99,oo99,rfl⟩:=hf.base hw
 obtain ⟨_,⟨qg100,cg100,qm100,cm100,rfl,hg100,hm100,hb100,hb100b⟩,hc100⟩:=hf.elem hw
 have hg100n:=hg100.len
 have hm100n:=hm100.len
 have hm100s:=Z4 hm100
 refine aIx 5 rfl Tryz.underlying24 Zbj (h:=aT 6 rfl (ZK fun D B L hI=>Zag [_,_,_,_,_] rfl rfl ZgQ rfl (Zl1 (hc100.mono hI.1) 0 rfl rfl) r4) (h:=Zv 7 kr rfl kr (Zac rfl rfl Zxn rfl (Zmi _ _ _ _ w _ hg100 hm100) ?_)))
 rintro _ B101 _ hle101 ⟨rfl,l101,a101,c101,l101b,a101b,c101b,rfl,rfl,hs101,hs101b⟩
 refine ⟨⟨Kn.le.refl _,t2⟩,(ZaJ 4 rfl hs101 ZG.mono om3 (fun B' hle'=>⟨hle',t2⟩) (fun B102 hle102 hr102=>?_))⟩
 replace hu:=hu.mono Zh.mono hle102
 replace hf:=hf.mono Zb.mono hle102
 replace hi:=hi.mono Zj.mono hle102
 replace hg100:=hg100.mono ZG.mono hle102
 replace hm100:=hm100.mono ZJ.mono hle102
 replace hc100:=hc100.mono hle102
 replace hv:=hv.mono Zb.mono hle102
 replace hou:=hou.mono Zh.mono hle102
 replace hoi:=hoi.mono Zj.mono hle102
 replace hs101b:=hs101b.mono ZJ.mono hle102
 have hr102n:=hr102.len
 refine ZaJ 5 rfl hs101b ZJ.mono om3 (fun B' hle'=>⟨hle102.trans hle',t2⟩) (fun B103 hle103 hr103=>?_)
 replace hu:=hu.mono Zh.mono hle103
 replace hf:=hf.mono Zb.mono hle103
 replace hi:=hi.mono Zj.mono hle103
 replace hg100:=hg100.mono ZG.mono hle103
 replace hm100:=hm100.mono ZJ.mono hle103
 replace hc100:=hc100.mono hle103
 replace hr102:=hr102.mono ZG.mono hle103
 replace hv:=hv.mono Zb.mono hle103
 replace hou:=hou.mono Zh.mono hle103
 replace hoi:=hoi.mono Zj.mono hle103
 have hr103n:=hr103.len
 refine Zv 8 kr rfl kr (Zy (parts:=[(0,_)]) [_,_,_,_,_] rfl rfl Tryz.underlying24 Zbj Zdx rfl rfl rfl rfl rfl (fun b104=>?_))
 refine ⟨⟨(hle102.trans hle103),t2⟩,(Zv 9 kr rfl kr (Za8 (z:=⟨w.owner,w.name,w.grants,w.next,w.mail⟩) (R:=Zb) 2 rfl hv rfl rfl rfl ZiO ZiI rfl rfl (ZaV.box 6 rfl) rfl rfl (⟨_,_,_,_,rfl,hr102,hr103,by first | assumption | omega | (simp;done) | (simp;omega),by first | assumption | omega | (simp;done) | (simp;omega)⟩) om (fun l105 p105 c105 hv105=>?_)))⟩
 refine ⟨⟨(hle102.trans hle103),t2⟩,(aW 10 rfl Z0 (h:=ZV 11 kr rfl kr kr kr (ZO [_] 3 [_,_,_,_,_] rfl rfl ZqU rfl rfl rfl rfl rfl rfl rfl rfl ?_)))⟩
 refine Zz (Zf (Ze (xM (h:=xD (h:=xA (h:=?_))))))
 exact ZE ⟨g.k+1,0,l105,p105,c105,(g.xs ++ [⟨w.owner,w.name,w.grants,w.next,w.mail⟩])⟩ [0,1,2,3] so2 ⟨so,by simp only [];rw [Zay hw,hxs],hv105⟩ t5 rfl
 try simp only [sQ,ne_eq] at g1
 have hxe:g.xs=x.folders:=by rw [hxs];exact List.take_of_length_le oz
 refine ZY (Zal (Z6 (ZN (Zf (Za (xL [_,_,_,_,_] Z2 3 (h:=xS [_,_,_,_,_] 1 [_,_,_,_,_] Zaw (h:=Zw [_,_,_,_] rfl (Zg ?_)))))))))
 exact Zaf .ret (.inl rfl) [_] [2] rfl ⟨⟨_,rfl,.inr ⟨[_,_,_,_,_],Z2,Zad 1 rfl rfl rfl,rfl⟩⟩,trivial⟩ ⟨_,_,_,_,_,_,_,rfl,by rw [← hxe];rfl,hou,hxe ▸ hv,hoi⟩

set_option maxHeartbeats 400000 in
theorem ZhV (q:Option Addr) (cp:Nat) (x:DBox) (fl:Int) (t:Str) (ht:t.length≤2000000) (hb:Zbh x=true) (B:Kn) (hm:SlK B q cp 3 ZJ x.mail):ZM (pj J) 133 [.agg #[.int .i64 x.next,.slice q x.mail.length cp],.int .i64 fl,str t] B [] (fun v B' Ls=>∃l a c,Ls=[l]∧v = .tuple #[.agg #[.int .i64 (ZgA x fl t).1.next,.slice a (ZgA x fl t).1.mail.length c],.bool (ZgA x fl t).2]∧Z3 B' l a c 150 3 ZJ (ZgA x fl t).1.mail):=by
 refine Zc 36 Tryz.func133 rfl rfl rfl (Nat.le_of_ble_eq_true rfl) ?_
 have hxn:=hm.len
 have hbn:=Zde hb
 refine Za (xBx [_,_] (h:=fun b1=>xAl [_,_] ZeW (h:=fun b2=>xA (h:=Zw [_,_] rfl (Za (xL [_,_] ZbN 0 (h:=Zn (Zac rfl rfl ZtR rfl (ZhU _ _ (⟨x.next,x.mail⟩:DBox) _ hm) ?_))))))))
 rintro _ B3 _ hle3 ⟨hB3,l3,a3,c3,rfl,rfl,hs3⟩
 have hB3:=hB3.symm
 subst hB3
 refine xAl [_,_] ZeW (h:=fun b4=>xS [_,_] 3 [_,_] ZcC (h:=Zw [_,_,_,_] rfl (Zm (Za (xW ZaU (h:=x1 ZfJ 0 (h:=xV Tryz.underlying54 (h:=ZdS (h:=xM (h:=Zt (d:=15) rfl (fun g1=>?_) (fun g1=>?_)))))))))))
 try simp only [sQ,ne_eq] at g1
 have hae:=Zly (fl:=fl) (t:=t) (b:=x) (.inl oz)
 rw [hae]
 refine xP (h:=xP (h:=xP (h:=xT (h:=Zd (t:=true) rfl (fun _=>Za (xL [_,_] ZbN 3 (h:=xS [_,_] 1 [_,_] ZcC (h:=xA (h:=Zw [_,_,_,_] rfl (Zg (Zs ?_))))))) (fun h=>Bool.noConfusion h)))))
 exact Zaf .ret (.inl rfl) [_,_] [2] rfl ⟨⟨_,rfl,.inr ⟨[_,_],ZbN,Zad 1 rfl rfl rfl,rfl⟩⟩,rfl,trivial⟩ ⟨_,_,_,rfl,rfl,hs3⟩
 try simp only [sQ,ne_eq] at g1
 refine xW Zcz (h:=x1 lk3 0 (h:=ZbA (h:=xF (h:=Zd rfl (fun g2=>?_) (fun g2=>?_)))))
 try simp only [sQ,ne_eq] at g2
 have hae:=Zly (fl:=fl) (t:=t) (b:=x) (.inr oz)
 rw [hae]
 refine Za (xL [_,_] ZbN 3 (h:=xS [_,_] 1 [_,_] ZcC (h:=xA (h:=Zw [_,_,_,_] rfl (Zg (Zs ?_))))))
 exact Zaf .ret (.inl rfl) [_,_] [2] rfl ⟨⟨_,rfl,.inr ⟨[_,_],ZbN,Zad 1 rfl rfl rfl,rfl⟩⟩,rfl,trivial⟩ ⟨_,_,_,rfl,rfl,hs3⟩
 try simp only [sQ,ne_eq] at g2
 have hae:=Zt1 (fl:=fl) (t:=t) (b:=x) oz
 rw [hae]
 refine Zi (Zf (Za (xW ZaU (h:=x1 ZfJ 3 (h:=xW Zcz (h:=x1 lk3 0 (h:=xM (h:=xM (h:=xB [(0,_),(1,_),(2,_)] [_,_,_] [_,_,_] ZvZ Zgf (h:=xBs [(0,_)] [_,_,_] Tryz.underlying54 ZcW Zgf (h:=fun b5=>Zn (Za8 (z:=⟨x.next,fl,t⟩) (R:=ZJ) 2 rfl hs3 rfl rfl rfl Zvt Zvr rfl rfl (ZaV.box 4 rfl) rfl rfl (⟨rfl,by first | assumption | omega | (simp;done) | (simp;omega)⟩) om (fun l6 p6 c6 hv6=>?_)))))))))))))
 refine xW ZaU (h:=xS [_] 3 [_,_] ZvV (h:=Zw [_,_,_,_,_] rfl (Za (xW Zcz (h:=x1 lk3 0 (h:=xD (h:=xW Zcz (h:=xS [_] 3 [_,_] sz3 (h:=Zw [_,_,_,_,_] rfl (Za (xL [_,_] ZbN 3 (h:=xS [_,_] 1 [_,_] ZcC (h:=?_)))))))))))))
 refine xA (h:=Zw [_,_,_,_,_] rfl (Zg ?_))
 exact Zaf .ret (.inl rfl) [_,_] [2] rfl ⟨⟨_,rfl,.inr ⟨[_,_],ZbN,Zad 1 rfl rfl rfl,rfl⟩⟩,rfl,trivial⟩ ⟨_,_,_,rfl,rfl,hv6⟩

set_option maxHeartbeats 400000 in
theorem Zhd (q1 q2 q3:Option Addr) (c1 c2 c3:Nat) (x:DHost) (k fl:Int) (t:Str) (ht:t.length≤20) (hok:ZA x=true) (hk0:0≤k) (hk1:k<x.folders.length) (hd:x.domain.length≤2000000) (B:Kn) (hu:SlK B q1 c1 3 Zh x.users) (hf:SlK B q2 c2 5 Zb x.folders) (hi:SlK B q3 c3 4 Zj x.queue.items):ZM (pj J) 160 [.agg #[str x.domain,.slice q1 x.users.length c1,.slice q2 x.folders.length c2,.int .i64 x.queue.next,.slice q3 x.queue.items.length c3],.int .i64 k,.int .i64 fl,str t] B [] (fun v B' Ls=>Ls=[]∧∃p1 d1 p2 d2 p3 d3,v = .tuple #[.agg #[str (ZbI x k.toNat fl t).1.domain,.slice p1 (ZbI x k.toNat fl t).1.users.length d1,.slice p2 (ZbI x k.toNat fl t).1.folders.length d2,.int .i64 (ZbI x k.toNat fl t).1.queue.next,.slice p3 (ZbI x k.toNat fl t).1.queue.items.length d3],.int .i64 (ZbI x k.toNat fl t).2]∧SlK B' p1 d1 3 Zh (ZbI x k.toNat fl t).1.users∧SlK B' p2 d2 5 Zb (ZbI x k.toNat fl t).1.folders∧SlK B' p3 d3 4 Zj (ZbI x k.toNat fl t).1.queue.items∧(ZbI x k.toNat fl t).1.domain.length≤2000000):=by
 refine Zc 61 Tryz.func160 rfl rfl rfl (Nat.le_of_ble_eq_true rfl) ?_
 have hun:=hu.len
 have hfn:=hf.len
 have hin:=hi.len
 obtain ⟨f,hf0⟩ :∃f,x.folders[k.toNat]? = some f:=⟨_,List.getElem?_eq_getElem oz⟩
 have hfo:=Zbq hok hf0
 have hbo:=ZbY hfo
 have hub:=Zmo hok f.owner
 have hoi:0≤Zdw x.users f.owner:=Zcc.2 (Zrk hfo)
 have hol:=ZpQ x.users f.owner
 refine Za (xBx [_,_,_,_,_] (h:=fun b1=>xAl [_,_,_,_,_] Zba (h:=fun b2=>xA (h:=Zw [_,_] rfl (Za (xL [_,_,_,_,_] Z2 0 (h:=Zn (Zac rfl rfl Znp rfl (Zbd _ _ _ _ _ _ x _ hu hf hi) ?_))))))))
 rintro _ B3 _ hle3 ⟨l3,a3,c3,q13,c13,q33,c33,rfl,rfl,hu3,hs3,hi3⟩
 replace hu:=hu.mono Zh.mono hle3
 replace hf:=hf.mono Zb.mono hle3
 replace hi:=hi.mono Zj.mono hle3
 have hu3n:=hu3.len
 have hi3n:=hi3.len
 refine xAl [_,_,_,_,_] Zba (h:=fun b4=>xS [_,_,_,_,_] 3 [_,_,_,_,_] Zaw (h:=Zw [_,_,_,_] rfl (Za (xW Z0 (h:=x1 Zcy 0 (h:=xM (h:=?_)))))))
 obtain ⟨bb5,oo5,rfl⟩:=hf.base hf0
 obtain ⟨_,⟨qg6,cg6,qm6,cm6,rfl,hg6,hm6,hb6,hb6b⟩,hc6⟩:=hf.elem hf0
 have hg6n:=hg6.len
 have hm6n:=hm6.len
 have hm6s:=Z4 hm6
 refine xIx Tryz.underlying24 Zbj (h:=xW ZcU (h:=y1 lk9 hc6 0 (h:=xA (h:=Zm (Zm (Z9 (same _ _) mo kr ⟨rfl,rfl⟩ (fun _ _=>?_)))))))
 refine aT 0 rfl (Zan fun D=>Zag [_,_,_,_,_] rfl rfl Z2 rfl (Zad 0 rfl rfl rfl) r4) (h:=aM 1 rfl (h:=aT 2 rfl (Zan fun D=>ZaR rfl rfl Zw5 rfl (ZkZ _ _ _ _ _ _ x _ _ hf) r4) (h:=aM 3 rfl (h:=aT 4 rfl (Zan fun D=>ZoU rfl rfl Tryz.underlying9 rfl r4) (h:=aD 5 rfl (h:=aW 6 rfl Zcn (h:=aT 7 rfl (Zan fun D=>Zl rfl rfl ZjQ rfl (atL 0 rfl rfl rfl) r4) (h:=aW 8 rfl Zcn (h:=aT 9 rfl (Zan fun D=>Zl rfl rfl ZjQ rfl (atL 0 rfl rfl rfl) r4) (h:=aM 10 rfl (h:=aT 11 rfl (Zan fun D=>ZaR rfl rfl ZsI rfl (ZcS _ _ _ _ _ hu) r4) (h:=?_))))))))))))
 obtain ⟨w,hw⟩:=Zd7 (xs:=x.users) (i:=(Zdw x.users f.owner)) om om
 obtain ⟨bb10,oo10,rfl⟩:=hu.base hw
 obtain ⟨_,⟨rfl,hb11,hb11b⟩,hc11⟩:=hu.elem hw
 refine aIx 12 rfl Tryz.underlying23 ZeY (h:=?_)
 have hqe:ZdO x.users f.owner=w.quota:=by simp only [ZdO,hw]
 refine aW 13 rfl Zie (h:=aT 14 rfl (Zan fun D=>Zl rfl rfl lk3 rfl (hc11 _ 2 _ rfl) r4) (h:=ZmG 15 rfl (h:=ZD kr kr ?_)))
 refine Zf (Zd rfl (fun g1=>?_) (fun g1=>?_))
 try simp only [sQ,ne_eq] at g1
 refine Za (xL [_,_,_,_,_] Z2 3 (h:=ZZ 2 rfl hs3 Zb.mono om3 (fun B12 hle12 hr12=>?_)))
 replace hu:=hu.mono Zh.mono hle12
 replace hf:=hf.mono Zb.mono hle12
 replace hi:=hi.mono Zj.mono hle12
 replace hu3:=hu3.mono Zh.mono hle12
 replace hi3:=hi3.mono Zj.mono hle12
 have hr12n:=hr12.len
 refine xS [_,_,_,_,_] 1 [_,_,_,_,_] Zaw (h:=?_)
 rw [Zl9 hf0 oz]
 refine xA (h:=Zw [_,_,_,_] rfl (Zg (Zs ?_)))
 exact Zaf .ret (.inl rfl) [_,_] [] rfl ⟨⟨_,rfl,.inr ⟨[_,_,_,_,_],Z2,Zad 1 rfl rfl rfl,rfl⟩⟩,rfl,trivial⟩ ⟨rfl,_,_,_,_,_,_,(by first | rfl | (simp only [DHost.withFolders,List.length_set];rfl)),hu3,hr12,hi3,by first | assumption | (rw [ZS.2.2.1];assumption)⟩
 try simp only [sQ,ne_eq] at g1
 have hal:=Zsj (⟨f.next,f.mail⟩:DBox) fl t
 have hfl:=hbo
 have hfm:f.mail.length≤10:=(Zde hbo).2.2
 replace hal:(ZgA (⟨f.next,f.mail⟩:DBox) fl t).1.mail.length≤f.mail.length+1:=hal
 refine Zi (Zf (Za (xW Z0 (h:=x1 Zcy 0 (h:=xM (h:=xIx Tryz.underlying24 Zbj (h:=xW Zcm (h:=yL [_,_] ZbN hc6 3 (h:=xM (h:=xM (h:=Zn (Zac rfl rfl Zu7 rfl (ZhV _ _ (⟨f.next,f.mail⟩:DBox) fl t oz (oy) _ hm6) ?_))))))))))))
 rintro _ B13 _ hle13 ⟨l13,a13,c13,rfl,rfl,hs13⟩
 replace hu:=hu.mono Zh.mono hle13
 replace hf:=hf.mono Zb.mono hle13
 replace hi:=hi.mono Zj.mono hle13
 replace hg6:=hg6.mono ZG.mono hle13
 replace hm6:=hm6.mono ZJ.mono hle13
 replace hc6:=hc6.mono hle13
 replace hs3:=hs3.mono Zb.mono hle13
 replace hu3:=hu3.mono Zh.mono hle13
 replace hi3:=hi3.mono Zj.mono hle13
 replace hs13:=hs13.anyK (B':=B13) ZJ.any
 refine xM (h:=xE (h:=ZZ 4 rfl hs13 ZJ.mono om3 (fun B14 hle14 hr14=>?_)))
 replace hu:=hu.mono Zh.mono hle14
 replace hf:=hf.mono Zb.mono hle14
 replace hi:=hi.mono Zj.mono hle14
 replace hg6:=hg6.mono ZG.mono hle14
 replace hm6:=hm6.mono ZJ.mono hle14
 replace hc6:=hc6.mono hle14
 replace hs3:=hs3.mono Zb.mono hle14
 replace hu3:=hu3.mono Zh.mono hle14
 replace hi3:=hi3.mono Zj.mono hle14
 have hr14n:=hr14.len
 refine xE (h:=xAl [_,_] ZeW (h:=fun b15=>xS [_,_] 5 [_,_] ZcC (h:=xA (h:=Zw [_,_,_,_,_,_] rfl (Zm (Za (xM (h:=xN (h:=Zd rfl (fun g2=>?_) (fun g2=>?_))))))))))
 try simp only [sQ,ne_eq] at g2
 refine Za (xL [_,_,_,_,_] Z2 3 (h:=ZZ 2 rfl hs3 Zb.mono om3 (fun B16 hle16 hr16=>?_)))
 replace hu:=hu.mono Zh.mono hle16
 replace hf:=hf.mono Zb.mono hle16
 replace hi:=hi.mono Zj.mono hle16
 replace hu3:=hu3.mono Zh.mono hle16
 replace hi3:=hi3.mono Zj.mono hle16
 replace hr14:=hr14.mono ZJ.mono hle16
 have hr16n:=hr16.len
 refine xS [_,_,_,_,_] 1 [_,_,_,_,_] Zaw (h:=?_)
 rw [ZnS hf0 oz g2]
 refine xA (h:=Zw [_,_,_,_,_,_] rfl (Zg (Zs ?_)))
 exact Zaf .ret (.inl rfl) [_,_] [] rfl ⟨⟨_,rfl,.inr ⟨[_,_,_,_,_],Z2,Zad 1 rfl rfl rfl,rfl⟩⟩,rfl,trivial⟩ ⟨rfl,_,_,_,_,_,_,(by first | rfl | (simp only [DHost.withFolders,List.length_set];rfl)),hu3,hr16,hi3,by first | assumption | (rw [ZS.2.2.1];assumption)⟩
 try simp only [sQ,ne_eq] at g2
 refine Zi (Zf (Za (xW Z0 (h:=x1 Zcy 3 (h:=xM (h:=xL [_,_] ZbN 5 (h:=?_)))))))
 obtain ⟨bb17,_,hp17,⟨qg17,cg17,qm17,cm17,rfl,hg17,hm17,hb17,hb17b⟩,hw17,hc17⟩:=hs3.row hf0
 have hg17n:=hg17.len
 have hm17n:=hm17.len
 have hm17s:=Z4 hm17
 refine xIp hp17 Tryz.underlying24 Zbj (h:=xW Zcm (h:=Zn (Zd8 (k:=(k).toNat) (off:=3) (⟨f.owner,f.name,f.grants,(ZgA f.box fl t).1.next,(ZgA f.box fl t).1.mail⟩) [_,_] 2 hs3 hp17 hf0 rfl rfl ZcC rfl rfl rfl rfl rfl rfl (by rintro _ ⟨_,_,_,_,rfl,e1,_,e3,e4⟩;exact ⟨_,_,_,_,rfl,e1,hr14,e3,e4⟩) (fun l18 hv18=>?_))))
 refine Zw [_,_,_,_,_,_] rfl (Za (xL [_,_,_,_,_] Z2 3 (h:=ZZ 2 rfl hv18 Zb.mono om3 (fun B19 hle19 hr19=>?_))))
 replace hu:=hu.mono Zh.mono hle19
 replace hf:=hf.mono Zb.mono hle19
 replace hi:=hi.mono Zj.mono hle19
 replace hu3:=hu3.mono Zh.mono hle19
 replace hi3:=hi3.mono Zj.mono hle19
 replace hr14:=hr14.mono ZJ.mono hle19
 have hr19n:=hr19.len
 refine xS [_,_,_,_,_] 1 [_,_,_,_,_] Zaw (h:=?_)
 rw [ZnT hf0 oz (show (ZgA (⟨f.next,f.mail⟩:DBox) fl t).2=true by simpa using g2)]
 refine xA (h:=Zw [_,_,_,_,_,_] rfl (Zg ?_))
 exact Zaf .ret (.inl rfl) [_,_] [] rfl ⟨⟨_,rfl,.inr ⟨[_,_,_,_,_],Z2,Zad 1 rfl rfl rfl,rfl⟩⟩,rfl,trivial⟩ ⟨rfl,_,_,_,_,_,_,(by first | rfl | (simp only [DHost.withFolders,List.length_set];rfl)),hu3,hr19,hi3,by first | assumption | (rw [ZS.2.2.1];assumption)⟩

set_option maxHeartbeats 400000 in
theorem Zpg (q1 q2 q3:Option Addr) (c1 c2 c3:Nat) (x:DHost) (by_ o n:Str) (fl:Int) (t:Str) (hb:by_.length≤2000000) (ho:o.length≤2000000) (hn:n.length≤2000000) (ht:t.length≤2000000) (hd:x.domain.length≤2000000) (B:Kn) (hu:SlK B q1 c1 3 Zh x.users) (hf:SlK B q2 c2 5 Zb x.folders) (hi:SlK B q3 c3 4 Zj x.queue.items):ZM (pj J) 139 [.agg #[str x.domain,.slice q1 x.users.length c1,.slice q2 x.folders.length c2,.int .i64 x.queue.next,.slice q3 x.queue.items.length c3],str by_,str o,str n,.int .i64 fl,str t] B [] (fun v B' Ls=>Ls=[]∧∃p1 d1 p2 d2 p3 d3,v = .tuple #[.agg #[str (Zj0 x by_ o n fl t).1.domain,.slice p1 (Zj0 x by_ o n fl t).1.users.length d1,.slice p2 (Zj0 x by_ o n fl t).1.folders.length d2,.int .i64 (Zj0 x by_ o n fl t).1.queue.next,.slice p3 (Zj0 x by_ o n fl t).1.queue.items.length d3],.int .i64 (Zj0 x by_ o n fl t).2]∧SlK B' p1 d1 3 Zh (Zj0 x by_ o n fl t).1.users∧SlK B' p2 d2 5 Zb (Zj0 x by_ o n fl t).1.folders∧SlK B' p3 d3 4 Zj (Zj0 x by_ o n fl t).1.queue.items∧(Zj0 x by_ o n fl t).1.domain.length≤2000000):=by
 refine Zc 50 Tryz.func139 rfl rfl rfl (Nat.le_of_ble_eq_true rfl) ?_
 have hun:=hu.len
 have hfn:=hf.len
 have hin:=hi.len
 have hix:=ZcG (inF o n) x.folders
 refine Za (xBx [_,_,_,_,_] (h:=fun b1=>xAl [_,_,_,_,_] Zba (h:=fun b2=>xA (h:=Zw [_,_] rfl (Zm (Za (xL [_,_,_,_,_] Z2 0 (h:=xR Zqn rfl (Zbm _ _ _ _ _ _ x om2 _ hu hf hi) (h:=?_)))))))))
 refine xN (h:=xM (h:=Zt (d:=19) rfl (fun g1=>?_) (fun g1=>?_)))
 try simp only [sQ,ne_eq] at g1
 rw [Zj0,if_pos (by simp [g1])]
 refine xP (h:=xP (h:=xP (h:=xT (h:=xM (h:=xP (h:=xP (h:=xP (h:=xT (h:=Zd (t:=true) rfl (fun _=>Za (xB [] [_,_,_,_,_] [_,_,_,_,_] ZdV Zba (h:=xS [_,_,_,_,_] 1 [_,_,_,_,_] Zaw (h:=?_)))) (fun h=>Bool.noConfusion h))))))))))
 refine xA (h:=Zw [_,_] rfl (Zg (Zs ?_)))
 exact Zaf .ret (.inl rfl) [_,_] [] rfl ⟨⟨_,rfl,.inr ⟨[_,_,_,_,_],Z2,Zad 1 rfl rfl rfl,rfl⟩⟩,rfl,trivial⟩ ⟨rfl,none,0,none,0,none,0,rfl,SlK.nil,SlK.nil,SlK.nil,by simp [Za4]⟩
 try simp only [sQ,ne_eq] at g1
 refine xM (h:=xR Zqo rfl (ZeH _ _) (h:=xN (h:=xF (h:=xM (h:=Zt (d:=24) rfl (fun g2=>?_) (fun g2=>?_))))))
 try simp only [sQ,ne_eq] at g2
 rw [Zj0,if_pos (by simp [ZaQ,g2])]
 refine xP (h:=xP (h:=xP (h:=xT (h:=Zd (t:=true) rfl (fun _=>Za (xB [] [_,_,_,_,_] [_,_,_,_,_] ZdV Zba (h:=xS [_,_,_,_,_] 1 [_,_,_,_,_] Zaw (h:=xA (h:=Zw [_,_] rfl (Zg (Zs ?_))))))) (fun h=>Bool.noConfusion h)))))
 exact Zaf .ret (.inl rfl) [_,_] [] rfl ⟨⟨_,rfl,.inr ⟨[_,_,_,_,_],Z2,Zad 1 rfl rfl rfl,rfl⟩⟩,rfl,trivial⟩ ⟨rfl,none,0,none,0,none,0,rfl,SlK.nil,SlK.nil,SlK.nil,by simp [Za4]⟩
 try simp only [sQ,ne_eq] at g2
 refine xM (h:=xVs Tryz.underlying9 (h:=ZbA (h:=xF (h:=Zd rfl (fun g3=>?_) (fun g3=>?_)))))
 try simp only [sQ,ne_eq] at g3
 rw [Zj0,if_pos (by simp;omega)]
 refine Za (xB [] [_,_,_,_,_] [_,_,_,_,_] ZdV Zba (h:=xS [_,_,_,_,_] 1 [_,_,_,_,_] Zaw (h:=xA (h:=Zw [_,_] rfl (Zg (Zs ?_))))))
 exact Zaf .ret (.inl rfl) [_,_] [] rfl ⟨⟨_,rfl,.inr ⟨[_,_,_,_,_],Z2,Zad 1 rfl rfl rfl,rfl⟩⟩,rfl,trivial⟩ ⟨rfl,none,0,none,0,none,0,rfl,SlK.nil,SlK.nil,SlK.nil,by simp [Za4]⟩
 try simp only [sQ,ne_eq] at g3
 have hnn : ¬ ¬ (ZA x=true∧ZaQ fl=true∧t.length≤20):=fun h=>h ⟨by simpa using g1,by simpa [ZaQ] using g2,oz⟩
 have hrr:=ZbV (x:=x) (by simpa using g1)
 have hok:ZA x=true:=by simpa using g1
 refine Zi (Zf (Za (xL [_,_,_,_,_] Z2 0 (h:=xM (h:=xM (h:=xR ZsJ rfl (ZcR _ _ _ _ _ _ x o n om2 om2 _ hf) (h:=?_)))))))
 refine xA (h:=Za (xL [_,_,_,_,_] Z2 0 (h:=xM (h:=xM (h:=xR Zt7 rfl (Zdc _ _ _ _ _ _ x by_ (ZaD (inF o n) x.folders) 8 oz hrr oz _ hu hf) (h:=?_))))))
 refine xA (h:=Zm (Za (xM (h:=ZcZ (h:=Zd rfl (fun g4=>?_) (fun g4=>?_))))))
 try simp only [sQ,ne_eq] at g4
 refine Za (xL [_,_,_,_,_] Z2 0 (h:=Zn (Zac rfl rfl Znp rfl (Zbd _ _ _ _ _ _ x _ hu hf hi) ?_)))
 rintro _ B7 _ hle7 ⟨l7,a7,c7,q17,c17,q37,c37,rfl,rfl,hu7,hs7,hi7⟩
 replace hu:=hu.mono Zh.mono hle7
 replace hf:=hf.mono Zb.mono hle7
 replace hi:=hi.mono Zj.mono hle7
 have hu7n:=hu7.len
 have hi7n:=hi7.len
 refine ZZ 2 rfl hs7 Zb.mono om3 (fun B8 hle8 hr8=>?_)
 replace hu:=hu.mono Zh.mono hle8
 replace hf:=hf.mono Zb.mono hle8
 replace hi:=hi.mono Zj.mono hle8
 replace hu7:=hu7.mono Zh.mono hle8
 replace hi7:=hi7.mono Zj.mono hle8
 have hr8n:=hr8.len
 refine xM (h:=?_)
 rw [Zj0,if_neg hnn,if_pos g4]
 refine xS [_,_,_,_,_] 1 [_,_,_,_,_] Zaw (h:=xA (h:=Zw [_,_,_] rfl (Zg (Zs ?_))))
 exact Zaf .ret (.inl rfl) [_,_] [] rfl ⟨⟨_,rfl,.inr ⟨[_,_,_,_,_],Z2,Zad 1 rfl rfl rfl,rfl⟩⟩,rfl,trivial⟩ ⟨rfl,_,_,_,_,_,_,(by first | rfl | (simp only [DHost.withFolders,List.length_set];rfl)),hu7,hr8,hi7,by first | assumption | (rw [ZS.2.2.1];assumption)⟩
 try simp only [sQ,ne_eq] at g4
 obtain ⟨_,hk0,_,_,_⟩:=Zdp g4
 refine Zi (Zf (Za (xL [_,_,_,_,_] Z2 0 (h:=xM (h:=xM (h:=xM (h:=Zn (Zav rfl rfl Zr1 rfl (Zhd _ _ _ _ _ _ x (ZaD (inF o n) x.folders) fl t om2 (oy) oz oz om2 _ hu hf hi) ?_))))))))
 intro v9 B9 hle9
 rintro ⟨p19,d19,p29,d29,p39,d39,rfl,hu9,hf9,hi9,hd9⟩
 replace hu:=hu.mono Zh.mono hle9
 replace hf:=hf.mono Zb.mono hle9
 replace hi:=hi.mono Zj.mono hle9
 have hu9n:=hu9.len
 have hf9n:=hf9.len
 have hi9n:=hi9.len
 refine xE (h:=xE (h:=xS [_,_,_,_,_] 1 [_,_,_,_,_] Zaw (h:=xA (h:=Zw [_,_] rfl (Zg ?_)))))
 rw [Zj0,if_neg hnn,if_neg (fun h=>h g4)]
 exact Zaf .ret (.inl rfl) [_,_] [] rfl ⟨⟨_,rfl,.inr ⟨[_,_,_,_,_],Z2,Zad 1 rfl rfl rfl,rfl⟩⟩,rfl,trivial⟩ ⟨rfl,_,_,_,_,_,_,rfl,hu9,hf9,hi9,oy⟩

set_option maxHeartbeats 800000 in
theorem ZkF (q1 q2 q3:Option Addr) (c1 c2 c3:Nat) (x:DHost) (u n:Str) (hul:u.length≤2000000) (hnl:n.length≤2000000) (hd:x.domain.length≤2000000) (B:Kn) (hu:SlK B q1 c1 3 Zh x.users) (hf:SlK B q2 c2 5 Zb x.folders) (hi:SlK B q3 c3 4 Zj x.queue.items):ZM (pj J) 137 [.agg #[str x.domain,.slice q1 x.users.length c1,.slice q2 x.folders.length c2,.int .i64 x.queue.next,.slice q3 x.queue.items.length c3],str u,str n] B [] (fun v B' Ls=>Ls=[]∧∃p1 d1 p2 d2 p3 d3,v = .tuple #[.agg #[str (Zbg x u n).1.domain,.slice p1 (Zbg x u n).1.users.length d1,.slice p2 (Zbg x u n).1.folders.length d2,.int .i64 (Zbg x u n).1.queue.next,.slice p3 (Zbg x u n).1.queue.items.length d3],.int .i64 (Zbg x u n).2]∧SlK B' p1 d1 3 Zh (Zbg x u n).1.users∧SlK B' p2 d2 5 Zb (Zbg x u n).1.folders∧SlK B' p3 d3 4 Zj (Zbg x u n).1.queue.items∧(Zbg x u n).1.domain.length≤2000000):=by
 refine Zc 80 Tryz.func137 rfl rfl rfl (Nat.le_of_ble_eq_true rfl) ?_
 have hun:=hu.len
 have hfn:=hf.len
 have hin:=hi.len
 have hix:=ZcG (inF u n) x.folders
 refine Za (xBx [_,_,_,_,_] (h:=fun b1=>xAl [_,_,_,_,_] Zba (h:=fun b2=>xA (h:=Zw [_,_] rfl (Zm (Za (xL [_,_,_,_,_] Z2 0 (h:=xR Zqn rfl (Zbm _ _ _ _ _ _ x om2 _ hu hf hi) (h:=?_)))))))))
 refine xN (h:=xM (h:=Zt (d:=14) rfl (fun g1=>?_) (fun g1=>?_)))
 try simp only [sQ,ne_eq] at g1
 rw [Zbg,if_pos (by simp [g1])]
 refine xP (h:=xP (h:=xP (h:=xT (h:=Zd (t:=true) rfl (fun _=>Za (xB [] [_,_,_,_,_] [_,_,_,_,_] ZdV Zba (h:=xS [_,_,_,_,_] 1 [_,_,_,_,_] Zaw (h:=xA (h:=Zw [_,_] rfl (Zg (Zs ?_))))))) (fun h=>Bool.noConfusion h)))))
 exact Zaf .ret (.inl rfl) [_,_] [] rfl ⟨⟨_,rfl,.inr ⟨[_,_,_,_,_],Z2,Zad 1 rfl rfl rfl,rfl⟩⟩,rfl,trivial⟩ ⟨rfl,none,0,none,0,none,0,rfl,SlK.nil,SlK.nil,SlK.nil,by simp [Za4]⟩
 try simp only [sQ,ne_eq] at g1
 refine xM (h:=xR ZrZ rfl (ZbT _ om2 _) (h:=?_))
 refine xN (h:=xF (h:=Zd rfl (fun g2=>?_) (fun g2=>?_)))
 try simp only [sQ,ne_eq] at g2
 rw [Zbg,if_pos (by simp [g2])]
 refine Za (xB [] [_,_,_,_,_] [_,_,_,_,_] ZdV Zba (h:=xS [_,_,_,_,_] 1 [_,_,_,_,_] Zaw (h:=xA (h:=Zw [_,_] rfl (Zg (Zs ?_))))))
 exact Zaf .ret (.inl rfl) [_,_] [] rfl ⟨⟨_,rfl,.inr ⟨[_,_,_,_,_],Z2,Zad 1 rfl rfl rfl,rfl⟩⟩,rfl,trivial⟩ ⟨rfl,none,0,none,0,none,0,rfl,SlK.nil,SlK.nil,SlK.nil,by simp [Za4]⟩
 try simp only [sQ,ne_eq] at g2
 have hok:ZA x=true:=by simpa using g1
 have hnk:Zaj n=true:=by simpa using g2
 refine Zi (Zf (Za (xL [_,_,_,_,_] Z2 0 (h:=Zn (Zac rfl rfl Znp rfl (Zbd _ _ _ _ _ _ x _ hu hf hi) ?_)))))
 rintro _ B5 _ hle5 ⟨l5,a5,c5,q15,c15,q35,c35,rfl,rfl,hu5,hs5,hi5⟩
 replace hu:=hu.mono Zh.mono hle5
 replace hf:=hf.mono Zb.mono hle5
 replace hi:=hi.mono Zj.mono hle5
 have hu5n:=hu5.len
 have hi5n:=hi5.len
 refine ZZ 2 rfl hs5 Zb.mono om3 (fun B6 hle6 hr6=>?_)
 replace hu:=hu.mono Zh.mono hle6
 replace hf:=hf.mono Zb.mono hle6
 replace hi:=hi.mono Zj.mono hle6
 replace hu5:=hu5.mono Zh.mono hle6
 replace hi5:=hi5.mono Zj.mono hle6
 have hr6n:=hr6.len
 refine xAl [_,_,_,_,_] Zba (h:=fun b7=>xS [_,_,_,_,_] 3 [_,_,_,_,_] Zaw (h:=Zw [_,_,_,_] rfl (Zm (Zr (Za (xW Zcn (h:=x1 ZjQ 0 (h:=xM (h:=xR ZsI rfl (ZcS _ _ _ _ _ hu) (h:=Zai (h:=xA (h:=Zd rfl (fun g3=>?_) (fun g3=>?_)))))))))))))
 try simp only [sQ,ne_eq] at g3
 rw [Zbg,if_neg (fun h=>h ⟨hok,hnk⟩),if_pos g3]
 refine Za (xL [_,_,_,_,_] Z2 3 (h:=xS [_,_,_,_,_] 1 [_,_,_,_,_] Zaw (h:=xA (h:=Zw [_,_,_,_] rfl (Zg (ZI (Zs ?_)))))))
 exact Zaf .ret (.inl rfl) [_,_] [] rfl ⟨⟨_,rfl,.inr ⟨[_,_,_,_,_],Z2,Zad 1 rfl rfl rfl,rfl⟩⟩,rfl,trivial⟩ ⟨rfl,_,_,_,_,_,_,(by first | rfl | (simp only [DHost.withFolders,List.length_set];rfl)),hu5,hr6,hi5,by first | assumption | (rw [ZS.2.2.1];assumption)⟩
 try simp only [sQ,ne_eq] at g3
 refine Za (xL [_,_,_,_,_] Z2 0 (h:=xM (h:=xM (h:=xR ZsJ rfl (ZcR _ _ _ _ _ _ x u n om2 om2 _ hf) (h:=?_)))))
 refine ZdS (h:=xM (h:=Zt (d:=35) rfl (fun g4=>?_) (fun g4=>?_)))
 try simp only [sQ,ne_eq] at g4
 rw [Zbg,if_neg (fun h=>h ⟨hok,hnk⟩),if_neg oz,if_pos (.inl g4)]
 refine xP (h:=xP (h:=xP (h:=xP (h:=xT (h:=xA (h:=Zd (t:=true) rfl (fun _=>Za (xL [_,_,_,_,_] Z2 3 (h:=xS [_,_,_,_,_] 1 [_,_,_,_,_] Zaw (h:=xA (h:=Zw [_,_,_,_] rfl (Zg (ZI (Zs ?_)))))))) (fun h=>Bool.noConfusion h)))))))
 exact Zaf .ret (.inl rfl) [_,_] [] rfl ⟨⟨_,rfl,.inr ⟨[_,_,_,_,_],Z2,Zad 1 rfl rfl rfl,rfl⟩⟩,rfl,trivial⟩ ⟨rfl,_,_,_,_,_,_,(by first | rfl | (simp only [DHost.withFolders,List.length_set];rfl)),hu5,hr6,hi5,by first | assumption | (rw [ZS.2.2.1];assumption)⟩
 try simp only [sQ,ne_eq] at g4
 refine xW Z0 (h:=x1 Zcy 0 (h:=xV Tryz.underlying24 (h:=ZdS (h:=xF (h:=xA (h:=Zd rfl (fun g5=>?_) (fun g5=>?_)))))))
 try simp only [sQ,ne_eq] at g5
 rw [Zbg,if_neg (fun h=>h ⟨hok,hnk⟩),if_neg oz,if_pos (.inr oz)]
 refine Za (xL [_,_,_,_,_] Z2 3 (h:=xS [_,_,_,_,_] 1 [_,_,_,_,_] Zaw (h:=xA (h:=Zw [_,_,_,_] rfl (Zg (ZI (Zs ?_)))))))
 exact Zaf .ret (.inl rfl) [_,_] [] rfl ⟨⟨_,rfl,.inr ⟨[_,_,_,_,_],Z2,Zad 1 rfl rfl rfl,rfl⟩⟩,rfl,trivial⟩ ⟨rfl,_,_,_,_,_,_,(by first | rfl | (simp only [DHost.withFolders,List.length_set];rfl)),hu5,hr6,hi5,by first | assumption | (rw [ZS.2.2.1];assumption)⟩
 try simp only [sQ,ne_eq] at g5
 refine Zi (Zz (Zf (Za (xM (h:=xM (h:=xBs [] [] Tryz.underlying53 ZbL Zdy (h:=fun b10=>xBs [] [] Tryz.underlying54 ZcW Zgf (h:=fun b11=>xB [(0,_),(1,_)] [_,_] [_,_] Zm3 ZeW (h:=xB [(0,_),(1,_),(2,_),(3,_)] [_,_,_,_,_] [_,_,_,_,_] ZuG Zdx (h:=ZZ 4 rfl (Z3.lit0 (R:=ZG) (w:=2)) ZG.mono om3 (fun B12 hle12 hr12=>?_)))))))))))
 replace hu:=hu.mono Zh.mono hle12
 replace hf:=hf.mono Zb.mono hle12
 replace hi:=hi.mono Zj.mono hle12
 replace hu5:=hu5.mono Zh.mono hle12
 replace hr6:=hr6.mono Zb.mono hle12
 replace hi5:=hi5.mono Zj.mono hle12
 have hr12n:=hr12.len
 refine ZZ 5 rfl (Z3.lit0 (R:=ZJ) (w:=3)) ZJ.mono om3 (fun B13 hle13 hr13=>?_)
 replace hu:=hu.mono Zh.mono hle13
 replace hf:=hf.mono Zb.mono hle13
 replace hi:=hi.mono Zj.mono hle13
 replace hr12:=hr12.mono ZG.mono hle13
 replace hu5:=hu5.mono Zh.mono hle13
 replace hr6:=hr6.mono Zb.mono hle13
 replace hi5:=hi5.mono Zj.mono hle13
 have hr13n:=hr13.len
 refine xAl [_,_,_,_,_] Zdx (h:=fun b14=>xS [_,_,_,_,_] 6 [_,_,_,_,_] Zbj (h:=Zw [_,_,_,_,_,_,_] rfl (Za (xA (h:=Zm (Zr (ZU (α:=Nat) [0,1,2,3,6,7,8,9,18,22,29] (fun k=>[(10,.int .i64 k)]) [] (fun k=>[]) (fun k Bx=>Bx=B13∧k≤x.folders.length∧∀y,y∈x.folders.take k→ZbU y (ZeE u n)=true) (fun k=>x.folders.length - k) 0 t1 rfl (⟨rfl,Nat.zero_le _,by simp⟩) (fun k B15 hle15 hI=>?_))))))))
 obtain ⟨rfl,hk,hak⟩:=hI
 refine ZQ [(0,_),(1,_),(2,_),(3,_),(6,_),(7,_),(8,_),(9,_),(10,_),(18,_),(22,_),(29,_)] [_,_,_,_,_,_,_] t12 rfl (Zm (Zm (Z9 (same _ _) mo kr ⟨rfl,rfl⟩ (fun _ _=>?_))))
 refine aM 0 rfl (h:=aW 1 rfl Z0 (h:=aT 2 rfl (Zan fun D=>Zl rfl rfl Zcy rfl (atL 3 rfl rfl rfl) r4) (h:=aV 3 rfl Tryz.underlying24 (h:=ZqM 4 rfl (h:=aM 5 rfl (h:=ZaE (d:=53) rfl (fun g6=>?_) (fun g6=>?_)))))))
 try simp only [sQ,ne_eq] at g6
 refine aW 6 rfl Z0 (h:=aT 7 rfl (Zan fun D=>Zl rfl rfl Zcy rfl (atL 3 rfl rfl rfl) r4) (h:=aM 8 rfl (h:=?_)))
 obtain ⟨w,hw⟩:=Zax (xs:=x.folders) (i:=k) om
 obtain ⟨bb17,oo17,rfl⟩:=hr6.base hw
 obtain ⟨_,⟨qg18,cg18,qm18,cm18,rfl,hg18,hm18,hb18,hb18b⟩,hc18⟩:=hr6.elem hw
 have hg18n:=hg18.len
 have hm18n:=hm18.len
 have hm18s:=Z4 hm18
 refine aIx 9 rfl Tryz.underlying24 Zbj (h:=aT 10 rfl (Zan fun D=>Zag [_,_,_,_,_] rfl rfl ZgQ rfl (Zl1 hc18 0 rfl rfl) r4) (h:=aT 11 rfl (Zan fun D=>Zag [_,_,_,_,_] rfl rfl ZgQ rfl (Zad 6 rfl rfl rfl) r4) (h:=aT 12 rfl (Zan fun D=>ZaR rfl rfl ZwZ rfl (Zk0 w ⟨u,n,[],1,[]⟩ _ _ _ _ _ _ _ _ _) r4) (h:=aPT 13 rfl (h:=ZD kr kr ?_)))))
 refine Zf (Zd rfl (fun g7=>?_) (fun g7=>?_))
 try simp only [sQ,ne_eq] at g7
 refine Zi (Zf (Zr (Ze (xM (h:=xD (h:=xA (h:=Zz ?_)))))))
 exact ZE (k+1) [0,1,2,3,4,5,6] so2 ⟨rfl,oz,Zbl hw hak g7⟩ t12 rfl
 try simp only [sQ,ne_eq] at g7
 refine ZY (Zal (Z6 (ZN (Zf (Zm (Z9 (keeps _ [3,6] _) mo kr ⟨Kn.le.refl _,Zar.refl _ _⟩ (fun _ _=>?_)))))))
 refine aW 1 rfl Z0 (h:=aT 2 rfl (ZK fun D B L hI=>Zl rfl rfl Zcy rfl (atL 3 (hI.2.1.trans rfl) rfl rfl) r4) (h:=aM 3 rfl (h:=?_)))
 obtain ⟨hq20,q20,cp20,hv20,hr20⟩:=hr6.cutE 0 k om om
 have hr20n:=hr20.len
 refine aT 4 rfl (ZK fun D B L hI=>ZgH (a:=0) (b:=k) hv20 om hq20 rfl rfl Tryz.underlying24 Zbj rfl rfl ⟨_,_,rfl,by first | omega | (simp;done) | (simp;omega)⟩ r4) (h:=?_)
 refine aT 6 rfl (ZK fun D B L hI=>Zag [_,_,_,_,_] rfl rfl ZgQ rfl (Zad 6 (hI.2.2.1.trans rfl) rfl rfl) r4) (h:=aW 9 rfl Z0 (h:=aT 10 rfl (ZK fun D B L hI=>Zl rfl rfl Zcy rfl (atL 3 (hI.2.1.trans rfl) rfl rfl) r4) (h:=aM 11 rfl (h:=?_))))
 obtain ⟨hq21,q21,cp21,hv21,hr21⟩:=hr6.cutE k x.folders.length om om
 have hr21n:=hr21.len
 refine aT 12 rfl (ZK fun D B L hI=>ZgH (a:=k) (b:=x.folders.length) hv21 om hq21 rfl rfl Tryz.underlying24 Zbj rfl ⟨_,_,rfl,by first | omega | (simp;done) | (simp;omega)⟩ rfl r4) (h:=?_)
 refine Zap [0,7] kr kr kr ⟨?_,?_⟩
 refine (Zy (parts:=[]) [] rfl rfl Tryz.underlying24 Zbj Zdx rfl rfl rfl rfl rfl (fun b22=>⟨⟨Kn.le.refl _,t2⟩,(Zap [5,7] kr kr kr ⟨?_,?_⟩)⟩))
 refine (ZaS (R:=Zb) 7 rfl (Z3.lit0 (R:=Zb)) rfl rfl rfl ZiO ZiI rfl rfl rfl hr20.rows Zb.one rfl om (fun l23 p23 c23 hv23=>?_))
 refine ⟨⟨Kn.le.refl _,t2⟩,(Zv 7 kr rfl kr (Zy (parts:=[(0,_)]) [_,_,_,_,_] rfl rfl Tryz.underlying24 Zbj Zdx rfl rfl rfl rfl rfl (fun b24=>?_)))⟩
 refine ⟨⟨Kn.le.refl _,t2⟩,(Zv 8 kr rfl kr (Za8 (z:=⟨u,n,[],1,[]⟩) (R:=Zb) 7 rfl hv23 rfl rfl rfl ZiO ZiI rfl rfl (ZaV.box 8 rfl) rfl rfl (⟨_,_,_,_,rfl,hr12,hr13,by first | assumption | omega | (simp;done) | (simp;omega),by first | assumption | omega | (simp;done) | (simp;omega)⟩) om (fun l25 p25 c25 hv25=>?_)))⟩
 refine ⟨⟨Kn.le.refl _,t2⟩,(Zv 13 kr rfl kr (ZaS (R:=Zb) 7 rfl hv25 rfl rfl rfl ZiO ZiI rfl rfl rfl hr21.rows Zb.one rfl om (fun l26 p26 c26 hv26=>?_)))⟩
 refine ⟨⟨Kn.le.refl _,t2⟩,(aW 14 rfl Z0 (h:=ZV 15 kr rfl kr kr kr (ZO [_] 3 [_,_,_,_,_] rfl rfl ZqU rfl rfl rfl rfl rfl rfl rfl rfl ?_)))⟩
 refine Zf (Zw [_,_,_,_,_,_,_,_,_] rfl (Za (xL [_,_,_,_,_] Z2 3 (h:=ZZ 7 rfl hv26 Zb.mono om3 (fun B27 hle27 hr27=>?_)))))
 replace hu:=hu.mono Zh.mono hle27
 replace hf:=hf.mono Zb.mono hle27
 replace hi:=hi.mono Zj.mono hle27
 replace hu5:=hu5.mono Zh.mono hle27
 replace hi5:=hi5.mono Zj.mono hle27
 replace hr12:=hr12.mono ZG.mono hle27
 replace hr13:=hr13.mono ZJ.mono hle27
 have hr27n:=hr27.len
 refine xS [_,_,_,_,_] 1 [_,_,_,_,_] Zaw (h:=?_)
 rw [Zcj (k:=k) hok hnk oz oz oz hk hak (.inr ⟨_,hw,g7⟩)]
 refine xA (h:=Zw [_,_,_,_,_,_,_,_,_] rfl (Zg ?_))
 exact Zaf .ret (.inl rfl) [_,_] [] rfl ⟨⟨_,rfl,.inr ⟨[_,_,_,_,_],Z2,Zad 1 rfl rfl rfl,rfl⟩⟩,rfl,trivial⟩ ⟨rfl,_,_,_,_,_,_,(by first | rfl | (simp only [DHost.withFolders,List.length_set];rfl)),hu5,hr27,hi5,oy⟩
 refine (Zy (parts:=[(0,_)]) [_,_,_,_,_] rfl rfl Tryz.underlying24 Zbj Zdx rfl rfl rfl rfl rfl (fun b28=>⟨⟨Kn.le.refl _,t2⟩,(Zv 5 kr rfl kr (ZaS (R:=Zb) 7 rfl (Z3.lit0 (R:=Zb)) rfl rfl rfl ZiO ZiI rfl rfl rfl hr20.rows Zb.one rfl om (fun l29 p29 c29 hv29=>?_)))⟩))
 refine ⟨⟨Kn.le.refl _,t2⟩,(Zv 8 kr rfl kr (Za8 (z:=⟨u,n,[],1,[]⟩) (R:=Zb) 7 rfl hv29 rfl rfl rfl ZiO ZiI rfl rfl (ZaV.box 8 rfl) rfl rfl (⟨_,_,_,_,rfl,hr12,hr13,by first | assumption | omega | (simp;done) | (simp;omega),by first | assumption | omega | (simp;done) | (simp;omega)⟩) om (fun l30 p30 c30 hv30=>?_)))⟩
 refine ⟨⟨Kn.le.refl _,t2⟩,(Zv 13 kr rfl kr (ZaS (R:=Zb) 7 rfl hv30 rfl rfl rfl ZiO ZiI rfl rfl rfl hr21.rows Zb.one rfl om (fun l31 p31 c31 hv31=>?_)))⟩
 refine ⟨⟨Kn.le.refl _,t2⟩,(aW 14 rfl Z0 (h:=ZV 15 kr rfl kr kr kr (ZO [_] 3 [_,_,_,_,_] rfl rfl ZqU rfl rfl rfl rfl rfl rfl rfl rfl ?_)))⟩
 refine Zf (Zw [_,_,_,_,_,_,_,_,_] rfl (Za (xL [_,_,_,_,_] Z2 3 (h:=ZZ 7 rfl hv31 Zb.mono om3 (fun B32 hle32 hr32=>?_)))))
 replace hu:=hu.mono Zh.mono hle32
 replace hf:=hf.mono Zb.mono hle32
 replace hi:=hi.mono Zj.mono hle32
 replace hu5:=hu5.mono Zh.mono hle32
 replace hi5:=hi5.mono Zj.mono hle32
 replace hr12:=hr12.mono ZG.mono hle32
 replace hr13:=hr13.mono ZJ.mono hle32
 have hr32n:=hr32.len
 refine xS [_,_,_,_,_] 1 [_,_,_,_,_] Zaw (h:=?_)
 rw [Zcj (k:=k) hok hnk oz oz oz hk hak (.inr ⟨_,hw,g7⟩)]
 refine xA (h:=Zw [_,_,_,_,_,_,_,_,_] rfl (Zg ?_))
 exact Zaf .ret (.inl rfl) [_,_] [] rfl ⟨⟨_,rfl,.inr ⟨[_,_,_,_,_],Z2,Zad 1 rfl rfl rfl,rfl⟩⟩,rfl,trivial⟩ ⟨rfl,_,_,_,_,_,_,(by first | rfl | (simp only [DHost.withFolders,List.length_set];rfl)),hu5,hr32,hi5,oy⟩
 refine (Zy (parts:=[(0,_)]) [_,_,_,_,_] rfl rfl Tryz.underlying24 Zbj Zdx rfl rfl rfl rfl rfl (fun b33=>⟨⟨Kn.le.refl _,t2⟩,(Zv 0 kr rfl kr (Zy (parts:=[]) [] rfl rfl Tryz.underlying24 Zbj Zdx rfl rfl rfl rfl rfl (fun b34=>?_)))⟩))
 refine ⟨⟨Kn.le.refl _,t2⟩,(Zv 5 kr rfl kr (ZaS (R:=Zb) 8 rfl (Z3.lit0 (R:=Zb)) rfl rfl rfl ZiO ZiI rfl rfl rfl hr20.rows Zb.one rfl om (fun l35 p35 c35 hv35=>?_)))⟩
 refine ⟨⟨Kn.le.refl _,t2⟩,(Zv 8 kr rfl kr (Za8 (z:=⟨u,n,[],1,[]⟩) (R:=Zb) 8 rfl hv35 rfl rfl rfl ZiO ZiI rfl rfl (ZaV.box 7 rfl) rfl rfl (⟨_,_,_,_,rfl,hr12,hr13,by first | assumption | omega | (simp;done) | (simp;omega),by first | assumption | omega | (simp;done) | (simp;omega)⟩) om (fun l36 p36 c36 hv36=>?_)))⟩
 refine ⟨⟨Kn.le.refl _,t2⟩,(Zv 13 kr rfl kr (ZaS (R:=Zb) 8 rfl hv36 rfl rfl rfl ZiO ZiI rfl rfl rfl hr21.rows Zb.one rfl om (fun l37 p37 c37 hv37=>?_)))⟩
 refine ⟨⟨Kn.le.refl _,t2⟩,(aW 14 rfl Z0 (h:=ZV 15 kr rfl kr kr kr (ZO [_] 3 [_,_,_,_,_] rfl rfl ZqU rfl rfl rfl rfl rfl rfl rfl rfl ?_)))⟩
 refine Zf (Zw [_,_,_,_,_,_,_,_,_] rfl (Za (xL [_,_,_,_,_] Z2 3 (h:=ZZ 8 rfl hv37 Zb.mono om3 (fun B38 hle38 hr38=>?_)))))
 replace hu:=hu.mono Zh.mono hle38
 replace hf:=hf.mono Zb.mono hle38
 replace hi:=hi.mono Zj.mono hle38
 replace hu5:=hu5.mono Zh.mono hle38
 replace hi5:=hi5.mono Zj.mono hle38
 replace hr12:=hr12.mono ZG.mono hle38
 replace hr13:=hr13.mono ZJ.mono hle38
 have hr38n:=hr38.len
 refine xS [_,_,_,_,_] 1 [_,_,_,_,_] Zaw (h:=?_)
 rw [Zcj (k:=k) hok hnk oz oz oz hk hak (.inr ⟨_,hw,g7⟩)]
 refine xA (h:=Zw [_,_,_,_,_,_,_,_,_] rfl (Zg ?_))
 exact Zaf .ret (.inl rfl) [_,_] [] rfl ⟨⟨_,rfl,.inr ⟨[_,_,_,_,_],Z2,Zad 1 rfl rfl rfl,rfl⟩⟩,rfl,trivial⟩ ⟨rfl,_,_,_,_,_,_,(by first | rfl | (simp only [DHost.withFolders,List.length_set];rfl)),hu5,hr38,hi5,oy⟩
 try simp only [sQ,ne_eq] at g6
 refine aZ 6 rfl (h:=aZ 7 rfl (h:=aZ 8 rfl (h:=aZ 9 rfl (h:=aZ 10 rfl (h:=aZ 11 rfl (h:=aZ 12 rfl (h:=aPF 13 rfl (h:=ZD kr kr ?_))))))))
 refine Zf (Zd (t:=false) rfl (fun h=>Bool.noConfusion h) (fun _=>ZY (Zal (Z6 (ZN (Zf (Zm (Z9 (keeps _ [3,6] _) mo kr ⟨Kn.le.refl _,Zar.refl _ _⟩ (fun _ _=>?_)))))))))
 refine aW 1 rfl Z0 (h:=aT 2 rfl (ZK fun D B L hI=>Zl rfl rfl Zcy rfl (atL 3 (hI.2.1.trans rfl) rfl rfl) r4) (h:=aM 3 rfl (h:=?_)))
 obtain ⟨hq39,q39,cp39,hv39,hr39⟩:=hr6.cutE 0 k om om
 have hr39n:=hr39.len
 refine aT 4 rfl (ZK fun D B L hI=>ZgH (a:=0) (b:=k) hv39 om hq39 rfl rfl Tryz.underlying24 Zbj rfl rfl ⟨_,_,rfl,by first | omega | (simp;done) | (simp;omega)⟩ r4) (h:=?_)
 refine aT 6 rfl (ZK fun D B L hI=>Zag [_,_,_,_,_] rfl rfl ZgQ rfl (Zad 6 (hI.2.2.1.trans rfl) rfl rfl) r4) (h:=aW 9 rfl Z0 (h:=aT 10 rfl (ZK fun D B L hI=>Zl rfl rfl Zcy rfl (atL 3 (hI.2.1.trans rfl) rfl rfl) r4) (h:=aM 11 rfl (h:=?_))))
 obtain ⟨hq40,q40,cp40,hv40,hr40⟩:=hr6.cutE k x.folders.length om om
 have hr40n:=hr40.len
 refine aT 12 rfl (ZK fun D B L hI=>ZgH (a:=k) (b:=x.folders.length) hv40 om hq40 rfl rfl Tryz.underlying24 Zbj rfl ⟨_,_,rfl,by first | omega | (simp;done) | (simp;omega)⟩ rfl r4) (h:=?_)
 refine Zap [0,7] kr kr kr ⟨?_,?_⟩
 refine (Zy (parts:=[]) [] rfl rfl Tryz.underlying24 Zbj Zdx rfl rfl rfl rfl rfl (fun b41=>⟨⟨Kn.le.refl _,t2⟩,(Zap [5,7] kr kr kr ⟨?_,?_⟩)⟩))
 refine (ZaS (R:=Zb) 7 rfl (Z3.lit0 (R:=Zb)) rfl rfl rfl ZiO ZiI rfl rfl rfl hr39.rows Zb.one rfl om (fun l42 p42 c42 hv42=>?_))
 refine ⟨⟨Kn.le.refl _,t2⟩,(Zv 7 kr rfl kr (Zy (parts:=[(0,_)]) [_,_,_,_,_] rfl rfl Tryz.underlying24 Zbj Zdx rfl rfl rfl rfl rfl (fun b43=>?_)))⟩
 refine ⟨⟨Kn.le.refl _,t2⟩,(Zv 8 kr rfl kr (Za8 (z:=⟨u,n,[],1,[]⟩) (R:=Zb) 7 rfl hv42 rfl rfl rfl ZiO ZiI rfl rfl (ZaV.box 8 rfl) rfl rfl (⟨_,_,_,_,rfl,hr12,hr13,by first | assumption | omega | (simp;done) | (simp;omega),by first | assumption | omega | (simp;done) | (simp;omega)⟩) om (fun l44 p44 c44 hv44=>?_)))⟩
 refine ⟨⟨Kn.le.refl _,t2⟩,(Zv 13 kr rfl kr (ZaS (R:=Zb) 7 rfl hv44 rfl rfl rfl ZiO ZiI rfl rfl rfl hr40.rows Zb.one rfl om (fun l45 p45 c45 hv45=>?_)))⟩
 refine ⟨⟨Kn.le.refl _,t2⟩,(aW 14 rfl Z0 (h:=ZV 15 kr rfl kr kr kr (ZO [_] 3 [_,_,_,_,_] rfl rfl ZqU rfl rfl rfl rfl rfl rfl rfl rfl ?_)))⟩
 refine Zf (Zw [_,_,_,_,_,_,_,_,_] rfl (Za (xL [_,_,_,_,_] Z2 3 (h:=ZZ 7 rfl hv45 Zb.mono om3 (fun B46 hle46 hr46=>?_)))))
 replace hu:=hu.mono Zh.mono hle46
 replace hf:=hf.mono Zb.mono hle46
 replace hi:=hi.mono Zj.mono hle46
 replace hu5:=hu5.mono Zh.mono hle46
 replace hi5:=hi5.mono Zj.mono hle46
 replace hr12:=hr12.mono ZG.mono hle46
 replace hr13:=hr13.mono ZJ.mono hle46
 have hr46n:=hr46.len
 refine xS [_,_,_,_,_] 1 [_,_,_,_,_] Zaw (h:=?_)
 rw [Zcj (k:=k) hok hnk oz oz oz hk hak (.inl oz)]
 refine xA (h:=Zw [_,_,_,_,_,_,_,_,_] rfl (Zg ?_))
 exact Zaf .ret (.inl rfl) [_,_] [] rfl ⟨⟨_,rfl,.inr ⟨[_,_,_,_,_],Z2,Zad 1 rfl rfl rfl,rfl⟩⟩,rfl,trivial⟩ ⟨rfl,_,_,_,_,_,_,(by first | rfl | (simp only [DHost.withFolders,List.length_set];rfl)),hu5,hr46,hi5,oy⟩
 refine (Zy (parts:=[(0,_)]) [_,_,_,_,_] rfl rfl Tryz.underlying24 Zbj Zdx rfl rfl rfl rfl rfl (fun b47=>⟨⟨Kn.le.refl _,t2⟩,(Zv 5 kr rfl kr (ZaS (R:=Zb) 7 rfl (Z3.lit0 (R:=Zb)) rfl rfl rfl ZiO ZiI rfl rfl rfl hr39.rows Zb.one rfl om (fun l48 p48 c48 hv48=>?_)))⟩))
 refine ⟨⟨Kn.le.refl _,t2⟩,(Zv 8 kr rfl kr (Za8 (z:=⟨u,n,[],1,[]⟩) (R:=Zb) 7 rfl hv48 rfl rfl rfl ZiO ZiI rfl rfl (ZaV.box 8 rfl) rfl rfl (⟨_,_,_,_,rfl,hr12,hr13,by first | assumption | omega | (simp;done) | (simp;omega),by first | assumption | omega | (simp;done) | (simp;omega)⟩) om (fun l49 p49 c49 hv49=>?_)))⟩
 refine ⟨⟨Kn.le.refl _,t2⟩,(Zv 13 kr rfl kr (ZaS (R:=Zb) 7 rfl hv49 rfl rfl rfl ZiO ZiI rfl rfl rfl hr40.rows Zb.one rfl om (fun l50 p50 c50 hv50=>?_)))⟩
 refine ⟨⟨Kn.le.refl _,t2⟩,(aW 14 rfl Z0 (h:=ZV 15 kr rfl kr kr kr (ZO [_] 3 [_,_,_,_,_] rfl rfl ZqU rfl rfl rfl rfl rfl rfl rfl rfl ?_)))⟩
 refine Zf (Zw [_,_,_,_,_,_,_,_,_] rfl (Za (xL [_,_,_,_,_] Z2 3 (h:=ZZ 7 rfl hv50 Zb.mono om3 (fun B51 hle51 hr51=>?_)))))
 replace hu:=hu.mono Zh.mono hle51
 replace hf:=hf.mono Zb.mono hle51
 replace hi:=hi.mono Zj.mono hle51
 replace hu5:=hu5.mono Zh.mono hle51
 replace hi5:=hi5.mono Zj.mono hle51
 replace hr12:=hr12.mono ZG.mono hle51
 replace hr13:=hr13.mono ZJ.mono hle51
 have hr51n:=hr51.len
 refine xS [_,_,_,_,_] 1 [_,_,_,_,_] Zaw (h:=?_)
 rw [Zcj (k:=k) hok hnk oz oz oz hk hak (.inl oz)]
 refine xA (h:=Zw [_,_,_,_,_,_,_,_,_] rfl (Zg ?_))
 exact Zaf .ret (.inl rfl) [_,_] [] rfl ⟨⟨_,rfl,.inr ⟨[_,_,_,_,_],Z2,Zad 1 rfl rfl rfl,rfl⟩⟩,rfl,trivial⟩ ⟨rfl,_,_,_,_,_,_,(by first | rfl | (simp only [DHost.withFolders,List.length_set];rfl)),hu5,hr51,hi5,oy⟩
 refine (Zy (parts:=[(0,_)]) [_,_,_,_,_] rfl rfl Tryz.underlying24 Zbj Zdx rfl rfl rfl rfl rfl (fun b52=>⟨⟨Kn.le.refl _,t2⟩,(Zv 0 kr rfl kr (Zy (parts:=[]) [] rfl rfl Tryz.underlying24 Zbj Zdx rfl rfl rfl rfl rfl (fun b53=>?_)))⟩))
 refine ⟨⟨Kn.le.refl _,t2⟩,(Zv 5 kr rfl kr (ZaS (R:=Zb) 8 rfl (Z3.lit0 (R:=Zb)) rfl rfl rfl ZiO ZiI rfl rfl rfl hr39.rows Zb.one rfl om (fun l54 p54 c54 hv54=>?_)))⟩
 refine ⟨⟨Kn.le.refl _,t2⟩,(Zv 8 kr rfl kr (Za8 (z:=⟨u,n,[],1,[]⟩) (R:=Zb) 8 rfl hv54 rfl rfl rfl ZiO ZiI rfl rfl (ZaV.box 7 rfl) rfl rfl (⟨_,_,_,_,rfl,hr12,hr13,by first | assumption | omega | (simp;done) | (simp;omega),by first | assumption | omega | (simp;done) | (simp;omega)⟩) om (fun l55 p55 c55 hv55=>?_)))⟩
 refine ⟨⟨Kn.le.refl _,t2⟩,(Zv 13 kr rfl kr (ZaS (R:=Zb) 8 rfl hv55 rfl rfl rfl ZiO ZiI rfl rfl rfl hr40.rows Zb.one rfl om (fun l56 p56 c56 hv56=>?_)))⟩
 refine ⟨⟨Kn.le.refl _,t2⟩,(aW 14 rfl Z0 (h:=ZV 15 kr rfl kr kr kr (ZO [_] 3 [_,_,_,_,_] rfl rfl ZqU rfl rfl rfl rfl rfl rfl rfl rfl ?_)))⟩
 refine Zf (Zw [_,_,_,_,_,_,_,_,_] rfl (Za (xL [_,_,_,_,_] Z2 3 (h:=ZZ 8 rfl hv56 Zb.mono om3 (fun B57 hle57 hr57=>?_)))))
 replace hu:=hu.mono Zh.mono hle57
 replace hf:=hf.mono Zb.mono hle57
 replace hi:=hi.mono Zj.mono hle57
 replace hu5:=hu5.mono Zh.mono hle57
 replace hi5:=hi5.mono Zj.mono hle57
 replace hr12:=hr12.mono ZG.mono hle57
 replace hr13:=hr13.mono ZJ.mono hle57
 have hr57n:=hr57.len
 refine xS [_,_,_,_,_] 1 [_,_,_,_,_] Zaw (h:=?_)
 rw [Zcj (k:=k) hok hnk oz oz oz hk hak (.inl oz)]
 refine xA (h:=Zw [_,_,_,_,_,_,_,_,_] rfl (Zg ?_))
 exact Zaf .ret (.inl rfl) [_,_] [] rfl ⟨⟨_,rfl,.inr ⟨[_,_,_,_,_],Z2,Zad 1 rfl rfl rfl,rfl⟩⟩,rfl,trivial⟩ ⟨rfl,_,_,_,_,_,_,(by first | rfl | (simp only [DHost.withFolders,List.length_set];rfl)),hu5,hr57,hi5,oy⟩

set_option maxRecDepth 4000 in
set_option maxHeartbeats 400000 in
theorem Zex (q : Option Addr) (cp : Nat) (gs : List DGrant) (u : Str) (r : Int) (hul : u.length ≤ 2000000) (B : Kn) (hg : SlK B q cp 2 ZG gs) : ZM (pj J) 90 [.slice q gs.length cp, str u, .int .i64 r] B [] (fun v B' Ls => ∃ l a c, Ls = [l] ∧ v = .tuple #[.slice a (Zb1 gs u r).1.length c, .bool (Zb1 gs u r).2] ∧ Z3 B' l a c 139 2 ZG (Zb1 gs u r).1) := by
  refine Zc 80 Tryz.func90 rfl rfl rfl (Nat.le_of_ble_eq_true rfl) ?_
  have hgn := hg.len
  refine Za (xA (h:=xA (h:=Zm (Za (xM (h:=xR Zvx rfl (ZfW _ _ _ _ hg) (h:=xN (h:=xM (h:=Zt (d := 14) rfl (fun g1 => ?_) (fun g1 => ?_))))))))))
  try simp only [sQ, ne_eq] at g1
  rw [ZgB (by simp [g1])]
  refine xP (h:=xP (h:=xP (h:=xT (h:=xM (h:=xP (h:=xP (h:=xP (h:=xT (h:=Zd (t := true) rfl (fun _ => Za (xBs [] [] Tryz.underlying53 ZbL Zdy (h:=fun b2 => xA (h:=?_)))) (fun h => Bool.noConfusion h))))))))))
  refine xA (h:=Zw [_] rfl (Zg (Zs ?_)))
  exact Zaf .ret (.inl rfl) [_, _] [0] rfl ⟨rfl, rfl, trivial⟩ ⟨_, _, _, rfl, rfl, Z3.lit0⟩
  try simp only [sQ, ne_eq] at g1
  refine xM (h:=xR ZrZ rfl (ZbT _ (by first | assumption | omega | (simp; done) | (simp; omega)) _) (h:=?_))
  refine xN (h:=xF (h:=xM (h:=Zt (d := 19) rfl (fun g2 => ?_) (fun g2 => ?_))))
  try simp only [sQ, ne_eq] at g2
  rw [ZgB (by simp [g2])]
  refine xP (h:=xP (h:=xP (h:=xT (h:=Zd (t := true) rfl (fun _ => Za (xBs [] [] Tryz.underlying53 ZbL Zdy (h:=fun b4 => xA (h:=xA (h:=Zw [_] rfl (Zg (Zs ?_))))))) (fun h => Bool.noConfusion h)))))
  exact Zaf .ret (.inl rfl) [_, _] [0] rfl ⟨rfl, rfl, trivial⟩ ⟨_, _, _, rfl, rfl, Z3.lit0⟩
  try simp only [sQ, ne_eq] at g2
  refine xM (h:=xR Zu8 rfl (ZhT _ _) (h:=xN (h:=xF (h:=Zd rfl (fun g3 => ?_) (fun g3 => ?_)))))
  try simp only [sQ, ne_eq] at g3
  rw [ZgB (by simp [g3])]
  refine Za (xBs [] [] Tryz.underlying53 ZbL Zdy (h:=fun b6 => xA (h:=xA (h:=Zw [_] rfl (Zg (Zs ?_))))))
  exact Zaf .ret (.inl rfl) [_, _] [0] rfl ⟨rfl, rfl, trivial⟩ ⟨_, _, _, rfl, rfl, Z3.lit0⟩
  try simp only [sQ, ne_eq] at g3
  have hok : ZbK gs = true := by simpa using g1
  have hin : ZbK gs = true ∧ Zaj u = true ∧ ZdE r = true := ⟨hok, by simpa using g2, by simpa using g3⟩
  have hg4 := ZiC hok
  refine Zi (Zf (Za (xBs [] [] Tryz.underlying53 ZbL Zdy (h:=fun b7 => xA (h:=Zw [_] rfl (Za (xM (h:=ZF (h:=xA (h:=Zm (Za (xA (h:=?_)))))))))))))
  refine Zr (ZU (α := Gh2 DGrant Bool) [0, 1, 2, 6, 7, 23] (fun g => [(8, .slice g.a g.xs.length g.c), (9, .bool g.e), (10, .int .i64 g.k)]) [0] (fun g => [g.l]) (fun g Bx => Bx = B ∧ g.k ≤ gs.length ∧ (g.e, g.xs) = Zel u r (gs.take g.k) ∧ g.xs.length ≤ 2 * g.k ∧ Z3 Bx g.l g.a g.c 139 2 ZG g.xs) (fun g => gs.length - g.k) ⟨0, 0, _, _, _, [], decide (r = 0)⟩ ⟨rfl, rfl, rfl, trivial⟩ rfl (⟨rfl, Nat.zero_le _, rfl, Nat.le_refl _, .lit0⟩) (fun g B8 hle8 hI => ?_))
  obtain ⟨rfl, hk, hs, hgl, hv⟩ := hI
  refine ZQ [(0, _), (1, _), (2, _), (6, _), (7, _), (8, _), (9, _), (10, _), (23, _)] [_] ⟨rfl, rfl, rfl, rfl, rfl, rfl, rfl, rfl, rfl, trivial⟩ rfl (Zm (Za (xM (h:=xM (h:=xV Tryz.underlying53 (h:=Zai (h:=Zd rfl (fun g4 => ?_) (fun g4 => ?_))))))))
  try simp only [sQ, ne_eq] at g4
  refine Zi (Zf (Zm (Zr (Zm (Za (xM (h:=xN (h:=xM (h:=Zt (d := 36) rfl (fun g5 => ?_) (fun g5 => ?_))))))))))
  try simp only [sQ, ne_eq] at g5
  refine xM (h:=xM (h:=?_))
  obtain ⟨x, hx⟩ := Zax (xs := gs) (i := g.k) (by first | omega | (simp; done) | (simp; omega))
  obtain ⟨bb10, oo10, rfl⟩ := hg.base hx
  obtain ⟨_, ⟨rfl, hb11⟩, hc11⟩ := hg.elem hx
  refine xIx Tryz.underlying53 ZbL (h:=xW ZcH (h:=y1 lk9 hc11 0 (h:=xM (h:=Zt9 (h:=xT (h:=Zd rfl (fun g6 => ?_) (fun g6 => ?_)))))))
  try simp only [sQ, ne_eq] at g6
  refine Za (xM (h:=xM (h:=xM (h:=xB [(0, _), (1, _)] [_, _] [_, _] Zs8 Zdy (h:=xBs [(0, _)] [_, _] Tryz.underlying53 ZbL Zdy (h:=fun b12 => Zn (Za8 (z := ⟨u, r⟩) (R := ZG) 0 rfl hv rfl rfl rfl Zqk Zpa rfl rfl (ZaV.box 1 rfl) rfl rfl (⟨rfl, by first | assumption | omega | (simp; done) | (simp; omega)⟩) (by first | omega | (simp; done) | (simp; omega)) (fun l13 p13 c13 hv13 => ?_))))))))
  refine xA (h:=Zw [_, _] rfl (Ze (xA (h:=Zf (Za (xM (h:=xM (h:=xIx Tryz.underlying53 ZbL (h:=xW ZcH (h:=y1 lk9 hc11 0 (h:=xM (h:=ZiT (h:=?_)))))))))))))
  refine Zd rfl (fun g8 => ?_) (fun g8 => ?_)
  try simp only [sQ, ne_eq] at g8
  refine Ze (xM (h:=xM (h:=xM (h:=xIx Tryz.underlying53 ZbL (h:=yL [_, _] Zru hc11 0 (h:=xBs [(0, _)] [_, _] Tryz.underlying53 ZbL Zdy (h:=fun b14 => Zn (Za8 (z := ⟨x.user, x.rights⟩) (R := ZG) 0 rfl hv13 rfl rfl rfl Zqk Zpa rfl rfl (ZaV.box 2 rfl) rfl rfl (⟨rfl, by first | assumption | omega | (simp; done) | (simp; omega)⟩) (by first | omega | (simp; done) | (simp; omega)) (fun l15 p15 c15 hv15 => ?_)))))))))
  refine xA (h:=Zz (Zf (Ze (xM (h:=xD (h:=xA (h:=?_)))))))
  exact ZE ⟨g.k + 1, 0, l15, p15, c15, ((g.xs ++ [⟨u, r⟩]) ++ [⟨x.user, x.rights⟩]), true⟩ [0] (by first | omega | (simp only []; omega)) ⟨rfl, by simp only []; omega, by simp only []; rw [Zco hx, ← hs]; simp [ZeT, g5, g6, g8], by first | (simp only []; omega) | (simp; omega), hv15⟩ ⟨rfl, rfl, rfl, rfl, rfl, rfl, rfl, rfl, rfl, trivial⟩ rfl
  try simp only [sQ, ne_eq] at g8
  refine Zi (Zz (Zf (Ze (xM (h:=xD (h:=xA (h:=?_)))))))
  exact ZE ⟨g.k + 1, 0, l13, p13, c13, (g.xs ++ [⟨u, r⟩]), true⟩ [0] (by first | omega | (simp only []; omega)) ⟨rfl, by simp only []; omega, by simp only []; rw [Zco hx, ← hs]; simp [ZeT, g5, g8 ▸ g6, g8], by first | (simp only []; omega) | (simp; omega), hv13⟩ ⟨rfl, rfl, rfl, rfl, rfl, rfl, rfl, rfl, rfl, trivial⟩ rfl
  try simp only [sQ, ne_eq] at g6
  refine Zi (Zf (Za (xM (h:=xM (h:=xIx Tryz.underlying53 ZbL (h:=xW ZcH (h:=y1 lk9 hc11 0 (h:=xM (h:=ZiT (h:=Zd rfl (fun g8 => ?_) (fun g8 => ?_)))))))))))
  try simp only [sQ, ne_eq] at g8
  refine Ze (xM (h:=xM (h:=xM (h:=xIx Tryz.underlying53 ZbL (h:=yL [_, _] Zru hc11 0 (h:=xBs [(0, _)] [_, _] Tryz.underlying53 ZbL Zdy (h:=fun b16 => Zn (Za8 (z := ⟨x.user, x.rights⟩) (R := ZG) 0 rfl hv rfl rfl rfl Zqk Zpa rfl rfl (ZaV.box 1 rfl) rfl rfl (⟨rfl, by first | assumption | omega | (simp; done) | (simp; omega)⟩) (by first | omega | (simp; done) | (simp; omega)) (fun l17 p17 c17 hv17 => ?_)))))))))
  refine xA (h:=Zz (Zf (Ze (xM (h:=xD (h:=xA (h:=?_)))))))
  exact ZE ⟨g.k + 1, 0, l17, p17, c17, (g.xs ++ [⟨x.user, x.rights⟩]), g.e⟩ [0] (by first | omega | (simp only []; omega)) ⟨rfl, by simp only []; omega, by simp only []; rw [Zco hx, ← hs]; simp [ZeT, g5, g6, g8], by first | (simp only []; omega) | (simp; omega), hv17⟩ ⟨rfl, rfl, rfl, rfl, rfl, rfl, rfl, rfl, rfl, trivial⟩ rfl
  try simp only [sQ, ne_eq] at g8
  refine Zi (Zz (Zf (Ze (xM (h:=xD (h:=xA (h:=?_)))))))
  exact ZE ⟨g.k + 1, 0, g.l, g.a, g.c, g.xs, g.e⟩ [0] (by first | omega | (simp only []; omega)) ⟨rfl, by simp only []; omega, by simp only []; rw [Zco hx, ← hs]; simp [ZeT, g5, g8 ▸ g6, g8], by first | (simp only []; omega) | (simp; omega), hv⟩ ⟨rfl, rfl, rfl, rfl, rfl, rfl, rfl, rfl, rfl, trivial⟩ rfl
  try simp only [sQ, ne_eq] at g5
  refine xP (h:=xP (h:=xP (h:=xP (h:=xP (h:=xP (h:=xP (h:=xF (h:=Zd (t := false) rfl (fun h => Bool.noConfusion h) (fun _ => Zi (Zf (Za (xM (h:=?_)))))))))))))
  refine xM (h:=?_)
  obtain ⟨x, hx⟩ := Zax (xs := gs) (i := g.k) (by first | omega | (simp; done) | (simp; omega))
  obtain ⟨bb19, oo19, rfl⟩ := hg.base hx
  obtain ⟨_, ⟨rfl, hb20⟩, hc20⟩ := hg.elem hx
  refine xIx Tryz.underlying53 ZbL (h:=xW ZcH (h:=y1 lk9 hc20 0 (h:=xM (h:=ZiT (h:=Zd rfl (fun g8 => ?_) (fun g8 => ?_))))))
  try simp only [sQ, ne_eq] at g8
  refine Ze (xM (h:=xM (h:=xM (h:=xIx Tryz.underlying53 ZbL (h:=yL [_, _] Zru hc20 0 (h:=xBs [(0, _)] [_, _] Tryz.underlying53 ZbL Zdy (h:=fun b21 => Zn (Za8 (z := ⟨x.user, x.rights⟩) (R := ZG) 0 rfl hv rfl rfl rfl Zqk Zpa rfl rfl (ZaV.box 1 rfl) rfl rfl (⟨rfl, by first | assumption | omega | (simp; done) | (simp; omega)⟩) (by first | omega | (simp; done) | (simp; omega)) (fun l22 p22 c22 hv22 => ?_)))))))))
  refine xA (h:=Zz (Zf (Ze (xM (h:=xD (h:=xA (h:=?_)))))))
  exact ZE ⟨g.k + 1, 0, l22, p22, c22, (g.xs ++ [⟨x.user, x.rights⟩]), g.e⟩ [0] (by first | omega | (simp only []; omega)) ⟨rfl, by simp only []; omega, by simp only []; rw [Zco hx, ← hs]; simp [ZeT, g5, g8], by first | (simp only []; omega) | (simp; omega), hv22⟩ ⟨rfl, rfl, rfl, rfl, rfl, rfl, rfl, rfl, rfl, trivial⟩ rfl
  try simp only [sQ, ne_eq] at g8
  refine Zi (Zz (Zf (Ze (xM (h:=xD (h:=xA (h:=?_)))))))
  exact ZE ⟨g.k + 1, 0, g.l, g.a, g.c, g.xs, g.e⟩ [0] (by first | omega | (simp only []; omega)) ⟨rfl, by simp only []; omega, by simp only []; rw [Zco hx, ← hs]; simp [ZeT, g5, g8], by first | (simp only []; omega) | (simp; omega), hv⟩ ⟨rfl, rfl, rfl, rfl, rfl, rfl, rfl, rfl, rfl, trivial⟩ rfl
  try simp only [sQ, ne_eq] at g4
  rw [List.take_of_length_le (by omega)] at hs
  refine ZY (Zal (Z6 (ZN (Zf (Zm (Za (xM (h:=xN (h:=Zd rfl (fun g9 => ?_) (fun g9 => ?_))))))))))
  try simp only [sQ, ne_eq] at g9
  rw [g9] at hs
  refine Ze (xM (h:=xM (h:=xM (h:=xB [(0, _), (1, _)] [_, _] [_, _] Zs8 Zdy (h:=xBs [(0, _)] [_, _] Tryz.underlying53 ZbL Zdy (h:=fun b23 => Zn (Za8 (z := ⟨u, r⟩) (R := ZG) 0 rfl hv rfl rfl rfl Zqk Zpa rfl rfl (ZaV.box 1 rfl) rfl rfl (⟨rfl, by first | assumption | omega | (simp; done) | (simp; omega)⟩) (by first | omega | (simp; done) | (simp; omega)) (fun l24 p24 c24 hv24 => ?_))))))))
  refine xA (h:=Zf (Zm (Za (xM (h:=Zn (Zhr 0 rfl rfl rfl Zvx rfl (Za1.borrow fun hm25 => ZfW _ _ _ _ (hv24.lend ZG.mono hm25 (by first | omega | (simp; done) | (simp; omega)))) ?_))))))
  refine xN (h:=Zw [_, _] rfl (Zd rfl (fun g7 => ?_) (fun g7 => ?_)))
  try simp only [sQ, ne_eq] at g7
  rw [Zlz hin (by rw [ZgD hs]; exact g7)]
  refine Za (xBs [] [] Tryz.underlying53 ZbL Zdy (h:=fun b26 => xM (h:=Zn (ZaS (R := ZG) 2 rfl (Z3.lit0 (R := ZG)) rfl rfl rfl Zqk Zpa rfl rfl rfl hg.rows ZG.one rfl (by first | omega | (simp; done) | (simp; omega)) (fun l27 p27 c27 hv27 => ?_)))))
  refine xA (h:=xA (h:=Zw [_, _, _] rfl (Zg (Zs ?_))))
  exact Zaf .ret (.inl rfl) [_, _] [2] rfl ⟨rfl, rfl, trivial⟩ ⟨_, _, _, rfl, rfl, hv27⟩
  try simp only [sQ, ne_eq] at g7
  rw [Zjz hin (by rw [ZgD hs]; simpa using g7), ZgD hs]
  refine Zi (Zf (Za (xM (h:=xA (h:=xA (h:=Zg ?_))))))
  exact Zaf .ret (.inl rfl) [_, _] [0] rfl ⟨rfl, rfl, trivial⟩ ⟨_, _, _, rfl, rfl, hv24⟩
  try simp only [sQ, ne_eq] at g9
  rw [show g.e = true by simpa using g9] at hs
  refine Zi (Zf (Zm (Za (xM (h:=Zn (Zhr 0 rfl rfl rfl Zvx rfl (Za1.borrow fun hm28 => ZfW _ _ _ _ (hv.lend ZG.mono hm28 (by first | omega | (simp; done) | (simp; omega)))) ?_))))))
  refine xN (h:=Zd rfl (fun g7 => ?_) (fun g7 => ?_))
  try simp only [sQ, ne_eq] at g7
  rw [Zlz hin (by rw [ZgC hs]; exact g7)]
  refine Za (xBs [] [] Tryz.underlying53 ZbL Zdy (h:=fun b29 => xM (h:=Zn (ZaS (R := ZG) 1 rfl (Z3.lit0 (R := ZG)) rfl rfl rfl Zqk Zpa rfl rfl rfl hg.rows ZG.one rfl (by first | omega | (simp; done) | (simp; omega)) (fun l30 p30 c30 hv30 => ?_)))))
  refine xA (h:=xA (h:=Zw [_, _] rfl (Zg (Zs ?_))))
  exact Zaf .ret (.inl rfl) [_, _] [1] rfl ⟨rfl, rfl, trivial⟩ ⟨_, _, _, rfl, rfl, hv30⟩
  try simp only [sQ, ne_eq] at g7
  rw [Zjz hin (by rw [ZgC hs]; simpa using g7), ZgC hs]
  refine Zi (Zf (Za (xM (h:=xA (h:=xA (h:=Zg ?_))))))
  exact Zaf .ret (.inl rfl) [_, _] [0] rfl ⟨rfl, rfl, trivial⟩ ⟨_, _, _, rfl, rfl, hv⟩

set_option maxHeartbeats 400000 in
theorem ZlY (q1 q2 q3:Option Addr) (c1 c2 c3:Nat) (x:DHost) (by_ o n u:Str) (r:Int) (hbl:by_.length≤2000000) (hol:o.length≤2000000) (hnl:n.length≤2000000) (hul:u.length≤2000000) (hd:x.domain.length≤2000000) (B:Kn) (hu:SlK B q1 c1 3 Zh x.users) (hf:SlK B q2 c2 5 Zb x.folders) (hi:SlK B q3 c3 4 Zj x.queue.items):ZM (pj J) 138 [.agg #[str x.domain,.slice q1 x.users.length c1,.slice q2 x.folders.length c2,.int .i64 x.queue.next,.slice q3 x.queue.items.length c3],str by_,str o,str n,str u,.int .i64 r] B [] (fun v B' Ls=>Ls=[]∧∃p1 d1 p2 d2 p3 d3,v = .tuple #[.agg #[str (Zb0 x by_ o n u r).1.domain,.slice p1 (Zb0 x by_ o n u r).1.users.length d1,.slice p2 (Zb0 x by_ o n u r).1.folders.length d2,.int .i64 (Zb0 x by_ o n u r).1.queue.next,.slice p3 (Zb0 x by_ o n u r).1.queue.items.length d3],.int .i64 (Zb0 x by_ o n u r).2]∧SlK B' p1 d1 3 Zh (Zb0 x by_ o n u r).1.users∧SlK B' p2 d2 5 Zb (Zb0 x by_ o n u r).1.folders∧SlK B' p3 d3 4 Zj (Zb0 x by_ o n u r).1.queue.items∧(Zb0 x by_ o n u r).1.domain.length≤2000000):=by
 refine Zc 76 Tryz.func138 rfl rfl rfl (Nat.le_of_ble_eq_true rfl) ?_
 have hun:=hu.len
 have hfn:=hf.len
 have hin:=hi.len
 have hix:=ZcG (inF o n) x.folders
 refine Za (xBx [_,_,_,_,_] (h:=fun b1=>xAl [_,_,_,_,_] Zba (h:=fun b2=>xA (h:=Zw [_,_] rfl (Zm (Za (xL [_,_,_,_,_] Z2 0 (h:=xR Zqn rfl (Zbm _ _ _ _ _ _ x om2 _ hu hf hi) (h:=?_)))))))))
 refine xN (h:=xM (h:=Zt (d:=22) rfl (fun g1=>?_) (fun g1=>?_)))
 try simp only [sQ,ne_eq] at g1
 rw [Zb0,if_pos (by simp [g1])]
 refine xP (h:=xP (h:=xP (h:=xT (h:=Zd (t:=true) rfl (fun _=>Za (xB [] [_,_,_,_,_] [_,_,_,_,_] ZdV Zba (h:=xS [_,_,_,_,_] 1 [_,_,_,_,_] Zaw (h:=xA (h:=Zw [_,_] rfl (Zg (Zs ?_))))))) (fun h=>Bool.noConfusion h)))))
 exact Zaf .ret (.inl rfl) [_,_] [] rfl ⟨⟨_,rfl,.inr ⟨[_,_,_,_,_],Z2,Zad 1 rfl rfl rfl,rfl⟩⟩,rfl,trivial⟩ ⟨rfl,none,0,none,0,none,0,rfl,SlK.nil,SlK.nil,SlK.nil,by simp [Za4]⟩
 try simp only [sQ,ne_eq] at g1
 refine xM (h:=xR Zu8 rfl (ZhT _ _) (h:=xN (h:=xF (h:=Zd rfl (fun g2=>?_) (fun g2=>?_)))))
 try simp only [sQ,ne_eq] at g2
 rw [Zb0,if_pos (by simp [g2])]
 refine Za (xB [] [_,_,_,_,_] [_,_,_,_,_] ZdV Zba (h:=xS [_,_,_,_,_] 1 [_,_,_,_,_] Zaw (h:=xA (h:=Zw [_,_] rfl (Zg (Zs ?_))))))
 exact Zaf .ret (.inl rfl) [_,_] [] rfl ⟨⟨_,rfl,.inr ⟨[_,_,_,_,_],Z2,Zad 1 rfl rfl rfl,rfl⟩⟩,rfl,trivial⟩ ⟨rfl,none,0,none,0,none,0,rfl,SlK.nil,SlK.nil,SlK.nil,by simp [Za4]⟩
 try simp only [sQ,ne_eq] at g2
 have hok:ZA x=true:=by simpa using g1
 have hrr:=ZbV hok
 have hnn : ¬ ¬ (ZA x=true∧ZdE r=true):=fun h=>h ⟨hok,by simpa using g2⟩
 refine Zi (Zf (Za (xL [_,_,_,_,_] Z2 0 (h:=Zn (Zac rfl rfl Znp rfl (Zbd _ _ _ _ _ _ x _ hu hf hi) ?_)))))
 rintro _ B5 _ hle5 ⟨l5,a5,c5,q15,c15,q35,c35,rfl,rfl,hu5,hs5,hi5⟩
 replace hu:=hu.mono Zh.mono hle5
 replace hf:=hf.mono Zb.mono hle5
 replace hi:=hi.mono Zj.mono hle5
 have hu5n:=hu5.len
 have hi5n:=hi5.len
 refine xAl [_,_,_,_,_] Zba (h:=fun b6=>xS [_,_,_,_,_] 3 [_,_,_,_,_] Zaw (h:=Zw [_,_,_,_] rfl (Za (xL [_,_,_,_,_] Z2 0 (h:=xM (h:=xM (h:=xR ZsJ rfl (ZcR _ _ _ _ _ _ x o n om2 om2 _ hf) (h:=?_))))))))
 refine xA (h:=Za (xL [_,_,_,_,_] Z2 0 (h:=xM (h:=xM (h:=xR Zt7 rfl (Zdc _ _ _ _ _ _ x by_ (ZaD (inF o n) x.folders) 32 oz hrr oz _ hu hf) (h:=?_))))))
 refine xA (h:=Zm (Zr (Za (xM (h:=ZcZ (h:=xA (h:=Zd rfl (fun g3=>?_) (fun g3=>?_))))))))
 try simp only [sQ,ne_eq] at g3
 refine Za (xL [_,_,_,_,_] Z2 3 (h:=ZZ 2 rfl hs5 Zb.mono om3 (fun B9 hle9 hr9=>?_)))
 replace hu:=hu.mono Zh.mono hle9
 replace hf:=hf.mono Zb.mono hle9
 replace hi:=hi.mono Zj.mono hle9
 replace hu5:=hu5.mono Zh.mono hle9
 replace hi5:=hi5.mono Zj.mono hle9
 have hr9n:=hr9.len
 refine xM (h:=?_)
 rw [Zb0,if_neg hnn,if_pos g3]
 refine xS [_,_,_,_,_] 1 [_,_,_,_,_] Zaw (h:=xA (h:=Zw [_,_,_,_] rfl (Zg (ZI (Zs ?_)))))
 exact Zaf .ret (.inl rfl) [_,_] [] rfl ⟨⟨_,rfl,.inr ⟨[_,_,_,_,_],Z2,Zad 1 rfl rfl rfl,rfl⟩⟩,rfl,trivial⟩ ⟨rfl,_,_,_,_,_,_,(by first | rfl | (simp only [DHost.withFolders,List.length_set];rfl)),hu5,hr9,hi5,by first | assumption | (rw [ZS.2.2.1];assumption)⟩
 try simp only [sQ,ne_eq] at g3
 refine Za (xM (h:=ZiT (h:=xM (h:=Zt (d:=46) rfl (fun g4=>?_) (fun g4=>?_)))))
 try simp only [sQ,ne_eq] at g4
 refine xW Zcn (h:=x1 ZjQ 0 (h:=xM (h:=xR ZsI rfl (ZcS _ _ _ _ _ hu) (h:=Zai (h:=xT (h:=xA (h:=Zd rfl (fun g5=>?_) (fun g5=>?_))))))))
 try simp only [sQ,ne_eq] at g5
 refine Za (xL [_,_,_,_,_] Z2 3 (h:=ZZ 2 rfl hs5 Zb.mono om3 (fun B11 hle11 hr11=>?_)))
 replace hu:=hu.mono Zh.mono hle11
 replace hf:=hf.mono Zb.mono hle11
 replace hi:=hi.mono Zj.mono hle11
 replace hu5:=hu5.mono Zh.mono hle11
 replace hi5:=hi5.mono Zj.mono hle11
 have hr11n:=hr11.len
 refine xS [_,_,_,_,_] 1 [_,_,_,_,_] Zaw (h:=?_)
 rw [Zb0,if_neg hnn,if_neg (fun h=>h g3),if_pos ⟨g4,g5⟩]
 refine xA (h:=Zw [_,_,_,_] rfl (Zg (ZI (Zs ?_))))
 exact Zaf .ret (.inl rfl) [_,_] [] rfl ⟨⟨_,rfl,.inr ⟨[_,_,_,_,_],Z2,Zad 1 rfl rfl rfl,rfl⟩⟩,rfl,trivial⟩ ⟨rfl,_,_,_,_,_,_,(by first | rfl | (simp only [DHost.withFolders,List.length_set];rfl)),hu5,hr11,hi5,by first | assumption | (rw [ZS.2.2.1];assumption)⟩
 try simp only [sQ,ne_eq] at g5
 have hne : ¬ (u≠anyone∧Zdw x.users u<0):=fun h=>absurd h.2 oz
 obtain ⟨_,hk0,_,_,_⟩:=Zdp g3
 have hge:Zb0 x by_ o n u r=ZeL x (ZaD (inF o n) x.folders).toNat u r:=by rw [Zb0,if_neg hnn,if_neg (fun h=>h g3),if_neg hne]
 refine Zi (Zz (Zf (Za (xW Z0 (h:=x1 Zcy 0 (h:=xM (h:=?_)))))))
 obtain ⟨fd,hfd⟩:=Zd7 (xs:=x.folders) (i:=(ZaD (inF o n) x.folders)) om om
 obtain ⟨bb13,oo13,rfl⟩:=hf.base hfd
 obtain ⟨_,⟨qg14,cg14,qm14,cm14,rfl,hg14,hm14,hb14,hb14b⟩,hc14⟩:=hf.elem hfd
 have hg14n:=hg14.len
 have hm14n:=hm14.len
 have hm14s:=Z4 hm14
 refine xIx Tryz.underlying24 Zbj (h:=?_)
 have hacl:=Ze5 fd.grants u r
 have hfg:=Zf6 (Zbq hok hfd)
 refine xW ZdI (h:=y1 Zrt hc14 2 (h:=xM (h:=xM (h:=Zn (Zac rfl rfl Zwb rfl (Zex _ _ fd.grants u r om2 _ hg14) ?_)))))
 rintro _ B15 _ hle15 ⟨l15,a15,c15,rfl,rfl,hs15⟩
 replace hu:=hu.mono Zh.mono hle15
 replace hf:=hf.mono Zb.mono hle15
 replace hi:=hi.mono Zj.mono hle15
 replace hg14:=hg14.mono ZG.mono hle15
 replace hm14:=hm14.mono ZJ.mono hle15
 replace hc14:=hc14.mono hle15
 replace hs5:=hs5.mono Zb.mono hle15
 replace hu5:=hu5.mono Zh.mono hle15
 replace hi5:=hi5.mono Zj.mono hle15
 have hs15n:=hs15.cap
 replace hs15:=hs15.anyK (B':=B15) ZG.any
 refine xM (h:=xE (h:=xE (h:=xA (h:=ZZ 4 rfl hs15 ZG.mono om3 (fun B16 hle16 hr16=>?_)))))
 replace hu:=hu.mono Zh.mono hle16
 replace hf:=hf.mono Zb.mono hle16
 replace hi:=hi.mono Zj.mono hle16
 replace hg14:=hg14.mono ZG.mono hle16
 replace hm14:=hm14.mono ZJ.mono hle16
 replace hc14:=hc14.mono hle16
 replace hs5:=hs5.mono Zb.mono hle16
 replace hu5:=hu5.mono Zh.mono hle16
 replace hi5:=hi5.mono Zj.mono hle16
 have hr16n:=hr16.len
 refine xA (h:=Zw [_,_,_,_,_] rfl (Zm (Za (xM (h:=xN (h:=Zd rfl (fun g6=>?_) (fun g6=>?_)))))))
 try simp only [sQ,ne_eq] at g6
 refine Za (xL [_,_,_,_,_] Z2 3 (h:=ZZ 2 rfl hs5 Zb.mono om3 (fun B17 hle17 hr17=>?_)))
 replace hu:=hu.mono Zh.mono hle17
 replace hf:=hf.mono Zb.mono hle17
 replace hi:=hi.mono Zj.mono hle17
 replace hr16:=hr16.mono ZG.mono hle17
 replace hu5:=hu5.mono Zh.mono hle17
 replace hi5:=hi5.mono Zj.mono hle17
 have hr17n:=hr17.len
 refine xS [_,_,_,_,_] 1 [_,_,_,_,_] Zaw (h:=?_)
 rw [hge,Zjm hfd g6]
 refine xA (h:=Zw [_,_,_,_,_] rfl (Zg (Zs ?_)))
 exact Zaf .ret (.inl rfl) [_,_] [] rfl ⟨⟨_,rfl,.inr ⟨[_,_,_,_,_],Z2,Zad 1 rfl rfl rfl,rfl⟩⟩,rfl,trivial⟩ ⟨rfl,_,_,_,_,_,_,(by first | rfl | (simp only [DHost.withFolders,List.length_set];rfl)),hu5,hr17,hi5,by first | assumption | (rw [ZS.2.2.1];assumption)⟩
 try simp only [sQ,ne_eq] at g6
 refine Zi (Zf (Za (xW Z0 (h:=x1 Zcy 3 (h:=xM (h:=xM (h:=?_)))))))
 obtain ⟨bb18,_,hp18,⟨qg18,cg18,qm18,cm18,rfl,hg18,hm18,hb18,hb18b⟩,hw18,hc18⟩:=hs5.row hfd
 have hg18n:=hg18.len
 have hm18n:=hm18.len
 have hm18s:=Z4 hm18
 refine xIp hp18 Tryz.underlying24 Zbj (h:=xW ZdI (h:=Zn (Zd8 (k:=((ZaD (inF o n) x.folders)).toNat) (off:=2) (⟨fd.owner,fd.name,(Zb1 fd.grants u r).1,fd.next,fd.mail⟩) [_] 2 hs5 hp18 hfd rfl rfl Zuv rfl rfl rfl rfl rfl rfl (by rintro _ ⟨_,_,_,_,rfl,_,e2,e3,e4⟩;exact ⟨_,_,_,_,rfl,hr16,e2,e3,e4⟩) (fun l19 hv19=>?_))))
 refine Zw [_,_,_,_,_] rfl (Za (xL [_,_,_,_,_] Z2 3 (h:=ZZ 2 rfl hv19 Zb.mono om3 (fun B20 hle20 hr20=>?_))))
 replace hu:=hu.mono Zh.mono hle20
 replace hf:=hf.mono Zb.mono hle20
 replace hi:=hi.mono Zj.mono hle20
 replace hr16:=hr16.mono ZG.mono hle20
 replace hu5:=hu5.mono Zh.mono hle20
 replace hi5:=hi5.mono Zj.mono hle20
 have hr20n:=hr20.len
 refine xS [_,_,_,_,_] 1 [_,_,_,_,_] Zaw (h:=?_)
 rw [hge,Zia hfd (by simpa using g6)]
 refine xA (h:=Zw [_,_,_,_,_] rfl (Zg ?_))
 exact Zaf .ret (.inl rfl) [_,_] [] rfl ⟨⟨_,rfl,.inr ⟨[_,_,_,_,_],Z2,Zad 1 rfl rfl rfl,rfl⟩⟩,rfl,trivial⟩ ⟨rfl,_,_,_,_,_,_,(by first | rfl | (simp only [DHost.withFolders,List.length_set];rfl)),hu5,hr20,hi5,by first | assumption | (rw [ZS.2.2.1];assumption)⟩
 try simp only [sQ,ne_eq] at g4
 have hne : ¬ (u≠anyone∧Zdw x.users u<0):=fun h=>h.1 g4
 obtain ⟨_,hk0,_,_,_⟩:=Zdp g3
 have hge:Zb0 x by_ o n u r=ZeL x (ZaD (inF o n) x.folders).toNat u r:=by rw [Zb0,if_neg hnn,if_neg (fun h=>h g3),if_neg hne]
 refine xP (h:=xP (h:=xP (h:=xP (h:=xP (h:=xF (h:=xA (h:=Zd (t:=false) rfl (fun h=>Bool.noConfusion h) (fun _=>Zi (Zz (Zf (Za (xW Z0 (h:=x1 Zcy 0 (h:=?_))))))))))))))
 refine xM (h:=?_)
 obtain ⟨fd,hfd⟩:=Zd7 (xs:=x.folders) (i:=(ZaD (inF o n) x.folders)) om om
 obtain ⟨bb22,oo22,rfl⟩:=hf.base hfd
 obtain ⟨_,⟨qg23,cg23,qm23,cm23,rfl,hg23,hm23,hb23,hb23b⟩,hc23⟩:=hf.elem hfd
 have hg23n:=hg23.len
 have hm23n:=hm23.len
 have hm23s:=Z4 hm23
 refine xIx Tryz.underlying24 Zbj (h:=?_)
 have hacl:=Ze5 fd.grants u r
 have hfg:=Zf6 (Zbq hok hfd)
 refine xW ZdI (h:=y1 Zrt hc23 2 (h:=xM (h:=xM (h:=Zn (Zac rfl rfl Zwb rfl (Zex _ _ fd.grants u r om2 _ hg23) ?_)))))
 rintro _ B24 _ hle24 ⟨l24,a24,c24,rfl,rfl,hs24⟩
 replace hu:=hu.mono Zh.mono hle24
 replace hf:=hf.mono Zb.mono hle24
 replace hi:=hi.mono Zj.mono hle24
 replace hg23:=hg23.mono ZG.mono hle24
 replace hm23:=hm23.mono ZJ.mono hle24
 replace hc23:=hc23.mono hle24
 replace hs5:=hs5.mono Zb.mono hle24
 replace hu5:=hu5.mono Zh.mono hle24
 replace hi5:=hi5.mono Zj.mono hle24
 have hs24n:=hs24.cap
 replace hs24:=hs24.anyK (B':=B24) ZG.any
 refine xM (h:=xE (h:=xE (h:=xA (h:=ZZ 4 rfl hs24 ZG.mono om3 (fun B25 hle25 hr25=>?_)))))
 replace hu:=hu.mono Zh.mono hle25
 replace hf:=hf.mono Zb.mono hle25
 replace hi:=hi.mono Zj.mono hle25
 replace hg23:=hg23.mono ZG.mono hle25
 replace hm23:=hm23.mono ZJ.mono hle25
 replace hc23:=hc23.mono hle25
 replace hs5:=hs5.mono Zb.mono hle25
 replace hu5:=hu5.mono Zh.mono hle25
 replace hi5:=hi5.mono Zj.mono hle25
 have hr25n:=hr25.len
 refine xA (h:=Zw [_,_,_,_,_] rfl (Zm (Za (xM (h:=xN (h:=Zd rfl (fun g6=>?_) (fun g6=>?_)))))))
 try simp only [sQ,ne_eq] at g6
 refine Za (xL [_,_,_,_,_] Z2 3 (h:=ZZ 2 rfl hs5 Zb.mono om3 (fun B26 hle26 hr26=>?_)))
 replace hu:=hu.mono Zh.mono hle26
 replace hf:=hf.mono Zb.mono hle26
 replace hi:=hi.mono Zj.mono hle26
 replace hr25:=hr25.mono ZG.mono hle26
 replace hu5:=hu5.mono Zh.mono hle26
 replace hi5:=hi5.mono Zj.mono hle26
 have hr26n:=hr26.len
 refine xS [_,_,_,_,_] 1 [_,_,_,_,_] Zaw (h:=?_)
 rw [hge,Zjm hfd g6]
 refine xA (h:=Zw [_,_,_,_,_] rfl (Zg (Zs ?_)))
 exact Zaf .ret (.inl rfl) [_,_] [] rfl ⟨⟨_,rfl,.inr ⟨[_,_,_,_,_],Z2,Zad 1 rfl rfl rfl,rfl⟩⟩,rfl,trivial⟩ ⟨rfl,_,_,_,_,_,_,(by first | rfl | (simp only [DHost.withFolders,List.length_set];rfl)),hu5,hr26,hi5,by first | assumption | (rw [ZS.2.2.1];assumption)⟩
 try simp only [sQ,ne_eq] at g6
 refine Zi (Zf (Za (xW Z0 (h:=x1 Zcy 3 (h:=xM (h:=xM (h:=?_)))))))
 obtain ⟨bb27,_,hp27,⟨qg27,cg27,qm27,cm27,rfl,hg27,hm27,hb27,hb27b⟩,hw27,hc27⟩:=hs5.row hfd
 have hg27n:=hg27.len
 have hm27n:=hm27.len
 have hm27s:=Z4 hm27
 refine xIp hp27 Tryz.underlying24 Zbj (h:=xW ZdI (h:=Zn (Zd8 (k:=((ZaD (inF o n) x.folders)).toNat) (off:=2) (⟨fd.owner,fd.name,(Zb1 fd.grants u r).1,fd.next,fd.mail⟩) [_] 2 hs5 hp27 hfd rfl rfl Zuv rfl rfl rfl rfl rfl rfl (by rintro _ ⟨_,_,_,_,rfl,_,e2,e3,e4⟩;exact ⟨_,_,_,_,rfl,hr25,e2,e3,e4⟩) (fun l28 hv28=>?_))))
 refine Zw [_,_,_,_,_] rfl (Za (xL [_,_,_,_,_] Z2 3 (h:=ZZ 2 rfl hv28 Zb.mono om3 (fun B29 hle29 hr29=>?_))))
 replace hu:=hu.mono Zh.mono hle29
 replace hf:=hf.mono Zb.mono hle29
 replace hi:=hi.mono Zj.mono hle29
 replace hr25:=hr25.mono ZG.mono hle29
 replace hu5:=hu5.mono Zh.mono hle29
 replace hi5:=hi5.mono Zj.mono hle29
 have hr29n:=hr29.len
 refine xS [_,_,_,_,_] 1 [_,_,_,_,_] Zaw (h:=?_)
 rw [hge,Zia hfd (by simpa using g6)]
 refine xA (h:=Zw [_,_,_,_,_] rfl (Zg ?_))
 exact Zaf .ret (.inl rfl) [_,_] [] rfl ⟨⟨_,rfl,.inr ⟨[_,_,_,_,_],Z2,Zad 1 rfl rfl rfl,rfl⟩⟩,rfl,trivial⟩ ⟨rfl,_,_,_,_,_,_,(by first | rfl | (simp only [DHost.withFolders,List.length_set];rfl)),hu5,hr29,hi5,by first | assumption | (rw [ZS.2.2.1];assumption)⟩

set_option maxHeartbeats 400000 in
theorem ZkD (q1 q2 q3:Option Addr) (c1 c2 c3:Nat) (x:DHost) (qx:Option Addr) (cx:Nat) (l:DLetter) (hd:x.domain.length≤2000000) (B:Kn) (hu:SlK B q1 c1 3 Zh x.users) (hf:SlK B q2 c2 5 Zb x.folders) (hi:SlK B q3 c3 4 Zj x.queue.items) (hx:SlK B qx cx 1 Za7 l.to_) (h1:l.fr.length≤2000000) (h2:l.text.length≤2000000):ZM (pj J) 140 [.agg #[str x.domain,.slice q1 x.users.length c1,.slice q2 x.folders.length c2,.int .i64 x.queue.next,.slice q3 x.queue.items.length c3],.agg #[str l.fr,.slice qx l.to_.length cx,str l.text]] B [] (fun v B' Ls=>Ls=[]∧∃p1 d1 p2 d2 p3 d3,v = .tuple #[.agg #[str (Zbp x l).1.domain,.slice p1 (Zbp x l).1.users.length d1,.slice p2 (Zbp x l).1.folders.length d2,.int .i64 (Zbp x l).1.queue.next,.slice p3 (Zbp x l).1.queue.items.length d3],.int .i64 (Zbp x l).2]∧SlK B' p1 d1 3 Zh (Zbp x l).1.users∧SlK B' p2 d2 5 Zb (Zbp x l).1.folders∧SlK B' p3 d3 4 Zj (Zbp x l).1.queue.items∧(Zbp x l).1.domain.length≤2000000):=by
 refine Zc 47 Tryz.func140 rfl rfl rfl (Nat.le_of_ble_eq_true rfl) ?_
 have hun:=hu.len
 have hfn:=hf.len
 have hin:=hi.len
 have hxn:=hx.len
 refine Za (xBx [_,_,_,_,_] (h:=fun b1=>xBx [_,_,_] (h:=fun b2=>xAl [_,_,_,_,_] Zba (h:=fun b3=>xA (h:=Zw [_,_,_] rfl (Zm (Za (xL [_,_,_,_,_] Z2 0 (h:=xR Zqn rfl (Zbm _ _ _ _ _ _ x om2 _ hu hf hi) (h:=?_))))))))))
 refine xN (h:=xM (h:=Zt (d:=12) rfl (fun g1=>?_) (fun g1=>?_)))
 try simp only [sQ,ne_eq] at g1
 rw [Zbp,if_pos (by simp [g1])]
 refine xP (h:=xP (h:=xP (h:=xT (h:=Zd (t:=true) rfl (fun _=>Za (xB [] [_,_,_,_,_] [_,_,_,_,_] ZdV Zba (h:=xS [_,_,_,_,_] 2 [_,_,_,_,_] Zaw (h:=xA (h:=Zw [_,_,_] rfl (Zg (Zs ?_))))))) (fun h=>Bool.noConfusion h)))))
 exact Zaf .ret (.inl rfl) [_,_] [] rfl ⟨⟨_,rfl,.inr ⟨[_,_,_,_,_],Z2,Zad 2 rfl rfl rfl,rfl⟩⟩,rfl,trivial⟩ ⟨rfl,none,0,none,0,none,0,rfl,SlK.nil,SlK.nil,SlK.nil,by simp [Za4]⟩
 try simp only [sQ,ne_eq] at g1
 refine xL [_,_,_] Zmd 1 (h:=xR Zwd rfl (Zew _ _ l _ hx oa oa) (h:=?_))
 refine xN (h:=xF (h:=Zd rfl (fun g2=>?_) (fun g2=>?_)))
 try simp only [sQ,ne_eq] at g2
 rw [Zbp,if_pos (by simp [g2])]
 refine Za (xB [] [_,_,_,_,_] [_,_,_,_,_] ZdV Zba (h:=xS [_,_,_,_,_] 2 [_,_,_,_,_] Zaw (h:=xA (h:=Zw [_,_,_] rfl (Zg (Zs ?_))))))
 exact Zaf .ret (.inl rfl) [_,_] [] rfl ⟨⟨_,rfl,.inr ⟨[_,_,_,_,_],Z2,Zad 2 rfl rfl rfl,rfl⟩⟩,rfl,trivial⟩ ⟨rfl,none,0,none,0,none,0,rfl,SlK.nil,SlK.nil,SlK.nil,by simp [Za4]⟩
 try simp only [sQ,ne_eq] at g2
 have hok:ZA x=true:=by simpa using g1
 have hnn : ¬ ¬ (ZA x=true∧ZaL l=true):=fun h=>h ⟨hok,by simpa using g2⟩
 have hql:=Zez (Zhg hok)
 have hal:=Zhl x.queue l
 refine Zi (Zf (Za (xL [_,_,_,_,_] Z2 0 (h:=Zn (Zac rfl rfl Znp rfl (Zbd _ _ _ _ _ _ x _ hu hf hi) ?_)))))
 rintro _ B6 _ hle6 ⟨l6,a6,c6,q16,c16,q36,c36,rfl,rfl,hu6,hs6,hi6⟩
 replace hu:=hu.mono Zh.mono hle6
 replace hf:=hf.mono Zb.mono hle6
 replace hi:=hi.mono Zj.mono hle6
 replace hx:=hx.mono Za7.mono hle6
 have hu6n:=hu6.len
 have hi6n:=hi6.len
 refine ZZ 3 rfl hs6 Zb.mono om3 (fun B7 hle7 hr7=>?_)
 replace hu:=hu.mono Zh.mono hle7
 replace hf:=hf.mono Zb.mono hle7
 replace hi:=hi.mono Zj.mono hle7
 replace hx:=hx.mono Za7.mono hle7
 replace hu6:=hu6.mono Zh.mono hle7
 replace hi6:=hi6.mono Zj.mono hle7
 have hr7n:=hr7.len
 refine xAl [_,_,_,_,_] Zba (h:=fun b8=>xS [_,_,_,_,_] 4 [_,_,_,_,_] Zaw (h:=Zw [_,_,_,_,_] rfl (Zm (Za (xW Zcn (h:=x1 ZjQ 0 (h:=xW Zih (h:=x1 lk9 1 (h:=xR ZsI rfl (ZcS _ _ _ _ _ hu) (h:=Zai (h:=xM (h:=Zt (d:=26) rfl (fun g3=>?_) (fun g3=>?_)))))))))))))
 try simp only [sQ,ne_eq] at g3
 rw [Zbp,if_neg hnn,if_pos (.inl g3)]
 refine xP (h:=xP (h:=xP (h:=xP (h:=xP (h:=xT (h:=Zd (t:=true) rfl (fun _=>Za (xL [_,_,_,_,_] Z2 4 (h:=xS [_,_,_,_,_] 2 [_,_,_,_,_] Zaw (h:=xA (h:=Zw [_,_,_,_,_] rfl (Zg (Zs ?_))))))) (fun h=>Bool.noConfusion h)))))))
 exact Zaf .ret (.inl rfl) [_,_] [] rfl ⟨⟨_,rfl,.inr ⟨[_,_,_,_,_],Z2,Zad 2 rfl rfl rfl,rfl⟩⟩,rfl,trivial⟩ ⟨rfl,_,_,_,_,_,_,(by first | rfl | (simp only [DHost.withFolders,List.length_set];rfl)),hu6,hr7,hi6,by first | assumption | (rw [ZS.2.2.1];assumption)⟩
 try simp only [sQ,ne_eq] at g3
 refine xL [_,_,_,_,_] Z2 0 (h:=xW Zig (h:=x1 Zhc 1 (h:=xR Zw4 rfl (Zji _ _ _ _ _ _ x _ _ l.to_ _ hu hx) (h:=xN (h:=xF (h:=Zd rfl (fun g4=>?_) (fun g4=>?_)))))))
 try simp only [sQ,ne_eq] at g4
 rw [Zbp,if_neg hnn,if_pos (.inr g4)]
 refine Za (xL [_,_,_,_,_] Z2 4 (h:=xS [_,_,_,_,_] 2 [_,_,_,_,_] Zaw (h:=xA (h:=Zw [_,_,_,_,_] rfl (Zg (Zs ?_))))))
 exact Zaf .ret (.inl rfl) [_,_] [] rfl ⟨⟨_,rfl,.inr ⟨[_,_,_,_,_],Z2,Zad 2 rfl rfl rfl,rfl⟩⟩,rfl,trivial⟩ ⟨rfl,_,_,_,_,_,_,(by first | rfl | (simp only [DHost.withFolders,List.length_set];rfl)),hu6,hr7,hi6,by first | assumption | (rw [ZS.2.2.1];assumption)⟩
 try simp only [sQ,ne_eq] at g4
 have hn2 : ¬ (Zdw x.users l.fr<0∨Zf3 x.users l.to_=false):=fun h=>h.elim oz (by simpa using g4)
 refine Zi (Zf (Za (xW ZcA (h:=xL [_,_] Zee 0 (h:=xL [_,_,_] Zmd 1 (h:=Zn (Zac rfl rfl Zvu rfl (ZfV _ _ x.queue _ _ l _ hi hx (by first | assumption | omega | (simp;omega)) (by first | assumption | omega | (simp;omega))) ?_)))))))
 rintro _ B11 _ hle11 ⟨l11,a11,c11,rfl,rfl,hv11⟩
 replace hu:=hu.mono Zh.mono hle11
 replace hf:=hf.mono Zb.mono hle11
 replace hi:=hi.mono Zj.mono hle11
 replace hx:=hx.mono Za7.mono hle11
 replace hu6:=hu6.mono Zh.mono hle11
 replace hr7:=hr7.mono Zb.mono hle11
 replace hi6:=hi6.mono Zj.mono hle11
 replace hv11:=hv11.mono Zj.mono Kn.less_le
 refine xM (h:=xE (h:=ZZ 5 rfl hv11 Zj.mono om3 (fun B12 hle12 hr12=>?_)))
 replace hu:=hu.mono Zh.mono hle12
 replace hf:=hf.mono Zb.mono hle12
 replace hi:=hi.mono Zj.mono hle12
 replace hx:=hx.mono Za7.mono hle12
 replace hu6:=hu6.mono Zh.mono hle12
 replace hr7:=hr7.mono Zb.mono hle12
 replace hi6:=hi6.mono Zj.mono hle12
 have hr12n:=hr12.len
 refine xE (h:=xAl [_,_] ZiF (h:=fun b13=>xS [_,_] 6 [_,_] ZfI (h:=xA (h:=Zw [_,_,_,_,_,_,_] rfl (Zm (Za (xM (h:=xN (h:=Zd rfl (fun g5=>?_) (fun g5=>?_))))))))))
 try simp only [sQ,ne_eq] at g5
 rw [Zbp,if_neg hnn,if_neg hn2,if_neg (by rw [g5];exact Bool.false_ne_true)]
 refine Za (xL [_,_,_,_,_] Z2 4 (h:=xS [_,_,_,_,_] 2 [_,_,_,_,_] Zaw (h:=xA (h:=Zw [_,_,_,_,_,_,_] rfl (Zg (Zs ?_))))))
 exact Zaf .ret (.inl rfl) [_,_] [] rfl ⟨⟨_,rfl,.inr ⟨[_,_,_,_,_],Z2,Zad 2 rfl rfl rfl,rfl⟩⟩,rfl,trivial⟩ ⟨rfl,_,_,_,_,_,_,(by first | rfl | (simp only [DHost.withFolders,List.length_set];rfl)),hu6,hr7,hi6,by first | assumption | (rw [ZS.2.2.1];assumption)⟩
 try simp only [sQ,ne_eq] at g5
 rw [Zbp,if_neg hnn,if_neg hn2,if_pos (by simpa using g5)]
 refine Zi (Zf (Za (xL [_,_] Zee 6 (h:=xW ZcA (h:=xS [_,_] 4 [_,_,_,_,_] ZfI (h:=Zw [_,_,_,_,_,_,_] rfl (Za (xL [_,_,_,_,_] Z2 4 (h:=xS [_,_,_,_,_] 2 [_,_,_,_,_] Zaw (h:=xA (h:=Zw [_,_,_,_,_,_,_] rfl (Zg ?_))))))))))))
 exact Zaf .ret (.inl rfl) [_,_] [] rfl ⟨⟨_,rfl,.inr ⟨[_,_,_,_,_],Z2,Zad 2 rfl rfl rfl,rfl⟩⟩,rfl,trivial⟩ ⟨rfl,_,_,_,_,_,_,(by first | rfl | (simp only [DHost.withFolders,List.length_set];rfl)),hu6,hr7,hr12,by first | assumption | (rw [ZS.2.2.1];assumption)⟩

set_option maxHeartbeats 400000 in
theorem ZjC (q1 q2 q3:Option Addr) (c1 c2 c3:Nat) (x:DHost) (id:Int) (u:Str) (hul:u.length≤2000000) (hd:x.domain.length≤2000000) (B:Kn) (hu:SlK B q1 c1 3 Zh x.users) (hf:SlK B q2 c2 5 Zb x.folders) (hi:SlK B q3 c3 4 Zj x.queue.items):ZM (pj J) 141 [.agg #[str x.domain,.slice q1 x.users.length c1,.slice q2 x.folders.length c2,.int .i64 x.queue.next,.slice q3 x.queue.items.length c3],.int .i64 id,str u] B [] (fun v B' Ls=>Ls=[]∧∃p1 d1 p2 d2 p3 d3,v = .tuple #[.agg #[str (ZaP x id u).1.domain,.slice p1 (ZaP x id u).1.users.length d1,.slice p2 (ZaP x id u).1.folders.length d2,.int .i64 (ZaP x id u).1.queue.next,.slice p3 (ZaP x id u).1.queue.items.length d3],.int .i64 (ZaP x id u).2]∧SlK B' p1 d1 3 Zh (ZaP x id u).1.users∧SlK B' p2 d2 5 Zb (ZaP x id u).1.folders∧SlK B' p3 d3 4 Zj (ZaP x id u).1.queue.items∧(ZaP x id u).1.domain.length≤2000000):=by
 refine Zc 45 Tryz.func141 rfl rfl rfl (Nat.le_of_ble_eq_true rfl) ?_
 have hun:=hu.len
 have hfn:=hf.len
 have hin:=hi.len
 have hix:=ZcG (inF u inbox) x.folders
 refine Za (xBx [_,_,_,_,_] (h:=fun b1=>xAl [_,_,_,_,_] Zba (h:=fun b2=>xA (h:=Zw [_,_] rfl (Zm (Za (xL [_,_,_,_,_] Z2 0 (h:=xR Zqn rfl (Zbm _ _ _ _ _ _ x om2 _ hu hf hi) (h:=?_)))))))))
 refine xN (h:=Zd rfl (fun g1=>?_) (fun g1=>?_))
 try simp only [sQ,ne_eq] at g1
 rw [ZaP,if_pos g1]
 refine Za (xB [] [_,_,_,_,_] [_,_,_,_,_] ZdV Zba (h:=xS [_,_,_,_,_] 1 [_,_,_,_,_] Zaw (h:=xA (h:=Zw [_,_] rfl (Zg (Zs ?_))))))
 exact Zaf .ret (.inl rfl) [_,_] [] rfl ⟨⟨_,rfl,.inr ⟨[_,_,_,_,_],Z2,Zad 1 rfl rfl rfl,rfl⟩⟩,rfl,trivial⟩ ⟨rfl,none,0,none,0,none,0,rfl,SlK.nil,SlK.nil,SlK.nil,by simp [Za4]⟩
 try simp only [sQ,ne_eq] at g1
 have hok:ZA x=true:=by simpa using g1
 have hnn : ¬ ZA x=false:=by simp [hok]
 have htl:(Zb4 x.queue id u).1.items.length≤x.queue.items.length:=Zhz id u x.queue.items
 refine Zi (Zf (Za (xW ZcA (h:=xL [_,_] Zee 0 (h:=xM (h:=xM (h:=Zn (Zac rfl rfl Zu6 rfl (Zk3 _ _ x.queue id u _ hi) ?_))))))))
 rintro _ B4 _ hle4 ⟨l4,a4,c4,rfl,rfl,hv4,ht4⟩
 replace hu:=hu.mono Zh.mono hle4
 replace hf:=hf.mono Zb.mono hle4
 replace hi:=hi.mono Zj.mono hle4
 replace hv4:=hv4.mono Zj.mono Kn.less_le
 refine xM (h:=xE (h:=ZZ 2 rfl hv4 Zj.mono om3 (fun B5 hle5 hr5=>?_)))
 replace hu:=hu.mono Zh.mono hle5
 replace hf:=hf.mono Zb.mono hle5
 replace hi:=hi.mono Zj.mono hle5
 have hr5n:=hr5.len
 refine xE (h:=xE (h:=xAl [_,_] ZiF (h:=fun b6=>xS [_,_] 3 [_,_] ZfI (h:=xA (h:=xA (h:=Zw [_,_,_,_] rfl (Zm (Za (xM (h:=xN (h:=Zd rfl (fun g2=>?_) (fun g2=>?_))))))))))))
 try simp only [sQ,ne_eq] at g2
 refine Za (xL [_,_,_,_,_] Z2 0 (h:=Zn (Zac rfl rfl Znp rfl (Zbd _ _ _ _ _ _ x _ hu hf hi) ?_)))
 rintro _ B7 _ hle7 ⟨l7,a7,c7,q17,c17,q37,c37,rfl,rfl,hu7,hs7,hi7⟩
 replace hu:=hu.mono Zh.mono hle7
 replace hf:=hf.mono Zb.mono hle7
 replace hi:=hi.mono Zj.mono hle7
 replace hr5:=hr5.mono Zj.mono hle7
 have hu7n:=hu7.len
 have hi7n:=hi7.len
 refine ZZ 4 rfl hs7 Zb.mono om3 (fun B8 hle8 hr8=>?_)
 replace hu:=hu.mono Zh.mono hle8
 replace hf:=hf.mono Zb.mono hle8
 replace hi:=hi.mono Zj.mono hle8
 replace hu7:=hu7.mono Zh.mono hle8
 replace hi7:=hi7.mono Zj.mono hle8
 replace hr5:=hr5.mono Zj.mono hle8
 have hr8n:=hr8.len
 refine xS [_,_,_,_,_] 1 [_,_,_,_,_] Zaw (h:=?_)
 rw [ZaP,if_neg hnn,if_pos g2]
 refine xA (h:=Zw [_,_,_,_,_] rfl (Zg (Zs ?_)))
 exact Zaf .ret (.inl rfl) [_,_] [] rfl ⟨⟨_,rfl,.inr ⟨[_,_,_,_,_],Z2,Zad 1 rfl rfl rfl,rfl⟩⟩,rfl,trivial⟩ ⟨rfl,_,_,_,_,_,_,(by first | rfl | (simp only [DHost.withFolders,List.length_set];rfl)),hu7,hr8,hi7,by first | assumption | (rw [ZS.2.2.1];assumption)⟩
 try simp only [sQ,ne_eq] at g2
 have hn2 : ¬ (Zb4 x.queue id u).2.2=false:=by simpa using g2
 have hdt:=Zg0 (id:=id) (u:=u) hok
 have hda:0≤ZaD (inF u inbox) x.folders:=Zou hok (by simpa using g2)
 have hda2:0≤ZaD (inF u [105,110,98,111,120]) x.folders:=hda
 have hix2:ZaD (inF u [105,110,98,111,120]) x.folders<x.folders.length:=hix.1
 refine Zi (Zf (Zm (Z9 (keeps _ [0] _) mo kr ⟨Kn.le.refl _,Zar.refl _ _⟩ (fun _ _=>?_))))
 refine aT 0 rfl (ZK fun D B L hI=>Zag [_,_,_,_,_] rfl rfl Z2 rfl (Zad 0 (hI.2.1.trans rfl) rfl rfl) r4) (h:=aT 1 rfl (ZK fun D B L hI=>Zag [_,_,_,_,_] rfl rfl Z2 rfl (Zad 0 (hI.2.1.trans rfl) rfl rfl) r4) (h:=aM 2 rfl (h:=aT 3 rfl (ZK fun D B L hI=>ZaR rfl rfl ZsJ rfl (ZcR _ _ _ _ _ _ x u [105,110,98,111,120] om2 om2 _ (hf.mono Zb.mono hI.1)) r4) (h:=?_))))
 refine aM 4 rfl (h:=Zap [5,9] kr kr kr ⟨?_,?_⟩)
 refine (Zav rfl rfl Zr1 rfl (Zhd _ _ _ _ _ _ x (ZaD (inF u [105,110,98,111,120]) x.folders) 0 ((Zb4 x.queue id u).2.1) om2 (oy) oz oz om2 _ hu hf hi) ?_)
 intro v10 B10 hle10
 rintro ⟨p110,d110,p210,d210,p310,d310,rfl,hu10,hf10,hi10,hd10⟩
 replace hu:=hu.mono Zh.mono hle10
 replace hf:=hf.mono Zb.mono hle10
 replace hi:=hi.mono Zj.mono hle10
 replace hr5:=hr5.mono Zj.mono hle10
 have hu10n:=hu10.len
 have hf10n:=hf10.len
 have hi10n:=hi10.len
 refine ⟨⟨hle10,t1⟩,(aM 6 rfl (h:=aE 7 rfl (h:=aE 8 rfl (h:=Zv 9 kr rfl kr (Zam (l:=[_,_,_,_,_]) rfl rfl Zba rfl (fun b11=>?_))))))⟩
 refine ⟨⟨hle10,t1⟩,(ZbC 10 kr rfl kr kr (ZO [_,_,_,_,_] 4 [_,_,_,_,_] rfl rfl Zaw rfl rfl rfl rfl rfl rfl rfl rfl ?_))⟩
 refine aA 11 rfl (h:=ZD kr kr ?_)
 refine Zf (Zw [_,_,_,_,_] rfl (Zm (Za (xM (h:=ZcZ (h:=Zd rfl (fun g3=>?_) (fun g3=>?_)))))))
 try simp only [sQ,ne_eq] at g3
 rw [ZaP,if_neg hnn,if_neg hn2,if_pos (show (ZbI x (ZaD (inF u inbox) x.folders).toNat 0 (Zb4 x.queue id u).2.1).2≠4 from g3)]
 refine Ze (xL [_,_] Zee 3 (h:=xW ZcA (h:=xS [_,_] 4 [_,_,_,_,_] ZfI (h:=Zf (Za (xL [_,_,_,_,_] Z2 4 (h:=xM (h:=xS [_,_,_,_,_] 1 [_,_,_,_,_] Zaw (h:=xA (h:=Zw [_,_,_,_,_] rfl (Zg ?_)))))))))))
 exact Zaf .ret (.inl rfl) [_,_] [] rfl ⟨⟨_,rfl,.inr ⟨[_,_,_,_,_],Z2,Zad 1 rfl rfl rfl,rfl⟩⟩,rfl,trivial⟩ ⟨rfl,_,_,_,_,_,_,(by first | rfl | (simp only [DHost.withFolders,List.length_set];rfl)),hu10,hf10,hr5,by first | assumption | (rw [ZS.2.2.1];assumption)⟩
 try simp only [sQ,ne_eq] at g3
 rw [ZaP,if_neg hnn,if_neg hn2,if_neg (show ¬ (ZbI x (ZaD (inF u inbox) x.folders).toNat 0 (Zb4 x.queue id u).2.1).2≠4 from fun h=>h g3)]
 refine Zi (Zf (Za (xL [_,_,_,_,_] Z2 4 (h:=xM (h:=xS [_,_,_,_,_] 1 [_,_,_,_,_] Zaw (h:=xA (h:=Zw [_,_,_,_,_] rfl (Zg ?_))))))))
 exact Zaf .ret (.inl rfl) [_,_] [] rfl ⟨⟨_,rfl,.inr ⟨[_,_,_,_,_],Z2,Zad 1 rfl rfl rfl,rfl⟩⟩,rfl,trivial⟩ ⟨rfl,_,_,_,_,_,_,(by first | rfl | (simp only [DHost.withFolders,List.length_set];rfl)),hu10,hf10,hi10,by first | assumption | (rw [ZS.2.2.1];assumption)⟩
 refine (Zam (l:=[_,_,_,_,_]) rfl rfl Zba rfl (fun b12=>⟨⟨Kn.le.refl _,t1⟩,(Zv 5 kr rfl kr (Zav rfl rfl Zr1 rfl (Zhd _ _ _ _ _ _ x (ZaD (inF u [105,110,98,111,120]) x.folders) 0 ((Zb4 x.queue id u).2.1) om2 (oy) oz oz om2 _ hu hf hi) ?_))⟩))
 intro v13 B13 hle13
 rintro ⟨p113,d113,p213,d213,p313,d313,rfl,hu13,hf13,hi13,hd13⟩
 replace hu:=hu.mono Zh.mono hle13
 replace hf:=hf.mono Zb.mono hle13
 replace hi:=hi.mono Zj.mono hle13
 replace hr5:=hr5.mono Zj.mono hle13
 have hu13n:=hu13.len
 have hf13n:=hf13.len
 have hi13n:=hi13.len
 refine ⟨⟨hle13,t1⟩,(aM 6 rfl (h:=aE 7 rfl (h:=aE 8 rfl (h:=ZbC 10 kr rfl kr kr (ZO [_,_,_,_,_] 4 [_,_,_,_,_] rfl rfl Zaw rfl rfl rfl rfl rfl rfl rfl rfl ?_)))))⟩
 refine aA 11 rfl (h:=ZD kr kr ?_)
 refine Zf (Zw [_,_,_,_,_] rfl (Zm (Za (xM (h:=ZcZ (h:=Zd rfl (fun g3=>?_) (fun g3=>?_)))))))
 try simp only [sQ,ne_eq] at g3
 rw [ZaP,if_neg hnn,if_neg hn2,if_pos (show (ZbI x (ZaD (inF u inbox) x.folders).toNat 0 (Zb4 x.queue id u).2.1).2≠4 from g3)]
 refine Ze (xL [_,_] Zee 3 (h:=xW ZcA (h:=xS [_,_] 4 [_,_,_,_,_] ZfI (h:=Zf (Za (xL [_,_,_,_,_] Z2 4 (h:=xM (h:=xS [_,_,_,_,_] 1 [_,_,_,_,_] Zaw (h:=xA (h:=Zw [_,_,_,_,_] rfl (Zg ?_)))))))))))
 exact Zaf .ret (.inl rfl) [_,_] [] rfl ⟨⟨_,rfl,.inr ⟨[_,_,_,_,_],Z2,Zad 1 rfl rfl rfl,rfl⟩⟩,rfl,trivial⟩ ⟨rfl,_,_,_,_,_,_,(by first | rfl | (simp only [DHost.withFolders,List.length_set];rfl)),hu13,hf13,hr5,by first | assumption | (rw [ZS.2.2.1];assumption)⟩
 try simp only [sQ,ne_eq] at g3
 rw [ZaP,if_neg hnn,if_neg hn2,if_neg (show ¬ (ZbI x (ZaD (inF u inbox) x.folders).toNat 0 (Zb4 x.queue id u).2.1).2≠4 from fun h=>h g3)]
 refine Zi (Zf (Za (xL [_,_,_,_,_] Z2 4 (h:=xM (h:=xS [_,_,_,_,_] 1 [_,_,_,_,_] Zaw (h:=xA (h:=Zw [_,_,_,_,_] rfl (Zg ?_))))))))
 exact Zaf .ret (.inl rfl) [_,_] [] rfl ⟨⟨_,rfl,.inr ⟨[_,_,_,_,_],Z2,Zad 1 rfl rfl rfl,rfl⟩⟩,rfl,trivial⟩ ⟨rfl,_,_,_,_,_,_,(by first | rfl | (simp only [DHost.withFolders,List.length_set];rfl)),hu13,hf13,hi13,by first | assumption | (rw [ZS.2.2.1];assumption)⟩

set_option maxHeartbeats 400000 in
theorem Zob (fl how ot:Int) (h1:0≤fl∧fl≤31) (h2:0≤ot∧ot≤31) (B:Kn):Za1 (pj J) 167 [.int .i64 fl,.int .i64 how,.int .i64 ot] B (.int .i64 (chg fl how ot)):=by
 refine Zc 60 Tryz.func167 rfl rfl rfl (Nat.le_of_ble_eq_true rfl) ?_
 refine Za (xA (h:=Za (xA (h:=Zm (Za (xA (h:=Zr (ZU (α:=Nat × Int) [0,1,2,6] (fun g=>[(7,.int .i64 g.2),(8,.int .i64 g.1)]) [] (fun g=>[]) (fun g Bx=>Bx=B∧g.1≤5∧g.2=Zit fl how ot g.1) (fun g=>5 - g.1) (0,0) t2 rfl (⟨rfl,oz,rfl⟩) (fun g B1 hle1 hI=>?_)))))))))
 obtain ⟨rfl,hk,hs⟩:=hI
 have hbd:=Znt fl how ot g.1 hk
 refine ZQ [(0,_),(1,_),(2,_),(6,_),(7,_),(8,_)] [] t6 rfl (Zm (Za (xM (h:=Zai (h:=Zd rfl (fun g1=>?_) (fun g1=>?_))))))
 try simp only [sQ,ne_eq] at g1
 have hp:=Zkb (k:=g.1) oz
 have hb1 : -2<Int.tmod (Int.tdiv fl (Zbt g.1)) 2∧Int.tmod (Int.tdiv fl (Zbt g.1)) 2<2:=⟨Int.lt_tmod_of_pos _ (by decide),Int.tmod_lt_of_pos _ (by decide)⟩
 have hb2 : -2<Int.tmod (Int.tdiv ot (Zbt g.1)) 2∧Int.tmod (Int.tdiv ot (Zbt g.1)) 2<2:=⟨Int.lt_tmod_of_pos _ (by decide),Int.tmod_lt_of_pos _ (by decide)⟩
 refine Zi (Zf (Zm (Zr (Za (xM (h:=xM (h:=xR ZtM rfl (Zmg g.1 om2 _) (h:=?_))))))))
 refine Zn (Zfj (a:=fl) (b:=(Zbt g.1)) (r:=Int.tdiv fl (Zbt g.1)) rfl rfl rfl rfl oz (Zja oz oz oz) ?_)
 refine Zn (ZfN (a:=(Int.tdiv fl (Zbt g.1))) (b:=2) (r:=Int.tmod (Int.tdiv fl (Zbt g.1)) 2) rfl rfl rfl rfl (by decide) rfl ?_)
 refine xA (h:=Za (xM (h:=xM (h:=xR ZtM rfl (Zmg g.1 om2 _) (h:=?_)))))
 refine Zn (Zfj (a:=ot) (b:=(Zbt g.1)) (r:=Int.tdiv ot (Zbt g.1)) rfl rfl rfl rfl oz (Zja oz oz oz) ?_)
 refine Zn (ZfN (a:=(Int.tdiv ot (Zbt g.1))) (b:=2) (r:=Int.tmod (Int.tdiv ot (Zbt g.1)) 2) rfl rfl rfl rfl (by decide) rfl ?_)
 refine xA (h:=ZiW 11 (ZeQ fl how ot g.1) [0,1,2,6,7,8,9,10,13] ?_ ?_)
 refine xM (h:=ZF (h:=xM (h:=Zt (d:=28) rfl (fun g1=>?_) (fun g1=>?_))))
 try simp only [sQ,ne_eq] at g1
 refine xM (h:=xM (h:=xD (h:=ZbA (h:=xT (h:=xM (h:=Zt (d:=34) rfl (fun g2=>?_) (fun g2=>?_)))))))
 try simp only [sQ,ne_eq] at g2
 refine xP (h:=xP (h:=xP (h:=xP (h:=xP (h:=xP (h:=xP (h:=xP (h:=xP (h:=xP (h:=xT (h:=xM (h:=xP (h:=?_)))))))))))))
 refine xP (h:=xP (h:=xP (h:=xP (h:=xP (h:=xT (h:=xA (h:=?_)))))))
 exact ⟨rfl,rfl,rfl,Zc5 rfl (by rw [Bool.eq_iff_iff];simp only [ZeQ,decide_eq_true_eq,Bool.or_eq_true,Bool.and_eq_true,Bool.false_eq_true,true_iff,false_iff];simp only [Zjy];omega),t9⟩
 try simp only [sQ,ne_eq] at g2
 refine xM (h:=ZF (h:=xM (h:=Zt (d:=37) rfl (fun g3=>?_) (fun g3=>?_))))
 try simp only [sQ,ne_eq] at g3
 refine xM (h:=ZF (h:=xT (h:=xM (h:=Zt (d:=41) rfl (fun g4=>?_) (fun g4=>?_)))))
 try simp only [sQ,ne_eq] at g4
 refine xM (h:=ZF (h:=xT (h:=xF (h:=xM (h:=Zt (d:=46) rfl (fun g5=>?_) (fun g5=>?_))))))
 try simp only [sQ,ne_eq] at g5
 refine xP (h:=xP (h:=xP (h:=xP (h:=xP (h:=xP (h:=xT (h:=xA (h:=?_))))))))
 exact ⟨rfl,rfl,rfl,Zc5 rfl (by rw [Bool.eq_iff_iff];simp only [ZeQ,decide_eq_true_eq,Bool.or_eq_true,Bool.and_eq_true,Bool.false_eq_true,true_iff,false_iff];simp only [Zjy];omega),t9⟩
 try simp only [sQ,ne_eq] at g5
 refine xM (h:=ZF (h:=xM (h:=Zt (d:=49) rfl (fun g6=>?_) (fun g6=>?_))))
 try simp only [sQ,ne_eq] at g6
 refine xM (h:=ZF (h:=xT (h:=xF (h:=xA (h:=?_)))))
 exact ⟨rfl,rfl,rfl,Zc5 rfl (by rw [Bool.eq_iff_iff];simp only [ZeQ,decide_eq_true_eq,Bool.or_eq_true,Bool.and_eq_true,Bool.false_eq_true,true_iff,false_iff];simp only [Zjy];omega),t9⟩
 try simp only [sQ,ne_eq] at g6
 refine xP (h:=xP (h:=xF (h:=xF (h:=xA (h:=?_)))))
 exact ⟨rfl,rfl,rfl,Zc5 rfl (by rw [Bool.eq_iff_iff];simp only [ZeQ,decide_eq_true_eq,Bool.or_eq_true,Bool.and_eq_true,Bool.false_eq_true,true_iff,false_iff];simp only [Zjy];omega),t9⟩
 try simp only [sQ,ne_eq] at g4
 refine xP (h:=xP (h:=xF (h:=xF (h:=xM (h:=xM (h:=ZF (h:=xM (h:=Zt (d:=49) rfl (fun g7=>?_) (fun g7=>?_)))))))))
 try simp only [sQ,ne_eq] at g7
 refine xM (h:=ZF (h:=xT (h:=xF (h:=xA (h:=?_)))))
 exact ⟨rfl,rfl,rfl,Zc5 rfl (by rw [Bool.eq_iff_iff];simp only [ZeQ,decide_eq_true_eq,Bool.or_eq_true,Bool.and_eq_true,Bool.false_eq_true,true_iff,false_iff];simp only [Zjy];omega),t9⟩
 try simp only [sQ,ne_eq] at g7
 refine xP (h:=xP (h:=xF (h:=xF (h:=xA (h:=?_)))))
 exact ⟨rfl,rfl,rfl,Zc5 rfl (by rw [Bool.eq_iff_iff];simp only [ZeQ,decide_eq_true_eq,Bool.or_eq_true,Bool.and_eq_true,Bool.false_eq_true,true_iff,false_iff];simp only [Zjy];omega),t9⟩
 try simp only [sQ,ne_eq] at g3
 refine xP (h:=xP (h:=xF (h:=xM (h:=xP (h:=xP (h:=xF (h:=xF (h:=xM (h:=xM (h:=ZF (h:=xM (h:=Zt (d:=49) rfl (fun g8=>?_) (fun g8=>?_)))))))))))))
 try simp only [sQ,ne_eq] at g8
 refine xM (h:=ZF (h:=xT (h:=xF (h:=xA (h:=?_)))))
 exact ⟨rfl,rfl,rfl,Zc5 rfl (by rw [Bool.eq_iff_iff];simp only [ZeQ,decide_eq_true_eq,Bool.or_eq_true,Bool.and_eq_true,Bool.false_eq_true,true_iff,false_iff];simp only [Zjy];omega),t9⟩
 try simp only [sQ,ne_eq] at g8
 refine xP (h:=xP (h:=xF (h:=xF (h:=xA (h:=?_)))))
 exact ⟨rfl,rfl,rfl,Zc5 rfl (by rw [Bool.eq_iff_iff];simp only [ZeQ,decide_eq_true_eq,Bool.or_eq_true,Bool.and_eq_true,Bool.false_eq_true,true_iff,false_iff];simp only [Zjy];omega),t9⟩
 try simp only [sQ,ne_eq] at g1
 refine xP (h:=xP (h:=xP (h:=xP (h:=xF (h:=xM (h:=xM (h:=ZF (h:=xM (h:=Zt (d:=37) rfl (fun g9=>?_) (fun g9=>?_))))))))))
 try simp only [sQ,ne_eq] at g9
 refine xM (h:=ZF (h:=xT (h:=xM (h:=Zt (d:=41) rfl (fun g10=>?_) (fun g10=>?_)))))
 try simp only [sQ,ne_eq] at g10
 refine xM (h:=ZF (h:=xT (h:=xF (h:=xM (h:=Zt (d:=46) rfl (fun g11=>?_) (fun g11=>?_))))))
 try simp only [sQ,ne_eq] at g11
 refine xP (h:=xP (h:=xP (h:=xP (h:=xP (h:=xP (h:=xT (h:=xA (h:=?_))))))))
 exact ⟨rfl,rfl,rfl,Zc5 rfl (by rw [Bool.eq_iff_iff];simp only [ZeQ,decide_eq_true_eq,Bool.or_eq_true,Bool.and_eq_true,Bool.false_eq_true,true_iff,false_iff];simp only [Zjy];omega),t9⟩
 try simp only [sQ,ne_eq] at g11
 refine xM (h:=ZF (h:=xM (h:=Zt (d:=49) rfl (fun g12=>?_) (fun g12=>?_))))
 try simp only [sQ,ne_eq] at g12
 refine xM (h:=ZF (h:=xT (h:=xF (h:=xA (h:=?_)))))
 exact ⟨rfl,rfl,rfl,Zc5 rfl (by rw [Bool.eq_iff_iff];simp only [ZeQ,decide_eq_true_eq,Bool.or_eq_true,Bool.and_eq_true,Bool.false_eq_true,true_iff,false_iff];simp only [Zjy];omega),t9⟩
 try simp only [sQ,ne_eq] at g12
 refine xP (h:=xP (h:=xF (h:=xF (h:=xA (h:=?_)))))
 exact ⟨rfl,rfl,rfl,Zc5 rfl (by rw [Bool.eq_iff_iff];simp only [ZeQ,decide_eq_true_eq,Bool.or_eq_true,Bool.and_eq_true,Bool.false_eq_true,true_iff,false_iff];simp only [Zjy];omega),t9⟩
 try simp only [sQ,ne_eq] at g10
 refine xP (h:=xP (h:=xF (h:=xF (h:=xM (h:=xM (h:=ZF (h:=xM (h:=Zt (d:=49) rfl (fun g13=>?_) (fun g13=>?_)))))))))
 try simp only [sQ,ne_eq] at g13
 refine xM (h:=ZF (h:=xT (h:=xF (h:=xA (h:=?_)))))
 exact ⟨rfl,rfl,rfl,Zc5 rfl (by rw [Bool.eq_iff_iff];simp only [ZeQ,decide_eq_true_eq,Bool.or_eq_true,Bool.and_eq_true,Bool.false_eq_true,true_iff,false_iff];simp only [Zjy];omega),t9⟩
 try simp only [sQ,ne_eq] at g13
 refine xP (h:=xP (h:=xF (h:=xF (h:=xA (h:=?_)))))
 exact ⟨rfl,rfl,rfl,Zc5 rfl (by rw [Bool.eq_iff_iff];simp only [ZeQ,decide_eq_true_eq,Bool.or_eq_true,Bool.and_eq_true,Bool.false_eq_true,true_iff,false_iff];simp only [Zjy];omega),t9⟩
 try simp only [sQ,ne_eq] at g9
 refine xP (h:=xP (h:=xF (h:=xM (h:=xP (h:=xP (h:=xF (h:=xF (h:=xM (h:=xM (h:=ZF (h:=xM (h:=Zt (d:=49) rfl (fun g14=>?_) (fun g14=>?_)))))))))))))
 try simp only [sQ,ne_eq] at g14
 refine xM (h:=ZF (h:=xT (h:=xF (h:=xA (h:=?_)))))
 exact ⟨rfl,rfl,rfl,Zc5 rfl (by rw [Bool.eq_iff_iff];simp only [ZeQ,decide_eq_true_eq,Bool.or_eq_true,Bool.and_eq_true,Bool.false_eq_true,true_iff,false_iff];simp only [Zjy];omega),t9⟩
 try simp only [sQ,ne_eq] at g14
 refine xP (h:=xP (h:=xF (h:=xF (h:=xA (h:=?_)))))
 exact ⟨rfl,rfl,rfl,Zc5 rfl (by rw [Bool.eq_iff_iff];simp only [ZeQ,decide_eq_true_eq,Bool.or_eq_true,Bool.and_eq_true,Bool.false_eq_true,true_iff,false_iff];simp only [Zjy];omega),t9⟩
 refine Za (xM (h:=Zd rfl (fun g2=>?_) (fun g2=>?_)))
 try simp only [sQ,ne_eq] at g2
 refine Ze (xM (h:=xM (h:=xR ZtM rfl (Zmg g.1 om2 _) (h:=?_))))
 refine xD (h:=xA (h:=Zz (Zf (Ze (xM (h:=xD (h:=xA (h:=?_))))))))
 exact ZE (g.1+1,g.2+Zbt g.1) [] so2 ⟨rfl,so,by simp only [Zit];rw [if_pos g2,hs]⟩ t6 rfl
 try simp only [sQ,ne_eq] at g2
 refine Zi (Zz (Zf (Ze (xM (h:=xD (h:=xA (h:=?_)))))))
 exact ZE (g.1+1,g.2) [] so2 ⟨rfl,so,by simp only [Zit];rw [if_neg (by simp [g2]),hs]⟩ t6 rfl
 try simp only [sQ,ne_eq] at g1
 refine ZY (Zal (Z6 (ZN (Zf (Za (xM (h:=xA (h:=Zg ?_))))))))
 exact ZW .ret (.inl rfl) [_] t1 ⟨ZaA (by rw [hs,show g.1=5 from by omega];rfl),rfl,rfl⟩

set_option maxHeartbeats 400000 in
theorem Zk4 (q:Option Addr) (cp:Nat) (x:DBox) (q2:Option Addr) (cp2:Nat) (xs:List Int)  (B:Kn) (hx:SlK B q cp 3 ZJ x.mail) (hn:SlK B q2 cp2 1 Zbu xs):Za1 (pj J) 166 [.agg #[.int .i64 x.next,.slice q x.mail.length cp],.slice q2 xs.length cp2] B (.bool (ZdY x.mail.length xs)):=by
 refine Zc 37 Tryz.func166 rfl rfl rfl (Nat.le_of_ble_eq_true rfl) ?_
 have hxn:=hx.len
 have hnn:=hn.len
 refine Za (xBx [_,_] (h:=fun b1=>xA (h:=Zw [_] rfl (Zm (Za (xA (h:=Zr (ZU (α:=Nat × Int) [0,1,2] (fun g=>[(5,.int .i64 g.1)]) [] (fun g=>[]) (fun g Bx=>Bx=B∧g.1≤xs.length∧ZdG x.mail.length (xs.take g.1)=(true,g.2)∧Prev (fun y=>y) 0 xs g.1 g.2) (fun g=>xs.length - g.1) (0,0) t1 rfl (⟨rfl,Nat.zero_le _,Zey,.zero⟩) (fun g B2 hle2 hI=>?_)))))))))
 obtain ⟨rfl,hk,hs,hp⟩:=hI
 refine ZQ [(0,_),(1,_),(2,_),(5,_)] [_] t4 rfl (Zm (Za (xM (h:=xM (h:=xV Tryz.underlying142 (h:=Zai (h:=Zd rfl (fun g1=>?_) (fun g1=>?_))))))))
 try simp only [sQ,ne_eq] at g1
 refine Zi (Zf (Zm (Zr (Zm (Z9 (same _ _) mo kr ⟨rfl,rfl⟩ (fun _ _=>?_))))))
 refine aM 0 rfl (h:=aM 1 rfl (h:=?_))
 obtain ⟨m,hm⟩:=Zax (xs:=xs) (i:=g.1) om
 obtain ⟨bb4,oo4,rfl⟩:=hn.base hm
 obtain ⟨_,rfl,hc5⟩:=hn.elem hm
 refine aIx 2 rfl Tryz.underlying142 sz3 (h:=aT 3 rfl (Zan fun D=>Zl rfl rfl lk3 rfl (hc5 _ 0 _ rfl) r4) (h:=aW 4 rfl ZaU (h:=aT 5 rfl (Zan fun D=>Zl rfl rfl ZfJ rfl (atL 0 rfl rfl rfl) r4) (h:=aV 6 rfl Tryz.underlying54 (h:=aT 7 rfl (Zan fun D=>ZaR rfl rfl Zjt rfl (Zch _ _ _ _) r4) (h:=aN 8 rfl (h:=aM 9 rfl (h:=ZaE (d:=21) rfl (fun g2=>?_) (fun g2=>?_)))))))))
 try simp only [sQ,ne_eq] at g2
 refine aZ 10 rfl (h:=aZ 11 rfl (h:=aZ 12 rfl (h:=aZ 13 rfl (h:=aZ 14 rfl (h:=aZ 15 rfl (h:=aZ 16 rfl (h:=aZ 17 rfl (h:=aZ 18 rfl (h:=aZ 19 rfl (h:=aZ 20 rfl (h:=aZ 21 rfl (h:=aZ 22 rfl (h:=?_)))))))))))))
 refine aZ 23 rfl (h:=aPT 24 rfl (h:=ZD kr kr ?_))
 refine Zf (Zd (t:=true) rfl (fun _=>Za (xA (h:=Zg (ZI (Zs (Z7 (ZI (Zs ?_)))))))) (fun h=>Bool.noConfusion h))
 exact ZW .ret (.inl rfl) [_] t1 ⟨Zp (Zjc hm hs (by simp [Zpt,g2];try omega)).symm,rfl,rfl⟩
 try simp only [sQ,ne_eq] at g2
 refine aM 10 rfl (h:=ZmG 11 rfl (h:=aM 12 rfl (h:=ZaE (d:=24) rfl (fun g6=>?_) (fun g6=>?_))))
 try simp only [sQ,ne_eq] at g6
 refine aM 13 rfl (h:=aM 14 rfl (h:=aU 15 rfl (h:=?_)))
 obtain ⟨y,hy⟩:=Zd7 (xs:=xs) (i:=(↑g.1 - 1)) om om
 obtain ⟨_,rfl,hc8⟩:=hn.elem hy
 refine aIx 16 rfl Tryz.underlying142 sz3 (h:=?_)
 have hpe:=hp.at hy oz
 refine aT 17 rfl (Zan fun D=>Zl rfl rfl lk3 rfl (hc8 _ 0 _ rfl) r4) (h:=aM 18 rfl (h:=aM 19 rfl (h:=aIx 20 rfl Tryz.underlying142 sz3 (h:=aT 21 rfl (Zan fun D=>Zl rfl rfl lk3 rfl (hc5 _ 0 _ rfl) r4) (h:=Zvn 22 rfl (h:=aPT 23 rfl (h:=aPF 24 rfl (h:=ZD kr kr ?_))))))))
 refine Zf (Zd rfl (fun g7=>?_) (fun g7=>?_))
 try simp only [sQ,ne_eq] at g7
 refine Za (xA (h:=Zg (ZI (Zs (Z7 (ZI (Zs ?_)))))))
 exact ZW .ret (.inl rfl) [_] t1 ⟨Zp (Zjc hm hs (by simp [Zpt,g2,hpe];try omega)).symm,rfl,rfl⟩
 try simp only [sQ,ne_eq] at g7
 refine Zi (Zz (Zf (Ze (xM (h:=xD (h:=xA (h:=?_)))))))
 exact ZE (g.1+1,m) [0] so2 ⟨rfl,oz,Zb9 hm hs (by rw [hpe];simp [Zpt,g2];simp at g2;omega),.succ hm⟩ t4 rfl
 try simp only [sQ,ne_eq] at g6
 refine aZ 13 rfl (h:=aZ 14 rfl (h:=aZ 15 rfl (h:=aZ 16 rfl (h:=aZ 17 rfl (h:=aZ 18 rfl (h:=aZ 19 rfl (h:=aZ 20 rfl (h:=aZ 21 rfl (h:=aZ 22 rfl (h:=aPF 23 rfl (h:=aPF 24 rfl (h:=ZD kr kr ?_))))))))))))
 refine Zf (Zd (t:=false) rfl (fun h=>Bool.noConfusion h) (fun _=>Zi (Zz (Zf (Ze (xM (h:=xD (h:=xA (h:=?_)))))))))
 exact ZE (g.1+1,m) [0] so2 ⟨rfl,oz,Zb9 hm hs (by rw [hp.at0 oz];simp [Zpt,g2];simp at g2;omega),.succ hm⟩ t4 rfl
 try simp only [sQ,ne_eq] at g1
 refine ZY (Zal (Z6 (ZN (Zf (Za (xA (h:=Zg ?_)))))))
 exact ZW .ret (.inl rfl) [_] t1 ⟨Zp (Zn0 (ZdN hs oz)).symm,rfl,rfl⟩

set_option maxHeartbeats 400000 in
theorem Zfq (q:Option Addr) (cp:Nat) (x:DBox) (q2:Option Addr) (cp2:Nat) (xs:List Int) (how fl:Int) (B:Kn) (hx:SlK B q cp 3 ZJ x.mail) (hn:SlK B q2 cp2 1 Zbu xs):ZM (pj J) 163 [.agg #[.int .i64 x.next,.slice q x.mail.length cp],.slice q2 xs.length cp2,.int .i64 how,.int .i64 fl] B [] (fun v B' Ls=>Ls=[]∧∃a c,v = .tuple #[.agg #[.int .i64 (Zbf x xs how fl).1.next,.slice a (Zbf x xs how fl).1.mail.length c],.bool (Zbf x xs how fl).2]∧SlK B' a c 3 ZJ (Zbf x xs how fl).1.mail):=by
 refine Zc 61 Tryz.func163 rfl rfl rfl (Nat.le_of_ble_eq_true rfl) ?_
 have hxn:=hx.len
 have hnn:=hn.len
 refine Za (xBx [_,_] (h:=fun b1=>xAl [_,_] ZeW (h:=fun b2=>xA (h:=Zw [_,_] rfl (Zm (Za (xL [_,_] ZbN 0 (h:=xR Zvw rfl (ZfU _ _ (⟨x.next,x.mail⟩:DBox) _ hx) (h:=xN (h:=xM (h:=Zt (d:=16) rfl (fun g1=>?_) (fun g1=>?_))))))))))))
 try simp only [sQ,ne_eq] at g1
 rw [Zej (by simp [g1])]
 refine xP (h:=xP (h:=xP (h:=xP (h:=xT (h:=xM (h:=xP (h:=xP (h:=xP (h:=xT (h:=xM (h:=xP (h:=xP (h:=?_)))))))))))))
 refine xP (h:=xT (h:=Zd (t:=true) rfl (fun _=>Za (xB [] [_,_] [_,_] Zm3 ZeW (h:=xS [_,_] 1 [_,_] ZcC (h:=xA (h:=Zw [_,_] rfl (Zg (Zs ?_))))))) (fun h=>Bool.noConfusion h)))
 exact Zaf .ret (.inl rfl) [_,_] [] rfl ⟨⟨_,rfl,.inr ⟨[_,_],ZbN,Zad 1 rfl rfl rfl,rfl⟩⟩,rfl,trivial⟩ ⟨rfl,none,0,rfl,SlK.nil⟩
 try simp only [sQ,ne_eq] at g1
 refine xL [_,_] ZbN 0 (h:=xM (h:=xR Zwm rfl (Zk4 _ _ (⟨x.next,x.mail⟩:DBox) _ _ xs _ hx hn) (h:=xN (h:=xF (h:=xM (h:=Zt (d:=22) rfl (fun g2=>?_) (fun g2=>?_)))))))
 try simp only [sQ,ne_eq] at g2
 rw [Zej (by simp [g2])]
 refine xP (h:=xP (h:=xP (h:=xT (h:=xM (h:=xP (h:=xP (h:=xP (h:=xT (h:=Zd (t:=true) rfl (fun _=>Za (xB [] [_,_] [_,_] Zm3 ZeW (h:=xS [_,_] 1 [_,_] ZcC (h:=?_)))) (fun h=>Bool.noConfusion h))))))))))
 refine xA (h:=Zw [_,_] rfl (Zg (Zs ?_)))
 exact Zaf .ret (.inl rfl) [_,_] [] rfl ⟨⟨_,rfl,.inr ⟨[_,_],ZbN,Zad 1 rfl rfl rfl,rfl⟩⟩,rfl,trivial⟩ ⟨rfl,none,0,rfl,SlK.nil⟩
 try simp only [sQ,ne_eq] at g2
 refine xM (h:=xR Zjt rfl (Zch _ _ _ _) (h:=xN (h:=xF (h:=xM (h:=Zt (d:=27) rfl (fun g3=>?_) (fun g3=>?_))))))
 try simp only [sQ,ne_eq] at g3
 rw [Zej (by simp only [ZjY,g3];simp)]
 refine xP (h:=xP (h:=xP (h:=xT (h:=Zd (t:=true) rfl (fun _=>Za (xB [] [_,_] [_,_] Zm3 ZeW (h:=xS [_,_] 1 [_,_] ZcC (h:=xA (h:=Zw [_,_] rfl (Zg (Zs ?_))))))) (fun h=>Bool.noConfusion h)))))
 exact Zaf .ret (.inl rfl) [_,_] [] rfl ⟨⟨_,rfl,.inr ⟨[_,_],ZbN,Zad 1 rfl rfl rfl,rfl⟩⟩,rfl,trivial⟩ ⟨rfl,none,0,rfl,SlK.nil⟩
 try simp only [sQ,ne_eq] at g3
 refine xM (h:=xR Zqo rfl (ZeH _ _) (h:=xN (h:=xF (h:=Zd rfl (fun g4=>?_) (fun g4=>?_)))))
 try simp only [sQ,ne_eq] at g4
 rw [Zej (by simp only [ZaQ,g4];simp)]
 refine Za (xB [] [_,_] [_,_] Zm3 ZeW (h:=xS [_,_] 1 [_,_] ZcC (h:=xA (h:=Zw [_,_] rfl (Zg (Zs ?_))))))
 exact Zaf .ret (.inl rfl) [_,_] [] rfl ⟨⟨_,rfl,.inr ⟨[_,_],ZbN,Zad 1 rfl rfl rfl,rfl⟩⟩,rfl,trivial⟩ ⟨rfl,none,0,rfl,SlK.nil⟩
 try simp only [sQ,ne_eq] at g4
 have hok:Zbh x=true:=by simpa using g1
 have hno:ZdY x.mail.length xs=true:=by simpa using g2
 have hfo:ZaQ fl=true:=by simpa only [ZaQ,Bool.not_eq_false] using g4
 have hall:=Zlq (how:=how) (fl:=fl) ⟨hok,hno,by simpa only [ZjY,Bool.not_eq_false] using g3,hfo⟩
 have hfl:0≤fl∧fl≤31:=by simpa [ZaQ] using hfo
 refine Zi (Zf (Za (xL [_,_] ZbN 0 (h:=Zn (Zac rfl rfl ZtR rfl (ZhU _ _ (⟨x.next,x.mail⟩:DBox) _ hx) ?_)))))
 rintro _ B7 _ hle7 ⟨hB7,l7,a7,c7,rfl,rfl,hs7⟩
 have hB7:=hB7.symm
 subst hB7
 refine xAl [_,_] ZeW (h:=fun b8=>xS [_,_] 3 [_,_] ZcC (h:=Zw [_,_,_,_] rfl (Zm (Za (xA (h:=Zr (ZU (α:=Nat × Cells × List DMail) [0,1,2,3,4,8,9,10,31] (fun g=>[(11,.int .i64 g.1)]) [2,3] (fun g=>[g.2.1,ZaY b8 [.int .i64 x.next,.slice a7 x.mail.length c7] 56]) (fun g Bx=>Bx=B∧g.1≤xs.length∧g.2.2=ZdQ x.mail how fl (xs.take g.1)∧Like x.mail g.2.2∧Z3 Bx g.2.1 a7 c7 150 3 ZJ g.2.2) (fun g=>xs.length - g.1) (0,_,x.mail) t1 rfl (⟨rfl,Nat.zero_le _,rfl,Like.refl _,hs7⟩) (fun g B9 hle9 hI=>?_))))))))
 obtain ⟨rfl,hk,hs,hlk,hv⟩:=hI
 have hll:=hlk.1
 refine ZQ [(0,_),(1,_),(2,_),(3,_),(4,_),(8,_),(9,_),(10,_),(11,_),(31,_)] [_,_,_,_] t10 rfl (Zm (Za (xM (h:=xM (h:=xV Tryz.underlying142 (h:=Zai (h:=Zd rfl (fun g5=>?_) (fun g5=>?_))))))))
 try simp only [sQ,ne_eq] at g5
 refine Zi (Zf (Zm (Zr (Za (xM (h:=xM (h:=?_)))))))
 obtain ⟨y,hy⟩:=Zax (xs:=xs) (i:=g.1) om
 obtain ⟨bb11,oo11,rfl⟩:=hn.base hy
 obtain ⟨_,rfl,hc12⟩:=hn.elem hy
 refine xIx Tryz.underlying142 sz3 (h:=?_)
 have hyb:=ZnZ hno y (List.mem_of_getElem? hy)
 have hyl:(y - 1).toNat<x.mail.length:=by omega
 refine y1 lk3 hc12 0 (h:=xU (h:=xA (h:=Z9 (keeps _ [0,2,3] _) mo kr ⟨Kn.le.refl _,Zar.refl _ _⟩ (fun _ _=>?_))))
 refine aW 0 rfl ZaU (h:=aT 1 rfl (ZK fun D B L hI=>Zl rfl rfl ZfJ rfl (atL 3 (hI.2.2.2.1.trans rfl) rfl rfl) r4) (h:=aM 2 rfl (h:=aW 3 rfl ZaU (h:=aT 4 rfl (ZK fun D B L hI=>Zl rfl rfl ZfJ rfl (atL 0 (hI.2.1.trans rfl) rfl rfl) r4) (h:=aM 5 rfl (h:=?_))))))
 obtain ⟨m,hm⟩:=Zd7 (xs:=x.mail) (i:=(y - 1)) om om
 obtain ⟨bb14,oo14,rfl⟩:=hx.base hm
 obtain ⟨_,⟨rfl,hb15⟩,hc15⟩:=hx.elem hm
 refine aIx 6 rfl Tryz.underlying54 ZcW (h:=?_)
 have hmf:=ZfF hok (List.mem_of_getElem? hm)
 refine aW 7 rfl ZfB (h:=aT 8 rfl (ZK fun D B L hI=>Zl rfl rfl lk3 rfl ((hc15.mono hI.1) _ 1 _ rfl) r4) (h:=aM 9 rfl (h:=aM 10 rfl (h:=aT 11 rfl (ZK fun D B L hI=>ZaR rfl rfl Zwl rfl (Zob m.flags how fl (oy) (oy) _) r4) (h:=?_)))))
 obtain ⟨z,hz⟩:=Zd7 (xs:=g.2.2) (i:=(y - 1)) om om
 obtain ⟨bb18,_,hp18,⟨rfl,hb18⟩,hw18,hc18⟩:=hv.row hz
 refine aT 12 rfl (ZK fun D B L hI=>ZfO hp18 rfl rfl Tryz.underlying54 ZcW rfl rfl om om r4) (h:=?_)
 refine aW 13 rfl ZfB (h:=ZV 14 kr rfl kr kr kr (Zd8 (k:=((y - 1)).toNat) (off:=1) (⟨z.uid,chg m.flags how fl,z.text⟩) [_] 2 hv hp18 hz rfl rfl sz3 rfl rfl rfl rfl rfl rfl (by rintro _ ⟨rfl,e1⟩;exact ⟨rfl,e1⟩) (fun l19 hv19=>?_)))
 refine Zz (Zf (Ze (xM (h:=xD (h:=xA (h:=?_))))))
 exact ZE (g.1+1,l19,(g.2.2.set (((y - 1)).toNat) (⟨z.uid,chg m.flags how fl,z.text⟩))) [0,1,2,3] so2 ⟨rfl,so,by simp only [];rw [Zlg hy (by rw [← hs];exact hz) hm,← hs],hlk.set hz (ZsL _ _ _),hv19⟩ t10 rfl
 try simp only [sQ,ne_eq] at g5
 have hfe:g.2.2=ZdQ x.mail how fl xs:=by rw [hs,List.take_of_length_le oz]
 rw [hfe] at hv hll
 refine ZY (Zal (Z6 (ZN (Zf (Za (xL [_,_] ZbN 3 (h:=ZZ 2 rfl hv ZJ.mono om3 (fun B20 hle20 hr20=>?_))))))))
 replace hx:=hx.mono ZJ.mono hle20
 replace hn:=hn.mono Zbu.mono hle20
 have hr20n:=hr20.len
 refine xS [_,_] 1 [_,_] ZcC (h:=?_)
 rw [hall]
 refine xA (h:=Zw [_,_,_,_] rfl (Zg ?_))
 exact Zaf .ret (.inl rfl) [_,_] [] rfl ⟨⟨_,rfl,.inr ⟨[_,_],ZbN,Zad 1 rfl rfl rfl,rfl⟩⟩,rfl,trivial⟩ ⟨rfl,_,_,by rw [← hll];rfl,hr20⟩

end Go.Proofs.YtnfoidafdcgdbaaGreatDoor
