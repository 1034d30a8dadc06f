/-
  WHAT THE FUNCTIONS THAT THE LAWS REACH COMPUTE: each function's contract, proved off its printed body (the text is written by program). No condition beyond those that each theorem states.
-/
import Derived.Test.YtkppijmhadbpdaaGreatDoorC1
namespace Go.Proofs.YtkppijmhadbpdaaGreatDoor
open Go Go.BL
set_option linter.unusedVariables false
set_option linter.unusedSimpArgs false
set_option maxRecDepth 4000
set_option maxHeartbeats 6400000
variable {J : JoinT}
theorem Zt7 (q:Option Addr) (cp:Nat) (gs:List DGrant) (u:Str) (hr :∀y,y∈gs→0≤y.rights∧y.rights≤63) (B:Kn) (hg:SlK B q cp 2 Z5 gs):Zaa (pj J) 164 [.slice q gs.length cp,str u] B (.int .i64 (Zbf gs u)):=by
 refine cB 55 Tryz.func164 (h:=?_)
 have hgn:=hg.len
 refine Za (xA (h:=Za (xA (h:=Zc (Za (xA (h:=Zh (Zz (α:=Nat × Int) [0,1,4] (fun g=>[(5,.int .i64 g.2),(6,.int .i64 g.1)]) [] (fun g=>[]) (fun g Bx=>Bx=B∧g.1≤6∧g.2=Zfe gs u g.1) (fun g=>6 - g.1) (0,0) t2 rfl (⟨rfl,oz,rfl⟩) (fun g B1 hle1 hI=>?_)))))))))
 obtain ⟨rfl,hk,hs⟩:=hI
 have hbd:=ZhS gs u g.1 hk
 refine ZC [(0,_),(1,_),(4,_),(5,_),(6,_)] [] t5 rfl (Zc (Za (xM (h:=ZF (h:=Zb rfl (fun g1=>?_) (fun g1=>?_))))))
 try simp only [sQ,ne_eq] at g1
 have hp:=ZqG (k:=g.1) oz
 refine wSk (Zc (Zh (Za (xA (h:=Zc (Za (xA (h:=Zh (Zz (α:=Nat × Bool) [0,1,4,5,6,10] (fun o=>[(7,.bool o.2),(8,.int .i64 o.1)]) [] (fun o=>[]) (fun o Bx=>Bx=B1∧o.1≤gs.length∧o.2=(gs.take o.1).any (onB u (Zcg g.1))) (fun o=>gs.length - o.1) (0,false) t2 rfl (⟨rfl,Nat.zero_le _,rfl⟩) (fun o B2 hle2 hI=>?_))))))))))
 obtain ⟨rfl,ho,hon⟩:=hI
 refine ZC [(0,_),(1,_),(4,_),(5,_),(6,_),(7,_),(8,_),(10,_)] [] t8 rfl (Zc (Za (xM (h:=xM (h:=xV Tryz.underlying94 (h:=ZF (h:=Zb rfl (fun g2=>?_) (fun g2=>?_))))))))
 try simp only [sQ,ne_eq] at g2
 obtain ⟨x,hx⟩:=ZY (xs:=gs) (i:=o.1) oz
 have hrx:=hr x (List.mem_of_getElem? hx)
 refine wSk (Zc (Zh (Z2 (same _ _) mo kr ⟨rfl,rfl⟩ (fun _ _=>?_))))
 refine aM 0 rfl (h:=aM 1 rfl (h:=ZaF (d:=20) rfl (fun g3=>?_) (fun g3=>?_)))
 try simp only [sQ,ne_eq] at g3
 refine aZ 2 rfl (h:=aZ 3 rfl (h:=aZ 4 rfl (h:=aZ 5 rfl (h:=aZ 6 rfl (h:=aZ 7 rfl (h:=aZ 8 rfl (h:=aZ 9 rfl (h:=aZ 10 rfl (h:=aZ 11 rfl (h:=aZ 12 rfl (h:=aZ 13 rfl (h:=aZ 14 rfl (h:=aZ 15 rfl (h:=aZ 16 rfl (h:=aZ 17 rfl (h:=aZ 18 rfl (h:=aZ 19 rfl (h:=aZ 20 rfl (h:=aZ 21 rfl (h:=aZ 22 rfl (h:=aZ 23 rfl (h:=aZ 24 rfl (h:=aZ 25 rfl (h:=aZ 26 rfl (h:=aZ 27 rfl (h:=aZ 28 rfl (h:=aPT 29 rfl (h:=aA 30 rfl (h:=Zt kr kr ?_)))))))))))))))))))))))))))))
 refine ZP (Zo (Zf (xM (h:=xD (h:=xA (h:=?_))))))
 exact ZD (o.1+1,true) [] so2 ⟨rfl,so,by rw [Zg1 hx,← hon,g3];rfl⟩ t8 rfl
 try simp only [sQ,ne_eq] at g3
 refine aM 2 rfl (h:=aM 3 rfl (h:=?_))
 obtain ⟨bb3,oo3,rfl⟩:=hg.base hx
 obtain ⟨_,⟨rfl,hb4⟩,hc4⟩:=hg.elem hx
 refine aIx 4 rfl Tryz.underlying94 Zds (h:=aW 5 rfl Zcd (h:=aT 6 rfl (Zac fun D=>Zm rfl rfl lk9 rfl (hc4 _ 0 _ rfl) r4) (h:=aM 7 rfl (h:=ZqN 8 rfl (h:=aM 9 rfl (h:=ZaF (d:=28) rfl (fun g4=>?_) (fun g4=>?_)))))))
 try simp only [sQ,ne_eq] at g4
 refine aZ 10 rfl (h:=aZ 11 rfl (h:=aZ 12 rfl (h:=aZ 13 rfl (h:=aZ 14 rfl (h:=aZ 15 rfl (h:=aPT 16 rfl (h:=aM 17 rfl (h:=aM 18 rfl (h:=aM 19 rfl (h:=aIx 20 rfl Tryz.underlying94 Zds (h:=aW 21 rfl Zc8 (h:=aT 22 rfl (Zac fun D=>Zm rfl rfl lk3 rfl (hc4 _ 1 _ rfl) r4) (h:=aM 23 rfl (h:=aT 24 rfl (Zac fun D=>Z8 rfl rfl ZuH rfl (ZiZ g.1 om2 _) r4) (h:=?_)))))))))))))))
 refine aT 25 rfl (Zac fun D=>Zna (a:=x.rights) (b:=(Zcg g.1)) (r:=Int.tdiv x.rights (Zcg g.1)) rfl rfl rfl rfl oz (Zmz oz oz oz) r4) (h:=?_)
 refine aT 26 rfl (Zac fun D=>Zoh (a:=(Int.tdiv x.rights (Zcg g.1))) (b:=2) (r:=Int.tmod (Int.tdiv x.rights (Zcg g.1)) 2) rfl rfl rfl rfl (by decide) rfl r4) (h:=?_)
 refine ZqO 27 rfl (h:=aPT 28 rfl (h:=aPF 29 rfl (h:=aA 30 rfl (h:=Zt kr kr ?_))))
 refine ZP (Zo (Zf (xM (h:=xD (h:=xA (h:=?_))))))
 exact ZD (o.1+1,decide (Int.tmod (Int.tdiv x.rights (Zcg g.1)) 2=1)) [] so2 ⟨rfl,so,by rw [Zg1 hx,← hon,g3,onB];simp [g4]⟩ t8 rfl
 try simp only [sQ,ne_eq] at g4
 refine aM 10 rfl (h:=aM 11 rfl (h:=aIx 12 rfl Tryz.underlying94 Zds (h:=aW 13 rfl Zcd (h:=aT 14 rfl (Zac fun D=>Zm rfl rfl lk9 rfl (hc4 _ 0 _ rfl) r4) (h:=ZqN 15 rfl (h:=aPF 16 rfl (h:=aM 17 rfl (h:=ZaF (d:=36) rfl (fun g5=>?_) (fun g5=>?_)))))))))
 try simp only [sQ,ne_eq] at g5
 refine aM 18 rfl (h:=aM 19 rfl (h:=aIx 20 rfl Tryz.underlying94 Zds (h:=aW 21 rfl Zc8 (h:=aT 22 rfl (Zac fun D=>Zm rfl rfl lk3 rfl (hc4 _ 1 _ rfl) r4) (h:=aM 23 rfl (h:=aT 24 rfl (Zac fun D=>Z8 rfl rfl ZuH rfl (ZiZ g.1 om2 _) r4) (h:=?_)))))))
 refine aT 25 rfl (Zac fun D=>Zna (a:=x.rights) (b:=(Zcg g.1)) (r:=Int.tdiv x.rights (Zcg g.1)) rfl rfl rfl rfl oz (Zmz oz oz oz) r4) (h:=?_)
 refine aT 26 rfl (Zac fun D=>Zoh (a:=(Int.tdiv x.rights (Zcg g.1))) (b:=2) (r:=Int.tmod (Int.tdiv x.rights (Zcg g.1)) 2) rfl rfl rfl rfl (by decide) rfl r4) (h:=?_)
 refine ZqO 27 rfl (h:=aPT 28 rfl (h:=aPF 29 rfl (h:=aA 30 rfl (h:=Zt kr kr ?_))))
 refine ZP (Zo (Zf (xM (h:=xD (h:=xA (h:=?_))))))
 exact ZD (o.1+1,decide (Int.tmod (Int.tdiv x.rights (Zcg g.1)) 2=1)) [] so2 ⟨rfl,so,by rw [Zg1 hx,← hon,g3,onB];simp [g5,anyone]⟩ t8 rfl
 try simp only [sQ,ne_eq] at g5
 refine aZ 18 rfl (h:=aZ 19 rfl (h:=aZ 20 rfl (h:=aZ 21 rfl (h:=aZ 22 rfl (h:=aZ 23 rfl (h:=aZ 24 rfl (h:=aZ 25 rfl (h:=aZ 26 rfl (h:=aZ 27 rfl (h:=aPF 28 rfl (h:=aPF 29 rfl (h:=aA 30 rfl (h:=Zt kr kr ?_)))))))))))))
 refine ZP (Zo (Zf (xM (h:=xD (h:=xA (h:=?_))))))
 exact ZD (o.1+1,false) [] so2 ⟨rfl,so,by rw [Zg1 hx,← hon,g3,onB];simp [g4,g5,anyone]⟩ t8 rfl
 try simp only [sQ,ne_eq] at g2
 have hae:=ZuR hon oz
 refine ZE (ZV (ZH (Zw (Zo (Za (xM (h:=Zb rfl (fun g6=>?_) (fun g6=>?_))))))))
 try simp only [sQ,ne_eq] at g6
 refine Zf (xM (h:=xM (h:=xR ZuH rfl (ZiZ g.1 om2 _) (h:=?_))))
 refine xD (h:=xA (h:=ZP (Zo (Zf (xM (h:=xD (h:=xA (h:=?_))))))))
 exact ZD (g.1+1,g.2+Zcg g.1) [] so2 ⟨rfl,so,by simp only [Zfe];rw [← hae,if_pos g6,hs]⟩ t5 rfl
 try simp only [sQ,ne_eq] at g6
 refine ZX (ZP (Zo (Zf (xM (h:=xD (h:=xA (h:=?_)))))))
 exact ZD (g.1+1,g.2) [] so2 ⟨rfl,so,by simp only [Zfe];rw [← hae,if_neg (by simp [g6]),hs]⟩ t5 rfl
 try simp only [sQ,ne_eq] at g1
 refine ZE (ZV (ZH (Zw (Zo (Za (xM (h:=xA (h:=Ze ?_))))))))
 exact eR t1 ⟨ZG (by rw [hs,show g.1=6 from by omega];rfl),rfl,rfl⟩

theorem ZmJ (q1 q2 q3:Option Addr) (c1 c2 c3:Nat) (x:DHost) (k:Int) (u:Str) (r:Int) (f:DFolder) (hk0:0≤k) (hk:x.folders[k.toNat]? = some f) (hrr:Zg2 x.folders) (h1:0<r) (B:Kn) (hf:SlK B q2 c2 5 Zu x.folders):Zaa (pj J) 98 [.agg #[str x.domain,.slice q1 x.users.length c1,.slice q2 x.folders.length c2,.int .i64 x.queue.next,.slice q3 x.queue.items.length c3],.int .i64 k,str u,.int .i64 r] B (.bool (ZkL f u r)):=by
 refine cB 31 Tryz.func98 (h:=?_)
 have hfn:=hf.len
 have hkl:=(List.getElem?_eq_some_iff.1 hk).1
 have hrb:=Zli f.grants u
 refine Za (xBx [_,_,_,_,_] (h:=fun b1=>xA (h:=tL1 (Za (xM (h:=xW Zay (h:=x1 ZeO 0 (h:=xM (h:=?_)))))))))
 obtain ⟨bb2,oo2,rfl⟩:=hf.base hk
 obtain ⟨_,⟨qg3,cg3,qm3,cm3,rfl,hg3,hm3,hb3,hb3b⟩,hc3⟩:=hf.elem hk
 have hg3n:=hg3.len
 have hm3n:=hm3.len
 have hm3s:=Zaq hm3
 refine xIx Tryz.underlying24 Zb0 (h:=xW Zcc (h:=y1 lk9 hc3 0 (h:=Zdx (h:=xM (h:=Zy (d:=17) rfl (fun g1=>?_) (fun g1=>?_))))))
 refine xP (h:=xP (h:=xP (h:=xP (h:=xP (h:=xP (h:=xP (h:=xP (h:=xP (h:=xP (h:=xP (h:=xP (h:=xT (h:=xA (h:=Ze ?_))))))))))))))
 exact eR t1 ⟨Zd (by simp [ZkL,g1]),rfl,rfl⟩
 refine xW Zay (h:=x1 ZeO 0 (h:=xM (h:=xIx Tryz.underlying24 Zb0 (h:=xW ZdI (h:=y1 ZqU hc3 2 (h:=xM (h:=xR Zyy rfl (Zt7 _ _ f.grants u (by first | assumption | exact hrr _ (List.mem_of_getElem? (oy))) _ hg3) (h:=?_))))))))
 refine xM (h:=Zk (Zna (a:=(Zbf f.grants u)) (b:=r) (r:=Int.tdiv (Zbf f.grants u) r) rfl rfl rfl rfl oz (Zmz oz oz oz) ?_))
 refine Zk (Zoh (a:=(Int.tdiv (Zbf f.grants u) r)) (b:=2) (r:=Int.tmod (Int.tdiv (Zbf f.grants u) r) 2) rfl rfl rfl rfl (by decide) rfl ?_)
 refine ZjC (h:=xF (h:=xA (h:=Ze ?_)))
 exact eR t1 ⟨Zd (by simp [ZkL,g1]),rfl,rfl⟩

theorem Zio (q1 q2 q3:Option Addr) (c1 c2 c3:Nat) (x:DHost) (u:Str) (k r:Int) (hk:k<x.folders.length) (hrr:Zg2 x.folders) (h1:0<r) (B:Kn) (hu:SlK B q1 c1 3 Zs x.users) (hf:SlK B q2 c2 5 Zu x.folders):Zaa (pj J) 41 [.agg #[str x.domain,.slice q1 x.users.length c1,.slice q2 x.folders.length c2,.int .i64 x.queue.next,.slice q3 x.queue.items.length c3],str u,.int .i64 k,.int .i64 r] B (.int .i64 (ZkJ x.users x.folders u k r)):=by
 refine cB 32 Tryz.func41 (h:=?_)
 refine Za (xBx [_,_,_,_,_] (h:=fun b1=>xA (h:=tL1 (Zc (Zh (Za (xW ZbZ (h:=x1 ZiW 0 (h:=xM (h:=xR ZwC rfl (ZfW _ _ _ _ _ hu) (h:=ZF (h:=xM (h:=Zy (d:=15) rfl (fun g1=>?_) (fun g1=>?_))))))))))))))
 try simp only [sQ,ne_eq] at g1
 refine xP (h:=xP (h:=xT (h:=xA (h:=Zb (t:=true) rfl (fun _=>Za (xA (h:=Ze (ZB (Zn ?_))))) (fun h=>Bool.noConfusion h)))))
 exact eR t1 ⟨ZG (Zjq (.inl g1)).symm,rfl,rfl⟩
 try simp only [sQ,ne_eq] at g1
 refine xM (h:=ZF (h:=xF (h:=xA (h:=Zb rfl (fun g2=>?_) (fun g2=>?_)))))
 try simp only [sQ,ne_eq] at g2
 refine Za (xA (h:=Ze (ZB (Zn ?_))))
 exact eR t1 ⟨ZG (Zjq (.inr g2)).symm,rfl,rfl⟩
 try simp only [sQ,ne_eq] at g2
 have hfn:=hf.len
 obtain ⟨f,hf0⟩ :∃f,x.folders[k.toNat]? = some f:=⟨_,List.getElem?_eq_getElem oz⟩
 have hce:=ZqA (us:=x.users) (u:=u) (r:=r) oz hf0
 refine Za (xL [_,_,_,_,_] Zc6 0 (h:=xM (h:=xM (h:=xR Zzs rfl (ZmJ _ _ _ _ _ _ x k u 1 _ oz (oy) hrr oz _ hf) (h:=?_)))))
 refine xN (h:=xA (h:=Zb rfl (fun g3=>?_) (fun g3=>?_)))
 try simp only [sQ,ne_eq] at g3
 refine Za (xA (h:=Ze (ZB (Zn ?_))))
 exact eR t1 ⟨ZG (by rw [hce,if_pos g3]),rfl,rfl⟩
 try simp only [sQ,ne_eq] at g3
 refine Za (xL [_,_,_,_,_] Zc6 0 (h:=xM (h:=xM (h:=xM (h:=xR Zzs rfl (ZmJ _ _ _ _ _ _ x k u r _ oz (oy) hrr oz _ hf) (h:=?_))))))
 refine xN (h:=xA (h:=Zb rfl (fun g4=>?_) (fun g4=>?_)))
 try simp only [sQ,ne_eq] at g4
 refine Za (xA (h:=Ze (ZB (Zn ?_))))
 exact eR t1 ⟨ZG (by rw [hce,if_neg (by simp [g3]),if_pos g4]),rfl,rfl⟩
 try simp only [sQ,ne_eq] at g4
 refine ZX (ZP (Zo (Za (xA (h:=Ze ?_)))))
 exact eR t1 ⟨ZG (by rw [hce,if_neg (by simp [g3]),if_neg (by simp [g4])]),rfl,rfl⟩

theorem Zpy (q:Option Addr) (cp:Nat) (x:DBox) (B:Kn) (hm:SlK B q cp 3 Z6 x.mail):Zv (pj J) 180 [.agg #[.int .i64 x.next,.slice q x.mail.length cp]] B [] (fun v B' Ls=>B'=B∧∃l a c,Ls=[l]∧v = .agg #[.int .i64 x.next,.slice a x.mail.length c]∧ZN B l a c 99 3 Z6 x.mail):=by
 refine cB 9 Tryz.func180 (h:=?_)
 have hxn:=hm.len
 refine Za (xBx [_,_] (h:=fun b1=>xAl [_,_] Zm4 (h:=fun b2=>tL2 (Za (xBs [] [] Tryz.underlying91 Zf7 Zn9 (h:=fun b3=>xW Za9 (h:=x1 Zh0 0 (h:=Zk (Zch (R:=Z6) 2 rfl (ZN.lit0 (R:=Z6)) rfl rfl rfl ZuZ Zwv rfl rfl rfl hm.rows Z6.one rfl om (fun l4 p4 c4 hv4=>?_))))))))))
 refine xW Za9 (h:=xS [_] 0 [_,_] Zw7 (h:=tL3 (Za (xL [_,_] ZgV 0 (h:=xS [_,_] 1 [_,_] Zmr (h:=tL3 (Ze ?_)))))))
 exact eN [2] rfl ⟨⟨_,rfl,.inr ⟨[_,_],ZgV,ZbT 1 rfl rfl rfl,rfl⟩⟩,trivial⟩ ⟨rfl,_,_,_,rfl,rfl,hv4⟩

theorem ZlF (qa qb:Option Addr) (ca cb:Nat) (x:DFolder) (B:Kn) (hg:SlK B qa ca 2 Z5 x.grants) (hm:SlK B qb cb 3 Z6 x.mail):Zv (pj J) 118 [.agg #[str x.owner,str x.name,.slice qa x.grants.length ca,.int .i64 x.next,.slice qb x.mail.length cb]] B [] (fun v B' Ls=>B'=B∧∃l a c l' a' c',Ls=[l,l']∧v = .agg #[str x.owner,str x.name,.slice a x.grants.length c,.int .i64 x.next,.slice a' x.mail.length c']∧ZN B l a c 259 2 Z5 x.grants∧ZN B l' a' c' 99 3 Z6 x.mail):=by
 refine cB 13 Tryz.func118 (h:=?_)
 have hgn:=hg.len
 have hmn:=hm.len
 refine Za (xBx [_,_,_,_,_] (h:=fun b1=>xAl [_,_,_,_,_] Zf6 (h:=fun b2=>tL2 (Za (xBs [] [] Tryz.underlying94 Zds Zm5 (h:=fun b3=>xW ZdI (h:=x1 ZqU 0 (h:=Zk (Zch (R:=Z5) 2 rfl (ZN.lit0 (R:=Z5)) rfl rfl rfl Zxu Zzg rfl rfl rfl hg.rows Z5.one rfl om (fun l4 p4 c4 hv4=>?_))))))))))
 refine xW ZdI (h:=xS [_] 0 [_,_,_,_,_] Zw6 (h:=tL3 (Za (xW Zcb (h:=xL [_,_] ZgV 0 (h:=xC Zyk rfl (Zpy _ _ (⟨x.next,x.mail⟩:DBox) _ hm) (h:=?_)))))))
 rintro _ B5 _ hle5 ⟨hB5,l5,a5,c5,rfl,rfl,hs5⟩
 have hB5:=hB5.symm
 subst hB5
 refine xW Zcb (h:=xS [_,_] 0 [_,_,_,_,_] Zmr (h:=tL4 (Za (xL [_,_,_,_,_] ZhZ 0 (h:=xS [_,_,_,_,_] 1 [_,_,_,_,_] Zb0 (h:=tL4 (Ze ?_)))))))
 exact eN [2,3] rfl ⟨⟨_,rfl,.inr ⟨[_,_,_,_,_],ZhZ,ZbT 1 rfl rfl rfl,rfl⟩⟩,trivial⟩ ⟨rfl,_,_,_,_,_,_,rfl,rfl,hv4,hs5⟩

theorem Zpv (q1 q2 q3:Option Addr) (c1 c2 c3:Nat) (x:DHost) (B:Kn) (hu:SlK B q1 c1 3 Zs x.users) (hf:SlK B q2 c2 5 Zu x.folders) (hi:SlK B q3 c3 4 ZI x.queue.items):Zv (pj J) 66 [.agg #[str x.domain,.slice q1 x.users.length c1,.slice q2 x.folders.length c2,.int .i64 x.queue.next,.slice q3 x.queue.items.length c3]] B [] (fun v B' Ls=>∃l a c p1 d1 p3 d3,Ls=[l]∧v = .agg #[str x.domain,.slice p1 x.users.length d1,.slice a x.folders.length c,.int .i64 x.queue.next,.slice p3 x.queue.items.length d3]∧SlK B' p1 d1 3 Zs x.users∧ZN B' l a c 96 5 Zu x.folders∧SlK B' p3 d3 4 ZI x.queue.items):=by
 refine cB 35 Tryz.func66 (h:=?_)
 have hun:=hu.len
 have hfn:=hf.len
 have hin:=hi.len
 refine Za (xBx [_,_,_,_,_] (h:=fun b1=>xAl [_,_,_,_,_] Zce (h:=fun b2=>tL2 (Zmj (α:=GHC × Gh DFolder) [0,1,2] (fun o=>[(3,ptr ⟨o.1.b,0,none⟩)]) (fun o=>[ZK b1 [str x.domain,.slice q1 x.users.length c1,.slice q2 x.folders.length c2,.int .i64 x.queue.next,.slice q3 x.queue.items.length c3] 29,ZK b2 [str [],.slice none 0 0,.slice none 0 0,.int .i64 0,.slice none 0 0] 29,o.2.l,ZK o.1.b [str x.domain,.slice o.1.q1 x.users.length o.1.c1,.slice o.2.a o.2.xs.length o.2.c,.int .i64 x.queue.next,.slice o.1.q3 x.queue.items.length o.1.c3] 29]) (fun o Bx=>SlK Bx o.1.q1 o.1.c1 3 Zs x.users∧o.2.xs=[]∧ZN Bx o.2.l o.2.a o.2.c 96 5 Zu o.2.xs∧SlK Bx o.1.q3 o.1.c3 4 ZI x.queue.items) ?_ (fun o B3 hle3 hF=>?_)))))
 refine Z2 (keeps _ [0] _) mo kr ⟨Kn.le.refl _,ZaY.refl _ _⟩ (fun _ _=>?_)
 refine aW 0 rfl ZhF (h:=aT 1 rfl (ZO fun D B L hI=>Zm rfl rfl lk9 rfl (atL 0 (hI.2.1.trans rfl) rfl rfl) r4) (h:=aW 3 rfl ZbZ (h:=aT 4 rfl (ZO fun D B L hI=>Zm rfl rfl ZiW rfl (atL 0 (hI.2.1.trans rfl) rfl rfl) r4) (h:=aW 7 rfl Zeh (h:=aT 8 rfl (ZO fun D B L hI=>Z0 [_,_] rfl rfl ZkX rfl (ZbT 0 (hI.2.1.trans rfl) rfl rfl) r4) (h:=ZaE [2,6,11] kr kr kr ⟨?_,?_,?_⟩))))))
 refine (ZJ (parts:=[]) [] rfl rfl Tryz.underlying23 Zbh ZdS rfl rfl rfl rfl rfl (fun b4=>⟨⟨Kn.le.refl _,t1⟩,(ZaE [5,6,11] kr kr kr ⟨?_,?_,?_⟩)⟩))
 refine (Zch (R:=Zs) 2 rfl (ZN.lit0 (R:=Zs)) rfl rfl rfl ZnY Zoa rfl rfl rfl hu.rows Zs.one rfl om (fun l5 p5 c5 hv5=>?_))
 refine ⟨⟨Kn.le.refl _,t1⟩,(ZaJ 2 rfl hv5 Zs.mono om3 (fun B' hle'=>⟨hle',t1⟩) (fun B6 hle6 hr6=>?_))⟩
 obtain ⟨hu,hf,hi⟩:=up3 hle6 hu hf hi
 have hr6n:=hr6.len
 refine ZaE [6,9,11] kr kr kr ⟨?_,?_,?_⟩
 refine (ZJ (parts:=[]) [] rfl rfl Tryz.underlying24 Zb0 Zf6 rfl rfl rfl rfl rfl (fun b7=>⟨⟨hle6,t1⟩,(ZaE [9,11] kr kr kr ⟨?_,?_⟩)⟩))
 refine (Zap rfl rfl Zea rfl (Zar _ _ x.queue _ hi) ?_)
 rintro _ B8 _ hle8 ⟨l8,a8,c8,rfl,rfl,hv8⟩
 obtain ⟨hu,hf,hi,hr6⟩:=up4 hle8 hu hf hi hr6
 replace hv8:=hv8.mono ZI.mono Kn.less_le
 refine ⟨⟨(hle6.trans hle8),t1⟩,(ZaJ 4 rfl hv8 ZI.mono om3 (fun B' hle'=>⟨(hle6.trans hle8).trans hle',t1⟩) (fun B9 hle9 hr9=>?_))⟩
 obtain ⟨hu,hf,hi,hr6⟩:=up4 hle9 hu hf hi hr6
 have hr9n:=hr9.len
 refine aT 10 rfl (ZO fun D B L hI=>Zak (parts:=[(0,_),(1,_),(2,_),(3,_)]) [_,_,_,_,_] [_,_,_,_,_] rfl rfl ZgT Zce rfl rfl rfl r4) (h:=ZA 11 kr rfl kr (Zav (l:=[_,_,_,_,_]) rfl rfl Zce rfl (fun b10=>?_)))
 refine ⟨⟨((hle6.trans hle8).trans hle9),t1⟩,(Zad 12 kr rfl kr kr kr (ZM [_,_,_,_,_] 5 [_,_,_,_,_] rfl rfl Zdh rfl rfl rfl rfl rfl rfl rfl rfl ?_))⟩
 exact Zaj ⟨⟨_,_,_,_,_⟩,⟨0,0,_,_,_,[]⟩⟩ [0,1,3,5] ⟨hr6,rfl,ZN.lit0,hr9⟩ t4 rfl
 refine (Zav (l:=[_,_,_,_,_]) rfl rfl Zce rfl (fun b11=>⟨⟨hle6,t1⟩,(ZA 9 kr rfl kr (Zap rfl rfl Zea rfl (Zar _ _ x.queue _ hi) ?_))⟩))
 rintro _ B12 _ hle12 ⟨l12,a12,c12,rfl,rfl,hv12⟩
 obtain ⟨hu,hf,hi,hr6⟩:=up4 hle12 hu hf hi hr6
 replace hv12:=hv12.mono ZI.mono Kn.less_le
 refine ⟨⟨(hle6.trans hle12),t1⟩,(ZaJ 5 rfl hv12 ZI.mono om3 (fun B' hle'=>⟨(hle6.trans hle12).trans hle',t1⟩) (fun B13 hle13 hr13=>?_))⟩
 obtain ⟨hu,hf,hi,hr6⟩:=up4 hle13 hu hf hi hr6
 have hr13n:=hr13.len
 refine aT 10 rfl (ZO fun D B L hI=>Zak (parts:=[(0,_),(1,_),(2,_),(3,_)]) [_,_,_,_,_] [_,_,_,_,_] rfl rfl ZgT Zce rfl rfl rfl r4) (h:=Zad 12 kr rfl kr kr kr (ZM [_,_,_,_,_] 4 [_,_,_,_,_] rfl rfl Zdh rfl rfl rfl rfl rfl rfl rfl rfl ?_))
 exact Zaj ⟨⟨_,_,_,_,_⟩,⟨0,0,_,_,_,[]⟩⟩ [0,1,3,4] ⟨hr6,rfl,ZN.lit0,hr13⟩ t4 rfl
 refine (Zap rfl rfl Zea rfl (Zar _ _ x.queue _ hi) ?_)
 rintro _ B14 _ hle14 ⟨l14,a14,c14,rfl,rfl,hv14⟩
 obtain ⟨hu,hf,hi,hr6⟩:=up4 hle14 hu hf hi hr6
 replace hv14:=hv14.mono ZI.mono Kn.less_le
 refine ⟨⟨(hle6.trans hle14),t1⟩,(ZaJ 3 rfl hv14 ZI.mono om3 (fun B' hle'=>⟨(hle6.trans hle14).trans hle',t1⟩) (fun B15 hle15 hr15=>?_))⟩
 obtain ⟨hu,hf,hi,hr6⟩:=up4 hle15 hu hf hi hr6
 have hr15n:=hr15.len
 refine ZaE [6,11] kr kr kr ⟨?_,?_⟩
 refine (ZJ (parts:=[]) [] rfl rfl Tryz.underlying24 Zb0 Zf6 rfl rfl rfl rfl rfl (fun b16=>⟨⟨((hle6.trans hle14).trans hle15),t1⟩,(aT 10 rfl (ZO fun D B L hI=>Zak (parts:=[(0,_),(1,_),(2,_),(3,_)]) [_,_,_,_,_] [_,_,_,_,_] rfl rfl ZgT Zce rfl rfl rfl r4) (h:=ZA 11 kr rfl kr (Zav (l:=[_,_,_,_,_]) rfl rfl Zce rfl (fun b17=>?_))))⟩))
 refine ⟨⟨((hle6.trans hle14).trans hle15),t1⟩,(Zad 12 kr rfl kr kr kr (ZM [_,_,_,_,_] 5 [_,_,_,_,_] rfl rfl Zdh rfl rfl rfl rfl rfl rfl rfl rfl ?_))⟩
 exact Zaj ⟨⟨_,_,_,_,_⟩,⟨0,0,_,_,_,[]⟩⟩ [0,1,4,5] ⟨hr6,rfl,ZN.lit0,hr15⟩ t4 rfl
 refine (Zav (l:=[_,_,_,_,_]) rfl rfl Zce rfl (fun b18=>⟨⟨((hle6.trans hle14).trans hle15),t1⟩,(ZA 6 kr rfl kr (ZJ (parts:=[]) [] rfl rfl Tryz.underlying24 Zb0 Zf6 rfl rfl rfl rfl rfl (fun b19=>?_)))⟩))
 refine ⟨⟨((hle6.trans hle14).trans hle15),t1⟩,(aT 10 rfl (ZO fun D B L hI=>Zak (parts:=[(0,_),(1,_),(2,_),(3,_)]) [_,_,_,_,_] [_,_,_,_,_] rfl rfl ZgT Zce rfl rfl rfl r4) (h:=Zad 12 kr rfl kr kr kr (ZM [_,_,_,_,_] 4 [_,_,_,_,_] rfl rfl Zdh rfl rfl rfl rfl rfl rfl rfl rfl ?_)))⟩
 exact Zaj ⟨⟨_,_,_,_,_⟩,⟨0,0,_,_,_,[]⟩⟩ [0,1,5,4] ⟨hr6,rfl,ZN.lit0,hr15⟩ t4 rfl
 refine (Zav (l:=[_,_,_,_,_]) rfl rfl Zce rfl (fun b20=>⟨⟨hle6,t1⟩,(ZaE [6,9] kr kr kr ⟨?_,?_⟩)⟩))
 refine (ZJ (parts:=[]) [] rfl rfl Tryz.underlying24 Zb0 Zf6 rfl rfl rfl rfl rfl (fun b21=>⟨⟨hle6,t1⟩,(ZA 9 kr rfl kr (Zap rfl rfl Zea rfl (Zar _ _ x.queue _ hi) ?_))⟩))
 rintro _ B22 _ hle22 ⟨l22,a22,c22,rfl,rfl,hv22⟩
 obtain ⟨hu,hf,hi,hr6⟩:=up4 hle22 hu hf hi hr6
 replace hv22:=hv22.mono ZI.mono Kn.less_le
 refine ⟨⟨(hle6.trans hle22),t1⟩,(ZaJ 5 rfl hv22 ZI.mono om3 (fun B' hle'=>⟨(hle6.trans hle22).trans hle',t1⟩) (fun B23 hle23 hr23=>?_))⟩
 obtain ⟨hu,hf,hi,hr6⟩:=up4 hle23 hu hf hi hr6
 have hr23n:=hr23.len
 refine aT 10 rfl (ZO fun D B L hI=>Zak (parts:=[(0,_),(1,_),(2,_),(3,_)]) [_,_,_,_,_] [_,_,_,_,_] rfl rfl ZgT Zce rfl rfl rfl r4) (h:=Zad 12 kr rfl kr kr kr (ZM [_,_,_,_,_] 3 [_,_,_,_,_] rfl rfl Zdh rfl rfl rfl rfl rfl rfl rfl rfl ?_))
 exact Zaj ⟨⟨_,_,_,_,_⟩,⟨0,0,_,_,_,[]⟩⟩ [0,1,4,3] ⟨hr6,rfl,ZN.lit0,hr23⟩ t4 rfl
 refine (Zap rfl rfl Zea rfl (Zar _ _ x.queue _ hi) ?_)
 rintro _ B24 _ hle24 ⟨l24,a24,c24,rfl,rfl,hv24⟩
 obtain ⟨hu,hf,hi,hr6⟩:=up4 hle24 hu hf hi hr6
 replace hv24:=hv24.mono ZI.mono Kn.less_le
 refine ⟨⟨(hle6.trans hle24),t1⟩,(ZaJ 4 rfl hv24 ZI.mono om3 (fun B' hle'=>⟨(hle6.trans hle24).trans hle',t1⟩) (fun B25 hle25 hr25=>?_))⟩
 obtain ⟨hu,hf,hi,hr6⟩:=up4 hle25 hu hf hi hr6
 have hr25n:=hr25.len
 refine ZA 6 kr rfl kr (ZJ (parts:=[]) [] rfl rfl Tryz.underlying24 Zb0 Zf6 rfl rfl rfl rfl rfl (fun b26=>?_))
 refine ⟨⟨((hle6.trans hle24).trans hle25),t1⟩,(aT 10 rfl (ZO fun D B L hI=>Zak (parts:=[(0,_),(1,_),(2,_),(3,_)]) [_,_,_,_,_] [_,_,_,_,_] rfl rfl ZgT Zce rfl rfl rfl r4) (h:=Zad 12 kr rfl kr kr kr (ZM [_,_,_,_,_] 3 [_,_,_,_,_] rfl rfl Zdh rfl rfl rfl rfl rfl rfl rfl rfl ?_)))⟩
 exact Zaj ⟨⟨_,_,_,_,_⟩,⟨0,0,_,_,_,[]⟩⟩ [0,1,5,3] ⟨hr6,rfl,ZN.lit0,hr25⟩ t4 rfl
 refine (ZJ (parts:=[]) [] rfl rfl Tryz.underlying24 Zb0 Zf6 rfl rfl rfl rfl rfl (fun b27=>⟨⟨Kn.le.refl _,t1⟩,(ZaE [5,11] kr kr kr ⟨?_,?_⟩)⟩))
 refine (Zch (R:=Zs) 2 rfl (ZN.lit0 (R:=Zs)) rfl rfl rfl ZnY Zoa rfl rfl rfl hu.rows Zs.one rfl om (fun l28 p28 c28 hv28=>?_))
 refine ⟨⟨Kn.le.refl _,t1⟩,(ZaJ 2 rfl hv28 Zs.mono om3 (fun B' hle'=>⟨hle',t1⟩) (fun B29 hle29 hr29=>?_))⟩
 obtain ⟨hu,hf,hi⟩:=up3 hle29 hu hf hi
 have hr29n:=hr29.len
 refine ZaE [9,11] kr kr kr ⟨?_,?_⟩
 refine (Zap rfl rfl Zea rfl (Zar _ _ x.queue _ hi) ?_)
 rintro _ B30 _ hle30 ⟨l30,a30,c30,rfl,rfl,hv30⟩
 obtain ⟨hu,hf,hi,hr29⟩:=up4 hle30 hu hf hi hr29
 replace hv30:=hv30.mono ZI.mono Kn.less_le
 refine ⟨⟨(hle29.trans hle30),t1⟩,(ZaJ 4 rfl hv30 ZI.mono om3 (fun B' hle'=>⟨(hle29.trans hle30).trans hle',t1⟩) (fun B31 hle31 hr31=>?_))⟩
 obtain ⟨hu,hf,hi,hr29⟩:=up4 hle31 hu hf hi hr29
 have hr31n:=hr31.len
 refine aT 10 rfl (ZO fun D B L hI=>Zak (parts:=[(0,_),(1,_),(2,_),(3,_)]) [_,_,_,_,_] [_,_,_,_,_] rfl rfl ZgT Zce rfl rfl rfl r4) (h:=ZA 11 kr rfl kr (Zav (l:=[_,_,_,_,_]) rfl rfl Zce rfl (fun b32=>?_)))
 refine ⟨⟨((hle29.trans hle30).trans hle31),t1⟩,(Zad 12 kr rfl kr kr kr (ZM [_,_,_,_,_] 5 [_,_,_,_,_] rfl rfl Zdh rfl rfl rfl rfl rfl rfl rfl rfl ?_))⟩
 exact Zaj ⟨⟨_,_,_,_,_⟩,⟨0,0,_,_,_,[]⟩⟩ [0,1,3,5] ⟨hr29,rfl,ZN.lit0,hr31⟩ t4 rfl
 refine (Zav (l:=[_,_,_,_,_]) rfl rfl Zce rfl (fun b33=>⟨⟨hle29,t1⟩,(ZA 9 kr rfl kr (Zap rfl rfl Zea rfl (Zar _ _ x.queue _ hi) ?_))⟩))
 rintro _ B34 _ hle34 ⟨l34,a34,c34,rfl,rfl,hv34⟩
 obtain ⟨hu,hf,hi,hr29⟩:=up4 hle34 hu hf hi hr29
 replace hv34:=hv34.mono ZI.mono Kn.less_le
 refine ⟨⟨(hle29.trans hle34),t1⟩,(ZaJ 5 rfl hv34 ZI.mono om3 (fun B' hle'=>⟨(hle29.trans hle34).trans hle',t1⟩) (fun B35 hle35 hr35=>?_))⟩
 obtain ⟨hu,hf,hi,hr29⟩:=up4 hle35 hu hf hi hr29
 have hr35n:=hr35.len
 refine aT 10 rfl (ZO fun D B L hI=>Zak (parts:=[(0,_),(1,_),(2,_),(3,_)]) [_,_,_,_,_] [_,_,_,_,_] rfl rfl ZgT Zce rfl rfl rfl r4) (h:=Zad 12 kr rfl kr kr kr (ZM [_,_,_,_,_] 4 [_,_,_,_,_] rfl rfl Zdh rfl rfl rfl rfl rfl rfl rfl rfl ?_))
 exact Zaj ⟨⟨_,_,_,_,_⟩,⟨0,0,_,_,_,[]⟩⟩ [0,1,3,4] ⟨hr29,rfl,ZN.lit0,hr35⟩ t4 rfl
 refine (Zav (l:=[_,_,_,_,_]) rfl rfl Zce rfl (fun b36=>⟨⟨Kn.le.refl _,t1⟩,(ZA 5 kr rfl kr (Zch (R:=Zs) 2 rfl (ZN.lit0 (R:=Zs)) rfl rfl rfl ZnY Zoa rfl rfl rfl hu.rows Zs.one rfl om (fun l37 p37 c37 hv37=>?_)))⟩))
 refine ⟨⟨Kn.le.refl _,t1⟩,(ZaJ 2 rfl hv37 Zs.mono om3 (fun B' hle'=>⟨hle',t1⟩) (fun B38 hle38 hr38=>?_))⟩
 obtain ⟨hu,hf,hi⟩:=up3 hle38 hu hf hi
 have hr38n:=hr38.len
 refine ZA 9 kr rfl kr (Zap rfl rfl Zea rfl (Zar _ _ x.queue _ hi) ?_)
 rintro _ B39 _ hle39 ⟨l39,a39,c39,rfl,rfl,hv39⟩
 obtain ⟨hu,hf,hi,hr38⟩:=up4 hle39 hu hf hi hr38
 replace hv39:=hv39.mono ZI.mono Kn.less_le
 refine ⟨⟨(hle38.trans hle39),t1⟩,(ZaJ 5 rfl hv39 ZI.mono om3 (fun B' hle'=>⟨(hle38.trans hle39).trans hle',t1⟩) (fun B40 hle40 hr40=>?_))⟩
 obtain ⟨hu,hf,hi,hr38⟩:=up4 hle40 hu hf hi hr38
 have hr40n:=hr40.len
 refine aT 10 rfl (ZO fun D B L hI=>Zak (parts:=[(0,_),(1,_),(2,_),(3,_)]) [_,_,_,_,_] [_,_,_,_,_] rfl rfl ZgT Zce rfl rfl rfl r4) (h:=Zad 12 kr rfl kr kr kr (ZM [_,_,_,_,_] 4 [_,_,_,_,_] rfl rfl Zdh rfl rfl rfl rfl rfl rfl rfl rfl ?_))
 exact Zaj ⟨⟨_,_,_,_,_⟩,⟨0,0,_,_,_,[]⟩⟩ [0,1,3,4] ⟨hr38,rfl,ZN.lit0,hr40⟩ t4 rfl
 refine (Zav (l:=[_,_,_,_,_]) rfl rfl Zce rfl (fun b41=>⟨⟨Kn.le.refl _,t1⟩,(ZaE [5,6] kr kr kr ⟨?_,?_⟩)⟩))
 refine (Zch (R:=Zs) 2 rfl (ZN.lit0 (R:=Zs)) rfl rfl rfl ZnY Zoa rfl rfl rfl hu.rows Zs.one rfl om (fun l42 p42 c42 hv42=>?_))
 refine ⟨⟨Kn.le.refl _,t1⟩,(ZaJ 2 rfl hv42 Zs.mono om3 (fun B' hle'=>⟨hle',t1⟩) (fun B43 hle43 hr43=>?_))⟩
 obtain ⟨hu,hf,hi⟩:=up3 hle43 hu hf hi
 have hr43n:=hr43.len
 refine ZaE [6,9] kr kr kr ⟨?_,?_⟩
 refine (ZJ (parts:=[]) [] rfl rfl Tryz.underlying24 Zb0 Zf6 rfl rfl rfl rfl rfl (fun b44=>⟨⟨hle43,t1⟩,(ZA 9 kr rfl kr (Zap rfl rfl Zea rfl (Zar _ _ x.queue _ hi) ?_))⟩))
 rintro _ B45 _ hle45 ⟨l45,a45,c45,rfl,rfl,hv45⟩
 obtain ⟨hu,hf,hi,hr43⟩:=up4 hle45 hu hf hi hr43
 replace hv45:=hv45.mono ZI.mono Kn.less_le
 refine ⟨⟨(hle43.trans hle45),t1⟩,(ZaJ 5 rfl hv45 ZI.mono om3 (fun B' hle'=>⟨(hle43.trans hle45).trans hle',t1⟩) (fun B46 hle46 hr46=>?_))⟩
 obtain ⟨hu,hf,hi,hr43⟩:=up4 hle46 hu hf hi hr43
 have hr46n:=hr46.len
 refine aT 10 rfl (ZO fun D B L hI=>Zak (parts:=[(0,_),(1,_),(2,_),(3,_)]) [_,_,_,_,_] [_,_,_,_,_] rfl rfl ZgT Zce rfl rfl rfl r4) (h:=Zad 12 kr rfl kr kr kr (ZM [_,_,_,_,_] 3 [_,_,_,_,_] rfl rfl Zdh rfl rfl rfl rfl rfl rfl rfl rfl ?_))
 exact Zaj ⟨⟨_,_,_,_,_⟩,⟨0,0,_,_,_,[]⟩⟩ [0,1,4,3] ⟨hr43,rfl,ZN.lit0,hr46⟩ t4 rfl
 refine (Zap rfl rfl Zea rfl (Zar _ _ x.queue _ hi) ?_)
 rintro _ B47 _ hle47 ⟨l47,a47,c47,rfl,rfl,hv47⟩
 obtain ⟨hu,hf,hi,hr43⟩:=up4 hle47 hu hf hi hr43
 replace hv47:=hv47.mono ZI.mono Kn.less_le
 refine ⟨⟨(hle43.trans hle47),t1⟩,(ZaJ 4 rfl hv47 ZI.mono om3 (fun B' hle'=>⟨(hle43.trans hle47).trans hle',t1⟩) (fun B48 hle48 hr48=>?_))⟩
 obtain ⟨hu,hf,hi,hr43⟩:=up4 hle48 hu hf hi hr43
 have hr48n:=hr48.len
 refine ZA 6 kr rfl kr (ZJ (parts:=[]) [] rfl rfl Tryz.underlying24 Zb0 Zf6 rfl rfl rfl rfl rfl (fun b49=>?_))
 refine ⟨⟨((hle43.trans hle47).trans hle48),t1⟩,(aT 10 rfl (ZO fun D B L hI=>Zak (parts:=[(0,_),(1,_),(2,_),(3,_)]) [_,_,_,_,_] [_,_,_,_,_] rfl rfl ZgT Zce rfl rfl rfl r4) (h:=Zad 12 kr rfl kr kr kr (ZM [_,_,_,_,_] 3 [_,_,_,_,_] rfl rfl Zdh rfl rfl rfl rfl rfl rfl rfl rfl ?_)))⟩
 exact Zaj ⟨⟨_,_,_,_,_⟩,⟨0,0,_,_,_,[]⟩⟩ [0,1,5,3] ⟨hr43,rfl,ZN.lit0,hr48⟩ t4 rfl
 refine (ZJ (parts:=[]) [] rfl rfl Tryz.underlying24 Zb0 Zf6 rfl rfl rfl rfl rfl (fun b50=>⟨⟨Kn.le.refl _,t1⟩,(ZA 5 kr rfl kr (Zch (R:=Zs) 2 rfl (ZN.lit0 (R:=Zs)) rfl rfl rfl ZnY Zoa rfl rfl rfl hu.rows Zs.one rfl om (fun l51 p51 c51 hv51=>?_)))⟩))
 refine ⟨⟨Kn.le.refl _,t1⟩,(ZaJ 2 rfl hv51 Zs.mono om3 (fun B' hle'=>⟨hle',t1⟩) (fun B52 hle52 hr52=>?_))⟩
 obtain ⟨hu,hf,hi⟩:=up3 hle52 hu hf hi
 have hr52n:=hr52.len
 refine ZA 9 kr rfl kr (Zap rfl rfl Zea rfl (Zar _ _ x.queue _ hi) ?_)
 rintro _ B53 _ hle53 ⟨l53,a53,c53,rfl,rfl,hv53⟩
 obtain ⟨hu,hf,hi,hr52⟩:=up4 hle53 hu hf hi hr52
 replace hv53:=hv53.mono ZI.mono Kn.less_le
 refine ⟨⟨(hle52.trans hle53),t1⟩,(ZaJ 5 rfl hv53 ZI.mono om3 (fun B' hle'=>⟨(hle52.trans hle53).trans hle',t1⟩) (fun B54 hle54 hr54=>?_))⟩
 obtain ⟨hu,hf,hi,hr52⟩:=up4 hle54 hu hf hi hr52
 have hr54n:=hr54.len
 refine aT 10 rfl (ZO fun D B L hI=>Zak (parts:=[(0,_),(1,_),(2,_),(3,_)]) [_,_,_,_,_] [_,_,_,_,_] rfl rfl ZgT Zce rfl rfl rfl r4) (h:=Zad 12 kr rfl kr kr kr (ZM [_,_,_,_,_] 3 [_,_,_,_,_] rfl rfl Zdh rfl rfl rfl rfl rfl rfl rfl rfl ?_))
 exact Zaj ⟨⟨_,_,_,_,_⟩,⟨0,0,_,_,_,[]⟩⟩ [0,1,4,3] ⟨hr52,rfl,ZN.lit0,hr54⟩ t4 rfl
 refine (ZJ (parts:=[]) [] rfl rfl Tryz.underlying24 Zb0 Zf6 rfl rfl rfl rfl rfl (fun b55=>⟨⟨Kn.le.refl _,t1⟩,(ZaE [2,11] kr kr kr ⟨?_,?_⟩)⟩))
 refine (ZJ (parts:=[]) [] rfl rfl Tryz.underlying23 Zbh ZdS rfl rfl rfl rfl rfl (fun b56=>⟨⟨Kn.le.refl _,t1⟩,(ZaE [5,11] kr kr kr ⟨?_,?_⟩)⟩))
 refine (Zch (R:=Zs) 3 rfl (ZN.lit0 (R:=Zs)) rfl rfl rfl ZnY Zoa rfl rfl rfl hu.rows Zs.one rfl om (fun l57 p57 c57 hv57=>?_))
 refine ⟨⟨Kn.le.refl _,t1⟩,(ZaJ 3 rfl hv57 Zs.mono om3 (fun B' hle'=>⟨hle',t1⟩) (fun B58 hle58 hr58=>?_))⟩
 obtain ⟨hu,hf,hi⟩:=up3 hle58 hu hf hi
 have hr58n:=hr58.len
 refine ZaE [9,11] kr kr kr ⟨?_,?_⟩
 refine (Zap rfl rfl Zea rfl (Zar _ _ x.queue _ hi) ?_)
 rintro _ B59 _ hle59 ⟨l59,a59,c59,rfl,rfl,hv59⟩
 obtain ⟨hu,hf,hi,hr58⟩:=up4 hle59 hu hf hi hr58
 replace hv59:=hv59.mono ZI.mono Kn.less_le
 refine ⟨⟨(hle58.trans hle59),t1⟩,(ZaJ 4 rfl hv59 ZI.mono om3 (fun B' hle'=>⟨(hle58.trans hle59).trans hle',t1⟩) (fun B60 hle60 hr60=>?_))⟩
 obtain ⟨hu,hf,hi,hr58⟩:=up4 hle60 hu hf hi hr58
 have hr60n:=hr60.len
 refine aT 10 rfl (ZO fun D B L hI=>Zak (parts:=[(0,_),(1,_),(2,_),(3,_)]) [_,_,_,_,_] [_,_,_,_,_] rfl rfl ZgT Zce rfl rfl rfl r4) (h:=ZA 11 kr rfl kr (Zav (l:=[_,_,_,_,_]) rfl rfl Zce rfl (fun b61=>?_)))
 refine ⟨⟨((hle58.trans hle59).trans hle60),t1⟩,(Zad 12 kr rfl kr kr kr (ZM [_,_,_,_,_] 5 [_,_,_,_,_] rfl rfl Zdh rfl rfl rfl rfl rfl rfl rfl rfl ?_))⟩
 exact Zaj ⟨⟨_,_,_,_,_⟩,⟨0,0,_,_,_,[]⟩⟩ [0,1,2,5] ⟨hr58,rfl,ZN.lit0,hr60⟩ t4 rfl
 refine (Zav (l:=[_,_,_,_,_]) rfl rfl Zce rfl (fun b62=>⟨⟨hle58,t1⟩,(ZA 9 kr rfl kr (Zap rfl rfl Zea rfl (Zar _ _ x.queue _ hi) ?_))⟩))
 rintro _ B63 _ hle63 ⟨l63,a63,c63,rfl,rfl,hv63⟩
 obtain ⟨hu,hf,hi,hr58⟩:=up4 hle63 hu hf hi hr58
 replace hv63:=hv63.mono ZI.mono Kn.less_le
 refine ⟨⟨(hle58.trans hle63),t1⟩,(ZaJ 5 rfl hv63 ZI.mono om3 (fun B' hle'=>⟨(hle58.trans hle63).trans hle',t1⟩) (fun B64 hle64 hr64=>?_))⟩
 obtain ⟨hu,hf,hi,hr58⟩:=up4 hle64 hu hf hi hr58
 have hr64n:=hr64.len
 refine aT 10 rfl (ZO fun D B L hI=>Zak (parts:=[(0,_),(1,_),(2,_),(3,_)]) [_,_,_,_,_] [_,_,_,_,_] rfl rfl ZgT Zce rfl rfl rfl r4) (h:=Zad 12 kr rfl kr kr kr (ZM [_,_,_,_,_] 4 [_,_,_,_,_] rfl rfl Zdh rfl rfl rfl rfl rfl rfl rfl rfl ?_))
 exact Zaj ⟨⟨_,_,_,_,_⟩,⟨0,0,_,_,_,[]⟩⟩ [0,1,2,4] ⟨hr58,rfl,ZN.lit0,hr64⟩ t4 rfl
 refine (Zav (l:=[_,_,_,_,_]) rfl rfl Zce rfl (fun b65=>⟨⟨Kn.le.refl _,t1⟩,(ZA 5 kr rfl kr (Zch (R:=Zs) 3 rfl (ZN.lit0 (R:=Zs)) rfl rfl rfl ZnY Zoa rfl rfl rfl hu.rows Zs.one rfl om (fun l66 p66 c66 hv66=>?_)))⟩))
 refine ⟨⟨Kn.le.refl _,t1⟩,(ZaJ 3 rfl hv66 Zs.mono om3 (fun B' hle'=>⟨hle',t1⟩) (fun B67 hle67 hr67=>?_))⟩
 obtain ⟨hu,hf,hi⟩:=up3 hle67 hu hf hi
 have hr67n:=hr67.len
 refine ZA 9 kr rfl kr (Zap rfl rfl Zea rfl (Zar _ _ x.queue _ hi) ?_)
 rintro _ B68 _ hle68 ⟨l68,a68,c68,rfl,rfl,hv68⟩
 obtain ⟨hu,hf,hi,hr67⟩:=up4 hle68 hu hf hi hr67
 replace hv68:=hv68.mono ZI.mono Kn.less_le
 refine ⟨⟨(hle67.trans hle68),t1⟩,(ZaJ 5 rfl hv68 ZI.mono om3 (fun B' hle'=>⟨(hle67.trans hle68).trans hle',t1⟩) (fun B69 hle69 hr69=>?_))⟩
 obtain ⟨hu,hf,hi,hr67⟩:=up4 hle69 hu hf hi hr67
 have hr69n:=hr69.len
 refine aT 10 rfl (ZO fun D B L hI=>Zak (parts:=[(0,_),(1,_),(2,_),(3,_)]) [_,_,_,_,_] [_,_,_,_,_] rfl rfl ZgT Zce rfl rfl rfl r4) (h:=Zad 12 kr rfl kr kr kr (ZM [_,_,_,_,_] 4 [_,_,_,_,_] rfl rfl Zdh rfl rfl rfl rfl rfl rfl rfl rfl ?_))
 exact Zaj ⟨⟨_,_,_,_,_⟩,⟨0,0,_,_,_,[]⟩⟩ [0,1,2,4] ⟨hr67,rfl,ZN.lit0,hr69⟩ t4 rfl
 refine (Zav (l:=[_,_,_,_,_]) rfl rfl Zce rfl (fun b70=>⟨⟨Kn.le.refl _,t1⟩,(ZA 2 kr rfl kr (ZJ (parts:=[]) [] rfl rfl Tryz.underlying23 Zbh ZdS rfl rfl rfl rfl rfl (fun b71=>?_)))⟩))
 refine ⟨⟨Kn.le.refl _,t1⟩,(ZA 5 kr rfl kr (Zch (R:=Zs) 4 rfl (ZN.lit0 (R:=Zs)) rfl rfl rfl ZnY Zoa rfl rfl rfl hu.rows Zs.one rfl om (fun l72 p72 c72 hv72=>?_)))⟩
 refine ⟨⟨Kn.le.refl _,t1⟩,(ZaJ 4 rfl hv72 Zs.mono om3 (fun B' hle'=>⟨hle',t1⟩) (fun B73 hle73 hr73=>?_))⟩
 obtain ⟨hu,hf,hi⟩:=up3 hle73 hu hf hi
 have hr73n:=hr73.len
 refine ZA 9 kr rfl kr (Zap rfl rfl Zea rfl (Zar _ _ x.queue _ hi) ?_)
 rintro _ B74 _ hle74 ⟨l74,a74,c74,rfl,rfl,hv74⟩
 obtain ⟨hu,hf,hi,hr73⟩:=up4 hle74 hu hf hi hr73
 replace hv74:=hv74.mono ZI.mono Kn.less_le
 refine ⟨⟨(hle73.trans hle74),t1⟩,(ZaJ 5 rfl hv74 ZI.mono om3 (fun B' hle'=>⟨(hle73.trans hle74).trans hle',t1⟩) (fun B75 hle75 hr75=>?_))⟩
 obtain ⟨hu,hf,hi,hr73⟩:=up4 hle75 hu hf hi hr73
 have hr75n:=hr75.len
 refine aT 10 rfl (ZO fun D B L hI=>Zak (parts:=[(0,_),(1,_),(2,_),(3,_)]) [_,_,_,_,_] [_,_,_,_,_] rfl rfl ZgT Zce rfl rfl rfl r4) (h:=Zad 12 kr rfl kr kr kr (ZM [_,_,_,_,_] 3 [_,_,_,_,_] rfl rfl Zdh rfl rfl rfl rfl rfl rfl rfl rfl ?_))
 exact Zaj ⟨⟨_,_,_,_,_⟩,⟨0,0,_,_,_,[]⟩⟩ [0,1,2,3] ⟨hr73,rfl,ZN.lit0,hr75⟩ t4 rfl
 refine (Zav (l:=[_,_,_,_,_]) rfl rfl Zce rfl (fun b76=>⟨⟨Kn.le.refl _,t1⟩,(ZaE [2,6] kr kr kr ⟨?_,?_⟩)⟩))
 refine (ZJ (parts:=[]) [] rfl rfl Tryz.underlying23 Zbh ZdS rfl rfl rfl rfl rfl (fun b77=>⟨⟨Kn.le.refl _,t1⟩,(ZaE [5,6] kr kr kr ⟨?_,?_⟩)⟩))
 refine (Zch (R:=Zs) 3 rfl (ZN.lit0 (R:=Zs)) rfl rfl rfl ZnY Zoa rfl rfl rfl hu.rows Zs.one rfl om (fun l78 p78 c78 hv78=>?_))
 refine ⟨⟨Kn.le.refl _,t1⟩,(ZaJ 3 rfl hv78 Zs.mono om3 (fun B' hle'=>⟨hle',t1⟩) (fun B79 hle79 hr79=>?_))⟩
 obtain ⟨hu,hf,hi⟩:=up3 hle79 hu hf hi
 have hr79n:=hr79.len
 refine ZaE [6,9] kr kr kr ⟨?_,?_⟩
 refine (ZJ (parts:=[]) [] rfl rfl Tryz.underlying24 Zb0 Zf6 rfl rfl rfl rfl rfl (fun b80=>⟨⟨hle79,t1⟩,(ZA 9 kr rfl kr (Zap rfl rfl Zea rfl (Zar _ _ x.queue _ hi) ?_))⟩))
 rintro _ B81 _ hle81 ⟨l81,a81,c81,rfl,rfl,hv81⟩
 obtain ⟨hu,hf,hi,hr79⟩:=up4 hle81 hu hf hi hr79
 replace hv81:=hv81.mono ZI.mono Kn.less_le
 refine ⟨⟨(hle79.trans hle81),t1⟩,(ZaJ 5 rfl hv81 ZI.mono om3 (fun B' hle'=>⟨(hle79.trans hle81).trans hle',t1⟩) (fun B82 hle82 hr82=>?_))⟩
 obtain ⟨hu,hf,hi,hr79⟩:=up4 hle82 hu hf hi hr79
 have hr82n:=hr82.len
 refine aT 10 rfl (ZO fun D B L hI=>Zak (parts:=[(0,_),(1,_),(2,_),(3,_)]) [_,_,_,_,_] [_,_,_,_,_] rfl rfl ZgT Zce rfl rfl rfl r4) (h:=Zad 12 kr rfl kr kr kr (ZM [_,_,_,_,_] 2 [_,_,_,_,_] rfl rfl Zdh rfl rfl rfl rfl rfl rfl rfl rfl ?_))
 exact Zaj ⟨⟨_,_,_,_,_⟩,⟨0,0,_,_,_,[]⟩⟩ [0,1,4,2] ⟨hr79,rfl,ZN.lit0,hr82⟩ t4 rfl
 refine (Zap rfl rfl Zea rfl (Zar _ _ x.queue _ hi) ?_)
 rintro _ B83 _ hle83 ⟨l83,a83,c83,rfl,rfl,hv83⟩
 obtain ⟨hu,hf,hi,hr79⟩:=up4 hle83 hu hf hi hr79
 replace hv83:=hv83.mono ZI.mono Kn.less_le
 refine ⟨⟨(hle79.trans hle83),t1⟩,(ZaJ 4 rfl hv83 ZI.mono om3 (fun B' hle'=>⟨(hle79.trans hle83).trans hle',t1⟩) (fun B84 hle84 hr84=>?_))⟩
 obtain ⟨hu,hf,hi,hr79⟩:=up4 hle84 hu hf hi hr79
 have hr84n:=hr84.len
 refine ZA 6 kr rfl kr (ZJ (parts:=[]) [] rfl rfl Tryz.underlying24 Zb0 Zf6 rfl rfl rfl rfl rfl (fun b85=>?_))
 refine ⟨⟨((hle79.trans hle83).trans hle84),t1⟩,(aT 10 rfl (ZO fun D B L hI=>Zak (parts:=[(0,_),(1,_),(2,_),(3,_)]) [_,_,_,_,_] [_,_,_,_,_] rfl rfl ZgT Zce rfl rfl rfl r4) (h:=Zad 12 kr rfl kr kr kr (ZM [_,_,_,_,_] 2 [_,_,_,_,_] rfl rfl Zdh rfl rfl rfl rfl rfl rfl rfl rfl ?_)))⟩
 exact Zaj ⟨⟨_,_,_,_,_⟩,⟨0,0,_,_,_,[]⟩⟩ [0,1,5,2] ⟨hr79,rfl,ZN.lit0,hr84⟩ t4 rfl
 refine (ZJ (parts:=[]) [] rfl rfl Tryz.underlying24 Zb0 Zf6 rfl rfl rfl rfl rfl (fun b86=>⟨⟨Kn.le.refl _,t1⟩,(ZA 5 kr rfl kr (Zch (R:=Zs) 3 rfl (ZN.lit0 (R:=Zs)) rfl rfl rfl ZnY Zoa rfl rfl rfl hu.rows Zs.one rfl om (fun l87 p87 c87 hv87=>?_)))⟩))
 refine ⟨⟨Kn.le.refl _,t1⟩,(ZaJ 3 rfl hv87 Zs.mono om3 (fun B' hle'=>⟨hle',t1⟩) (fun B88 hle88 hr88=>?_))⟩
 obtain ⟨hu,hf,hi⟩:=up3 hle88 hu hf hi
 have hr88n:=hr88.len
 refine ZA 9 kr rfl kr (Zap rfl rfl Zea rfl (Zar _ _ x.queue _ hi) ?_)
 rintro _ B89 _ hle89 ⟨l89,a89,c89,rfl,rfl,hv89⟩
 obtain ⟨hu,hf,hi,hr88⟩:=up4 hle89 hu hf hi hr88
 replace hv89:=hv89.mono ZI.mono Kn.less_le
 refine ⟨⟨(hle88.trans hle89),t1⟩,(ZaJ 5 rfl hv89 ZI.mono om3 (fun B' hle'=>⟨(hle88.trans hle89).trans hle',t1⟩) (fun B90 hle90 hr90=>?_))⟩
 obtain ⟨hu,hf,hi,hr88⟩:=up4 hle90 hu hf hi hr88
 have hr90n:=hr90.len
 refine aT 10 rfl (ZO fun D B L hI=>Zak (parts:=[(0,_),(1,_),(2,_),(3,_)]) [_,_,_,_,_] [_,_,_,_,_] rfl rfl ZgT Zce rfl rfl rfl r4) (h:=Zad 12 kr rfl kr kr kr (ZM [_,_,_,_,_] 2 [_,_,_,_,_] rfl rfl Zdh rfl rfl rfl rfl rfl rfl rfl rfl ?_))
 exact Zaj ⟨⟨_,_,_,_,_⟩,⟨0,0,_,_,_,[]⟩⟩ [0,1,4,2] ⟨hr88,rfl,ZN.lit0,hr90⟩ t4 rfl
 refine (ZJ (parts:=[]) [] rfl rfl Tryz.underlying24 Zb0 Zf6 rfl rfl rfl rfl rfl (fun b91=>⟨⟨Kn.le.refl _,t1⟩,(ZA 2 kr rfl kr (ZJ (parts:=[]) [] rfl rfl Tryz.underlying23 Zbh ZdS rfl rfl rfl rfl rfl (fun b92=>?_)))⟩))
 refine ⟨⟨Kn.le.refl _,t1⟩,(ZA 5 kr rfl kr (Zch (R:=Zs) 4 rfl (ZN.lit0 (R:=Zs)) rfl rfl rfl ZnY Zoa rfl rfl rfl hu.rows Zs.one rfl om (fun l93 p93 c93 hv93=>?_)))⟩
 refine ⟨⟨Kn.le.refl _,t1⟩,(ZaJ 4 rfl hv93 Zs.mono om3 (fun B' hle'=>⟨hle',t1⟩) (fun B94 hle94 hr94=>?_))⟩
 obtain ⟨hf,hi⟩:=up2 hle94 hf hi
 have hr94n:=hr94.len
 refine ZA 9 kr rfl kr (Zap rfl rfl Zea rfl (Zar _ _ x.queue _ hi) ?_)
 rintro _ B95 _ hle95 ⟨l95,a95,c95,rfl,rfl,hv95⟩
 obtain ⟨hf,hr94⟩:=up2 hle95 hf hr94
 replace hv95:=hv95.mono ZI.mono Kn.less_le
 refine ⟨⟨(hle94.trans hle95),t1⟩,(ZaJ 5 rfl hv95 ZI.mono om3 (fun B' hle'=>⟨(hle94.trans hle95).trans hle',t1⟩) (fun B96 hle96 hr96=>?_))⟩
 obtain ⟨hf,hr94⟩:=up2 hle96 hf hr94
 have hr96n:=hr96.len
 refine aT 10 rfl (ZO fun D B L hI=>Zak (parts:=[(0,_),(1,_),(2,_),(3,_)]) [_,_,_,_,_] [_,_,_,_,_] rfl rfl ZgT Zce rfl rfl rfl r4) (h:=Zad 12 kr rfl kr kr kr (ZM [_,_,_,_,_] 2 [_,_,_,_,_] rfl rfl Zdh rfl rfl rfl rfl rfl rfl rfl rfl ?_))
 exact Zaj ⟨⟨_,_,_,_,_⟩,⟨0,0,_,_,_,[]⟩⟩ [0,1,3,2] ⟨hr94,rfl,ZN.lit0,hr96⟩ t4 rfl
 obtain ⟨hou,hoe,hv0,hoi⟩:=hF
 replace hf:=up1 hle3 hf
 refine ZC [(0,_),(1,_),(2,_),(3,_)] [_,_,_,_] t4 rfl (Zc (Za (xA (h:=Zh (Zz (α:=Gh DFolder) [0,1,2,3] (fun g=>[(4,.int .i64 g.k)]) [2,3] (fun g=>[g.l,ZK o.1.b [str x.domain,.slice o.1.q1 x.users.length o.1.c1,.slice g.a g.xs.length g.c,.int .i64 x.queue.next,.slice o.1.q3 x.queue.items.length o.1.c3] 29]) (fun g Bx=>g.k≤x.folders.length∧g.xs=x.folders.take g.k∧ZN Bx g.l g.a g.c 96 5 Zu g.xs) (fun g=>x.folders.length - g.k) ⟨0,0,_,_,_,_⟩ t1 rfl (⟨Nat.zero_le _,by rw [hoe];rfl,hv0⟩) (fun g B97 hle97 hI=>?_))))))
 obtain ⟨hk,hxs,hv⟩:=hI
 have hxn:=congrArg List.length hxs
 rw [List.length_take] at hxn
 obtain ⟨hf,hou,hoi⟩:=up3 hle97 hf hou hoi
 refine ZC [(0,_),(1,_),(2,_),(3,_),(4,_)] [_,_,_,_] t5 rfl (Zc (Za (xM (h:=xW Zay (h:=x1 ZeO 0 (h:=xV Tryz.underlying24 (h:=ZF (h:=Zb rfl (fun g1=>?_) (fun g1=>?_)))))))))
 try simp only [sQ,ne_eq] at g1
 refine wSk (Zc (Zh (Z2 (keeps _ [0,3] _) mo kr ⟨Kn.le.refl _,ZaY.refl _ _⟩ (fun _ _=>?_))))
 refine aW 0 rfl Zay (h:=aT 1 rfl (ZO fun D B L hI=>Zm rfl rfl ZeO rfl (atL 3 (hI.2.2.1.trans rfl) rfl rfl) r4) (h:=aW 2 rfl Zay (h:=aT 3 rfl (ZO fun D B L hI=>Zm rfl rfl ZeO rfl (atL 0 (hI.2.1.trans rfl) rfl rfl) r4) (h:=aM 4 rfl (h:=?_)))))
 obtain ⟨w,hw⟩:=ZY (xs:=x.folders) (i:=g.k) om
 obtain ⟨bb99,oo99,rfl⟩:=hf.base hw
 obtain ⟨_,⟨qg100,cg100,qm100,cm100,rfl,hg100,hm100,hb100,hb100b⟩,hc100⟩:=hf.elem hw
 have hg100n:=hg100.len
 have hm100n:=hm100.len
 have hm100s:=Zaq hm100
 refine aIx 5 rfl Tryz.underlying24 Zb0 (h:=aT 6 rfl (ZO fun D B L hI=>Z0 [_,_,_,_,_] rfl rfl ZhZ rfl (Zlh (hc100.mono hI.1) 0 rfl rfl) r4) (h:=ZA 7 kr rfl kr (Zap rfl rfl ZyX rfl (ZlF _ _ _ _ w _ hg100 hm100) ?_)))
 rintro _ B101 _ hle101 ⟨rfl,l101,a101,c101,l101b,a101b,c101b,rfl,rfl,hs101,hs101b⟩
 refine ⟨⟨Kn.le.refl _,t2⟩,(ZaJ 4 rfl hs101 Z5.mono om3 (fun B' hle'=>⟨hle',t2⟩) (fun B102 hle102 hr102=>?_))⟩
 replace hv:=hv.mono Zu.mono hle102
 replace hou:=hou.mono Zs.mono hle102
 replace hoi:=hoi.mono ZI.mono hle102
 replace hs101b:=hs101b.mono Z6.mono hle102
 have hr102n:=hr102.len
 refine ZaJ 5 rfl hs101b Z6.mono (by first | omega | decide | (simp;done) | (simp;omega)) (fun B' hle'=>⟨hle102.trans hle',⟨rfl,rfl,trivial⟩⟩) (fun B103 hle103 hr103=>?_)
 replace hr102:=up1 hle103 hr102
 replace hv:=hv.mono Zu.mono hle103
 obtain ⟨hou,hoi⟩:=up2 hle103 hou hoi
 have hr103n:=hr103.len
 refine ZA 8 kr rfl kr (ZJ (parts:=[(0,_)]) [_,_,_,_,_] rfl rfl Tryz.underlying24 Zb0 Zf6 rfl rfl rfl rfl rfl (fun b104=>?_))
 refine ⟨⟨(hle102.trans hle103),t2⟩,(ZA 9 kr rfl kr (Zhc (z:=⟨w.owner,w.name,w.grants,w.next,w.mail⟩) (R:=Zu) 2 rfl hv rfl rfl rfl ZwB Zzj rfl rfl (ZcG.box 6 rfl) rfl rfl (⟨_,_,_,_,rfl,hr102,hr103,by first | assumption | omega | (simp;done) | (simp;omega),by first | assumption | omega | (simp;done) | (simp;omega)⟩) om (fun l105 p105 c105 hv105=>?_)))⟩
 refine ⟨⟨(hle102.trans hle103),t2⟩,(aW 10 rfl Zay (h:=Zad 11 kr rfl kr kr kr (ZM [_] 3 [_,_,_,_,_] rfl rfl Zzf rfl rfl rfl rfl rfl rfl rfl rfl ?_)))⟩
 refine ZP (Zo (Zf (xM (h:=xD (h:=xA (h:=?_))))))
 exact ZD ⟨g.k+1,0,l105,p105,c105,(g.xs ++ [⟨w.owner,w.name,w.grants,w.next,w.mail⟩])⟩ [0,1,2,3] so2 ⟨so,by simp only [];rw [ZaV hw,hxs],hv105⟩ t5 rfl
 try simp only [sQ,ne_eq] at g1
 have hxe:g.xs=x.folders:=by rw [hxs];exact List.take_of_length_le oz
 refine ZE (ZV (ZH (Zw (Zo (Za (xL [_,_,_,_,_] Zc6 3 (h:=xS [_,_,_,_,_] 1 [_,_,_,_,_] Zdh (h:=tL4 (Ze ?_)))))))))
 exact ZeC .ret (.inl rfl) [_] [2] rfl ⟨⟨_,rfl,.inr ⟨[_,_,_,_,_],Zc6,ZbT 1 rfl rfl rfl,rfl⟩⟩,trivial⟩ ⟨_,_,_,_,_,_,_,rfl,by rw [← hxe];rfl,hou,hxe ▸ hv,hoi⟩

theorem ZoR (q:Option Addr) (cp:Nat) (x:DBox) (B:Kn) (hx:SlK B q cp 3 Z6 x.mail):Zv (pj J) 67 [.agg #[.int .i64 x.next,.slice q x.mail.length cp]] B [] (fun v B' Ls=>∃l a c l' a' c',Ls=[l,l']∧v = .tuple #[.agg #[.int .i64 (expunge x).1.next,.slice a (expunge x).1.mail.length c],.slice a' (expunge x).2.length c']∧ZN B' l a c 99 3 Z6 (expunge x).1.mail∧ZN B' l' a' c' 3 1 Zag (expunge x).2):=by
 refine cB 52 Tryz.func67 (h:=?_)
 have hxn:=hx.len
 refine Za (xBx [_,_] (h:=fun b1=>xAl [_,_] Zm4 (h:=fun b2=>xA (h:=tL2 (Zc (Za (xL [_,_] ZgV 0 (h:=xR Zwi rfl (ZjV _ _ (⟨x.next,x.mail⟩:DBox) _ hx) (h:=xN (h:=Zb rfl (fun g1=>?_) (fun g1=>?_)))))))))))
 try simp only [sQ,ne_eq] at g1
 refine Za (xB [] [_,_] [_,_] ZvC Zm4 (h:=Zo9 (xBs [] [] Tryz.underlying65 sz3 zo3 (h:=fun b4=>?_))))
 rw [expunge,if_neg (by simp [g1])]
 refine xS [_,_] 1 [_,_] Zmr (h:=xA (h:=tL4 (Ze (Zn ?_))))
 exact ZeC .ret (.inl rfl) [_,_] [2,3] rfl ⟨⟨_,rfl,.inr ⟨[_,_],ZgV,ZbT 1 rfl rfl rfl,rfl⟩⟩,rfl,trivial⟩ ⟨_,none,0,_,_,_,rfl,rfl,ZN.nil,ZN.lit0⟩
 try simp only [sQ,ne_eq] at g1
 have hok:ZcF x=true:=by simpa using g1
 refine wSk (Za (xW ZeA (h:=x1 lk3 0 (h:=xBs [] [] Tryz.underlying91 Zf7 Zn9 (h:=fun b5=>xB [(0,_),(1,_)] [_,_] [_,_] ZvC Zm4 (h:=xAl [_,_] Zm4 (h:=fun b6=>xS [_,_] 3 [_,_] Zmr (h:=tL4 (Za (xBs [] [] Tryz.underlying65 sz3 zo3 (h:=fun b7=>xA (h:=tL5 (Zc (Za (xA (h:=Zh (Zz (α:=GEx) [0,1,2,3,4,9] (fun g=>[(5,.slice g.n.a g.n.xs.length g.n.c),(6,.int .i64 g.k)]) [2,3,4] (fun g=>[g.m.l,ZK b6 [.int .i64 x.next,.slice g.m.a g.m.xs.length g.m.c] 93,g.n.l]) (fun g Bx=>Bx=B∧g.k≤x.mail.length∧g.m.xs=Zbi (x.mail.take g.k)∧g.n.xs=(Zex (x.mail.take g.k)).2∧g.n.xs.length≤g.k∧ZN Bx g.m.l g.m.a g.m.c 99 3 Z6 g.m.xs∧ZN Bx g.n.l g.n.a g.n.c 3 1 Zag g.n.xs) (fun g=>x.mail.length - g.k) ⟨0,⟨0,0,_,_,_,[]⟩,⟨0,0,_,_,_,[]⟩⟩ t2 rfl (⟨rfl,Nat.zero_le _,rfl,rfl,Nat.le_refl _,.lit0,.lit0⟩) (fun g B8 hle8 hI=>?_))))))))))))))))))
 obtain ⟨rfl,hk,hm1,hn1,hnl,hv,hw⟩:=hI
 have hml:g.m.xs.length≤g.k:=by rw [hm1];exact ZrZ _ _
 refine ZC [(0,_),(1,_),(2,_),(3,_),(4,_),(5,_),(6,_),(9,_)] [_,_,_,_,_] t8 rfl (Zc (Za (xM (h:=xW Za9 (h:=x1 Zh0 0 (h:=xV Tryz.underlying91 (h:=ZF (h:=Zb rfl (fun g2=>?_) (fun g2=>?_)))))))))
 try simp only [sQ,ne_eq] at g2
 refine wSk (Zc (Zh (Za (xW Za9 (h:=x1 Zh0 0 (h:=xM (h:=?_)))))))
 obtain ⟨m,hm⟩:=ZY (xs:=x.mail) (i:=g.k) om
 obtain ⟨bb10,oo10,rfl⟩:=hx.base hm
 obtain ⟨_,⟨rfl,hb11⟩,hc11⟩:=hx.elem hm
 refine xIx Tryz.underlying91 Zf7 (h:=xW Zf0 (h:=y1 lk3 hc11 1 (h:=Zk (Zna (a:=m.flags) (b:=8) (r:=Int.tdiv m.flags 8) rfl rfl rfl rfl oz (Zmz (ZhR hok (List.mem_of_getElem? hm)).1 (Int.le_trans (ZhR hok (List.mem_of_getElem? hm)).2 (by decide)) (by decide)) ?_))))
 refine Zk (Zoh (a:=(Int.tdiv m.flags 8)) (b:=2) (r:=Int.tmod (Int.tdiv m.flags 8) 2) rfl rfl rfl rfl (by decide) rfl ?_)
 refine ZjC (h:=Zb rfl (fun g3=>?_) (fun g3=>?_))
 try simp only [sQ,ne_eq] at g3
 refine Zf (xM (h:=xW Za9 (h:=x1 Zh0 3 (h:=xV Tryz.underlying91 (h:=xD (h:=xBs [(0,_)] [_] Tryz.underlying65 sz3 zo3 (h:=fun b12=>Zk (Zhc (z:=((g.m.xs.length:Int)+1)) (R:=Zag) 4 rfl hw rfl rfl rfl Zzp Zzh rfl rfl (ZcG.box 5 rfl) rfl rfl (rfl) om (fun l13 p13 c13 hv13=>?_)))))))))
 refine xA (h:=ZP (Zo (Zf (xM (h:=xD (h:=xA (h:=?_)))))))
 exact ZD ⟨g.k+1,⟨0,0,g.m.l,g.m.a,g.m.c,g.m.xs⟩,⟨0,0,l13,p13,c13,(g.n.xs ++ [((g.m.xs.length:Int)+1)])⟩⟩ [0,1,2,3,4] so2 ⟨rfl,so,by simp only [];rw [Zt9 hm (by simpa [Zjn] using g3),hm1],by simp only [];rw [Ziu hm,ZbJ,if_pos (by simpa [Zjn] using g3),← hn1,Zkw,← hm1];rfl,by simp;omega,hv,hv13⟩ t8 rfl
 try simp only [sQ,ne_eq] at g3
 refine Z2 (keeps _ [0,3] _) mo kr ⟨Kn.le.refl _,ZaY.refl _ _⟩ (fun _ _=>?_)
 refine aW 0 rfl Za9 (h:=aT 1 rfl (ZO fun D B L hI=>Zm rfl rfl Zh0 rfl (atL 3 (hI.2.2.1.trans rfl) rfl rfl) r4) (h:=aW 2 rfl Za9 (h:=aT 3 rfl (ZO fun D B L hI=>Zm rfl rfl Zh0 rfl (atL 0 (hI.2.1.trans rfl) rfl rfl) r4) (h:=aM 4 rfl (h:=aIx 5 rfl Tryz.underlying91 Zf7 (h:=aT 6 rfl (ZO fun D B L hI=>Z0 [_,_,_] rfl rfl ZmI rfl (Zlh (hc11.mono hI.1) 0 rfl rfl) r4) (h:=ZA 7 kr rfl kr (ZJ (parts:=[(0,_)]) [_,_,_] rfl rfl Tryz.underlying91 Zf7 Zn9 rfl rfl rfl rfl rfl (fun b14=>?_)))))))))
 refine ⟨⟨Kn.le.refl _,t2⟩,(ZA 8 kr rfl kr (Zhc (z:=⟨m.uid,m.flags,m.text⟩) (R:=Z6) 2 rfl hv rfl rfl rfl ZuZ Zwv rfl rfl (ZcG.box 5 rfl) rfl rfl (⟨rfl,by first | assumption | omega | (simp;done) | (simp;omega)⟩) om (fun l15 p15 c15 hv15=>?_)))⟩
 refine ⟨⟨Kn.le.refl _,t2⟩,(aW 9 rfl Za9 (h:=Zad 10 kr rfl kr kr kr (ZM [_] 3 [_,_] rfl rfl Zw7 rfl rfl rfl rfl rfl rfl rfl rfl ?_)))⟩
 refine ZP (Zo (Zf (xM (h:=xD (h:=xA (h:=?_))))))
 exact ZD ⟨g.k+1,⟨0,0,l15,p15,c15,(g.m.xs ++ [⟨m.uid,m.flags,m.text⟩])⟩,⟨0,0,g.n.l,g.n.a,g.n.c,g.n.xs⟩⟩ [0,1,2,3,4] so2 ⟨rfl,so,by simp only [];rw [ZrY hm (by simpa [Zjn] using g3),hm1],by simp only [];rw [Ziu hm,ZbJ,if_neg (by simpa [Zjn] using g3),hn1],so,hv15,hw⟩ t8 rfl
 try simp only [sQ,ne_eq] at g2
 have hmf0:g.m.xs=Zbi x.mail:=by rw [hm1,List.take_of_length_le oz]
 have hnf0:g.n.xs=(Zex x.mail).2:=by rw [hn1,List.take_of_length_le oz]
 rw [expunge,if_pos (by simpa using g1),← hmf0,← hnf0]
 refine ZE (ZV (ZH (Zw (Zo (Za (xL [_,_] ZgV 3 (h:=xM (h:=xS [_,_] 1 [_,_] Zmr (h:=xA (h:=tL5 (Ze ?_)))))))))))
 exact ZeC .ret (.inl rfl) [_,_] [2,4] rfl ⟨⟨_,rfl,.inr ⟨[_,_],ZgV,ZbT 1 rfl rfl rfl,rfl⟩⟩,rfl,trivial⟩ ⟨_,_,_,_,_,_,rfl,rfl,hv,hw⟩

theorem Zt5 (q1 q2 q3:Option Addr) (c1 c2 c3:Nat) (x:DHost) (s:DSess) (hs1:s.user.length≤2000000) (hs2:s.owner.length≤2000000) (hs3:s.name.length≤2000000) (r:Int) (hrr:Zg2 x.folders) (h1:0<r) (B:Kn) (hu:SlK B q1 c1 3 Zs x.users) (hf:SlK B q2 c2 5 Zu x.folders):Zaa (pj J) 51 [.agg #[str x.domain,.slice q1 x.users.length c1,.slice q2 x.folders.length c2,.int .i64 x.queue.next,.slice q3 x.queue.items.length c3],.agg #[str s.user,str s.owner,str s.name],.int .i64 r] B (.tuple #[.int .i64 (atF x s r).1,.int .i64 (atF x s r).2]):=by
 refine cB 32 Tryz.func51 (h:=?_)
 have hun:=hu.len
 have hfn:=hf.len
 have hix:=Zhx (inF s.owner s.name) x.folders
 refine Za (xBx [_,_,_,_,_] (h:=fun b1=>xBx [_,_,_] (h:=fun b2=>xA (h:=xA (h:=tL2 (Za (xL [_,_,_,_,_] Zc6 0 (h:=xW ZpP (h:=x1 lk9 1 (h:=xW ZpO (h:=x1 lk9 1 (h:=xR Zzw rfl (Zkk _ _ _ _ _ _ x s.owner s.name om2 om2 _ hf) (h:=?_)))))))))))))
 refine xA (h:=Za (xL [_,_,_,_,_] Zc6 0 (h:=xW ZmS (h:=x1 lk9 1 (h:=xM (h:=xR Zzx rfl (Zio _ _ _ _ _ _ x s.user (ZbR (inF s.owner s.name) x.folders) 2 oz hrr oz _ hu hf) (h:=?_)))))))
 refine xA (h:=Zc (Za (xM (h:=ZaL (h:=Zb rfl (fun g1=>?_) (fun g1=>?_))))))
 try simp only [sQ,ne_eq] at g1
 refine Za (xM (h:=xM (h:=xA (h:=xA (h:=Ze (Zn ?_))))))
 exact Zql .ret (.inl rfl) [_,_] t2 ⟨by rw [atF,if_pos g1];rfl,rfl,rfl⟩
 try simp only [sQ,ne_eq] at g1
 refine wSk (Za (xM (h:=xL [_,_,_,_,_] Zc6 0 (h:=xW ZmS (h:=x1 lk9 1 (h:=xM (h:=xM (h:=xR Zzx rfl (Zio _ _ _ _ _ _ x s.user (ZbR (inF s.owner s.name) x.folders) r oz hrr oz _ hu hf) (h:=?_)))))))))
 refine xA (h:=xA (h:=Ze ?_))
 exact Zql .ret (.inl rfl) [_,_] t2 ⟨by rw [atF,if_neg (fun h=>h g1)];rfl,rfl,rfl⟩

theorem ZeK (q1 q2 q3:Option Addr) (c1 c2 c3:Nat) (x:DHost) (s:DSess) (hs1:s.user.length≤2000000) (hs2:s.owner.length≤2000000) (hs3:s.name.length≤2000000) (hd:x.domain.length≤2000000) (B:Kn) (hu:SlK B q1 c1 3 Zs x.users) (hf:SlK B q2 c2 5 Zu x.folders) (hi:SlK B q3 c3 4 ZI x.queue.items):Zv (pj J) 25 [.agg #[str x.domain,.slice q1 x.users.length c1,.slice q2 x.folders.length c2,.int .i64 x.queue.next,.slice q3 x.queue.items.length c3],.agg #[str s.user,str s.owner,str s.name]] B [] (fun v B' Ls=>Ls=[]∧∃p1 d1 p2 d2 p3 d3 p4 d4,v = .tuple #[.agg #[str (Zl x s).1.domain,.slice p1 (Zl x s).1.users.length d1,.slice p2 (Zl x s).1.folders.length d2,.int .i64 (Zl x s).1.queue.next,.slice p3 (Zl x s).1.queue.items.length d3],.slice p4 (Zl x s).2.1.length d4,.int .i64 (Zl x s).2.2]∧SlK B' p1 d1 3 Zs (Zl x s).1.users∧SlK B' p2 d2 5 Zu (Zl x s).1.folders∧SlK B' p3 d3 4 ZI (Zl x s).1.queue.items∧SlK B' p4 d4 1 Zag (Zl x s).2.1∧(Zl x s).1.domain.length≤2000000):=by
 refine cB 48 Tryz.func25 (h:=?_)
 have hun:=hu.len
 have hfn:=hf.len
 have hin:=hi.len
 have hix:=Zhx (inF s.owner s.name) x.folders
 refine Za (xBx [_,_,_,_,_] (h:=fun b1=>xBx [_,_,_] (h:=fun b2=>xAl [_,_,_,_,_] Zce (h:=fun b3=>xA (h:=xA (h:=tL3 (Zc (Za (xL [_,_,_,_,_] Zc6 0 (h:=xR ZAp rfl (Znl _ _ _ _ _ _ x om2 _ hu hf hi) (h:=?_)))))))))))
 refine xN (h:=Zb rfl (fun g1=>?_) (fun g1=>?_))
 try simp only [sQ,ne_eq] at g1
 refine Za (xB [] [_,_,_,_,_] [_,_,_,_,_] ZgT Zce (h:=xBs [] [] Tryz.underlying65 sz3 zo3 (h:=fun b5=>Zii 3 rfl (ZN.lit0 (R:=Zag) (w:=1)) Zag.mono om3 (fun B6 hle6 hr6=>?_))))
 obtain ⟨hu,hf,hi⟩:=up3 hle6 hu hf hi
 have hr6n:=hr6.len
 refine xS [_,_,_,_,_] 2 [_,_,_,_,_] Zdh (h:=?_)
 rw [Zl,if_pos g1]
 refine xA (h:=xA (h:=tL4 (Ze (Zn ?_))))
 exact ZeC .ret (.inl rfl) [_,_,_] [] rfl ⟨⟨_,rfl,.inr ⟨[_,_,_,_,_],Zc6,ZbT 2 rfl rfl rfl,rfl⟩⟩,rfl,rfl,trivial⟩ ⟨rfl,none,0,none,0,none,0,_,_,rfl,SlK.nil,SlK.nil,SlK.nil,hr6,by simp [Zdn]⟩
 try simp only [sQ,ne_eq] at g1
 have hok:Z9 x=true:=by simpa using g1
 have hrr:=Zi5 hok
 have hnn : ¬ Z9 x=false:=by simp [hok]
 refine wSk (Za (xL [_,_,_,_,_] Zc6 0 (h:=xL [_,_,_] Zwz 1 (h:=xR ZAk rfl (Zt5 _ _ _ _ _ _ x s om2 om2 om2 16 hrr oz _ hu hf) (h:=?_)))))
 refine xM (h:=xE (h:=xE (h:=xA (h:=xA (h:=Za (xL [_,_,_,_,_] Zc6 0 (h:=xC ZAa rfl (Zpv _ _ _ _ _ _ x _ hu hf hi) (h:=?_))))))))
 rintro _ B8 _ hle8 ⟨l8,a8,c8,q18,c18,q38,c38,rfl,rfl,hu8,hs8,hi8⟩
 replace hf:=up1 hle8 hf
 have hu8n:=hu8.len
 have hi8n:=hi8.len
 refine xAl [_,_,_,_,_] Zce (h:=fun b9=>xS [_,_,_,_,_] 4 [_,_,_,_,_] Zdh (h:=tL5 (Zc (Za (xM (h:=ZaL (h:=Zb rfl (fun g5=>?_) (fun g5=>?_))))))))
 try simp only [sQ,ne_eq] at g5
 refine Za (xL [_,_,_,_,_] Zc6 4 (h:=Zii 3 rfl hs8 Zu.mono om3 (fun B10 hle10 hr10=>?_)))
 obtain ⟨hf,hu8,hi8⟩:=up3 hle10 hf hu8 hi8
 have hr10n:=hr10.len
 refine xBs [] [] Tryz.underlying65 sz3 zo3 (h:=fun b11=>Zii 5 rfl (ZN.lit0 (R:=Zag) (w:=1)) Zag.mono om3 (fun B12 hle12 hr12=>?_))
 obtain ⟨hf,hu8,hr10,hi8⟩:=up4 hle12 hf hu8 hr10 hi8
 have hr12n:=hr12.len
 refine xM (h:=?_)
 rw [Zl,if_neg hnn,if_pos g5]
 refine xS [_,_,_,_,_] 2 [_,_,_,_,_] Zdh (h:=xA (h:=xA (h:=tL6 (Ze (Zn ?_)))))
 exact ZeC .ret (.inl rfl) [_,_,_] [] rfl ⟨⟨_,rfl,.inr ⟨[_,_,_,_,_],Zc6,ZbT 2 rfl rfl rfl,rfl⟩⟩,rfl,rfl,trivial⟩ ⟨rfl,_,_,_,_,_,_,_,_,rfl,hu8,hr10,hi8,hr12,oy⟩
 try simp only [sQ,ne_eq] at g5
 obtain ⟨hat,hk0,_,_,_⟩:=Zsy g5
 obtain ⟨f,hf0⟩ :∃f,x.folders[(atF x s 16).1.toNat]? = some f:=⟨_,List.getElem?_eq_getElem oz⟩
 have hse:Zl x s=(x.withFolders (x.folders.set (atF x s 16).1.toNat (f.withBox (expunge ⟨f.next,f.mail⟩).1)),(expunge ⟨f.next,f.mail⟩).2,0):=by rw [Zl,if_neg hnn,if_neg (fun h=>h g5),ZeY hf0,Zhj hf0];rfl
 have hxl:(expunge (⟨f.next,f.mail⟩:DBox)).1.mail.length≤f.mail.length∧(expunge (⟨f.next,f.mail⟩:DBox)).2.length≤f.mail.length:=ZfC (⟨f.next,f.mail⟩:DBox)
 have hfb:ZcF (⟨f.next,f.mail⟩:DBox)=true:=ZeS (Zez hok hf0)
 have hfm:f.mail.length≤10:=(ZeX hfb).2.2
 refine wSk (Za (xW Zay (h:=x1 ZeO 0 (h:=xM (h:=?_)))))
 obtain ⟨bb13,oo13,rfl⟩:=hf.base hf0
 obtain ⟨_,⟨qg14,cg14,qm14,cm14,rfl,hg14,hm14,hb14,hb14b⟩,hc14⟩:=hf.elem hf0
 have hg14n:=hg14.len
 have hm14n:=hm14.len
 have hm14s:=Zaq hm14
 refine xIx Tryz.underlying24 Zb0 (h:=xW Zcb (h:=yL [_,_] ZgV hc14 3 (h:=xC Zz9 rfl (ZoR _ _ (⟨f.next,f.mail⟩:DBox) _ hm14) (h:=?_))))
 rintro _ B15 _ hle15 ⟨l15,a15,c15,l15b,a15b,c15b,rfl,rfl,hs15,hs15b⟩
 replace hs8:=hs8.mono Zu.mono hle15
 replace hu8:=hu8.mono Zs.mono hle15
 replace hi8:=hi8.mono ZI.mono hle15
 replace hs15:=hs15.anyK (B':=B15) Z6.any
 replace hs15b:=hs15b.anyK (B':=B15) Zag.any
 refine xM (h:=xE (h:=Zii 5 rfl hs15 Z6.mono om3 (fun B16 hle16 hr16=>?_)))
 replace hs8:=hs8.mono Zu.mono hle16
 replace hu8:=hu8.mono Zs.mono hle16
 replace hi8:=hi8.mono ZI.mono hle16
 replace hs15b:=hs15b.mono Zag.mono hle16
 have hr16n:=hr16.len
 refine Zk (Zg9 rfl rfl rfl rfl ?_)
 refine Zii 6 rfl hs15b Zag.mono (by first | omega | decide | (simp;done) | (simp;omega)) (fun B17 hle17 hr17=>?_)
 replace hr16:=hr16.mono Z6.mono hle17
 replace hs8:=hs8.mono Zu.mono hle17
 replace hu8:=hu8.mono Zs.mono hle17
 replace hi8:=hi8.mono ZI.mono hle17
 have hr17n:=hr17.len
 refine xAl [_,_] Zm4 (h:=fun b18=>xS [_,_] 7 [_,_] Zmr (h:=xA (h:=tL8 (Za (xW Zay (h:=x1 ZeO 4 (h:=xM (h:=xL [_,_] ZgV 7 (h:=?_)))))))))
 obtain ⟨bb19,_,hp19,⟨qg19,cg19,qm19,cm19,rfl,hg19,hm19,hb19,hb19b⟩,hw19,hc19⟩:=hs8.row hf0
 have hg19n:=hg19.len
 have hm19n:=hm19.len
 have hm19s:=Zaq hm19
 refine xIp hp19 Tryz.underlying24 Zb0 (h:=xW Zcb (h:=Zk (Zf8 (k:=((atF x s 16).1).toNat) (off:=3) (⟨f.owner,f.name,f.grants,(expunge ⟨f.next,f.mail⟩).1.next,(expunge ⟨f.next,f.mail⟩).1.mail⟩) [_,_] 3 hs8 hp19 hf0 rfl rfl Zmr rfl rfl rfl rfl rfl rfl (by rintro _ ⟨_,_,_,_,rfl,e1,_,e3,e4⟩;exact ⟨_,_,_,_,rfl,e1,hr16,e3,e4⟩) (fun l20 hv20=>?_))))
 refine tL8 (Za (xL [_,_,_,_,_] Zc6 4 (h:=Zii 3 rfl hv20 Zu.mono om3 (fun B21 hle21 hr21=>?_))))
 obtain ⟨hr17,hu8,hi8⟩:=up3 hle21 hr17 hu8 hi8
 have hr21n:=hr21.len
 refine xM (h:=?_)
 rw [hse]
 refine xS [_,_,_,_,_] 2 [_,_,_,_,_] Zdh (h:=xA (h:=xA (h:=tL8 (Ze ?_))))
 exact ZeC .ret (.inl rfl) [_,_,_] [] rfl ⟨⟨_,rfl,.inr ⟨[_,_,_,_,_],Zc6,ZbT 2 rfl rfl rfl,rfl⟩⟩,rfl,rfl,trivial⟩ ⟨rfl,_,_,_,_,_,_,_,_,(by first | rfl | (simp only [DHost.withFolders,List.length_set];rfl)),hu8,hr21,hi8,hr17,oy⟩

theorem Zme (q:Option Addr) (cp:Nat) (gs:List DGrant) (o u:Str) (ho:o.length≤2000000) (hn:u.length≤2000000) (B:Kn) (hg:SlK B q cp 2 Z5 gs):Zaa (pj J) 155 [.slice q gs.length cp,str o,str u] B (.int .i64 (Zju gs o u)):=by
 refine cB 35 Tryz.func155 (h:=?_)
 refine Za (xA (h:=Za (xM (h:=xC Zwf rfl (Zm3 _ _ _ _ hg) (h:=?_)))))
 rintro _ Bm _ hlem ⟨mm,lm,rfl,rfl,rfl,hlm⟩
 refine xM (h:=xE (h:=xE (h:=xA (h:=xA (h:=tL1 (Zc (Za (xM (h:=xN (h:=xM (h:=Zy (d:=16) rfl (fun g1=>?_) (fun g1=>?_))))))))))))
 try simp only [sQ,ne_eq] at g1
 refine xP (h:=xP (h:=xP (h:=xT (h:=xM (h:=xP (h:=xP (h:=xP (h:=xT (h:=Zb (t:=true) rfl (fun _=>Za (xA (h:=Ze (Zn ?_)))) (fun h=>Bool.noConfusion h))))))))))
 exact eR t1 ⟨ZG (Zjt (by simp [g1])).symm,rfl,rfl⟩
 try simp only [sQ,ne_eq] at g1
 refine xM (h:=xR ZkC rfl (ZbW _ om2 _) (h:=?_))
 refine xN (h:=xF (h:=xM (h:=Zy (d:=21) rfl (fun g2=>?_) (fun g2=>?_))))
 try simp only [sQ,ne_eq] at g2
 refine xP (h:=xP (h:=xP (h:=xT (h:=Zb (t:=true) rfl (fun _=>Za (xA (h:=Ze (Zn ?_)))) (fun h=>Bool.noConfusion h)))))
 exact eR t1 ⟨ZG (Zjt (by simp [g2])).symm,rfl,rfl⟩
 try simp only [sQ,ne_eq] at g2
 refine xM (h:=xR ZkC rfl (ZbW _ om2 _) (h:=?_))
 refine xN (h:=xF (h:=Zb rfl (fun g3=>?_) (fun g3=>?_)))
 try simp only [sQ,ne_eq] at g3
 refine Za (xA (h:=Ze (Zn ?_)))
 exact eR t1 ⟨ZG (Zjt (by simp [g3])).symm,rfl,rfl⟩
 try simp only [sQ,ne_eq] at g3
 have hce:=ZsH (gs:=gs) (o:=o) (u:=u) g1 g2 (by simpa using g3)
 obtain ⟨bm,hmb,hml⟩:=hlm g1
 subst hmb
 clear hlm
 have hlm:=hml
 refine wSk (Zc (Za (xM (h:=xM (h:=Zdx (h:=Zb rfl (fun g4=>?_) (fun g4=>?_)))))))
 try simp only [sQ,ne_eq] at g4
 refine Za (xA (h:=Ze (Zn ?_)))
 exact eR t1 ⟨ZG (by rw [hce,if_pos g4]),rfl,rfl⟩
 try simp only [sQ,ne_eq] at g4
 refine wSk (Za (xM (h:=xM (h:=Zk (Zmk (k:=u) 0 rfl hlm rfl rfl Tryz.underlying295 Tryz.underlying9 zo3 rfl rfl (xM (h:=Zk (Zmk (k:=[97,110,121,111,110,101]) 0 rfl hlm rfl rfl Tryz.underlying295 Tryz.underlying9 zo3 rfl rfl (Zk (ZwT rfl rfl rfl rfl (xA (h:=Ze ?_))))))))))))
 exact eR t1 ⟨ZG (by rw [hce,if_neg g4];rfl),rfl,rfl⟩

theorem ZvM (b o:Nat) (q1 q2 q3:Option Addr) (c1 c2 c3:Nat) (x:DHost) (qa qb:Option Addr) (ca cb:Nat) (u:Str) (f:DFolder) (rr:Int) (hn:u.length≤2000000) (ho:f.owner.length≤2000000) (B:Kn) (hh:Zau B b o [str x.domain,.slice q1 x.users.length c1,.slice q2 x.folders.length c2,.int .i64 x.queue.next,.slice q3 x.queue.items.length c3]) (hu:SlK B q1 c1 3 Zs x.users) (hg:SlK B qa ca 2 Z5 f.grants):Zaa (pj J) 89 [ptr ⟨b,o,none⟩,str u,.agg #[str f.owner,str f.name,.slice qa f.grants.length ca,.int .i64 f.next,.slice qb f.mail.length cb],.int .i64 rr] B (.bool (Zpl x.users f u rr)):=by
 refine cB 29 Tryz.func89 (h:=?_)
 refine Za (xBx [_,_,_,_,_] (h:=fun b1=>xA (h:=tL1 (Za (xW ZdI (h:=x1 ZqU 0 (h:=xW Zcc (h:=x1 lk9 0 (h:=xM (h:=xR ZyF rfl (Zme _ _ f.grants f.owner u om2 om2 _ hg) (h:=?_)))))))))))
 refine xA (h:=Za (xM (h:=xM (h:=xR Zsp rfl (ZgW _ _ _ _ _ _ _ _ x u om2 _ hh hu) (h:=?_)))))
 refine xM (h:=Zy (d:=19) rfl (fun g1=>?_) (fun g1=>?_))
 refine xM (h:=Zek (h:=xT (h:=xM (h:=Zy (d:=23) rfl (fun g2=>?_) (fun g2=>?_)))))
 refine xM (h:=xM (h:=Zk (ZsZ rfl rfl rfl rfl (ZaL (h:=xT (h:=xA (h:=Ze ?_)))))))
 exact eR t1 ⟨Zd (by simp [Zpl,g1,g2]),rfl,rfl⟩
 refine xP (h:=xP (h:=xP (h:=xP (h:=xF (h:=xA (h:=Ze ?_))))))
 exact eR t1 ⟨Zd (by simp [Zpl,g1,g2];try omega),rfl,rfl⟩
 refine xP (h:=xP (h:=xF (h:=xM (h:=xP (h:=xP (h:=xP (h:=xP (h:=xF (h:=xA (h:=Ze ?_))))))))))
 exact eR t1 ⟨Zd (by simp [Zpl,g1]),rfl,rfl⟩

theorem Zk8 (u y z:Str) (h1:u.length≤140737488355328) (h2:y.length≤140737488355328) (h3:z.length≤140737488355328) (left:Int) (hl0:0≤left) (hl1:left≤1048576) (B:Kn):Zaa (pj J) 12 [.agg #[str u,str y,str z],.int .i64 left] B (.int .i64 (szI left (u.length+y.length+z.length))):=by
 refine cB 27 Tryz.func12 (h:=?_)
 refine Za (xBx [_,_,_] (h:=fun b1=>xA (h:=tL1 (Za (xM (h:=xW Zta (h:=x1 lk9 0 (h:=xVs Tryz.underlying9 (h:=xU (h:=xA (h:=Zc (Za (xM (h:=ZF (h:=Zb rfl (fun g1=>?_) (fun g1=>?_))))))))))))))))
 try simp only [sQ,ne_eq] at g1
 refine Za (xA (h:=Ze (Zn ?_)))
 exact eR t1 ⟨ZG (by first | (unfold szI;split <;> omega)),rfl,rfl⟩
 try simp only [sQ,ne_eq] at g1
 refine wSk (Za (xM (h:=xW Zs9 (h:=x1 lk9 0 (h:=xVs Tryz.underlying9 (h:=xU (h:=xA (h:=Zc (Za (xM (h:=ZF (h:=Zb rfl (fun g2=>?_) (fun g2=>?_)))))))))))))
 try simp only [sQ,ne_eq] at g2
 refine Za (xA (h:=Ze (Zn ?_)))
 exact eR t1 ⟨ZG (by first | (unfold szI;split <;> omega)),rfl,rfl⟩
 try simp only [sQ,ne_eq] at g2
 refine wSk (Za (xM (h:=xW Zs8 (h:=x1 lk9 0 (h:=xVs Tryz.underlying9 (h:=xU (h:=xA (h:=Zc (Za (xM (h:=ZF (h:=Zb rfl (fun g3=>?_) (fun g3=>?_)))))))))))))
 try simp only [sQ,ne_eq] at g3
 refine Za (xA (h:=Ze (Zn ?_)))
 exact eR t1 ⟨ZG (by first | (unfold szI;split <;> omega)),rfl,rfl⟩
 try simp only [sQ,ne_eq] at g3
 refine wSk (Za (xM (h:=xA (h:=Ze ?_))))
 exact eR t1 ⟨ZG (by first | (unfold szI;split <;> omega)),rfl,rfl⟩

theorem ZbL (u y z:Str) (B:Kn):Zaa (pj J) 16 [.agg #[str u,str y,str z]] B (.agg #[str u,str y,str z]):=by
 refine cB 14 Tryz.func16 (h:=?_)
 refine Za (xBx [_,_,_] (h:=fun b1=>xAl [_,_,_] Zzd (h:=fun b2=>tL2 (Za (xAl [_,_,_] Zzd (h:=fun b3=>tL3 (Za (xW Zta (h:=x1 lk9 0 (h:=xW ZmS (h:=xS [_] 2 [_,_,_] sz9 (h:=tL3 (Za (xW Zs9 (h:=x1 lk9 0 (h:=xW ZpP (h:=xS [_] 2 [_,_,_] sz9 (h:=tL3 (Za (xW Zs8 (h:=x1 lk9 0 (h:=xW ZpO (h:=xS [_] 2 [_,_,_] sz9 (h:=tL3 (Za (xL [_,_,_] Zwz 2 (h:=xS [_,_,_] 1 [_,_,_] ZzI (h:=tL3 (Ze ?_)))))))))))))))))))))))))))))
 exact eR ⟨⟨_,rfl,.inr ⟨[_,_,_],Zwz,ZbT 1 rfl rfl rfl,rfl⟩⟩,trivial⟩ ⟨rfl,rfl,rfl⟩

theorem ZlR (q:Option Addr) (cp:Nat) (xs:List DMail) (k m n:Nat) (hmn:m=n) (he:xs=ZbQ k n) (hk:k+3*n≤900000000000000) (B:Kn) (hx0:SlK B q cp 3 Z6 xs):Zaa (pj J) 125 [.slice q m cp,.int .i64 k] B (.int .i64 ((k+3*n:Nat):Int)):=by
 refine cB 41 Tryz.func125 (h:=?_)
 have hxn:=hx0.len
 have hxl:xs.length=n:=by rw [he];exact ZaD _ _
 refine Za (xA (h:=Zc (Za (xA (h:=Zh (Zz (α:=Nat) [0] (fun g=>[(1,.int .i64 ((k+3*g:Nat):Int)),(5,.int .i64 g)]) [] (fun g=>[]) (fun g Bx=>Bx=B∧g≤n) (fun g=>n - g) 0 t2 rfl (⟨rfl,Nat.zero_le _⟩) (fun g B1 hle1 hI=>?_)))))))
 obtain ⟨rfl,hi⟩:=hI
 refine ZC [(0,_),(1,_),(5,_)] [] t3 rfl (Zc (Za (xM (h:=xM (h:=xV Tryz.underlying91 (h:=ZF (h:=Zb rfl (fun g1=>?_) (fun g1=>?_))))))))
 try simp only [sQ,ne_eq] at g1
 have hx:xs[g]? = some (⟨((k+3*g:Nat):Int),((k+3*g+1:Nat):Int),ZT (k+3*g+1+1)⟩:DMail):=by rw [he];exact Zlt oz
 refine wSk (Zc (Zh (Zc (Za (xM (h:=xM (h:=?_)))))))
 obtain ⟨bb2,oo2,rfl⟩:=hx0.base hx
 obtain ⟨_,⟨rfl,hb3⟩,hc3⟩:=hx0.elem hx
 refine xIx Tryz.underlying91 Zf7 (h:=xW Zeg (h:=y1 lk3 hc3 0 (h:=xM (h:=ZaL (h:=Zb rfl (fun h1=>by simp at h1) (fun h1=>?_))))))
 try simp only [sQ,ne_eq] at h1
 refine wSk (Za (xM (h:=xD (h:=xA (h:=Zc (Za (xM (h:=xM (h:=xIx Tryz.underlying91 Zf7 (h:=xW Zf0 (h:=y1 lk3 hc3 1 (h:=xM (h:=ZaL (h:=Zb rfl (fun h2=>by simp at h2) (fun h2=>?_)))))))))))))))
 try simp only [sQ,ne_eq] at h2
 refine wSk (Za (xM (h:=xD (h:=xA (h:=Zc (Zc (Z2 (same _ _) mo kr ⟨rfl,rfl⟩ (fun _ _=>?_))))))))
 refine aM 0 rfl (h:=aM 1 rfl (h:=aIx 2 rfl Tryz.underlying91 Zf7 (h:=aW 3 rfl ZfZ (h:=aT 4 rfl (Zac fun D=>Zm rfl rfl lk9 rfl (hc3 _ 2 _ rfl) r4) (h:=aM 5 rfl (h:=aT 6 rfl (Zac fun D=>Z8 rfl rfl Zjw rfl (Zah (((k+3*g)+1)+1) oz _) r4) (h:=?_)))))))
 refine Zfg 7 rfl (h:=Zt kr kr ?_)
 refine Zo (Zb rfl (fun h3=>by simp at h3) (fun h3=>?_))
 try simp only [sQ,ne_eq] at h3
 refine wSk (Zf (xM (h:=xD (h:=xA (h:=ZP (Zo (Zf (xM (h:=xD (h:=xA (h:=?_)))))))))))
 exact ZD (g+1) [] so2 ⟨rfl,oz⟩ t3 rfl
 try simp only [sQ,ne_eq] at g1
 refine ZE (ZV (ZH (Zw (Zo (Za (xM (h:=xA (h:=Ze ?_))))))))
 exact eR t1 ⟨ZG (by rw [show g=n from by omega]),rfl,rfl⟩

theorem Zkp (q:Option Addr) (cp:Nat) (xs:List DGrant) (k m n:Nat) (hmn:m=n) (he:xs=ZaC k n) (hk:k+2*n≤900000000000000) (B:Kn) (hx0:SlK B q cp 2 Z5 xs):Zaa (pj J) 124 [.slice q m cp,.int .i64 k] B (.int .i64 ((k+2*n:Nat):Int)):=by
 refine cB 32 Tryz.func124 (h:=?_)
 have hxn:=hx0.len
 have hxl:xs.length=n:=by rw [he];exact Zat _ _
 refine Za (xA (h:=Zc (Za (xA (h:=Zh (Zz (α:=Nat) [0] (fun g=>[(1,.int .i64 ((k+2*g:Nat):Int)),(5,.int .i64 g)]) [] (fun g=>[]) (fun g Bx=>Bx=B∧g≤n) (fun g=>n - g) 0 t2 rfl (⟨rfl,Nat.zero_le _⟩) (fun g B1 hle1 hI=>?_)))))))
 obtain ⟨rfl,hi⟩:=hI
 refine ZC [(0,_),(1,_),(5,_)] [] t3 rfl (Zc (Za (xM (h:=xM (h:=xV Tryz.underlying94 (h:=ZF (h:=Zb rfl (fun g1=>?_) (fun g1=>?_))))))))
 try simp only [sQ,ne_eq] at g1
 have hx:xs[g]? = some (⟨ZT (k+2*g),((k+2*g+1:Nat):Int)⟩:DGrant):=by rw [he];exact Zkc oz
 refine wSk (Zc (Zh (Zc (Zc (Z2 (same _ _) mo kr ⟨rfl,rfl⟩ (fun _ _=>?_))))))
 refine aM 0 rfl (h:=aM 1 rfl (h:=?_))
 obtain ⟨bb2,oo2,rfl⟩:=hx0.base hx
 obtain ⟨_,⟨rfl,hb3⟩,hc3⟩:=hx0.elem hx
 refine aIx 2 rfl Tryz.underlying94 Zds (h:=aW 3 rfl Zcd (h:=aT 4 rfl (Zac fun D=>Zm rfl rfl lk9 rfl (hc3 _ 0 _ rfl) r4) (h:=aM 5 rfl (h:=aT 6 rfl (Zac fun D=>Z8 rfl rfl Zjw rfl (Zah (k+2*g) oz _) r4) (h:=?_)))))
 refine Zfg 7 rfl (h:=Zt kr kr ?_)
 refine Zo (Zb rfl (fun h1=>by simp at h1) (fun h1=>?_))
 try simp only [sQ,ne_eq] at h1
 refine wSk (Za (xM (h:=xD (h:=xA (h:=Zc (Za (xM (h:=xM (h:=xIx Tryz.underlying94 Zds (h:=xW Zc8 (h:=y1 lk3 hc3 1 (h:=xM (h:=ZaL (h:=Zb rfl (fun h2=>by simp at h2) (fun h2=>?_)))))))))))))))
 try simp only [sQ,ne_eq] at h2
 refine wSk (Zf (xM (h:=xD (h:=xA (h:=ZP (Zo (Zf (xM (h:=xD (h:=xA (h:=?_)))))))))))
 exact ZD (g+1) [] so2 ⟨rfl,oz⟩ t3 rfl
 try simp only [sQ,ne_eq] at g1
 refine ZE (ZV (ZH (Zw (Zo (Za (xM (h:=xA (h:=Ze ?_))))))))
 exact eR t1 ⟨ZG (by rw [show g=n from by omega]),rfl,rfl⟩

theorem ZlP (q:Option Addr) (cp:Nat) (xs:List DUser) (k m n:Nat) (hmn:m=n) (he:xs=Zcr k n) (hk:k+3*n≤900000000000000) (B:Kn) (hx0:SlK B q cp 3 Zs xs):Zaa (pj J) 70 [.slice q m cp,.int .i64 k] B (.int .i64 ((k+3*n:Nat):Int)):=by
 refine cB 42 Tryz.func70 (h:=?_)
 have hxn:=hx0.len
 have hxl:xs.length=n:=by rw [he];exact Zbk _ _
 refine Za (xA (h:=Zc (Za (xA (h:=Zh (Zz (α:=Nat) [0] (fun g=>[(1,.int .i64 ((k+3*g:Nat):Int)),(5,.int .i64 g)]) [] (fun g=>[]) (fun g Bx=>Bx=B∧g≤n) (fun g=>n - g) 0 t2 rfl (⟨rfl,Nat.zero_le _⟩) (fun g B1 hle1 hI=>?_)))))))
 obtain ⟨rfl,hi⟩:=hI
 refine ZC [(0,_),(1,_),(5,_)] [] t3 rfl (Zc (Za (xM (h:=xM (h:=xV Tryz.underlying23 (h:=ZF (h:=Zb rfl (fun g1=>?_) (fun g1=>?_))))))))
 try simp only [sQ,ne_eq] at g1
 have hx:xs[g]? = some (⟨ZT (k+3*g),ZT (k+3*g+1),((k+3*g+1+1:Nat):Int)⟩:DUser):=by rw [he];exact Zlr oz
 refine wSk (Zc (Zh (Zc (Zc (Z2 (same _ _) mo kr ⟨rfl,rfl⟩ (fun _ _=>?_))))))
 refine aM 0 rfl (h:=aM 1 rfl (h:=?_))
 obtain ⟨bb2,oo2,rfl⟩:=hx0.base hx
 obtain ⟨_,⟨rfl,hb3,hb3b⟩,hc3⟩:=hx0.elem hx
 refine aIx 2 rfl Tryz.underlying23 Zbh (h:=aW 3 rfl Za7 (h:=aT 4 rfl (Zac fun D=>Zm rfl rfl lk9 rfl (hc3 _ 0 _ rfl) r4) (h:=aM 5 rfl (h:=aT 6 rfl (Zac fun D=>Z8 rfl rfl Zjw rfl (Zah (k+3*g) oz _) r4) (h:=?_)))))
 refine Zfg 7 rfl (h:=Zt kr kr ?_)
 refine Zo (Zb rfl (fun h1=>by simp at h1) (fun h1=>?_))
 try simp only [sQ,ne_eq] at h1
 refine wSk (Za (xM (h:=xD (h:=xA (h:=Zc (Zc (Z2 (same _ _) mo kr ⟨rfl,rfl⟩ (fun _ _=>?_))))))))
 refine aM 0 rfl (h:=aM 1 rfl (h:=aIx 2 rfl Tryz.underlying23 Zbh (h:=aW 3 rfl Zfz (h:=aT 4 rfl (Zac fun D=>Zm rfl rfl lk9 rfl (hc3 _ 1 _ rfl) r4) (h:=aM 5 rfl (h:=aT 6 rfl (Zac fun D=>Z8 rfl rfl Zjw rfl (Zah ((k+3*g)+1) oz _) r4) (h:=?_)))))))
 refine Zfg 7 rfl (h:=Zt kr kr ?_)
 refine Zo (Zb rfl (fun h2=>by simp at h2) (fun h2=>?_))
 try simp only [sQ,ne_eq] at h2
 refine wSk (Za (xM (h:=xD (h:=xA (h:=Zc (Za (xM (h:=xM (h:=xIx Tryz.underlying23 Zbh (h:=xW Zdu (h:=y1 lk3 hc3 2 (h:=xM (h:=ZaL (h:=Zb rfl (fun h3=>by simp at h3) (fun h3=>?_)))))))))))))))
 try simp only [sQ,ne_eq] at h3
 refine wSk (Zf (xM (h:=xD (h:=xA (h:=ZP (Zo (Zf (xM (h:=xD (h:=xA (h:=?_)))))))))))
 exact ZD (g+1) [] so2 ⟨rfl,oz⟩ t3 rfl
 try simp only [sQ,ne_eq] at g1
 refine ZE (ZV (ZH (Zw (Zo (Za (xM (h:=xA (h:=Ze ?_))))))))
 exact eR t1 ⟨ZG (by rw [show g=n from by omega]),rfl,rfl⟩

theorem ZnN (q:Option Addr) (cp:Nat) (xs:List Str) (k m n:Nat) (hmn:m=n) (he:xs=Zc5 k n) (hk:k+1*n≤900000000000000) (B:Kn) (hx0:SlK B q cp 1 Zde xs):Zaa (pj J) 185 [.slice q m cp,.int .i64 k] B (.int .i64 ((k+1*n:Nat):Int)):=by
 refine cB 22 Tryz.func185 (h:=?_)
 have hxn:=hx0.len
 have hxl:xs.length=n:=by rw [he];exact Zbb _ _
 refine Za (xA (h:=Zc (Za (xA (h:=Zh (Zz (α:=Nat) [0] (fun g=>[(1,.int .i64 ((k+1*g:Nat):Int)),(5,.int .i64 g)]) [] (fun g=>[]) (fun g Bx=>Bx=B∧g≤n) (fun g=>n - g) 0 t2 rfl (⟨rfl,Nat.zero_le _⟩) (fun g B1 hle1 hI=>?_)))))))
 obtain ⟨rfl,hi⟩:=hI
 refine ZC [(0,_),(1,_),(5,_)] [] t3 rfl (Zc (Za (xM (h:=xM (h:=xV Tryz.underlying143 (h:=ZF (h:=Zb rfl (fun g1=>?_) (fun g1=>?_))))))))
 try simp only [sQ,ne_eq] at g1
 have hx:xs[g]? = some (ZT (k+1*g):Str):=by rw [he];exact Znz oz
 refine wSk (Zc (Zh (Zc (Zc (Z2 (same _ _) mo kr ⟨rfl,rfl⟩ (fun _ _=>?_))))))
 refine aM 0 rfl (h:=aM 1 rfl (h:=?_))
 obtain ⟨bb2,oo2,rfl⟩:=hx0.base hx
 obtain ⟨_,⟨rfl,hb3⟩,hc3⟩:=hx0.elem hx
 refine aIx 2 rfl Tryz.underlying143 sz9 (h:=aT 3 rfl (Zac fun D=>Zm rfl rfl lk9 rfl (hc3 _ 0 _ rfl) r4) (h:=aM 4 rfl (h:=aT 5 rfl (Zac fun D=>Z8 rfl rfl Zjw rfl (Zah (k+1*g) oz _) r4) (h:=?_))))
 refine Zfg 6 rfl (h:=Zt kr kr ?_)
 refine Zo (Zb rfl (fun h1=>by simp at h1) (fun h1=>?_))
 try simp only [sQ,ne_eq] at h1
 refine wSk (Zf (xM (h:=xD (h:=xA (h:=ZP (Zo (Zf (xM (h:=xD (h:=xA (h:=?_)))))))))))
 exact ZD (g+1) [] so2 ⟨rfl,oz⟩ t3 rfl
 try simp only [sQ,ne_eq] at g1
 refine ZE (ZV (ZH (Zw (Zo (Za (xM (h:=xA (h:=Ze ?_))))))))
 exact eR t1 ⟨ZG (by rw [show g=n from by omega]),rfl,rfl⟩

set_option maxHeartbeats 400000 in
theorem ZiV (q:Option Addr) (cp:Nat) (xs:List DFolder) (l:Cells) (k:Nat) (hk:kL ZbB k xs≤800000000000000) (hn:xs.length≤2000000) (B:Kn) (hv:ZaP l q cp 96 5 (ZU 259 99) xs):Zv (pj J) 63 [.slice q xs.length cp,.int .i64 k] B [l] (fun v B' Ls=>B'=B∧∃l',Ls=[l']∧v = .int .i64 ((kL ZbB k xs:Nat):Int)∧ZaP l' q cp 96 5 (ZU 259 99) (mkL ZbB mkF k xs)):=by
 refine Zda 52 Tryz.func63 rfl rfl rfl (Nat.le_of_ble_eq_true rfl) ?_
 have hvc:=hv.cap
 refine Za ?_
 refine xA (h:=?_)
 refine Zc ?_
 refine Za ?_
 refine xA (h:=?_)
 refine Zh ?_
 refine Zz (α:=Nat × Nat × Cells × List DFolder) [4] (fun g=>[(0,.slice q xs.length cp),(1,.int .i64 ((g.2.1:Nat):Int)),(5,.int .i64 g.1)]) [0] (fun g=>[g.2.2.1]) (fun g Bx=>Bx=B∧g.1≤xs.length∧g.2.1=kL ZbB k (xs.take g.1)∧g.2.2.2.length=xs.length∧g.2.2.2.take g.1=mkL ZbB mkF k (xs.take g.1)∧g.2.2.2.drop g.1=xs.drop g.1∧ZaP g.2.2.1 q cp 96 5 (ZU 259 99) g.2.2.2) (fun g=>xs.length - g.1) (0,k,l,xs) t3 rfl (⟨rfl,Nat.zero_le _,ZmK.symm,rfl,rfl,rfl,hv⟩) (fun g B1 hle1 hI=>?_)
 obtain ⟨rfl,hi,hs,hle,ht,hd,hw⟩:=hI
 refine ZC [(0,_),(1,_),(4,_),(5,_)] [_] t4 rfl ?_
 refine Zc ?_
 refine Za ?_
 refine xM (h:=?_)
 refine xM (h:=?_)
 refine xV Tryz.underlying24 (h:=?_)
 refine ZF (h:=?_)
 refine Zb rfl (fun g1=>?_) (fun g1=>?_)
 try simp only [sQ,ne_eq] at g1
 obtain ⟨x,hx⟩:=ZY (xs:=xs) (i:=g.1) oz
 have hy:=(ZmW hd).trans hx
 have hkl:=Nat.le_trans (Zr2 (st:=ZbB) (k:=k) hx) hk
 rw [← hs] at hkl
 have hst:ZbB x=3+2*x.grants.length+3*x.mail.length:=rfl
 refine ZX ?_
 refine Zo ?_
 refine Zc ?_
 refine Zh ?_
 refine Za ?_
 refine xM (h:=?_)
 refine xM (h:=?_)
 refine xM (h:=?_)
 refine xR Zjw rfl (Zah (g.2.1) oz _) (h:=?_)
 obtain ⟨bb3,_,li3,lr3,hp3,⟨qg3,cg3,qm3,cm3,ia3,ib3,rfl,rfl,hg3,hm3,ho3,hn3,hx3,hy3⟩,hw3,hq3,hc3,hk3⟩:=hw.cell (B:=B1) (L:=[g.2.2.1]) hy 0 rfl
 refine xIp hp3 Tryz.underlying24 Zb0 (h:=?_)
 refine xW Zcc (h:=?_)
 refine Zk (Zh9 (k:=g.1) (us:=[_]) ((⟨ZT (g.2.1),x.name,x.grants,x.next,x.mail⟩:DFolder)) 0 0 rfl hw hp3 hy rfl rfl sz9 rfl rfl rfl rfl (Nat.le_of_ble_eq_true rfl) (by rintro _ _ ⟨_,_,_,_,_,_,rfl,rfl,h1,h2,h3,h4,h5,h6⟩;exact ⟨_,_,_,_,_,_,rfl,rfl,h1,h2,show (ZT (g.2.1)).length≤2000000 from Nat.le_trans (Zb7 (k:=g.2.1) oz) (by decide),h4,h5,h6⟩) (fun l4 hv4=>?_))
 have hs4:=Zd0 (z:=((⟨ZT (g.2.1),x.name,x.grants,x.next,x.mail⟩:DFolder))) hy
 refine ZsO [_] rfl ?_
 refine Za ?_
 refine xM (h:=?_)
 refine xD (h:=?_)
 refine xA (h:=?_)
 refine Za ?_
 refine xM (h:=?_)
 refine xM (h:=?_)
 refine xM (h:=?_)
 refine xR Zjw rfl (Zah ((g.2.1)+1) oz _) (h:=?_)
 obtain ⟨bb6,_,li6,lr6,hp6,⟨qg6,cg6,qm6,cm6,ia6,ib6,rfl,rfl,hg6,hm6,ho6,hn6,hx6,hy6⟩,hw6,hq6,hc6,hk6⟩:=hv4.cell (B:=B1) (L:=[l4]) hs4 0 rfl
 refine xIp hp6 Tryz.underlying24 Zb0 (h:=?_)
 refine xW ZdJ (h:=?_)
 refine Zk (Zh9 (k:=g.1) (us:=[_]) ((⟨ZT (g.2.1),ZT (g.2.1+1),x.grants,x.next,x.mail⟩:DFolder)) 1 0 rfl hv4 hp6 hs4 rfl rfl sz9 rfl rfl rfl rfl (Nat.le_of_ble_eq_true rfl) (by rintro _ _ ⟨_,_,_,_,_,_,rfl,rfl,h1,h2,h3,h4,h5,h6⟩;exact ⟨_,_,_,_,_,_,rfl,rfl,h1,h2,h3,show (ZT (g.2.1+1)).length≤2000000 from Nat.le_trans (Zb7 (k:=g.2.1+1) oz) (by decide),h5,h6⟩) (fun l7 hv7=>?_))
 rw [List.set_set] at hv7
 have hs7:=Zd0 (z:=((⟨ZT (g.2.1),ZT (g.2.1+1),x.grants,x.next,x.mail⟩:DFolder))) hy
 refine ZsO [_] rfl ?_
 obtain ⟨bb8,_,li8,lr8,hp8,⟨qg8,cg8,qm8,cm8,ia8,ib8,rfl,rfl,hg8,hm8,ho8,hn8,hx8,hy8⟩,hw8,hq8,hc8,hk8⟩:=hv7.cell (B:=B1) (L:=[_]) hs7 0 rfl
 replace hc8:=fun m u h=>(hc8 m u h).perm (Zge 0 rfl (ZrE hq8))
 refine Zel 0 rfl (ZrE hq8) ?_
 refine Za ?_
 refine xM (h:=?_)
 refine xD (h:=?_)
 refine xA (h:=?_)
 refine ZsO [_,_,_] rfl ?_
 refine Za ?_
 refine xM (h:=?_)
 refine xM (h:=?_)
 refine xIp hp8 Tryz.underlying24 Zb0 (h:=?_)
 refine xW ZdI (h:=?_)
 refine Zk (Zm rfl rfl ZqU rfl (hc8 2 _ rfl) ?_)
 refine xM (h:=?_)
 refine Zk (Zby [1] rfl rfl rfl rfl Zy0 rfl (Zke _ _ (((⟨ZT (g.2.1),ZT (g.2.1+1),x.grants,x.next,x.mail⟩:DFolder)).grants) _ (((g.2.1)+1)+1) oz oz _ (hg8.anyK Z5.any)) ?_)
 rintro _ B9 _ hle9 ⟨rfl,l9,rfl,rfl,hs9⟩
 refine xA (h:=?_)
 refine ZsO [_,_,_] rfl ?_
 refine Zfk 0 2 rfl rfl (by decide) ?_
 refine Zfk 0 1 rfl rfl (by decide) ?_
 have hv10:=hk8 (⟨ZT (g.2.1),ZT (g.2.1+1),ZaC (g.2.1+1+1) x.grants.length,x.next,x.mail⟩:DFolder) _ ⟨qg8,cg8,qm8,cm8,_,_,by simp only [Zat,ZaD],rfl,hs9.anyK Z5.any,hm8.anyK Z6.any,ho8,hn8,by first | assumption | (rw [Zat];assumption),by first | assumption | (rw [ZaD];assumption)⟩
 rw [List.append_assoc,List.set_set] at hv10
 have hs10:=Zd0 (z:=((⟨ZT (g.2.1),ZT (g.2.1+1),ZaC (g.2.1+1+1) x.grants.length,x.next,x.mail⟩:DFolder))) hy
 refine Zog [0] rfl ?_
 refine Za ?_
 refine xM (h:=?_)
 refine xM (h:=?_)
 refine xM (h:=?_)
 obtain ⟨bb11,_,li11,lr11,hp11,⟨qg11,cg11,qm11,cm11,ia11,ib11,rfl,rfl,hg11,hm11,ho11,hn11,hx11,hy11⟩,hw11,hq11,hc11,hk11⟩:=hv10.cell (B:=B9) (L:=[_]) hs10 0 rfl
 refine xIp hp11 Tryz.underlying24 Zb0 (h:=?_)
 refine xW Zcb (h:=?_)
 refine xW ZeA (h:=?_)
 refine Zk (Zh9 (k:=g.1) (us:=[_]) ((⟨ZT (g.2.1),ZT (g.2.1+1),ZaC (g.2.1+1+1) x.grants.length,((g.2.1+1+1+2*x.grants.length:Nat):Int),x.mail⟩:DFolder)) 3 0 rfl hv10 hp11 hs10 rfl rfl sz3 rfl rfl rfl rfl (Nat.le_of_ble_eq_true rfl) (by rintro _ _ ⟨_,_,_,_,_,_,rfl,rfl,h1,h2,h3,h4,h5,h6⟩;exact ⟨_,_,_,_,_,_,rfl,rfl,h1,h2,h3,h4,h5,h6⟩) (fun l12 hv12=>?_))
 rw [List.set_set] at hv12
 have hs12:=Zd0 (z:=((⟨ZT (g.2.1),ZT (g.2.1+1),ZaC (g.2.1+1+1) x.grants.length,((g.2.1+1+1+2*x.grants.length:Nat):Int),x.mail⟩:DFolder))) hy
 refine ZsO [_] rfl ?_
 obtain ⟨bb13,_,li13,lr13,hp13,⟨qg13,cg13,qm13,cm13,ia13,ib13,rfl,rfl,hg13,hm13,ho13,hn13,hx13,hy13⟩,hw13,hq13,hc13,hk13⟩:=hv12.cell (B:=B9) (L:=[_]) hs12 0 rfl
 replace hc13:=fun m u h=>(hc13 m u h).perm (Zge 0 rfl (ZrE hq13))
 refine Zel 0 rfl (ZrE hq13) ?_
 refine Za ?_
 refine xM (h:=?_)
 refine xD (h:=?_)
 refine xA (h:=?_)
 refine ZsO [_,_,_] rfl ?_
 refine Zf ?_
 refine xM (h:=?_)
 refine xM (h:=?_)
 refine xIp hp13 Tryz.underlying24 Zb0 (h:=?_)
 refine xW Zcb (h:=?_)
 refine xW Za9 (h:=?_)
 refine Zk (Zm rfl rfl Zh0 rfl (hc13 4 _ rfl) ?_)
 refine xM (h:=?_)
 refine Zk (Zby [2] rfl rfl rfl rfl ZyZ rfl (ZlA _ _ (((⟨ZT (g.2.1),ZT (g.2.1+1),ZaC (g.2.1+1+1) x.grants.length,((g.2.1+1+1+2*x.grants.length:Nat):Int),x.mail⟩:DFolder)).mail) _ (((((g.2.1)+1)+1)+2*(((⟨ZT (g.2.1),ZT (g.2.1+1),x.grants,x.next,x.mail⟩:DFolder)).grants).length)+1) oz oz _ (hm13.anyK Z6.any)) ?_)
 rintro _ B14 _ hle14 ⟨rfl,l14,rfl,rfl,hs14⟩
 refine xA (h:=?_)
 refine ZP (Zo ?_)
 refine Zfk 0 2 rfl rfl (by decide) ?_
 refine Zfk 0 1 rfl rfl (by decide) ?_
 have hv15:=hk13 (⟨ZT (g.2.1),ZT (g.2.1+1),ZaC (g.2.1+1+1) x.grants.length,((g.2.1+1+1+2*x.grants.length:Nat):Int),ZbQ (g.2.1+1+1+2*x.grants.length+1) x.mail.length⟩:DFolder) _ ⟨qg13,cg13,qm13,cm13,_,_,by simp only [Zat,ZaD],rfl,hg13.anyK Z5.any,hs14.anyK Z6.any,ho13,hn13,by first | assumption | (rw [Zat];assumption),by first | assumption | (rw [ZaD];assumption)⟩
 rw [List.append_assoc,List.set_set] at hv15
 have hs15:=Zd0 (z:=((⟨ZT (g.2.1),ZT (g.2.1+1),ZaC (g.2.1+1+1) x.grants.length,((g.2.1+1+1+2*x.grants.length:Nat):Int),ZbQ (g.2.1+1+1+2*x.grants.length+1) x.mail.length⟩:DFolder))) hy
 refine Zog [0] rfl ?_
 refine Zf ?_
 refine xM (h:=?_)
 refine xD (h:=?_)
 refine xA (h:=?_)
 exact ZD (g.1+1,g.2.1+1+1+2*x.grants.length+1+3*x.mail.length,_,(g.2.2.2.set g.1 ((⟨ZT (g.2.1),ZT (g.2.1+1),ZaC (g.2.1+1+1) x.grants.length,((g.2.1+1+1+2*x.grants.length:Nat):Int),ZbQ (g.2.1+1+1+2*x.grants.length+1) x.mail.length⟩:DFolder)))) [0] so2 ⟨rfl,so,by simp only [];rw [Zht hx,← hs,hst];omega,Zmp hle,Zkb ht hx hle hs,ZmV hd,hv15⟩ t4 rfl
 try simp only [sQ,ne_eq] at g1
 have he:=Zpj ht hle oz
 have hgi:g.1=xs.length:=by omega
 refine ZE (ZV (ZH (Zw (Zo ?_))))
 refine Za ?_
 refine xM (h:=?_)
 refine xA (h:=?_)
 refine Ze ?_
 exact ZeC .ret (.inl rfl) [_] [0] rfl t1 ⟨rfl,_,rfl,by rw [hs,ZmL oz];rfl,by rw [← he];exact hw⟩

theorem ZlB (q:Option Addr) (cp:Nat) (xs:List DItem) (l:Cells) (k:Nat) (hk:kL Zb1 k xs≤800000000000000) (hn:xs.length≤2000000) (B:Kn) (hv:ZaP l q cp 145 4 (ZaR 9) xs):Zv (pj J) 116 [.slice q xs.length cp,.int .i64 k] B [l] (fun v B' Ls=>B'=B∧∃l',Ls=[l']∧v = .int .i64 ((kL Zb1 k xs:Nat):Int)∧ZaP l' q cp 145 4 (ZaR 9) (mkL Zb1 mkI k xs)):=by
 refine cB 43 Tryz.func116 (h:=?_)
 have hvc:=hv.cap
 refine Za (xA (h:=Zc (Za (xA (h:=Zh (Zz (α:=Nat × Nat × Cells × List DItem) [4] (fun g=>[(0,.slice q xs.length cp),(1,.int .i64 ((g.2.1:Nat):Int)),(5,.int .i64 g.1)]) [0] (fun g=>[g.2.2.1]) (fun g Bx=>Bx=B∧g.1≤xs.length∧g.2.1=kL Zb1 k (xs.take g.1)∧g.2.2.2.length=xs.length∧g.2.2.2.take g.1=mkL Zb1 mkI k (xs.take g.1)∧g.2.2.2.drop g.1=xs.drop g.1∧ZaP g.2.2.1 q cp 145 4 (ZaR 9) g.2.2.2) (fun g=>xs.length - g.1) (0,k,l,xs) t3 rfl (⟨rfl,Nat.zero_le _,ZmK.symm,rfl,rfl,rfl,hv⟩) (fun g B1 hle1 hI=>?_)))))))
 obtain ⟨rfl,hi,hs,hle,ht,hd,hw⟩:=hI
 refine ZC [(0,_),(1,_),(4,_),(5,_)] [_] t4 rfl (Zc (Za (xM (h:=xM (h:=xV Tryz.underlying25 (h:=ZF (h:=Zb rfl (fun g1=>?_) (fun g1=>?_))))))))
 try simp only [sQ,ne_eq] at g1
 obtain ⟨x,hx⟩:=ZY (xs:=xs) (i:=g.1) oz
 have hy:=(ZmW hd).trans hx
 have hkl:=Nat.le_trans (Zr2 (st:=Zb1) (k:=k) hx) hk
 rw [← hs] at hkl
 have hst:Zb1 x=3+x.left.length:=rfl
 refine wSk (Zc (Zh (Za (xM (h:=xM (h:=xM (h:=?_)))))))
 obtain ⟨bb2,_,li2,lr2,hp2,⟨qg2,cg2,rfl,hg2,ho2,hn2,hx2⟩,hw2,hq2,hc2,hk2⟩:=hw.cell (B:=B1) (L:=[g.2.2.1]) hy 0 rfl
 refine xIp hp2 Tryz.underlying25 Zbr (h:=xW Zd7 (h:=Zk (Zh9 (k:=g.1) (us:=[_]) ((⟨((g.2.1:Nat):Int),x.fr,x.text,x.left⟩:DItem)) 0 0 rfl hw hp2 hy rfl rfl sz3 rfl rfl rfl rfl (Nat.le_of_ble_eq_true rfl) (by rintro _ _ ⟨_,_,rfl,h1,h2,h3,h4⟩;exact ⟨_,_,rfl,h1,h2,h3,h4⟩) (fun l3 hv3=>?_))))
 have hs3:=Zd0 (z:=((⟨((g.2.1:Nat):Int),x.fr,x.text,x.left⟩:DItem))) hy
 refine tL1 (Za (xM (h:=xD (h:=xA (h:=Za (xM (h:=xM (h:=xM (h:=xR Zjw rfl (Zah ((g.2.1)+1) oz _) (h:=?_))))))))))
 obtain ⟨bb5,_,li5,lr5,hp5,⟨qg5,cg5,rfl,hg5,ho5,hn5,hx5⟩,hw5,hq5,hc5,hk5⟩:=hv3.cell (B:=B1) (L:=[l3]) hs3 0 rfl
 refine xIp hp5 Tryz.underlying25 Zbr (h:=xW Zd6 (h:=Zk (Zh9 (k:=g.1) (us:=[_]) ((⟨((g.2.1:Nat):Int),ZT (g.2.1+1),x.text,x.left⟩:DItem)) 1 0 rfl hv3 hp5 hs3 rfl rfl sz9 rfl rfl rfl rfl (Nat.le_of_ble_eq_true rfl) (by rintro _ _ ⟨_,_,rfl,h1,h2,h3,h4⟩;exact ⟨_,_,rfl,h1,show (ZT (g.2.1+1)).length≤2000000 from Nat.le_trans (Zb7 (k:=g.2.1+1) oz) (by decide),h3,h4⟩) (fun l6 hv6=>?_))))
 rw [List.set_set] at hv6
 have hs6:=Zd0 (z:=((⟨((g.2.1:Nat):Int),ZT (g.2.1+1),x.text,x.left⟩:DItem))) hy
 refine tL1 (Za (xM (h:=xD (h:=xA (h:=Za (xM (h:=xM (h:=xM (h:=xR Zjw rfl (Zah (((g.2.1)+1)+1) oz _) (h:=?_))))))))))
 obtain ⟨bb8,_,li8,lr8,hp8,⟨qg8,cg8,rfl,hg8,ho8,hn8,hx8⟩,hw8,hq8,hc8,hk8⟩:=hv6.cell (B:=B1) (L:=[l6]) hs6 0 rfl
 refine xIp hp8 Tryz.underlying25 Zbr (h:=xW Zfy (h:=Zk (Zh9 (k:=g.1) (us:=[_]) ((⟨((g.2.1:Nat):Int),ZT (g.2.1+1),ZT (g.2.1+1+1),x.left⟩:DItem)) 2 0 rfl hv6 hp8 hs6 rfl rfl sz9 rfl rfl rfl rfl (Nat.le_of_ble_eq_true rfl) (by rintro _ _ ⟨_,_,rfl,h1,h2,h3,h4⟩;exact ⟨_,_,rfl,h1,h2,show (ZT (g.2.1+1+1)).length≤2000000 from Nat.le_trans (Zb7 (k:=g.2.1+1+1) oz) (by decide),h4⟩) (fun l9 hv9=>?_))))
 rw [List.set_set] at hv9
 have hs9:=Zd0 (z:=((⟨((g.2.1:Nat):Int),ZT (g.2.1+1),ZT (g.2.1+1+1),x.left⟩:DItem))) hy
 refine tL1 ?_
 obtain ⟨bb10,_,li10,lr10,hp10,⟨qg10,cg10,rfl,hg10,ho10,hn10,hx10⟩,hw10,hq10,hc10,hk10⟩:=hv9.cell (B:=B1) (L:=[_]) hs9 0 rfl
 replace hc10:=fun m u h=>(hc10 m u h).perm (Zge 0 rfl (ZvI hq10))
 refine Zel 0 rfl (ZvI hq10) ?_
 refine Za ?_
 refine Zk (Zbe rfl rfl rfl ?_)
 refine Zk (Zf9 rfl rfl rfl rfl (by first | exact Zcf (by first | omega | (simp;done) | (simp;omega)) (by first | omega | (simp;done) | (simp;omega)) | rfl) ?_)
 refine Zk (Zbp rfl rfl rfl ?_)
 refine ZsO [_,_] rfl ?_
 refine Zf ?_
 refine Zk (Zbe rfl rfl rfl ?_)
 refine Zk (Zbe rfl rfl rfl ?_)
 refine Zk (ZjE hp10 rfl rfl Tryz.underlying25 Zbr rfl rfl (by first | omega | (simp;done) | (simp;omega)) (by first | omega | (simp;done) | (simp;omega)) ?_)
 refine Zk (Zao rfl rfl Zcs rfl ?_)
 refine Zk (Zm rfl rfl Zft rfl (hc10 3 _ rfl) ?_)
 refine Zk (Zbe rfl rfl rfl ?_)
 refine Zk (Zby [1] rfl rfl rfl rfl Zyl rfl (ZiU _ _ (((⟨((g.2.1:Nat):Int),ZT (g.2.1+1),ZT (g.2.1+1+1),x.left⟩:DItem)).left) _ ((((g.2.1)+1)+1)+1) (by omega) (by omega) _ (hg10.anyK Zde.any)) ?_)
 rintro _ B11 _ hle11 ⟨rfl,l11,rfl,rfl,hs11⟩
 refine xA (h:=ZP (Zo (Zfk 0 1 rfl rfl (by decide) ?_)))
 have hv12:=hk10 (⟨((g.2.1:Nat):Int),ZT (g.2.1+1),ZT (g.2.1+1+1),Zc5 (g.2.1+1+1+1) x.left.length⟩:DItem) _ ⟨qg10,cg10,by simp only [Zbb],hs11.anyK Zde.any,ho10,hn10,by first | assumption | (rw [Zbb];assumption)⟩
 rw [List.set_set] at hv12
 have hs12:=Zd0 (z:=((⟨((g.2.1:Nat):Int),ZT (g.2.1+1),ZT (g.2.1+1+1),Zc5 (g.2.1+1+1+1) x.left.length⟩:DItem))) hy
 refine Zog [0] rfl (Zf (xM (h:=xD (h:=xA (h:=?_)))))
 exact ZD (g.1+1,g.2.1+1+1+1+1*x.left.length,_,(g.2.2.2.set g.1 ((⟨((g.2.1:Nat):Int),ZT (g.2.1+1),ZT (g.2.1+1+1),Zc5 (g.2.1+1+1+1) x.left.length⟩:DItem)))) [0] so2 ⟨rfl,so,by simp only [];rw [Zht hx,← hs,hst];omega,Zmp hle,Zkb ht hx hle hs,ZmV hd,hv12⟩ t4 rfl
 try simp only [sQ,ne_eq] at g1
 have he:=Zpj ht hle oz
 refine ZE (ZV (ZH (Zw (Zo (Za (xM (h:=xA (h:=Ze ?_))))))))
 exact ZeC .ret (.inl rfl) [_] [0] rfl ⟨rfl,trivial⟩ ⟨rfl,_,rfl,by rw [hs,ZmL (by omega)];rfl,by rw [← he];exact hw⟩

theorem Zlz (q1:Option Addr) (c1:Nat) (x:DQueue) (l1:Cells) (k:Nat) (hk:kL Zb1 k x.items≤800000000000000) (hn:x.items.length≤2000000) (B:Kn) (hv:ZaP l1 q1 c1 145 4 (ZaR 9) x.items):Zv (pj J) 64 [.agg #[.int .i64 x.next,.slice q1 x.items.length c1],.int .i64 k] B [l1] (fun v B' Ls=>B'=B∧∃l',Ls=[l']∧v = .int .i64 ((kL Zb1 k x.items:Nat):Int)∧ZaP l' q1 c1 145 4 (ZaR 9) (mkL Zb1 mkI k x.items)):=by
 refine cB 10 Tryz.func64 (h:=?_)
 refine Za (xBx [_,_] (h:=fun b1=>xA (h:=tL2 (Za (xW ZbG (h:=x1 Zin 1 (h:=xM (h:=xK [0] rfl ZyY rfl (ZlB _ _ x.items _ k oa oz _ hv) (h:=?_)))))))))
 rintro _ B2 _ hle2 ⟨rfl,l2,rfl,rfl,hs2⟩
 refine xA (h:=tL2 (Za (xM (h:=xA (h:=Ze ?_)))))
 exact eN [0] rfl t1 ⟨rfl,_,rfl,rfl,hs2⟩

theorem Zil (q1 q2 q3:Option Addr) (c1 c2 c3:Nat) (x:DHost) (l1 l2 l3:Cells) (k:Nat) (hk:kH k x≤800000000000000) (hn1:x.users.length≤2000000) (hn2:x.folders.length≤2000000) (hn3:x.queue.items.length≤2000000) (B:Kn) (hu:ZN Kn.none l1 q1 c1 141 3 Zs x.users) (hf:ZaP l2 q2 c2 96 5 (ZU 259 99) x.folders) (hi:ZaP l3 q3 c3 145 4 (ZaR 9) x.queue.items):Zv (pj J) 21 [.agg #[str x.domain,.slice q1 x.users.length c1,.slice q2 x.folders.length c2,.int .i64 x.queue.next,.slice q3 x.queue.items.length c3],.int .i64 k] B [l1,l2,l3] (fun v B' Ls=>B'=B∧∃l1' l2' l3',Ls=[l1',l2',l3']∧v = .int .i64 ((kH k x:Nat):Int)∧ZN Kn.none l1' q1 c1 141 3 Zs (Zcr k x.users.length)∧ZaP l2' q2 c2 96 5 (ZU 259 99) (mkL ZbB mkF (k+3*x.users.length) x.folders)∧ZaP l3' q3 c3 145 4 (ZaR 9) (mkL Zb1 mkI (kL ZbB (k+3*x.users.length) x.folders) x.queue.items)):=by
 refine cB 18 Tryz.func21 (h:=?_)
 have hk3:kL Zb1 (kL ZbB (k+3*x.users.length) x.folders) x.queue.items≤800000000000000:=hk
 have hk2:(kL ZbB (k+3*x.users.length) x.folders)≤800000000000000:=Nat.le_trans Zr1 hk3
 have hk1:(k+3*x.users.length)≤800000000000000:=Nat.le_trans Zr1 hk2
 refine Za (xBx [_,_,_,_,_] (h:=fun b1=>xA (h:=tL4 (Za (xW ZbZ (h:=x1 ZiW 3 (h:=xM (h:=xK [0] rfl ZAd rfl (Zly _ _ x.users _ k oz oz _ (hu.anyK Zs.any)) (h:=?_)))))))))
 rintro _ B2 _ hle2 ⟨rfl,l2,rfl,rfl,hs2⟩
 refine xA (h:=tL4 (Za (xW Zay (h:=x1 ZeO 3 (h:=xM (h:=xK [1] rfl ZAc rfl (ZiV _ _ x.folders _ (k+3*x.users.length) oa oz _ hf) (h:=?_)))))))
 rintro _ B3 _ hle3 ⟨rfl,l3,rfl,rfl,hs3⟩
 refine xA (h:=tL4 (Za (xW Zeh (h:=xL [_,_] ZkX 3 (h:=xM (h:=xK [2] rfl ZAb rfl (Zlz _ _ x.queue _ (kL ZbB (k+3*x.users.length) x.folders) oa oz _ hi) (h:=?_)))))))
 rintro _ B4 _ hle4 ⟨rfl,l4a,rfl,rfl,hs4a⟩
 refine xA (h:=tL4 (Za (xM (h:=xA (h:=Ze ?_)))))
 exact eN [0,1,2] rfl t1 ⟨rfl,_,_,_,rfl,rfl,hs2.anyK Zs.any,hs3,hs4a⟩

theorem Zi6 (q:Option Addr) (cp:Nat) (xs:List DFolder) (k m:Nat) (hmn:m=xs.length) (hk:kL ZbB k xs≤800000000000000) (B:Kn) (hx0:SlK B q cp 5 Zu (mkL ZbB mkF k xs)):Zaa (pj J) 71 [.slice q m cp,.int .i64 k] B (.int .i64 ((kL ZbB k xs:Nat):Int)):=by
 refine cB 62 Tryz.func71 (h:=?_)
 have hxn:=hx0.len
 have hml:=Zd3 (st:=ZbB) (mk:=mkF) (xs:=xs) k
 refine Za (xA (h:=Zc (Za (xA (h:=Zh (Zz (α:=Nat × Nat) [0] (fun g=>[(1,.int .i64 g.2),(5,.int .i64 g.1)]) [] (fun g=>[]) (fun g Bx=>Bx=B∧g.1≤xs.length∧g.2=kL ZbB k (xs.take g.1)) (fun g=>xs.length - g.1) (0,k) t2 rfl (⟨rfl,Nat.zero_le _,ZmK.symm⟩) (fun g B1 hle1 hI=>?_)))))))
 obtain ⟨rfl,hi,hs⟩:=hI
 refine ZC [(0,_),(1,_),(5,_)] [] t3 rfl (Zc (Za (xM (h:=xM (h:=xV Tryz.underlying24 (h:=ZF (h:=Zb rfl (fun g1=>?_) (fun g1=>?_))))))))
 try simp only [sQ,ne_eq] at g1
 obtain ⟨x,hx⟩:=ZY (xs:=xs) (i:=g.1) oz
 have hkl:=Nat.le_trans (Zr2 (st:=ZbB) (k:=k) hx) hk
 rw [← hs] at hkl
 have hst:ZbB x=3+2*x.grants.length+3*x.mail.length:=rfl
 have hz:(mkL ZbB mkF k xs)[g.1]? = some (mkF g.2 x):=by rw [hs];exact Zlu k hx
 refine wSk (Zc (Zh (Zc (Zc (Z2 (same _ _) mo kr ⟨rfl,rfl⟩ (fun _ _=>?_))))))
 refine aM 0 rfl (h:=aM 1 rfl (h:=?_))
 obtain ⟨bb2,oo2,rfl⟩:=hx0.base hz
 obtain ⟨_,⟨qg3,cg3,qm3,cm3,rfl,hg3,hm3,hb3,hb3b⟩,hc3⟩:=hx0.elem hz
 have hg3n:=hg3.len
 have hm3n:=hm3.len
 have hm3s:=Zaq hm3
 refine aIx 2 rfl Tryz.underlying24 Zb0 (h:=aW 3 rfl Zcc (h:=aT 4 rfl (Zac fun D=>Zm rfl rfl lk9 rfl (hc3 _ 0 _ rfl) r4) (h:=aM 5 rfl (h:=aT 6 rfl (Zac fun D=>Z8 rfl rfl Zjw rfl (Zah g.2 oz _) r4) (h:=?_)))))
 refine Zfg 7 rfl (h:=Zt kr kr ?_)
 refine Zo (Zb rfl (fun h1=>by simp [mkF] at h1) (fun h1=>?_))
 try simp only [sQ,ne_eq] at h1
 refine wSk (Za (xM (h:=xD (h:=xA (h:=Zc (Zc (Z2 (same _ _) mo kr ⟨rfl,rfl⟩ (fun _ _=>?_))))))))
 refine aM 0 rfl (h:=aM 1 rfl (h:=aIx 2 rfl Tryz.underlying24 Zb0 (h:=aW 3 rfl ZdJ (h:=aT 4 rfl (Zac fun D=>Zm rfl rfl lk9 rfl (hc3 _ 1 _ rfl) r4) (h:=aM 5 rfl (h:=aT 6 rfl (Zac fun D=>Z8 rfl rfl Zjw rfl (Zah (g.2+1) oz _) r4) (h:=?_)))))))
 refine Zfg 7 rfl (h:=Zt kr kr ?_)
 refine Zo (Zb rfl (fun h2=>by simp [mkF] at h2) (fun h2=>?_))
 try simp only [sQ,ne_eq] at h2
 refine wSk (Za (xM (h:=xD (h:=xA (h:=Za (xM (h:=xM (h:=xIx Tryz.underlying24 Zb0 (h:=xW ZdI (h:=y1 ZqU hc3 2 (h:=xM (h:=xR ZyT rfl (Zkp _ _ _ ((g.2+1)+1) _ x.grants.length (by first | rfl | exact Zat _ _) rfl oz _ hg3) (h:=?_)))))))))))))
 refine xA (h:=Zc (Za (xM (h:=ZF (h:=Zb rfl (fun h3=>by first | omega | (simp at h3;done) | (simp at h3;omega)) (fun h3=>?_))))))
 try simp only [sQ,ne_eq] at h3
 refine wSk (Zc (Za (xM (h:=xM (h:=xIx Tryz.underlying24 Zb0 (h:=xW Zcb (h:=xW ZeA (h:=y1 lk3 hc3 3 (h:=xM (h:=ZaL (h:=Zb rfl (fun h4=>by simp [mkF] at h4) (fun h4=>?_))))))))))))
 try simp only [sQ,ne_eq] at h4
 refine wSk (Za (xM (h:=xD (h:=xA (h:=Za (xM (h:=xM (h:=xIx Tryz.underlying24 Zb0 (h:=xW Zcb (h:=xW Za9 (h:=y1 Zh0 hc3 4 (h:=xM (h:=xR ZyS rfl (ZlR _ _ _ ((((g.2+1)+1)+2*x.grants.length)+1) _ x.mail.length (by first | rfl | exact ZaD _ _) rfl oz _ hm3) (h:=?_))))))))))))))
 refine xA (h:=Za (xM (h:=ZF (h:=Zb rfl (fun h5=>by first | omega | (simp at h5;done) | (simp at h5;omega)) (fun h5=>?_)))))
 try simp only [sQ,ne_eq] at h5
 refine ZX (ZP (Zo (Zf (xM (h:=xD (h:=xA (h:=?_)))))))
 exact ZD (g.1+1,g.2+1+1+2*x.grants.length+1+3*x.mail.length) [] so2 ⟨rfl,so,by simp only [];rw [Zht hx,← hs,hst];omega⟩ t3 rfl
 try simp only [sQ,ne_eq] at g1
 refine ZE (ZV (ZH (Zw (Zo (Za (xM (h:=xA (h:=Ze ?_))))))))
 exact eR t1 ⟨ZG (by rw [hs,ZmL oz]),rfl,rfl⟩

theorem ZlS (q:Option Addr) (cp:Nat) (xs:List DItem) (k m:Nat) (hmn:m=xs.length) (hk:kL Zb1 k xs≤800000000000000) (B:Kn) (hx0:SlK B q cp 4 ZI (mkL Zb1 mkI k xs)):Zaa (pj J) 126 [.slice q m cp,.int .i64 k] B (.int .i64 ((kL Zb1 k xs:Nat):Int)):=by
 refine cB 51 Tryz.func126 (h:=?_)
 have hxn:=hx0.len
 have hml:=Zd3 (st:=Zb1) (mk:=mkI) (xs:=xs) k
 refine Za (xA (h:=Zc (Za (xA (h:=Zh (Zz (α:=Nat × Nat) [0] (fun g=>[(1,.int .i64 g.2),(5,.int .i64 g.1)]) [] (fun g=>[]) (fun g Bx=>Bx=B∧g.1≤xs.length∧g.2=kL Zb1 k (xs.take g.1)) (fun g=>xs.length - g.1) (0,k) t2 rfl (⟨rfl,Nat.zero_le _,ZmK.symm⟩) (fun g B1 hle1 hI=>?_)))))))
 obtain ⟨rfl,hi,hs⟩:=hI
 refine ZC [(0,_),(1,_),(5,_)] [] t3 rfl (Zc (Za (xM (h:=xM (h:=xV Tryz.underlying25 (h:=ZF (h:=Zb rfl (fun g1=>?_) (fun g1=>?_))))))))
 try simp only [sQ,ne_eq] at g1
 obtain ⟨x,hx⟩:=ZY (xs:=xs) (i:=g.1) oz
 have hkl:=Nat.le_trans (Zr2 (st:=Zb1) (k:=k) hx) hk
 rw [← hs] at hkl
 have hst:Zb1 x=3+x.left.length:=rfl
 have hz:(mkL Zb1 mkI k xs)[g.1]? = some (mkI g.2 x):=by rw [hs];exact Zlu k hx
 refine wSk (Zc (Zh (Zc (Za (xM (h:=xM (h:=?_)))))))
 obtain ⟨bb2,oo2,rfl⟩:=hx0.base hz
 obtain ⟨_,⟨qi3,ci3,rfl,hi3,hb3,hb3b⟩,hc3⟩:=hx0.elem hz
 have hi3n:=hi3.len
 refine xIx Tryz.underlying25 Zbr (h:=xW Zd7 (h:=y1 lk3 hc3 0 (h:=xM (h:=ZaL (h:=Zb rfl (fun h1=>by simp [mkI] at h1) (fun h1=>?_))))))
 try simp only [sQ,ne_eq] at h1
 refine wSk (Za (xM (h:=xD (h:=xA (h:=Zc (Zc (Z2 (same _ _) mo kr ⟨rfl,rfl⟩ (fun _ _=>?_))))))))
 refine aM 0 rfl (h:=aM 1 rfl (h:=aIx 2 rfl Tryz.underlying25 Zbr (h:=aW 3 rfl Zd6 (h:=aT 4 rfl (Zac fun D=>Zm rfl rfl lk9 rfl (hc3 _ 1 _ rfl) r4) (h:=aM 5 rfl (h:=aT 6 rfl (Zac fun D=>Z8 rfl rfl Zjw rfl (Zah (g.2+1) oz _) r4) (h:=?_)))))))
 refine Zfg 7 rfl (h:=Zt kr kr ?_)
 refine Zo (Zb rfl (fun h2=>by simp [mkI] at h2) (fun h2=>?_))
 try simp only [sQ,ne_eq] at h2
 refine wSk (Za (xM (h:=xD (h:=xA (h:=Zc (Zc (Z2 (same _ _) mo kr ⟨rfl,rfl⟩ (fun _ _=>?_))))))))
 refine aM 0 rfl (h:=aM 1 rfl (h:=aIx 2 rfl Tryz.underlying25 Zbr (h:=aW 3 rfl Zfy (h:=aT 4 rfl (Zac fun D=>Zm rfl rfl lk9 rfl (hc3 _ 2 _ rfl) r4) (h:=aM 5 rfl (h:=aT 6 rfl (Zac fun D=>Z8 rfl rfl Zjw rfl (Zah ((g.2+1)+1) oz _) r4) (h:=?_)))))))
 refine Zfg 7 rfl (h:=Zt kr kr ?_)
 refine Zo (Zb rfl (fun h3=>by simp [mkI] at h3) (fun h3=>?_))
 try simp only [sQ,ne_eq] at h3
 refine wSk (Za (xM (h:=xD (h:=xA (h:=Za (xM (h:=xM (h:=xIx Tryz.underlying25 Zbr (h:=xW Zcs (h:=y1 Zft hc3 3 (h:=xM (h:=xR Zyg rfl (ZnN _ _ _ (((g.2+1)+1)+1) _ x.left.length (by first | rfl | exact Zbb _ _) rfl oz _ hi3) (h:=?_)))))))))))))
 refine xA (h:=Za (xM (h:=ZF (h:=Zb rfl (fun h4=>by first | omega | (simp at h4;done) | (simp at h4;omega)) (fun h4=>?_)))))
 try simp only [sQ,ne_eq] at h4
 refine ZX (ZP (Zo (Zf (xM (h:=xD (h:=xA (h:=?_)))))))
 exact ZD (g.1+1,g.2+1+1+1+1*x.left.length) [] so2 ⟨rfl,so,by simp only [];rw [Zht hx,← hs,hst];omega⟩ t3 rfl
 try simp only [sQ,ne_eq] at g1
 refine ZE (ZV (ZH (Zw (Zo (Za (xM (h:=xA (h:=Ze ?_))))))))
 exact eR t1 ⟨ZG (by rw [hs,ZmL oz]),rfl,rfl⟩

theorem ZlQ (q:Option Addr) (cp:Nat) (x:DQueue) (k:Nat) (hk:kL Zb1 k x.items≤800000000000000) (B:Kn) (hi:SlK B q cp 4 ZI (mkL Zb1 mkI k x.items)):Zaa (pj J) 72 [.agg #[.int .i64 x.next,.slice q x.items.length cp],.int .i64 k] B (.int .i64 ((kL Zb1 k x.items:Nat):Int)):=by
 refine cB 12 Tryz.func72 (h:=?_)
 refine Za (xBx [_,_] (h:=fun b1=>xA (h:=tL1 (Za (xW ZbG (h:=x1 Zin 0 (h:=xM (h:=xR ZyR rfl (ZlS _ _ x.items k _ rfl oa _ hi) (h:=?_)))))))))
 refine xA (h:=Zc (Za (xM (h:=ZF (h:=Zb rfl (fun h1=>by first | omega | (simp at h1;done) | (simp at h1;omega)) (fun h1=>?_))))))
 refine wSk (Za (xM (h:=xA (h:=Ze ?_))))
 exact eR t1 ⟨rfl,rfl,rfl⟩

theorem Zir (q1 q2 q3:Option Addr) (c1 c2 c3:Nat) (x:DHost) (k:Nat) (hk:kH k x≤800000000000000) (B:Kn) (hu:SlK B q1 c1 3 Zs (Zcr k x.users.length)) (hf:SlK B q2 c2 5 Zu (mkL ZbB mkF (k+3*x.users.length) x.folders)) (hi:SlK B q3 c3 4 ZI (mkL Zb1 mkI (kL ZbB (k+3*x.users.length) x.folders) x.queue.items)):Zaa (pj J) 29 [.agg #[str x.domain,.slice q1 x.users.length c1,.slice q2 x.folders.length c2,.int .i64 x.queue.next,.slice q3 x.queue.items.length c3],.int .i64 k] B (.int .i64 ((kH k x:Nat):Int)):=by
 refine cB 24 Tryz.func29 (h:=?_)
 have hk3:kL Zb1 (kL ZbB (k+3*x.users.length) x.folders) x.queue.items≤800000000000000:=hk
 have hk2:(kL ZbB (k+3*x.users.length) x.folders)≤800000000000000:=Nat.le_trans Zr1 hk3
 have hk1:(k+3*x.users.length)≤800000000000000:=Nat.le_trans Zr1 hk2
 refine Za (xBx [_,_,_,_,_] (h:=fun b1=>xA (h:=tL1 (Za (xW ZbZ (h:=x1 ZiW 0 (h:=xM (h:=xR Zz6 rfl (ZlP _ _ _ k _ x.users.length (by first | rfl | exact Zbk _ _) rfl oz _ hu) (h:=?_)))))))))
 refine xA (h:=Zc (Za (xM (h:=ZF (h:=Zb rfl (fun h1=>by first | omega | (simp at h1;done) | (simp at h1;omega)) (fun h1=>?_))))))
 refine wSk (Za (xW Zay (h:=x1 ZeO 0 (h:=xM (h:=xR Zz5 rfl (Zi6 _ _ x.folders (k+3*x.users.length) _ rfl oa _ hf) (h:=?_))))))
 refine xA (h:=Zc (Za (xM (h:=ZF (h:=Zb rfl (fun h2=>by first | omega | (simp at h2;done) | (simp at h2;omega)) (fun h2=>?_))))))
 refine wSk (Za (xW Zeh (h:=xL [_,_] ZkX 0 (h:=xM (h:=xR Zz4 rfl (ZlQ _ _ x.queue (kL ZbB (k+3*x.users.length) x.folders) oa _ hi) (h:=?_))))))
 refine xA (h:=Zc (Za (xM (h:=ZF (h:=Zb rfl (fun h3=>by first | omega | (simp at h3;done) | (simp at h3;omega)) (fun h3=>?_))))))
 refine wSk (Za (xM (h:=xA (h:=Ze ?_))))
 exact eR t1 ⟨rfl,rfl,rfl⟩

theorem Zwa (v:Value) (Q:Value→Kn→Cells→Prop) (B:Kn) (L:Cells):hb Tryz.prog (Extern.ReflectliteType.typeOf #[.iface 372 v]) Q B L=Q (.iface 303 (.agg #[.pointer (some ⟨5,372,none⟩)])) B L:=by kernel_rfl

theorem Zwb (v:Value) (k:Nat) (Q:FuncId × Value→Kn→Cells→Prop) (B:Kn) (L:Cells):hb Tryz.prog (Go.method (k+1) 303 v "Comparable") Q B L=Q (313,v) B L:=by kernel_rfl

theorem Zwc (Q:Value→Kn→Cells→Prop) (B:Kn) (L:Cells):hb Tryz.prog ((Extern.ReflectliteType.method fun t=>do Extern.Rtype.noPackHeld "Comparable" t;pure (.bool (← typeInfo t).comparable)) #[(.agg #[.pointer (some ⟨5,372,none⟩)])]) Q B L=Q (.bool true) B L:=by kernel_rfl

theorem ZuB:Extern.find Tryz.f313=some (Extern.ReflectliteType.method fun t=>do Extern.Rtype.noPackHeld "Comparable" t;pure (.bool (← typeInfo t).comparable)):=by kernel_rfl
theorem ZuA:Extern.find Tryz.f156=some Extern.ReflectliteType.typeOf:=by kernel_rfl

theorem Zxs:Extern.findNext Tryz.f156=none:=by kernel_rfl
theorem Zxt:Extern.findNext Tryz.f313=none:=by kernel_rfl

theorem Zuy (c k:Nat) (hc:c<4) (hk:k<4) (a:Nat→Addr)  (B:Kn) (hE:ErrsB 372 [0,1,2,3] B a):Zaa (pj J) 157 [errv 372 a (c+1),errv 372 a (k+1),.bool true] B (.bool (decide (c+1=k+1))):=by
 refine cB 54 Tryz.func157 (h:=?_)
 refine Za (xA (h:=Zh (Zz (α:=Unit) [1,2] (fun u=>[(0,errv 372 a (c+1))]) [] (fun u=>[]) (fun u Bx=>Bx=B) (fun u=>0) () t1 rfl (rfl) (fun u B1 hle1 hI=>?_))))
 subst hI
 refine ZC [(0,_),(1,_),(2,_)] [] t3 rfl (Zh (Zc (Za (xM (h:=xM (h:=Zy (d:=15) rfl (fun g1=>?_) (fun g1=>by cases g1)))))))
 try simp only [sQ,ne_eq] at g1
 refine xM (h:=xM (h:=Zk (Zoo (a:=a) (c:=(c+1)) (k:=k) hE oz oz rfl rfl Tryz.underlying82 Tryz.underlying372 ZzC Zvu rfl rfl ?_)))
 refine xT (h:=Zb rfl (fun g2=>?_) (fun g2=>?_))
 try simp only [sQ,ne_eq] at g2
 refine Za (xA (h:=Ze (Zn (ZB (ZS (ZB ?_))))))
 exact eR t1 ⟨Zd (decide_eq_true g2).symm,rfl,rfl⟩
 try simp only [sQ,ne_eq] at g2
 refine wSk (Zc (Za (xM (h:=Zk (Zhb rfl rfl Tryz.underlying305 kr ZwL rfl ?_)))))
 refine xM (h:=xE (h:=xE (h:=xA (h:=xA (h:=Za (xM (h:=xM (h:=Zy (d:=26) rfl (fun g3=>by cases g3) (fun g3=>?_)))))))))
 try simp only [sQ,ne_eq] at g3
 refine xP (h:=xP (h:=xP (h:=xF (h:=Zb (t:=false) rfl (fun h=>Bool.noConfusion h) (fun _=>wSk (Za (xM (h:=Zh (Za (Zk (Zhb rfl rfl Tryz.underlying308 kr ZwK rfl ?_)))))))))))
 refine xE (h:=xE (h:=Zb rfl (fun g5=>by cases g5) (fun g5=>?_)))
 try simp only [sQ,ne_eq] at g5
 refine Za (Zk (Zhb rfl rfl Tryz.underlying310 kr ZwJ rfl ?_))
 refine xE (h:=xE (h:=Zb rfl (fun g6=>by cases g6) (fun g6=>?_)))
 try simp only [sQ,ne_eq] at g6
 refine Za (xA (h:=Za (xA (h:=Ze (ZB (ZB (ZS (ZB ?_))))))))
 exact eR t1 ⟨Zd (decide_eq_false g2).symm,rfl,rfl⟩

theorem Zux (c k:Nat) (hc:c<4) (hk:k<4) (a:Nat→Addr)  (B:Kn) (hE:ErrsB 372 [0,1,2,3] B a):Zaa (pj J) 90 [errv 372 a (c+1),errv 372 a (k+1)] B (.bool (decide (c+1=k+1))):=by
 refine cB 22 Tryz.func90 (h:=?_)
 refine Za (xA (h:=Zc (Za (xM (h:=Zk (Zml (tE:=372) (a:=a) (c:=(c+1)) rfl rfl Tryz.underlying82 rfl (xM (h:=Zy (d:=8) rfl (fun g1=>by simp at g1) (fun g1=>?_)))))))))
 refine xM (h:=Zk (Zml (tE:=372) (a:=a) (c:=(k+1)) rfl rfl Tryz.underlying82 rfl (xF (h:=Zb rfl (fun g2=>by simp at g2) (fun g2=>?_)))))
 refine wSk (Za (xM (h:=Zk (Zvl (fn:=Tryz.f156) rfl rfl Tryz.func156 rfl rfl Zxs ZuA rfl (Zwa _) (Zk (Zvi (f:=313) (fn:=Tryz.f313) rfl rfl Tryz.func313 rfl rfl Zxt ZuB rfl (Zwb _) Zwc (xA (h:=Za (xM (h:=xM (h:=xM (h:=xR ZyE rfl (Zuy c k oz oz a _ hE) (h:=?_)))))))))))))
 refine xA (h:=Ze ?_)
 exact eR t1 ⟨rfl,rfl,rfl⟩

theorem Zuz (k:Nat) (hk:k<4) (a:Nat→Addr)  (B:Kn) (hE:ErrsB 372 [0,1,2,3] B a):Zaa (pj J) 90 [.nilIface,errv 372 a (k+1)] B (.bool (decide (0=k+1))):=by
 refine cB 22 Tryz.func90 (h:=?_)
 refine Za (xA (h:=Zc (Za (xM (h:=Zk (Zml (tE:=372) (a:=a) (c:=0) rfl rfl Tryz.underlying82 rfl (xM (h:=Zy (d:=8) rfl (fun g1=>?_) (fun g1=>by simp at g1)))))))))
 refine xP (h:=xP (h:=xT (h:=Zb (t:=true) rfl (fun _=>Za (xM (h:=xM (h:=Zk (Zoo (a:=a) (c:=0) (k:=k) hE oz oz rfl rfl Tryz.underlying82 Tryz.underlying372 ZzC Zvu rfl rfl ?_))))) (fun h=>Bool.noConfusion h))))
 refine xA (h:=Ze (Zn ?_))
 exact eR t1 ⟨rfl,rfl,rfl⟩

theorem ZmU (c k:Nat) (hc:c<5) (hk:k<4) (a:Nat→Addr)  (B:Kn) (hE:ErrsB 372 [0,1,2,3] B a):Zaa (pj J) 90 [errv 372 a c,errv 372 a (k+1)] B (.bool (decide (c=k+1))):=by
 cases c with
 | zero=>exact Zuz k hk a B hE
 | succ c=>exact Zux c k oz hk a B hE

theorem Zgn (c:Nat) (hc:c<5) (a:Nat→Addr)  (B:Kn) (hE:ErrsB 372 [0,1,2,3] B a):Zaa (pj J) 39 [errv 372 a (c)] B (.int .i64 c):=by
 refine cB 22 Tryz.func39 (h:=?_)
 refine Za (xA (h:=Zc (Zh (Za (xM (h:=Zk (Zml (tE:=372) (a:=a) (c:=c) rfl rfl Tryz.underlying82 rfl (xA (h:=Zb rfl (fun g0=>?_) (fun g0=>?_))))))))))
 try simp only [sQ,ne_eq] at g0
 refine Za (xA (h:=Ze (ZB (Zn ?_))))
 exact eR t1 ⟨ZG oz,rfl,rfl⟩
 try simp only [sQ,ne_eq] at g0
 refine Za (xM (h:=Zk (Zm rfl rfl Zt3 rfl ((hE.row 0 (by decide)) _ 0 _ rfl) ?_)))
 refine xR ZwD rfl (ZmU c 0 om2 om2 a _ hE) (h:=?_)
 refine xA (h:=Zb rfl (fun g1=>?_) (fun g1=>?_))
 try simp only [sQ,ne_eq] at g1
 refine Za (xA (h:=Ze (ZB (Zn ?_))))
 exact eR t1 ⟨ZG oz,rfl,rfl⟩
 try simp only [sQ,ne_eq] at g1
 refine Za (xM (h:=Zk (Zm rfl rfl Zt3 rfl ((hE.row 1 (by decide)) _ 0 _ rfl) ?_)))
 refine xR ZwD rfl (ZmU c 1 om2 om2 a _ hE) (h:=?_)
 refine xA (h:=Zb rfl (fun g2=>?_) (fun g2=>?_))
 try simp only [sQ,ne_eq] at g2
 refine Za (xA (h:=Ze (ZB (Zn ?_))))
 exact eR t1 ⟨ZG oz,rfl,rfl⟩
 try simp only [sQ,ne_eq] at g2
 refine Za (xM (h:=Zk (Zm rfl rfl Zt3 rfl ((hE.row 2 (by decide)) _ 0 _ rfl) ?_)))
 refine xR ZwD rfl (ZmU c 2 om2 om2 a _ hE) (h:=?_)
 refine xA (h:=Zb rfl (fun g3=>?_) (fun g3=>?_))
 try simp only [sQ,ne_eq] at g3
 refine Za (xA (h:=Ze (ZB (Zn ?_))))
 exact eR t1 ⟨ZG oz,rfl,rfl⟩
 try simp only [sQ,ne_eq] at g3
 refine Za (xM (h:=Zk (Zm rfl rfl Zt3 rfl ((hE.row 3 (by decide)) _ 0 _ rfl) ?_)))
 refine xR ZwD rfl (ZmU c 3 om2 om2 a _ hE) (h:=?_)
 refine xA (h:=Zb rfl (fun g4=>?_) (fun g4=>?_))
 try simp only [sQ,ne_eq] at g4
 refine Za (xA (h:=Ze (ZB (Zn ?_))))
 exact eR t1 ⟨ZG oz,rfl,rfl⟩
 try simp only [sQ,ne_eq] at g4
 refine ZX (ZP (Zo (Za (xA (h:=Ze ?_)))))
 exact eR t1 ⟨ZG oz,rfl,rfl⟩

theorem ZqB (b o:Nat) (q1 q2 q3:Option Addr) (c1 c2 c3:Nat) (x:DHost) (u ow nm:Str) (rr:Int) (hn:u.length≤2000000) (ho:ow.length≤2000000) (hm:nm.length≤2000000) (a:Nat→Addr)  (B:Kn) (hE:ErrsB 372 [0,1,2,3] B a) (hh:Zau B b o [str x.domain,.slice q1 x.users.length c1,.slice q2 x.folders.length c2,.int .i64 x.queue.next,.slice q3 x.queue.items.length c3]) (hu:SlK B q1 c1 3 Zs x.users) (hf:SlK B q2 c2 5 Zu x.folders):Zaa (pj J) 38 [ptr ⟨b,o,none⟩,str u,str ow,str nm,.int .i64 rr] B (.tuple #[.int .i64 (if ZcV x.users x.folders u ow nm rr=0 then ZbR (inF ow nm) x.folders else -1),errv 372 a (ZcV x.users x.folders u ow nm rr)]):=by
 refine cB 47 Tryz.func38 (h:=?_)
 have hfn:=hf.len
 have hix:=Zhx (inF ow nm) x.folders
 refine Za (xA (h:=xA (h:=Za (xM (h:=xM (h:=xM (h:=xR Zzu rfl (Ztg _ _ _ _ _ _ _ _ x ow nm om2 om2 _ hh hf) (h:=?_))))))))
 refine xA (h:=Zc (Za (xM (h:=ZF (h:=xM (h:=Zy (d:=19) rfl (fun g1=>?_) (fun g1=>?_)))))))
 try simp only [sQ,ne_eq] at g1
 refine xP (h:=xP (h:=xP (h:=xP (h:=xP (h:=xP (h:=xP (h:=xP (h:=xP (h:=xP (h:=xP (h:=xT (h:=Zb (t:=true) rfl (fun _=>Zc (Z2 (same _ _) mo kr ⟨rfl,rfl⟩ (fun _ _=>?_))) (fun h=>Bool.noConfusion h)))))))))))))
 refine aT 0 rfl (Zac fun D=>Zm rfl rfl Zt3 rfl ((hE.row 0 (by decide)) _ 0 _ rfl) r4) (h:=?_)
 refine aA 1 rfl (h:=aA 2 rfl (h:=Zt kr kr ?_))
 refine Zo (Ze (Zn ?_))
 exact Zql .ret (.inl rfl) [_,_] t2 ⟨(by rw [show ZcV x.users x.folders u ow nm rr=1 from Zqw (by simpa using g1)];rfl),rfl,rfl⟩
 try simp only [sQ,ne_eq] at g1
 refine xM (h:=xM (h:=xM (h:=xNc (h:=xW Zay (h:=Zk (Zm rfl rfl ZeO rfl (hh _ 2 _ rfl) (xM (h:=?_))))))))
 obtain ⟨w,hw⟩:=ZuY (xs:=x.folders) (i:=(ZbR (inF ow nm) x.folders)) om om
 obtain ⟨bb3,oo3,rfl⟩:=hf.base hw
 obtain ⟨_,⟨qg4,cg4,qm4,cm4,rfl,hg4,hm4,hb4,hb4b⟩,hc4⟩:=hf.elem hw
 have hg4n:=hg4.len
 have hm4n:=hm4.len
 have hm4s:=Zaq hm4
 refine xIx Tryz.underlying24 Zb0 (h:=yL [_,_,_,_,_] ZhZ hc4 0 (h:=xR Zzt rfl (ZvM _ _ _ _ _ _ _ _ x _ _ _ _ u w _ om2 om2 _ hh hu hg4) (h:=?_)))
 refine xN (h:=xF (h:=Zb rfl (fun g3=>?_) (fun g3=>?_)))
 try simp only [sQ,ne_eq] at g3
 refine Zc (Z2 (same _ _) mo kr ⟨rfl,rfl⟩ (fun _ _=>?_))
 refine aT 0 rfl (Zac fun D=>Zm rfl rfl Zt3 rfl ((hE.row 0 (by decide)) _ 0 _ rfl) r4) (h:=?_)
 refine aA 1 rfl (h:=aA 2 rfl (h:=Zt kr kr ?_))
 refine Zo (Ze (Zn ?_))
 exact Zql .ret (.inl rfl) [_,_] t2 ⟨(by rw [show ZcV x.users x.folders u ow nm rr=1 from by rw [Zjp oz hw,if_pos (by simpa using g3)]];rfl),rfl,rfl⟩
 try simp only [sQ,ne_eq] at g3
 refine wSk (Zc (Za (xM (h:=xM (h:=xM (h:=xNc (h:=xW Zay (h:=Zk (Zm rfl rfl ZeO rfl (hh _ 2 _ rfl) (xM (h:=xIx Tryz.underlying24 Zb0 (h:=yL [_,_,_,_,_] ZhZ hc4 0 (h:=xM (h:=xR Zzt rfl (ZvM _ _ _ _ _ _ _ _ x _ _ _ _ u w _ om2 om2 _ hh hu hg4) (h:=?_)))))))))))))))
 refine xN (h:=Zb rfl (fun g4=>?_) (fun g4=>?_))
 try simp only [sQ,ne_eq] at g4
 refine Zc (Z2 (same _ _) mo kr ⟨rfl,rfl⟩ (fun _ _=>?_))
 refine aT 0 rfl (Zac fun D=>Zm rfl rfl Zt3 rfl ((hE.row 1 (by decide)) _ 0 _ rfl) r4) (h:=?_)
 refine aA 1 rfl (h:=aA 2 rfl (h:=Zt kr kr ?_))
 refine Zo (Ze (Zn ?_))
 exact Zql .ret (.inl rfl) [_,_] t2 ⟨(by rw [show ZcV x.users x.folders u ow nm rr=2 from by rw [Zjp oz hw,if_neg (by simp [g3]),if_pos (by simpa using g4)]];rfl),rfl,rfl⟩
 try simp only [sQ,ne_eq] at g4
 refine wSk (Za (xM (h:=xA (h:=xA (h:=Ze ?_)))))
 exact Zql .ret (.inl rfl) [_,_] t2 ⟨(by rw [show ZcV x.users x.folders u ow nm rr=0 from by rw [Zjp oz hw,if_neg (by simp [g3]),if_neg (by simp [g4])]];rfl),rfl,rfl⟩

theorem ZhE (q:Option Addr) (cp:Nat) (xs:List DFolder) (B:Kn) (hx:SlK B q cp 5 Zu xs):Zv (pj J) 165 [.slice q xs.length cp] B [] (fun v B' Ls=>B'=B∧∃l a c,Ls=[l]∧v = .slice a xs.length c∧ZaP l a c 96 5 (ZU 259 99) xs):=by
 refine cB 22 Tryz.func165 (h:=?_)
 have hxn:=hx.len
 refine Za (xA (h:=Za (xM (h:=xV Tryz.underlying24 (h:=Zk (Za2 (m:=0) (c:=xs.length) (by_:=88) [.string ⟨#[]⟩,.string ⟨#[]⟩,.slice none 0 0,.int .i64 0,.slice none 0 0] rfl rfl ZwB Zf6 rfl rfl ⟨_,_,rfl,by first | omega | (simp;done) | (simp;omega)⟩ ⟨_,_,rfl,by first | omega | (simp;done) | (simp;omega)⟩ om om (fun b1=>?_)))))))
 have hd1:=ZaP.zeros (b:=b1) (T:=96) (R:=(ZU 259 99)) (d:=(⟨[],[],[],0,[]⟩:DFolder)) (m:=0) (c:=xs.length) (zs:=[.string ⟨#[]⟩,.string ⟨#[]⟩,.slice none 0 0,.int .i64 0,.slice none 0 0]) rfl (⟨_,_,_,_,[],[],rfl,rfl,ZN.nil,ZN.nil,by simp,by simp,by simp,by simp⟩) om
 refine xA (h:=tL1 (Zc (Za (xM (h:=xV Tryz.underlying24 (h:=xM (h:=Zh (Zz (α:=Gh DFolder) [0,2,9,10] (fun g=>[(3,.slice g.a g.xs.length g.c),(11,.int .i64 g.k)]) [0] (fun g=>[g.l]) (fun g Bx=>Bx=B∧g.k≤xs.length∧g.xs=xs.take g.k∧g.xs.length≤g.k∧ZaP g.l g.a g.c 96 5 (ZU 259 99) g.xs) (fun g=>xs.length - g.k) ⟨0,0,(ZK b1 (zrow [.string ⟨#[]⟩,.string ⟨#[]⟩,.slice none 0 0,.int .i64 0,.slice none 0 0] xs.length) 96),(some ⟨b1,0,none⟩),xs.length,[]⟩ t2 rfl (⟨rfl,Nat.zero_le _,by simp,Nat.le_refl _,hd1⟩) (fun g B2 hle2 hI=>?_)))))))))
 obtain ⟨rfl,hk,hxs,hxl,hv⟩:=hI
 refine ZC [(0,_),(2,_),(3,_),(9,_),(10,_),(11,_)] [_] t6 rfl (Za (ZF (h:=Zc (Zb rfl (fun g1=>?_) (fun g1=>?_)))))
 try simp only [sQ,ne_eq] at g1
 refine wSk (Zc (Zh (Za ?_)))
 obtain ⟨w,hw⟩:=ZY (xs:=xs) (i:=g.k) om
 obtain ⟨bb4,oo4,rfl⟩:=hx.base hw
 obtain ⟨_,⟨qg5,cg5,qm5,cm5,rfl,hg5,hm5,hb5,hb5b⟩,hc5⟩:=hx.elem hw
 have hg5n:=hg5.len
 have hm5n:=hm5.len
 have hm5s:=Zaq hm5
 refine xIx Tryz.underlying24 Zb0 (h:=yL [_,_,_,_,_] ZhZ hc5 0 (h:=xAl [_,_,_,_,_] Zf6 (h:=fun b6=>xS [_,_,_,_,_] 1 [_,_,_,_,_] Zb0 (h:=tL2 (Zf (xM (h:=xL [_,_,_,_,_] ZhZ 1 (h:=xC Zx6 rfl (Zjc _ _ _ _ w _ hg5 hm5) (h:=?_)))))))))
 rintro _ B7 _ hle7 ⟨rfl,l7,a7,c7,l7b,a7b,c7b,rfl,rfl,hs7,hs7b⟩
 refine xBs [(0,_)] [_,_,_,_,_] Tryz.underlying24 Zb0 Zf6 (h:=fun b8=>Zk (Ztw (R:=(ZU 259 99)) (⟨w.owner,w.name,w.grants,w.next,w.mail⟩) 0 [2,3] rfl rfl hv rfl rfl rfl ZwB Zzj rfl rfl (ZcG.box 4 rfl) rfl rfl (l7 ++ l7b) (by simp) (⟨_,_,_,_,_,_,rfl,rfl,(hs7.anyK Z5.any),(hs7b.anyK Z6.any),by first | assumption | omega | (simp;done) | (simp;omega),by first | assumption | omega | (simp;done) | (simp;omega),by first | assumption | omega | (simp;done) | (simp;omega),by first | assumption | omega | (simp;done) | (simp;omega)⟩) om (fun l9 p9 c9 hd9=>?_)))
 refine xA (h:=ZP (Zo (Zf (xD (h:=xM (h:=?_))))))
 exact ZD ⟨g.k+1,0,l9,p9,c9,(g.xs ++ [⟨w.owner,w.name,w.grants,w.next,w.mail⟩])⟩ [0] (by first | omega | (simp only [];omega)) ⟨rfl,by simp only [];omega,by simp only [];rw [ZaV hw,hxs],by simp;omega,hd9⟩ ⟨rfl,rfl,rfl,rfl,rfl,rfl,trivial⟩ rfl
 try simp only [sQ,ne_eq] at g1
 have hxe:g.xs=xs:=by rw [hxs];exact List.take_of_length_le oz
 refine ZE (ZV (ZH (Zw (Zo (Za (xM (h:=xA (h:=Ze ?_))))))))
 exact ZeC .ret (.inl rfl) [_] [0] rfl ⟨rfl,trivial⟩ ⟨rfl,_,_,_,rfl,by rw [← hxe];rfl,hxe ▸ hv⟩

theorem ZgM (q1 q2 q3:Option Addr) (c1 c2 c3:Nat) (x:DHost) (B:Kn) (hu:SlK B q1 c1 3 Zs x.users) (hf:SlK B q2 c2 5 Zu x.folders) (hi:SlK B q3 c3 4 ZI x.queue.items):Zv (pj J) 99 [.agg #[str x.domain,.slice q1 x.users.length c1,.slice q2 x.folders.length c2,.int .i64 x.queue.next,.slice q3 x.queue.items.length c3]] B [] (fun v B' Ls=>∃q1 c1 q2 c2 q3 c3 l1 l2 l3,Ls=[l1,l2,l3]∧v = .agg #[str x.domain,.slice q1 x.users.length c1,.slice q2 x.folders.length c2,.int .i64 x.queue.next,.slice q3 x.queue.items.length c3]∧ZN Kn.none l1 q1 c1 141 3 Zs x.users∧ZaP l2 q2 c2 96 5 (ZU 259 99) x.folders∧ZaP l3 q3 c3 145 4 (ZaR 9) x.queue.items):=by
 refine cB 16 Tryz.func99 (h:=?_)
 have hun:=hu.len
 have hfn:=hf.len
 have hin:=hi.len
 refine Za (xBx [_,_,_,_,_] (h:=fun b1=>xAl [_,_,_,_,_] Zce (h:=fun b2=>tL2 (Zc (Z2 (keeps _ [0] _) mo kr ⟨Kn.le.refl _,ZaY.refl _ _⟩ (fun _ _=>?_))))))
 refine aW 0 rfl ZhF (h:=aT 1 rfl (ZO fun D B L hI=>Zm rfl rfl lk9 rfl (atL 0 (hI.2.1.trans rfl) rfl rfl) r4) (h:=aW 3 rfl ZbZ (h:=aT 4 rfl (ZO fun D B L hI=>Zm rfl rfl ZiW rfl (atL 0 (hI.2.1.trans rfl) rfl rfl) r4) (h:=aW 6 rfl Zay (h:=aT 7 rfl (ZO fun D B L hI=>Zm rfl rfl ZeO rfl (atL 0 (hI.2.1.trans rfl) rfl rfl) r4) (h:=aW 9 rfl Zeh (h:=aT 10 rfl (ZO fun D B L hI=>Z0 [_,_] rfl rfl ZkX rfl (ZbT 0 (hI.2.1.trans rfl) rfl rfl) r4) (h:=ZA 2 kr rfl kr (ZJ (parts:=[]) [] rfl rfl Tryz.underlying23 Zbh ZdS rfl rfl rfl rfl rfl (fun b3=>?_))))))))))
 refine ⟨⟨Kn.le.refl _,t1⟩,(ZA 5 kr rfl kr (Zch (R:=Zs) 2 rfl (ZN.lit0 (R:=Zs)) rfl rfl rfl ZnY Zoa rfl rfl rfl hu.rows Zs.one rfl om (fun l4 p4 c4 hv4=>?_)))⟩
 refine ⟨⟨Kn.le.refl _,t1⟩,(ZA 8 kr rfl kr (Zap rfl rfl Zyx rfl (ZhE _ _ x.folders _ hf) ?_))⟩
 rintro _ B5 _ hle5 ⟨rfl,l5,a5,c5,rfl,rfl,hs5⟩
 refine ⟨⟨Kn.le.refl _,t1⟩,(ZA 11 kr rfl kr (Zap rfl rfl Zyw rfl (Zj1 _ _ x.queue _ hi) ?_))⟩
 rintro _ B6 _ hle6 ⟨l6,q6,c6,rfl,rfl,hd6⟩
 replace hv4:=hv4.mono Zs.mono hle6
 refine ⟨⟨hle6,t1⟩,(aT 12 rfl (ZO fun D B L hI=>Zak (parts:=[(0,_),(1,_),(2,_),(3,_)]) [_,_,_,_,_] [_,_,_,_,_] rfl rfl ZgT Zce rfl rfl rfl r4) (h:=Zad 13 kr rfl kr kr kr (ZM [_,_,_,_,_] 1 [_,_,_,_,_] rfl rfl Zdh rfl rfl rfl rfl rfl rfl rfl rfl ?_)))⟩
 refine Zo (tL5 (Ze ?_))
 exact eN [2,3,4] rfl ⟨⟨_,rfl,.inr ⟨[_,_,_,_,_],Zc6,ZbT 1 rfl rfl rfl,rfl⟩⟩,trivial⟩ ⟨_,_,_,_,_,_,_,_,_,rfl,rfl,hv4.anyK Zs.any,hs5,hd6⟩

theorem ZnE (b:Nat) (m:DMail) (hm:m.text.length≤2000000) (B:Kn):Zv (pj J) 183 [ptr ⟨b,0,none⟩,.agg #[.int .i64 m.uid,.int .i64 m.flags,str m.text]] B [ZK b [.pointer none,.pointer none,.int .i64 0] 195] (fun v B' Ls=>B'=B∧∃s,Ls=[s]∧MLst 195 198 b ([] ++ [m]) s):=by
 refine cB 35 Tryz.func183 (h:=?_)
 refine Za (xBx [_,_,_] (h:=fun b1=>tL2 (Za (xL [_,_,_] ZmI 1 (h:=xB [(0,_)] [_,_,_,_] [_,_,_,_] ZvF Zu3 (h:=xBx [_,_,_,_] (h:=fun b2=>xA (h:=tL3 (Zc (Za (xM (h:=xNc (h:=xW ZhH (h:=x1 Zh2 0 (h:=Zk (Zop rfl rfl rfl rfl rfl (Zf3 Tryz.underlying193) (Zb rfl (fun g1=>?_) (fun g1=>by cases g1))))))))))))))))))
 refine Zf (xM (h:=xM (h:=xNc (h:=xW ZlZ (h:=xS [_] 0 [_,_,_] ZoL (h:=Zo (Za (xM (h:=xM (h:=xNc (h:=xW ZhH (h:=xS [_] 0 [_,_,_] ZoL (h:=tL3 (Zf (xM (h:=xNc (h:=xW ZhG (h:=x1 lk3 0 (h:=xD (h:=xNc (h:=xW ZhG (h:=xS [_] 0 [_,_,_] sz3 (h:=?_)))))))))))))))))))))))
 exact Zzq .normal (.inr rfl) [] [0,2] rfl trivial ⟨rfl,_,rfl,MLst.one (bn:=b2) hm (List.Perm.refl _)⟩

theorem ZnD (b bl:Nat) (v0:Value) (x:DMail) (rest:Cells) (xs:List DMail) (m:DMail) (hm:m.text.length≤2000000) (hn:xs.length≤2000000) (B:Kn) (hh:Zjv 198 v0 bl x rest xs):Zv (pj J) 183 [ptr ⟨b,0,none⟩,.agg #[.int .i64 m.uid,.int .i64 m.flags,str m.text]] B [ZK b [v0,ptr ⟨bl,0,none⟩,.int .i64 xs.length] 195,ZK bl (Ze1 x (.pointer none)) 198,rest] (fun v B' Ls=>B'=B∧∃s,Ls=[s]∧MLst 195 198 b (xs ++ [m]) s):=by
 refine cB 35 Tryz.func183 (h:=?_)
 refine Za (xBx [_,_,_] (h:=fun b1=>tL4 (Za (xL [_,_,_] ZmI 3 (h:=xB [(0,_)] [_,_,_,_] [_,_,_,_] ZvF Zu3 (h:=xBx [_,_,_,_] (h:=fun b2=>xA (h:=tL5 (Zc (Za (xM (h:=xNc (h:=xW ZhH (h:=x1 Zh2 0 (h:=Zk (Zop rfl rfl rfl rfl rfl (Zf3 Tryz.underlying193) (Zb rfl (fun g1=>by cases g1) (fun g1=>?_))))))))))))))))))
 refine Zf (xM (h:=xNc (h:=xW ZhH (h:=x1 Zh2 0 (h:=xM (h:=xNc (h:=xW Zjd (h:=xS [_] 1 [_,_,_,_] ZoL (h:=Zo (Za (xM (h:=xM (h:=xNc (h:=xW ZhH (h:=xS [_] 0 [_,_,_] ZoL (h:=tL5 (Zf (xM (h:=xNc (h:=xW ZhG (h:=x1 lk3 0 (h:=xD (h:=xNc (h:=xW ZhG (h:=xS [_] 0 [_,_,_] sz3 (h:=?_))))))))))))))))))))))))))
 exact Zzq .normal (.inr rfl) [] [0,4,2,1] rfl trivial ⟨rfl,_,rfl,MLst.add (bn:=b2) hh hm rfl (List.Perm.refl _)⟩

theorem Zpm (b:Nat) (xs:List DMail) (m:DMail) (s:Cells) (hm:m.text.length≤2000000) (hn:xs.length≤2000000) (B:Kn) (hs:MLst 195 198 b xs s):Zv (pj J) 183 [ptr ⟨b,0,none⟩,.agg #[.int .i64 m.uid,.int .i64 m.flags,str m.text]] B [s] (fun v B' Ls=>B'=B∧∃s',Ls=[s']∧MLst 195 198 b (xs ++ [m]) s'):=by
 rcases hs with ⟨rfl,hp⟩ | ⟨v0,bl,x,rest,hp,hh⟩
 · exact Zv.perm (by simpa using hp) (ZnE b m hm B)
 · exact Zv.perm (by simpa using hp) (ZnD b bl v0 x rest xs m hm hn B hh)

theorem ZnC (q:Option Addr) (cp:Nat) (xs:List DMail) (B:Kn) (hx:SlK B q cp 3 Z6 xs):Zv (pj J) 121 [.slice q xs.length cp] B [] (fun v B' Ls=>∃b s,Ls=[s]∧v=ptr ⟨b,0,none⟩∧MLst 195 198 b xs s):=by
 refine cB 19 Tryz.func121 (h:=?_)
 have hxn:=hx.len
 refine Za (xA (h:=Za (xB [] [_,_,_] [_,_,_] Zxd ZwO (h:=xBx [_,_,_] (h:=fun b1=>xA (h:=tL1 (Zc (Za (xM (h:=xV Tryz.underlying91 (h:=xM (h:=Zh (Zz (α:=Gh DMail) [0,2,3,8,9] (fun g=>[(10,.int .i64 g.k)]) [0] (fun g=>[g.l]) (fun g Bx=>Bx=B∧g.k≤xs.length∧g.xs=xs.take g.k∧g.xs.length≤g.k∧MLst 195 198 b1 g.xs g.l) (fun g=>xs.length - g.k) ⟨0,0,_,none,0,[]⟩ t1 rfl (⟨rfl,Nat.zero_le _,by simp,Nat.le_refl _,MLst.nil⟩) (fun g B2 hle2 hI=>?_))))))))))))))
 obtain ⟨rfl,hk,hxs,hxl,hv⟩:=hI
 refine ZC [(0,_),(2,_),(3,_),(8,_),(9,_),(10,_)] [_] t6 rfl (Za (ZF (h:=Zc (Zb rfl (fun g1=>?_) (fun g1=>?_)))))
 try simp only [sQ,ne_eq] at g1
 refine wSk (Zc (Zh (Za ?_)))
 obtain ⟨w,hw⟩:=ZY (xs:=xs) (i:=g.k) om
 obtain ⟨bb4,oo4,rfl⟩:=hx.base hw
 obtain ⟨_,⟨rfl,hb5⟩,hc5⟩:=hx.elem hw
 refine xIx Tryz.underlying91 Zf7 (h:=yL [_,_,_] ZmI hc5 0 (h:=xAl [_,_,_] Zn9 (h:=fun b6=>xS [_,_,_] 1 [_,_,_] Zf7 (h:=tL2 (Zf (xM (h:=xL [_,_,_] ZmI 1 (h:=xK [0] rfl Zyh rfl (Zpm _ g.xs w _ om2 om2 _ hv) (h:=?_)))))))))
 rintro _ B7 _ hle7 ⟨rfl,s7,rfl,hs7⟩
 refine ZP (Zo (Zf (xD (h:=xM (h:=?_)))))
 exact ZD ⟨g.k+1,0,s7,none,0,(g.xs ++ [w])⟩ [0] so2 ⟨rfl,so,by simp only [];rw [ZaV hw,hxs],by simp;omega,hs7⟩ t6 rfl
 try simp only [sQ,ne_eq] at g1
 have hxe:g.xs=xs:=by rw [hxs];exact List.take_of_length_le oz
 refine ZE (ZV (ZH (Zw (Zo (Za (xM (h:=xA (h:=Ze ?_))))))))
 exact eN [0] rfl t1 ⟨_,_,rfl,rfl,hxe ▸ hv⟩

theorem Zov (hJ:Joins Tryz.prog J) (ba b:Nat) (q1 q2 q3:Option Addr) (c1 c2 c3:Nat) (x:DHost) (l1 l2 l3:Cells) (u o n:Str) (r:Int) (f:FuncId) (cap:Array Value) (R:DHost) (kk:Nat) (he:enters Tryz.prog f=true) (hul:u.length≤2000000) (hol:o.length≤2000000) (hnl:n.length≤2000000) (hn1:x.users.length≤2000000) (hn2:x.folders.length≤2000000) (be:Nat) (qe:Option Addr) (ce:Nat) (le:Cells) (ys YS:List Int) (hyl:ys.length≤2000000) (a:Nat→Addr) (B:Kn) (hE:ErrsB 372 [0,1,2,3] B a) (hc1:Zau B ba 0 [str o,str n,str u,ptr ⟨b,0,none⟩]) (hu:ZN Kn.none l1 q1 c1 141 3 Zs x.users) (hf:ZaP l2 q2 c2 96 5 (ZU 259 99) x.folders) (hi:ZaP l3 q3 c3 145 4 (ZaR 9) x.queue.items) (hy:ZN Kn.none le qe ce 3 1 Zag ys) (hw:ZcV x.users x.folders u o n 2=0→ZcV x.users x.folders u o n r=0→∀(B2:Kn),B.le B2→Zv (pj J) f (ptr ⟨b,2,none⟩ :: .int .i64 (if ZcV x.users x.folders u o n r=0 then ZbR (inF o n) x.folders else -1) :: cap.toList) B2 [ZK b [.int .i32 1,.int .u32 0,str x.domain,.slice q1 x.users.length c1,.slice q2 x.folders.length c2,.int .i64 x.queue.next,.slice q3 x.queue.items.length c3] 160,l1,l2,l3,ZK be [.slice qe ys.length ce] 65,le] (fun v B' Ls=>∃q1' c1' q2' c2' q3' c3' l1' l2' l3' qe' ce' le',Ls=[ZK b [.int .i32 1,.int .u32 0,str R.domain,.slice q1' R.users.length c1',.slice q2' R.folders.length c2',.int .i64 R.queue.next,.slice q3' R.queue.items.length c3'] 160,l1',l2',l3',ZK be [.slice qe' (YS).length ce'] 65,le']∧v=errv 372 a (kk)∧ZN Kn.none l1' q1' c1' 141 3 Zs R.users∧ZaP l2' q2' c2' 96 5 (ZU 259 99) R.folders∧ZaP l3' q3' c3' 145 4 (ZaR 9) R.queue.items∧ZN Kn.none le' qe' ce' 3 1 Zag (YS))):Zv (pj J) 100 [ptr ⟨ba,0,none⟩,.int .i64 r,.func (.func f) #[] cap] B [ZK b [.int .i32 0,.int .u32 0,str x.domain,.slice q1 x.users.length c1,.slice q2 x.folders.length c2,.int .i64 x.queue.next,.slice q3 x.queue.items.length c3] 160,l1,l2,l3,ZK be [.slice qe ys.length ce] 65,le] (fun v B' Ls=>∃q1' c1' q2' c2' q3' c3' l1' l2' l3' qe' ce' le',Ls=[ZK b [.int .i32 0,.int .u32 0,str (usX x u o n r R x).domain,.slice q1' (usX x u o n r R x).users.length c1',.slice q2' (usX x u o n r R x).folders.length c2',.int .i64 (usX x u o n r R x).queue.next,.slice q3' (usX x u o n r R x).queue.items.length c3'] 160,l1',l2',l3',ZK be [.slice qe' (usX x u o n r YS ys).length ce'] 65,le']∧v=errv 372 a (usN x u o n r kk)∧ZN Kn.none l1' q1' c1' 141 3 Zs (usX x u o n r R x).users∧ZaP l2' q2' c2' 96 5 (ZU 259 99) (usX x u o n r R x).folders∧ZaP l3' q3' c3' 145 4 (ZaR 9) (usX x u o n r R x).queue.items∧ZN Kn.none le' qe' ce' 3 1 Zag (usX x u o n r YS ys)):=by
 refine ZgZ (P:=pj J) 88 Tryz.func100 rfl rfl (Nat.le_of_ble_eq_true rfl) ?_
 intro X kind c cs F T0 hk hke hA hn0 hT0
 let CC:Cx (pj J):=⟨X,fb 100 kind,c :: cs,F,hke⟩
 show CC.X.R (Go.Conc.G (fat CC.b T0 [] _) CC.cs) B (List.flatten [ZK b [.int .i32 0,.int .u32 0,str x.domain,.slice q1 x.users.length c1,.slice q2 x.folders.length c2,.int .i64 x.queue.next,.slice q3 x.queue.items.length c3] 160,l1,l2,l3,ZK be [.slice qe ys.length ce] 65,le] ++ CC.F)
 refine Zba (C:=CC) (ZaB (C:=CC) (Zb2 (C:=CC) (i:=0) (todo:=[]) rfl hn0 hT0 (Zk (Zbp rfl rfl rfl (fun T1 hn1 hT1=>ZW (C:=CC) (Zba (C:=CC) (ZaB (C:=CC) (Zb2 (C:=CC) (i:=0) (todo:=[1,2,3,4,5,6]) rfl hn1 hT1 (Zk (Zbe rfl rfl rfl (fun T2 hn2 hT2=>Zb2 (C:=CC) (i:=1) (todo:=[2,3,4,5,6]) rfl hn2 hT2 (Zk (ZaK rfl rfl rfl (fun T3 hn3 hT3=>Zb2 (C:=CC) (i:=2) (todo:=[3,4,5,6]) rfl hn3 hT3 (Zk (Zao rfl rfl ZeB rfl (fun T4 hn4 hT4=>Zb2 (C:=CC) (i:=3) (todo:=[4,5,6]) rfl hn4 hT4 (Zk (Zm rfl rfl Zkh rfl (hc1 _ 3 _ rfl) (fun T5 hn5 hT5=>Zb2 (C:=CC) (i:=4) (todo:=[5,6]) rfl hn5 hT5 (Zk (ZaK rfl rfl rfl (fun T6 hn6 hT6=>Zb2 (C:=CC) (i:=5) (todo:=[6]) rfl hn6 hT6 (Zk (Zao rfl rfl Zp5 rfl (fun T7 hn7 hT7=>Zb2 (C:=CC) (i:=6) (todo:=[]) rfl hn7 hT7 (Zk (Zby [0] rfl rfl rfl rfl Zyv rfl (Zxj hJ ZrQ Zjg Zjf Zx3) ?_))))))))))))))))))))))))))))
 rintro _ B1 _ hle1 ⟨rfl,rfl,rfl⟩
 intro T8 hn8 hT8
 refine ZW (C:=CC) (ZAu (C:=CC) [_,_,_,_,_,_] rfl (Zba (C:=CC) (ZaB (C:=CC) (Zb2 (C:=CC) (i:=0) (todo:=[1,2,3,4,5,6]) rfl hn8 hT8 (Zk (Zbe rfl rfl rfl (fun T9 hn9 hT9=>Zb2 (C:=CC) (i:=1) (todo:=[2,3,4,5,6]) rfl hn9 hT9 (Zk (ZaK rfl rfl rfl (fun T10 hn10 hT10=>Zb2 (C:=CC) (i:=2) (todo:=[3,4,5,6]) rfl hn10 hT10 (Zk (Zao rfl rfl ZeB rfl (fun T11 hn11 hT11=>Zb2 (C:=CC) (i:=3) (todo:=[4,5,6]) rfl hn11 hT11 (Zk (Zm rfl rfl Zkh rfl (hc1 _ 3 _ rfl) (fun T12 hn12 hT12=>Zb2 (C:=CC) (i:=4) (todo:=[5,6]) rfl hn12 hT12 (Zk (ZaK rfl rfl rfl (fun T13 hn13 hT13=>Zb2 (C:=CC) (i:=5) (todo:=[6]) rfl hn13 hT13 (Zk (Zao rfl rfl Zp5 rfl (fun T14 hn14 hT14=>ZnZ hke rfl hT14 rfl (ZW (C:=CC) (ZkB (X:=X) (av:=[ptr ⟨b,0,none⟩]) (Post:=(fun v B' Ls=>∃q1' c1' q2' c2' q3' c3' l1' l2' l3' qe' ce' le',Ls=[ZK b [.int .i32 0,.int .u32 0,str (usX x u o n r R x).domain,.slice q1' (usX x u o n r R x).users.length c1',.slice q2' (usX x u o n r R x).folders.length c2',.int .i64 (usX x u o n r R x).queue.next,.slice q3' (usX x u o n r R x).queue.items.length c3'] 160,l1',l2',l3',ZK be [.slice qe' (usX x u o n r YS ys).length ce'] 65,le']∧v=errv 372 a (usN x u o n r kk)∧ZN Kn.none l1' q1' c1' 141 3 Zs (usX x u o n r R x).users∧ZaP l2' q2' c2' 96 5 (ZU 259 99) (usX x u o n r R x).folders∧ZaP l3' q3' c3' 145 4 (ZaR 9) (usX x u o n r R x).queue.items∧ZN Kn.none le' qe' ce' 3 1 Zag (usX x u o n r YS ys))) Tryz.func100 hk hke Tryz.func168 kr rfl hn14 hT14 hA ?_))))))))))))))))))))))))
 refine Zc (Zc (Z2 (same _ _) mo kr ⟨rfl,rfl⟩ (fun _ _=>?_)))
 refine aM 0 rfl (h:=aNc 1 rfl (h:=aW 2 rfl ZeB (h:=aT 3 rfl (Zac fun D=>Zm rfl rfl Zkh rfl (hc1 _ 3 _ rfl) r4) (h:=aNc 4 rfl (h:=aW 5 rfl Zgq (h:=aM 6 rfl (h:=aNc 7 rfl (h:=aW 8 rfl Zp4 (h:=aT 9 rfl (Zac fun D=>Zm rfl rfl lk9 rfl (hc1 _ 2 _ rfl) r4) (h:=aM 10 rfl (h:=aNc 11 rfl (h:=aW 12 rfl Zje (h:=aW 13 rfl Zp7 (h:=aT 14 rfl (Zac fun D=>Zm rfl rfl lk9 rfl (hc1 _ 0 _ rfl) r4) (h:=aM 15 rfl (h:=aNc 16 rfl (h:=aW 17 rfl Zje (h:=aW 18 rfl Zp6 (h:=aT 19 rfl (Zac fun D=>Zm rfl rfl lk9 rfl (hc1 _ 1 _ rfl) r4) (h:=aT 20 rfl (Zac fun D=>ZgE [0,1,2,3] rfl rfl rfl rfl rfl Zzy rfl (Zaa.borrowL fun hm2=>ZqB _ _ _ _ _ _ _ _ x u o n 2 om2 om2 om2 a _ (hE.mono (Kn.le_add _ _)) (Zau.drop2 (ZzD 0 rfl hm2)) (hu.lendK Zs.any 1 rfl hm2 om) (hf.lendK ZU.known Zu.mono 2 rfl hm2 om)) r4) (h:=?_)))))))))))))))))))))
 refine aM 21 rfl (h:=aE 22 rfl (h:=aE 23 rfl (h:=aA 24 rfl (h:=aA 25 rfl (h:=Zt kr kr ?_)))))
 refine Zo (tL6 (Za (xM (h:=Zk (ZsT (tE:=372) (a:=a) (c:=(ZcV x.users x.folders u o n 2)) rfl rfl Tryz.underlying82 rfl (Zb rfl (fun g1=>?_) (fun g1=>?_)))))))
 try simp only [sQ,ne_eq] at g1
 refine Za (xM (h:=xA (h:=Ze (Zn ?_))))
 obtain ⟨e1,e2⟩:=Zs2 (x:=x) (u:=u) (o:=o) (n:=n) (r:=r) oz kk
 show _∧_
 refine Zxy (.inl rfl) [_] [0,1,2,3,4,5] rfl (fun _ _=>t1) ((Zk6 hJ ZrQ Zjg Zxl Zjf ZuG).frame1.mono ?_)
 rintro _ _ _ _ ⟨_,⟨rfl,_,rfl⟩,rfl⟩
 rw [e1,e2,e2]
 exact ⟨_,_,_,_,_,_,_,_,_,_,_,_,rfl,rfl,hu,hf,hi,hy⟩
 try simp only [sQ,ne_eq] at g1
 have h2:ZcV x.users x.folders u o n 2=0:=by omega
 refine wSk (Zc (Z2 (same _ _) mo kr ⟨rfl,rfl⟩ (fun _ _=>?_)))
 refine aM 0 rfl (h:=aNc 1 rfl (h:=aW 2 rfl ZeB (h:=aT 3 rfl (Zac fun D=>Zm rfl rfl Zkh rfl (hc1 _ 3 _ rfl) r4) (h:=aNc 4 rfl (h:=aW 5 rfl Zgq (h:=aM 6 rfl (h:=aNc 7 rfl (h:=aW 8 rfl Zp4 (h:=aT 9 rfl (Zac fun D=>Zm rfl rfl lk9 rfl (hc1 _ 2 _ rfl) r4) (h:=aM 10 rfl (h:=aNc 11 rfl (h:=aW 12 rfl Zje (h:=aW 13 rfl Zp7 (h:=aT 14 rfl (Zac fun D=>Zm rfl rfl lk9 rfl (hc1 _ 0 _ rfl) r4) (h:=aM 15 rfl (h:=aNc 16 rfl (h:=aW 17 rfl Zje (h:=aW 18 rfl Zp6 (h:=aT 19 rfl (Zac fun D=>Zm rfl rfl lk9 rfl (hc1 _ 1 _ rfl) r4) (h:=aM 20 rfl (h:=aT 21 rfl (Zac fun D=>ZgE [0,1,2,3] rfl rfl rfl rfl rfl Zzy rfl (Zaa.borrowL fun hm3=>ZqB _ _ _ _ _ _ _ _ x u o n r om2 om2 om2 a _ (hE.mono (Kn.le_add _ _)) (Zau.drop2 (ZzD 0 rfl hm3)) (hu.lendK Zs.any 1 rfl hm3 om) (hf.lendK ZU.known Zu.mono 2 rfl hm3 om)) r4) (h:=?_))))))))))))))))))))))
 refine aM 22 rfl (h:=aE 23 rfl (h:=aE 24 rfl (h:=aA 25 rfl (h:=aA 26 rfl (h:=Zt kr kr ?_)))))
 refine Zo (Zc (Za (xM (h:=Zk (ZsT (tE:=372) (a:=a) (c:=(ZcV x.users x.folders u o n r)) rfl rfl Tryz.underlying82 rfl (Zb rfl (fun g2=>?_) (fun g2=>?_)))))))
 try simp only [sQ,ne_eq] at g2
 refine Za (xM (h:=xA (h:=Ze (Zn ?_))))
 obtain ⟨e1,e2⟩:=Zs1 (x:=x) (u:=u) (o:=o) (n:=n) (r:=r) h2 oz kk
 show _∧_
 refine Zxy (.inl rfl) [_] [0,1,2,3,4,5] rfl (fun _ _=>t1) ((Zk6 hJ ZrQ Zjg Zxl Zjf ZuG).frame1.mono ?_)
 rintro _ _ _ _ ⟨_,⟨rfl,_,rfl⟩,rfl⟩
 rw [e1,e2,e2]
 exact ⟨_,_,_,_,_,_,_,_,_,_,_,_,rfl,rfl,hu,hf,hi,hy⟩
 try simp only [sQ,ne_eq] at g2
 have hr:ZcV x.users x.folders u o n r=0:=by omega
 refine ZX ?_
 refine Zo ?_
 refine Za ?_
 refine Zk (Zbe rfl rfl rfl ?_)
 refine Zk (Zbe rfl rfl rfl ?_)
 refine Zk (ZaK rfl rfl rfl ?_)
 refine Zk (Zao rfl rfl ZeB rfl ?_)
 refine Zk (Zm rfl rfl Zkh rfl (hc1 _ 3 _ rfl) ?_)
 refine Zk (ZaK rfl rfl rfl ?_)
 refine Zk (Zao rfl rfl Zgq rfl ?_)
 refine Zk (Zbe rfl rfl rfl ?_)
 refine Zk (Ztu [0,1,2,3,4,5] rfl rfl rfl rfl he rfl rfl (hw h2 hr _ (Kn.le.refl _)) ?_)
 rintro _ B4 _ hle4 ⟨q14,c14,q24,c24,q34,c34,l14,l24,l34,qe4,ce4,le4,rfl,rfl,hu4,hf4,hi4,hy4⟩
 refine xA (h:=tL6 (Ze ?_))
 obtain ⟨e1,e2⟩:=Zs0 (x:=x) (u:=u) (o:=o) (n:=n) (r:=r) h2 hr kk
 show _∧_
 refine Zxy (.inl rfl) [_] [0,1,2,3,4,5] rfl (fun _ _=>t1) ((Zk6 hJ ZrQ Zjg Zxl Zjf ZuG).frame1.mono ?_)
 rintro _ _ _ _ ⟨_,⟨rfl,_,rfl⟩,rfl⟩
 rw [e1,e2,e2]
 exact ⟨_,_,_,_,_,_,_,_,_,_,_,_,rfl,rfl,hu4,hf4,hi4,hy4⟩

theorem ZtI (q1 q2 q3:Option Addr) (c1 c2 c3:Nat) (x:DHost) (u o n:Str) (hul:u.length≤2000000) (hol:o.length≤2000000) (hnl:n.length≤2000000) (ar:Bool) (r:Int) (f:FuncId) (cap:Array Value) (R:DHost) (kk:Nat) (hk:kk<5) (he:enters Tryz.prog f=true) (hJ:Joins Tryz.prog J) (be:Nat) (qe:Option Addr) (ce:Nat) (le:Cells) (ys YS:List Int) (hyl:ys.length≤2000000) (hd:x.domain.length≤2000000) (a:Nat→Addr) (B:Kn) (hE:ErrsB 372 [0,1,2,3] B a) (hu:SlK B q1 c1 3 Zs x.users) (hf:SlK B q2 c2 5 Zu x.folders) (hi:SlK B q3 c3 4 ZI x.queue.items) (hy:ZN Kn.none le qe ce 3 1 Zag ys) (hw:ar=true→Z9 x=true→ZcV x.users x.folders u o n 2=0→ZcV x.users x.folders u o n r=0→∀(B2:Kn) (b:Nat) (q1 q2 q3:Option Addr) (c1 c2 c3:Nat) (l1 l2 l3:Cells),B.le B2→ZN Kn.none l1 q1 c1 141 3 Zs x.users→ZaP l2 q2 c2 96 5 (ZU 259 99) x.folders→ZaP l3 q3 c3 145 4 (ZaR 9) x.queue.items→Zv (pj J) f (ptr ⟨b,2,none⟩ :: .int .i64 (if ZcV x.users x.folders u o n r=0 then ZbR (inF o n) x.folders else -1) :: cap.toList) B2 [ZK b [.int .i32 1,.int .u32 0,str x.domain,.slice q1 x.users.length c1,.slice q2 x.folders.length c2,.int .i64 x.queue.next,.slice q3 x.queue.items.length c3] 160,l1,l2,l3,ZK be [.slice qe ys.length ce] 65,le] (fun v B' Ls=>∃q1' c1' q2' c2' q3' c3' l1' l2' l3' qe' ce' le',Ls=[ZK b [.int .i32 1,.int .u32 0,str R.domain,.slice q1' R.users.length c1',.slice q2' R.folders.length c2',.int .i64 R.queue.next,.slice q3' R.queue.items.length c3'] 160,l1',l2',l3',ZK be [.slice qe' (YS).length ce'] 65,le']∧v=errv 372 a (kk)∧ZN Kn.none l1' q1' c1' 141 3 Zs R.users∧ZaP l2' q2' c2' 96 5 (ZU 259 99) R.folders∧ZaP l3' q3' c3' 145 4 (ZaR 9) R.queue.items∧ZN Kn.none le' qe' ce' 3 1 Zag (YS))):Zv (pj J) 43 [.agg #[str x.domain,.slice q1 x.users.length c1,.slice q2 x.folders.length c2,.int .i64 x.queue.next,.slice q3 x.queue.items.length c3],.agg #[str u,str o,str n],.bool ar,.int .i64 r,.func (.func f) #[] cap] B [ZK be [.slice qe ys.length ce] 65,le] (fun v B' Ls=>∃(Y:DHost) (d:Int) (YY:List Int),∃q1 c1 q2 c2 q3 c3 l1 l2 l3 qe' ce' le',(Y,d,YY)=(if ar=true∧Z9 x=true then (usX x u o n r R x,(usN x u o n r kk:Int),usX x u o n r YS ys) else (Zdn,5,ys))∧Ls=[ZK be [.slice qe' YY.length ce'] 65,le',l1,l2,l3]∧v = .tuple #[.agg #[str Y.domain,.slice q1 Y.users.length c1,.slice q2 Y.folders.length c2,.int .i64 Y.queue.next,.slice q3 Y.queue.items.length c3],.int .i64 d]∧ZN Kn.none l1 q1 c1 141 3 Zs Y.users∧ZaP l2 q2 c2 96 5 (ZU 259 99) Y.folders∧ZaP l3 q3 c3 145 4 (ZaR 9) Y.queue.items∧ZN Kn.none le' qe' ce' 3 1 Zag YY):=by
 refine Zda 44 Tryz.func43 rfl rfl rfl (Nat.le_of_ble_eq_true rfl) ?_
 have hun:=hu.len
 have hfn:=hf.len
 have hin:=hi.len
 have hus:=Zvq (x:=x) (u:=u) (o:=o) (n:=n) (r:=r) hk
 refine Za (xBx [_,_,_,_,_] (h:=fun b1=>xBx [_,_,_] (h:=fun b2=>xAl [_,_,_,_,_] Zce (h:=fun b3=>xA (h:=tL5 (Zc (Za (xM (h:=xN (h:=xM (h:=Zy (d:=16) rfl (fun g1=>?_) (fun g1=>?_))))))))))))
 try simp only [sQ,ne_eq] at g1
 refine xP (h:=xP (h:=xP (h:=xT (h:=Zvm [[],[],[]] rfl (Zb (t:=true) rfl (fun _=>Za (xB [] [_,_,_,_,_] [_,_,_,_,_] ZgT Zce (h:=xS [_,_,_,_,_] 4 [_,_,_,_,_] Zdh (h:=xA (h:=tL8 (Ze (Zn ?_))))))) (fun h=>Bool.noConfusion h))))))
 exact ZeC .ret (.inl rfl) [_,_] [0,1,5,6,7] rfl ⟨⟨_,rfl,.inr ⟨[_,_,_,_,_],Zc6,ZbT 4 rfl rfl rfl,rfl⟩⟩,rfl,trivial⟩ ⟨Zdn,5,ys,none,0,none,0,none,0,[],[],[],qe,ce,le,by rw [if_neg (by simp [g1])],rfl,rfl,ZN.nil,ZaP.nil,ZaP.nil,hy⟩
 try simp only [sQ,ne_eq] at g1
 refine xL [_,_,_,_,_] Zc6 2 (h:=xQ ZAq rfl (ZlN hJ _ _ _ _ _ _ x om2 _ hu hf hi) (h:=?_))
 intro vv Bv hlev
 rintro rfl
 replace hu:=hu.mono Zs.mono hlev
 replace hf:=hf.mono Zu.mono hlev
 replace hi:=hi.mono ZI.mono hlev
 replace hy:=hy.mono Zag.mono hlev
 replace hE:=hE.mono hlev
 refine xN (h:=xF (h:=Zb rfl (fun g2=>?_) (fun g2=>?_)))
 try simp only [sQ,ne_eq] at g2
 refine Zvm [[],[],[]] rfl (Za (xB [] [_,_,_,_,_] [_,_,_,_,_] ZgT Zce (h:=xS [_,_,_,_,_] 4 [_,_,_,_,_] Zdh (h:=xA (h:=tL8 (Ze (Zn ?_)))))))
 exact ZeC .ret (.inl rfl) [_,_] [0,1,5,6,7] rfl ⟨⟨_,rfl,.inr ⟨[_,_,_,_,_],Zc6,ZbT 4 rfl rfl rfl,rfl⟩⟩,rfl,trivial⟩ ⟨Zdn,5,ys,none,0,none,0,none,0,[],[],[],qe,ce,le,by rw [if_neg (by simp [g2])],rfl,rfl,ZN.nil,ZaP.nil,ZaP.nil,hy⟩
 try simp only [sQ,ne_eq] at g2
 refine wSk (Zc (Z2 (keeps _ [2,3] _) mo kr ⟨Kn.le.refl _,ZaY.refl _ _⟩ (fun _ _=>?_)))
 refine aW 0 rfl ZpP (h:=aT 1 rfl (ZO fun D B L hI=>Zm rfl rfl lk9 rfl (atL 3 (hI.2.2.1.trans rfl) rfl rfl) r4) (h:=aW 2 rfl ZpO (h:=aT 3 rfl (ZO fun D B L hI=>Zm rfl rfl lk9 rfl (atL 3 (hI.2.2.1.trans rfl) rfl rfl) r4) (h:=aT 4 rfl (ZO fun D B L hI=>Zak (parts:=[(0,_),(1,_)]) [_,_] [_,_] rfl rfl Zxe ZwP rfl rfl rfl r4) (h:=aW 5 rfl ZmS (h:=aT 6 rfl (ZO fun D B L hI=>Zm rfl rfl lk9 rfl (atL 3 (hI.2.2.1.trans rfl) rfl rfl) r4) (h:=aT 7 rfl (ZO fun D B L hI=>Z0 [_,_,_,_,_] rfl rfl Zc6 rfl (ZbT 2 (hI.2.1.trans rfl) rfl rfl) r4) (h:=ZaE [8,12] kr kr kr ⟨?_,?_⟩))))))))
 refine (Zap rfl rfl Zzr rfl (ZgM _ _ _ _ _ _ x _ hu hf hi) ?_)
 rintro _ Bc _ hlec ⟨q1c,c1c,q2c,c2c,q3c,c3c,l1c,l2c,l3c,rfl,rfl,huc,hfc,hic⟩
 replace hu:=hu.mono Zs.mono hlec
 replace hf:=hf.mono Zu.mono hlec
 replace hi:=hi.mono ZI.mono hlec
 replace hy:=hy.mono Zag.mono hlec
 replace hE:=hE.mono hlec
 refine ⟨⟨hlec,t2⟩,(aT 9 rfl (ZO fun D B L hI=>Zak (parts:=[(1,_)]) [_,_,_,_,_,_,_] [_,_,_,_,_,_,_] rfl rfl ZvG Zu4 rfl rfl rfl r4) (h:=ZaE [10,12] kr kr kr ⟨?_,?_⟩))⟩
 refine (Zos (l:=[_,_,_,_,_,_,_]) rfl rfl rfl rfl (fun b6=>⟨⟨hlec,t2⟩,(aT 11 rfl (ZO fun D B L hI=>Zak (parts:=[(0,_),(1,_),(2,_)]) [_,_,_,_] [_,_,_,_] rfl rfl ZtP Zm6 rfl rfl rfl r4) (h:=ZA 12 kr rfl kr (Zav (l:=[_,_,_,_]) rfl rfl Zm6 rfl (fun b7=>?_))))⟩))
 refine ⟨⟨hlec,t2⟩,(Zad 13 kr rfl kr kr kr (ZM [_,_,_,_] 9 [_,_,_,_] rfl rfl ZtF rfl rfl rfl rfl rfl rfl rfl rfl ?_))⟩
 refine Zo (Zrm (Zoi 9 rfl (fun B8 hle8 hpm8=>?_)))
 have hc8:=ZbD hpm8
 replace hu:=hu.mono Zs.mono hle8
 replace hf:=hf.mono Zu.mono hle8
 replace hi:=hi.mono ZI.mono hle8
 replace hy:=hy.mono Zag.mono hle8
 replace huc:=huc.mono Zs.mono hle8
 replace hE:=hE.mono hle8
 refine Za (xM (h:=xM (h:=xK [8,5,6,7,0,1] rfl ZuM rfl (Zov hJ _ _ _ _ _ _ _ _ x _ _ _ u o n r f cap R kk he hul hol hnl om2 om2 be _ _ _ ys YS hyl a _ hE hc8 huc hfc hic hy (fun h2 hr B2 hle=>hw (by simpa using g1) (by simpa using g2) h2 hr B2 _ _ _ _ _ _ _ _ _ _ (hlev.trans (hlec.trans (hle8.trans hle))) huc hfc hic)) (h:=?_))))
 rintro _ B9 _ hle9 ⟨q19,c19,q29,c29,q39,c39,l19,l29,l39,qe9,ce9,le9,rfl,rfl,hu9,hf9,hi9,hy9⟩
 replace hu:=hu.mono Zs.mono hle9
 replace hf:=hf.mono Zu.mono hle9
 replace hi:=hi.mono ZI.mono hle9
 replace hc8:=hc8.mono hle9
 replace hy:=hy.mono Zag.mono hle9
 replace huc:=huc.mono Zs.mono hle9
 replace hE:=hE.mono hle9
 refine xA (h:=Zrm (Zc (Z2 (keeps _ [] _) mo kr ⟨Kn.le.refl _,ZaY.refl _ _⟩ (fun _ _=>?_))))
 refine aW 0 rfl ZeB (h:=aT 1 rfl (ZO fun D B L hI=>Zm rfl rfl Zkh rfl ((hc8.mono hI.1) _ 3 _ rfl) r4) (h:=aNc 2 rfl (h:=aW 3 rfl Zgq (h:=aM 5 rfl (h:=aT 6 rfl (ZO fun D B L hI=>Z8 rfl rfl Zxz rfl (Zgn (usN x u o n r kk) om2 a _ (hE.mono hI.1)) r4) (h:=?_))))))
 refine ZA 4 kr rfl kr (Z0 [_,_,_,_,_] rfl rfl Zc6 rfl (ZbT 8 rfl rfl rfl) ?_)
 refine ⟨⟨Kn.le.refl _,trivial⟩,(Zbz 7 kr rfl kr kr (ZM [_,_,_,_,_] 4 [_,_,_,_,_] rfl rfl Zdh rfl rfl rfl rfl rfl rfl rfl rfl ?_))⟩
 refine aA 8 rfl (h:=Zt kr kr ?_)
 refine Zo (Zrm (Ze ?_))
 exact ZeC .ret (.inl rfl) [_,_] [0,1,5,6,7] rfl ⟨⟨_,rfl,.inr ⟨[_,_,_,_,_],Zc6,ZbT 4 rfl rfl rfl,rfl⟩⟩,rfl,trivial⟩ ⟨(usX x u o n r R x),_,usX x u o n r YS ys,_,_,_,_,_,_,_,_,_,_,_,_,by rw [if_pos ⟨by simpa using g1,by simpa using g2⟩],rfl,rfl,hu9,hf9,hi9,hy9⟩
 refine (Zav (l:=[_,_,_,_]) rfl rfl Zm6 rfl (fun b11=>⟨⟨hlec,t2⟩,(ZA 10 kr rfl kr (Zos (l:=[_,_,_,_,_,_,_]) rfl rfl rfl rfl (fun b12=>?_)))⟩))
 refine ⟨⟨hlec,t2⟩,(aT 11 rfl (ZO fun D B L hI=>Zak (parts:=[(0,_),(1,_),(2,_)]) [_,_,_,_] [_,_,_,_] rfl rfl ZtP Zm6 rfl rfl rfl r4) (h:=Zad 13 kr rfl kr kr kr (ZM [_,_,_,_] 8 [_,_,_,_] rfl rfl ZtF rfl rfl rfl rfl rfl rfl rfl rfl ?_)))⟩
 refine Zo (Zrm (Zoi 8 rfl (fun B13 hle13 hpm13=>?_)))
 have hc13:=ZbD hpm13
 replace hu:=hu.mono Zs.mono hle13
 replace hf:=hf.mono Zu.mono hle13
 replace hi:=hi.mono ZI.mono hle13
 replace hy:=hy.mono Zag.mono hle13
 replace huc:=huc.mono Zs.mono hle13
 replace hE:=hE.mono hle13
 refine Za (xM (h:=xM (h:=xK [9,5,6,7,0,1] rfl ZuM rfl (Zov hJ _ _ _ _ _ _ _ _ x _ _ _ u o n r f cap R kk he hul hol hnl om2 om2 be _ _ _ ys YS hyl a _ hE hc13 huc hfc hic hy (fun h2 hr B2 hle=>hw (by simpa using g1) (by simpa using g2) h2 hr B2 _ _ _ _ _ _ _ _ _ _ (hlev.trans (hlec.trans (hle13.trans hle))) huc hfc hic)) (h:=?_))))
 rintro _ B14 _ hle14 ⟨q114,c114,q214,c214,q314,c314,l114,l214,l314,qe14,ce14,le14,rfl,rfl,hu14,hf14,hi14,hy14⟩
 replace hu:=hu.mono Zs.mono hle14
 replace hf:=hf.mono Zu.mono hle14
 replace hi:=hi.mono ZI.mono hle14
 replace hc13:=hc13.mono hle14
 replace hy:=hy.mono Zag.mono hle14
 replace huc:=huc.mono Zs.mono hle14
 replace hE:=hE.mono hle14
 refine xA (h:=Zrm (Zc (Z2 (keeps _ [] _) mo kr ⟨Kn.le.refl _,ZaY.refl _ _⟩ (fun _ _=>?_))))
 refine aW 0 rfl ZeB (h:=aT 1 rfl (ZO fun D B L hI=>Zm rfl rfl Zkh rfl ((hc13.mono hI.1) _ 3 _ rfl) r4) (h:=aNc 2 rfl (h:=aW 3 rfl Zgq (h:=aM 5 rfl (h:=aT 6 rfl (ZO fun D B L hI=>Z8 rfl rfl Zxz rfl (Zgn (usN x u o n r kk) om2 a _ (hE.mono hI.1)) r4) (h:=?_))))))
 refine ZA 4 kr rfl kr (Z0 [_,_,_,_,_] rfl rfl Zc6 rfl (ZbT 9 rfl rfl rfl) ?_)
 refine ⟨⟨Kn.le.refl _,trivial⟩,(Zbz 7 kr rfl kr kr (ZM [_,_,_,_,_] 4 [_,_,_,_,_] rfl rfl Zdh rfl rfl rfl rfl rfl rfl rfl rfl ?_))⟩
 refine aA 8 rfl (h:=Zt kr kr ?_)
 refine Zo (Zrm (Ze ?_))
 exact ZeC .ret (.inl rfl) [_,_] [0,1,5,6,7] rfl ⟨⟨_,rfl,.inr ⟨[_,_,_,_,_],Zc6,ZbT 4 rfl rfl rfl,rfl⟩⟩,rfl,trivial⟩ ⟨(usX x u o n r R x),_,usX x u o n r YS ys,_,_,_,_,_,_,_,_,_,_,_,_,by rw [if_pos ⟨by simpa using g1,by simpa using g2⟩],rfl,rfl,hu14,hf14,hi14,hy14⟩
 refine (Zav (l:=[_,_,_,_]) rfl rfl Zm6 rfl (fun b16=>⟨⟨Kn.le.refl _,t2⟩,(ZA 8 kr rfl kr (Zap rfl rfl Zzr rfl (ZgM _ _ _ _ _ _ x _ hu hf hi) ?_))⟩))
 rintro _ Bc _ hlec ⟨q1c,c1c,q2c,c2c,q3c,c3c,l1c,l2c,l3c,rfl,rfl,huc,hfc,hic⟩
 replace hy:=hy.mono Zag.mono hlec
 replace hE:=hE.mono hlec
 refine ⟨⟨hlec,t2⟩,(aT 9 rfl (ZO fun D B L hI=>Zak (parts:=[(1,_)]) [_,_,_,_,_,_,_] [_,_,_,_,_,_,_] rfl rfl ZvG Zu4 rfl rfl rfl r4) (h:=ZA 10 kr rfl kr (Zos (l:=[_,_,_,_,_,_,_]) rfl rfl rfl rfl (fun b18=>?_))))⟩
 refine ⟨⟨hlec,t2⟩,(aT 11 rfl (ZO fun D B L hI=>Zak (parts:=[(0,_),(1,_),(2,_)]) [_,_,_,_] [_,_,_,_] rfl rfl ZtP Zm6 rfl rfl rfl r4) (h:=Zad 13 kr rfl kr kr kr (ZM [_,_,_,_] 5 [_,_,_,_] rfl rfl ZtF rfl rfl rfl rfl rfl rfl rfl rfl ?_)))⟩
 refine Zo (Zrm (Zoi 5 rfl (fun B19 hle19 hpm19=>?_)))
 have hc19:=ZbD hpm19
 replace hy:=hy.mono Zag.mono hle19
 replace huc:=huc.mono Zs.mono hle19
 replace hE:=hE.mono hle19
 refine Za (xM (h:=xM (h:=xK [9,6,7,8,0,1] rfl ZuM rfl (Zov hJ _ _ _ _ _ _ _ _ x _ _ _ u o n r f cap R kk he hul hol hnl om2 om2 be _ _ _ ys YS hyl a _ hE hc19 huc hfc hic hy (fun h2 hr B2 hle=>hw (by simpa using g1) (by simpa using g2) h2 hr B2 _ _ _ _ _ _ _ _ _ _ (hlev.trans (hlec.trans (hle19.trans hle))) huc hfc hic)) (h:=?_))))
 rintro _ B20 _ hle20 ⟨q120,c120,q220,c220,q320,c320,l120,l220,l320,qe20,ce20,le20,rfl,rfl,hu20,hf20,hi20,hy20⟩
 replace hc19:=hc19.mono hle20
 replace hE:=hE.mono hle20
 refine xA (h:=Zrm (Zc (Z2 (keeps _ [] _) mo kr ⟨Kn.le.refl _,ZaY.refl _ _⟩ (fun _ _=>?_))))
 refine aW 0 rfl ZeB (h:=aT 1 rfl (ZO fun D B L hI=>Zm rfl rfl Zkh rfl ((hc19.mono hI.1) _ 3 _ rfl) r4) (h:=aNc 2 rfl (h:=aW 3 rfl Zgq (h:=aM 5 rfl (h:=aT 6 rfl (ZO fun D B L hI=>Z8 rfl rfl Zxz rfl (Zgn (usN x u o n r kk) om2 a _ (hE.mono hI.1)) r4) (h:=?_))))))
 refine ZA 4 kr rfl kr (Z0 [_,_,_,_,_] rfl rfl Zc6 rfl (ZbT 9 rfl rfl rfl) ?_)
 refine ⟨⟨Kn.le.refl _,trivial⟩,(Zbz 7 kr rfl kr kr (ZM [_,_,_,_,_] 4 [_,_,_,_,_] rfl rfl Zdh rfl rfl rfl rfl rfl rfl rfl rfl ?_))⟩
 refine aA 8 rfl (h:=Zt kr kr ?_)
 refine Zo (Zrm (Ze ?_))
 exact ZeC .ret (.inl rfl) [_,_] [0,1,6,7,8] rfl ⟨⟨_,rfl,.inr ⟨[_,_,_,_,_],Zc6,ZbT 4 rfl rfl rfl,rfl⟩⟩,rfl,trivial⟩ ⟨(usX x u o n r R x),_,usX x u o n r YS ys,_,_,_,_,_,_,_,_,_,_,_,_,by rw [if_pos ⟨by simpa using g1,by simpa using g2⟩],rfl,rfl,hu20,hf20,hi20,hy20⟩

theorem ZnB (q:Option Addr) (cp:Nat) (xs:List Int) (l:Cells) (k:Nat) (hk:k≤900000000000000) (hn:xs.length≤2000000) (B:Kn) (hv:ZN B l q cp 3 1 Zag xs):Zv (pj J) 28 [.slice q xs.length cp,.int .i64 k] B [l] (fun v B' Ls=>B'=B∧∃l',Ls=[l']∧v = .int .i64 ((k+1*xs.length:Nat):Int)∧ZN B l' q cp 3 1 Zag (Zee k xs.length)):=by
 refine cB 19 Tryz.func28 (h:=?_)
 have hvc:=hv.cap
 refine Za (xA (h:=Zc (Za (xA (h:=Zh (Zz (α:=Nat × Cells × List Int) [4] (fun g=>[(0,.slice q xs.length cp),(1,.int .i64 ((k+1*g.1:Nat):Int)),(5,.int .i64 g.1)]) [0] (fun g=>[g.2.1]) (fun g Bx=>Bx=B∧g.1≤xs.length∧g.2.2.length=xs.length∧g.2.2.take g.1=Zee k g.1∧ZN Bx g.2.1 q cp 3 1 Zag g.2.2) (fun g=>xs.length - g.1) (0,l,xs) t3 rfl (⟨rfl,Nat.zero_le _,rfl,rfl,hv⟩) (fun g B1 hle1 hI=>?_)))))))
 obtain ⟨rfl,hi,hle,ht,hw⟩:=hI
 refine ZC [(0,_),(1,_),(4,_),(5,_)] [_] t4 rfl (Zc (Za (xM (h:=xM (h:=xV Tryz.underlying65 (h:=ZF (h:=Zb rfl (fun g1=>?_) (fun g1=>?_))))))))
 try simp only [sQ,ne_eq] at g1
 refine wSk (Zc (Zh (Za (xM (h:=xM (h:=xM (h:=?_)))))))
 obtain ⟨z1,hz1⟩:=ZY (xs:=g.2.2) (i:=g.1) om
 obtain ⟨bb3,_,hp3,rfl,hw3,hc3⟩:=hw.row hz1
 refine xIp hp3 Tryz.underlying65 sz3 (h:=Zk (Zf8 (k:=g.1) (off:=0) (((k+1*g.1:Nat):Int)) [_] 0 hw hp3 hz1 rfl rfl sz3 rfl rfl rfl rfl rfl rfl (by rintro _ rfl;rfl) (fun l4 hv4=>?_)))
 refine tL1 (Zf (xM (h:=xD (h:=xA (h:=ZP (Zo (Zf (xM (h:=xD (h:=xA (h:=?_)))))))))))
 exact ZD (g.1+1,l4,(g.2.2.set g.1 (((k+1*g.1:Nat):Int)))) [0] so2 ⟨rfl,so,by simp only [List.length_set];exact hle,Zlv ht hz1,hv4⟩ t4 rfl
 try simp only [sQ,ne_eq] at g1
 have he:=Zj8 ht oz
 have hgi:g.1=xs.length:=by omega
 rw [hgi] at he
 refine ZE (ZV (ZH (Zw (Zo (Za (xM (h:=xA (h:=Ze ?_))))))))
 exact ZeC .ret (.inl rfl) [_] [0] rfl ⟨rfl,trivial⟩ ⟨rfl,_,rfl,by rw [hgi];rfl,by rw [← he];exact hw⟩

end Go.Proofs.YtkppijmhadbpdaaGreatDoor
