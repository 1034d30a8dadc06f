/-
  WHAT THE FUNCTIONS THAT THE LAWS REACH COMPUTE: each function's contract, proved off its printed body (the text is written by program). No condition beyond those that each theorem states.
-/
import Derived.Test.YtgbaglnnkikkgaaGreatDoorC1
namespace Go.Proofs.YtgbaglnnkikkgaaGreatDoor
open Go Go.BL
set_option linter.unusedVariables false
set_option linter.unusedSimpArgs false
set_option maxRecDepth 4000
set_option maxHeartbeats 6400000
variable {J : JoinT}
theorem Ztj (q:Option Addr) (cp:Nat) (gs:List DGrant) (u:Str) (hr :∀y,y∈gs→0≤y.rights∧y.rights≤63) (B:Kn) (hg:SlK B q cp 2 ZD gs):Z6 (pj J) 99 [.slice q gs.length cp,str u] B (.int .i64 (Za9 gs u)):=by
 refine cB 55 Tryz.func99 (h:=?_)
 have hgn:=hg.len
 refine Za (xA (h:=Za (xA (h:=Zc (Za (xA (h:=Zi (Zw (α:=Nat × Int) [0,1,4] (fun g=>[(5,.int .i64 g.2),(6,.int .i64 g.1)]) [] (fun g=>[]) (fun g Bx=>Bx=B∧g.1≤6∧g.2=Ze8 gs u g.1) (fun g=>6 - g.1) (0,0) t2 rfl (⟨rfl,oz,rfl⟩) (fun g B1 hle1 hI=>?_)))))))))
 obtain ⟨rfl,hk,hs⟩:=hI
 have hbd:=ZhH gs u g.1 hk
 refine ZB [(0,_),(1,_),(4,_),(5,_),(6,_)] [] t5 rfl (Zc (Za (xM (h:=ZE (h:=Zb rfl (fun g1=>?_) (fun g1=>?_))))))
 try simp only [sQ,ne_eq] at g1
 have hp:=Zp9 (k:=g.1) oz
 refine wSk (Zc (Zi (Za (xA (h:=Zc (Za (xA (h:=Zi (Zw (α:=Nat × Bool) [0,1,4,5,6,10] (fun o=>[(7,.bool o.2),(8,.int .i64 o.1)]) [] (fun o=>[]) (fun o Bx=>Bx=B1∧o.1≤gs.length∧o.2=(gs.take o.1).any (onB u (Zca g.1))) (fun o=>gs.length - o.1) (0,false) t2 rfl (⟨rfl,Nat.zero_le _,rfl⟩) (fun o B2 hle2 hI=>?_))))))))))
 obtain ⟨rfl,ho,hon⟩:=hI
 refine ZB [(0,_),(1,_),(4,_),(5,_),(6,_),(7,_),(8,_),(10,_)] [] t8 rfl (Zc (Za (xM (h:=xM (h:=xV Tryz.underlying54 (h:=ZE (h:=Zb rfl (fun g2=>?_) (fun g2=>?_))))))))
 try simp only [sQ,ne_eq] at g2
 obtain ⟨x,hx⟩:=ZU (xs:=gs) (i:=o.1) oz
 have hrx:=hr x (List.mem_of_getElem? hx)
 refine wSk (Zc (Zi (Z2 (same _ _) mo kr ⟨rfl,rfl⟩ (fun _ _=>?_))))
 refine aM 0 rfl (h:=aM 1 rfl (h:=Zav (d:=20) rfl (fun g3=>?_) (fun g3=>?_)))
 try simp only [sQ,ne_eq] at g3
 refine aZ 2 rfl (h:=aZ 3 rfl (h:=aZ 4 rfl (h:=aZ 5 rfl (h:=aZ 6 rfl (h:=aZ 7 rfl (h:=aZ 8 rfl (h:=aZ 9 rfl (h:=aZ 10 rfl (h:=aZ 11 rfl (h:=aZ 12 rfl (h:=aZ 13 rfl (h:=aZ 14 rfl (h:=aZ 15 rfl (h:=aZ 16 rfl (h:=aZ 17 rfl (h:=aZ 18 rfl (h:=aZ 19 rfl (h:=aZ 20 rfl (h:=aZ 21 rfl (h:=aZ 22 rfl (h:=aZ 23 rfl (h:=aZ 24 rfl (h:=aZ 25 rfl (h:=aZ 26 rfl (h:=aZ 27 rfl (h:=aZ 28 rfl (h:=aPT 29 rfl (h:=aA 30 rfl (h:=Zx kr kr ?_)))))))))))))))))))))))))))))
 refine ZM (Zo (Zf (xM (h:=xD (h:=xA (h:=?_))))))
 exact ZA (o.1+1,true) [] so2 ⟨rfl,so,by rw [ZgV hx,← hon,g3];rfl⟩ t8 rfl
 try simp only [sQ,ne_eq] at g3
 refine aM 2 rfl (h:=aM 3 rfl (h:=?_))
 obtain ⟨bb3,oo3,rfl⟩:=hg.base hx
 obtain ⟨_,⟨rfl,hb4⟩,hc4⟩:=hg.elem hx
 refine aIx 4 rfl Tryz.underlying54 ZaQ (h:=aW 5 rfl Za7 (h:=aT 6 rfl (Zag fun D=>Zn rfl rfl lk9 rfl (hc4 _ 0 _ rfl) r4) (h:=aM 7 rfl (h:=Zqg 8 rfl (h:=aM 9 rfl (h:=Zav (d:=28) rfl (fun g4=>?_) (fun g4=>?_)))))))
 try simp only [sQ,ne_eq] at g4
 refine aZ 10 rfl (h:=aZ 11 rfl (h:=aZ 12 rfl (h:=aZ 13 rfl (h:=aZ 14 rfl (h:=aZ 15 rfl (h:=aPT 16 rfl (h:=aM 17 rfl (h:=aM 18 rfl (h:=aM 19 rfl (h:=aIx 20 rfl Tryz.underlying54 ZaQ (h:=aW 21 rfl Zdb (h:=aT 22 rfl (Zag fun D=>Zn rfl rfl lk3 rfl (hc4 _ 1 _ rfl) r4) (h:=aM 23 rfl (h:=aT 24 rfl (Zag fun D=>Zaf rfl rfl ZtP rfl (ZiW g.1 om2 _) r4) (h:=?_)))))))))))))))
 refine aT 25 rfl (Zag fun D=>Zn4 (a:=x.rights) (b:=(Zca g.1)) (r:=Int.tdiv x.rights (Zca g.1)) rfl rfl rfl rfl oz (ZoH oz oz oz) r4) (h:=?_)
 refine aT 26 rfl (Zag fun D=>Zqs (a:=(Int.tdiv x.rights (Zca g.1))) (b:=2) (r:=Int.tmod (Int.tdiv x.rights (Zca g.1)) 2) rfl rfl rfl rfl (by decide) rfl r4) (h:=?_)
 refine Zqh 27 rfl (h:=aPT 28 rfl (h:=aPF 29 rfl (h:=aA 30 rfl (h:=Zx kr kr ?_))))
 refine ZM (Zo (Zf (xM (h:=xD (h:=xA (h:=?_))))))
 exact ZA (o.1+1,decide (Int.tmod (Int.tdiv x.rights (Zca g.1)) 2=1)) [] so2 ⟨rfl,so,by rw [ZgV hx,← hon,g3,onB];simp [g4]⟩ t8 rfl
 try simp only [sQ,ne_eq] at g4
 refine aM 10 rfl (h:=aM 11 rfl (h:=aIx 12 rfl Tryz.underlying54 ZaQ (h:=aW 13 rfl Za7 (h:=aT 14 rfl (Zag fun D=>Zn rfl rfl lk9 rfl (hc4 _ 0 _ rfl) r4) (h:=Zqg 15 rfl (h:=aPF 16 rfl (h:=aM 17 rfl (h:=Zav (d:=36) rfl (fun g5=>?_) (fun g5=>?_)))))))))
 try simp only [sQ,ne_eq] at g5
 refine aM 18 rfl (h:=aM 19 rfl (h:=aIx 20 rfl Tryz.underlying54 ZaQ (h:=aW 21 rfl Zdb (h:=aT 22 rfl (Zag fun D=>Zn rfl rfl lk3 rfl (hc4 _ 1 _ rfl) r4) (h:=aM 23 rfl (h:=aT 24 rfl (Zag fun D=>Zaf rfl rfl ZtP rfl (ZiW g.1 om2 _) r4) (h:=?_)))))))
 refine aT 25 rfl (Zag fun D=>Zn4 (a:=x.rights) (b:=(Zca g.1)) (r:=Int.tdiv x.rights (Zca g.1)) rfl rfl rfl rfl oz (ZoH oz oz oz) r4) (h:=?_)
 refine aT 26 rfl (Zag fun D=>Zqs (a:=(Int.tdiv x.rights (Zca g.1))) (b:=2) (r:=Int.tmod (Int.tdiv x.rights (Zca g.1)) 2) rfl rfl rfl rfl (by decide) rfl r4) (h:=?_)
 refine Zqh 27 rfl (h:=aPT 28 rfl (h:=aPF 29 rfl (h:=aA 30 rfl (h:=Zx kr kr ?_))))
 refine ZM (Zo (Zf (xM (h:=xD (h:=xA (h:=?_))))))
 exact ZA (o.1+1,decide (Int.tmod (Int.tdiv x.rights (Zca g.1)) 2=1)) [] so2 ⟨rfl,so,by rw [ZgV hx,← hon,g3,onB];simp [g5,anyone]⟩ t8 rfl
 try simp only [sQ,ne_eq] at g5
 refine aZ 18 rfl (h:=aZ 19 rfl (h:=aZ 20 rfl (h:=aZ 21 rfl (h:=aZ 22 rfl (h:=aZ 23 rfl (h:=aZ 24 rfl (h:=aZ 25 rfl (h:=aZ 26 rfl (h:=aZ 27 rfl (h:=aPF 28 rfl (h:=aPF 29 rfl (h:=aA 30 rfl (h:=Zx kr kr ?_)))))))))))))
 refine ZM (Zo (Zf (xM (h:=xD (h:=xA (h:=?_))))))
 exact ZA (o.1+1,false) [] so2 ⟨rfl,so,by rw [ZgV hx,← hon,g3,onB];simp [g4,g5,anyone]⟩ t8 rfl
 try simp only [sQ,ne_eq] at g2
 have hae:=ZtX hon oz
 refine ZC (ZV (ZG (Zu (Zo (Za (xM (h:=Zb rfl (fun g6=>?_) (fun g6=>?_))))))))
 try simp only [sQ,ne_eq] at g6
 refine Zf (xM (h:=xM (h:=xR ZtP rfl (ZiW g.1 om2 _) (h:=?_))))
 refine xD (h:=xA (h:=ZM (Zo (Zf (xM (h:=xD (h:=xA (h:=?_))))))))
 exact ZA (g.1+1,g.2+Zca g.1) [] so2 ⟨rfl,so,by simp only [Ze8];rw [← hae,if_pos g6,hs]⟩ t5 rfl
 try simp only [sQ,ne_eq] at g6
 refine ZT (ZM (Zo (Zf (xM (h:=xD (h:=xA (h:=?_)))))))
 exact ZA (g.1+1,g.2) [] so2 ⟨rfl,so,by simp only [Ze8];rw [← hae,if_neg (by simp [g6]),hs]⟩ t5 rfl
 try simp only [sQ,ne_eq] at g1
 refine ZC (ZV (ZG (Zu (Zo (Za (xM (h:=xA (h:=Zd ?_))))))))
 exact eR t1 ⟨ZF (by rw [hs,show g.1=6 from by omega];rfl),rfl,rfl⟩

theorem Zhh (n:Int) (B:Kn):Z6 (pj J) 18 [.int .i64 n] B (.bool (ZaC n)):=by
 refine cB 5 Tryz.func18 (h:=?_)
 refine Za (xA (h:=Za (xM (h:=xR Zqm rfl (Ze4 _ _ _ _) (h:=xA (h:=Zd ?_))))))
 exact eR t1 ⟨rfl,rfl,rfl⟩

theorem Zmt (q1 q2 q3:Option Addr) (c1 c2 c3:Nat) (x:DHost) (k:Int) (u:Str) (r:Int) (f:DFolder) (hk0:0≤k) (hk:x.folders[k.toNat]? = some f) (hrr:Zjo x.folders) (h1:0<r) (B:Kn) (hf:SlK B q2 c2 5 Zs x.folders):Z6 (pj J) 62 [.agg #[str x.domain,.slice q1 x.users.length c1,.slice q2 x.folders.length c2,.int .i64 x.queue.next,.slice q3 x.queue.items.length c3],.int .i64 k,str u,.int .i64 r] B (.bool (ZmM f u r)):=by
 refine cB 31 Tryz.func62 (h:=?_)
 have hfn:=hf.len
 have hkl:=(List.getElem?_eq_some_iff.1 hk).1
 have hrb:=Zk3 f.grants u
 refine Za (xBx [_,_,_,_,_] (h:=fun b1=>xA (h:=tL1 (Za (xM (h:=xW Zal (h:=x1 Zec 0 (h:=xM (h:=?_)))))))))
 obtain ⟨bb2,oo2,rfl⟩:=hf.base hk
 obtain ⟨_,⟨qg3,cg3,qm3,cm3,rfl,hg3,hm3,hb3,hb3b⟩,hc3⟩:=hf.elem hk
 have hg3n:=hg3.len
 have hm3n:=hm3.len
 have hm3s:=Zad hm3
 refine xIx Tryz.underlying31 Zbw (h:=xW Zb5 (h:=y1 lk9 hc3 0 (h:=Zdz (h:=xM (h:=Zt (d:=17) rfl (fun g1=>?_) (fun g1=>?_))))))
 refine xP (h:=xP (h:=xP (h:=xP (h:=xP (h:=xP (h:=xP (h:=xP (h:=xP (h:=xP (h:=xP (h:=xP (h:=xT (h:=xA (h:=Zd ?_))))))))))))))
 exact eR t1 ⟨Ze (by simp [ZmM,g1]),rfl,rfl⟩
 refine xW Zal (h:=x1 Zec 0 (h:=xM (h:=xIx Tryz.underlying31 Zbw (h:=xW ZbB (h:=y1 Zms hc3 2 (h:=xM (h:=xR Zyv rfl (Ztj _ _ f.grants u (by first | assumption | exact hrr _ (List.mem_of_getElem? (oy))) _ hg3) (h:=?_))))))))
 refine xM (h:=Zk (Zn4 (a:=(Za9 f.grants u)) (b:=r) (r:=Int.tdiv (Za9 f.grants u) r) rfl rfl rfl rfl oz (ZoH oz oz oz) ?_))
 refine Zk (Zqs (a:=(Int.tdiv (Za9 f.grants u) r)) (b:=2) (r:=Int.tmod (Int.tdiv (Za9 f.grants u) r) 2) rfl rfl rfl rfl (by decide) rfl ?_)
 refine Zju (h:=xF (h:=xA (h:=Zd ?_)))
 exact eR t1 ⟨Ze (by simp [ZmM,g1]),rfl,rfl⟩

theorem Znj (q1 q2 q3:Option Addr) (c1 c2 c3:Nat) (x:DHost) (u:Str) (k r:Int) (hk:k<x.folders.length) (hrr:Zjo x.folders) (h1:0<r) (B:Kn) (hu:SlK B q1 c1 3 Zr x.users) (hf:SlK B q2 c2 5 Zs x.folders):Z6 (pj J) 21 [.agg #[str x.domain,.slice q1 x.users.length c1,.slice q2 x.folders.length c2,.int .i64 x.queue.next,.slice q3 x.queue.items.length c3],str u,.int .i64 k,.int .i64 r] B (.int .i64 (Zp3 x.users x.folders u k r)):=by
 refine cB 32 Tryz.func21 (h:=?_)
 refine Za (xBx [_,_,_,_,_] (h:=fun b1=>xA (h:=tL1 (Zc (Zi (Za (xW ZbC (h:=x1 Zib 0 (h:=xM (h:=xR Zve rfl (Zer _ _ _ _ _ hu) (h:=ZE (h:=xM (h:=Zt (d:=15) rfl (fun g1=>?_) (fun g1=>?_))))))))))))))
 try simp only [sQ,ne_eq] at g1
 refine xP (h:=xP (h:=xT (h:=xA (h:=Zb (t:=true) rfl (fun _=>Za (xA (h:=Zd (Zy (Zl ?_))))) (fun h=>Bool.noConfusion h)))))
 exact eR t1 ⟨ZF (Zji (.inl g1)).symm,rfl,rfl⟩
 try simp only [sQ,ne_eq] at g1
 refine xM (h:=ZE (h:=xF (h:=xA (h:=Zb rfl (fun g2=>?_) (fun g2=>?_)))))
 try simp only [sQ,ne_eq] at g2
 refine Za (xA (h:=Zd (Zy (Zl ?_))))
 exact eR t1 ⟨ZF (Zji (.inr g2)).symm,rfl,rfl⟩
 try simp only [sQ,ne_eq] at g2
 have hfn:=hf.len
 obtain ⟨f,hf0⟩ :∃f,x.folders[k.toNat]? = some f:=⟨_,List.getElem?_eq_getElem oz⟩
 have hce:=Zp2 (us:=x.users) (u:=u) (r:=r) oz hf0
 refine Za (xL [_,_,_,_,_] ZcN 0 (h:=xM (h:=xM (h:=xR Zx6 rfl (Zmt _ _ _ _ _ _ x k u 1 _ oz (oy) hrr oz _ hf) (h:=?_)))))
 refine xN (h:=xA (h:=Zb rfl (fun g3=>?_) (fun g3=>?_)))
 try simp only [sQ,ne_eq] at g3
 refine Za (xA (h:=Zd (Zy (Zl ?_))))
 exact eR t1 ⟨ZF (by rw [hce,if_pos g3]),rfl,rfl⟩
 try simp only [sQ,ne_eq] at g3
 refine Za (xL [_,_,_,_,_] ZcN 0 (h:=xM (h:=xM (h:=xM (h:=xR Zx6 rfl (Zmt _ _ _ _ _ _ x k u r _ oz (oy) hrr oz _ hf) (h:=?_))))))
 refine xN (h:=xA (h:=Zb rfl (fun g4=>?_) (fun g4=>?_)))
 try simp only [sQ,ne_eq] at g4
 refine Za (xA (h:=Zd (Zy (Zl ?_))))
 exact eR t1 ⟨ZF (by rw [hce,if_neg (by simp [g3]),if_pos g4]),rfl,rfl⟩
 try simp only [sQ,ne_eq] at g4
 refine ZT (ZM (Zo (Za (xA (h:=Zd ?_)))))
 exact eR t1 ⟨ZF (by rw [hce,if_neg (by simp [g3]),if_neg (by simp [g4])]),rfl,rfl⟩

theorem Zpb (q:Option Addr) (cp:Nat) (x:DBox) (B:Kn) (hm:SlK B q cp 3 Zam x.mail):Zv (pj J) 98 [.agg #[.int .i64 x.next,.slice q x.mail.length cp]] B [] (fun v B' Ls=>B'=B∧∃l a c,Ls=[l]∧v = .agg #[.int .i64 x.next,.slice a x.mail.length c]∧ZP B l a c 164 3 Zam x.mail):=by
 refine cB 9 Tryz.func98 (h:=?_)
 have hxn:=hm.len
 refine Za (xBx [_,_] (h:=fun b1=>xAl [_,_] Zt5 (h:=fun b2=>tL2 (Za (xBs [] [] Tryz.underlying57 Zdu ZkM (h:=fun b3=>xW Zcc (h:=x1 ZkK 0 (h:=Zk (Zbu (R:=Zam) 2 rfl (ZP.lit0 (R:=Zam)) rfl rfl rfl Zwf ZxO rfl rfl rfl hm.rows Zam.one rfl om (fun l4 p4 c4 hv4=>?_))))))))))
 refine xW Zcc (h:=xS [_] 0 [_,_] ZxM (h:=tL3 (Za (xL [_,_] Zmr 0 (h:=xS [_,_] 1 [_,_] Zt3 (h:=tL3 (Zd ?_)))))))
 exact eN [2] rfl ⟨⟨_,rfl,.inr ⟨[_,_],Zmr,ZcF 1 rfl rfl rfl,rfl⟩⟩,trivial⟩ ⟨rfl,_,_,_,rfl,rfl,hv4⟩

theorem Zlm (qa qb:Option Addr) (ca cb:Nat) (x:DFolder) (B:Kn) (hg:SlK B qa ca 2 ZD x.grants) (hm:SlK B qb cb 3 Zam x.mail):Zv (pj J) 61 [.agg #[str x.owner,str x.name,.slice qa x.grants.length ca,.int .i64 x.next,.slice qb x.mail.length cb]] B [] (fun v B' Ls=>B'=B∧∃l a c l' a' c',Ls=[l,l']∧v = .agg #[str x.owner,str x.name,.slice a x.grants.length c,.int .i64 x.next,.slice a' x.mail.length c']∧ZP B l a c 109 2 ZD x.grants∧ZP B l' a' c' 164 3 Zam x.mail):=by
 refine cB 13 Tryz.func61 (h:=?_)
 have hgn:=hg.len
 have hmn:=hm.len
 refine Za (xBx [_,_,_,_,_] (h:=fun b1=>xAl [_,_,_,_,_] Zf5 (h:=fun b2=>tL2 (Za (xBs [] [] Tryz.underlying54 ZaQ ZcI (h:=fun b3=>xW ZbB (h:=x1 Zms 0 (h:=Zk (Zbu (R:=ZD) 2 rfl (ZP.lit0 (R:=ZD)) rfl rfl rfl ZnC Zow rfl rfl rfl hg.rows ZD.one rfl om (fun l4 p4 c4 hv4=>?_))))))))))
 refine xW ZbB (h:=xS [_] 0 [_,_,_,_,_] ZsU (h:=tL3 (Za (xW Zda (h:=xL [_,_] Zmr 0 (h:=xC Zyw rfl (Zpb _ _ (⟨x.next,x.mail⟩:DBox) _ hm) (h:=?_)))))))
 rintro _ B5 _ hle5 ⟨hB5,l5,a5,c5,rfl,rfl,hs5⟩
 have hB5:=hB5.symm
 subst hB5
 refine xW Zda (h:=xS [_,_] 0 [_,_,_,_,_] Zt3 (h:=tL4 (Za (xL [_,_,_,_,_] ZhQ 0 (h:=xS [_,_,_,_,_] 1 [_,_,_,_,_] Zbw (h:=tL4 (Zd ?_)))))))
 exact eN [2,3] rfl ⟨⟨_,rfl,.inr ⟨[_,_,_,_,_],ZhQ,ZcF 1 rfl rfl rfl,rfl⟩⟩,trivial⟩ ⟨rfl,_,_,_,_,_,_,rfl,rfl,hv4,hs5⟩

theorem Zo8 (q1 q2 q3:Option Addr) (c1 c2 c3:Nat) (x:DHost) (B:Kn) (hu:SlK B q1 c1 3 Zr x.users) (hf:SlK B q2 c2 5 Zs x.folders) (hi:SlK B q3 c3 4 ZK x.queue.items):Zv (pj J) 19 [.agg #[str x.domain,.slice q1 x.users.length c1,.slice q2 x.folders.length c2,.int .i64 x.queue.next,.slice q3 x.queue.items.length c3]] B [] (fun v B' Ls=>∃l a c p1 d1 p3 d3,Ls=[l]∧v = .agg #[str x.domain,.slice p1 x.users.length d1,.slice a x.folders.length c,.int .i64 x.queue.next,.slice p3 x.queue.items.length d3]∧SlK B' p1 d1 3 Zr x.users∧ZP B' l a c 61 5 Zs x.folders∧SlK B' p3 d3 4 ZK x.queue.items):=by
 refine cB 35 Tryz.func19 (h:=?_)
 have hun:=hu.len
 have hfn:=hf.len
 have hin:=hi.len
 refine Za (xBx [_,_,_,_,_] (h:=fun b1=>xAl [_,_,_,_,_] Zcx (h:=fun b2=>tL2 (Zug (α:=GHC × Gh DFolder) [0,1,2] (fun o=>[(3,ptr ⟨o.1.b,0,none⟩)]) (fun o=>[Zar b1 [str x.domain,.slice q1 x.users.length c1,.slice q2 x.folders.length c2,.int .i64 x.queue.next,.slice q3 x.queue.items.length c3] 36,Zar b2 [str [],.slice none 0 0,.slice none 0 0,.int .i64 0,.slice none 0 0] 36,o.2.l,Zar o.1.b [str x.domain,.slice o.1.q1 x.users.length o.1.c1,.slice o.2.a o.2.xs.length o.2.c,.int .i64 x.queue.next,.slice o.1.q3 x.queue.items.length o.1.c3] 36]) (fun o Bx=>SlK Bx o.1.q1 o.1.c1 3 Zr x.users∧o.2.xs=[]∧ZP Bx o.2.l o.2.a o.2.c 61 5 Zs o.2.xs∧SlK Bx o.1.q3 o.1.c3 4 ZK x.queue.items) ?_ (fun o B3 hle3 hF=>?_)))))
 refine Z2 (keeps _ [0] _) mo kr ⟨Kn.le.refl _,Zbr.refl _ _⟩ (fun _ _=>?_)
 refine aW 0 rfl Zhw (h:=aT 1 rfl (ZR fun D B L hI=>Zn rfl rfl lk9 rfl (atL 0 (hI.2.1.trans rfl) rfl rfl) r4) (h:=aW 3 rfl ZbC (h:=aT 4 rfl (ZR fun D B L hI=>Zn rfl rfl Zib rfl (atL 0 (hI.2.1.trans rfl) rfl rfl) r4) (h:=aW 7 rfl Zee (h:=aT 8 rfl (ZR fun D B L hI=>Zaj [_,_] rfl rfl ZkL rfl (ZcF 0 (hI.2.1.trans rfl) rfl rfl) r4) (h:=Zbj [2,6,11] kr kr kr ⟨?_,?_,?_⟩))))))
 refine (ZJ (parts:=[]) [] rfl rfl Tryz.underlying30 Zek Ziv rfl rfl rfl rfl rfl (fun b4=>⟨⟨Kn.le.refl _,t1⟩,(Zbj [5,6,11] kr kr kr ⟨?_,?_,?_⟩)⟩))
 refine (Zbu (R:=Zr) 2 rfl (ZP.lit0 (R:=Zr)) rfl rfl rfl ZnD ZnV rfl rfl rfl hu.rows Zr.one rfl om (fun l5 p5 c5 hv5=>?_))
 refine ⟨⟨Kn.le.refl _,t1⟩,(ZaE 2 rfl hv5 Zr.mono om3 (fun B' hle'=>⟨hle',t1⟩) (fun B6 hle6 hr6=>?_))⟩
 obtain ⟨hu,hf,hi⟩:=up3 hle6 hu hf hi
 have hr6n:=hr6.len
 refine Zbj [6,9,11] kr kr kr ⟨?_,?_,?_⟩
 refine (ZJ (parts:=[]) [] rfl rfl Tryz.underlying31 Zbw Zf5 rfl rfl rfl rfl rfl (fun b7=>⟨⟨hle6,t1⟩,(Zbj [9,11] kr kr kr ⟨?_,?_⟩)⟩))
 refine (ZaK rfl rfl Zjd rfl (Zan _ _ x.queue _ hi) ?_)
 rintro _ B8 _ hle8 ⟨l8,a8,c8,rfl,rfl,hv8⟩
 obtain ⟨hu,hf,hi,hr6⟩:=up4 hle8 hu hf hi hr6
 replace hv8:=hv8.mono ZK.mono Kn.less_le
 refine ⟨⟨(hle6.trans hle8),t1⟩,(ZaE 4 rfl hv8 ZK.mono om3 (fun B' hle'=>⟨(hle6.trans hle8).trans hle',t1⟩) (fun B9 hle9 hr9=>?_))⟩
 obtain ⟨hu,hf,hi,hr6⟩:=up4 hle9 hu hf hi hr6
 have hr9n:=hr9.len
 refine aT 10 rfl (ZR fun D B L hI=>ZaB (parts:=[(0,_),(1,_),(2,_),(3,_)]) [_,_,_,_,_] [_,_,_,_,_] rfl rfl ZgK Zcx rfl rfl rfl r4) (h:=ZL 11 kr rfl kr (Zbt (l:=[_,_,_,_,_]) rfl rfl Zcx rfl (fun b10=>?_)))
 refine ⟨⟨((hle6.trans hle8).trans hle9),t1⟩,(Zak 12 kr rfl kr kr kr (Z0 [_,_,_,_,_] 5 [_,_,_,_,_] rfl rfl ZdA rfl rfl rfl rfl rfl rfl rfl rfl ?_))⟩
 exact Zax ⟨⟨_,_,_,_,_⟩,⟨0,0,_,_,_,[]⟩⟩ [0,1,3,5] ⟨hr6,rfl,ZP.lit0,hr9⟩ t4 rfl
 refine (Zbt (l:=[_,_,_,_,_]) rfl rfl Zcx rfl (fun b11=>⟨⟨hle6,t1⟩,(ZL 9 kr rfl kr (ZaK rfl rfl Zjd rfl (Zan _ _ x.queue _ hi) ?_))⟩))
 rintro _ B12 _ hle12 ⟨l12,a12,c12,rfl,rfl,hv12⟩
 obtain ⟨hu,hf,hi,hr6⟩:=up4 hle12 hu hf hi hr6
 replace hv12:=hv12.mono ZK.mono Kn.less_le
 refine ⟨⟨(hle6.trans hle12),t1⟩,(ZaE 5 rfl hv12 ZK.mono om3 (fun B' hle'=>⟨(hle6.trans hle12).trans hle',t1⟩) (fun B13 hle13 hr13=>?_))⟩
 obtain ⟨hu,hf,hi,hr6⟩:=up4 hle13 hu hf hi hr6
 have hr13n:=hr13.len
 refine aT 10 rfl (ZR fun D B L hI=>ZaB (parts:=[(0,_),(1,_),(2,_),(3,_)]) [_,_,_,_,_] [_,_,_,_,_] rfl rfl ZgK Zcx rfl rfl rfl r4) (h:=Zak 12 kr rfl kr kr kr (Z0 [_,_,_,_,_] 4 [_,_,_,_,_] rfl rfl ZdA rfl rfl rfl rfl rfl rfl rfl rfl ?_))
 exact Zax ⟨⟨_,_,_,_,_⟩,⟨0,0,_,_,_,[]⟩⟩ [0,1,3,4] ⟨hr6,rfl,ZP.lit0,hr13⟩ t4 rfl
 refine (ZaK rfl rfl Zjd rfl (Zan _ _ x.queue _ hi) ?_)
 rintro _ B14 _ hle14 ⟨l14,a14,c14,rfl,rfl,hv14⟩
 obtain ⟨hu,hf,hi,hr6⟩:=up4 hle14 hu hf hi hr6
 replace hv14:=hv14.mono ZK.mono Kn.less_le
 refine ⟨⟨(hle6.trans hle14),t1⟩,(ZaE 3 rfl hv14 ZK.mono om3 (fun B' hle'=>⟨(hle6.trans hle14).trans hle',t1⟩) (fun B15 hle15 hr15=>?_))⟩
 obtain ⟨hu,hf,hi,hr6⟩:=up4 hle15 hu hf hi hr6
 have hr15n:=hr15.len
 refine Zbj [6,11] kr kr kr ⟨?_,?_⟩
 refine (ZJ (parts:=[]) [] rfl rfl Tryz.underlying31 Zbw Zf5 rfl rfl rfl rfl rfl (fun b16=>⟨⟨((hle6.trans hle14).trans hle15),t1⟩,(aT 10 rfl (ZR fun D B L hI=>ZaB (parts:=[(0,_),(1,_),(2,_),(3,_)]) [_,_,_,_,_] [_,_,_,_,_] rfl rfl ZgK Zcx rfl rfl rfl r4) (h:=ZL 11 kr rfl kr (Zbt (l:=[_,_,_,_,_]) rfl rfl Zcx rfl (fun b17=>?_))))⟩))
 refine ⟨⟨((hle6.trans hle14).trans hle15),t1⟩,(Zak 12 kr rfl kr kr kr (Z0 [_,_,_,_,_] 5 [_,_,_,_,_] rfl rfl ZdA rfl rfl rfl rfl rfl rfl rfl rfl ?_))⟩
 exact Zax ⟨⟨_,_,_,_,_⟩,⟨0,0,_,_,_,[]⟩⟩ [0,1,4,5] ⟨hr6,rfl,ZP.lit0,hr15⟩ t4 rfl
 refine (Zbt (l:=[_,_,_,_,_]) rfl rfl Zcx rfl (fun b18=>⟨⟨((hle6.trans hle14).trans hle15),t1⟩,(ZL 6 kr rfl kr (ZJ (parts:=[]) [] rfl rfl Tryz.underlying31 Zbw Zf5 rfl rfl rfl rfl rfl (fun b19=>?_)))⟩))
 refine ⟨⟨((hle6.trans hle14).trans hle15),t1⟩,(aT 10 rfl (ZR fun D B L hI=>ZaB (parts:=[(0,_),(1,_),(2,_),(3,_)]) [_,_,_,_,_] [_,_,_,_,_] rfl rfl ZgK Zcx rfl rfl rfl r4) (h:=Zak 12 kr rfl kr kr kr (Z0 [_,_,_,_,_] 4 [_,_,_,_,_] rfl rfl ZdA rfl rfl rfl rfl rfl rfl rfl rfl ?_)))⟩
 exact Zax ⟨⟨_,_,_,_,_⟩,⟨0,0,_,_,_,[]⟩⟩ [0,1,5,4] ⟨hr6,rfl,ZP.lit0,hr15⟩ t4 rfl
 refine (Zbt (l:=[_,_,_,_,_]) rfl rfl Zcx rfl (fun b20=>⟨⟨hle6,t1⟩,(Zbj [6,9] kr kr kr ⟨?_,?_⟩)⟩))
 refine (ZJ (parts:=[]) [] rfl rfl Tryz.underlying31 Zbw Zf5 rfl rfl rfl rfl rfl (fun b21=>⟨⟨hle6,t1⟩,(ZL 9 kr rfl kr (ZaK rfl rfl Zjd rfl (Zan _ _ x.queue _ hi) ?_))⟩))
 rintro _ B22 _ hle22 ⟨l22,a22,c22,rfl,rfl,hv22⟩
 obtain ⟨hu,hf,hi,hr6⟩:=up4 hle22 hu hf hi hr6
 replace hv22:=hv22.mono ZK.mono Kn.less_le
 refine ⟨⟨(hle6.trans hle22),t1⟩,(ZaE 5 rfl hv22 ZK.mono om3 (fun B' hle'=>⟨(hle6.trans hle22).trans hle',t1⟩) (fun B23 hle23 hr23=>?_))⟩
 obtain ⟨hu,hf,hi,hr6⟩:=up4 hle23 hu hf hi hr6
 have hr23n:=hr23.len
 refine aT 10 rfl (ZR fun D B L hI=>ZaB (parts:=[(0,_),(1,_),(2,_),(3,_)]) [_,_,_,_,_] [_,_,_,_,_] rfl rfl ZgK Zcx rfl rfl rfl r4) (h:=Zak 12 kr rfl kr kr kr (Z0 [_,_,_,_,_] 3 [_,_,_,_,_] rfl rfl ZdA rfl rfl rfl rfl rfl rfl rfl rfl ?_))
 exact Zax ⟨⟨_,_,_,_,_⟩,⟨0,0,_,_,_,[]⟩⟩ [0,1,4,3] ⟨hr6,rfl,ZP.lit0,hr23⟩ t4 rfl
 refine (ZaK rfl rfl Zjd rfl (Zan _ _ x.queue _ hi) ?_)
 rintro _ B24 _ hle24 ⟨l24,a24,c24,rfl,rfl,hv24⟩
 obtain ⟨hu,hf,hi,hr6⟩:=up4 hle24 hu hf hi hr6
 replace hv24:=hv24.mono ZK.mono Kn.less_le
 refine ⟨⟨(hle6.trans hle24),t1⟩,(ZaE 4 rfl hv24 ZK.mono om3 (fun B' hle'=>⟨(hle6.trans hle24).trans hle',t1⟩) (fun B25 hle25 hr25=>?_))⟩
 obtain ⟨hu,hf,hi,hr6⟩:=up4 hle25 hu hf hi hr6
 have hr25n:=hr25.len
 refine ZL 6 kr rfl kr (ZJ (parts:=[]) [] rfl rfl Tryz.underlying31 Zbw Zf5 rfl rfl rfl rfl rfl (fun b26=>?_))
 refine ⟨⟨((hle6.trans hle24).trans hle25),t1⟩,(aT 10 rfl (ZR fun D B L hI=>ZaB (parts:=[(0,_),(1,_),(2,_),(3,_)]) [_,_,_,_,_] [_,_,_,_,_] rfl rfl ZgK Zcx rfl rfl rfl r4) (h:=Zak 12 kr rfl kr kr kr (Z0 [_,_,_,_,_] 3 [_,_,_,_,_] rfl rfl ZdA rfl rfl rfl rfl rfl rfl rfl rfl ?_)))⟩
 exact Zax ⟨⟨_,_,_,_,_⟩,⟨0,0,_,_,_,[]⟩⟩ [0,1,5,3] ⟨hr6,rfl,ZP.lit0,hr25⟩ t4 rfl
 refine (ZJ (parts:=[]) [] rfl rfl Tryz.underlying31 Zbw Zf5 rfl rfl rfl rfl rfl (fun b27=>⟨⟨Kn.le.refl _,t1⟩,(Zbj [5,11] kr kr kr ⟨?_,?_⟩)⟩))
 refine (Zbu (R:=Zr) 2 rfl (ZP.lit0 (R:=Zr)) rfl rfl rfl ZnD ZnV rfl rfl rfl hu.rows Zr.one rfl om (fun l28 p28 c28 hv28=>?_))
 refine ⟨⟨Kn.le.refl _,t1⟩,(ZaE 2 rfl hv28 Zr.mono om3 (fun B' hle'=>⟨hle',t1⟩) (fun B29 hle29 hr29=>?_))⟩
 obtain ⟨hu,hf,hi⟩:=up3 hle29 hu hf hi
 have hr29n:=hr29.len
 refine Zbj [9,11] kr kr kr ⟨?_,?_⟩
 refine (ZaK rfl rfl Zjd rfl (Zan _ _ x.queue _ hi) ?_)
 rintro _ B30 _ hle30 ⟨l30,a30,c30,rfl,rfl,hv30⟩
 obtain ⟨hu,hf,hi,hr29⟩:=up4 hle30 hu hf hi hr29
 replace hv30:=hv30.mono ZK.mono Kn.less_le
 refine ⟨⟨(hle29.trans hle30),t1⟩,(ZaE 4 rfl hv30 ZK.mono om3 (fun B' hle'=>⟨(hle29.trans hle30).trans hle',t1⟩) (fun B31 hle31 hr31=>?_))⟩
 obtain ⟨hu,hf,hi,hr29⟩:=up4 hle31 hu hf hi hr29
 have hr31n:=hr31.len
 refine aT 10 rfl (ZR fun D B L hI=>ZaB (parts:=[(0,_),(1,_),(2,_),(3,_)]) [_,_,_,_,_] [_,_,_,_,_] rfl rfl ZgK Zcx rfl rfl rfl r4) (h:=ZL 11 kr rfl kr (Zbt (l:=[_,_,_,_,_]) rfl rfl Zcx rfl (fun b32=>?_)))
 refine ⟨⟨((hle29.trans hle30).trans hle31),t1⟩,(Zak 12 kr rfl kr kr kr (Z0 [_,_,_,_,_] 5 [_,_,_,_,_] rfl rfl ZdA rfl rfl rfl rfl rfl rfl rfl rfl ?_))⟩
 exact Zax ⟨⟨_,_,_,_,_⟩,⟨0,0,_,_,_,[]⟩⟩ [0,1,3,5] ⟨hr29,rfl,ZP.lit0,hr31⟩ t4 rfl
 refine (Zbt (l:=[_,_,_,_,_]) rfl rfl Zcx rfl (fun b33=>⟨⟨hle29,t1⟩,(ZL 9 kr rfl kr (ZaK rfl rfl Zjd rfl (Zan _ _ x.queue _ hi) ?_))⟩))
 rintro _ B34 _ hle34 ⟨l34,a34,c34,rfl,rfl,hv34⟩
 obtain ⟨hu,hf,hi,hr29⟩:=up4 hle34 hu hf hi hr29
 replace hv34:=hv34.mono ZK.mono Kn.less_le
 refine ⟨⟨(hle29.trans hle34),t1⟩,(ZaE 5 rfl hv34 ZK.mono om3 (fun B' hle'=>⟨(hle29.trans hle34).trans hle',t1⟩) (fun B35 hle35 hr35=>?_))⟩
 obtain ⟨hu,hf,hi,hr29⟩:=up4 hle35 hu hf hi hr29
 have hr35n:=hr35.len
 refine aT 10 rfl (ZR fun D B L hI=>ZaB (parts:=[(0,_),(1,_),(2,_),(3,_)]) [_,_,_,_,_] [_,_,_,_,_] rfl rfl ZgK Zcx rfl rfl rfl r4) (h:=Zak 12 kr rfl kr kr kr (Z0 [_,_,_,_,_] 4 [_,_,_,_,_] rfl rfl ZdA rfl rfl rfl rfl rfl rfl rfl rfl ?_))
 exact Zax ⟨⟨_,_,_,_,_⟩,⟨0,0,_,_,_,[]⟩⟩ [0,1,3,4] ⟨hr29,rfl,ZP.lit0,hr35⟩ t4 rfl
 refine (Zbt (l:=[_,_,_,_,_]) rfl rfl Zcx rfl (fun b36=>⟨⟨Kn.le.refl _,t1⟩,(ZL 5 kr rfl kr (Zbu (R:=Zr) 2 rfl (ZP.lit0 (R:=Zr)) rfl rfl rfl ZnD ZnV rfl rfl rfl hu.rows Zr.one rfl om (fun l37 p37 c37 hv37=>?_)))⟩))
 refine ⟨⟨Kn.le.refl _,t1⟩,(ZaE 2 rfl hv37 Zr.mono om3 (fun B' hle'=>⟨hle',t1⟩) (fun B38 hle38 hr38=>?_))⟩
 obtain ⟨hu,hf,hi⟩:=up3 hle38 hu hf hi
 have hr38n:=hr38.len
 refine ZL 9 kr rfl kr (ZaK rfl rfl Zjd rfl (Zan _ _ x.queue _ hi) ?_)
 rintro _ B39 _ hle39 ⟨l39,a39,c39,rfl,rfl,hv39⟩
 obtain ⟨hu,hf,hi,hr38⟩:=up4 hle39 hu hf hi hr38
 replace hv39:=hv39.mono ZK.mono Kn.less_le
 refine ⟨⟨(hle38.trans hle39),t1⟩,(ZaE 5 rfl hv39 ZK.mono om3 (fun B' hle'=>⟨(hle38.trans hle39).trans hle',t1⟩) (fun B40 hle40 hr40=>?_))⟩
 obtain ⟨hu,hf,hi,hr38⟩:=up4 hle40 hu hf hi hr38
 have hr40n:=hr40.len
 refine aT 10 rfl (ZR fun D B L hI=>ZaB (parts:=[(0,_),(1,_),(2,_),(3,_)]) [_,_,_,_,_] [_,_,_,_,_] rfl rfl ZgK Zcx rfl rfl rfl r4) (h:=Zak 12 kr rfl kr kr kr (Z0 [_,_,_,_,_] 4 [_,_,_,_,_] rfl rfl ZdA rfl rfl rfl rfl rfl rfl rfl rfl ?_))
 exact Zax ⟨⟨_,_,_,_,_⟩,⟨0,0,_,_,_,[]⟩⟩ [0,1,3,4] ⟨hr38,rfl,ZP.lit0,hr40⟩ t4 rfl
 refine (Zbt (l:=[_,_,_,_,_]) rfl rfl Zcx rfl (fun b41=>⟨⟨Kn.le.refl _,t1⟩,(Zbj [5,6] kr kr kr ⟨?_,?_⟩)⟩))
 refine (Zbu (R:=Zr) 2 rfl (ZP.lit0 (R:=Zr)) rfl rfl rfl ZnD ZnV rfl rfl rfl hu.rows Zr.one rfl om (fun l42 p42 c42 hv42=>?_))
 refine ⟨⟨Kn.le.refl _,t1⟩,(ZaE 2 rfl hv42 Zr.mono om3 (fun B' hle'=>⟨hle',t1⟩) (fun B43 hle43 hr43=>?_))⟩
 obtain ⟨hu,hf,hi⟩:=up3 hle43 hu hf hi
 have hr43n:=hr43.len
 refine Zbj [6,9] kr kr kr ⟨?_,?_⟩
 refine (ZJ (parts:=[]) [] rfl rfl Tryz.underlying31 Zbw Zf5 rfl rfl rfl rfl rfl (fun b44=>⟨⟨hle43,t1⟩,(ZL 9 kr rfl kr (ZaK rfl rfl Zjd rfl (Zan _ _ x.queue _ hi) ?_))⟩))
 rintro _ B45 _ hle45 ⟨l45,a45,c45,rfl,rfl,hv45⟩
 obtain ⟨hu,hf,hi,hr43⟩:=up4 hle45 hu hf hi hr43
 replace hv45:=hv45.mono ZK.mono Kn.less_le
 refine ⟨⟨(hle43.trans hle45),t1⟩,(ZaE 5 rfl hv45 ZK.mono om3 (fun B' hle'=>⟨(hle43.trans hle45).trans hle',t1⟩) (fun B46 hle46 hr46=>?_))⟩
 obtain ⟨hu,hf,hi,hr43⟩:=up4 hle46 hu hf hi hr43
 have hr46n:=hr46.len
 refine aT 10 rfl (ZR fun D B L hI=>ZaB (parts:=[(0,_),(1,_),(2,_),(3,_)]) [_,_,_,_,_] [_,_,_,_,_] rfl rfl ZgK Zcx rfl rfl rfl r4) (h:=Zak 12 kr rfl kr kr kr (Z0 [_,_,_,_,_] 3 [_,_,_,_,_] rfl rfl ZdA rfl rfl rfl rfl rfl rfl rfl rfl ?_))
 exact Zax ⟨⟨_,_,_,_,_⟩,⟨0,0,_,_,_,[]⟩⟩ [0,1,4,3] ⟨hr43,rfl,ZP.lit0,hr46⟩ t4 rfl
 refine (ZaK rfl rfl Zjd rfl (Zan _ _ x.queue _ hi) ?_)
 rintro _ B47 _ hle47 ⟨l47,a47,c47,rfl,rfl,hv47⟩
 obtain ⟨hu,hf,hi,hr43⟩:=up4 hle47 hu hf hi hr43
 replace hv47:=hv47.mono ZK.mono Kn.less_le
 refine ⟨⟨(hle43.trans hle47),t1⟩,(ZaE 4 rfl hv47 ZK.mono om3 (fun B' hle'=>⟨(hle43.trans hle47).trans hle',t1⟩) (fun B48 hle48 hr48=>?_))⟩
 obtain ⟨hu,hf,hi,hr43⟩:=up4 hle48 hu hf hi hr43
 have hr48n:=hr48.len
 refine ZL 6 kr rfl kr (ZJ (parts:=[]) [] rfl rfl Tryz.underlying31 Zbw Zf5 rfl rfl rfl rfl rfl (fun b49=>?_))
 refine ⟨⟨((hle43.trans hle47).trans hle48),t1⟩,(aT 10 rfl (ZR fun D B L hI=>ZaB (parts:=[(0,_),(1,_),(2,_),(3,_)]) [_,_,_,_,_] [_,_,_,_,_] rfl rfl ZgK Zcx rfl rfl rfl r4) (h:=Zak 12 kr rfl kr kr kr (Z0 [_,_,_,_,_] 3 [_,_,_,_,_] rfl rfl ZdA rfl rfl rfl rfl rfl rfl rfl rfl ?_)))⟩
 exact Zax ⟨⟨_,_,_,_,_⟩,⟨0,0,_,_,_,[]⟩⟩ [0,1,5,3] ⟨hr43,rfl,ZP.lit0,hr48⟩ t4 rfl
 refine (ZJ (parts:=[]) [] rfl rfl Tryz.underlying31 Zbw Zf5 rfl rfl rfl rfl rfl (fun b50=>⟨⟨Kn.le.refl _,t1⟩,(ZL 5 kr rfl kr (Zbu (R:=Zr) 2 rfl (ZP.lit0 (R:=Zr)) rfl rfl rfl ZnD ZnV rfl rfl rfl hu.rows Zr.one rfl om (fun l51 p51 c51 hv51=>?_)))⟩))
 refine ⟨⟨Kn.le.refl _,t1⟩,(ZaE 2 rfl hv51 Zr.mono om3 (fun B' hle'=>⟨hle',t1⟩) (fun B52 hle52 hr52=>?_))⟩
 obtain ⟨hu,hf,hi⟩:=up3 hle52 hu hf hi
 have hr52n:=hr52.len
 refine ZL 9 kr rfl kr (ZaK rfl rfl Zjd rfl (Zan _ _ x.queue _ hi) ?_)
 rintro _ B53 _ hle53 ⟨l53,a53,c53,rfl,rfl,hv53⟩
 obtain ⟨hu,hf,hi,hr52⟩:=up4 hle53 hu hf hi hr52
 replace hv53:=hv53.mono ZK.mono Kn.less_le
 refine ⟨⟨(hle52.trans hle53),t1⟩,(ZaE 5 rfl hv53 ZK.mono om3 (fun B' hle'=>⟨(hle52.trans hle53).trans hle',t1⟩) (fun B54 hle54 hr54=>?_))⟩
 obtain ⟨hu,hf,hi,hr52⟩:=up4 hle54 hu hf hi hr52
 have hr54n:=hr54.len
 refine aT 10 rfl (ZR fun D B L hI=>ZaB (parts:=[(0,_),(1,_),(2,_),(3,_)]) [_,_,_,_,_] [_,_,_,_,_] rfl rfl ZgK Zcx rfl rfl rfl r4) (h:=Zak 12 kr rfl kr kr kr (Z0 [_,_,_,_,_] 3 [_,_,_,_,_] rfl rfl ZdA rfl rfl rfl rfl rfl rfl rfl rfl ?_))
 exact Zax ⟨⟨_,_,_,_,_⟩,⟨0,0,_,_,_,[]⟩⟩ [0,1,4,3] ⟨hr52,rfl,ZP.lit0,hr54⟩ t4 rfl
 refine (ZJ (parts:=[]) [] rfl rfl Tryz.underlying31 Zbw Zf5 rfl rfl rfl rfl rfl (fun b55=>⟨⟨Kn.le.refl _,t1⟩,(Zbj [2,11] kr kr kr ⟨?_,?_⟩)⟩))
 refine (ZJ (parts:=[]) [] rfl rfl Tryz.underlying30 Zek Ziv rfl rfl rfl rfl rfl (fun b56=>⟨⟨Kn.le.refl _,t1⟩,(Zbj [5,11] kr kr kr ⟨?_,?_⟩)⟩))
 refine (Zbu (R:=Zr) 3 rfl (ZP.lit0 (R:=Zr)) rfl rfl rfl ZnD ZnV rfl rfl rfl hu.rows Zr.one rfl om (fun l57 p57 c57 hv57=>?_))
 refine ⟨⟨Kn.le.refl _,t1⟩,(ZaE 3 rfl hv57 Zr.mono om3 (fun B' hle'=>⟨hle',t1⟩) (fun B58 hle58 hr58=>?_))⟩
 obtain ⟨hu,hf,hi⟩:=up3 hle58 hu hf hi
 have hr58n:=hr58.len
 refine Zbj [9,11] kr kr kr ⟨?_,?_⟩
 refine (ZaK rfl rfl Zjd rfl (Zan _ _ x.queue _ hi) ?_)
 rintro _ B59 _ hle59 ⟨l59,a59,c59,rfl,rfl,hv59⟩
 obtain ⟨hu,hf,hi,hr58⟩:=up4 hle59 hu hf hi hr58
 replace hv59:=hv59.mono ZK.mono Kn.less_le
 refine ⟨⟨(hle58.trans hle59),t1⟩,(ZaE 4 rfl hv59 ZK.mono om3 (fun B' hle'=>⟨(hle58.trans hle59).trans hle',t1⟩) (fun B60 hle60 hr60=>?_))⟩
 obtain ⟨hu,hf,hi,hr58⟩:=up4 hle60 hu hf hi hr58
 have hr60n:=hr60.len
 refine aT 10 rfl (ZR fun D B L hI=>ZaB (parts:=[(0,_),(1,_),(2,_),(3,_)]) [_,_,_,_,_] [_,_,_,_,_] rfl rfl ZgK Zcx rfl rfl rfl r4) (h:=ZL 11 kr rfl kr (Zbt (l:=[_,_,_,_,_]) rfl rfl Zcx rfl (fun b61=>?_)))
 refine ⟨⟨((hle58.trans hle59).trans hle60),t1⟩,(Zak 12 kr rfl kr kr kr (Z0 [_,_,_,_,_] 5 [_,_,_,_,_] rfl rfl ZdA rfl rfl rfl rfl rfl rfl rfl rfl ?_))⟩
 exact Zax ⟨⟨_,_,_,_,_⟩,⟨0,0,_,_,_,[]⟩⟩ [0,1,2,5] ⟨hr58,rfl,ZP.lit0,hr60⟩ t4 rfl
 refine (Zbt (l:=[_,_,_,_,_]) rfl rfl Zcx rfl (fun b62=>⟨⟨hle58,t1⟩,(ZL 9 kr rfl kr (ZaK rfl rfl Zjd rfl (Zan _ _ x.queue _ hi) ?_))⟩))
 rintro _ B63 _ hle63 ⟨l63,a63,c63,rfl,rfl,hv63⟩
 obtain ⟨hu,hf,hi,hr58⟩:=up4 hle63 hu hf hi hr58
 replace hv63:=hv63.mono ZK.mono Kn.less_le
 refine ⟨⟨(hle58.trans hle63),t1⟩,(ZaE 5 rfl hv63 ZK.mono om3 (fun B' hle'=>⟨(hle58.trans hle63).trans hle',t1⟩) (fun B64 hle64 hr64=>?_))⟩
 obtain ⟨hu,hf,hi,hr58⟩:=up4 hle64 hu hf hi hr58
 have hr64n:=hr64.len
 refine aT 10 rfl (ZR fun D B L hI=>ZaB (parts:=[(0,_),(1,_),(2,_),(3,_)]) [_,_,_,_,_] [_,_,_,_,_] rfl rfl ZgK Zcx rfl rfl rfl r4) (h:=Zak 12 kr rfl kr kr kr (Z0 [_,_,_,_,_] 4 [_,_,_,_,_] rfl rfl ZdA rfl rfl rfl rfl rfl rfl rfl rfl ?_))
 exact Zax ⟨⟨_,_,_,_,_⟩,⟨0,0,_,_,_,[]⟩⟩ [0,1,2,4] ⟨hr58,rfl,ZP.lit0,hr64⟩ t4 rfl
 refine (Zbt (l:=[_,_,_,_,_]) rfl rfl Zcx rfl (fun b65=>⟨⟨Kn.le.refl _,t1⟩,(ZL 5 kr rfl kr (Zbu (R:=Zr) 3 rfl (ZP.lit0 (R:=Zr)) rfl rfl rfl ZnD ZnV rfl rfl rfl hu.rows Zr.one rfl om (fun l66 p66 c66 hv66=>?_)))⟩))
 refine ⟨⟨Kn.le.refl _,t1⟩,(ZaE 3 rfl hv66 Zr.mono om3 (fun B' hle'=>⟨hle',t1⟩) (fun B67 hle67 hr67=>?_))⟩
 obtain ⟨hu,hf,hi⟩:=up3 hle67 hu hf hi
 have hr67n:=hr67.len
 refine ZL 9 kr rfl kr (ZaK rfl rfl Zjd rfl (Zan _ _ x.queue _ hi) ?_)
 rintro _ B68 _ hle68 ⟨l68,a68,c68,rfl,rfl,hv68⟩
 obtain ⟨hu,hf,hi,hr67⟩:=up4 hle68 hu hf hi hr67
 replace hv68:=hv68.mono ZK.mono Kn.less_le
 refine ⟨⟨(hle67.trans hle68),t1⟩,(ZaE 5 rfl hv68 ZK.mono om3 (fun B' hle'=>⟨(hle67.trans hle68).trans hle',t1⟩) (fun B69 hle69 hr69=>?_))⟩
 obtain ⟨hu,hf,hi,hr67⟩:=up4 hle69 hu hf hi hr67
 have hr69n:=hr69.len
 refine aT 10 rfl (ZR fun D B L hI=>ZaB (parts:=[(0,_),(1,_),(2,_),(3,_)]) [_,_,_,_,_] [_,_,_,_,_] rfl rfl ZgK Zcx rfl rfl rfl r4) (h:=Zak 12 kr rfl kr kr kr (Z0 [_,_,_,_,_] 4 [_,_,_,_,_] rfl rfl ZdA rfl rfl rfl rfl rfl rfl rfl rfl ?_))
 exact Zax ⟨⟨_,_,_,_,_⟩,⟨0,0,_,_,_,[]⟩⟩ [0,1,2,4] ⟨hr67,rfl,ZP.lit0,hr69⟩ t4 rfl
 refine (Zbt (l:=[_,_,_,_,_]) rfl rfl Zcx rfl (fun b70=>⟨⟨Kn.le.refl _,t1⟩,(ZL 2 kr rfl kr (ZJ (parts:=[]) [] rfl rfl Tryz.underlying30 Zek Ziv rfl rfl rfl rfl rfl (fun b71=>?_)))⟩))
 refine ⟨⟨Kn.le.refl _,t1⟩,(ZL 5 kr rfl kr (Zbu (R:=Zr) 4 rfl (ZP.lit0 (R:=Zr)) rfl rfl rfl ZnD ZnV rfl rfl rfl hu.rows Zr.one rfl om (fun l72 p72 c72 hv72=>?_)))⟩
 refine ⟨⟨Kn.le.refl _,t1⟩,(ZaE 4 rfl hv72 Zr.mono om3 (fun B' hle'=>⟨hle',t1⟩) (fun B73 hle73 hr73=>?_))⟩
 obtain ⟨hu,hf,hi⟩:=up3 hle73 hu hf hi
 have hr73n:=hr73.len
 refine ZL 9 kr rfl kr (ZaK rfl rfl Zjd rfl (Zan _ _ x.queue _ hi) ?_)
 rintro _ B74 _ hle74 ⟨l74,a74,c74,rfl,rfl,hv74⟩
 obtain ⟨hu,hf,hi,hr73⟩:=up4 hle74 hu hf hi hr73
 replace hv74:=hv74.mono ZK.mono Kn.less_le
 refine ⟨⟨(hle73.trans hle74),t1⟩,(ZaE 5 rfl hv74 ZK.mono om3 (fun B' hle'=>⟨(hle73.trans hle74).trans hle',t1⟩) (fun B75 hle75 hr75=>?_))⟩
 obtain ⟨hu,hf,hi,hr73⟩:=up4 hle75 hu hf hi hr73
 have hr75n:=hr75.len
 refine aT 10 rfl (ZR fun D B L hI=>ZaB (parts:=[(0,_),(1,_),(2,_),(3,_)]) [_,_,_,_,_] [_,_,_,_,_] rfl rfl ZgK Zcx rfl rfl rfl r4) (h:=Zak 12 kr rfl kr kr kr (Z0 [_,_,_,_,_] 3 [_,_,_,_,_] rfl rfl ZdA rfl rfl rfl rfl rfl rfl rfl rfl ?_))
 exact Zax ⟨⟨_,_,_,_,_⟩,⟨0,0,_,_,_,[]⟩⟩ [0,1,2,3] ⟨hr73,rfl,ZP.lit0,hr75⟩ t4 rfl
 refine (Zbt (l:=[_,_,_,_,_]) rfl rfl Zcx rfl (fun b76=>⟨⟨Kn.le.refl _,t1⟩,(Zbj [2,6] kr kr kr ⟨?_,?_⟩)⟩))
 refine (ZJ (parts:=[]) [] rfl rfl Tryz.underlying30 Zek Ziv rfl rfl rfl rfl rfl (fun b77=>⟨⟨Kn.le.refl _,t1⟩,(Zbj [5,6] kr kr kr ⟨?_,?_⟩)⟩))
 refine (Zbu (R:=Zr) 3 rfl (ZP.lit0 (R:=Zr)) rfl rfl rfl ZnD ZnV rfl rfl rfl hu.rows Zr.one rfl om (fun l78 p78 c78 hv78=>?_))
 refine ⟨⟨Kn.le.refl _,t1⟩,(ZaE 3 rfl hv78 Zr.mono om3 (fun B' hle'=>⟨hle',t1⟩) (fun B79 hle79 hr79=>?_))⟩
 obtain ⟨hu,hf,hi⟩:=up3 hle79 hu hf hi
 have hr79n:=hr79.len
 refine Zbj [6,9] kr kr kr ⟨?_,?_⟩
 refine (ZJ (parts:=[]) [] rfl rfl Tryz.underlying31 Zbw Zf5 rfl rfl rfl rfl rfl (fun b80=>⟨⟨hle79,t1⟩,(ZL 9 kr rfl kr (ZaK rfl rfl Zjd rfl (Zan _ _ x.queue _ hi) ?_))⟩))
 rintro _ B81 _ hle81 ⟨l81,a81,c81,rfl,rfl,hv81⟩
 obtain ⟨hu,hf,hi,hr79⟩:=up4 hle81 hu hf hi hr79
 replace hv81:=hv81.mono ZK.mono Kn.less_le
 refine ⟨⟨(hle79.trans hle81),t1⟩,(ZaE 5 rfl hv81 ZK.mono om3 (fun B' hle'=>⟨(hle79.trans hle81).trans hle',t1⟩) (fun B82 hle82 hr82=>?_))⟩
 obtain ⟨hu,hf,hi,hr79⟩:=up4 hle82 hu hf hi hr79
 have hr82n:=hr82.len
 refine aT 10 rfl (ZR fun D B L hI=>ZaB (parts:=[(0,_),(1,_),(2,_),(3,_)]) [_,_,_,_,_] [_,_,_,_,_] rfl rfl ZgK Zcx rfl rfl rfl r4) (h:=Zak 12 kr rfl kr kr kr (Z0 [_,_,_,_,_] 2 [_,_,_,_,_] rfl rfl ZdA rfl rfl rfl rfl rfl rfl rfl rfl ?_))
 exact Zax ⟨⟨_,_,_,_,_⟩,⟨0,0,_,_,_,[]⟩⟩ [0,1,4,2] ⟨hr79,rfl,ZP.lit0,hr82⟩ t4 rfl
 refine (ZaK rfl rfl Zjd rfl (Zan _ _ x.queue _ hi) ?_)
 rintro _ B83 _ hle83 ⟨l83,a83,c83,rfl,rfl,hv83⟩
 obtain ⟨hu,hf,hi,hr79⟩:=up4 hle83 hu hf hi hr79
 replace hv83:=hv83.mono ZK.mono Kn.less_le
 refine ⟨⟨(hle79.trans hle83),t1⟩,(ZaE 4 rfl hv83 ZK.mono om3 (fun B' hle'=>⟨(hle79.trans hle83).trans hle',t1⟩) (fun B84 hle84 hr84=>?_))⟩
 obtain ⟨hu,hf,hi,hr79⟩:=up4 hle84 hu hf hi hr79
 have hr84n:=hr84.len
 refine ZL 6 kr rfl kr (ZJ (parts:=[]) [] rfl rfl Tryz.underlying31 Zbw Zf5 rfl rfl rfl rfl rfl (fun b85=>?_))
 refine ⟨⟨((hle79.trans hle83).trans hle84),t1⟩,(aT 10 rfl (ZR fun D B L hI=>ZaB (parts:=[(0,_),(1,_),(2,_),(3,_)]) [_,_,_,_,_] [_,_,_,_,_] rfl rfl ZgK Zcx rfl rfl rfl r4) (h:=Zak 12 kr rfl kr kr kr (Z0 [_,_,_,_,_] 2 [_,_,_,_,_] rfl rfl ZdA rfl rfl rfl rfl rfl rfl rfl rfl ?_)))⟩
 exact Zax ⟨⟨_,_,_,_,_⟩,⟨0,0,_,_,_,[]⟩⟩ [0,1,5,2] ⟨hr79,rfl,ZP.lit0,hr84⟩ t4 rfl
 refine (ZJ (parts:=[]) [] rfl rfl Tryz.underlying31 Zbw Zf5 rfl rfl rfl rfl rfl (fun b86=>⟨⟨Kn.le.refl _,t1⟩,(ZL 5 kr rfl kr (Zbu (R:=Zr) 3 rfl (ZP.lit0 (R:=Zr)) rfl rfl rfl ZnD ZnV rfl rfl rfl hu.rows Zr.one rfl om (fun l87 p87 c87 hv87=>?_)))⟩))
 refine ⟨⟨Kn.le.refl _,t1⟩,(ZaE 3 rfl hv87 Zr.mono om3 (fun B' hle'=>⟨hle',t1⟩) (fun B88 hle88 hr88=>?_))⟩
 obtain ⟨hu,hf,hi⟩:=up3 hle88 hu hf hi
 have hr88n:=hr88.len
 refine ZL 9 kr rfl kr (ZaK rfl rfl Zjd rfl (Zan _ _ x.queue _ hi) ?_)
 rintro _ B89 _ hle89 ⟨l89,a89,c89,rfl,rfl,hv89⟩
 obtain ⟨hu,hf,hi,hr88⟩:=up4 hle89 hu hf hi hr88
 replace hv89:=hv89.mono ZK.mono Kn.less_le
 refine ⟨⟨(hle88.trans hle89),t1⟩,(ZaE 5 rfl hv89 ZK.mono om3 (fun B' hle'=>⟨(hle88.trans hle89).trans hle',t1⟩) (fun B90 hle90 hr90=>?_))⟩
 obtain ⟨hu,hf,hi,hr88⟩:=up4 hle90 hu hf hi hr88
 have hr90n:=hr90.len
 refine aT 10 rfl (ZR fun D B L hI=>ZaB (parts:=[(0,_),(1,_),(2,_),(3,_)]) [_,_,_,_,_] [_,_,_,_,_] rfl rfl ZgK Zcx rfl rfl rfl r4) (h:=Zak 12 kr rfl kr kr kr (Z0 [_,_,_,_,_] 2 [_,_,_,_,_] rfl rfl ZdA rfl rfl rfl rfl rfl rfl rfl rfl ?_))
 exact Zax ⟨⟨_,_,_,_,_⟩,⟨0,0,_,_,_,[]⟩⟩ [0,1,4,2] ⟨hr88,rfl,ZP.lit0,hr90⟩ t4 rfl
 refine (ZJ (parts:=[]) [] rfl rfl Tryz.underlying31 Zbw Zf5 rfl rfl rfl rfl rfl (fun b91=>⟨⟨Kn.le.refl _,t1⟩,(ZL 2 kr rfl kr (ZJ (parts:=[]) [] rfl rfl Tryz.underlying30 Zek Ziv rfl rfl rfl rfl rfl (fun b92=>?_)))⟩))
 refine ⟨⟨Kn.le.refl _,t1⟩,(ZL 5 kr rfl kr (Zbu (R:=Zr) 4 rfl (ZP.lit0 (R:=Zr)) rfl rfl rfl ZnD ZnV rfl rfl rfl hu.rows Zr.one rfl om (fun l93 p93 c93 hv93=>?_)))⟩
 refine ⟨⟨Kn.le.refl _,t1⟩,(ZaE 4 rfl hv93 Zr.mono om3 (fun B' hle'=>⟨hle',t1⟩) (fun B94 hle94 hr94=>?_))⟩
 obtain ⟨hf,hi⟩:=up2 hle94 hf hi
 have hr94n:=hr94.len
 refine ZL 9 kr rfl kr (ZaK rfl rfl Zjd rfl (Zan _ _ x.queue _ hi) ?_)
 rintro _ B95 _ hle95 ⟨l95,a95,c95,rfl,rfl,hv95⟩
 obtain ⟨hf,hr94⟩:=up2 hle95 hf hr94
 replace hv95:=hv95.mono ZK.mono Kn.less_le
 refine ⟨⟨(hle94.trans hle95),t1⟩,(ZaE 5 rfl hv95 ZK.mono om3 (fun B' hle'=>⟨(hle94.trans hle95).trans hle',t1⟩) (fun B96 hle96 hr96=>?_))⟩
 obtain ⟨hf,hr94⟩:=up2 hle96 hf hr94
 have hr96n:=hr96.len
 refine aT 10 rfl (ZR fun D B L hI=>ZaB (parts:=[(0,_),(1,_),(2,_),(3,_)]) [_,_,_,_,_] [_,_,_,_,_] rfl rfl ZgK Zcx rfl rfl rfl r4) (h:=Zak 12 kr rfl kr kr kr (Z0 [_,_,_,_,_] 2 [_,_,_,_,_] rfl rfl ZdA rfl rfl rfl rfl rfl rfl rfl rfl ?_))
 exact Zax ⟨⟨_,_,_,_,_⟩,⟨0,0,_,_,_,[]⟩⟩ [0,1,3,2] ⟨hr94,rfl,ZP.lit0,hr96⟩ t4 rfl
 obtain ⟨hou,hoe,hv0,hoi⟩:=hF
 replace hf:=up1 hle3 hf
 refine ZB [(0,_),(1,_),(2,_),(3,_)] [_,_,_,_] t4 rfl (Zc (Za (xA (h:=Zi (Zw (α:=Gh DFolder) [0,1,2,3] (fun g=>[(4,.int .i64 g.k)]) [2,3] (fun g=>[g.l,Zar o.1.b [str x.domain,.slice o.1.q1 x.users.length o.1.c1,.slice g.a g.xs.length g.c,.int .i64 x.queue.next,.slice o.1.q3 x.queue.items.length o.1.c3] 36]) (fun g Bx=>g.k≤x.folders.length∧g.xs=x.folders.take g.k∧ZP Bx g.l g.a g.c 61 5 Zs g.xs) (fun g=>x.folders.length - g.k) ⟨0,0,_,_,_,_⟩ t1 rfl (⟨Nat.zero_le _,by rw [hoe];rfl,hv0⟩) (fun g B97 hle97 hI=>?_))))))
 obtain ⟨hk,hxs,hv⟩:=hI
 have hxn:=congrArg List.length hxs
 rw [List.length_take] at hxn
 obtain ⟨hf,hou,hoi⟩:=up3 hle97 hf hou hoi
 refine ZB [(0,_),(1,_),(2,_),(3,_),(4,_)] [_,_,_,_] t5 rfl (Zc (Za (xM (h:=xW Zal (h:=x1 Zec 0 (h:=xV Tryz.underlying31 (h:=ZE (h:=Zb rfl (fun g1=>?_) (fun g1=>?_)))))))))
 try simp only [sQ,ne_eq] at g1
 refine wSk (Zc (Zi (Z2 (keeps _ [0,3] _) mo kr ⟨Kn.le.refl _,Zbr.refl _ _⟩ (fun _ _=>?_))))
 refine aW 0 rfl Zal (h:=aT 1 rfl (ZR fun D B L hI=>Zn rfl rfl Zec rfl (atL 3 (hI.2.2.1.trans rfl) rfl rfl) r4) (h:=aW 2 rfl Zal (h:=aT 3 rfl (ZR fun D B L hI=>Zn rfl rfl Zec rfl (atL 0 (hI.2.1.trans rfl) rfl rfl) r4) (h:=aM 4 rfl (h:=?_)))))
 obtain ⟨w,hw⟩:=ZU (xs:=x.folders) (i:=g.k) om
 obtain ⟨bb99,oo99,rfl⟩:=hf.base hw
 obtain ⟨_,⟨qg100,cg100,qm100,cm100,rfl,hg100,hm100,hb100,hb100b⟩,hc100⟩:=hf.elem hw
 have hg100n:=hg100.len
 have hm100n:=hm100.len
 have hm100s:=Zad hm100
 refine aIx 5 rfl Tryz.underlying31 Zbw (h:=aT 6 rfl (ZR fun D B L hI=>Zaj [_,_,_,_,_] rfl rfl ZhQ rfl (Zmg (hc100.mono hI.1) 0 rfl rfl) r4) (h:=ZL 7 kr rfl kr (ZaK rfl rfl ZyV rfl (Zlm _ _ _ _ w _ hg100 hm100) ?_)))
 rintro _ B101 _ hle101 ⟨rfl,l101,a101,c101,l101b,a101b,c101b,rfl,rfl,hs101,hs101b⟩
 refine ⟨⟨Kn.le.refl _,t2⟩,(ZaE 4 rfl hs101 ZD.mono om3 (fun B' hle'=>⟨hle',t2⟩) (fun B102 hle102 hr102=>?_))⟩
 replace hv:=hv.mono Zs.mono hle102
 replace hou:=hou.mono Zr.mono hle102
 replace hoi:=hoi.mono ZK.mono hle102
 replace hs101b:=hs101b.mono Zam.mono hle102
 have hr102n:=hr102.len
 refine ZaE 5 rfl hs101b Zam.mono (by first | omega | decide | (simp;done) | (simp;omega)) (fun B' hle'=>⟨hle102.trans hle',⟨rfl,rfl,trivial⟩⟩) (fun B103 hle103 hr103=>?_)
 replace hr102:=up1 hle103 hr102
 replace hv:=hv.mono Zs.mono hle103
 obtain ⟨hou,hoi⟩:=up2 hle103 hou hoi
 have hr103n:=hr103.len
 refine ZL 8 kr rfl kr (ZJ (parts:=[(0,_)]) [_,_,_,_,_] rfl rfl Tryz.underlying31 Zbw Zf5 rfl rfl rfl rfl rfl (fun b104=>?_))
 refine ⟨⟨(hle102.trans hle103),t2⟩,(ZL 9 kr rfl kr (Ze0 (z:=⟨w.owner,w.name,w.grants,w.next,w.mail⟩) (R:=Zs) 2 rfl hv rfl rfl rfl Zvz ZxQ rfl rfl (Zb6.box 6 rfl) rfl rfl (⟨_,_,_,_,rfl,hr102,hr103,by first | assumption | omega | (simp;done) | (simp;omega),by first | assumption | omega | (simp;done) | (simp;omega)⟩) om (fun l105 p105 c105 hv105=>?_)))⟩
 refine ⟨⟨(hle102.trans hle103),t2⟩,(aW 10 rfl Zal (h:=Zak 11 kr rfl kr kr kr (Z0 [_] 3 [_,_,_,_,_] rfl rfl ZxN rfl rfl rfl rfl rfl rfl rfl rfl ?_)))⟩
 refine ZM (Zo (Zf (xM (h:=xD (h:=xA (h:=?_))))))
 exact ZA ⟨g.k+1,0,l105,p105,c105,(g.xs ++ [⟨w.owner,w.name,w.grants,w.next,w.mail⟩])⟩ [0,1,2,3] so2 ⟨so,by simp only [];rw [Zbe hw,hxs],hv105⟩ t5 rfl
 try simp only [sQ,ne_eq] at g1
 have hxe:g.xs=x.folders:=by rw [hxs];exact List.take_of_length_le oz
 refine ZC (ZV (ZG (Zu (Zo (Za (xL [_,_,_,_,_] ZcN 3 (h:=xS [_,_,_,_,_] 1 [_,_,_,_,_] ZdA (h:=tL4 (Zd ?_)))))))))
 exact Zdl .ret (.inl rfl) [_] [2] rfl ⟨⟨_,rfl,.inr ⟨[_,_,_,_,_],ZcN,ZcF 1 rfl rfl rfl,rfl⟩⟩,trivial⟩ ⟨_,_,_,_,_,_,_,rfl,by rw [← hxe];rfl,hou,hxe ▸ hv,hoi⟩

theorem Zgz (q:Option Addr) (cp:Nat) (gs:List DGrant) (u:Str) (r:Int) (hul:u.length≤2000000) (B:Kn) (hg:SlK B q cp 2 ZD gs):Zv (pj J) 23 [.slice q gs.length cp,str u,.int .i64 r] B [] (fun v B' Ls=>∃l a c,Ls=[l]∧v = .tuple #[.slice a (Zap gs u r).1.length c,.bool (Zap gs u r).2]∧ZP B' l a c 109 2 ZD (Zap gs u r).1):=by
 refine cB 80 Tryz.func23 (h:=?_)
 have hgn:=hg.len
 refine Za (xA (h:=xA (h:=Zc (Za (xM (h:=xR ZvB rfl (ZfJ _ _ _ _ hg) (h:=xN (h:=xM (h:=Zt (d:=14) rfl (fun g1=>?_) (fun g1=>?_))))))))))
 try simp only [sQ,ne_eq] at g1
 rw [ZeU (by simp [g1])]
 refine xP (h:=xP (h:=xP (h:=xT (h:=xM (h:=xP (h:=xP (h:=xP (h:=xT (h:=Zb (t:=true) rfl (fun _=>Za (xBs [] [] Tryz.underlying54 ZaQ ZcI (h:=fun b2=>xA (h:=xA (h:=tL1 (Zd (Zl ?_))))))) (fun h=>Bool.noConfusion h))))))))))
 exact Zdl .ret (.inl rfl) [_,_] [0] rfl t2 ⟨_,_,_,rfl,rfl,ZP.lit0⟩
 try simp only [sQ,ne_eq] at g1
 refine xM (h:=xR Zsy rfl (ZbP _ om2 _) (h:=?_))
 refine xN (h:=xF (h:=xM (h:=Zt (d:=19) rfl (fun g2=>?_) (fun g2=>?_))))
 try simp only [sQ,ne_eq] at g2
 rw [ZeU (by simp [g2])]
 refine xP (h:=xP (h:=xP (h:=xT (h:=Zb (t:=true) rfl (fun _=>Za (xBs [] [] Tryz.underlying54 ZaQ ZcI (h:=fun b4=>xA (h:=xA (h:=tL1 (Zd (Zl ?_))))))) (fun h=>Bool.noConfusion h)))))
 exact Zdl .ret (.inl rfl) [_,_] [0] rfl t2 ⟨_,_,_,rfl,rfl,ZP.lit0⟩
 try simp only [sQ,ne_eq] at g2
 refine xM (h:=xR Zyb rfl (Zhh _ _) (h:=xN (h:=xF (h:=Zb rfl (fun g3=>?_) (fun g3=>?_)))))
 try simp only [sQ,ne_eq] at g3
 rw [ZeU (by simp [g3])]
 refine Za (xBs [] [] Tryz.underlying54 ZaQ ZcI (h:=fun b6=>xA (h:=xA (h:=tL1 (Zd (Zl ?_))))))
 exact Zdl .ret (.inl rfl) [_,_] [0] rfl t2 ⟨_,_,_,rfl,rfl,ZP.lit0⟩
 try simp only [sQ,ne_eq] at g3
 have hok:ZaF gs=true:=by simpa using g1
 have hin:ZaF gs=true∧ZZ u=true∧ZaC r=true:=⟨hok,by simpa using g2,by simpa using g3⟩
 have hg4:=ZbE hok
 refine wSk (Za (xBs [] [] Tryz.underlying54 ZaQ ZcI (h:=fun b7=>xA (h:=tL1 (Za (xM (h:=Zju (h:=xA (h:=Zc (Za (xA (h:=Zi (Zw (α:=Gh2 DGrant Bool) [0,1,2,6,7,23] (fun g=>[(8,.slice g.a g.xs.length g.c),(9,.bool g.e),(10,.int .i64 g.k)]) [0] (fun g=>[g.l]) (fun g Bx=>Bx=B∧g.k≤gs.length∧(g.e,g.xs)=Zdi u r (gs.take g.k)∧g.xs.length≤2*g.k∧ZP Bx g.l g.a g.c 109 2 ZD g.xs) (fun g=>gs.length - g.k) ⟨0,0,_,_,_,[],decide (r=0)⟩ t3 rfl (⟨rfl,Nat.zero_le _,rfl,Nat.le_refl _,.lit0⟩) (fun g B8 hle8 hI=>?_))))))))))))))
 obtain ⟨rfl,hk,hs,hgl,hv⟩:=hI
 refine ZB [(0,_),(1,_),(2,_),(6,_),(7,_),(8,_),(9,_),(10,_),(23,_)] [_] t9 rfl (Zc (Za (xM (h:=xM (h:=xV Tryz.underlying54 (h:=ZE (h:=Zb rfl (fun g4=>?_) (fun g4=>?_))))))))
 try simp only [sQ,ne_eq] at g4
 refine wSk (Zc (Zi (Zc (Za (xM (h:=xN (h:=xM (h:=Zt (d:=36) rfl (fun g5=>?_) (fun g5=>?_)))))))))
 try simp only [sQ,ne_eq] at g5
 refine xM (h:=xM (h:=?_))
 obtain ⟨x,hx⟩:=ZU (xs:=gs) (i:=g.k) om
 obtain ⟨bb10,oo10,rfl⟩:=hg.base hx
 obtain ⟨_,⟨rfl,hb11⟩,hc11⟩:=hg.elem hx
 refine xIx Tryz.underlying54 ZaQ (h:=xW Za7 (h:=y1 lk9 hc11 0 (h:=xM (h:=Zt7 (h:=xT (h:=Zb rfl (fun g6=>?_) (fun g6=>?_)))))))
 try simp only [sQ,ne_eq] at g6
 refine Za (xM (h:=xM (h:=xM (h:=xB [(0,_),(1,_)] [_,_] [_,_] Zs3 ZcI (h:=xBs [(0,_)] [_,_] Tryz.underlying54 ZaQ ZcI (h:=fun b12=>Zk (Ze0 (z:=⟨u,r⟩) (R:=ZD) 0 rfl hv rfl rfl rfl ZnC Zow rfl rfl (Zb6.box 1 rfl) rfl rfl (⟨rfl,by first | assumption | omega | (simp;done) | (simp;omega)⟩) om (fun l13 p13 c13 hv13=>?_))))))))
 refine xA (h:=tL2 (Zf (xA (h:=Zo (Za (xM (h:=xM (h:=xIx Tryz.underlying54 ZaQ (h:=xW Za7 (h:=y1 lk9 hc11 0 (h:=xM (h:=ZcD (h:=Zb rfl (fun g8=>?_) (fun g8=>?_))))))))))))))
 try simp only [sQ,ne_eq] at g8
 refine Zf (xM (h:=xM (h:=xM (h:=xIx Tryz.underlying54 ZaQ (h:=yL [_,_] Zj9 hc11 0 (h:=xBs [(0,_)] [_,_] Tryz.underlying54 ZaQ ZcI (h:=fun b14=>Zk (Ze0 (z:=⟨x.user,x.rights⟩) (R:=ZD) 0 rfl hv13 rfl rfl rfl ZnC Zow rfl rfl (Zb6.box 2 rfl) rfl rfl (⟨rfl,by first | assumption | omega | (simp;done) | (simp;omega)⟩) om (fun l15 p15 c15 hv15=>?_)))))))))
 refine xA (h:=ZM (Zo (Zf (xM (h:=xD (h:=xA (h:=?_)))))))
 exact ZA ⟨g.k+1,0,l15,p15,c15,((g.xs ++ [⟨u,r⟩]) ++ [⟨x.user,x.rights⟩]),true⟩ [0] (by first | omega | (simp only [];omega)) ⟨rfl,by simp only [];omega,by simp only [];rw [ZbS hx,← hs];simp [ZaJ,g5,g6,g8],by first | (simp only [];omega) | (simp;omega),hv15⟩ ⟨rfl,rfl,rfl,rfl,rfl,rfl,rfl,rfl,rfl,trivial⟩ rfl
 try simp only [sQ,ne_eq] at g8
 refine ZT (ZM (Zo (Zf (xM (h:=xD (h:=xA (h:=?_)))))))
 exact ZA ⟨g.k+1,0,l13,p13,c13,(g.xs ++ [⟨u,r⟩]),true⟩ [0] (by first | omega | (simp only [];omega)) ⟨rfl,by simp only [];omega,by simp only [];rw [ZbS hx,← hs];simp [ZaJ,g5,g8 ▸ g6,g8],by first | (simp only [];omega) | (simp;omega),hv13⟩ ⟨rfl,rfl,rfl,rfl,rfl,rfl,rfl,rfl,rfl,trivial⟩ rfl
 try simp only [sQ,ne_eq] at g6
 refine wSk (Za (xM (h:=xM (h:=xIx Tryz.underlying54 ZaQ (h:=xW Za7 (h:=y1 lk9 hc11 0 (h:=xM (h:=ZcD (h:=Zb rfl (fun g8=>?_) (fun g8=>?_))))))))))
 try simp only [sQ,ne_eq] at g8
 refine Zf (xM (h:=xM (h:=xM (h:=xIx Tryz.underlying54 ZaQ (h:=yL [_,_] Zj9 hc11 0 (h:=xBs [(0,_)] [_,_] Tryz.underlying54 ZaQ ZcI (h:=fun b16=>Zk (Ze0 (z:=⟨x.user,x.rights⟩) (R:=ZD) 0 rfl hv rfl rfl rfl ZnC Zow rfl rfl (Zb6.box 1 rfl) rfl rfl (⟨rfl,by first | assumption | omega | (simp;done) | (simp;omega)⟩) om (fun l17 p17 c17 hv17=>?_)))))))))
 refine xA (h:=ZM (Zo (Zf (xM (h:=xD (h:=xA (h:=?_)))))))
 exact ZA ⟨g.k+1,0,l17,p17,c17,(g.xs ++ [⟨x.user,x.rights⟩]),g.e⟩ [0] (by first | omega | (simp only [];omega)) ⟨rfl,by simp only [];omega,by simp only [];rw [ZbS hx,← hs];simp [ZaJ,g5,g6,g8],by first | (simp only [];omega) | (simp;omega),hv17⟩ ⟨rfl,rfl,rfl,rfl,rfl,rfl,rfl,rfl,rfl,trivial⟩ rfl
 try simp only [sQ,ne_eq] at g8
 refine ZT (ZM (Zo (Zf (xM (h:=xD (h:=xA (h:=?_)))))))
 exact ZA ⟨g.k+1,0,g.l,g.a,g.c,g.xs,g.e⟩ [0] so2 ⟨rfl,so,by simp only [];rw [ZbS hx,← hs];simp [ZaJ,g5,g8 ▸ g6,g8],by first | (simp only [];omega) | (simp;omega),hv⟩ t9 rfl
 try simp only [sQ,ne_eq] at g5
 refine xP (h:=xP (h:=xP (h:=xP (h:=xP (h:=xP (h:=xP (h:=xF (h:=Zb (t:=false) rfl (fun h=>Bool.noConfusion h) (fun _=>wSk (Za (xM (h:=xM (h:=?_)))))))))))))
 obtain ⟨x,hx⟩:=ZU (xs:=gs) (i:=g.k) om
 obtain ⟨bb19,oo19,rfl⟩:=hg.base hx
 obtain ⟨_,⟨rfl,hb20⟩,hc20⟩:=hg.elem hx
 refine xIx Tryz.underlying54 ZaQ (h:=xW Za7 (h:=y1 lk9 hc20 0 (h:=xM (h:=ZcD (h:=Zb rfl (fun g8=>?_) (fun g8=>?_))))))
 try simp only [sQ,ne_eq] at g8
 refine Zf (xM (h:=xM (h:=xM (h:=xIx Tryz.underlying54 ZaQ (h:=yL [_,_] Zj9 hc20 0 (h:=xBs [(0,_)] [_,_] Tryz.underlying54 ZaQ ZcI (h:=fun b21=>Zk (Ze0 (z:=⟨x.user,x.rights⟩) (R:=ZD) 0 rfl hv rfl rfl rfl ZnC Zow rfl rfl (Zb6.box 1 rfl) rfl rfl (⟨rfl,by first | assumption | omega | (simp;done) | (simp;omega)⟩) om (fun l22 p22 c22 hv22=>?_)))))))))
 refine xA (h:=ZM (Zo (Zf (xM (h:=xD (h:=xA (h:=?_)))))))
 exact ZA ⟨g.k+1,0,l22,p22,c22,(g.xs ++ [⟨x.user,x.rights⟩]),g.e⟩ [0] (by first | omega | (simp only [];omega)) ⟨rfl,by simp only [];omega,by simp only [];rw [ZbS hx,← hs];simp [ZaJ,g5,g8],by first | (simp only [];omega) | (simp;omega),hv22⟩ ⟨rfl,rfl,rfl,rfl,rfl,rfl,rfl,rfl,rfl,trivial⟩ rfl
 try simp only [sQ,ne_eq] at g8
 refine ZT (ZM (Zo (Zf (xM (h:=xD (h:=xA (h:=?_)))))))
 exact ZA ⟨g.k+1,0,g.l,g.a,g.c,g.xs,g.e⟩ [0] so2 ⟨rfl,so,by simp only [];rw [ZbS hx,← hs];simp [ZaJ,g5,g8],by first | (simp only [];omega) | (simp;omega),hv⟩ t9 rfl
 try simp only [sQ,ne_eq] at g4
 rw [List.take_of_length_le oz] at hs
 refine ZC (ZV (ZG (Zu (Zo (Zc (Za (xM (h:=xN (h:=Zb rfl (fun g9=>?_) (fun g9=>?_))))))))))
 try simp only [sQ,ne_eq] at g9
 rw [g9] at hs
 refine Zf (xM (h:=xM (h:=xM (h:=xB [(0,_),(1,_)] [_,_] [_,_] Zs3 ZcI (h:=xBs [(0,_)] [_,_] Tryz.underlying54 ZaQ ZcI (h:=fun b23=>Zk (Ze0 (z:=⟨u,r⟩) (R:=ZD) 0 rfl hv rfl rfl rfl ZnC Zow rfl rfl (Zb6.box 1 rfl) rfl rfl (⟨rfl,by first | assumption | omega | (simp;done) | (simp;omega)⟩) om (fun l24 p24 c24 hv24=>?_))))))))
 refine xA (h:=Zo (Zc (Za (xM (h:=Zk (ZgY 0 rfl rfl rfl ZvB rfl (Z6.borrow fun hm25=>ZfJ _ _ _ _ (hv24.lend ZD.mono hm25 om)) ?_))))))
 refine xN (h:=tL2 (Zb rfl (fun g7=>?_) (fun g7=>?_)))
 try simp only [sQ,ne_eq] at g7
 rw [ZhK hin (by rw [Zgt hs];exact g7)]
 refine Za (xBs [] [] Tryz.underlying54 ZaQ ZcI (h:=fun b26=>xM (h:=Zk (Zbu (R:=ZD) 2 rfl (ZP.lit0 (R:=ZD)) rfl rfl rfl ZnC Zow rfl rfl rfl hg.rows ZD.one rfl om (fun l27 p27 c27 hv27=>?_)))))
 refine xA (h:=xA (h:=tL3 (Zd (Zl ?_))))
 exact Zdl .ret (.inl rfl) [_,_] [2] rfl t2 ⟨_,_,_,rfl,rfl,hv27⟩
 try simp only [sQ,ne_eq] at g7
 rw [ZeT hin (by rw [Zgt hs];simpa using g7),Zgt hs]
 refine wSk (Za (xM (h:=xA (h:=xA (h:=Zd ?_)))))
 exact Zdl .ret (.inl rfl) [_,_] [0] rfl t2 ⟨_,_,_,rfl,rfl,hv24⟩
 try simp only [sQ,ne_eq] at g9
 rw [show g.e=true by simpa using g9] at hs
 refine wSk (Zc (Za (xM (h:=Zk (ZgY 0 rfl rfl rfl ZvB rfl (Z6.borrow fun hm28=>ZfJ _ _ _ _ (hv.lend ZD.mono hm28 om)) ?_)))))
 refine xN (h:=Zb rfl (fun g7=>?_) (fun g7=>?_))
 try simp only [sQ,ne_eq] at g7
 rw [ZhK hin (by rw [Zgs hs];exact g7)]
 refine Za (xBs [] [] Tryz.underlying54 ZaQ ZcI (h:=fun b29=>xM (h:=Zk (Zbu (R:=ZD) 1 rfl (ZP.lit0 (R:=ZD)) rfl rfl rfl ZnC Zow rfl rfl rfl hg.rows ZD.one rfl om (fun l30 p30 c30 hv30=>?_)))))
 refine xA (h:=xA (h:=tL2 (Zd (Zl ?_))))
 exact Zdl .ret (.inl rfl) [_,_] [1] rfl t2 ⟨_,_,_,rfl,rfl,hv30⟩
 try simp only [sQ,ne_eq] at g7
 rw [ZeT hin (by rw [Zgs hs];simpa using g7),Zgs hs]
 refine wSk (Za (xM (h:=xA (h:=xA (h:=Zd ?_)))))
 exact Zdl .ret (.inl rfl) [_,_] [0] rfl t2 ⟨_,_,_,rfl,rfl,hv⟩

theorem Zk2 (q1 q2 q3:Option Addr) (c1 c2 c3:Nat) (x:DHost) (by_ o n u:Str) (r:Int) (hbl:by_.length≤2000000) (hol:o.length≤2000000) (hnl:n.length≤2000000) (hul:u.length≤2000000) (hd:x.domain.length≤2000000) (B:Kn) (hu:SlK B q1 c1 3 Zr x.users) (hf:SlK B q2 c2 5 Zs x.folders) (hi:SlK B q3 c3 4 ZK x.queue.items):Zv (pj J) 6 [.agg #[str x.domain,.slice q1 x.users.length c1,.slice q2 x.folders.length c2,.int .i64 x.queue.next,.slice q3 x.queue.items.length c3],str by_,str o,str n,str u,.int .i64 r] B [] (fun v B' Ls=>Ls=[]∧∃p1 d1 p2 d2 p3 d3,v = .tuple #[.agg #[str (Z3 x by_ o n u r).1.domain,.slice p1 (Z3 x by_ o n u r).1.users.length d1,.slice p2 (Z3 x by_ o n u r).1.folders.length d2,.int .i64 (Z3 x by_ o n u r).1.queue.next,.slice p3 (Z3 x by_ o n u r).1.queue.items.length d3],.int .i64 (Z3 x by_ o n u r).2]∧SlK B' p1 d1 3 Zr (Z3 x by_ o n u r).1.users∧SlK B' p2 d2 5 Zs (Z3 x by_ o n u r).1.folders∧SlK B' p3 d3 4 ZK (Z3 x by_ o n u r).1.queue.items∧(Z3 x by_ o n u r).1.domain.length≤2000000):=by
 refine cB 76 Tryz.func6 (h:=?_)
 have hun:=hu.len
 have hfn:=hf.len
 have hin:=hi.len
 have hix:=Zhm (inF o n) x.folders
 refine Za (xBx [_,_,_,_,_] (h:=fun b1=>xAl [_,_,_,_,_] Zcx (h:=fun b2=>xA (h:=tL2 (Zc (Za (xL [_,_,_,_,_] ZcN 0 (h:=xR Zzo rfl (Zm4 _ _ _ _ _ _ x om2 _ hu hf hi) (h:=?_)))))))))
 refine xN (h:=xM (h:=Zt (d:=22) rfl (fun g1=>?_) (fun g1=>?_)))
 try simp only [sQ,ne_eq] at g1
 rw [Z3,if_pos (by simp [g1])]
 refine xP (h:=xP (h:=xP (h:=xT (h:=Zb (t:=true) rfl (fun _=>Za (xB [] [_,_,_,_,_] [_,_,_,_,_] ZgK Zcx (h:=xS [_,_,_,_,_] 1 [_,_,_,_,_] ZdA (h:=xA (h:=tL2 (Zd (Zl ?_))))))) (fun h=>Bool.noConfusion h)))))
 exact Zdl .ret (.inl rfl) [_,_] [] rfl ⟨⟨_,rfl,.inr ⟨[_,_,_,_,_],ZcN,ZcF 1 rfl rfl rfl,rfl⟩⟩,rfl,trivial⟩ ⟨rfl,none,0,none,0,none,0,rfl,SlK.nil,SlK.nil,SlK.nil,by simp [Zc5]⟩
 try simp only [sQ,ne_eq] at g1
 refine xM (h:=xR Zyb rfl (Zhh _ _) (h:=xN (h:=xF (h:=Zb rfl (fun g2=>?_) (fun g2=>?_)))))
 try simp only [sQ,ne_eq] at g2
 rw [Z3,if_pos (by simp [g2])]
 refine Za (xB [] [_,_,_,_,_] [_,_,_,_,_] ZgK Zcx (h:=xS [_,_,_,_,_] 1 [_,_,_,_,_] ZdA (h:=xA (h:=tL2 (Zd (Zl ?_))))))
 exact Zdl .ret (.inl rfl) [_,_] [] rfl ⟨⟨_,rfl,.inr ⟨[_,_,_,_,_],ZcN,ZcF 1 rfl rfl rfl,rfl⟩⟩,rfl,trivial⟩ ⟨rfl,none,0,none,0,none,0,rfl,SlK.nil,SlK.nil,SlK.nil,by simp [Zc5]⟩
 try simp only [sQ,ne_eq] at g2
 have hok:Z7 x=true:=by simpa using g1
 have hrr:=Zi2 hok
 have hnn : ¬ ¬ (Z7 x=true∧ZaC r=true):=fun h=>h ⟨hok,by simpa using g2⟩
 refine wSk (Za (xL [_,_,_,_,_] ZcN 0 (h:=xC Zzn rfl (Zo8 _ _ _ _ _ _ x _ hu hf hi) (h:=?_))))
 rintro _ B5 _ hle5 ⟨l5,a5,c5,q15,c15,q35,c35,rfl,rfl,hu5,hs5,hi5⟩
 obtain ⟨hu,hf⟩:=up2 hle5 hu hf
 have hu5n:=hu5.len
 have hi5n:=hi5.len
 refine xAl [_,_,_,_,_] Zcx (h:=fun b6=>xS [_,_,_,_,_] 3 [_,_,_,_,_] ZdA (h:=tL4 (Za (xL [_,_,_,_,_] ZcN 0 (h:=xM (h:=xM (h:=xR Zya rfl (Zkc _ _ _ _ _ _ x o n om2 om2 _ hf) (h:=?_))))))))
 refine xA (h:=Za (xL [_,_,_,_,_] ZcN 0 (h:=xM (h:=xM (h:=xR Zzm rfl (Znj _ _ _ _ _ _ x by_ (Zb8 (inF o n) x.folders) 32 oz hrr oz _ hu hf) (h:=?_))))))
 refine xA (h:=Zc (Zi (Za (xM (h:=ZaO (h:=xA (h:=Zb rfl (fun g3=>?_) (fun g3=>?_))))))))
 try simp only [sQ,ne_eq] at g3
 refine Za (xL [_,_,_,_,_] ZcN 3 (h:=ZgA 2 rfl hs5 Zs.mono om3 (fun B9 hle9 hr9=>?_)))
 obtain ⟨hu,hf,hu5,hi5⟩:=up4 hle9 hu hf hu5 hi5
 have hr9n:=hr9.len
 refine xM (h:=?_)
 rw [Z3,if_neg hnn,if_pos g3]
 refine xS [_,_,_,_,_] 1 [_,_,_,_,_] ZdA (h:=xA (h:=tL4 (Zd (Zy (Zl ?_)))))
 exact Zdl .ret (.inl rfl) [_,_] [] rfl ⟨⟨_,rfl,.inr ⟨[_,_,_,_,_],ZcN,ZcF 1 rfl rfl rfl,rfl⟩⟩,rfl,trivial⟩ ⟨rfl,_,_,_,_,_,_,(by first | rfl | (simp only [DHost.withFolders,List.length_set];rfl)),hu5,hr9,hi5,by first | assumption | (rw [ZcT.2.2.1];assumption)⟩
 try simp only [sQ,ne_eq] at g3
 refine Za (xM (h:=ZcD (h:=xM (h:=Zt (d:=46) rfl (fun g4=>?_) (fun g4=>?_)))))
 try simp only [sQ,ne_eq] at g4
 refine xW ZbC (h:=x1 Zib 0 (h:=xM (h:=xR Zve rfl (Zer _ _ _ _ _ hu) (h:=ZE (h:=xT (h:=xA (h:=Zb rfl (fun g5=>?_) (fun g5=>?_))))))))
 try simp only [sQ,ne_eq] at g5
 refine Za (xL [_,_,_,_,_] ZcN 3 (h:=ZgA 2 rfl hs5 Zs.mono om3 (fun B11 hle11 hr11=>?_)))
 obtain ⟨hf,hu5,hi5⟩:=up3 hle11 hf hu5 hi5
 have hr11n:=hr11.len
 refine xS [_,_,_,_,_] 1 [_,_,_,_,_] ZdA (h:=?_)
 rw [Z3,if_neg hnn,if_neg (fun h=>h g3),if_pos ⟨g4,g5⟩]
 refine xA (h:=tL4 (Zd (Zy (Zl ?_))))
 exact Zdl .ret (.inl rfl) [_,_] [] rfl ⟨⟨_,rfl,.inr ⟨[_,_,_,_,_],ZcN,ZcF 1 rfl rfl rfl,rfl⟩⟩,rfl,trivial⟩ ⟨rfl,_,_,_,_,_,_,(by first | rfl | (simp only [DHost.withFolders,List.length_set];rfl)),hu5,hr11,hi5,by first | assumption | (rw [ZcT.2.2.1];assumption)⟩
 try simp only [sQ,ne_eq] at g5
 have hne : ¬ (u≠anyone∧Zei x.users u<0):=fun h=>absurd h.2 oz
 obtain ⟨_,hk0,_,_,_⟩:=Zkx g3
 have hge:Z3 x by_ o n u r=Zd3 x (Zb8 (inF o n) x.folders).toNat u r:=by rw [Z3,if_neg hnn,if_neg (fun h=>h g3),if_neg hne]
 refine ZT (ZM (Zo (Za (xW Zal (h:=x1 Zec 0 (h:=xM (h:=?_)))))))
 obtain ⟨fd,hfd⟩:=Zsk (xs:=x.folders) (i:=(Zb8 (inF o n) x.folders)) om om
 obtain ⟨bb13,oo13,rfl⟩:=hf.base hfd
 obtain ⟨_,⟨qg14,cg14,qm14,cm14,rfl,hg14,hm14,hb14,hb14b⟩,hc14⟩:=hf.elem hfd
 have hg14n:=hg14.len
 have hm14n:=hm14.len
 have hm14s:=Zad hm14
 refine xIx Tryz.underlying31 Zbw (h:=?_)
 have hacl:=Zir fd.grants u r
 have hfg:=ZfU (Zc9 hok hfd)
 refine xW ZbB (h:=y1 Zms hc14 2 (h:=xM (h:=xM (h:=xC Zx9 rfl (Zgz _ _ fd.grants u r om2 _ hg14) (h:=?_)))))
 rintro _ B15 _ hle15 ⟨l15,a15,c15,rfl,rfl,hs15⟩
 replace hf:=hf.mono Zs.mono hle15
 replace hs5:=hs5.mono Zs.mono hle15
 replace hu5:=hu5.mono Zr.mono hle15
 replace hi5:=hi5.mono ZK.mono hle15
 have hs15n:=hs15.cap
 replace hs15:=hs15.anyK (B':=B15) ZD.any
 refine xM (h:=xE (h:=xE (h:=xA (h:=ZgA 4 rfl hs15 ZD.mono om3 (fun B16 hle16 hr16=>?_)))))
 replace hf:=hf.mono Zs.mono hle16
 replace hs5:=hs5.mono Zs.mono hle16
 replace hu5:=hu5.mono Zr.mono hle16
 replace hi5:=hi5.mono ZK.mono hle16
 have hr16n:=hr16.len
 refine xA (h:=tL5 (Zc (Za (xM (h:=xN (h:=Zb rfl (fun g6=>?_) (fun g6=>?_)))))))
 try simp only [sQ,ne_eq] at g6
 refine Za ?_
 refine Zk (Zaj [_,_,_,_,_] rfl rfl ZcN rfl (ZcF 3 rfl rfl rfl) ?_)
 refine ZgA 2 rfl hs5 Zs.mono (by first | omega | decide | (simp;done) | (simp;omega)) (fun B17 hle17 hr17=>?_)
 obtain ⟨hf,hr16,hu5,hi5⟩:=up4 hle17 hf hr16 hu5 hi5
 have hr17n:=hr17.len
 refine xS [_,_,_,_,_] 1 [_,_,_,_,_] ZdA (h:=?_)
 rw [hge,Zig hfd g6]
 refine xA (h:=tL5 (Zd (Zl ?_)))
 exact Zdl .ret (.inl rfl) [_,_] [] rfl ⟨⟨_,rfl,.inr ⟨[_,_,_,_,_],ZcN,ZcF 1 rfl rfl rfl,rfl⟩⟩,rfl,trivial⟩ ⟨rfl,_,_,_,_,_,_,(by first | rfl | (simp only [DHost.withFolders,List.length_set];rfl)),hu5,hr17,hi5,by first | assumption | (rw [ZcT.2.2.1];assumption)⟩
 try simp only [sQ,ne_eq] at g6
 refine wSk (Za (xW Zal (h:=x1 Zec 3 (h:=xM (h:=xM (h:=?_))))))
 obtain ⟨bb18,_,hp18,⟨qg18,cg18,qm18,cm18,rfl,hg18,hm18,hb18,hb18b⟩,hw18,hc18⟩:=hs5.row hfd
 have hg18n:=hg18.len
 have hm18n:=hm18.len
 have hm18s:=Zad hm18
 refine xIp hp18 Tryz.underlying31 Zbw (h:=xW ZbB (h:=Zk (Zel (k:=((Zb8 (inF o n) x.folders)).toNat) (off:=2) (⟨fd.owner,fd.name,(Zap fd.grants u r).1,fd.next,fd.mail⟩) [_] 2 hs5 hp18 hfd rfl rfl ZsU rfl rfl rfl rfl rfl rfl (by rintro _ ⟨_,_,_,_,rfl,_,e2,e3,e4⟩;exact ⟨_,_,_,_,rfl,hr16,e2,e3,e4⟩) (fun l19 hv19=>?_))))
 refine tL5 (Za (xL [_,_,_,_,_] ZcN 3 (h:=ZgA 2 rfl hv19 Zs.mono om3 (fun B20 hle20 hr20=>?_))))
 obtain ⟨hf,hu5,hi5⟩:=up3 hle20 hf hu5 hi5
 have hr20n:=hr20.len
 refine xS [_,_,_,_,_] 1 [_,_,_,_,_] ZdA (h:=?_)
 rw [hge,Zhs hfd (by simpa using g6)]
 refine xA (h:=tL5 (Zd ?_))
 exact Zdl .ret (.inl rfl) [_,_] [] rfl ⟨⟨_,rfl,.inr ⟨[_,_,_,_,_],ZcN,ZcF 1 rfl rfl rfl,rfl⟩⟩,rfl,trivial⟩ ⟨rfl,_,_,_,_,_,_,(by first | rfl | (simp only [DHost.withFolders,List.length_set];rfl)),hu5,hr20,hi5,by first | assumption | (rw [ZcT.2.2.1];assumption)⟩
 try simp only [sQ,ne_eq] at g4
 have hne : ¬ (u≠anyone∧Zei x.users u<0):=fun h=>h.1 g4
 obtain ⟨_,hk0,_,_,_⟩:=Zkx g3
 have hge:Z3 x by_ o n u r=Zd3 x (Zb8 (inF o n) x.folders).toNat u r:=by rw [Z3,if_neg hnn,if_neg (fun h=>h g3),if_neg hne]
 refine xP (h:=xP (h:=xP (h:=xP (h:=xP (h:=xF (h:=xA (h:=Zb (t:=false) rfl (fun h=>Bool.noConfusion h) (fun _=>ZT (ZM (Zo (Za (xW Zal (h:=x1 Zec 0 (h:=xM (h:=?_)))))))))))))))
 obtain ⟨fd,hfd⟩:=Zsk (xs:=x.folders) (i:=(Zb8 (inF o n) x.folders)) om om
 obtain ⟨bb22,oo22,rfl⟩:=hf.base hfd
 obtain ⟨_,⟨qg23,cg23,qm23,cm23,rfl,hg23,hm23,hb23,hb23b⟩,hc23⟩:=hf.elem hfd
 have hg23n:=hg23.len
 have hm23n:=hm23.len
 have hm23s:=Zad hm23
 refine xIx Tryz.underlying31 Zbw (h:=?_)
 have hacl:=Zir fd.grants u r
 have hfg:=ZfU (Zc9 hok hfd)
 refine xW ZbB (h:=y1 Zms hc23 2 (h:=xM (h:=xM (h:=xC Zx9 rfl (Zgz _ _ fd.grants u r om2 _ hg23) (h:=?_)))))
 rintro _ B24 _ hle24 ⟨l24,a24,c24,rfl,rfl,hs24⟩
 replace hs5:=hs5.mono Zs.mono hle24
 replace hu5:=hu5.mono Zr.mono hle24
 replace hi5:=hi5.mono ZK.mono hle24
 have hs24n:=hs24.cap
 replace hs24:=hs24.anyK (B':=B24) ZD.any
 refine xM (h:=xE (h:=xE (h:=xA (h:=ZgA 4 rfl hs24 ZD.mono om3 (fun B25 hle25 hr25=>?_)))))
 replace hs5:=hs5.mono Zs.mono hle25
 replace hu5:=hu5.mono Zr.mono hle25
 replace hi5:=hi5.mono ZK.mono hle25
 have hr25n:=hr25.len
 refine xA (h:=tL5 (Zc (Za (xM (h:=xN (h:=Zb rfl (fun g6=>?_) (fun g6=>?_)))))))
 try simp only [sQ,ne_eq] at g6
 refine Za ?_
 refine Zk (Zaj [_,_,_,_,_] rfl rfl ZcN rfl (ZcF 3 rfl rfl rfl) ?_)
 refine ZgA 2 rfl hs5 Zs.mono (by first | omega | decide | (simp;done) | (simp;omega)) (fun B26 hle26 hr26=>?_)
 obtain ⟨hr25,hu5,hi5⟩:=up3 hle26 hr25 hu5 hi5
 have hr26n:=hr26.len
 refine xS [_,_,_,_,_] 1 [_,_,_,_,_] ZdA (h:=?_)
 rw [hge,Zig hfd g6]
 refine xA (h:=tL5 (Zd (Zl ?_)))
 exact Zdl .ret (.inl rfl) [_,_] [] rfl ⟨⟨_,rfl,.inr ⟨[_,_,_,_,_],ZcN,ZcF 1 rfl rfl rfl,rfl⟩⟩,rfl,trivial⟩ ⟨rfl,_,_,_,_,_,_,(by first | rfl | (simp only [DHost.withFolders,List.length_set];rfl)),hu5,hr26,hi5,by first | assumption | (rw [ZcT.2.2.1];assumption)⟩
 try simp only [sQ,ne_eq] at g6
 refine wSk (Za (xW Zal (h:=x1 Zec 3 (h:=xM (h:=xM (h:=?_))))))
 obtain ⟨bb27,_,hp27,⟨qg27,cg27,qm27,cm27,rfl,hg27,hm27,hb27,hb27b⟩,hw27,hc27⟩:=hs5.row hfd
 have hg27n:=hg27.len
 have hm27n:=hm27.len
 have hm27s:=Zad hm27
 refine xIp hp27 Tryz.underlying31 Zbw (h:=xW ZbB (h:=Zk (Zel (k:=((Zb8 (inF o n) x.folders)).toNat) (off:=2) (⟨fd.owner,fd.name,(Zap fd.grants u r).1,fd.next,fd.mail⟩) [_] 2 hs5 hp27 hfd rfl rfl ZsU rfl rfl rfl rfl rfl rfl (by rintro _ ⟨_,_,_,_,rfl,_,e2,e3,e4⟩;exact ⟨_,_,_,_,rfl,hr25,e2,e3,e4⟩) (fun l28 hv28=>?_))))
 refine tL5 (Za (xL [_,_,_,_,_] ZcN 3 (h:=ZgA 2 rfl hv28 Zs.mono om3 (fun B29 hle29 hr29=>?_))))
 obtain ⟨hu5,hi5⟩:=up2 hle29 hu5 hi5
 have hr29n:=hr29.len
 refine xS [_,_,_,_,_] 1 [_,_,_,_,_] ZdA (h:=?_)
 rw [hge,Zhs hfd (by simpa using g6)]
 refine xA (h:=tL5 (Zd ?_))
 exact Zdl .ret (.inl rfl) [_,_] [] rfl ⟨⟨_,rfl,.inr ⟨[_,_,_,_,_],ZcN,ZcF 1 rfl rfl rfl,rfl⟩⟩,rfl,trivial⟩ ⟨rfl,_,_,_,_,_,_,(by first | rfl | (simp only [DHost.withFolders,List.length_set];rfl)),hu5,hr29,hi5,by first | assumption | (rw [ZcT.2.2.1];assumption)⟩

theorem ZlU (q:Option Addr) (cp:Nat) (gs:List DGrant) (o u:Str) (ho:o.length≤2000000) (hn:u.length≤2000000) (B:Kn) (hg:SlK B q cp 2 ZD gs):Z6 (pj J) 112 [.slice q gs.length cp,str o,str u] B (.int .i64 (Zjm gs o u)):=by
 refine cB 35 Tryz.func112 (h:=?_)
 refine Za (xA (h:=Za (xM (h:=xC Zwk rfl (Zjn _ _ _ _ hg) (h:=?_)))))
 rintro _ Bm _ hlem ⟨mm,lm,rfl,rfl,rfl,hlm⟩
 refine xM (h:=xE (h:=xE (h:=xA (h:=xA (h:=tL1 (Zc (Za (xM (h:=xN (h:=xM (h:=Zt (d:=16) rfl (fun g1=>?_) (fun g1=>?_))))))))))))
 try simp only [sQ,ne_eq] at g1
 refine xP (h:=xP (h:=xP (h:=xT (h:=xM (h:=xP (h:=xP (h:=xP (h:=xT (h:=Zb (t:=true) rfl (fun _=>Za (xA (h:=Zd (Zl ?_)))) (fun h=>Bool.noConfusion h))))))))))
 exact eR t1 ⟨ZF (Zjl (by simp [g1])).symm,rfl,rfl⟩
 try simp only [sQ,ne_eq] at g1
 refine xM (h:=xR ZrE rfl (Zbo _ om2 _) (h:=?_))
 refine xN (h:=xF (h:=xM (h:=Zt (d:=21) rfl (fun g2=>?_) (fun g2=>?_))))
 try simp only [sQ,ne_eq] at g2
 refine xP (h:=xP (h:=xP (h:=xT (h:=Zb (t:=true) rfl (fun _=>Za (xA (h:=Zd (Zl ?_)))) (fun h=>Bool.noConfusion h)))))
 exact eR t1 ⟨ZF (Zjl (by simp [g2])).symm,rfl,rfl⟩
 try simp only [sQ,ne_eq] at g2
 refine xM (h:=xR ZrE rfl (Zbo _ om2 _) (h:=?_))
 refine xN (h:=xF (h:=Zb rfl (fun g3=>?_) (fun g3=>?_)))
 try simp only [sQ,ne_eq] at g3
 refine Za (xA (h:=Zd (Zl ?_)))
 exact eR t1 ⟨ZF (Zjl (by simp [g3])).symm,rfl,rfl⟩
 try simp only [sQ,ne_eq] at g3
 have hce:=ZrV (gs:=gs) (o:=o) (u:=u) g1 g2 (by simpa using g3)
 obtain ⟨bm,hmb,hml⟩:=hlm g1
 subst hmb
 clear hlm
 have hlm:=hml
 refine wSk (Zc (Za (xM (h:=xM (h:=Zdz (h:=Zb rfl (fun g4=>?_) (fun g4=>?_)))))))
 try simp only [sQ,ne_eq] at g4
 refine Za (xA (h:=Zd (Zl ?_)))
 exact eR t1 ⟨ZF (by rw [hce,if_pos g4]),rfl,rfl⟩
 try simp only [sQ,ne_eq] at g4
 refine wSk (Za (xM (h:=xM (h:=Zk (Zix (k:=u) 0 rfl hlm rfl rfl Tryz.underlying117 Tryz.underlying9 zo3 rfl rfl (xM (h:=Zk (Zix (k:=[97,110,121,111,110,101]) 0 rfl hlm rfl rfl Tryz.underlying117 Tryz.underlying9 zo3 rfl rfl (Zk (ZvN rfl rfl rfl rfl (xA (h:=Zd ?_))))))))))))
 exact eR t1 ⟨ZF (by rw [hce,if_neg g4];rfl),rfl,rfl⟩

theorem ZuO (b o:Nat) (q1 q2 q3:Option Addr) (c1 c2 c3:Nat) (x:DHost) (qa qb:Option Addr) (ca cb:Nat) (u:Str) (f:DFolder) (rr:Int) (hn:u.length≤2000000) (ho:f.owner.length≤2000000) (B:Kn) (hh:Zae B b o [str x.domain,.slice q1 x.users.length c1,.slice q2 x.folders.length c2,.int .i64 x.queue.next,.slice q3 x.queue.items.length c3]) (hu:SlK B q1 c1 3 Zr x.users) (hg:SlK B qa ca 2 ZD f.grants):Z6 (pj J) 70 [ptr ⟨b,o,none⟩,str u,.agg #[str f.owner,str f.name,.slice qa f.grants.length ca,.int .i64 f.next,.slice qb f.mail.length cb],.int .i64 rr] B (.bool (Zo1 x.users f u rr)):=by
 refine cB 29 Tryz.func70 (h:=?_)
 refine Za (xBx [_,_,_,_,_] (h:=fun b1=>xA (h:=tL1 (Za (xW ZbB (h:=x1 Zms 0 (h:=xW Zb5 (h:=x1 lk9 0 (h:=xM (h:=xR Zxt rfl (ZlU _ _ f.grants f.owner u om2 om2 _ hg) (h:=?_)))))))))))
 refine xA (h:=Za (xM (h:=xM (h:=xR Zvc rfl (ZfR _ _ _ _ _ _ _ _ x u om2 _ hh hu) (h:=?_)))))
 refine xM (h:=Zt (d:=19) rfl (fun g1=>?_) (fun g1=>?_))
 refine xM (h:=Zdy (h:=xT (h:=xM (h:=Zt (d:=23) rfl (fun g2=>?_) (fun g2=>?_)))))
 refine xM (h:=xM (h:=Zk (Zuw rfl rfl rfl rfl (ZaO (h:=xT (h:=xA (h:=Zd ?_)))))))
 exact eR t1 ⟨Ze (by simp [Zo1,g1,g2]),rfl,rfl⟩
 refine xP (h:=xP (h:=xP (h:=xP (h:=xF (h:=xA (h:=Zd ?_))))))
 exact eR t1 ⟨Ze (by simp [Zo1,g1,g2];try omega),rfl,rfl⟩
 refine xP (h:=xP (h:=xF (h:=xM (h:=xP (h:=xP (h:=xP (h:=xP (h:=xF (h:=xA (h:=Zd ?_))))))))))
 exact eR t1 ⟨Ze (by simp [Zo1,g1]),rfl,rfl⟩

theorem Zlx (q:Option Addr) (cp:Nat) (xs:List DMail) (k m n:Nat) (hmn:m=n) (he:xs=ZbM k n) (hk:k+3*n≤900000000000000) (B:Kn) (hx0:SlK B q cp 3 Zam xs):Z6 (pj J) 82 [.slice q m cp,.int .i64 k] B (.int .i64 ((k+3*n:Nat):Int)):=by
 refine cB 41 Tryz.func82 (h:=?_)
 have hxn:=hx0.len
 have hxl:xs.length=n:=by rw [he];exact Zaz _ _
 refine Za (xA (h:=Zc (Za (xA (h:=Zi (Zw (α:=Nat) [0] (fun g=>[(1,.int .i64 ((k+3*g:Nat):Int)),(5,.int .i64 g)]) [] (fun g=>[]) (fun g Bx=>Bx=B∧g≤n) (fun g=>n - g) 0 t2 rfl (⟨rfl,Nat.zero_le _⟩) (fun g B1 hle1 hI=>?_)))))))
 obtain ⟨rfl,hi⟩:=hI
 refine ZB [(0,_),(1,_),(5,_)] [] t3 rfl (Zc (Za (xM (h:=xM (h:=xV Tryz.underlying57 (h:=ZE (h:=Zb rfl (fun g1=>?_) (fun g1=>?_))))))))
 try simp only [sQ,ne_eq] at g1
 have hx:xs[g]? = some (⟨((k+3*g:Nat):Int),((k+3*g+1:Nat):Int),ZQ (k+3*g+1+1)⟩:DMail):=by rw [he];exact Zlc oz
 refine wSk (Zc (Zi (Zc (Za (xM (h:=xM (h:=?_)))))))
 obtain ⟨bb2,oo2,rfl⟩:=hx0.base hx
 obtain ⟨_,⟨rfl,hb3⟩,hc3⟩:=hx0.elem hx
 refine xIx Tryz.underlying57 Zdu (h:=xW ZcC (h:=y1 lk3 hc3 0 (h:=xM (h:=ZaO (h:=Zb rfl (fun h1=>by simp at h1) (fun h1=>?_))))))
 try simp only [sQ,ne_eq] at h1
 refine wSk (Za (xM (h:=xD (h:=xA (h:=Zc (Za (xM (h:=xM (h:=xIx Tryz.underlying57 Zdu (h:=xW Zfs (h:=y1 lk3 hc3 1 (h:=xM (h:=ZaO (h:=Zb rfl (fun h2=>by simp at h2) (fun h2=>?_)))))))))))))))
 try simp only [sQ,ne_eq] at h2
 refine wSk (Za (xM (h:=xD (h:=xA (h:=Zc (Zc (Z2 (same _ _) mo kr ⟨rfl,rfl⟩ (fun _ _=>?_))))))))
 refine aM 0 rfl (h:=aM 1 rfl (h:=aIx 2 rfl Tryz.underlying57 Zdu (h:=aW 3 rfl Zd4 (h:=aT 4 rfl (Zag fun D=>Zn rfl rfl lk9 rfl (hc3 _ 2 _ rfl) r4) (h:=aM 5 rfl (h:=aT 6 rfl (Zag fun D=>Zaf rfl rfl Zjr rfl (Zab (((k+3*g)+1)+1) oz _) r4) (h:=?_)))))))
 refine Zfa 7 rfl (h:=Zx kr kr ?_)
 refine Zo (Zb rfl (fun h3=>by simp at h3) (fun h3=>?_))
 try simp only [sQ,ne_eq] at h3
 refine wSk (Zf (xM (h:=xD (h:=xA (h:=ZM (Zo (Zf (xM (h:=xD (h:=xA (h:=?_)))))))))))
 exact ZA (g+1) [] so2 ⟨rfl,oz⟩ t3 rfl
 try simp only [sQ,ne_eq] at g1
 refine ZC (ZV (ZG (Zu (Zo (Za (xM (h:=xA (h:=Zd ?_))))))))
 exact eR t1 ⟨ZF (by rw [show g=n from by omega]),rfl,rfl⟩

theorem Zkj (q:Option Addr) (cp:Nat) (xs:List DGrant) (k m n:Nat) (hmn:m=n) (he:xs=Zaw k n) (hk:k+2*n≤900000000000000) (B:Kn) (hx0:SlK B q cp 2 ZD xs):Z6 (pj J) 81 [.slice q m cp,.int .i64 k] B (.int .i64 ((k+2*n:Nat):Int)):=by
 refine cB 32 Tryz.func81 (h:=?_)
 have hxn:=hx0.len
 have hxl:xs.length=n:=by rw [he];exact Zao _ _
 refine Za (xA (h:=Zc (Za (xA (h:=Zi (Zw (α:=Nat) [0] (fun g=>[(1,.int .i64 ((k+2*g:Nat):Int)),(5,.int .i64 g)]) [] (fun g=>[]) (fun g Bx=>Bx=B∧g≤n) (fun g=>n - g) 0 t2 rfl (⟨rfl,Nat.zero_le _⟩) (fun g B1 hle1 hI=>?_)))))))
 obtain ⟨rfl,hi⟩:=hI
 refine ZB [(0,_),(1,_),(5,_)] [] t3 rfl (Zc (Za (xM (h:=xM (h:=xV Tryz.underlying54 (h:=ZE (h:=Zb rfl (fun g1=>?_) (fun g1=>?_))))))))
 try simp only [sQ,ne_eq] at g1
 have hx:xs[g]? = some (⟨ZQ (k+2*g),((k+2*g+1:Nat):Int)⟩:DGrant):=by rw [he];exact Zj3 oz
 refine wSk (Zc (Zi (Zc (Zc (Z2 (same _ _) mo kr ⟨rfl,rfl⟩ (fun _ _=>?_))))))
 refine aM 0 rfl (h:=aM 1 rfl (h:=?_))
 obtain ⟨bb2,oo2,rfl⟩:=hx0.base hx
 obtain ⟨_,⟨rfl,hb3⟩,hc3⟩:=hx0.elem hx
 refine aIx 2 rfl Tryz.underlying54 ZaQ (h:=aW 3 rfl Za7 (h:=aT 4 rfl (Zag fun D=>Zn rfl rfl lk9 rfl (hc3 _ 0 _ rfl) r4) (h:=aM 5 rfl (h:=aT 6 rfl (Zag fun D=>Zaf rfl rfl Zjr rfl (Zab (k+2*g) oz _) r4) (h:=?_)))))
 refine Zfa 7 rfl (h:=Zx kr kr ?_)
 refine Zo (Zb rfl (fun h1=>by simp at h1) (fun h1=>?_))
 try simp only [sQ,ne_eq] at h1
 refine wSk (Za (xM (h:=xD (h:=xA (h:=Zc (Za (xM (h:=xM (h:=xIx Tryz.underlying54 ZaQ (h:=xW Zdb (h:=y1 lk3 hc3 1 (h:=xM (h:=ZaO (h:=Zb rfl (fun h2=>by simp at h2) (fun h2=>?_)))))))))))))))
 try simp only [sQ,ne_eq] at h2
 refine wSk (Zf (xM (h:=xD (h:=xA (h:=ZM (Zo (Zf (xM (h:=xD (h:=xA (h:=?_)))))))))))
 exact ZA (g+1) [] so2 ⟨rfl,oz⟩ t3 rfl
 try simp only [sQ,ne_eq] at g1
 refine ZC (ZV (ZG (Zu (Zo (Za (xM (h:=xA (h:=Zd ?_))))))))
 exact eR t1 ⟨ZF (by rw [show g=n from by omega]),rfl,rfl⟩

theorem Zlv (q:Option Addr) (cp:Nat) (xs:List DUser) (k m n:Nat) (hmn:m=n) (he:xs=Zch k n) (hk:k+3*n≤900000000000000) (B:Kn) (hx0:SlK B q cp 3 Zr xs):Z6 (pj J) 39 [.slice q m cp,.int .i64 k] B (.int .i64 ((k+3*n:Nat):Int)):=by
 refine cB 42 Tryz.func39 (h:=?_)
 have hxn:=hx0.len
 have hxl:xs.length=n:=by rw [he];exact Zbf _ _
 refine Za (xA (h:=Zc (Za (xA (h:=Zi (Zw (α:=Nat) [0] (fun g=>[(1,.int .i64 ((k+3*g:Nat):Int)),(5,.int .i64 g)]) [] (fun g=>[]) (fun g Bx=>Bx=B∧g≤n) (fun g=>n - g) 0 t2 rfl (⟨rfl,Nat.zero_le _⟩) (fun g B1 hle1 hI=>?_)))))))
 obtain ⟨rfl,hi⟩:=hI
 refine ZB [(0,_),(1,_),(5,_)] [] t3 rfl (Zc (Za (xM (h:=xM (h:=xV Tryz.underlying30 (h:=ZE (h:=Zb rfl (fun g1=>?_) (fun g1=>?_))))))))
 try simp only [sQ,ne_eq] at g1
 have hx:xs[g]? = some (⟨ZQ (k+3*g),ZQ (k+3*g+1),((k+3*g+1+1:Nat):Int)⟩:DUser):=by rw [he];exact Zla oz
 refine wSk (Zc (Zi (Zc (Zc (Z2 (same _ _) mo kr ⟨rfl,rfl⟩ (fun _ _=>?_))))))
 refine aM 0 rfl (h:=aM 1 rfl (h:=?_))
 obtain ⟨bb2,oo2,rfl⟩:=hx0.base hx
 obtain ⟨_,⟨rfl,hb3,hb3b⟩,hc3⟩:=hx0.elem hx
 refine aIx 2 rfl Tryz.underlying30 Zek (h:=aW 3 rfl Zb4 (h:=aT 4 rfl (Zag fun D=>Zn rfl rfl lk9 rfl (hc3 _ 0 _ rfl) r4) (h:=aM 5 rfl (h:=aT 6 rfl (Zag fun D=>Zaf rfl rfl Zjr rfl (Zab (k+3*g) oz _) r4) (h:=?_)))))
 refine Zfa 7 rfl (h:=Zx kr kr ?_)
 refine Zo (Zb rfl (fun h1=>by simp at h1) (fun h1=>?_))
 try simp only [sQ,ne_eq] at h1
 refine wSk (Za (xM (h:=xD (h:=xA (h:=Zc (Zc (Z2 (same _ _) mo kr ⟨rfl,rfl⟩ (fun _ _=>?_))))))))
 refine aM 0 rfl (h:=aM 1 rfl (h:=aIx 2 rfl Tryz.underlying30 Zek (h:=aW 3 rfl Zhv (h:=aT 4 rfl (Zag fun D=>Zn rfl rfl lk9 rfl (hc3 _ 1 _ rfl) r4) (h:=aM 5 rfl (h:=aT 6 rfl (Zag fun D=>Zaf rfl rfl Zjr rfl (Zab ((k+3*g)+1) oz _) r4) (h:=?_)))))))
 refine Zfa 7 rfl (h:=Zx kr kr ?_)
 refine Zo (Zb rfl (fun h2=>by simp at h2) (fun h2=>?_))
 try simp only [sQ,ne_eq] at h2
 refine wSk (Za (xM (h:=xD (h:=xA (h:=Zc (Za (xM (h:=xM (h:=xIx Tryz.underlying30 Zek (h:=xW Ze5 (h:=y1 lk3 hc3 2 (h:=xM (h:=ZaO (h:=Zb rfl (fun h3=>by simp at h3) (fun h3=>?_)))))))))))))))
 try simp only [sQ,ne_eq] at h3
 refine wSk (Zf (xM (h:=xD (h:=xA (h:=ZM (Zo (Zf (xM (h:=xD (h:=xA (h:=?_)))))))))))
 exact ZA (g+1) [] so2 ⟨rfl,oz⟩ t3 rfl
 try simp only [sQ,ne_eq] at g1
 refine ZC (ZV (ZG (Zu (Zo (Za (xM (h:=xA (h:=Zd ?_))))))))
 exact eR t1 ⟨ZF (by rw [show g=n from by omega]),rfl,rfl⟩

theorem Znr (q:Option Addr) (cp:Nat) (xs:List Str) (k m n:Nat) (hmn:m=n) (he:xs=Zc7 k n) (hk:k+1*n≤900000000000000) (B:Kn) (hx0:SlK B q cp 1 ZbU xs):Z6 (pj J) 121 [.slice q m cp,.int .i64 k] B (.int .i64 ((k+1*n:Nat):Int)):=by
 refine cB 22 Tryz.func121 (h:=?_)
 have hxn:=hx0.len
 have hxl:xs.length=n:=by rw [he];exact Za5 _ _
 refine Za (xA (h:=Zc (Za (xA (h:=Zi (Zw (α:=Nat) [0] (fun g=>[(1,.int .i64 ((k+1*g:Nat):Int)),(5,.int .i64 g)]) [] (fun g=>[]) (fun g Bx=>Bx=B∧g≤n) (fun g=>n - g) 0 t2 rfl (⟨rfl,Nat.zero_le _⟩) (fun g B1 hle1 hI=>?_)))))))
 obtain ⟨rfl,hi⟩:=hI
 refine ZB [(0,_),(1,_),(5,_)] [] t3 rfl (Zc (Za (xM (h:=xM (h:=xV Tryz.underlying99 (h:=ZE (h:=Zb rfl (fun g1=>?_) (fun g1=>?_))))))))
 try simp only [sQ,ne_eq] at g1
 have hx:xs[g]? = some (ZQ (k+1*g):Str):=by rw [he];exact Zng oz
 refine wSk (Zc (Zi (Zc (Zc (Z2 (same _ _) mo kr ⟨rfl,rfl⟩ (fun _ _=>?_))))))
 refine aM 0 rfl (h:=aM 1 rfl (h:=?_))
 obtain ⟨bb2,oo2,rfl⟩:=hx0.base hx
 obtain ⟨_,⟨rfl,hb3⟩,hc3⟩:=hx0.elem hx
 refine aIx 2 rfl Tryz.underlying99 sz9 (h:=aT 3 rfl (Zag fun D=>Zn rfl rfl lk9 rfl (hc3 _ 0 _ rfl) r4) (h:=aM 4 rfl (h:=aT 5 rfl (Zag fun D=>Zaf rfl rfl Zjr rfl (Zab (k+1*g) oz _) r4) (h:=?_))))
 refine Zfa 6 rfl (h:=Zx kr kr ?_)
 refine Zo (Zb rfl (fun h1=>by simp at h1) (fun h1=>?_))
 try simp only [sQ,ne_eq] at h1
 refine wSk (Zf (xM (h:=xD (h:=xA (h:=ZM (Zo (Zf (xM (h:=xD (h:=xA (h:=?_)))))))))))
 exact ZA (g+1) [] so2 ⟨rfl,oz⟩ t3 rfl
 try simp only [sQ,ne_eq] at g1
 refine ZC (ZV (ZG (Zu (Zo (Za (xM (h:=xA (h:=Zd ?_))))))))
 exact eR t1 ⟨ZF (by rw [show g=n from by omega]),rfl,rfl⟩

set_option maxHeartbeats 400000 in
theorem ZiT (q:Option Addr) (cp:Nat) (xs:List DFolder) (l:Cells) (k:Nat) (hk:kL Zbx k xs≤800000000000000) (hn:xs.length≤2000000) (B:Kn) (hv:ZaV l q cp 61 5 (Z1 109 164) xs):Zv (pj J) 37 [.slice q xs.length cp,.int .i64 k] B [l] (fun v B' Ls=>B'=B∧∃l',Ls=[l']∧v = .int .i64 ((kL Zbx k xs:Nat):Int)∧ZaV l' q cp 61 5 (Z1 109 164) (mkL Zbx mkF k xs)):=by
 refine ZhG 52 Tryz.func37 rfl rfl rfl (Nat.le_of_ble_eq_true rfl) ?_
 have hvc:=hv.cap
 refine Za ?_
 refine xA (h:=?_)
 refine Zc ?_
 refine Za ?_
 refine xA (h:=?_)
 refine Zi ?_
 refine Zw (α:=Nat × Nat × Cells × List DFolder) [4] (fun g=>[(0,.slice q xs.length cp),(1,.int .i64 ((g.2.1:Nat):Int)),(5,.int .i64 g.1)]) [0] (fun g=>[g.2.2.1]) (fun g Bx=>Bx=B∧g.1≤xs.length∧g.2.1=kL Zbx k (xs.take g.1)∧g.2.2.2.length=xs.length∧g.2.2.2.take g.1=mkL Zbx mkF k (xs.take g.1)∧g.2.2.2.drop g.1=xs.drop g.1∧ZaV g.2.2.1 q cp 61 5 (Z1 109 164) g.2.2.2) (fun g=>xs.length - g.1) (0,k,l,xs) t3 rfl (⟨rfl,Nat.zero_le _,Zmu.symm,rfl,rfl,rfl,hv⟩) (fun g B1 hle1 hI=>?_)
 obtain ⟨rfl,hi,hs,hle,ht,hd,hw⟩:=hI
 refine ZB [(0,_),(1,_),(4,_),(5,_)] [_] t4 rfl ?_
 refine Zc ?_
 refine Za ?_
 refine xM (h:=?_)
 refine xM (h:=?_)
 refine xV Tryz.underlying31 (h:=?_)
 refine ZE (h:=?_)
 refine Zb rfl (fun g1=>?_) (fun g1=>?_)
 try simp only [sQ,ne_eq] at g1
 obtain ⟨x,hx⟩:=ZU (xs:=xs) (i:=g.1) oz
 have hy:=(ZmG hd).trans hx
 have hkl:=Nat.le_trans (Zrg (st:=Zbx) (k:=k) hx) hk
 rw [← hs] at hkl
 have hst:Zbx x=3+2*x.grants.length+3*x.mail.length:=rfl
 refine ZT ?_
 refine Zo ?_
 refine Zc ?_
 refine Zi ?_
 refine Za ?_
 refine xM (h:=?_)
 refine xM (h:=?_)
 refine xM (h:=?_)
 refine xR Zjr rfl (Zab (g.2.1) oz _) (h:=?_)
 obtain ⟨bb3,_,li3,lr3,hp3,⟨qg3,cg3,qm3,cm3,ia3,ib3,rfl,rfl,hg3,hm3,ho3,hn3,hx3,hy3⟩,hw3,hq3,hc3,hk3⟩:=hw.cell (B:=B1) (L:=[g.2.2.1]) hy 0 rfl
 refine xIp hp3 Tryz.underlying31 Zbw (h:=?_)
 refine xW Zb5 (h:=?_)
 refine Zk (ZhY (k:=g.1) (us:=[_]) ((⟨ZQ (g.2.1),x.name,x.grants,x.next,x.mail⟩:DFolder)) 0 0 rfl hw hp3 hy rfl rfl sz9 rfl rfl rfl rfl (Nat.le_of_ble_eq_true rfl) (by rintro _ _ ⟨_,_,_,_,_,_,rfl,rfl,h1,h2,h3,h4,h5,h6⟩;exact ⟨_,_,_,_,_,_,rfl,rfl,h1,h2,show (ZQ (g.2.1)).length≤2000000 from Nat.le_trans (ZbZ (k:=g.2.1) oz) (by decide),h4,h5,h6⟩) (fun l4 hv4=>?_))
 have hs4:=ZdW (z:=((⟨ZQ (g.2.1),x.name,x.grants,x.next,x.mail⟩:DFolder))) hy
 refine ZnU [_] rfl ?_
 refine Za ?_
 refine xM (h:=?_)
 refine xD (h:=?_)
 refine xA (h:=?_)
 refine Za ?_
 refine xM (h:=?_)
 refine xM (h:=?_)
 refine xM (h:=?_)
 refine xR Zjr rfl (Zab ((g.2.1)+1) oz _) (h:=?_)
 obtain ⟨bb6,_,li6,lr6,hp6,⟨qg6,cg6,qm6,cm6,ia6,ib6,rfl,rfl,hg6,hm6,ho6,hn6,hx6,hy6⟩,hw6,hq6,hc6,hk6⟩:=hv4.cell (B:=B1) (L:=[l4]) hs4 0 rfl
 refine xIp hp6 Tryz.underlying31 Zbw (h:=?_)
 refine xW ZdI (h:=?_)
 refine Zk (ZhY (k:=g.1) (us:=[_]) ((⟨ZQ (g.2.1),ZQ (g.2.1+1),x.grants,x.next,x.mail⟩:DFolder)) 1 0 rfl hv4 hp6 hs4 rfl rfl sz9 rfl rfl rfl rfl (Nat.le_of_ble_eq_true rfl) (by rintro _ _ ⟨_,_,_,_,_,_,rfl,rfl,h1,h2,h3,h4,h5,h6⟩;exact ⟨_,_,_,_,_,_,rfl,rfl,h1,h2,h3,show (ZQ (g.2.1+1)).length≤2000000 from Nat.le_trans (ZbZ (k:=g.2.1+1) oz) (by decide),h5,h6⟩) (fun l7 hv7=>?_))
 rw [List.set_set] at hv7
 have hs7:=ZdW (z:=((⟨ZQ (g.2.1),ZQ (g.2.1+1),x.grants,x.next,x.mail⟩:DFolder))) hy
 refine ZnU [_] rfl ?_
 obtain ⟨bb8,_,li8,lr8,hp8,⟨qg8,cg8,qm8,cm8,ia8,ib8,rfl,rfl,hg8,hm8,ho8,hn8,hx8,hy8⟩,hw8,hq8,hc8,hk8⟩:=hv7.cell (B:=B1) (L:=[_]) hs7 0 rfl
 replace hc8:=fun m u h=>(hc8 m u h).perm (Zgb 0 rfl (ZqV hq8))
 refine Ziw 0 rfl (ZqV hq8) ?_
 refine Za ?_
 refine xM (h:=?_)
 refine xD (h:=?_)
 refine xA (h:=?_)
 refine ZnU [_,_,_] rfl ?_
 refine Za ?_
 refine xM (h:=?_)
 refine xM (h:=?_)
 refine xIp hp8 Tryz.underlying31 Zbw (h:=?_)
 refine xW ZbB (h:=?_)
 refine Zk (Zn rfl rfl Zms rfl (hc8 2 _ rfl) ?_)
 refine xM (h:=?_)
 refine Zk (ZdQ [1] rfl rfl rfl rfl ZyL rfl (Zj5 _ _ (((⟨ZQ (g.2.1),ZQ (g.2.1+1),x.grants,x.next,x.mail⟩:DFolder)).grants) _ (((g.2.1)+1)+1) oz oz _ (hg8.anyK ZD.any)) ?_)
 rintro _ B9 _ hle9 ⟨rfl,l9,rfl,rfl,hs9⟩
 refine xA (h:=?_)
 refine ZnU [_,_,_] rfl ?_
 refine Zg1 0 2 rfl rfl (by decide) ?_
 refine Zg1 0 1 rfl rfl (by decide) ?_
 have hv10:=hk8 (⟨ZQ (g.2.1),ZQ (g.2.1+1),Zaw (g.2.1+1+1) x.grants.length,x.next,x.mail⟩:DFolder) _ ⟨qg8,cg8,qm8,cm8,_,_,by simp only [Zao,Zaz],rfl,hs9.anyK ZD.any,hm8.anyK Zam.any,ho8,hn8,by first | assumption | (rw [Zao];assumption),by first | assumption | (rw [Zaz];assumption)⟩
 rw [List.append_assoc,List.set_set] at hv10
 have hs10:=ZdW (z:=((⟨ZQ (g.2.1),ZQ (g.2.1+1),Zaw (g.2.1+1+1) x.grants.length,x.next,x.mail⟩:DFolder))) hy
 refine Zn3 [0] rfl ?_
 refine Za ?_
 refine xM (h:=?_)
 refine xM (h:=?_)
 refine xM (h:=?_)
 obtain ⟨bb11,_,li11,lr11,hp11,⟨qg11,cg11,qm11,cm11,ia11,ib11,rfl,rfl,hg11,hm11,ho11,hn11,hx11,hy11⟩,hw11,hq11,hc11,hk11⟩:=hv10.cell (B:=B9) (L:=[_]) hs10 0 rfl
 refine xIp hp11 Tryz.underlying31 Zbw (h:=?_)
 refine xW Zda (h:=?_)
 refine xW ZfV (h:=?_)
 refine Zk (ZhY (k:=g.1) (us:=[_]) ((⟨ZQ (g.2.1),ZQ (g.2.1+1),Zaw (g.2.1+1+1) x.grants.length,((g.2.1+1+1+2*x.grants.length:Nat):Int),x.mail⟩:DFolder)) 3 0 rfl hv10 hp11 hs10 rfl rfl sz3 rfl rfl rfl rfl (Nat.le_of_ble_eq_true rfl) (by rintro _ _ ⟨_,_,_,_,_,_,rfl,rfl,h1,h2,h3,h4,h5,h6⟩;exact ⟨_,_,_,_,_,_,rfl,rfl,h1,h2,h3,h4,h5,h6⟩) (fun l12 hv12=>?_))
 rw [List.set_set] at hv12
 have hs12:=ZdW (z:=((⟨ZQ (g.2.1),ZQ (g.2.1+1),Zaw (g.2.1+1+1) x.grants.length,((g.2.1+1+1+2*x.grants.length:Nat):Int),x.mail⟩:DFolder))) hy
 refine ZnU [_] rfl ?_
 obtain ⟨bb13,_,li13,lr13,hp13,⟨qg13,cg13,qm13,cm13,ia13,ib13,rfl,rfl,hg13,hm13,ho13,hn13,hx13,hy13⟩,hw13,hq13,hc13,hk13⟩:=hv12.cell (B:=B9) (L:=[_]) hs12 0 rfl
 replace hc13:=fun m u h=>(hc13 m u h).perm (Zgb 0 rfl (ZqV hq13))
 refine Ziw 0 rfl (ZqV hq13) ?_
 refine Za ?_
 refine xM (h:=?_)
 refine xD (h:=?_)
 refine xA (h:=?_)
 refine ZnU [_,_,_] rfl ?_
 refine Zf ?_
 refine xM (h:=?_)
 refine xM (h:=?_)
 refine xIp hp13 Tryz.underlying31 Zbw (h:=?_)
 refine xW Zda (h:=?_)
 refine xW Zcc (h:=?_)
 refine Zk (Zn rfl rfl ZkK rfl (hc13 4 _ rfl) ?_)
 refine xM (h:=?_)
 refine Zk (ZdQ [2] rfl rfl rfl rfl ZyK rfl (Zli _ _ (((⟨ZQ (g.2.1),ZQ (g.2.1+1),Zaw (g.2.1+1+1) x.grants.length,((g.2.1+1+1+2*x.grants.length:Nat):Int),x.mail⟩:DFolder)).mail) _ (((((g.2.1)+1)+1)+2*(((⟨ZQ (g.2.1),ZQ (g.2.1+1),x.grants,x.next,x.mail⟩:DFolder)).grants).length)+1) oz oz _ (hm13.anyK Zam.any)) ?_)
 rintro _ B14 _ hle14 ⟨rfl,l14,rfl,rfl,hs14⟩
 refine xA (h:=?_)
 refine ZM (Zo ?_)
 refine Zg1 0 2 rfl rfl (by decide) ?_
 refine Zg1 0 1 rfl rfl (by decide) ?_
 have hv15:=hk13 (⟨ZQ (g.2.1),ZQ (g.2.1+1),Zaw (g.2.1+1+1) x.grants.length,((g.2.1+1+1+2*x.grants.length:Nat):Int),ZbM (g.2.1+1+1+2*x.grants.length+1) x.mail.length⟩:DFolder) _ ⟨qg13,cg13,qm13,cm13,_,_,by simp only [Zao,Zaz],rfl,hg13.anyK ZD.any,hs14.anyK Zam.any,ho13,hn13,by first | assumption | (rw [Zao];assumption),by first | assumption | (rw [Zaz];assumption)⟩
 rw [List.append_assoc,List.set_set] at hv15
 have hs15:=ZdW (z:=((⟨ZQ (g.2.1),ZQ (g.2.1+1),Zaw (g.2.1+1+1) x.grants.length,((g.2.1+1+1+2*x.grants.length:Nat):Int),ZbM (g.2.1+1+1+2*x.grants.length+1) x.mail.length⟩:DFolder))) hy
 refine Zn3 [0] rfl ?_
 refine Zf ?_
 refine xM (h:=?_)
 refine xD (h:=?_)
 refine xA (h:=?_)
 exact ZA (g.1+1,g.2.1+1+1+2*x.grants.length+1+3*x.mail.length,_,(g.2.2.2.set g.1 ((⟨ZQ (g.2.1),ZQ (g.2.1+1),Zaw (g.2.1+1+1) x.grants.length,((g.2.1+1+1+2*x.grants.length:Nat):Int),ZbM (g.2.1+1+1+2*x.grants.length+1) x.mail.length⟩:DFolder)))) [0] so2 ⟨rfl,so,by simp only [];rw [Zhj hx,← hs,hst];omega,Zl4 hle,Zj2 ht hx hle hs,ZmF hd,hv15⟩ t4 rfl
 try simp only [sQ,ne_eq] at g1
 have he:=ZoZ ht hle oz
 have hgi:g.1=xs.length:=by omega
 refine ZC (ZV (ZG (Zu (Zo ?_))))
 refine Za ?_
 refine xM (h:=?_)
 refine xA (h:=?_)
 refine Zd ?_
 exact Zdl .ret (.inl rfl) [_] [0] rfl t1 ⟨rfl,_,rfl,by rw [hs,Zmv oz];rfl,by rw [← he];exact hw⟩

theorem Zlj (q:Option Addr) (cp:Nat) (xs:List DItem) (l:Cells) (k:Nat) (hk:kL ZbT k xs≤800000000000000) (hn:xs.length≤2000000) (B:Kn) (hv:ZaV l q cp 101 4 (Za8 9) xs):Zv (pj J) 80 [.slice q xs.length cp,.int .i64 k] B [l] (fun v B' Ls=>B'=B∧∃l',Ls=[l']∧v = .int .i64 ((kL ZbT k xs:Nat):Int)∧ZaV l' q cp 101 4 (Za8 9) (mkL ZbT mkI k xs)):=by
 refine cB 43 Tryz.func80 (h:=?_)
 have hvc:=hv.cap
 refine Za (xA (h:=Zc (Za (xA (h:=Zi (Zw (α:=Nat × Nat × Cells × List DItem) [4] (fun g=>[(0,.slice q xs.length cp),(1,.int .i64 ((g.2.1:Nat):Int)),(5,.int .i64 g.1)]) [0] (fun g=>[g.2.2.1]) (fun g Bx=>Bx=B∧g.1≤xs.length∧g.2.1=kL ZbT k (xs.take g.1)∧g.2.2.2.length=xs.length∧g.2.2.2.take g.1=mkL ZbT mkI k (xs.take g.1)∧g.2.2.2.drop g.1=xs.drop g.1∧ZaV g.2.2.1 q cp 101 4 (Za8 9) g.2.2.2) (fun g=>xs.length - g.1) (0,k,l,xs) t3 rfl (⟨rfl,Nat.zero_le _,Zmu.symm,rfl,rfl,rfl,hv⟩) (fun g B1 hle1 hI=>?_)))))))
 obtain ⟨rfl,hi,hs,hle,ht,hd,hw⟩:=hI
 refine ZB [(0,_),(1,_),(4,_),(5,_)] [_] t4 rfl (Zc (Za (xM (h:=xM (h:=xV Tryz.underlying32 (h:=ZE (h:=Zb rfl (fun g1=>?_) (fun g1=>?_))))))))
 try simp only [sQ,ne_eq] at g1
 obtain ⟨x,hx⟩:=ZU (xs:=xs) (i:=g.1) oz
 have hy:=(ZmG hd).trans hx
 have hkl:=Nat.le_trans (Zrg (st:=ZbT) (k:=k) hx) hk
 rw [← hs] at hkl
 have hst:ZbT x=3+x.left.length:=rfl
 refine wSk (Zc (Zi (Za (xM (h:=xM (h:=xM (h:=?_)))))))
 obtain ⟨bb2,_,li2,lr2,hp2,⟨qg2,cg2,rfl,hg2,ho2,hn2,hx2⟩,hw2,hq2,hc2,hk2⟩:=hw.cell (B:=B1) (L:=[g.2.2.1]) hy 0 rfl
 refine xIp hp2 Tryz.underlying32 Zbl (h:=xW Zd6 (h:=Zk (ZhY (k:=g.1) (us:=[_]) ((⟨((g.2.1:Nat):Int),x.fr,x.text,x.left⟩:DItem)) 0 0 rfl hw hp2 hy rfl rfl sz3 rfl rfl rfl rfl (Nat.le_of_ble_eq_true rfl) (by rintro _ _ ⟨_,_,rfl,h1,h2,h3,h4⟩;exact ⟨_,_,rfl,h1,h2,h3,h4⟩) (fun l3 hv3=>?_))))
 have hs3:=ZdW (z:=((⟨((g.2.1:Nat):Int),x.fr,x.text,x.left⟩:DItem))) hy
 refine tL1 (Za (xM (h:=xD (h:=xA (h:=Za (xM (h:=xM (h:=xM (h:=xR Zjr rfl (Zab ((g.2.1)+1) oz _) (h:=?_))))))))))
 obtain ⟨bb5,_,li5,lr5,hp5,⟨qg5,cg5,rfl,hg5,ho5,hn5,hx5⟩,hw5,hq5,hc5,hk5⟩:=hv3.cell (B:=B1) (L:=[l3]) hs3 0 rfl
 refine xIp hp5 Tryz.underlying32 Zbl (h:=xW Zd5 (h:=Zk (ZhY (k:=g.1) (us:=[_]) ((⟨((g.2.1:Nat):Int),ZQ (g.2.1+1),x.text,x.left⟩:DItem)) 1 0 rfl hv3 hp5 hs3 rfl rfl sz9 rfl rfl rfl rfl (Nat.le_of_ble_eq_true rfl) (by rintro _ _ ⟨_,_,rfl,h1,h2,h3,h4⟩;exact ⟨_,_,rfl,h1,show (ZQ (g.2.1+1)).length≤2000000 from Nat.le_trans (ZbZ (k:=g.2.1+1) oz) (by decide),h3,h4⟩) (fun l6 hv6=>?_))))
 rw [List.set_set] at hv6
 have hs6:=ZdW (z:=((⟨((g.2.1:Nat):Int),ZQ (g.2.1+1),x.text,x.left⟩:DItem))) hy
 refine tL1 (Za (xM (h:=xD (h:=xA (h:=Za (xM (h:=xM (h:=xM (h:=xR Zjr rfl (Zab (((g.2.1)+1)+1) oz _) (h:=?_))))))))))
 obtain ⟨bb8,_,li8,lr8,hp8,⟨qg8,cg8,rfl,hg8,ho8,hn8,hx8⟩,hw8,hq8,hc8,hk8⟩:=hv6.cell (B:=B1) (L:=[l6]) hs6 0 rfl
 refine xIp hp8 Tryz.underlying32 Zbl (h:=xW Zft (h:=Zk (ZhY (k:=g.1) (us:=[_]) ((⟨((g.2.1:Nat):Int),ZQ (g.2.1+1),ZQ (g.2.1+1+1),x.left⟩:DItem)) 2 0 rfl hv6 hp8 hs6 rfl rfl sz9 rfl rfl rfl rfl (Nat.le_of_ble_eq_true rfl) (by rintro _ _ ⟨_,_,rfl,h1,h2,h3,h4⟩;exact ⟨_,_,rfl,h1,h2,show (ZQ (g.2.1+1+1)).length≤2000000 from Nat.le_trans (ZbZ (k:=g.2.1+1+1) oz) (by decide),h4⟩) (fun l9 hv9=>?_))))
 rw [List.set_set] at hv9
 have hs9:=ZdW (z:=((⟨((g.2.1:Nat):Int),ZQ (g.2.1+1),ZQ (g.2.1+1+1),x.left⟩:DItem))) hy
 refine tL1 ?_
 obtain ⟨bb10,_,li10,lr10,hp10,⟨qg10,cg10,rfl,hg10,ho10,hn10,hx10⟩,hw10,hq10,hc10,hk10⟩:=hv9.cell (B:=B1) (L:=[_]) hs9 0 rfl
 replace hc10:=fun m u h=>(hc10 m u h).perm (Zgb 0 rfl (ZuK hq10))
 refine Ziw 0 rfl (ZuK hq10) ?_
 refine Za ?_
 refine Zk (ZgZ rfl rfl rfl ?_)
 refine Zk (ZfF rfl rfl rfl rfl (by first | exact Zbd (by first | omega | (simp;done) | (simp;omega)) (by first | omega | (simp;done) | (simp;omega)) | rfl) ?_)
 refine Zk (ZcJ rfl rfl rfl ?_)
 refine ZnU [_,_] rfl ?_
 refine Zf ?_
 refine Zk (ZgZ rfl rfl rfl ?_)
 refine Zk (ZgZ rfl rfl rfl ?_)
 refine Zk (Zef hp10 rfl rfl Tryz.underlying32 Zbl rfl rfl (by first | omega | (simp;done) | (simp;omega)) (by first | omega | (simp;done) | (simp;omega)) ?_)
 refine Zk (Zfd rfl rfl Zci rfl ?_)
 refine Zk (Zn rfl rfl Zj7 rfl (hc10 3 _ rfl) ?_)
 refine Zk (ZgZ rfl rfl rfl ?_)
 refine Zk (ZdQ [1] rfl rfl rfl rfl Zxl rfl (ZiS _ _ (((⟨((g.2.1:Nat):Int),ZQ (g.2.1+1),ZQ (g.2.1+1+1),x.left⟩:DItem)).left) _ ((((g.2.1)+1)+1)+1) (by omega) (by omega) _ (hg10.anyK ZbU.any)) ?_)
 rintro _ B11 _ hle11 ⟨rfl,l11,rfl,rfl,hs11⟩
 refine xA (h:=ZM (Zo (Zg1 0 1 rfl rfl (by decide) ?_)))
 have hv12:=hk10 (⟨((g.2.1:Nat):Int),ZQ (g.2.1+1),ZQ (g.2.1+1+1),Zc7 (g.2.1+1+1+1) x.left.length⟩:DItem) _ ⟨qg10,cg10,by simp only [Za5],hs11.anyK ZbU.any,ho10,hn10,by first | assumption | (rw [Za5];assumption)⟩
 rw [List.set_set] at hv12
 have hs12:=ZdW (z:=((⟨((g.2.1:Nat):Int),ZQ (g.2.1+1),ZQ (g.2.1+1+1),Zc7 (g.2.1+1+1+1) x.left.length⟩:DItem))) hy
 refine Zn3 [0] rfl (Zf (xM (h:=xD (h:=xA (h:=?_)))))
 exact ZA (g.1+1,g.2.1+1+1+1+1*x.left.length,_,(g.2.2.2.set g.1 ((⟨((g.2.1:Nat):Int),ZQ (g.2.1+1),ZQ (g.2.1+1+1),Zc7 (g.2.1+1+1+1) x.left.length⟩:DItem)))) [0] so2 ⟨rfl,so,by simp only [];rw [Zhj hx,← hs,hst];omega,Zl4 hle,Zj2 ht hx hle hs,ZmF hd,hv12⟩ t4 rfl
 try simp only [sQ,ne_eq] at g1
 have he:=ZoZ ht hle oz
 refine ZC (ZV (ZG (Zu (Zo (Za (xM (h:=xA (h:=Zd ?_))))))))
 exact Zdl .ret (.inl rfl) [_] [0] rfl ⟨rfl,trivial⟩ ⟨rfl,_,rfl,by rw [hs,Zmv (by omega)];rfl,by rw [← he];exact hw⟩

theorem Zlh (q1:Option Addr) (c1:Nat) (x:DQueue) (l1:Cells) (k:Nat) (hk:kL ZbT k x.items≤800000000000000) (hn:x.items.length≤2000000) (B:Kn) (hv:ZaV l1 q1 c1 101 4 (Za8 9) x.items):Zv (pj J) 38 [.agg #[.int .i64 x.next,.slice q1 x.items.length c1],.int .i64 k] B [l1] (fun v B' Ls=>B'=B∧∃l',Ls=[l']∧v = .int .i64 ((kL ZbT k x.items:Nat):Int)∧ZaV l' q1 c1 101 4 (Za8 9) (mkL ZbT mkI k x.items)):=by
 refine cB 10 Tryz.func38 (h:=?_)
 refine Za (xBx [_,_] (h:=fun b1=>xA (h:=tL2 (Za (xW ZbD (h:=x1 Zia 1 (h:=xM (h:=xK [0] rfl ZyJ rfl (Zlj _ _ x.items _ k oa oz _ hv) (h:=?_)))))))))
 rintro _ B2 _ hle2 ⟨rfl,l2,rfl,rfl,hs2⟩
 refine xA (h:=tL2 (Za (xM (h:=xA (h:=Zd ?_)))))
 exact eN [0] rfl t1 ⟨rfl,_,rfl,rfl,hs2⟩

theorem Zh8 (q1 q2 q3:Option Addr) (c1 c2 c3:Nat) (x:DHost) (l1 l2 l3:Cells) (k:Nat) (hk:kH k x≤800000000000000) (hn1:x.users.length≤2000000) (hn2:x.folders.length≤2000000) (hn3:x.queue.items.length≤2000000) (B:Kn) (hu:ZP Kn.none l1 q1 c1 97 3 Zr x.users) (hf:ZaV l2 q2 c2 61 5 (Z1 109 164) x.folders) (hi:ZaV l3 q3 c3 101 4 (Za8 9) x.queue.items):Zv (pj J) 10 [.agg #[str x.domain,.slice q1 x.users.length c1,.slice q2 x.folders.length c2,.int .i64 x.queue.next,.slice q3 x.queue.items.length c3],.int .i64 k] B [l1,l2,l3] (fun v B' Ls=>B'=B∧∃l1' l2' l3',Ls=[l1',l2',l3']∧v = .int .i64 ((kH k x:Nat):Int)∧ZP Kn.none l1' q1 c1 97 3 Zr (Zch k x.users.length)∧ZaV l2' q2 c2 61 5 (Z1 109 164) (mkL Zbx mkF (k+3*x.users.length) x.folders)∧ZaV l3' q3 c3 101 4 (Za8 9) (mkL ZbT mkI (kL Zbx (k+3*x.users.length) x.folders) x.queue.items)):=by
 refine cB 18 Tryz.func10 (h:=?_)
 have hk3:kL ZbT (kL Zbx (k+3*x.users.length) x.folders) x.queue.items≤800000000000000:=hk
 have hk2:(kL Zbx (k+3*x.users.length) x.folders)≤800000000000000:=Nat.le_trans Zrf hk3
 have hk1:(k+3*x.users.length)≤800000000000000:=Nat.le_trans Zrf hk2
 refine Za (xBx [_,_,_,_,_] (h:=fun b1=>xA (h:=tL4 (Za (xW ZbC (h:=x1 Zib 3 (h:=xM (h:=xK [0] rfl Zzc rfl (Zlg _ _ x.users _ k oz oz _ (hu.anyK Zr.any)) (h:=?_)))))))))
 rintro _ B2 _ hle2 ⟨rfl,l2,rfl,rfl,hs2⟩
 refine xA (h:=tL4 (Za (xW Zal (h:=x1 Zec 3 (h:=xM (h:=xK [1] rfl Zzb rfl (ZiT _ _ x.folders _ (k+3*x.users.length) oa oz _ hf) (h:=?_)))))))
 rintro _ B3 _ hle3 ⟨rfl,l3,rfl,rfl,hs3⟩
 refine xA (h:=tL4 (Za (xW Zee (h:=xL [_,_] ZkL 3 (h:=xM (h:=xK [2] rfl Zza rfl (Zlh _ _ x.queue _ (kL Zbx (k+3*x.users.length) x.folders) oa oz _ hi) (h:=?_)))))))
 rintro _ B4 _ hle4 ⟨rfl,l4a,rfl,rfl,hs4a⟩
 refine xA (h:=tL4 (Za (xM (h:=xA (h:=Zd ?_)))))
 exact eN [0,1,2] rfl t1 ⟨rfl,_,_,_,rfl,rfl,hs2.anyK Zr.any,hs3,hs4a⟩

theorem Zi3 (q:Option Addr) (cp:Nat) (xs:List DFolder) (k m:Nat) (hmn:m=xs.length) (hk:kL Zbx k xs≤800000000000000) (B:Kn) (hx0:SlK B q cp 5 Zs (mkL Zbx mkF k xs)):Z6 (pj J) 40 [.slice q m cp,.int .i64 k] B (.int .i64 ((kL Zbx k xs:Nat):Int)):=by
 refine cB 62 Tryz.func40 (h:=?_)
 have hxn:=hx0.len
 have hml:=ZdZ (st:=Zbx) (mk:=mkF) (xs:=xs) k
 refine Za (xA (h:=Zc (Za (xA (h:=Zi (Zw (α:=Nat × Nat) [0] (fun g=>[(1,.int .i64 g.2),(5,.int .i64 g.1)]) [] (fun g=>[]) (fun g Bx=>Bx=B∧g.1≤xs.length∧g.2=kL Zbx k (xs.take g.1)) (fun g=>xs.length - g.1) (0,k) t2 rfl (⟨rfl,Nat.zero_le _,Zmu.symm⟩) (fun g B1 hle1 hI=>?_)))))))
 obtain ⟨rfl,hi,hs⟩:=hI
 refine ZB [(0,_),(1,_),(5,_)] [] t3 rfl (Zc (Za (xM (h:=xM (h:=xV Tryz.underlying31 (h:=ZE (h:=Zb rfl (fun g1=>?_) (fun g1=>?_))))))))
 try simp only [sQ,ne_eq] at g1
 obtain ⟨x,hx⟩:=ZU (xs:=xs) (i:=g.1) oz
 have hkl:=Nat.le_trans (Zrg (st:=Zbx) (k:=k) hx) hk
 rw [← hs] at hkl
 have hst:Zbx x=3+2*x.grants.length+3*x.mail.length:=rfl
 have hz:(mkL Zbx mkF k xs)[g.1]? = some (mkF g.2 x):=by rw [hs];exact Zld k hx
 refine wSk (Zc (Zi (Zc (Zc (Z2 (same _ _) mo kr ⟨rfl,rfl⟩ (fun _ _=>?_))))))
 refine aM 0 rfl (h:=aM 1 rfl (h:=?_))
 obtain ⟨bb2,oo2,rfl⟩:=hx0.base hz
 obtain ⟨_,⟨qg3,cg3,qm3,cm3,rfl,hg3,hm3,hb3,hb3b⟩,hc3⟩:=hx0.elem hz
 have hg3n:=hg3.len
 have hm3n:=hm3.len
 have hm3s:=Zad hm3
 refine aIx 2 rfl Tryz.underlying31 Zbw (h:=aW 3 rfl Zb5 (h:=aT 4 rfl (Zag fun D=>Zn rfl rfl lk9 rfl (hc3 _ 0 _ rfl) r4) (h:=aM 5 rfl (h:=aT 6 rfl (Zag fun D=>Zaf rfl rfl Zjr rfl (Zab g.2 oz _) r4) (h:=?_)))))
 refine Zfa 7 rfl (h:=Zx kr kr ?_)
 refine Zo (Zb rfl (fun h1=>by simp [mkF] at h1) (fun h1=>?_))
 try simp only [sQ,ne_eq] at h1
 refine wSk (Za (xM (h:=xD (h:=xA (h:=Zc (Zc (Z2 (same _ _) mo kr ⟨rfl,rfl⟩ (fun _ _=>?_))))))))
 refine aM 0 rfl (h:=aM 1 rfl (h:=aIx 2 rfl Tryz.underlying31 Zbw (h:=aW 3 rfl ZdI (h:=aT 4 rfl (Zag fun D=>Zn rfl rfl lk9 rfl (hc3 _ 1 _ rfl) r4) (h:=aM 5 rfl (h:=aT 6 rfl (Zag fun D=>Zaf rfl rfl Zjr rfl (Zab (g.2+1) oz _) r4) (h:=?_)))))))
 refine Zfa 7 rfl (h:=Zx kr kr ?_)
 refine Zo (Zb rfl (fun h2=>by simp [mkF] at h2) (fun h2=>?_))
 try simp only [sQ,ne_eq] at h2
 refine wSk (Za (xM (h:=xD (h:=xA (h:=Za (xM (h:=xM (h:=xIx Tryz.underlying31 Zbw (h:=xW ZbB (h:=y1 Zms hc3 2 (h:=xM (h:=xR ZyI rfl (Zkj _ _ _ ((g.2+1)+1) _ x.grants.length (by first | rfl | exact Zao _ _) rfl oz _ hg3) (h:=?_)))))))))))))
 refine xA (h:=Zc (Za (xM (h:=ZE (h:=Zb rfl (fun h3=>by first | omega | (simp at h3;done) | (simp at h3;omega)) (fun h3=>?_))))))
 try simp only [sQ,ne_eq] at h3
 refine wSk (Zc (Za (xM (h:=xM (h:=xIx Tryz.underlying31 Zbw (h:=xW Zda (h:=xW ZfV (h:=y1 lk3 hc3 3 (h:=xM (h:=ZaO (h:=Zb rfl (fun h4=>by simp [mkF] at h4) (fun h4=>?_))))))))))))
 try simp only [sQ,ne_eq] at h4
 refine wSk (Za (xM (h:=xD (h:=xA (h:=Za (xM (h:=xM (h:=xIx Tryz.underlying31 Zbw (h:=xW Zda (h:=xW Zcc (h:=y1 ZkK hc3 4 (h:=xM (h:=xR ZyH rfl (Zlx _ _ _ ((((g.2+1)+1)+2*x.grants.length)+1) _ x.mail.length (by first | rfl | exact Zaz _ _) rfl oz _ hm3) (h:=?_))))))))))))))
 refine xA (h:=Za (xM (h:=ZE (h:=Zb rfl (fun h5=>by first | omega | (simp at h5;done) | (simp at h5;omega)) (fun h5=>?_)))))
 try simp only [sQ,ne_eq] at h5
 refine ZT (ZM (Zo (Zf (xM (h:=xD (h:=xA (h:=?_)))))))
 exact ZA (g.1+1,g.2+1+1+2*x.grants.length+1+3*x.mail.length) [] so2 ⟨rfl,so,by simp only [];rw [Zhj hx,← hs,hst];omega⟩ t3 rfl
 try simp only [sQ,ne_eq] at g1
 refine ZC (ZV (ZG (Zu (Zo (Za (xM (h:=xA (h:=Zd ?_))))))))
 exact eR t1 ⟨ZF (by rw [hs,Zmv oz]),rfl,rfl⟩

theorem Zly (q:Option Addr) (cp:Nat) (xs:List DItem) (k m:Nat) (hmn:m=xs.length) (hk:kL ZbT k xs≤800000000000000) (B:Kn) (hx0:SlK B q cp 4 ZK (mkL ZbT mkI k xs)):Z6 (pj J) 83 [.slice q m cp,.int .i64 k] B (.int .i64 ((kL ZbT k xs:Nat):Int)):=by
 refine cB 51 Tryz.func83 (h:=?_)
 have hxn:=hx0.len
 have hml:=ZdZ (st:=ZbT) (mk:=mkI) (xs:=xs) k
 refine Za (xA (h:=Zc (Za (xA (h:=Zi (Zw (α:=Nat × Nat) [0] (fun g=>[(1,.int .i64 g.2),(5,.int .i64 g.1)]) [] (fun g=>[]) (fun g Bx=>Bx=B∧g.1≤xs.length∧g.2=kL ZbT k (xs.take g.1)) (fun g=>xs.length - g.1) (0,k) t2 rfl (⟨rfl,Nat.zero_le _,Zmu.symm⟩) (fun g B1 hle1 hI=>?_)))))))
 obtain ⟨rfl,hi,hs⟩:=hI
 refine ZB [(0,_),(1,_),(5,_)] [] t3 rfl (Zc (Za (xM (h:=xM (h:=xV Tryz.underlying32 (h:=ZE (h:=Zb rfl (fun g1=>?_) (fun g1=>?_))))))))
 try simp only [sQ,ne_eq] at g1
 obtain ⟨x,hx⟩:=ZU (xs:=xs) (i:=g.1) oz
 have hkl:=Nat.le_trans (Zrg (st:=ZbT) (k:=k) hx) hk
 rw [← hs] at hkl
 have hst:ZbT x=3+x.left.length:=rfl
 have hz:(mkL ZbT mkI k xs)[g.1]? = some (mkI g.2 x):=by rw [hs];exact Zld k hx
 refine wSk (Zc (Zi (Zc (Za (xM (h:=xM (h:=?_)))))))
 obtain ⟨bb2,oo2,rfl⟩:=hx0.base hz
 obtain ⟨_,⟨qi3,ci3,rfl,hi3,hb3,hb3b⟩,hc3⟩:=hx0.elem hz
 have hi3n:=hi3.len
 refine xIx Tryz.underlying32 Zbl (h:=xW Zd6 (h:=y1 lk3 hc3 0 (h:=xM (h:=ZaO (h:=Zb rfl (fun h1=>by simp [mkI] at h1) (fun h1=>?_))))))
 try simp only [sQ,ne_eq] at h1
 refine wSk (Za (xM (h:=xD (h:=xA (h:=Zc (Zc (Z2 (same _ _) mo kr ⟨rfl,rfl⟩ (fun _ _=>?_))))))))
 refine aM 0 rfl (h:=aM 1 rfl (h:=aIx 2 rfl Tryz.underlying32 Zbl (h:=aW 3 rfl Zd5 (h:=aT 4 rfl (Zag fun D=>Zn rfl rfl lk9 rfl (hc3 _ 1 _ rfl) r4) (h:=aM 5 rfl (h:=aT 6 rfl (Zag fun D=>Zaf rfl rfl Zjr rfl (Zab (g.2+1) oz _) r4) (h:=?_)))))))
 refine Zfa 7 rfl (h:=Zx kr kr ?_)
 refine Zo (Zb rfl (fun h2=>by simp [mkI] at h2) (fun h2=>?_))
 try simp only [sQ,ne_eq] at h2
 refine wSk (Za (xM (h:=xD (h:=xA (h:=Zc (Zc (Z2 (same _ _) mo kr ⟨rfl,rfl⟩ (fun _ _=>?_))))))))
 refine aM 0 rfl (h:=aM 1 rfl (h:=aIx 2 rfl Tryz.underlying32 Zbl (h:=aW 3 rfl Zft (h:=aT 4 rfl (Zag fun D=>Zn rfl rfl lk9 rfl (hc3 _ 2 _ rfl) r4) (h:=aM 5 rfl (h:=aT 6 rfl (Zag fun D=>Zaf rfl rfl Zjr rfl (Zab ((g.2+1)+1) oz _) r4) (h:=?_)))))))
 refine Zfa 7 rfl (h:=Zx kr kr ?_)
 refine Zo (Zb rfl (fun h3=>by simp [mkI] at h3) (fun h3=>?_))
 try simp only [sQ,ne_eq] at h3
 refine wSk (Za (xM (h:=xD (h:=xA (h:=Za (xM (h:=xM (h:=xIx Tryz.underlying32 Zbl (h:=xW Zci (h:=y1 Zj7 hc3 3 (h:=xM (h:=xR Zxk rfl (Znr _ _ _ (((g.2+1)+1)+1) _ x.left.length (by first | rfl | exact Za5 _ _) rfl oz _ hi3) (h:=?_)))))))))))))
 refine xA (h:=Za (xM (h:=ZE (h:=Zb rfl (fun h4=>by first | omega | (simp at h4;done) | (simp at h4;omega)) (fun h4=>?_)))))
 try simp only [sQ,ne_eq] at h4
 refine ZT (ZM (Zo (Zf (xM (h:=xD (h:=xA (h:=?_)))))))
 exact ZA (g.1+1,g.2+1+1+1+1*x.left.length) [] so2 ⟨rfl,so,by simp only [];rw [Zhj hx,← hs,hst];omega⟩ t3 rfl
 try simp only [sQ,ne_eq] at g1
 refine ZC (ZV (ZG (Zu (Zo (Za (xM (h:=xA (h:=Zd ?_))))))))
 exact eR t1 ⟨ZF (by rw [hs,Zmv oz]),rfl,rfl⟩

theorem Zlw (q:Option Addr) (cp:Nat) (x:DQueue) (k:Nat) (hk:kL ZbT k x.items≤800000000000000) (B:Kn) (hi:SlK B q cp 4 ZK (mkL ZbT mkI k x.items)):Z6 (pj J) 41 [.agg #[.int .i64 x.next,.slice q x.items.length cp],.int .i64 k] B (.int .i64 ((kL ZbT k x.items:Nat):Int)):=by
 refine cB 12 Tryz.func41 (h:=?_)
 refine Za (xBx [_,_] (h:=fun b1=>xA (h:=tL1 (Za (xW ZbD (h:=x1 Zia 0 (h:=xM (h:=xR ZyG rfl (Zly _ _ x.items k _ rfl oa _ hi) (h:=?_)))))))))
 refine xA (h:=Zc (Za (xM (h:=ZE (h:=Zb rfl (fun h1=>by first | omega | (simp at h1;done) | (simp at h1;omega)) (fun h1=>?_))))))
 refine wSk (Za (xM (h:=xA (h:=Zd ?_))))
 exact eR t1 ⟨rfl,rfl,rfl⟩

theorem Zie (q1 q2 q3:Option Addr) (c1 c2 c3:Nat) (x:DHost) (k:Nat) (hk:kH k x≤800000000000000) (B:Kn) (hu:SlK B q1 c1 3 Zr (Zch k x.users.length)) (hf:SlK B q2 c2 5 Zs (mkL Zbx mkF (k+3*x.users.length) x.folders)) (hi:SlK B q3 c3 4 ZK (mkL ZbT mkI (kL Zbx (k+3*x.users.length) x.folders) x.queue.items)):Z6 (pj J) 11 [.agg #[str x.domain,.slice q1 x.users.length c1,.slice q2 x.folders.length c2,.int .i64 x.queue.next,.slice q3 x.queue.items.length c3],.int .i64 k] B (.int .i64 ((kH k x:Nat):Int)):=by
 refine cB 24 Tryz.func11 (h:=?_)
 have hk3:kL ZbT (kL Zbx (k+3*x.users.length) x.folders) x.queue.items≤800000000000000:=hk
 have hk2:(kL Zbx (k+3*x.users.length) x.folders)≤800000000000000:=Nat.le_trans Zrf hk3
 have hk1:(k+3*x.users.length)≤800000000000000:=Nat.le_trans Zrf hk2
 refine Za (xBx [_,_,_,_,_] (h:=fun b1=>xA (h:=tL1 (Za (xW ZbC (h:=x1 Zib 0 (h:=xM (h:=xR Zy9 rfl (Zlv _ _ _ k _ x.users.length (by first | rfl | exact Zbf _ _) rfl oz _ hu) (h:=?_)))))))))
 refine xA (h:=Zc (Za (xM (h:=ZE (h:=Zb rfl (fun h1=>by first | omega | (simp at h1;done) | (simp at h1;omega)) (fun h1=>?_))))))
 refine wSk (Za (xW Zal (h:=x1 Zec 0 (h:=xM (h:=xR Zy8 rfl (Zi3 _ _ x.folders (k+3*x.users.length) _ rfl oa _ hf) (h:=?_))))))
 refine xA (h:=Zc (Za (xM (h:=ZE (h:=Zb rfl (fun h2=>by first | omega | (simp at h2;done) | (simp at h2;omega)) (fun h2=>?_))))))
 refine wSk (Za (xW Zee (h:=xL [_,_] ZkL 0 (h:=xM (h:=xR Zy7 rfl (Zlw _ _ x.queue (kL Zbx (k+3*x.users.length) x.folders) oa _ hi) (h:=?_))))))
 refine xA (h:=Zc (Za (xM (h:=ZE (h:=Zb rfl (fun h3=>by first | omega | (simp at h3;done) | (simp at h3;omega)) (fun h3=>?_))))))
 refine wSk (Za (xM (h:=xA (h:=Zd ?_))))
 exact eR t1 ⟨rfl,rfl,rfl⟩

theorem Zu8 (v:Value) (Q:Value→Kn→Cells→Prop) (B:Kn) (L:Cells):hb Tryz.prog (Extern.ReflectliteType.typeOf #[.iface 288 v]) Q B L=Q (.iface 238 (.agg #[.pointer (some ⟨5,288,none⟩)])) B L:=by kernel_rfl

theorem Zu9 (v:Value) (k:Nat) (Q:FuncId × Value→Kn→Cells→Prop) (B:Kn) (L:Cells):hb Tryz.prog (Go.method (k+1) 238 v "Comparable") Q B L=Q (249,v) B L:=by kernel_rfl

theorem Zva (Q:Value→Kn→Cells→Prop) (B:Kn) (L:Cells):hb Tryz.prog ((Extern.ReflectliteType.method fun t=>do Extern.Rtype.noPackHeld "Comparable" t;pure (.bool (← typeInfo t).comparable)) #[(.agg #[.pointer (some ⟨5,288,none⟩)])]) Q B L=Q (.bool true) B L:=by kernel_rfl

theorem ZtL:Extern.find Tryz.f249=some (Extern.ReflectliteType.method fun t=>do Extern.Rtype.noPackHeld "Comparable" t;pure (.bool (← typeInfo t).comparable)):=by kernel_rfl
theorem ZtK:Extern.find Tryz.f149=some Extern.ReflectliteType.typeOf:=by kernel_rfl

theorem Zwd:Extern.findNext Tryz.f149=none:=by kernel_rfl
theorem Zwe:Extern.findNext Tryz.f249=none:=by kernel_rfl

theorem ZtI (c k:Nat) (hc:c<4) (hk:k<4) (a:Nat→Addr)  (B:Kn) (hE:ErrsB 288 [0,2,3,1] B a):Z6 (pj J) 150 [errv 288 a (c+1),errv 288 a (k+1),.bool true] B (.bool (decide (c+1=k+1))):=by
 refine cB 54 Tryz.func150 (h:=?_)
 refine Za (xA (h:=Zi (Zw (α:=Unit) [1,2] (fun u=>[(0,errv 288 a (c+1))]) [] (fun u=>[]) (fun u Bx=>Bx=B) (fun u=>0) () t1 rfl (rfl) (fun u B1 hle1 hI=>?_))))
 subst hI
 refine ZB [(0,_),(1,_),(2,_)] [] t3 rfl (Zi (Zc (Za (xM (h:=xM (h:=Zt (d:=15) rfl (fun g1=>?_) (fun g1=>by cases g1)))))))
 try simp only [sQ,ne_eq] at g1
 refine xM (h:=xM (h:=Zk (Zn9 (a:=a) (c:=(c+1)) (k:=k) hE oz oz rfl rfl Tryz.underlying68 Tryz.underlying288 Zye Zuz rfl rfl ?_)))
 refine xT (h:=Zb rfl (fun g2=>?_) (fun g2=>?_))
 try simp only [sQ,ne_eq] at g2
 refine Za (xA (h:=Zd (Zl (Zy (ZO (Zy ?_))))))
 exact eR t1 ⟨Ze (decide_eq_true g2).symm,rfl,rfl⟩
 try simp only [sQ,ne_eq] at g2
 refine wSk (Zc (Za (xM (h:=Zk (Zg2 rfl rfl Tryz.underlying240 kr ZvF rfl ?_)))))
 refine xM (h:=xE (h:=xE (h:=xA (h:=xA (h:=Za (xM (h:=xM (h:=Zt (d:=26) rfl (fun g3=>by cases g3) (fun g3=>?_)))))))))
 try simp only [sQ,ne_eq] at g3
 refine xP (h:=xP (h:=xP (h:=xF (h:=Zb (t:=false) rfl (fun h=>Bool.noConfusion h) (fun _=>wSk (Za (xM (h:=Zi (Za (Zk (Zg2 rfl rfl Tryz.underlying243 kr ZvE rfl ?_)))))))))))
 refine xE (h:=xE (h:=Zb rfl (fun g5=>by cases g5) (fun g5=>?_)))
 try simp only [sQ,ne_eq] at g5
 refine Za (Zk (Zg2 rfl rfl Tryz.underlying245 kr ZvD rfl ?_))
 refine xE (h:=xE (h:=Zb rfl (fun g6=>by cases g6) (fun g6=>?_)))
 try simp only [sQ,ne_eq] at g6
 refine Za (xA (h:=Za (xA (h:=Zd (Zy (Zy (ZO (Zy ?_))))))))
 exact eR t1 ⟨Ze (decide_eq_false g2).symm,rfl,rfl⟩

theorem ZtH (c k:Nat) (hc:c<4) (hk:k<4) (a:Nat→Addr)  (B:Kn) (hE:ErrsB 288 [0,2,3,1] B a):Z6 (pj J) 111 [errv 288 a (c+1),errv 288 a (k+1)] B (.bool (decide (c+1=k+1))):=by
 refine cB 22 Tryz.func111 (h:=?_)
 refine Za (xA (h:=Zc (Za (xM (h:=Zk (Zl0 (tE:=288) (a:=a) (c:=(c+1)) rfl rfl Tryz.underlying68 rfl (xM (h:=Zt (d:=8) rfl (fun g1=>by simp at g1) (fun g1=>?_)))))))))
 refine xM (h:=Zk (Zl0 (tE:=288) (a:=a) (c:=(k+1)) rfl rfl Tryz.underlying68 rfl (xF (h:=Zb rfl (fun g2=>by simp at g2) (fun g2=>?_)))))
 refine wSk (Za (xM (h:=Zk (Zup (fn:=Tryz.f149) rfl rfl Tryz.func149 rfl rfl Zwd ZtK rfl (Zu8 _) (Zk (Zum (f:=249) (fn:=Tryz.f249) rfl rfl Tryz.func249 rfl rfl Zwe ZtL rfl (Zu9 _) Zva (xA (h:=Za (xM (h:=xM (h:=xM (h:=xR ZwX rfl (ZtI c k oz oz a _ hE) (h:=?_)))))))))))))
 refine xA (h:=Zd ?_)
 exact eR t1 ⟨rfl,rfl,rfl⟩

theorem ZtJ (k:Nat) (hk:k<4) (a:Nat→Addr)  (B:Kn) (hE:ErrsB 288 [0,2,3,1] B a):Z6 (pj J) 111 [.nilIface,errv 288 a (k+1)] B (.bool (decide (0=k+1))):=by
 refine cB 22 Tryz.func111 (h:=?_)
 refine Za (xA (h:=Zc (Za (xM (h:=Zk (Zl0 (tE:=288) (a:=a) (c:=0) rfl rfl Tryz.underlying68 rfl (xM (h:=Zt (d:=8) rfl (fun g1=>?_) (fun g1=>by simp at g1)))))))))
 refine xP (h:=xP (h:=xT (h:=Zb (t:=true) rfl (fun _=>Za (xM (h:=xM (h:=Zk (Zn9 (a:=a) (c:=0) (k:=k) hE oz oz rfl rfl Tryz.underlying68 Tryz.underlying288 Zye Zuz rfl rfl ?_))))) (fun h=>Bool.noConfusion h))))
 refine xA (h:=Zd (Zl ?_))
 exact eR t1 ⟨rfl,rfl,rfl⟩

theorem ZmE (c k:Nat) (hc:c<5) (hk:k<4) (a:Nat→Addr)  (B:Kn) (hE:ErrsB 288 [0,2,3,1] B a):Z6 (pj J) 111 [errv 288 a c,errv 288 a (k+1)] B (.bool (decide (c=k+1))):=by
 cases c with
 | zero=>exact ZtJ k hk a B hE
 | succ c=>exact ZtH c k oz hk a B hE

theorem Znq (c:Nat) (hc:c<5) (a:Nat→Addr)  (B:Kn) (hE:ErrsB 288 [0,2,3,1] B a):Z6 (pj J) 69 [errv 288 a (c)] B (.int .i64 c):=by
 refine cB 22 Tryz.func69 (h:=?_)
 refine Za (xA (h:=Zc (Zi (Za (xM (h:=Zk (Zl0 (tE:=288) (a:=a) (c:=c) rfl rfl Tryz.underlying68 rfl (xA (h:=Zb rfl (fun g0=>?_) (fun g0=>?_))))))))))
 try simp only [sQ,ne_eq] at g0
 refine Za (xA (h:=Zd (Zy (Zl ?_))))
 exact eR t1 ⟨ZF oz,rfl,rfl⟩
 try simp only [sQ,ne_eq] at g0
 refine Za (xM (h:=Zk (Zn rfl rfl Zql rfl ((hE.row 0 (by decide)) _ 0 _ rfl) ?_)))
 refine xR ZrF rfl (ZmE c 0 om2 om2 a _ hE) (h:=?_)
 refine xA (h:=Zb rfl (fun g1=>?_) (fun g1=>?_))
 try simp only [sQ,ne_eq] at g1
 refine Za (xA (h:=Zd (Zy (Zl ?_))))
 exact eR t1 ⟨ZF oz,rfl,rfl⟩
 try simp only [sQ,ne_eq] at g1
 refine Za (xM (h:=Zk (Zn rfl rfl Zql rfl ((hE.row 1 (by decide)) _ 0 _ rfl) ?_)))
 refine xR ZrF rfl (ZmE c 1 om2 om2 a _ hE) (h:=?_)
 refine xA (h:=Zb rfl (fun g2=>?_) (fun g2=>?_))
 try simp only [sQ,ne_eq] at g2
 refine Za (xA (h:=Zd (Zy (Zl ?_))))
 exact eR t1 ⟨ZF oz,rfl,rfl⟩
 try simp only [sQ,ne_eq] at g2
 refine Za (xM (h:=Zk (Zn rfl rfl Zql rfl ((hE.row 2 (by decide)) _ 0 _ rfl) ?_)))
 refine xR ZrF rfl (ZmE c 2 om2 om2 a _ hE) (h:=?_)
 refine xA (h:=Zb rfl (fun g3=>?_) (fun g3=>?_))
 try simp only [sQ,ne_eq] at g3
 refine Za (xA (h:=Zd (Zy (Zl ?_))))
 exact eR t1 ⟨ZF oz,rfl,rfl⟩
 try simp only [sQ,ne_eq] at g3
 refine Za (xM (h:=Zk (Zn rfl rfl Zql rfl ((hE.row 3 (by decide)) _ 0 _ rfl) ?_)))
 refine xR ZrF rfl (ZmE c 3 om2 om2 a _ hE) (h:=?_)
 refine xA (h:=Zb rfl (fun g4=>?_) (fun g4=>?_))
 try simp only [sQ,ne_eq] at g4
 refine Za (xA (h:=Zd (Zy (Zl ?_))))
 exact eR t1 ⟨ZF oz,rfl,rfl⟩
 try simp only [sQ,ne_eq] at g4
 refine ZT (ZM (Zo (Za (xA (h:=Zd ?_)))))
 exact eR t1 ⟨ZF oz,rfl,rfl⟩

theorem ZtV (b o:Nat) (q1 q2 q3:Option Addr) (c1 c2 c3:Nat) (x:DHost) (u ow nm:Str) (rr:Int) (hn:u.length≤2000000) (ho:ow.length≤2000000) (hm:nm.length≤2000000) (a:Nat→Addr)  (B:Kn) (hE:ErrsB 288 [0,2,3,1] B a) (hh:Zae B b o [str x.domain,.slice q1 x.users.length c1,.slice q2 x.folders.length c2,.int .i64 x.queue.next,.slice q3 x.queue.items.length c3]) (hu:SlK B q1 c1 3 Zr x.users) (hf:SlK B q2 c2 5 Zs x.folders):Z6 (pj J) 30 [ptr ⟨b,o,none⟩,str u,str ow,str nm,.int .i64 rr] B (.tuple #[.int .i64 (if ZfZ x.users x.folders u ow nm rr=0 then Zb8 (inF ow nm) x.folders else -1),errv 288 a (ZfZ x.users x.folders u ow nm rr)]):=by
 refine cB 47 Tryz.func30 (h:=?_)
 have hfn:=hf.len
 have hix:=Zhm (inF ow nm) x.folders
 refine Za (xA (h:=xA (h:=Za (xM (h:=xM (h:=xM (h:=xR Zx7 rfl (Zsx _ _ _ _ _ _ _ _ x ow nm om2 om2 _ hh hf) (h:=?_))))))))
 refine xA (h:=Zc (Za (xM (h:=ZE (h:=xM (h:=Zt (d:=19) rfl (fun g1=>?_) (fun g1=>?_)))))))
 try simp only [sQ,ne_eq] at g1
 refine xP (h:=xP (h:=xP (h:=xP (h:=xP (h:=xP (h:=xP (h:=xP (h:=xP (h:=xP (h:=xP (h:=xT (h:=Zb (t:=true) rfl (fun _=>Zc (Z2 (same _ _) mo kr ⟨rfl,rfl⟩ (fun _ _=>?_))) (fun h=>Bool.noConfusion h)))))))))))))
 refine aT 0 rfl (Zag fun D=>Zn rfl rfl Zql rfl ((hE.row 0 (by decide)) _ 0 _ rfl) r4) (h:=?_)
 refine aA 1 rfl (h:=aA 2 rfl (h:=Zx kr kr ?_))
 refine Zo (Zd (Zl ?_))
 exact ZrD .ret (.inl rfl) [_,_] t2 ⟨(by rw [show ZfZ x.users x.folders u ow nm rr=1 from Zp0 (by simpa using g1)];rfl),rfl,rfl⟩
 try simp only [sQ,ne_eq] at g1
 refine xM (h:=xM (h:=xM (h:=xNc (h:=xW Zal (h:=Zk (Zn rfl rfl Zec rfl (hh _ 2 _ rfl) (xM (h:=?_))))))))
 obtain ⟨w,hw⟩:=Zsk (xs:=x.folders) (i:=(Zb8 (inF ow nm) x.folders)) om om
 obtain ⟨bb3,oo3,rfl⟩:=hf.base hw
 obtain ⟨_,⟨qg4,cg4,qm4,cm4,rfl,hg4,hm4,hb4,hb4b⟩,hc4⟩:=hf.elem hw
 have hg4n:=hg4.len
 have hm4n:=hm4.len
 have hm4s:=Zad hm4
 refine xIx Tryz.underlying31 Zbw (h:=yL [_,_,_,_,_] ZhQ hc4 0 (h:=xR Zx5 rfl (ZuO _ _ _ _ _ _ _ _ x _ _ _ _ u w _ om2 om2 _ hh hu hg4) (h:=?_)))
 refine xN (h:=xF (h:=Zb rfl (fun g3=>?_) (fun g3=>?_)))
 try simp only [sQ,ne_eq] at g3
 refine Zc (Z2 (same _ _) mo kr ⟨rfl,rfl⟩ (fun _ _=>?_))
 refine aT 0 rfl (Zag fun D=>Zn rfl rfl Zql rfl ((hE.row 0 (by decide)) _ 0 _ rfl) r4) (h:=?_)
 refine aA 1 rfl (h:=aA 2 rfl (h:=Zx kr kr ?_))
 refine Zo (Zd (Zl ?_))
 exact ZrD .ret (.inl rfl) [_,_] t2 ⟨(by rw [show ZfZ x.users x.folders u ow nm rr=1 from by rw [Zjh oz hw,if_pos (by simpa using g3)]];rfl),rfl,rfl⟩
 try simp only [sQ,ne_eq] at g3
 refine wSk (Zc (Za (xM (h:=xM (h:=xM (h:=xNc (h:=xW Zal (h:=Zk (Zn rfl rfl Zec rfl (hh _ 2 _ rfl) (xM (h:=xIx Tryz.underlying31 Zbw (h:=yL [_,_,_,_,_] ZhQ hc4 0 (h:=xM (h:=xR Zx5 rfl (ZuO _ _ _ _ _ _ _ _ x _ _ _ _ u w _ om2 om2 _ hh hu hg4) (h:=?_)))))))))))))))
 refine xN (h:=Zb rfl (fun g4=>?_) (fun g4=>?_))
 try simp only [sQ,ne_eq] at g4
 refine Zc (Z2 (same _ _) mo kr ⟨rfl,rfl⟩ (fun _ _=>?_))
 refine aT 0 rfl (Zag fun D=>Zn rfl rfl Zql rfl ((hE.row 1 (by decide)) _ 0 _ rfl) r4) (h:=?_)
 refine aA 1 rfl (h:=aA 2 rfl (h:=Zx kr kr ?_))
 refine Zo (Zd (Zl ?_))
 exact ZrD .ret (.inl rfl) [_,_] t2 ⟨(by rw [show ZfZ x.users x.folders u ow nm rr=2 from by rw [Zjh oz hw,if_neg (by simp [g3]),if_pos (by simpa using g4)]];rfl),rfl,rfl⟩
 try simp only [sQ,ne_eq] at g4
 refine wSk (Za (xM (h:=xA (h:=xA (h:=Zd ?_)))))
 exact ZrD .ret (.inl rfl) [_,_] t2 ⟨(by rw [show ZfZ x.users x.folders u ow nm rr=0 from by rw [Zjh oz hw,if_neg (by simp [g3]),if_neg (by simp [g4])]];rfl),rfl,rfl⟩

theorem Zhu (q:Option Addr) (cp:Nat) (xs:List DFolder) (B:Kn) (hx:SlK B q cp 5 Zs xs):Zv (pj J) 109 [.slice q xs.length cp] B [] (fun v B' Ls=>B'=B∧∃l a c,Ls=[l]∧v = .slice a xs.length c∧ZaV l a c 61 5 (Z1 109 164) xs):=by
 refine cB 22 Tryz.func109 (h:=?_)
 have hxn:=hx.len
 refine Za (xA (h:=Za (xM (h:=xV Tryz.underlying31 (h:=Zk (ZaX (m:=0) (c:=xs.length) (by_:=88) [.string ⟨#[]⟩,.string ⟨#[]⟩,.slice none 0 0,.int .i64 0,.slice none 0 0] rfl rfl Zvz Zf5 rfl rfl ⟨_,_,rfl,by first | omega | (simp;done) | (simp;omega)⟩ ⟨_,_,rfl,by first | omega | (simp;done) | (simp;omega)⟩ om om (fun b1=>?_)))))))
 have hd1:=ZaV.zeros (b:=b1) (T:=61) (R:=(Z1 109 164)) (d:=(⟨[],[],[],0,[]⟩:DFolder)) (m:=0) (c:=xs.length) (zs:=[.string ⟨#[]⟩,.string ⟨#[]⟩,.slice none 0 0,.int .i64 0,.slice none 0 0]) rfl (⟨_,_,_,_,[],[],rfl,rfl,ZP.nil,ZP.nil,by simp,by simp,by simp,by simp⟩) om
 refine xA (h:=tL1 (Zc (Za (xM (h:=xV Tryz.underlying31 (h:=xM (h:=Zi (Zw (α:=Gh DFolder) [0,2,9,10] (fun g=>[(3,.slice g.a g.xs.length g.c),(11,.int .i64 g.k)]) [0] (fun g=>[g.l]) (fun g Bx=>Bx=B∧g.k≤xs.length∧g.xs=xs.take g.k∧g.xs.length≤g.k∧ZaV g.l g.a g.c 61 5 (Z1 109 164) g.xs) (fun g=>xs.length - g.k) ⟨0,0,(Zar b1 (zrow [.string ⟨#[]⟩,.string ⟨#[]⟩,.slice none 0 0,.int .i64 0,.slice none 0 0] xs.length) 61),(some ⟨b1,0,none⟩),xs.length,[]⟩ t2 rfl (⟨rfl,Nat.zero_le _,by simp,Nat.le_refl _,hd1⟩) (fun g B2 hle2 hI=>?_)))))))))
 obtain ⟨rfl,hk,hxs,hxl,hv⟩:=hI
 refine ZB [(0,_),(2,_),(3,_),(9,_),(10,_),(11,_)] [_] t6 rfl (Za (ZE (h:=Zc (Zb rfl (fun g1=>?_) (fun g1=>?_)))))
 try simp only [sQ,ne_eq] at g1
 refine wSk (Zc (Zi (Za ?_)))
 obtain ⟨w,hw⟩:=ZU (xs:=xs) (i:=g.k) om
 obtain ⟨bb4,oo4,rfl⟩:=hx.base hw
 obtain ⟨_,⟨qg5,cg5,qm5,cm5,rfl,hg5,hm5,hb5,hb5b⟩,hc5⟩:=hx.elem hw
 have hg5n:=hg5.len
 have hm5n:=hm5.len
 have hm5s:=Zad hm5
 refine xIx Tryz.underlying31 Zbw (h:=yL [_,_,_,_,_] ZhQ hc5 0 (h:=xAl [_,_,_,_,_] Zf5 (h:=fun b6=>xS [_,_,_,_,_] 1 [_,_,_,_,_] Zbw (h:=tL2 (Zf (xM (h:=xL [_,_,_,_,_] ZhQ 1 (h:=xC Zw0 rfl (Zjb _ _ _ _ w _ hg5 hm5) (h:=?_)))))))))
 rintro _ B7 _ hle7 ⟨rfl,l7,a7,c7,l7b,a7b,c7b,rfl,rfl,hs7,hs7b⟩
 refine xBs [(0,_)] [_,_,_,_,_] Tryz.underlying31 Zbw Zf5 (h:=fun b8=>Zk (ZsN (R:=(Z1 109 164)) (⟨w.owner,w.name,w.grants,w.next,w.mail⟩) 0 [2,3] rfl rfl hv rfl rfl rfl Zvz ZxQ rfl rfl (Zb6.box 4 rfl) rfl rfl (l7 ++ l7b) (by simp) (⟨_,_,_,_,_,_,rfl,rfl,(hs7.anyK ZD.any),(hs7b.anyK Zam.any),by first | assumption | omega | (simp;done) | (simp;omega),by first | assumption | omega | (simp;done) | (simp;omega),by first | assumption | omega | (simp;done) | (simp;omega),by first | assumption | omega | (simp;done) | (simp;omega)⟩) om (fun l9 p9 c9 hd9=>?_)))
 refine xA (h:=ZM (Zo (Zf (xD (h:=xM (h:=?_))))))
 exact ZA ⟨g.k+1,0,l9,p9,c9,(g.xs ++ [⟨w.owner,w.name,w.grants,w.next,w.mail⟩])⟩ [0] (by first | omega | (simp only [];omega)) ⟨rfl,by simp only [];omega,by simp only [];rw [Zbe hw,hxs],by simp;omega,hd9⟩ ⟨rfl,rfl,rfl,rfl,rfl,rfl,trivial⟩ rfl
 try simp only [sQ,ne_eq] at g1
 have hxe:g.xs=xs:=by rw [hxs];exact List.take_of_length_le oz
 refine ZC (ZV (ZG (Zu (Zo (Za (xM (h:=xA (h:=Zd ?_))))))))
 exact Zdl .ret (.inl rfl) [_] [0] rfl ⟨rfl,trivial⟩ ⟨rfl,_,_,_,rfl,by rw [← hxe];rfl,hxe ▸ hv⟩

theorem Zki (q1 q2 q3:Option Addr) (c1 c2 c3:Nat) (x:DHost) (B:Kn) (hu:SlK B q1 c1 3 Zr x.users) (hf:SlK B q2 c2 5 Zs x.folders) (hi:SlK B q3 c3 4 ZK x.queue.items):Zv (pj J) 68 [.agg #[str x.domain,.slice q1 x.users.length c1,.slice q2 x.folders.length c2,.int .i64 x.queue.next,.slice q3 x.queue.items.length c3]] B [] (fun v B' Ls=>∃q1 c1 q2 c2 q3 c3 l1 l2 l3,Ls=[l1,l2,l3]∧v = .agg #[str x.domain,.slice q1 x.users.length c1,.slice q2 x.folders.length c2,.int .i64 x.queue.next,.slice q3 x.queue.items.length c3]∧ZP Kn.none l1 q1 c1 97 3 Zr x.users∧ZaV l2 q2 c2 61 5 (Z1 109 164) x.folders∧ZaV l3 q3 c3 101 4 (Za8 9) x.queue.items):=by
 refine cB 16 Tryz.func68 (h:=?_)
 have hun:=hu.len
 have hfn:=hf.len
 have hin:=hi.len
 refine Za (xBx [_,_,_,_,_] (h:=fun b1=>xAl [_,_,_,_,_] Zcx (h:=fun b2=>tL2 (Zc (Z2 (keeps _ [0] _) mo kr ⟨Kn.le.refl _,Zbr.refl _ _⟩ (fun _ _=>?_))))))
 refine aW 0 rfl Zhw (h:=aT 1 rfl (ZR fun D B L hI=>Zn rfl rfl lk9 rfl (atL 0 (hI.2.1.trans rfl) rfl rfl) r4) (h:=aW 3 rfl ZbC (h:=aT 4 rfl (ZR fun D B L hI=>Zn rfl rfl Zib rfl (atL 0 (hI.2.1.trans rfl) rfl rfl) r4) (h:=aW 6 rfl Zal (h:=aT 7 rfl (ZR fun D B L hI=>Zn rfl rfl Zec rfl (atL 0 (hI.2.1.trans rfl) rfl rfl) r4) (h:=aW 9 rfl Zee (h:=aT 10 rfl (ZR fun D B L hI=>Zaj [_,_] rfl rfl ZkL rfl (ZcF 0 (hI.2.1.trans rfl) rfl rfl) r4) (h:=ZL 2 kr rfl kr (ZJ (parts:=[]) [] rfl rfl Tryz.underlying30 Zek Ziv rfl rfl rfl rfl rfl (fun b3=>?_))))))))))
 refine ⟨⟨Kn.le.refl _,t1⟩,(ZL 5 kr rfl kr (Zbu (R:=Zr) 2 rfl (ZP.lit0 (R:=Zr)) rfl rfl rfl ZnD ZnV rfl rfl rfl hu.rows Zr.one rfl om (fun l4 p4 c4 hv4=>?_)))⟩
 refine ⟨⟨Kn.le.refl _,t1⟩,(ZL 8 kr rfl kr (ZaK rfl rfl Zxv rfl (Zhu _ _ x.folders _ hf) ?_))⟩
 rintro _ B5 _ hle5 ⟨rfl,l5,a5,c5,rfl,rfl,hs5⟩
 refine ⟨⟨Kn.le.refl _,t1⟩,(ZL 11 kr rfl kr (ZaK rfl rfl Zxu rfl (ZjT _ _ x.queue _ hi) ?_))⟩
 rintro _ B6 _ hle6 ⟨l6,q6,c6,rfl,rfl,hd6⟩
 replace hv4:=hv4.mono Zr.mono hle6
 refine ⟨⟨hle6,t1⟩,(aT 12 rfl (ZR fun D B L hI=>ZaB (parts:=[(0,_),(1,_),(2,_),(3,_)]) [_,_,_,_,_] [_,_,_,_,_] rfl rfl ZgK Zcx rfl rfl rfl r4) (h:=Zak 13 kr rfl kr kr kr (Z0 [_,_,_,_,_] 1 [_,_,_,_,_] rfl rfl ZdA rfl rfl rfl rfl rfl rfl rfl rfl ?_)))⟩
 refine Zo (tL5 (Zd ?_))
 exact eN [2,3,4] rfl ⟨⟨_,rfl,.inr ⟨[_,_,_,_,_],ZcN,ZcF 1 rfl rfl rfl,rfl⟩⟩,trivial⟩ ⟨_,_,_,_,_,_,_,_,_,rfl,rfl,hv4.anyK Zr.any,hs5,hd6⟩

theorem Zpi (q1 q2 q3:Option Addr) (c1 c2 c3:Nat) (x:DHost) (ar:Bool) (f:FuncId) (cap:Array Value) (R:DHost) (k:Nat) (hk:k<5) (he:enters Tryz.prog f=true) (hJ:Joins Tryz.prog J) (hd:x.domain.length≤2000000) (a:Nat→Addr) (B:Kn) (hE:ErrsB 288 [0,2,3,1] B a) (hu:SlK B q1 c1 3 Zr x.users) (hf:SlK B q2 c2 5 Zs x.folders) (hi:SlK B q3 c3 4 ZK x.queue.items) (hw:ar=true→Z7 x=true→∀(B2:Kn) (b:Nat) (q1 q2 q3:Option Addr) (c1 c2 c3:Nat) (l1 l2 l3:Cells),B.le B2→ZP Kn.none l1 q1 c1 97 3 Zr x.users→ZaV l2 q2 c2 61 5 (Z1 109 164) x.folders→ZaV l3 q3 c3 101 4 (Za8 9) x.queue.items→Zv (pj J) f (ptr ⟨b,0,none⟩ :: cap.toList) B2 [Zar b [str x.domain,.slice q1 x.users.length c1,.slice q2 x.folders.length c2,.int .i64 x.queue.next,.slice q3 x.queue.items.length c3] 36,l1,l2,l3] (fun v B' Ls=>∃q1' c1' q2' c2' q3' c3' l1' l2' l3',Ls=[Zar b [str R.domain,.slice q1' R.users.length c1',.slice q2' R.folders.length c2',.int .i64 R.queue.next,.slice q3' R.queue.items.length c3'] 36,l1',l2',l3']∧v=errv 288 a (k)∧ZP Kn.none l1' q1' c1' 97 3 Zr R.users∧ZaV l2' q2' c2' 61 5 (Z1 109 164) R.folders∧ZaV l3' q3' c3' 101 4 (Za8 9) R.queue.items)):Zv (pj J) 27 [.agg #[str x.domain,.slice q1 x.users.length c1,.slice q2 x.folders.length c2,.int .i64 x.queue.next,.slice q3 x.queue.items.length c3],.bool ar,.func (.func f) #[] cap] B [] (fun v B' Ls=>∃(Y:DHost) (d:Int),∃q1 c1 q2 c2 q3 c3 l1 l2 l3,(Y,d)=(if ar=true∧Z7 x=true then (R,(k:Int)) else (Zc5,5))∧Ls=[l1,l2,l3]∧v = .tuple #[.agg #[str Y.domain,.slice q1 Y.users.length c1,.slice q2 Y.folders.length c2,.int .i64 Y.queue.next,.slice q3 Y.queue.items.length c3],.int .i64 d]∧ZP Kn.none l1 q1 c1 97 3 Zr Y.users∧ZaV l2 q2 c2 61 5 (Z1 109 164) Y.folders∧ZaV l3 q3 c3 101 4 (Za8 9) Y.queue.items):=by
 refine cB 25 Tryz.func27 (h:=?_)
 have hun:=hu.len
 have hfn:=hf.len
 have hin:=hi.len
 refine Za (xBx [_,_,_,_,_] (h:=fun b1=>xAl [_,_,_,_,_] Zcx (h:=fun b2=>xA (h:=tL2 (Zc (Za (xM (h:=xN (h:=xM (h:=Zt (d:=12) rfl (fun g1=>?_) (fun g1=>?_)))))))))))
 try simp only [sQ,ne_eq] at g1
 refine xP (h:=xP (h:=xP (h:=xT (h:=Zur [[],[],[]] rfl (Zb (t:=true) rfl (fun _=>Za (xB [] [_,_,_,_,_] [_,_,_,_,_] ZgK Zcx (h:=xS [_,_,_,_,_] 1 [_,_,_,_,_] ZdA (h:=xA (h:=tL5 (Zd (Zl ?_))))))) (fun h=>Bool.noConfusion h))))))
 exact Zdl .ret (.inl rfl) [_,_] [2,3,4] rfl ⟨⟨_,rfl,.inr ⟨[_,_,_,_,_],ZcN,ZcF 1 rfl rfl rfl,rfl⟩⟩,rfl,trivial⟩ ⟨Zc5,5,none,0,none,0,none,0,[],[],[],by rw [if_neg (by simp [g1])],rfl,rfl,ZP.nil,ZaV.nil,ZaV.nil⟩
 try simp only [sQ,ne_eq] at g1
 refine xL [_,_,_,_,_] ZcN 0 (h:=xQ ZyR rfl (Zlu hJ _ _ _ _ _ _ x om2 _ hu hf hi) (h:=?_))
 intro vv Bv hlev
 rintro rfl
 obtain ⟨hu,hf,hi⟩:=up3 hlev hu hf hi
 replace hE:=hE.mono hlev
 refine xN (h:=xF (h:=Zb rfl (fun g2=>?_) (fun g2=>?_)))
 try simp only [sQ,ne_eq] at g2
 refine Zur [[],[],[]] rfl (Za (xB [] [_,_,_,_,_] [_,_,_,_,_] ZgK Zcx (h:=xS [_,_,_,_,_] 1 [_,_,_,_,_] ZdA (h:=xA (h:=tL5 (Zd (Zl ?_)))))))
 exact Zdl .ret (.inl rfl) [_,_] [2,3,4] rfl ⟨⟨_,rfl,.inr ⟨[_,_,_,_,_],ZcN,ZcF 1 rfl rfl rfl,rfl⟩⟩,rfl,trivial⟩ ⟨Zc5,5,none,0,none,0,none,0,[],[],[],by rw [if_neg (by simp [g2])],rfl,rfl,ZP.nil,ZaV.nil,ZaV.nil⟩
 try simp only [sQ,ne_eq] at g2
 refine wSk (Za (xL [_,_,_,_,_] ZcN 0 (h:=xC ZyQ rfl (Zki _ _ _ _ _ _ x _ hu hf hi) (h:=?_))))
 rintro _ Bc _ hlec ⟨q1c,c1c,q2c,c2c,q3c,c3c,l1c,l2c,l3c,rfl,rfl,huc,hfc,hic⟩
 replace hE:=hE.mono hlec
 refine Zk (Zbt (l:=[_,_,_,_,_]) rfl rfl Zcx rfl (fun b5=>?_))
 refine Zk (Z0 [_,_,_,_,_] 5 [_,_,_,_,_] rfl rfl ZdA rfl rfl rfl rfl rfl rfl rfl rfl ?_)
 refine ZnU [_,_,_,_,_,_] rfl ?_
 refine Za ?_
 refine Zk (ZgZ rfl rfl rfl ?_)
 refine Zk (ZsK [5,2,3,4] rfl rfl rfl rfl he rfl rfl (hw (by simpa using g1) (by simpa using g2) _ _ _ _ _ _ _ _ _ _ _ (hlev.trans hlec) huc hfc hic) ?_)
 rintro _ B6 _ hle6 ⟨q16,c16,q26,c26,q36,c36,l16,l26,l36,rfl,rfl,hu6,hf6,hi6⟩
 replace hE:=hE.mono hle6
 refine xA (h:=tL6 (Zc (Z2 (keeps _ [5] _) mo kr ⟨Kn.le.refl _,Zbr.refl _ _⟩ (fun _ _=>?_))))
 refine aT 0 rfl (ZR fun D B L hI=>Zaj [_,_,_,_,_] rfl rfl ZcN rfl (ZcF 5 (hI.2.1.trans rfl) rfl rfl) r4) (h:=aM 1 rfl (h:=aT 2 rfl (ZR fun D B L hI=>Zaf rfl rfl ZyP rfl (Znq k om2 a _ (hE.mono hI.1)) r4) (h:=?_)))
 refine ZlR 3 kr rfl kr kr (Z0 [_,_,_,_,_] 1 [_,_,_,_,_] rfl rfl ZdA rfl rfl rfl rfl rfl rfl rfl rfl ?_)
 refine aA 4 rfl (h:=Zx kr kr ?_)
 refine Zo (tL6 (Zd ?_))
 exact Zdl .ret (.inl rfl) [_,_] [2,3,4] rfl ⟨⟨_,rfl,.inr ⟨[_,_,_,_,_],ZcN,ZcF 1 rfl rfl rfl,rfl⟩⟩,rfl,trivial⟩ ⟨R,k,_,_,_,_,_,_,_,_,_,by rw [if_pos ⟨by simpa using g1,by simpa using g2⟩],rfl,rfl,hu6.anyK Zr.any,hf6,hi6⟩

theorem Ztq (s:Str) (B:Kn):Z6 (pj J) 223 [str s] B (.bool false):=by
 refine cB 6 Tryz.func223 (h:=?_)
 refine Za (xA (h:=Za (xM (h:=xM (h:=ZcD (h:=xA (h:=Zd ?_)))))))
 exact eR t1 ⟨Ze (by simp),rfl,rfl⟩

theorem ZpY (s t:Str) (B:Kn):Z6 (pj J) 212 [str s,str t] B (.bool (Op.bytesLess s t)):=by
 refine cB 17 Tryz.func212 (h:=?_)
 refine Za (xA (h:=Za (xM (h:=xR Zwo rfl (Ztq s _) (h:=xM (h:=Zt (d:=7) rfl (fun g1=>by cases g1) (fun g1=>?_)))))))
 refine xP (h:=xP (h:=xP (h:=xF (h:=xM (h:=xM (h:=xM (h:=ZnZ (h:=xF (h:=xA (h:=Zd ?_))))))))))
 exact eR t1 ⟨rfl,rfl,rfl⟩

theorem ZlN (n:Nat) (hn:n≤12) (B:Kn):Zv (pj J) 216 [.int .u64 n] B [] (fun v B' Ls=>B'=B∧Ls=[]∧∃z:Int,v = .int .i64 z):=by
 refine cB 25 Tryz.func216 (h:=?_)
 refine Za (xA (h:=Zc (Za (xM (h:=Zdy (h:=Zb rfl (fun g1=>by simp at g1;omega) (fun g1=>?_)))))))
 refine wSk (Zc (Za (xM (h:=Zdy (h:=Zb rfl (fun g2=>by simp at g2;omega) (fun g2=>?_))))))
 refine wSk (Zc (Za (xM (h:=Zdy (h:=Zb rfl (fun g3=>by simp at g3;omega) (fun g3=>?_))))))
 refine wSk (Za (xM (h:=xM (h:=Zk (Ziy rfl rfl Tryz.underlying183 Tryz.underlying5 rfl (ZxH hn).2 (Zk (Zds rfl rfl Tryz.underlying9 rfl rfl oz (List.getElem?_eq_getElem (show n<_ from Nat.lt_of_le_of_lt hn (Nat.le_of_ble_eq_true rfl))) ?_)))))))
 refine Zk (Ziy rfl rfl Tryz.underlying5 Tryz.underlying3 rfl (ZxI _).1 (Zk (ZfF rfl rfl rfl rfl (ZxI _).2 (xA (h:=Zd ?_)))))
 exact eN [] rfl t1 ⟨rfl,rfl,_,rfl⟩

theorem Zp8 (n:Nat) (hn:n≤12) (B:Kn):Zv (pj J) 193 [.int .u64 n] B [] (fun v B' Ls=>B'=B∧Ls=[]∧∃z:Int,v = .int .i64 z):=by
 refine cB 8 Tryz.func193 (h:=?_)
 refine Za (xA (h:=Zc (Zb rfl (fun g1=>by cases g1) (fun g1=>?_))))
 refine wSk (Za (xM (h:=xC Zwq rfl (ZlN n oz _) (h:=?_))))
 rintro _ B1 _ hle1 ⟨rfl,rfl,z1,rfl⟩
 refine xA (h:=tL0 (Zd ?_))
 exact eN [] rfl t1 ⟨rfl,rfl,_,rfl⟩

theorem Zpd (l:Cells) (q:Option Addr) (c:Nat) (xs:List Str) (hnd:xs.Nodup) (hn:xs.length≤12) (B:Kn) (hv:ZP Kn.none l q c 9 1 ZbU xs):Zv (pj J) 206 [.slice q xs.length c,.int .i64 0,.int .i64 xs.length] B [l] (fun v B' Ls=>B'=B∧∃l' ys,Ls=[l']∧ZP Kn.none l' q c 9 1 ZbU ys∧ys.Perm xs∧ys.Pairwise Zeh):=by
 refine cB 49 Tryz.func206 (h:=?_)
 refine Za (xM (h:=xD (h:=xA (h:=Zi (Zw (α:=Nat × Cells × List Str) [0,1,2] (fun g=>[(6,.int .i64 g.1)]) [0] (fun g=>[g.2.1]) (fun g Bx=>Bx=B∧1≤g.1∧(g.2.2.take g.1).Pairwise Zeh∧g.2.2.Perm xs∧ZP Kn.none g.2.1 q c 9 1 ZbU g.2.2) (fun g=>xs.length - g.1) (1,l,xs) t1 rfl (⟨rfl,Nat.le_refl _,ZqD xs,.refl _,hv⟩) (fun g B1 hle1 hI=>?_))))))
 obtain ⟨rfl,h1,hpw,hp,hv⟩:=hI
 have hyl:=hp.length_eq
 refine ZB [(0,_),(1,_),(2,_),(6,_)] [_] t4 rfl (Zc (Za (xM (h:=xM (h:=ZE (h:=Zb rfl (fun g1=>?_) (fun g1=>?_)))))))
 try simp only [sQ,ne_eq] at g1
 refine wSk (Zc (Zi (Za (xM (h:=xA (h:=Zi (Zw (α:=Nat × Cells × List Str) [0,1,2,6,12] (fun h=>[(7,.int .i64 h.1)]) [0] (fun h=>[h.2.1]) (fun h Bx=>Bx=B1∧Srt xs g.1 h.1 h.2.2∧ZP Kn.none h.2.1 q c 9 1 ZbU h.2.2) (fun h=>h.1) (g.1,g.2.1,g.2.2) t1 rfl (⟨rfl,Srt.init hpw (so) hp,hv⟩) (fun h B2 hle2 hI=>?_))))))))
 obtain ⟨rfl,hs,hw⟩:=hI
 have hsl:=hs.len
 refine ZB [(0,_),(1,_),(2,_),(6,_),(7,_),(12,_)] [_] t6 rfl (Zc (Zc (Z2 (keeps _ [0] _) mo kr ⟨Kn.le.refl _,Zbr.refl _ _⟩ (fun _ _=>?_))))
 refine aM 0 rfl (h:=aM 1 rfl (h:=ZnR 2 rfl (h:=aM 3 rfl (h:=Zav (d:=19) rfl (fun g2=>?_) (fun g2=>?_)))))
 try simp only [sQ,ne_eq] at g2
 refine aM 4 rfl (h:=aM 5 rfl (h:=?_))
 obtain ⟨m,hm⟩:=ZU (xs:=h.2.2) (i:=h.1) om
 obtain ⟨bb4,_,hp4,⟨rfl,hb4⟩,hw4,hc4⟩:=hw.row hm
 refine aT 6 rfl (ZR fun D B L hI=>Zef hp4 rfl rfl Tryz.underlying99 sz9 rfl rfl om om r4) (h:=?_)
 refine aT 7 rfl (ZR fun D B L hI=>Zn rfl rfl lk9 rfl (hc4 _ 0 (hI.2.1.trans rfl) 0 _ rfl) r4) (h:=aM 8 rfl (h:=aM 9 rfl (h:=aT 10 rfl (ZR fun D B L hI=>ZfD (r:=((h.1 - 1:Nat):Int)) rfl rfl rfl rfl (by rw [show ((h.1:Int) - 1)=((h.1 - 1:Nat):Int) from by omega];exact Zbd oz oz) r4) (h:=?_))))
 obtain ⟨p,hp⟩:=ZU (xs:=h.2.2) (i:=(h.1 - 1)) om
 obtain ⟨bb6,_,hp6,⟨rfl,hb6⟩,hw6,hc6⟩:=hw.row hp
 refine aT 11 rfl (ZR fun D B L hI=>Zef hp6 rfl rfl Tryz.underlying99 sz9 rfl rfl om om r4) (h:=?_)
 refine aT 12 rfl (ZR fun D B L hI=>Zn rfl rfl lk9 rfl (hc6 _ 0 (hI.2.1.trans rfl) 0 _ rfl) r4) (h:=aT 13 rfl (ZR fun D B L hI=>Zaf rfl rfl Zwr rfl (ZpY m p _) r4) (h:=aPT 14 rfl (h:=Zx kr kr ?_)))
 refine Zo (Zb rfl (fun g3=>?_) (fun g3=>?_))
 try simp only [sQ,ne_eq] at g3
 refine wSk (Zc (Zi (Z2 (keeps _ [] _) mo kr ⟨Kn.le.refl _,Zbr.refl _ _⟩ (fun _ _=>?_))))
 refine aM 0 rfl (h:=aM 1 rfl (h:=aM 2 rfl (h:=aM 3 rfl (h:=aT 4 rfl (ZR fun D B L hI=>ZfD (r:=((h.1 - 1:Nat):Int)) rfl rfl rfl rfl (by rw [show ((h.1:Int) - 1)=((h.1 - 1:Nat):Int) from by omega];exact Zbd oz oz) r4) (h:=?_)))))
 refine aM 5 rfl (h:=aM 6 rfl (h:=aT 7 rfl (ZR fun D B L hI=>ZfD (r:=((h.1 - 1:Nat):Int)) rfl rfl rfl rfl (by rw [show ((h.1:Int) - 1)=((h.1 - 1:Nat):Int) from by omega];exact Zbd oz oz) r4) (h:=?_)))
 obtain ⟨bb8,_,hp8,⟨rfl,hb8⟩,hw8,hc8⟩:=hw.row hp
 refine aT 8 rfl (ZR fun D B L hI=>Zef hp8 rfl rfl Tryz.underlying99 sz9 rfl rfl om om r4) (h:=?_)
 refine aM 10 rfl (h:=aM 11 rfl (h:=?_))
 obtain ⟨bb9,_,hp9,⟨rfl,hb9⟩,hw9,hc9⟩:=hw.row hm
 refine aT 12 rfl (ZR fun D B L hI=>Zef hp9 rfl rfl Tryz.underlying99 sz9 rfl rfl om om r4) (h:=?_)
 refine Zbj [9,13] kr kr kr ⟨?_,?_⟩
 refine (Zn rfl rfl lk9 rfl (hc8 _ 0 rfl 0 _ rfl) (⟨⟨Kn.le.refl _,trivial⟩,(ZL 13 kr rfl kr (Zn rfl rfl lk9 rfl (hc9 _ 0 rfl 0 _ rfl) ?_))⟩))
 refine ⟨⟨Kn.le.refl _,trivial⟩,?_⟩
 obtain ⟨bb10,_,hp10,⟨rfl,hb10⟩,hw10,hc10⟩:=hw.row hm
 refine aT 14 rfl (ZR fun D B L hI=>Zef hp10 rfl rfl Tryz.underlying99 sz9 rfl rfl om om r4) (h:=?_)
 refine ZL 15 kr rfl kr (Zel (k:=h.1) (off:=0) (p) [_] 0 hw hp10 hm rfl rfl sz9 rfl rfl rfl rfl rfl rfl ((fun row h=>by obtain ⟨rfl,_⟩:=h;exact ⟨rfl,oy⟩)) (fun l11 hv11=>?_))
 refine ⟨⟨Kn.le.refl _,trivial⟩,?_⟩
 obtain ⟨w,hw⟩:=ZU (xs:=(h.2.2.set h.1 (p))) (i:=(h.1 - 1)) om
 obtain ⟨bb13,_,hp13,⟨rfl,hb13⟩,hw13,hc13⟩:=hv11.row hw
 refine aT 16 rfl (ZR fun D B L hI=>Zef hp13 rfl rfl Tryz.underlying99 sz9 rfl rfl om om r4) (h:=?_)
 refine Zak 17 kr rfl kr kr kr (Zel (k:=(h.1 - 1)) (off:=0) (m) [_] 0 hv11 hp13 hw rfl rfl sz9 rfl rfl rfl rfl rfl rfl ((fun row h=>by obtain ⟨rfl,_⟩:=h;exact ⟨rfl,oy⟩)) (fun l14 hv14=>?_))
 refine ZM (Zo (Zf (xM (h:=Zk (ZfD (r:=((h.1 - 1:Nat):Int)) rfl rfl rfl rfl (by rw [show ((h.1:Int) - 1)=((h.1 - 1:Nat):Int) from by omega];exact Zbd oz oz) ?_)))))
 refine xA (h:=?_)
 exact ZA (h.1 - 1,l14,((h.2.2.set h.1 (p)).set (h.1 - 1) (m))) [0] (so) ⟨rfl,hs.step2 oz hm hp (by simpa using g3),hv14⟩ t6 rfl
 refine (Zn rfl rfl lk9 rfl (hc9 _ 0 rfl 0 _ rfl) (⟨⟨Kn.le.refl _,trivial⟩,(ZL 9 kr rfl kr (Zn rfl rfl lk9 rfl (hc8 _ 0 rfl 0 _ rfl) ?_))⟩))
 refine ⟨⟨Kn.le.refl _,trivial⟩,?_⟩
 obtain ⟨bb15,_,hp15,⟨rfl,hb15⟩,hw15,hc15⟩:=hw.row hm
 refine aT 14 rfl (ZR fun D B L hI=>Zef hp15 rfl rfl Tryz.underlying99 sz9 rfl rfl om om r4) (h:=?_)
 refine ZL 15 kr rfl kr (Zel (k:=h.1) (off:=0) (p) [_] 0 hw hp15 hm rfl rfl sz9 rfl rfl rfl rfl rfl rfl ((fun row h=>by obtain ⟨rfl,_⟩:=h;exact ⟨rfl,oy⟩)) (fun l16 hv16=>?_))
 refine ⟨⟨Kn.le.refl _,trivial⟩,?_⟩
 obtain ⟨w,hw⟩:=ZU (xs:=(h.2.2.set h.1 (p))) (i:=(h.1 - 1)) om
 obtain ⟨bb18,_,hp18,⟨rfl,hb18⟩,hw18,hc18⟩:=hv16.row hw
 refine aT 16 rfl (ZR fun D B L hI=>Zef hp18 rfl rfl Tryz.underlying99 sz9 rfl rfl om om r4) (h:=?_)
 refine Zak 17 kr rfl kr kr kr (Zel (k:=(h.1 - 1)) (off:=0) (m) [_] 0 hv16 hp18 hw rfl rfl sz9 rfl rfl rfl rfl rfl rfl ((fun row h=>by obtain ⟨rfl,_⟩:=h;exact ⟨rfl,oy⟩)) (fun l19 hv19=>?_))
 refine ZM (Zo (Zf (xM (h:=Zk (ZfD (r:=((h.1 - 1:Nat):Int)) rfl rfl rfl rfl (by rw [show ((h.1:Int) - 1)=((h.1 - 1:Nat):Int) from by omega];exact Zbd oz oz) ?_)))))
 refine xA (h:=?_)
 exact ZA (h.1 - 1,l19,((h.2.2.set h.1 (p)).set (h.1 - 1) (m))) [0] (so) ⟨rfl,hs.step2 oz hm hp (by simpa using g3),hv19⟩ t6 rfl
 try simp only [sQ,ne_eq] at g3
 refine ZC (ZV (ZG (Zu (ZM (Zo (Zf (xM (h:=xD (h:=xA (h:=?_))))))))))
 exact ZA (g.1+1,h.2.1,h.2.2) [0] (so) ⟨rfl,so,hs.stop2 oz hnd hm hp (by simpa using g3),hs.perm,hw⟩ t4 rfl
 try simp only [sQ,ne_eq] at g2
 refine aZ 4 rfl (h:=aZ 5 rfl (h:=aZ 6 rfl (h:=aZ 7 rfl (h:=aZ 8 rfl (h:=aZ 9 rfl (h:=aZ 10 rfl (h:=aZ 11 rfl (h:=aZ 12 rfl (h:=aZ 13 rfl (h:=aPF 14 rfl (h:=Zx kr kr ?_)))))))))))
 refine Zo ?_
 have hj0:h.1=0:=by omega
 rw [hj0] at hs
 refine Zb (t:=false) rfl (fun h=>Bool.noConfusion h) (fun _=>ZC (ZV (ZG (Zu (ZM (Zo (Zf (xM (h:=xD (h:=xA (h:=?_)))))))))))
 exact ZA (g.1+1,h.2.1,h.2.2) [0] (so) ⟨rfl,so,hs.stop0,hs.perm,hw⟩ t4 rfl
 try simp only [sQ,ne_eq] at g1
 refine ZC (ZV (ZG (Zu ?_)))
 rw [List.take_of_length_le oz] at hpw
 exact Zdl .normal (.inr rfl) [] [0] rfl trivial ⟨rfl,_,_,rfl,hv,hp,hpw⟩

theorem ZoL (l:Cells) (q:Option Addr) (c:Nat) (xs:List Str) (hnd:xs.Nodup) (hn:xs.length≤12) (z:Int) (B:Kn) (hv:ZP Kn.none l q c 9 1 ZbU xs):Zv (pj J) 192 [.slice q xs.length c,.int .i64 0,.int .i64 xs.length,.int .i64 z] B [l] (fun v B' Ls=>B'=B∧∃l' ys,Ls=[l']∧ZP Kn.none l' q c 9 1 ZbU ys∧ys.Perm xs∧ys.Pairwise Zeh):=by
 refine cB 134 Tryz.func192 (h:=?_)
 refine Za (xA (h:=Za (xA (h:=Zi (Zw (α:=Unit) [0] (fun g=>[(1,.int .i64 0),(2,.int .i64 xs.length),(3,.int .i64 z),(8,.bool true),(9,.bool true)]) [] (fun g=>[]) (fun g Bx=>Bx=B) (fun g=>0) () t5 rfl (rfl) (fun g B1 hle1 hI=>?_))))))
 subst hI
 refine ZB [(0,_),(1,_),(2,_),(3,_),(8,_),(9,_)] [_] t6 rfl (Zi (Za (xM (h:=xM (h:=xU (h:=xA (h:=Zc (Za (xM (h:=Zb7 (h:=Zb rfl (fun g1=>?_) (fun g1=>by simp at g1;omega))))))))))))
 refine Za (xM (h:=xM (h:=xM (h:=xK [0] rfl Zws rfl (Zpd _ _ _ xs (oy) oz _ hv) (h:=?_)))))
 rintro _ B2 _ hle2 ⟨rfl,l2,ys2,rfl,hv2,hp2,hw2⟩
 refine tL1 (Zd (Zl (Zy (ZO (Zy ?_)))))
 exact Zdl .ret (.inl rfl) [] [0] rfl trivial ⟨rfl,_,_,rfl,hv2,oy,oy⟩

theorem ZsX (l:Cells) (q:Option Addr) (c:Nat) (xs:List Str) (hnd:xs.Nodup) (hn:xs.length≤12) (B:Kn) (hv:ZP Kn.none l q c 9 1 ZbU xs):Zv (pj J) 152 [.slice q xs.length c] B [l] (fun v B' Ls=>B'=B∧∃l' ys,Ls=[l']∧ZP Kn.none l' q c 9 1 ZbU ys∧ys.Perm xs∧ys.Pairwise Zeh):=by
 refine cB 11 Tryz.func152 (h:=?_)
 refine Za (xM (h:=xV Tryz.underlying99 (h:=xA (h:=Zf (xM (h:=xM (h:=xM (h:=Zk (Ziy rfl rfl Tryz.underlying3 Tryz.underlying220 rfl (ZxH hn).1 (xC ZwA rfl (Zp8 xs.length oz _) (h:=?_)))))))))))
 rintro _ B1 _ hle1 ⟨rfl,rfl,z1,rfl⟩
 refine xK [0] rfl ZwB rfl (ZoL _ _ _ xs (oy) oz _ _ hv) (h:=?_)
 rintro _ B2 _ hle2 ⟨rfl,l2,ys2,rfl,hv2,hp2,hw2⟩
 exact Zdl .normal (.inr rfl) [] [0] rfl trivial ⟨rfl,_,_,rfl,hv2,oy,oy⟩

theorem Ztl (l bc:Nat) (b:Nat) (kvs:KV) (lm:Cells) (hm:Zjs lm b kvs) (Inv:List Str→Kn→Cells→Prop) (s0:Cells) (B:Kn) (hcc:Zae B bc 0 [.map (some b)]) (h0:Inv [] B s0) (hround :∀(done:List Str) (y:Str) (v:Int) (B':Kn) (s:Cells),B.le B'→Inv done B' s→(y,v)∈kvs→y ∉ done→done.length<kvs.length→∃lp,(l,Obj.loop lp)∈s∧lp.params.size=1∧ZmQ (pj J) l lp.fn (Zgp lp.params lp.tmps [str y]) lp.assign lp.body B' s (fun B'' s'=>Inv (done ++ [y]) B'' s')):Zv (pj J) 153 [.func (.yield l) #[] #[],ptr ⟨bc,0,none⟩] B [lm,s0] (fun v B' Ls=>∃s s' done,Ls=[s]∧s.Perm (lm ++ s')∧Inv done B' s'∧done.Nodup∧∀k,k∈done↔k∈kvs.map (·.1)):=by
 refine cB 14 Tryz.func153 (h:=?_)
 refine Za (Zk (Zn rfl rfl Zv6 rfl (hcc _ 0 _ rfl) (Zk (Zqt 0 rfl hm rfl rfl Tryz.underlying117 rfl (fun r li hit=>tL3 (Zi (Zw (α:=List Str × Cells × Cells) [0,1,5] (fun g=>[]) [1,2] (fun g=>[g.2.1,g.2.2]) (fun g Bx=>B.le Bx∧ZhN lm g.2.2 b r kvs g.1∧Inv g.1 Bx g.2.1) (fun g=>kvs.length - g.1.length) ([],s0,li) trivial rfl (⟨Kn.le.refl _,hit,h0⟩) (fun g B1 hle1 hI=>?_))))))))
 obtain ⟨hble,hit,hI⟩:=hI
 refine ZB [(0,_),(1,_),(5,_)] [_,_,_] t3 rfl (Za (Zk (ZsI 0 2 (by decide) rfl rfl hit rfl rfl rfl (fun hall=>?_) (fun y v li2 hy hny hit2=>?_))))
 refine xE (h:=Zc (Zb rfl (fun g1=>by cases g1) (fun g1=>?_)))
 refine ZC (ZV (ZG (Zu ?_)))
 exact Zyt .normal (.inr rfl) [] [0,1] rfl trivial ⟨_,_,g.1,rfl,by simp,hI,hit.keys.1,fun k=>⟨hit.keys.2 k,hall k⟩⟩
 refine xE (h:=tL3 (Zc (Zb rfl (fun g2=>?_) (fun g2=>by cases g2))))
 refine wSk (Zi (Za (Zk (Zqu 0 2 (by rfl) rfl hit2 rfl rfl rfl (fun w=>?_)))))
 obtain ⟨lp,hl,hs,hr⟩:=hround g.1 y v _ g.2.1 hble hI hy hny hit2.lt
 have hmu:=hit2.lt
 refine xE (h:=xA (h:=Za (xM (h:=xM (h:=Zk (Zob (j:=1) rfl hl rfl rfl rfl rfl hs.symm hr (fun Bc sc hlec hIc=>xN (h:=tL3 (Zb rfl (fun g3=>by cases g3) (fun g3=>?_))))))))))
 refine ZT (ZM ?_)
 exact ZA (g.1 ++ [y],sc,li2) [0,1,2] (by simp only [List.length_append,List.length_singleton];omega) ⟨hble.trans hlec,hit2,hIc⟩ t3 rfl

theorem ZuV (b:Nat) (B:Kn):Zv (pj J) 116 [.map (some b)] B [] (fun v B' Ls=>Ls=[]∧∃bc,v = .func (.func 153) #[] #[ptr ⟨bc,0,none⟩]∧Zae B' bc 0 [.map (some b)]):=by
 refine cB 4 Tryz.func116 (h:=?_)
 refine Za (xBx [_] (h:=fun b1=>xA (h:=tL1 (Zjv 0 rfl (fun B2 hle2 hpm2=>?_)))))
 have hc2:=ZaT hpm2
 refine Za (Zk (ZcQ (xs:=[]) (ys:=[_]) rfl rfl rfl rfl (xA (h:=tL1 (Zd ?_)))))
 exact eN [] rfl t1 ⟨rfl,_,rfl,oy⟩

theorem ZrP (bc:Nat) (b:Nat) (kvs:KV) (lm:Cells) (hm:Zjs lm b kvs) (hkl :∀k,k∈kvs.map (·.1)→k.length≤2000000) (hk5:kvs.length≤5) (B:Kn) (hcc:Zae B bc 0 [.map (some b)]):Zv (pj J) 191 [.slice none 0 0,.func (.func 153) #[] #[ptr ⟨bc,0,none⟩]] B [lm] (fun v B' Ls=>∃l a c ks,Ls=[lm,l]∧v = .slice a ks.length c∧ZP Kn.none l a c 9 1 ZbU ks∧ks.Nodup∧∀k,k∈ks↔k∈kvs.map (·.1)):=by
 refine ZgJ 13 Tryz.func191 rfl rfl rfl (Nat.le_of_ble_eq_true rfl) ?_
 refine Zcp (xBx [_] (h:=fun b1=>xA (h:=Zl5 [(0,_),(1,_),(2,_),(4,_)] [_,_] t4 rfl (Zse (Zcp (xM (h:=Zsf [(0,_),(1,_),(2,_),(4,_),(6,_)] t5 (Zoo (Zl6 (J:=fun B' L'=>∃l a c ks,L'=[lm,Zar b1 [.slice a ks.length c] 99,l]∧ZP Kn.none l a c 9 1 ZbU ks∧ks.Nodup∧∀k,k∈ks↔k∈kvs.map (·.1)) (cap:=[_]) rfl ZwU (fun lp l9 hTn hTS hps hasg hbd hst hlp=>?_) (fun r B9 L9 hle9 hJ=>?_))))))))))
 refine Zv.mono (Zv.perm (Ls':=[lm,(l9,Obj.loop lp) :: Zar b1 [.slice none 0 0] 99]) (by simpa using List.perm_middle.symm) (Ztl l9 _ b kvs lm hm (fun done B9 s9=>∃l a c,s9.Perm ((l9,Obj.loop lp) :: (Zar b1 [.slice a done.length c] 99 ++ l))∧ZP Kn.none l a c 9 1 ZbU done) _ _ hcc ⟨[],none,0,by simp,ZP.nil⟩ ?_)) ?_
 rintro done y v B9 s9 hle9 ⟨l,a,c,hp,hv⟩ hy hny hlt
 have hyl:=hkl y (List.mem_map_of_mem (f:=(·.1)) hy)
 obtain ⟨hA,hN⟩:=ZrT (a:=7) (x:=str y) hTS hTn rfl
 refine ⟨lp,hp.mem_iff.2 (List.mem_cons_self ..),by rw [hps];rfl,?_⟩
 rw [hps,hasg,hbd]
 refine ZjQ (L:=[Zar b1 [.slice a done.length c] 99,l]) (lp:=lp) hN [(2,_),(7,_)] (hA.sub t2) (by simpa using hp) hst ?_
 refine Zf (xA (h:=⟨rfl,rfl,rfl,(tL3 (Zi (Zf (x1 Zj7 1 (h:=xM (h:=xBs [(0,_)] [_] Tryz.underlying99 sz9 zo9 (h:=fun b2=>Zk (Ze0 (z:=y) (R:=ZbU) 2 rfl hv rfl rfl rfl Zt4 ZuF rfl rfl (Zb6.box 3 rfl) rfl rfl (⟨rfl,by first | assumption | omega | (simp;done) | (simp;omega)⟩) om (fun l3 p3 c3 hv3=>?_)))))))))⟩))
 refine xS [_] 1 [_] Zvw (h:=ZM (⟨rfl,rfl,(l9,Obj.loop lp) :: (Zar b1 [.slice p3 (done ++ [y]).length c3] 99 ++ l3),Zar b2 [str y] 9,((Z5 [0,1,2,3] _ _ _ rfl).trans ?_),_,_,_,.refl _,hv3⟩))
 rw [hlp]
 simp [Zar]
 rintro _ B9 _ hle9 ⟨s,s9,done,rfl,hps9,⟨l,a,c,hp,hv⟩,hnd,hmem⟩
 exact ⟨[lm,Zar b1 [.slice a done.length c] 99,l],_,rfl,by (refine hps9.trans ((List.Perm.append_left lm hp).trans ?_);simp),l,a,c,done,rfl,hv,hnd,hmem⟩
 obtain ⟨l,a,c,ks,rfl,hv,hnd,hmem⟩:=hJ
 refine ZM (Zo (Za (x1 Zj7 1 (h:=xA (h:=tL4 (Zd ?_))))))
 exact ⟨.inl rfl,r,3,rfl,rfl,[_],[_,_],t1,⟨_,(Z5 [0,2] _ _ _ rfl)⟩,_,_,_,_,rfl,rfl,hv,hnd,hmem⟩

theorem ZpX (bc:Nat) (b:Nat) (kvs:KV) (lm:Cells) (hm:Zjs lm b kvs) (hkl :∀k,k∈kvs.map (·.1)→k.length≤2000000) (hk5:kvs.length≤5) (B:Kn) (hcc:Zae B bc 0 [.map (some b)]):Zv (pj J) 151 [.func (.func 153) #[] #[ptr ⟨bc,0,none⟩]] B [lm] (fun v B' Ls=>∃l a c ks,Ls=[lm,l]∧v = .slice a ks.length c∧ZP Kn.none l a c 9 1 ZbU ks∧ks.Nodup∧∀k,k∈ks↔k∈kvs.map (·.1)):=by
 refine cB 5 Tryz.func151 (h:=?_)
 refine Za (xA (h:=Za (xM (h:=xK [0] rfl ZwC rfl (ZrP _ _ kvs _ hm hkl hk5 _ hcc) (h:=?_)))))
 rintro _ B1 _ hle1 ⟨l1,a1,c1,ks1,rfl,rfl,hv1,hnd1,hmem1⟩
 refine xA (h:=tL2 (Zd ?_))
 exact eN [0,1] rfl t1 ⟨_,_,_,_,rfl,rfl,hv1,oy,oy⟩

theorem ZqL (bc:Nat) (b:Nat) (kvs:KV) (lm:Cells) (hm:Zjs lm b kvs) (hkl :∀k,k∈kvs.map (·.1)→k.length≤2000000) (hk5:kvs.length≤5) (B:Kn) (hcc:Zae B bc 0 [.map (some b)]):Zv (pj J) 115 [.func (.func 153) #[] #[ptr ⟨bc,0,none⟩]] B [lm] (fun v B' Ls=>∃l a c ks,Ls=[lm,l]∧v = .slice a ks.length c∧ZP Kn.none l a c 9 1 ZbU ks∧ks.Pairwise Zeh∧∀k,k∈ks↔k∈kvs.map (·.1)):=by
 refine cB 9 Tryz.func115 (h:=?_)
 refine Za (xA (h:=Za (xM (h:=xK [0] rfl ZwW rfl (ZpX _ _ kvs _ hm hkl hk5 _ hcc) (h:=?_)))))
 rintro _ Bk _ hlek ⟨lk,ak,ck,ksk,rfl,rfl,hvk,hndk,hmemk⟩
 have hk9:ksk.length≤5:=by have:=ZiA hndk (fun k hk=>(hmemk k).1 hk);simp at this;omega
 refine xA (h:=tL2 (Za (xM (h:=xK [1] rfl ZwV rfl (ZsX _ _ _ ksk (oy) oz _ hvk) (h:=?_)))))
 rintro _ Bs _ hles ⟨rfl,ls,yss,rfl,hvs,hps,hws⟩
 refine tL2 (Za (xM (h:=xA (h:=Zd ?_))))
 have e9:=hps.length_eq
 rw [← e9]
 exact eN [0,1] rfl t1 ⟨_,_,_,_,rfl,rfl,hvs,hws,fun k=>(hps.mem_iff).trans (hmemk k)⟩

end Go.Proofs.YtgbaglnnkikkgaaGreatDoor
