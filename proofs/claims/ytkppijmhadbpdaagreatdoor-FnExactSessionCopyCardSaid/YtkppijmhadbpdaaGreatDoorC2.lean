/-
  WHAT THE FUNCTIONS THAT THE LAWS REACH COMPUTE: each function's contract, proved off its printed body (the text is written by program). No condition beyond those that each theorem states.
-/
import Derived.Test.YtkppijmhadbpdaaGreatDoorC1
namespace Go.Proofs.YtkppijmhadbpdaaGreatDoor
open Go Go.BL
set_option linter.unusedVariables false
set_option linter.unusedSimpArgs false
set_option maxRecDepth 4000
set_option maxHeartbeats 6400000
variable {J : JoinT}
theorem ZjG (q:Option Addr) (cp:Nat) (xs:List Str) (l:Cells) (k:Nat) (hk:k≤900000000000000) (hn:xs.length≤2000000) (B:Kn) (hv:ZT B l q cp 9 1 ZdM xs):Zv (pj J) 179 [.slice q xs.length cp,.int .i64 k] B [l] (fun v B' Ls=>B'=B∧∃l',Ls=[l']∧v = .int .i64 ((k+1*xs.length:Nat):Int)∧ZT B l' q cp 9 1 ZdM (Zdw k xs.length)):=by
 refine cB 20 Tryz.func179 (h:=?_)
 have hvc:=hv.cap
 refine Za (xA (h:=Zc (Za (xA (h:=Zg (Zz (α:=Nat × Cells × List Str) [4] (fun g=>[(0,.slice q xs.length cp),(1,.int .i64 ((k+1*g.1:Nat):Int)),(5,.int .i64 g.1)]) [0] (fun g=>[g.2.1]) (fun g Bx=>Bx=B∧g.1≤xs.length∧g.2.2.length=xs.length∧g.2.2.take g.1=Zdw k g.1∧ZT Bx g.2.1 q cp 9 1 ZdM g.2.2) (fun g=>xs.length - g.1) (0,l,xs) t3 rfl (⟨rfl,Nat.zero_le _,rfl,rfl,hv⟩) (fun g B1 hle1 hI=>?_)))))))
 obtain ⟨rfl,hi,hle,ht,hw⟩:=hI
 refine ZD [(0,_),(1,_),(4,_),(5,_)] [_] t4 rfl (Zc (Za (xM (h:=xM (h:=xV Tryz.underlying143 (h:=ZF (h:=Zb rfl (fun g1=>?_) (fun g1=>?_))))))))
 try simp only [sQ,ne_eq] at g1
 refine wSk (Zc (Zg (Za (xM (h:=xM (h:=xM (h:=xR Zkh rfl (Zam (k+1*g.1) oz _) (h:=?_))))))))
 obtain ⟨z1,hz1⟩:=ZY (xs:=g.2.2) (i:=g.1) om
 obtain ⟨bb4,_,hp4,⟨rfl,hb4⟩,hw4,hc4⟩:=hw.row hz1
 refine xIp hp4 Tryz.underlying143 sz9 (h:=Zl (Zgb (k:=g.1) (off:=0) (ZX (k+1*g.1)) [_] 0 hw hp4 hz1 rfl rfl sz9 rfl rfl rfl rfl rfl rfl (by rintro _ ⟨rfl,e1⟩;exact ⟨rfl,show (ZX (k+1*g.1)).length≤2000000 from Nat.le_trans (Zcv (k:=k+1*g.1) oz) (by decide)⟩) (fun l5 hv5=>?_)))
 refine tL1 (Zf (xM (h:=xD (h:=xA (h:=ZK (Zp (Zf (xM (h:=xD (h:=xA (h:=?_)))))))))))
 exact ZC (g.1+1,l5,(g.2.2.set g.1 (ZX (k+1*g.1)))) [0] so2 ⟨rfl,so,by simp only [List.length_set];exact hle,Zmo ht hz1,hv5⟩ t4 rfl
 try simp only [sQ,ne_eq] at g1
 have he:=ZkW ht oz
 have hgi:g.1=xs.length:=by omega
 rw [hgi] at he
 refine ZE (ZV (ZG (Zt (Zp (Za (xM (h:=xA (h:=Zd ?_))))))))
 exact Zd2 .ret (.inl rfl) [_] [0] rfl ⟨rfl,trivial⟩ ⟨rfl,_,rfl,by rw [hgi];rfl,by rw [← he];exact hw⟩

theorem ZjK (k:Nat) (hk:k<6) (B:Kn):Zac (pj J) 224 [.int .i64 k] B (.int .i64 (ZcF k)):=by
 refine cB 7 Tryz.func224 (h:=?_)
 refine Za (xA (h:=Za (xBs [(0,_),(1,_),(2,_),(3,_),(4,_),(5,_)] [_,_,_,_,_,_] Tryz.underlying65 sz3 zo3 (h:=fun b1=>?_))))
 have hvq:ZT B (ZN b1 (([1,2,4,8,16,32]:List Int).map fun x=>.int .i64 x) 3) (some ⟨b1,0,none⟩) 6 3 1 ZcH ([1,2,4,8,16,32]:List Int):=ZT.ints
 refine xM (h:=?_)
 obtain ⟨e,he⟩:=ZY (xs:=([1,2,4,8,16,32]:List Int)) (i:=k) om
 obtain ⟨bb3,_,hp3,rfl,hw3,hc3⟩:=hvq.row he
 refine xIp hp3 Tryz.underlying65 sz3 (h:=Zl (Zo rfl rfl lk3 rfl (hc3 _ 0 rfl 0 _ rfl) (xA (h:=tL1 (Zd ?_)))))
 exact eR t1 ⟨ZH (ZsP he),rfl,rfl⟩

theorem Zvs (q:Option Addr) (cp:Nat) (gs:List DGrant) (u:Str) (hr :∀y,y∈gs→0≤y.rights∧y.rights≤63) (B:Kn) (hg:SlK B q cp 2 Z8 gs):Zac (pj J) 164 [.slice q gs.length cp,str u] B (.int .i64 (Zbu gs u)):=by
 refine cB 55 Tryz.func164 (h:=?_)
 have hgn:=hg.len
 refine Za (xA (h:=Za (xA (h:=Zc (Za (xA (h:=Zg (Zz (α:=Nat × Int) [0,1,4] (fun g=>[(5,.int .i64 g.2),(6,.int .i64 g.1)]) [] (fun g=>[]) (fun g Bx=>Bx=B∧g.1≤6∧g.2=ZfH gs u g.1) (fun g=>6 - g.1) (0,0) t2 rfl (⟨rfl,oz,rfl⟩) (fun g B1 hle1 hI=>?_)))))))))
 obtain ⟨rfl,hk,hs⟩:=hI
 have hbd:=Ziv gs u g.1 hk
 refine ZD [(0,_),(1,_),(4,_),(5,_),(6,_)] [] t5 rfl (Zc (Za (xM (h:=ZF (h:=Zb rfl (fun g1=>?_) (fun g1=>?_))))))
 try simp only [sQ,ne_eq] at g1
 have hp:=ZrP (k:=g.1) oz
 refine wSk (Zc (Zg (Za (xA (h:=Zc (Za (xA (h:=Zg (Zz (α:=Nat × Bool) [0,1,4,5,6,10] (fun o=>[(7,.bool o.2),(8,.int .i64 o.1)]) [] (fun o=>[]) (fun o Bx=>Bx=B1∧o.1≤gs.length∧o.2=(gs.take o.1).any (onB u (ZcF g.1))) (fun o=>gs.length - o.1) (0,false) t2 rfl (⟨rfl,Nat.zero_le _,rfl⟩) (fun o B2 hle2 hI=>?_))))))))))
 obtain ⟨rfl,ho,hon⟩:=hI
 refine ZD [(0,_),(1,_),(4,_),(5,_),(6,_),(7,_),(8,_),(10,_)] [] t8 rfl (Zc (Za (xM (h:=xM (h:=xV Tryz.underlying94 (h:=ZF (h:=Zb rfl (fun g2=>?_) (fun g2=>?_))))))))
 try simp only [sQ,ne_eq] at g2
 obtain ⟨x,hx⟩:=ZY (xs:=gs) (i:=o.1) oz
 have hrx:=hr x (List.mem_of_getElem? hx)
 refine wSk (Zc (Zg (Z2 (same _ _) mo kr ⟨rfl,rfl⟩ (fun _ _=>?_))))
 refine aM 0 rfl (h:=aM 1 rfl (h:=ZaK (d:=20) rfl (fun g3=>?_) (fun g3=>?_)))
 try simp only [sQ,ne_eq] at g3
 refine aZ 2 rfl (h:=aZ 3 rfl (h:=aZ 4 rfl (h:=aZ 5 rfl (h:=aZ 6 rfl (h:=aZ 7 rfl (h:=aZ 8 rfl (h:=aZ 9 rfl (h:=aZ 10 rfl (h:=aZ 11 rfl (h:=aZ 12 rfl (h:=aZ 13 rfl (h:=aZ 14 rfl (h:=aZ 15 rfl (h:=aZ 16 rfl (h:=aZ 17 rfl (h:=aZ 18 rfl (h:=aZ 19 rfl (h:=aZ 20 rfl (h:=aZ 21 rfl (h:=aZ 22 rfl (h:=aZ 23 rfl (h:=aZ 24 rfl (h:=aZ 25 rfl (h:=aZ 26 rfl (h:=aZ 27 rfl (h:=aZ 28 rfl (h:=aPT 29 rfl (h:=aA 30 rfl (h:=Zu kr kr ?_)))))))))))))))))))))))))))))
 refine ZK (Zp (Zf (xM (h:=xD (h:=xA (h:=?_))))))
 exact ZC (o.1+1,true) [] so2 ⟨rfl,so,by rw [Zdg hx,← hon,g3];rfl⟩ t8 rfl
 try simp only [sQ,ne_eq] at g3
 refine aM 2 rfl (h:=aM 3 rfl (h:=?_))
 obtain ⟨bb3,oo3,rfl⟩:=hg.base hx
 obtain ⟨_,⟨rfl,hb4⟩,hc4⟩:=hg.elem hx
 refine aIx 4 rfl Tryz.underlying94 Zd0 (h:=aW 5 rfl Zcz (h:=aT 6 rfl (Zae fun D=>Zo rfl rfl lk9 rfl (hc4 _ 0 _ rfl) r4) (h:=aM 7 rfl (h:=ZrX 8 rfl (h:=aM 9 rfl (h:=ZaK (d:=28) rfl (fun g4=>?_) (fun g4=>?_)))))))
 try simp only [sQ,ne_eq] at g4
 refine aZ 10 rfl (h:=aZ 11 rfl (h:=aZ 12 rfl (h:=aZ 13 rfl (h:=aZ 14 rfl (h:=aZ 15 rfl (h:=aPT 16 rfl (h:=aM 17 rfl (h:=aM 18 rfl (h:=aM 19 rfl (h:=aIx 20 rfl Tryz.underlying94 Zd0 (h:=aW 21 rfl ZdC (h:=aT 22 rfl (Zae fun D=>Zo rfl rfl lk3 rfl (hc4 _ 1 _ rfl) r4) (h:=aM 23 rfl (h:=aT 24 rfl (Zae fun D=>Z7 rfl rfl Zv2 rfl (ZjK g.1 om2 _) r4) (h:=?_)))))))))))))))
 refine aT 25 rfl (Zae fun D=>Zpn (a:=x.rights) (b:=(ZcF g.1)) (r:=Int.tdiv x.rights (ZcF g.1)) rfl rfl rfl rfl oz (Zp8 oz oz oz) r4) (h:=?_)
 refine aT 26 rfl (Zae fun D=>Zsl (a:=(Int.tdiv x.rights (ZcF g.1))) (b:=2) (r:=Int.tmod (Int.tdiv x.rights (ZcF g.1)) 2) rfl rfl rfl rfl (by decide) rfl r4) (h:=?_)
 refine ZrY 27 rfl (h:=aPT 28 rfl (h:=aPF 29 rfl (h:=aA 30 rfl (h:=Zu kr kr ?_))))
 refine ZK (Zp (Zf (xM (h:=xD (h:=xA (h:=?_))))))
 exact ZC (o.1+1,decide (Int.tmod (Int.tdiv x.rights (ZcF g.1)) 2=1)) [] so2 ⟨rfl,so,by rw [Zdg hx,← hon,g3,onB];simp [g4]⟩ t8 rfl
 try simp only [sQ,ne_eq] at g4
 refine aM 10 rfl (h:=aM 11 rfl (h:=aIx 12 rfl Tryz.underlying94 Zd0 (h:=aW 13 rfl Zcz (h:=aT 14 rfl (Zae fun D=>Zo rfl rfl lk9 rfl (hc4 _ 0 _ rfl) r4) (h:=ZrX 15 rfl (h:=aPF 16 rfl (h:=aM 17 rfl (h:=ZaK (d:=36) rfl (fun g5=>?_) (fun g5=>?_)))))))))
 try simp only [sQ,ne_eq] at g5
 refine aM 18 rfl (h:=aM 19 rfl (h:=aIx 20 rfl Tryz.underlying94 Zd0 (h:=aW 21 rfl ZdC (h:=aT 22 rfl (Zae fun D=>Zo rfl rfl lk3 rfl (hc4 _ 1 _ rfl) r4) (h:=aM 23 rfl (h:=aT 24 rfl (Zae fun D=>Z7 rfl rfl Zv2 rfl (ZjK g.1 om2 _) r4) (h:=?_)))))))
 refine aT 25 rfl (Zae fun D=>Zpn (a:=x.rights) (b:=(ZcF g.1)) (r:=Int.tdiv x.rights (ZcF g.1)) rfl rfl rfl rfl oz (Zp8 oz oz oz) r4) (h:=?_)
 refine aT 26 rfl (Zae fun D=>Zsl (a:=(Int.tdiv x.rights (ZcF g.1))) (b:=2) (r:=Int.tmod (Int.tdiv x.rights (ZcF g.1)) 2) rfl rfl rfl rfl (by decide) rfl r4) (h:=?_)
 refine ZrY 27 rfl (h:=aPT 28 rfl (h:=aPF 29 rfl (h:=aA 30 rfl (h:=Zu kr kr ?_))))
 refine ZK (Zp (Zf (xM (h:=xD (h:=xA (h:=?_))))))
 exact ZC (o.1+1,decide (Int.tmod (Int.tdiv x.rights (ZcF g.1)) 2=1)) [] so2 ⟨rfl,so,by rw [Zdg hx,← hon,g3,onB];simp [g5,anyone]⟩ t8 rfl
 try simp only [sQ,ne_eq] at g5
 refine aZ 18 rfl (h:=aZ 19 rfl (h:=aZ 20 rfl (h:=aZ 21 rfl (h:=aZ 22 rfl (h:=aZ 23 rfl (h:=aZ 24 rfl (h:=aZ 25 rfl (h:=aZ 26 rfl (h:=aZ 27 rfl (h:=aPF 28 rfl (h:=aPF 29 rfl (h:=aA 30 rfl (h:=Zu kr kr ?_)))))))))))))
 refine ZK (Zp (Zf (xM (h:=xD (h:=xA (h:=?_))))))
 exact ZC (o.1+1,false) [] so2 ⟨rfl,so,by rw [Zdg hx,← hon,g3,onB];simp [g4,g5,anyone]⟩ t8 rfl
 try simp only [sQ,ne_eq] at g2
 have hae:=ZrT hon oz
 refine ZE (ZV (ZG (Zt (Zp (Za (xM (h:=Zb rfl (fun g6=>?_) (fun g6=>?_))))))))
 try simp only [sQ,ne_eq] at g6
 refine Zf (xM (h:=xM (h:=xR Zv2 rfl (ZjK g.1 om2 _) (h:=?_))))
 refine xD (h:=xA (h:=ZK (Zp (Zf (xM (h:=xD (h:=xA (h:=?_))))))))
 exact ZC (g.1+1,g.2+ZcF g.1) [] so2 ⟨rfl,so,by simp only [ZfH];rw [← hae,if_pos g6,hs]⟩ t5 rfl
 try simp only [sQ,ne_eq] at g6
 refine ZS (ZK (Zp (Zf (xM (h:=xD (h:=xA (h:=?_)))))))
 exact ZC (g.1+1,g.2) [] so2 ⟨rfl,so,by simp only [ZfH];rw [← hae,if_neg (by simp [g6]),hs]⟩ t5 rfl
 try simp only [sQ,ne_eq] at g1
 refine ZE (ZV (ZG (Zt (Zp (Za (xM (h:=xA (h:=Zd ?_))))))))
 exact eR t1 ⟨ZH (by rw [hs,show g.1=6 from by omega];rfl),rfl,rfl⟩

theorem ZnF (q1 q2 q3:Option Addr) (c1 c2 c3:Nat) (x:DHost) (k:Int) (u:Str) (r:Int) (f:DFolder) (hk0:0≤k) (hk:x.folders[k.toNat]? = some f) (hrr:ZhC x.folders) (h1:0<r) (B:Kn) (hf:SlK B q2 c2 5 Zk x.folders):Zac (pj J) 98 [.agg #[str x.domain,.slice q1 x.users.length c1,.slice q2 x.folders.length c2,.int .i64 x.queue.next,.slice q3 x.queue.items.length c3],.int .i64 k,str u,.int .i64 r] B (.bool (ZlG f u r)):=by
 refine cB 31 Tryz.func98 (h:=?_)
 have hfn:=hf.len
 have hkl:=(List.getElem?_eq_some_iff.1 hk).1
 have hrb:=Zme f.grants u
 refine Za (xBx [_,_,_,_,_] (h:=fun b1=>xA (h:=tL1 (Za (xM (h:=xW Zat (h:=x1 ZeB 0 (h:=xM (h:=?_)))))))))
 obtain ⟨bb2,oo2,rfl⟩:=hf.base hk
 obtain ⟨_,⟨qg3,cg3,qm3,cm3,rfl,hg3,hm3,hb3,hb3b⟩,hc3⟩:=hf.elem hk
 have hg3n:=hg3.len
 have hm3n:=hm3.len
 have hm3s:=Zao hm3
 refine xIx Tryz.underlying24 ZbM (h:=xW ZbW (h:=y1 lk9 hc3 0 (h:=Zd4 (h:=xM (h:=Zx (d:=17) rfl (fun g1=>?_) (fun g1=>?_))))))
 refine xP (h:=xP (h:=xP (h:=xP (h:=xP (h:=xP (h:=xP (h:=xP (h:=xP (h:=xP (h:=xP (h:=xP (h:=xT (h:=xA (h:=Zd ?_))))))))))))))
 exact eR t1 ⟨Ze (by simp [ZlG,g1]),rfl,rfl⟩
 refine xW Zat (h:=x1 ZeB 0 (h:=xM (h:=xIx Tryz.underlying24 ZbM (h:=xW Zeg (h:=y1 Zr2 hc3 2 (h:=xM (h:=xR Zz7 rfl (Zvs _ _ f.grants u (by first | assumption | exact hrr _ (List.mem_of_getElem? (oy))) _ hg3) (h:=?_))))))))
 refine xM (h:=Zl (Zpn (a:=(Zbu f.grants u)) (b:=r) (r:=Int.tdiv (Zbu f.grants u) r) rfl rfl rfl rfl oz (Zp8 oz oz oz) ?_))
 refine Zl (Zsl (a:=(Int.tdiv (Zbu f.grants u) r)) (b:=2) (r:=Int.tmod (Int.tdiv (Zbu f.grants u) r) 2) rfl rfl rfl rfl (by decide) rfl ?_)
 refine Zf8 (h:=xF (h:=xA (h:=Zd ?_)))
 exact eR t1 ⟨Ze (by simp [ZlG,g1]),rfl,rfl⟩

theorem ZgT (q1 q2 q3:Option Addr) (c1 c2 c3:Nat) (x:DHost) (u:Str) (k r:Int) (hk:k<x.folders.length) (hrr:ZhC x.folders) (h1:0<r) (B:Kn) (hu:SlK B q1 c1 3 Zn x.users) (hf:SlK B q2 c2 5 Zk x.folders):Zac (pj J) 41 [.agg #[str x.domain,.slice q1 x.users.length c1,.slice q2 x.folders.length c2,.int .i64 x.queue.next,.slice q3 x.queue.items.length c3],str u,.int .i64 k,.int .i64 r] B (.int .i64 (Zhp x.users x.folders u k r)):=by
 refine cB 32 Tryz.func41 (h:=?_)
 refine Za (xBx [_,_,_,_,_] (h:=fun b1=>xA (h:=tL1 (Zc (Zg (Za (xW ZbL (h:=x1 ZiE 0 (h:=xM (h:=xR ZxC rfl (Ze4 _ _ _ _ _ hu) (h:=ZF (h:=xM (h:=Zx (d:=15) rfl (fun g1=>?_) (fun g1=>?_))))))))))))))
 try simp only [sQ,ne_eq] at g1
 refine xP (h:=xP (h:=xT (h:=xA (h:=Zb (t:=true) rfl (fun _=>Za (xA (h:=Zd (ZB (Zm ?_))))) (fun h=>Bool.noConfusion h)))))
 exact eR t1 ⟨ZH (Zj8 (.inl g1)).symm,rfl,rfl⟩
 try simp only [sQ,ne_eq] at g1
 refine xM (h:=ZF (h:=xF (h:=xA (h:=Zb rfl (fun g2=>?_) (fun g2=>?_)))))
 try simp only [sQ,ne_eq] at g2
 refine Za (xA (h:=Zd (ZB (Zm ?_))))
 exact eR t1 ⟨ZH (Zj8 (.inr g2)).symm,rfl,rfl⟩
 try simp only [sQ,ne_eq] at g2
 have hfn:=hf.len
 obtain ⟨f,hf0⟩ :∃f,x.folders[k.toNat]? = some f:=⟨_,List.getElem?_eq_getElem oz⟩
 have hce:=ZrJ (us:=x.users) (u:=u) (r:=r) oz hf0
 refine Za (xL [_,_,_,_,_] Zcd 0 (h:=xM (h:=xM (h:=xR ZA7 rfl (ZnF _ _ _ _ _ _ x k u 1 _ oz (oy) hrr oz _ hf) (h:=?_)))))
 refine xN (h:=xA (h:=Zb rfl (fun g3=>?_) (fun g3=>?_)))
 try simp only [sQ,ne_eq] at g3
 refine Za (xA (h:=Zd (ZB (Zm ?_))))
 exact eR t1 ⟨ZH (by rw [hce,if_pos g3]),rfl,rfl⟩
 try simp only [sQ,ne_eq] at g3
 refine Za (xL [_,_,_,_,_] Zcd 0 (h:=xM (h:=xM (h:=xM (h:=xR ZA7 rfl (ZnF _ _ _ _ _ _ x k u r _ oz (oy) hrr oz _ hf) (h:=?_))))))
 refine xN (h:=xA (h:=Zb rfl (fun g4=>?_) (fun g4=>?_)))
 try simp only [sQ,ne_eq] at g4
 refine Za (xA (h:=Zd (ZB (Zm ?_))))
 exact eR t1 ⟨ZH (by rw [hce,if_neg (by simp [g3]),if_pos g4]),rfl,rfl⟩
 try simp only [sQ,ne_eq] at g4
 refine ZS (ZK (Zp (Za (xA (h:=Zd ?_)))))
 exact eR t1 ⟨ZH (by rw [hce,if_neg (by simp [g3]),if_neg (by simp [g4])]),rfl,rfl⟩

theorem Zlc (q:Option Addr) (cp:Nat) (x:DBox) (B:Kn) (hm:SlK B q cp 3 Z5 x.mail):Zv (pj J) 180 [.agg #[.int .i64 x.next,.slice q x.mail.length cp]] B [] (fun v B' Ls=>B'=B∧∃l a c,Ls=[l]∧v = .agg #[.int .i64 x.next,.slice a x.mail.length c]∧ZT B l a c 99 3 Z5 x.mail):=by
 refine cB 9 Tryz.func180 (h:=?_)
 have hxn:=hm.len
 refine Za (xBx [_,_] (h:=fun b1=>xAl [_,_] Zpc (h:=fun b2=>tL2 (Za (xBs [] [] Tryz.underlying91 Zgg ZlU (h:=fun b3=>xW Zbc (h:=x1 Zh1 0 (h:=Zl (ZcC (R:=Z5) 2 rfl (ZT.lit0 (R:=Z5)) rfl rfl rfl Zwn Zx3 rfl rfl rfl hm.rows Z5.one rfl om (fun l4 p4 c4 hv4=>?_))))))))))
 refine xW Zbc (h:=xS [_] 0 [_,_] ZyD (h:=tL3 (Za (xL [_,_] Zfl 0 (h:=xS [_,_] 1 [_,_] Zjr (h:=tL3 (Zd ?_)))))))
 exact eN [2] rfl ⟨⟨_,rfl,.inr ⟨[_,_],Zfl,Zbw 1 rfl rfl rfl,rfl⟩⟩,trivial⟩ ⟨rfl,_,_,_,rfl,rfl,hv4⟩

theorem ZmD (qa qb:Option Addr) (ca cb:Nat) (x:DFolder) (B:Kn) (hg:SlK B qa ca 2 Z8 x.grants) (hm:SlK B qb cb 3 Z5 x.mail):Zv (pj J) 118 [.agg #[str x.owner,str x.name,.slice qa x.grants.length ca,.int .i64 x.next,.slice qb x.mail.length cb]] B [] (fun v B' Ls=>B'=B∧∃l a c l' a' c',Ls=[l,l']∧v = .agg #[str x.owner,str x.name,.slice a x.grants.length c,.int .i64 x.next,.slice a' x.mail.length c']∧ZT B l a c 259 2 Z8 x.grants∧ZT B l' a' c' 99 3 Z5 x.mail):=by
 refine cB 13 Tryz.func118 (h:=?_)
 have hgn:=hg.len
 have hmn:=hm.len
 refine Za (xBx [_,_,_,_,_] (h:=fun b1=>xAl [_,_,_,_,_] Zgx (h:=fun b2=>tL2 (Za (xBs [] [] Tryz.underlying94 Zd0 Zn3 (h:=fun b3=>xW Zeg (h:=x1 Zr2 0 (h:=Zl (ZcC (R:=Z8) 2 rfl (ZT.lit0 (R:=Z8)) rfl rfl rfl Zy3 ZAQ rfl rfl rfl hg.rows Z8.one rfl om (fun l4 p4 c4 hv4=>?_))))))))))
 refine xW Zeg (h:=xS [_] 0 [_,_,_,_,_] ZyC (h:=tL3 (Za (xW Zbv (h:=xL [_,_] Zfl 0 (h:=xC ZxK rfl (Zlc _ _ (⟨x.next,x.mail⟩:DBox) _ hm) (h:=?_)))))))
 rintro _ B5 _ hle5 ⟨hB5,l5,a5,c5,rfl,rfl,hs5⟩
 have hB5:=hB5.symm
 subst hB5
 refine xW Zbv (h:=xS [_,_] 0 [_,_,_,_,_] Zjr (h:=tL4 (Za (xL [_,_,_,_,_] ZiB 0 (h:=xS [_,_,_,_,_] 1 [_,_,_,_,_] ZbM (h:=tL4 (Zd ?_)))))))
 exact eN [2,3] rfl ⟨⟨_,rfl,.inr ⟨[_,_,_,_,_],ZiB,Zbw 1 rfl rfl rfl,rfl⟩⟩,trivial⟩ ⟨rfl,_,_,_,_,_,_,rfl,rfl,hv4,hs5⟩

theorem Ze3 (q1 q2 q3:Option Addr) (c1 c2 c3:Nat) (x:DHost) (B:Kn) (hu:SlK B q1 c1 3 Zn x.users) (hf:SlK B q2 c2 5 Zk x.folders) (hi:SlK B q3 c3 4 Zy x.queue.items):Zv (pj J) 66 [.agg #[str x.domain,.slice q1 x.users.length c1,.slice q2 x.folders.length c2,.int .i64 x.queue.next,.slice q3 x.queue.items.length c3]] B [] (fun v B' Ls=>∃l a c p1 d1 p3 d3,Ls=[l]∧v = .agg #[str x.domain,.slice p1 x.users.length d1,.slice a x.folders.length c,.int .i64 x.queue.next,.slice p3 x.queue.items.length d3]∧SlK B' p1 d1 3 Zn x.users∧ZT B' l a c 96 5 Zk x.folders∧SlK B' p3 d3 4 Zy x.queue.items):=by
 refine cB 35 Tryz.func66 (h:=?_)
 have hun:=hu.len
 have hfn:=hf.len
 have hin:=hi.len
 refine Za (xBx [_,_,_,_,_] (h:=fun b1=>xAl [_,_,_,_,_] Zb3 (h:=fun b2=>tL2 (Znj (α:=GHC × Gh DFolder) [0,1,2] (fun o=>[(3,ptr ⟨o.1.b,0,none⟩)]) (fun o=>[ZN b1 [str x.domain,.slice q1 x.users.length c1,.slice q2 x.folders.length c2,.int .i64 x.queue.next,.slice q3 x.queue.items.length c3] 29,ZN b2 [str [],.slice none 0 0,.slice none 0 0,.int .i64 0,.slice none 0 0] 29,o.2.l,ZN o.1.b [str x.domain,.slice o.1.q1 x.users.length o.1.c1,.slice o.2.a o.2.xs.length o.2.c,.int .i64 x.queue.next,.slice o.1.q3 x.queue.items.length o.1.c3] 29]) (fun o Bx=>SlK Bx o.1.q1 o.1.c1 3 Zn x.users∧o.2.xs=[]∧ZT Bx o.2.l o.2.a o.2.c 96 5 Zk o.2.xs∧SlK Bx o.1.q3 o.1.c3 4 Zy x.queue.items) ?_ (fun o B3 hle3 hF=>?_)))))
 refine Z2 (keeps _ [0] _) mo kr ⟨Kn.le.refl _,Za6.refl _ _⟩ (fun _ _=>?_)
 refine aW 0 rfl Zif (h:=aT 1 rfl (ZO fun D B L hI=>Zo rfl rfl lk9 rfl (atL 0 (hI.2.1.trans rfl) rfl rfl) r4) (h:=aW 3 rfl ZbL (h:=aT 4 rfl (ZO fun D B L hI=>Zo rfl rfl ZiE rfl (atL 0 (hI.2.1.trans rfl) rfl rfl) r4) (h:=aW 7 rfl ZeS (h:=aT 8 rfl (ZO fun D B L hI=>ZW [_,_] rfl rfl ZlS rfl (Zbw 0 (hI.2.1.trans rfl) rfl rfl) r4) (h:=ZaD [2,6,11] kr kr kr ⟨?_,?_,?_⟩))))))
 refine (ZJ (parts:=[]) [] rfl rfl Tryz.underlying23 Zbq Zeo rfl rfl rfl rfl rfl (fun b4=>⟨⟨Kn.le.refl _,t1⟩,(ZaD [5,6,11] kr kr kr ⟨?_,?_,?_⟩)⟩))
 refine (ZcC (R:=Zn) 2 rfl (ZT.lit0 (R:=Zn)) rfl rfl rfl ZoY Zpd rfl rfl rfl hu.rows Zn.one rfl om (fun l5 p5 c5 hv5=>?_))
 refine ⟨⟨Kn.le.refl _,t1⟩,(ZaT 2 rfl hv5 Zn.mono om3 (fun B' hle'=>⟨hle',t1⟩) (fun B6 hle6 hr6=>?_))⟩
 obtain ⟨hu,hf,hi⟩:=up3 hle6 hu hf hi
 have hr6n:=hr6.len
 refine ZaD [6,9,11] kr kr kr ⟨?_,?_,?_⟩
 refine (ZJ (parts:=[]) [] rfl rfl Tryz.underlying24 ZbM Zgx rfl rfl rfl rfl rfl (fun b7=>⟨⟨hle6,t1⟩,(ZaD [9,11] kr kr kr ⟨?_,?_⟩)⟩))
 refine (Zad rfl rfl ZeL rfl (Zay _ _ x.queue _ hi) ?_)
 rintro _ B8 _ hle8 ⟨l8,a8,c8,rfl,rfl,hv8⟩
 obtain ⟨hu,hf,hi,hr6⟩:=up4 hle8 hu hf hi hr6
 replace hv8:=hv8.mono Zy.mono Kn.less_le
 refine ⟨⟨(hle6.trans hle8),t1⟩,(ZaT 4 rfl hv8 Zy.mono om3 (fun B' hle'=>⟨(hle6.trans hle8).trans hle',t1⟩) (fun B9 hle9 hr9=>?_))⟩
 obtain ⟨hu,hf,hi,hr6⟩:=up4 hle9 hu hf hi hr6
 have hr9n:=hr9.len
 refine aT 10 rfl (ZO fun D B L hI=>Zaq (parts:=[(0,_),(1,_),(2,_),(3,_)]) [_,_,_,_,_] [_,_,_,_,_] rfl rfl Zhn Zb3 rfl rfl rfl r4) (h:=ZA 11 kr rfl kr (Zaj (l:=[_,_,_,_,_]) rfl rfl Zb3 rfl (fun b10=>?_)))
 refine ⟨⟨((hle6.trans hle8).trans hle9),t1⟩,(Zag 12 kr rfl kr kr kr (ZL [_,_,_,_,_] 5 [_,_,_,_,_] rfl rfl ZcL rfl rfl rfl rfl rfl rfl rfl rfl ?_))⟩
 exact Zak ⟨⟨_,_,_,_,_⟩,⟨0,0,_,_,_,[]⟩⟩ [0,1,3,5] ⟨hr6,rfl,ZT.lit0,hr9⟩ t4 rfl
 refine (Zaj (l:=[_,_,_,_,_]) rfl rfl Zb3 rfl (fun b11=>⟨⟨hle6,t1⟩,(ZA 9 kr rfl kr (Zad rfl rfl ZeL rfl (Zay _ _ x.queue _ hi) ?_))⟩))
 rintro _ B12 _ hle12 ⟨l12,a12,c12,rfl,rfl,hv12⟩
 obtain ⟨hu,hf,hi,hr6⟩:=up4 hle12 hu hf hi hr6
 replace hv12:=hv12.mono Zy.mono Kn.less_le
 refine ⟨⟨(hle6.trans hle12),t1⟩,(ZaT 5 rfl hv12 Zy.mono om3 (fun B' hle'=>⟨(hle6.trans hle12).trans hle',t1⟩) (fun B13 hle13 hr13=>?_))⟩
 obtain ⟨hu,hf,hi,hr6⟩:=up4 hle13 hu hf hi hr6
 have hr13n:=hr13.len
 refine aT 10 rfl (ZO fun D B L hI=>Zaq (parts:=[(0,_),(1,_),(2,_),(3,_)]) [_,_,_,_,_] [_,_,_,_,_] rfl rfl Zhn Zb3 rfl rfl rfl r4) (h:=Zag 12 kr rfl kr kr kr (ZL [_,_,_,_,_] 4 [_,_,_,_,_] rfl rfl ZcL rfl rfl rfl rfl rfl rfl rfl rfl ?_))
 exact Zak ⟨⟨_,_,_,_,_⟩,⟨0,0,_,_,_,[]⟩⟩ [0,1,3,4] ⟨hr6,rfl,ZT.lit0,hr13⟩ t4 rfl
 refine (Zad rfl rfl ZeL rfl (Zay _ _ x.queue _ hi) ?_)
 rintro _ B14 _ hle14 ⟨l14,a14,c14,rfl,rfl,hv14⟩
 obtain ⟨hu,hf,hi,hr6⟩:=up4 hle14 hu hf hi hr6
 replace hv14:=hv14.mono Zy.mono Kn.less_le
 refine ⟨⟨(hle6.trans hle14),t1⟩,(ZaT 3 rfl hv14 Zy.mono om3 (fun B' hle'=>⟨(hle6.trans hle14).trans hle',t1⟩) (fun B15 hle15 hr15=>?_))⟩
 obtain ⟨hu,hf,hi,hr6⟩:=up4 hle15 hu hf hi hr6
 have hr15n:=hr15.len
 refine ZaD [6,11] kr kr kr ⟨?_,?_⟩
 refine (ZJ (parts:=[]) [] rfl rfl Tryz.underlying24 ZbM Zgx rfl rfl rfl rfl rfl (fun b16=>⟨⟨((hle6.trans hle14).trans hle15),t1⟩,(aT 10 rfl (ZO fun D B L hI=>Zaq (parts:=[(0,_),(1,_),(2,_),(3,_)]) [_,_,_,_,_] [_,_,_,_,_] rfl rfl Zhn Zb3 rfl rfl rfl r4) (h:=ZA 11 kr rfl kr (Zaj (l:=[_,_,_,_,_]) rfl rfl Zb3 rfl (fun b17=>?_))))⟩))
 refine ⟨⟨((hle6.trans hle14).trans hle15),t1⟩,(Zag 12 kr rfl kr kr kr (ZL [_,_,_,_,_] 5 [_,_,_,_,_] rfl rfl ZcL rfl rfl rfl rfl rfl rfl rfl rfl ?_))⟩
 exact Zak ⟨⟨_,_,_,_,_⟩,⟨0,0,_,_,_,[]⟩⟩ [0,1,4,5] ⟨hr6,rfl,ZT.lit0,hr15⟩ t4 rfl
 refine (Zaj (l:=[_,_,_,_,_]) rfl rfl Zb3 rfl (fun b18=>⟨⟨((hle6.trans hle14).trans hle15),t1⟩,(ZA 6 kr rfl kr (ZJ (parts:=[]) [] rfl rfl Tryz.underlying24 ZbM Zgx rfl rfl rfl rfl rfl (fun b19=>?_)))⟩))
 refine ⟨⟨((hle6.trans hle14).trans hle15),t1⟩,(aT 10 rfl (ZO fun D B L hI=>Zaq (parts:=[(0,_),(1,_),(2,_),(3,_)]) [_,_,_,_,_] [_,_,_,_,_] rfl rfl Zhn Zb3 rfl rfl rfl r4) (h:=Zag 12 kr rfl kr kr kr (ZL [_,_,_,_,_] 4 [_,_,_,_,_] rfl rfl ZcL rfl rfl rfl rfl rfl rfl rfl rfl ?_)))⟩
 exact Zak ⟨⟨_,_,_,_,_⟩,⟨0,0,_,_,_,[]⟩⟩ [0,1,5,4] ⟨hr6,rfl,ZT.lit0,hr15⟩ t4 rfl
 refine (Zaj (l:=[_,_,_,_,_]) rfl rfl Zb3 rfl (fun b20=>⟨⟨hle6,t1⟩,(ZaD [6,9] kr kr kr ⟨?_,?_⟩)⟩))
 refine (ZJ (parts:=[]) [] rfl rfl Tryz.underlying24 ZbM Zgx rfl rfl rfl rfl rfl (fun b21=>⟨⟨hle6,t1⟩,(ZA 9 kr rfl kr (Zad rfl rfl ZeL rfl (Zay _ _ x.queue _ hi) ?_))⟩))
 rintro _ B22 _ hle22 ⟨l22,a22,c22,rfl,rfl,hv22⟩
 obtain ⟨hu,hf,hi,hr6⟩:=up4 hle22 hu hf hi hr6
 replace hv22:=hv22.mono Zy.mono Kn.less_le
 refine ⟨⟨(hle6.trans hle22),t1⟩,(ZaT 5 rfl hv22 Zy.mono om3 (fun B' hle'=>⟨(hle6.trans hle22).trans hle',t1⟩) (fun B23 hle23 hr23=>?_))⟩
 obtain ⟨hu,hf,hi,hr6⟩:=up4 hle23 hu hf hi hr6
 have hr23n:=hr23.len
 refine aT 10 rfl (ZO fun D B L hI=>Zaq (parts:=[(0,_),(1,_),(2,_),(3,_)]) [_,_,_,_,_] [_,_,_,_,_] rfl rfl Zhn Zb3 rfl rfl rfl r4) (h:=Zag 12 kr rfl kr kr kr (ZL [_,_,_,_,_] 3 [_,_,_,_,_] rfl rfl ZcL rfl rfl rfl rfl rfl rfl rfl rfl ?_))
 exact Zak ⟨⟨_,_,_,_,_⟩,⟨0,0,_,_,_,[]⟩⟩ [0,1,4,3] ⟨hr6,rfl,ZT.lit0,hr23⟩ t4 rfl
 refine (Zad rfl rfl ZeL rfl (Zay _ _ x.queue _ hi) ?_)
 rintro _ B24 _ hle24 ⟨l24,a24,c24,rfl,rfl,hv24⟩
 obtain ⟨hu,hf,hi,hr6⟩:=up4 hle24 hu hf hi hr6
 replace hv24:=hv24.mono Zy.mono Kn.less_le
 refine ⟨⟨(hle6.trans hle24),t1⟩,(ZaT 4 rfl hv24 Zy.mono om3 (fun B' hle'=>⟨(hle6.trans hle24).trans hle',t1⟩) (fun B25 hle25 hr25=>?_))⟩
 obtain ⟨hu,hf,hi,hr6⟩:=up4 hle25 hu hf hi hr6
 have hr25n:=hr25.len
 refine ZA 6 kr rfl kr (ZJ (parts:=[]) [] rfl rfl Tryz.underlying24 ZbM Zgx rfl rfl rfl rfl rfl (fun b26=>?_))
 refine ⟨⟨((hle6.trans hle24).trans hle25),t1⟩,(aT 10 rfl (ZO fun D B L hI=>Zaq (parts:=[(0,_),(1,_),(2,_),(3,_)]) [_,_,_,_,_] [_,_,_,_,_] rfl rfl Zhn Zb3 rfl rfl rfl r4) (h:=Zag 12 kr rfl kr kr kr (ZL [_,_,_,_,_] 3 [_,_,_,_,_] rfl rfl ZcL rfl rfl rfl rfl rfl rfl rfl rfl ?_)))⟩
 exact Zak ⟨⟨_,_,_,_,_⟩,⟨0,0,_,_,_,[]⟩⟩ [0,1,5,3] ⟨hr6,rfl,ZT.lit0,hr25⟩ t4 rfl
 refine (ZJ (parts:=[]) [] rfl rfl Tryz.underlying24 ZbM Zgx rfl rfl rfl rfl rfl (fun b27=>⟨⟨Kn.le.refl _,t1⟩,(ZaD [5,11] kr kr kr ⟨?_,?_⟩)⟩))
 refine (ZcC (R:=Zn) 2 rfl (ZT.lit0 (R:=Zn)) rfl rfl rfl ZoY Zpd rfl rfl rfl hu.rows Zn.one rfl om (fun l28 p28 c28 hv28=>?_))
 refine ⟨⟨Kn.le.refl _,t1⟩,(ZaT 2 rfl hv28 Zn.mono om3 (fun B' hle'=>⟨hle',t1⟩) (fun B29 hle29 hr29=>?_))⟩
 obtain ⟨hu,hf,hi⟩:=up3 hle29 hu hf hi
 have hr29n:=hr29.len
 refine ZaD [9,11] kr kr kr ⟨?_,?_⟩
 refine (Zad rfl rfl ZeL rfl (Zay _ _ x.queue _ hi) ?_)
 rintro _ B30 _ hle30 ⟨l30,a30,c30,rfl,rfl,hv30⟩
 obtain ⟨hu,hf,hi,hr29⟩:=up4 hle30 hu hf hi hr29
 replace hv30:=hv30.mono Zy.mono Kn.less_le
 refine ⟨⟨(hle29.trans hle30),t1⟩,(ZaT 4 rfl hv30 Zy.mono om3 (fun B' hle'=>⟨(hle29.trans hle30).trans hle',t1⟩) (fun B31 hle31 hr31=>?_))⟩
 obtain ⟨hu,hf,hi,hr29⟩:=up4 hle31 hu hf hi hr29
 have hr31n:=hr31.len
 refine aT 10 rfl (ZO fun D B L hI=>Zaq (parts:=[(0,_),(1,_),(2,_),(3,_)]) [_,_,_,_,_] [_,_,_,_,_] rfl rfl Zhn Zb3 rfl rfl rfl r4) (h:=ZA 11 kr rfl kr (Zaj (l:=[_,_,_,_,_]) rfl rfl Zb3 rfl (fun b32=>?_)))
 refine ⟨⟨((hle29.trans hle30).trans hle31),t1⟩,(Zag 12 kr rfl kr kr kr (ZL [_,_,_,_,_] 5 [_,_,_,_,_] rfl rfl ZcL rfl rfl rfl rfl rfl rfl rfl rfl ?_))⟩
 exact Zak ⟨⟨_,_,_,_,_⟩,⟨0,0,_,_,_,[]⟩⟩ [0,1,3,5] ⟨hr29,rfl,ZT.lit0,hr31⟩ t4 rfl
 refine (Zaj (l:=[_,_,_,_,_]) rfl rfl Zb3 rfl (fun b33=>⟨⟨hle29,t1⟩,(ZA 9 kr rfl kr (Zad rfl rfl ZeL rfl (Zay _ _ x.queue _ hi) ?_))⟩))
 rintro _ B34 _ hle34 ⟨l34,a34,c34,rfl,rfl,hv34⟩
 obtain ⟨hu,hf,hi,hr29⟩:=up4 hle34 hu hf hi hr29
 replace hv34:=hv34.mono Zy.mono Kn.less_le
 refine ⟨⟨(hle29.trans hle34),t1⟩,(ZaT 5 rfl hv34 Zy.mono om3 (fun B' hle'=>⟨(hle29.trans hle34).trans hle',t1⟩) (fun B35 hle35 hr35=>?_))⟩
 obtain ⟨hu,hf,hi,hr29⟩:=up4 hle35 hu hf hi hr29
 have hr35n:=hr35.len
 refine aT 10 rfl (ZO fun D B L hI=>Zaq (parts:=[(0,_),(1,_),(2,_),(3,_)]) [_,_,_,_,_] [_,_,_,_,_] rfl rfl Zhn Zb3 rfl rfl rfl r4) (h:=Zag 12 kr rfl kr kr kr (ZL [_,_,_,_,_] 4 [_,_,_,_,_] rfl rfl ZcL rfl rfl rfl rfl rfl rfl rfl rfl ?_))
 exact Zak ⟨⟨_,_,_,_,_⟩,⟨0,0,_,_,_,[]⟩⟩ [0,1,3,4] ⟨hr29,rfl,ZT.lit0,hr35⟩ t4 rfl
 refine (Zaj (l:=[_,_,_,_,_]) rfl rfl Zb3 rfl (fun b36=>⟨⟨Kn.le.refl _,t1⟩,(ZA 5 kr rfl kr (ZcC (R:=Zn) 2 rfl (ZT.lit0 (R:=Zn)) rfl rfl rfl ZoY Zpd rfl rfl rfl hu.rows Zn.one rfl om (fun l37 p37 c37 hv37=>?_)))⟩))
 refine ⟨⟨Kn.le.refl _,t1⟩,(ZaT 2 rfl hv37 Zn.mono om3 (fun B' hle'=>⟨hle',t1⟩) (fun B38 hle38 hr38=>?_))⟩
 obtain ⟨hu,hf,hi⟩:=up3 hle38 hu hf hi
 have hr38n:=hr38.len
 refine ZA 9 kr rfl kr (Zad rfl rfl ZeL rfl (Zay _ _ x.queue _ hi) ?_)
 rintro _ B39 _ hle39 ⟨l39,a39,c39,rfl,rfl,hv39⟩
 obtain ⟨hu,hf,hi,hr38⟩:=up4 hle39 hu hf hi hr38
 replace hv39:=hv39.mono Zy.mono Kn.less_le
 refine ⟨⟨(hle38.trans hle39),t1⟩,(ZaT 5 rfl hv39 Zy.mono om3 (fun B' hle'=>⟨(hle38.trans hle39).trans hle',t1⟩) (fun B40 hle40 hr40=>?_))⟩
 obtain ⟨hu,hf,hi,hr38⟩:=up4 hle40 hu hf hi hr38
 have hr40n:=hr40.len
 refine aT 10 rfl (ZO fun D B L hI=>Zaq (parts:=[(0,_),(1,_),(2,_),(3,_)]) [_,_,_,_,_] [_,_,_,_,_] rfl rfl Zhn Zb3 rfl rfl rfl r4) (h:=Zag 12 kr rfl kr kr kr (ZL [_,_,_,_,_] 4 [_,_,_,_,_] rfl rfl ZcL rfl rfl rfl rfl rfl rfl rfl rfl ?_))
 exact Zak ⟨⟨_,_,_,_,_⟩,⟨0,0,_,_,_,[]⟩⟩ [0,1,3,4] ⟨hr38,rfl,ZT.lit0,hr40⟩ t4 rfl
 refine (Zaj (l:=[_,_,_,_,_]) rfl rfl Zb3 rfl (fun b41=>⟨⟨Kn.le.refl _,t1⟩,(ZaD [5,6] kr kr kr ⟨?_,?_⟩)⟩))
 refine (ZcC (R:=Zn) 2 rfl (ZT.lit0 (R:=Zn)) rfl rfl rfl ZoY Zpd rfl rfl rfl hu.rows Zn.one rfl om (fun l42 p42 c42 hv42=>?_))
 refine ⟨⟨Kn.le.refl _,t1⟩,(ZaT 2 rfl hv42 Zn.mono om3 (fun B' hle'=>⟨hle',t1⟩) (fun B43 hle43 hr43=>?_))⟩
 obtain ⟨hu,hf,hi⟩:=up3 hle43 hu hf hi
 have hr43n:=hr43.len
 refine ZaD [6,9] kr kr kr ⟨?_,?_⟩
 refine (ZJ (parts:=[]) [] rfl rfl Tryz.underlying24 ZbM Zgx rfl rfl rfl rfl rfl (fun b44=>⟨⟨hle43,t1⟩,(ZA 9 kr rfl kr (Zad rfl rfl ZeL rfl (Zay _ _ x.queue _ hi) ?_))⟩))
 rintro _ B45 _ hle45 ⟨l45,a45,c45,rfl,rfl,hv45⟩
 obtain ⟨hu,hf,hi,hr43⟩:=up4 hle45 hu hf hi hr43
 replace hv45:=hv45.mono Zy.mono Kn.less_le
 refine ⟨⟨(hle43.trans hle45),t1⟩,(ZaT 5 rfl hv45 Zy.mono om3 (fun B' hle'=>⟨(hle43.trans hle45).trans hle',t1⟩) (fun B46 hle46 hr46=>?_))⟩
 obtain ⟨hu,hf,hi,hr43⟩:=up4 hle46 hu hf hi hr43
 have hr46n:=hr46.len
 refine aT 10 rfl (ZO fun D B L hI=>Zaq (parts:=[(0,_),(1,_),(2,_),(3,_)]) [_,_,_,_,_] [_,_,_,_,_] rfl rfl Zhn Zb3 rfl rfl rfl r4) (h:=Zag 12 kr rfl kr kr kr (ZL [_,_,_,_,_] 3 [_,_,_,_,_] rfl rfl ZcL rfl rfl rfl rfl rfl rfl rfl rfl ?_))
 exact Zak ⟨⟨_,_,_,_,_⟩,⟨0,0,_,_,_,[]⟩⟩ [0,1,4,3] ⟨hr43,rfl,ZT.lit0,hr46⟩ t4 rfl
 refine (Zad rfl rfl ZeL rfl (Zay _ _ x.queue _ hi) ?_)
 rintro _ B47 _ hle47 ⟨l47,a47,c47,rfl,rfl,hv47⟩
 obtain ⟨hu,hf,hi,hr43⟩:=up4 hle47 hu hf hi hr43
 replace hv47:=hv47.mono Zy.mono Kn.less_le
 refine ⟨⟨(hle43.trans hle47),t1⟩,(ZaT 4 rfl hv47 Zy.mono om3 (fun B' hle'=>⟨(hle43.trans hle47).trans hle',t1⟩) (fun B48 hle48 hr48=>?_))⟩
 obtain ⟨hu,hf,hi,hr43⟩:=up4 hle48 hu hf hi hr43
 have hr48n:=hr48.len
 refine ZA 6 kr rfl kr (ZJ (parts:=[]) [] rfl rfl Tryz.underlying24 ZbM Zgx rfl rfl rfl rfl rfl (fun b49=>?_))
 refine ⟨⟨((hle43.trans hle47).trans hle48),t1⟩,(aT 10 rfl (ZO fun D B L hI=>Zaq (parts:=[(0,_),(1,_),(2,_),(3,_)]) [_,_,_,_,_] [_,_,_,_,_] rfl rfl Zhn Zb3 rfl rfl rfl r4) (h:=Zag 12 kr rfl kr kr kr (ZL [_,_,_,_,_] 3 [_,_,_,_,_] rfl rfl ZcL rfl rfl rfl rfl rfl rfl rfl rfl ?_)))⟩
 exact Zak ⟨⟨_,_,_,_,_⟩,⟨0,0,_,_,_,[]⟩⟩ [0,1,5,3] ⟨hr43,rfl,ZT.lit0,hr48⟩ t4 rfl
 refine (ZJ (parts:=[]) [] rfl rfl Tryz.underlying24 ZbM Zgx rfl rfl rfl rfl rfl (fun b50=>⟨⟨Kn.le.refl _,t1⟩,(ZA 5 kr rfl kr (ZcC (R:=Zn) 2 rfl (ZT.lit0 (R:=Zn)) rfl rfl rfl ZoY Zpd rfl rfl rfl hu.rows Zn.one rfl om (fun l51 p51 c51 hv51=>?_)))⟩))
 refine ⟨⟨Kn.le.refl _,t1⟩,(ZaT 2 rfl hv51 Zn.mono om3 (fun B' hle'=>⟨hle',t1⟩) (fun B52 hle52 hr52=>?_))⟩
 obtain ⟨hu,hf,hi⟩:=up3 hle52 hu hf hi
 have hr52n:=hr52.len
 refine ZA 9 kr rfl kr (Zad rfl rfl ZeL rfl (Zay _ _ x.queue _ hi) ?_)
 rintro _ B53 _ hle53 ⟨l53,a53,c53,rfl,rfl,hv53⟩
 obtain ⟨hu,hf,hi,hr52⟩:=up4 hle53 hu hf hi hr52
 replace hv53:=hv53.mono Zy.mono Kn.less_le
 refine ⟨⟨(hle52.trans hle53),t1⟩,(ZaT 5 rfl hv53 Zy.mono om3 (fun B' hle'=>⟨(hle52.trans hle53).trans hle',t1⟩) (fun B54 hle54 hr54=>?_))⟩
 obtain ⟨hu,hf,hi,hr52⟩:=up4 hle54 hu hf hi hr52
 have hr54n:=hr54.len
 refine aT 10 rfl (ZO fun D B L hI=>Zaq (parts:=[(0,_),(1,_),(2,_),(3,_)]) [_,_,_,_,_] [_,_,_,_,_] rfl rfl Zhn Zb3 rfl rfl rfl r4) (h:=Zag 12 kr rfl kr kr kr (ZL [_,_,_,_,_] 3 [_,_,_,_,_] rfl rfl ZcL rfl rfl rfl rfl rfl rfl rfl rfl ?_))
 exact Zak ⟨⟨_,_,_,_,_⟩,⟨0,0,_,_,_,[]⟩⟩ [0,1,4,3] ⟨hr52,rfl,ZT.lit0,hr54⟩ t4 rfl
 refine (ZJ (parts:=[]) [] rfl rfl Tryz.underlying24 ZbM Zgx rfl rfl rfl rfl rfl (fun b55=>⟨⟨Kn.le.refl _,t1⟩,(ZaD [2,11] kr kr kr ⟨?_,?_⟩)⟩))
 refine (ZJ (parts:=[]) [] rfl rfl Tryz.underlying23 Zbq Zeo rfl rfl rfl rfl rfl (fun b56=>⟨⟨Kn.le.refl _,t1⟩,(ZaD [5,11] kr kr kr ⟨?_,?_⟩)⟩))
 refine (ZcC (R:=Zn) 3 rfl (ZT.lit0 (R:=Zn)) rfl rfl rfl ZoY Zpd rfl rfl rfl hu.rows Zn.one rfl om (fun l57 p57 c57 hv57=>?_))
 refine ⟨⟨Kn.le.refl _,t1⟩,(ZaT 3 rfl hv57 Zn.mono om3 (fun B' hle'=>⟨hle',t1⟩) (fun B58 hle58 hr58=>?_))⟩
 obtain ⟨hu,hf,hi⟩:=up3 hle58 hu hf hi
 have hr58n:=hr58.len
 refine ZaD [9,11] kr kr kr ⟨?_,?_⟩
 refine (Zad rfl rfl ZeL rfl (Zay _ _ x.queue _ hi) ?_)
 rintro _ B59 _ hle59 ⟨l59,a59,c59,rfl,rfl,hv59⟩
 obtain ⟨hu,hf,hi,hr58⟩:=up4 hle59 hu hf hi hr58
 replace hv59:=hv59.mono Zy.mono Kn.less_le
 refine ⟨⟨(hle58.trans hle59),t1⟩,(ZaT 4 rfl hv59 Zy.mono om3 (fun B' hle'=>⟨(hle58.trans hle59).trans hle',t1⟩) (fun B60 hle60 hr60=>?_))⟩
 obtain ⟨hu,hf,hi,hr58⟩:=up4 hle60 hu hf hi hr58
 have hr60n:=hr60.len
 refine aT 10 rfl (ZO fun D B L hI=>Zaq (parts:=[(0,_),(1,_),(2,_),(3,_)]) [_,_,_,_,_] [_,_,_,_,_] rfl rfl Zhn Zb3 rfl rfl rfl r4) (h:=ZA 11 kr rfl kr (Zaj (l:=[_,_,_,_,_]) rfl rfl Zb3 rfl (fun b61=>?_)))
 refine ⟨⟨((hle58.trans hle59).trans hle60),t1⟩,(Zag 12 kr rfl kr kr kr (ZL [_,_,_,_,_] 5 [_,_,_,_,_] rfl rfl ZcL rfl rfl rfl rfl rfl rfl rfl rfl ?_))⟩
 exact Zak ⟨⟨_,_,_,_,_⟩,⟨0,0,_,_,_,[]⟩⟩ [0,1,2,5] ⟨hr58,rfl,ZT.lit0,hr60⟩ t4 rfl
 refine (Zaj (l:=[_,_,_,_,_]) rfl rfl Zb3 rfl (fun b62=>⟨⟨hle58,t1⟩,(ZA 9 kr rfl kr (Zad rfl rfl ZeL rfl (Zay _ _ x.queue _ hi) ?_))⟩))
 rintro _ B63 _ hle63 ⟨l63,a63,c63,rfl,rfl,hv63⟩
 obtain ⟨hu,hf,hi,hr58⟩:=up4 hle63 hu hf hi hr58
 replace hv63:=hv63.mono Zy.mono Kn.less_le
 refine ⟨⟨(hle58.trans hle63),t1⟩,(ZaT 5 rfl hv63 Zy.mono om3 (fun B' hle'=>⟨(hle58.trans hle63).trans hle',t1⟩) (fun B64 hle64 hr64=>?_))⟩
 obtain ⟨hu,hf,hi,hr58⟩:=up4 hle64 hu hf hi hr58
 have hr64n:=hr64.len
 refine aT 10 rfl (ZO fun D B L hI=>Zaq (parts:=[(0,_),(1,_),(2,_),(3,_)]) [_,_,_,_,_] [_,_,_,_,_] rfl rfl Zhn Zb3 rfl rfl rfl r4) (h:=Zag 12 kr rfl kr kr kr (ZL [_,_,_,_,_] 4 [_,_,_,_,_] rfl rfl ZcL rfl rfl rfl rfl rfl rfl rfl rfl ?_))
 exact Zak ⟨⟨_,_,_,_,_⟩,⟨0,0,_,_,_,[]⟩⟩ [0,1,2,4] ⟨hr58,rfl,ZT.lit0,hr64⟩ t4 rfl
 refine (Zaj (l:=[_,_,_,_,_]) rfl rfl Zb3 rfl (fun b65=>⟨⟨Kn.le.refl _,t1⟩,(ZA 5 kr rfl kr (ZcC (R:=Zn) 3 rfl (ZT.lit0 (R:=Zn)) rfl rfl rfl ZoY Zpd rfl rfl rfl hu.rows Zn.one rfl om (fun l66 p66 c66 hv66=>?_)))⟩))
 refine ⟨⟨Kn.le.refl _,t1⟩,(ZaT 3 rfl hv66 Zn.mono om3 (fun B' hle'=>⟨hle',t1⟩) (fun B67 hle67 hr67=>?_))⟩
 obtain ⟨hu,hf,hi⟩:=up3 hle67 hu hf hi
 have hr67n:=hr67.len
 refine ZA 9 kr rfl kr (Zad rfl rfl ZeL rfl (Zay _ _ x.queue _ hi) ?_)
 rintro _ B68 _ hle68 ⟨l68,a68,c68,rfl,rfl,hv68⟩
 obtain ⟨hu,hf,hi,hr67⟩:=up4 hle68 hu hf hi hr67
 replace hv68:=hv68.mono Zy.mono Kn.less_le
 refine ⟨⟨(hle67.trans hle68),t1⟩,(ZaT 5 rfl hv68 Zy.mono om3 (fun B' hle'=>⟨(hle67.trans hle68).trans hle',t1⟩) (fun B69 hle69 hr69=>?_))⟩
 obtain ⟨hu,hf,hi,hr67⟩:=up4 hle69 hu hf hi hr67
 have hr69n:=hr69.len
 refine aT 10 rfl (ZO fun D B L hI=>Zaq (parts:=[(0,_),(1,_),(2,_),(3,_)]) [_,_,_,_,_] [_,_,_,_,_] rfl rfl Zhn Zb3 rfl rfl rfl r4) (h:=Zag 12 kr rfl kr kr kr (ZL [_,_,_,_,_] 4 [_,_,_,_,_] rfl rfl ZcL rfl rfl rfl rfl rfl rfl rfl rfl ?_))
 exact Zak ⟨⟨_,_,_,_,_⟩,⟨0,0,_,_,_,[]⟩⟩ [0,1,2,4] ⟨hr67,rfl,ZT.lit0,hr69⟩ t4 rfl
 refine (Zaj (l:=[_,_,_,_,_]) rfl rfl Zb3 rfl (fun b70=>⟨⟨Kn.le.refl _,t1⟩,(ZA 2 kr rfl kr (ZJ (parts:=[]) [] rfl rfl Tryz.underlying23 Zbq Zeo rfl rfl rfl rfl rfl (fun b71=>?_)))⟩))
 refine ⟨⟨Kn.le.refl _,t1⟩,(ZA 5 kr rfl kr (ZcC (R:=Zn) 4 rfl (ZT.lit0 (R:=Zn)) rfl rfl rfl ZoY Zpd rfl rfl rfl hu.rows Zn.one rfl om (fun l72 p72 c72 hv72=>?_)))⟩
 refine ⟨⟨Kn.le.refl _,t1⟩,(ZaT 4 rfl hv72 Zn.mono om3 (fun B' hle'=>⟨hle',t1⟩) (fun B73 hle73 hr73=>?_))⟩
 obtain ⟨hu,hf,hi⟩:=up3 hle73 hu hf hi
 have hr73n:=hr73.len
 refine ZA 9 kr rfl kr (Zad rfl rfl ZeL rfl (Zay _ _ x.queue _ hi) ?_)
 rintro _ B74 _ hle74 ⟨l74,a74,c74,rfl,rfl,hv74⟩
 obtain ⟨hu,hf,hi,hr73⟩:=up4 hle74 hu hf hi hr73
 replace hv74:=hv74.mono Zy.mono Kn.less_le
 refine ⟨⟨(hle73.trans hle74),t1⟩,(ZaT 5 rfl hv74 Zy.mono om3 (fun B' hle'=>⟨(hle73.trans hle74).trans hle',t1⟩) (fun B75 hle75 hr75=>?_))⟩
 obtain ⟨hu,hf,hi,hr73⟩:=up4 hle75 hu hf hi hr73
 have hr75n:=hr75.len
 refine aT 10 rfl (ZO fun D B L hI=>Zaq (parts:=[(0,_),(1,_),(2,_),(3,_)]) [_,_,_,_,_] [_,_,_,_,_] rfl rfl Zhn Zb3 rfl rfl rfl r4) (h:=Zag 12 kr rfl kr kr kr (ZL [_,_,_,_,_] 3 [_,_,_,_,_] rfl rfl ZcL rfl rfl rfl rfl rfl rfl rfl rfl ?_))
 exact Zak ⟨⟨_,_,_,_,_⟩,⟨0,0,_,_,_,[]⟩⟩ [0,1,2,3] ⟨hr73,rfl,ZT.lit0,hr75⟩ t4 rfl
 refine (Zaj (l:=[_,_,_,_,_]) rfl rfl Zb3 rfl (fun b76=>⟨⟨Kn.le.refl _,t1⟩,(ZaD [2,6] kr kr kr ⟨?_,?_⟩)⟩))
 refine (ZJ (parts:=[]) [] rfl rfl Tryz.underlying23 Zbq Zeo rfl rfl rfl rfl rfl (fun b77=>⟨⟨Kn.le.refl _,t1⟩,(ZaD [5,6] kr kr kr ⟨?_,?_⟩)⟩))
 refine (ZcC (R:=Zn) 3 rfl (ZT.lit0 (R:=Zn)) rfl rfl rfl ZoY Zpd rfl rfl rfl hu.rows Zn.one rfl om (fun l78 p78 c78 hv78=>?_))
 refine ⟨⟨Kn.le.refl _,t1⟩,(ZaT 3 rfl hv78 Zn.mono om3 (fun B' hle'=>⟨hle',t1⟩) (fun B79 hle79 hr79=>?_))⟩
 obtain ⟨hu,hf,hi⟩:=up3 hle79 hu hf hi
 have hr79n:=hr79.len
 refine ZaD [6,9] kr kr kr ⟨?_,?_⟩
 refine (ZJ (parts:=[]) [] rfl rfl Tryz.underlying24 ZbM Zgx rfl rfl rfl rfl rfl (fun b80=>⟨⟨hle79,t1⟩,(ZA 9 kr rfl kr (Zad rfl rfl ZeL rfl (Zay _ _ x.queue _ hi) ?_))⟩))
 rintro _ B81 _ hle81 ⟨l81,a81,c81,rfl,rfl,hv81⟩
 obtain ⟨hu,hf,hi,hr79⟩:=up4 hle81 hu hf hi hr79
 replace hv81:=hv81.mono Zy.mono Kn.less_le
 refine ⟨⟨(hle79.trans hle81),t1⟩,(ZaT 5 rfl hv81 Zy.mono om3 (fun B' hle'=>⟨(hle79.trans hle81).trans hle',t1⟩) (fun B82 hle82 hr82=>?_))⟩
 obtain ⟨hu,hf,hi,hr79⟩:=up4 hle82 hu hf hi hr79
 have hr82n:=hr82.len
 refine aT 10 rfl (ZO fun D B L hI=>Zaq (parts:=[(0,_),(1,_),(2,_),(3,_)]) [_,_,_,_,_] [_,_,_,_,_] rfl rfl Zhn Zb3 rfl rfl rfl r4) (h:=Zag 12 kr rfl kr kr kr (ZL [_,_,_,_,_] 2 [_,_,_,_,_] rfl rfl ZcL rfl rfl rfl rfl rfl rfl rfl rfl ?_))
 exact Zak ⟨⟨_,_,_,_,_⟩,⟨0,0,_,_,_,[]⟩⟩ [0,1,4,2] ⟨hr79,rfl,ZT.lit0,hr82⟩ t4 rfl
 refine (Zad rfl rfl ZeL rfl (Zay _ _ x.queue _ hi) ?_)
 rintro _ B83 _ hle83 ⟨l83,a83,c83,rfl,rfl,hv83⟩
 obtain ⟨hu,hf,hi,hr79⟩:=up4 hle83 hu hf hi hr79
 replace hv83:=hv83.mono Zy.mono Kn.less_le
 refine ⟨⟨(hle79.trans hle83),t1⟩,(ZaT 4 rfl hv83 Zy.mono om3 (fun B' hle'=>⟨(hle79.trans hle83).trans hle',t1⟩) (fun B84 hle84 hr84=>?_))⟩
 obtain ⟨hu,hf,hi,hr79⟩:=up4 hle84 hu hf hi hr79
 have hr84n:=hr84.len
 refine ZA 6 kr rfl kr (ZJ (parts:=[]) [] rfl rfl Tryz.underlying24 ZbM Zgx rfl rfl rfl rfl rfl (fun b85=>?_))
 refine ⟨⟨((hle79.trans hle83).trans hle84),t1⟩,(aT 10 rfl (ZO fun D B L hI=>Zaq (parts:=[(0,_),(1,_),(2,_),(3,_)]) [_,_,_,_,_] [_,_,_,_,_] rfl rfl Zhn Zb3 rfl rfl rfl r4) (h:=Zag 12 kr rfl kr kr kr (ZL [_,_,_,_,_] 2 [_,_,_,_,_] rfl rfl ZcL rfl rfl rfl rfl rfl rfl rfl rfl ?_)))⟩
 exact Zak ⟨⟨_,_,_,_,_⟩,⟨0,0,_,_,_,[]⟩⟩ [0,1,5,2] ⟨hr79,rfl,ZT.lit0,hr84⟩ t4 rfl
 refine (ZJ (parts:=[]) [] rfl rfl Tryz.underlying24 ZbM Zgx rfl rfl rfl rfl rfl (fun b86=>⟨⟨Kn.le.refl _,t1⟩,(ZA 5 kr rfl kr (ZcC (R:=Zn) 3 rfl (ZT.lit0 (R:=Zn)) rfl rfl rfl ZoY Zpd rfl rfl rfl hu.rows Zn.one rfl om (fun l87 p87 c87 hv87=>?_)))⟩))
 refine ⟨⟨Kn.le.refl _,t1⟩,(ZaT 3 rfl hv87 Zn.mono om3 (fun B' hle'=>⟨hle',t1⟩) (fun B88 hle88 hr88=>?_))⟩
 obtain ⟨hu,hf,hi⟩:=up3 hle88 hu hf hi
 have hr88n:=hr88.len
 refine ZA 9 kr rfl kr (Zad rfl rfl ZeL rfl (Zay _ _ x.queue _ hi) ?_)
 rintro _ B89 _ hle89 ⟨l89,a89,c89,rfl,rfl,hv89⟩
 obtain ⟨hu,hf,hi,hr88⟩:=up4 hle89 hu hf hi hr88
 replace hv89:=hv89.mono Zy.mono Kn.less_le
 refine ⟨⟨(hle88.trans hle89),t1⟩,(ZaT 5 rfl hv89 Zy.mono om3 (fun B' hle'=>⟨(hle88.trans hle89).trans hle',t1⟩) (fun B90 hle90 hr90=>?_))⟩
 obtain ⟨hu,hf,hi,hr88⟩:=up4 hle90 hu hf hi hr88
 have hr90n:=hr90.len
 refine aT 10 rfl (ZO fun D B L hI=>Zaq (parts:=[(0,_),(1,_),(2,_),(3,_)]) [_,_,_,_,_] [_,_,_,_,_] rfl rfl Zhn Zb3 rfl rfl rfl r4) (h:=Zag 12 kr rfl kr kr kr (ZL [_,_,_,_,_] 2 [_,_,_,_,_] rfl rfl ZcL rfl rfl rfl rfl rfl rfl rfl rfl ?_))
 exact Zak ⟨⟨_,_,_,_,_⟩,⟨0,0,_,_,_,[]⟩⟩ [0,1,4,2] ⟨hr88,rfl,ZT.lit0,hr90⟩ t4 rfl
 refine (ZJ (parts:=[]) [] rfl rfl Tryz.underlying24 ZbM Zgx rfl rfl rfl rfl rfl (fun b91=>⟨⟨Kn.le.refl _,t1⟩,(ZA 2 kr rfl kr (ZJ (parts:=[]) [] rfl rfl Tryz.underlying23 Zbq Zeo rfl rfl rfl rfl rfl (fun b92=>?_)))⟩))
 refine ⟨⟨Kn.le.refl _,t1⟩,(ZA 5 kr rfl kr (ZcC (R:=Zn) 4 rfl (ZT.lit0 (R:=Zn)) rfl rfl rfl ZoY Zpd rfl rfl rfl hu.rows Zn.one rfl om (fun l93 p93 c93 hv93=>?_)))⟩
 refine ⟨⟨Kn.le.refl _,t1⟩,(ZaT 4 rfl hv93 Zn.mono om3 (fun B' hle'=>⟨hle',t1⟩) (fun B94 hle94 hr94=>?_))⟩
 obtain ⟨hf,hi⟩:=up2 hle94 hf hi
 have hr94n:=hr94.len
 refine ZA 9 kr rfl kr (Zad rfl rfl ZeL rfl (Zay _ _ x.queue _ hi) ?_)
 rintro _ B95 _ hle95 ⟨l95,a95,c95,rfl,rfl,hv95⟩
 obtain ⟨hf,hr94⟩:=up2 hle95 hf hr94
 replace hv95:=hv95.mono Zy.mono Kn.less_le
 refine ⟨⟨(hle94.trans hle95),t1⟩,(ZaT 5 rfl hv95 Zy.mono om3 (fun B' hle'=>⟨(hle94.trans hle95).trans hle',t1⟩) (fun B96 hle96 hr96=>?_))⟩
 obtain ⟨hf,hr94⟩:=up2 hle96 hf hr94
 have hr96n:=hr96.len
 refine aT 10 rfl (ZO fun D B L hI=>Zaq (parts:=[(0,_),(1,_),(2,_),(3,_)]) [_,_,_,_,_] [_,_,_,_,_] rfl rfl Zhn Zb3 rfl rfl rfl r4) (h:=Zag 12 kr rfl kr kr kr (ZL [_,_,_,_,_] 2 [_,_,_,_,_] rfl rfl ZcL rfl rfl rfl rfl rfl rfl rfl rfl ?_))
 exact Zak ⟨⟨_,_,_,_,_⟩,⟨0,0,_,_,_,[]⟩⟩ [0,1,3,2] ⟨hr94,rfl,ZT.lit0,hr96⟩ t4 rfl
 obtain ⟨hou,hoe,hv0,hoi⟩:=hF
 replace hf:=up1 hle3 hf
 refine ZD [(0,_),(1,_),(2,_),(3,_)] [_,_,_,_] t4 rfl (Zc (Za (xA (h:=Zg (Zz (α:=Gh DFolder) [0,1,2,3] (fun g=>[(4,.int .i64 g.k)]) [2,3] (fun g=>[g.l,ZN o.1.b [str x.domain,.slice o.1.q1 x.users.length o.1.c1,.slice g.a g.xs.length g.c,.int .i64 x.queue.next,.slice o.1.q3 x.queue.items.length o.1.c3] 29]) (fun g Bx=>g.k≤x.folders.length∧g.xs=x.folders.take g.k∧ZT Bx g.l g.a g.c 96 5 Zk g.xs) (fun g=>x.folders.length - g.k) ⟨0,0,_,_,_,_⟩ t1 rfl (⟨Nat.zero_le _,by rw [hoe];rfl,hv0⟩) (fun g B97 hle97 hI=>?_))))))
 obtain ⟨hk,hxs,hv⟩:=hI
 have hxn:=congrArg List.length hxs
 rw [List.length_take] at hxn
 obtain ⟨hf,hou,hoi⟩:=up3 hle97 hf hou hoi
 refine ZD [(0,_),(1,_),(2,_),(3,_),(4,_)] [_,_,_,_] t5 rfl (Zc (Za (xM (h:=xW Zat (h:=x1 ZeB 0 (h:=xV Tryz.underlying24 (h:=ZF (h:=Zb rfl (fun g1=>?_) (fun g1=>?_)))))))))
 try simp only [sQ,ne_eq] at g1
 refine wSk (Zc (Zg (Z2 (keeps _ [0,3] _) mo kr ⟨Kn.le.refl _,Za6.refl _ _⟩ (fun _ _=>?_))))
 refine aW 0 rfl Zat (h:=aT 1 rfl (ZO fun D B L hI=>Zo rfl rfl ZeB rfl (atL 3 (hI.2.2.1.trans rfl) rfl rfl) r4) (h:=aW 2 rfl Zat (h:=aT 3 rfl (ZO fun D B L hI=>Zo rfl rfl ZeB rfl (atL 0 (hI.2.1.trans rfl) rfl rfl) r4) (h:=aM 4 rfl (h:=?_)))))
 obtain ⟨w,hw⟩:=ZY (xs:=x.folders) (i:=g.k) om
 obtain ⟨bb99,oo99,rfl⟩:=hf.base hw
 obtain ⟨_,⟨qg100,cg100,qm100,cm100,rfl,hg100,hm100,hb100,hb100b⟩,hc100⟩:=hf.elem hw
 have hg100n:=hg100.len
 have hm100n:=hm100.len
 have hm100s:=Zao hm100
 refine aIx 5 rfl Tryz.underlying24 ZbM (h:=aT 6 rfl (ZO fun D B L hI=>ZW [_,_,_,_,_] rfl rfl ZiB rfl (Zkf (hc100.mono hI.1) 0 rfl rfl) r4) (h:=ZA 7 kr rfl kr (Zad rfl rfl ZAx rfl (ZmD _ _ _ _ w _ hg100 hm100) ?_)))
 rintro _ B101 _ hle101 ⟨rfl,l101,a101,c101,l101b,a101b,c101b,rfl,rfl,hs101,hs101b⟩
 refine ⟨⟨Kn.le.refl _,t2⟩,(ZaT 4 rfl hs101 Z8.mono om3 (fun B' hle'=>⟨hle',t2⟩) (fun B102 hle102 hr102=>?_))⟩
 replace hv:=hv.mono Zk.mono hle102
 replace hou:=hou.mono Zn.mono hle102
 replace hoi:=hoi.mono Zy.mono hle102
 replace hs101b:=hs101b.mono Z5.mono hle102
 have hr102n:=hr102.len
 refine ZaT 5 rfl hs101b Z5.mono (by first | omega | decide | (simp;done) | (simp;omega)) (fun B' hle'=>⟨hle102.trans hle',⟨rfl,rfl,trivial⟩⟩) (fun B103 hle103 hr103=>?_)
 replace hr102:=up1 hle103 hr102
 replace hv:=hv.mono Zk.mono hle103
 obtain ⟨hou,hoi⟩:=up2 hle103 hou hoi
 have hr103n:=hr103.len
 refine ZA 8 kr rfl kr (ZJ (parts:=[(0,_)]) [_,_,_,_,_] rfl rfl Tryz.underlying24 ZbM Zgx rfl rfl rfl rfl rfl (fun b104=>?_))
 refine ⟨⟨(hle102.trans hle103),t2⟩,(ZA 9 kr rfl kr (ZhK (z:=⟨w.owner,w.name,w.grants,w.next,w.mail⟩) (R:=Zk) 2 rfl hv rfl rfl rfl Zx9 ZAT rfl rfl (Zc1.box 6 rfl) rfl rfl (⟨_,_,_,_,rfl,hr102,hr103,by first | assumption | omega | (simp;done) | (simp;omega),by first | assumption | omega | (simp;done) | (simp;omega)⟩) om (fun l105 p105 c105 hv105=>?_)))⟩
 refine ⟨⟨(hle102.trans hle103),t2⟩,(aW 10 rfl Zat (h:=Zag 11 kr rfl kr kr kr (ZL [_] 3 [_,_,_,_,_] rfl rfl ZAP rfl rfl rfl rfl rfl rfl rfl rfl ?_)))⟩
 refine ZK (Zp (Zf (xM (h:=xD (h:=xA (h:=?_))))))
 exact ZC ⟨g.k+1,0,l105,p105,c105,(g.xs ++ [⟨w.owner,w.name,w.grants,w.next,w.mail⟩])⟩ [0,1,2,3] so2 ⟨so,by simp only [];rw [Zbj hw,hxs],hv105⟩ t5 rfl
 try simp only [sQ,ne_eq] at g1
 have hxe:g.xs=x.folders:=by rw [hxs];exact List.take_of_length_le oz
 refine ZE (ZV (ZG (Zt (Zp (Za (xL [_,_,_,_,_] Zcd 3 (h:=xS [_,_,_,_,_] 1 [_,_,_,_,_] ZcL (h:=tL4 (Zd ?_)))))))))
 exact Zd2 .ret (.inl rfl) [_] [2] rfl ⟨⟨_,rfl,.inr ⟨[_,_,_,_,_],Zcd,Zbw 1 rfl rfl rfl,rfl⟩⟩,trivial⟩ ⟨_,_,_,_,_,_,_,rfl,by rw [← hxe];rfl,hou,hxe ▸ hv,hoi⟩

theorem ZmE (q:Option Addr) (cp:Nat) (x:DBox) (fl:Int) (t:Str) (ht:t.length≤2000000) (hb:Zc6 x=true) (B:Kn) (hm:SlK B q cp 3 Z5 x.mail):Zv (pj J) 127 [.agg #[.int .i64 x.next,.slice q x.mail.length cp],.int .i64 fl,str t] B [] (fun v B' Ls=>∃l a c,Ls=[l]∧v = .tuple #[.agg #[.int .i64 (Zdn x fl t).1.next,.slice a (Zdn x fl t).1.mail.length c],.bool (Zdn x fl t).2]∧ZT B' l a c 99 3 Z5 (Zdn x fl t).1.mail):=by
 refine cB 36 Tryz.func127 (h:=?_)
 have hxn:=hm.len
 have hbn:=Zcn hb
 refine Za (xBx [_,_] (h:=fun b1=>xAl [_,_] Zpc (h:=fun b2=>xA (h:=tL2 (Za (xL [_,_] Zfl 0 (h:=xC ZxK rfl (Zlc _ _ (⟨x.next,x.mail⟩:DBox) _ hm) (h:=?_))))))))
 rintro _ B3 _ hle3 ⟨hB3,l3,a3,c3,rfl,rfl,hs3⟩
 have hB3:=hB3.symm
 subst hB3
 refine xAl [_,_] Zpc (h:=fun b4=>xS [_,_] 3 [_,_] Zjr (h:=tL4 (Zc (Za (xW Zbc (h:=x1 Zh1 0 (h:=xV Tryz.underlying91 (h:=Zep (h:=xM (h:=Zx (d:=15) rfl (fun g1=>?_) (fun g1=>?_)))))))))))
 try simp only [sQ,ne_eq] at g1
 have hae:=Zgw (fl:=fl) (t:=t) (b:=x) (.inl oz)
 rw [hae]
 refine xP (h:=xP (h:=xP (h:=xT (h:=Zb (t:=true) rfl (fun _=>Za (xL [_,_] Zfl 3 (h:=xS [_,_] 1 [_,_] Zjr (h:=xA (h:=tL4 (Zd (Zm ?_))))))) (fun h=>Bool.noConfusion h)))))
 exact Zd2 .ret (.inl rfl) [_,_] [2] rfl ⟨⟨_,rfl,.inr ⟨[_,_],Zfl,Zbw 1 rfl rfl rfl,rfl⟩⟩,rfl,trivial⟩ ⟨_,_,_,rfl,rfl,hs3⟩
 try simp only [sQ,ne_eq] at g1
 refine xW Zda (h:=x1 lk3 0 (h:=ZdP (h:=xF (h:=Zb rfl (fun g2=>?_) (fun g2=>?_)))))
 try simp only [sQ,ne_eq] at g2
 have hae:=Zgw (fl:=fl) (t:=t) (b:=x) (.inr oz)
 rw [hae]
 refine Za (xL [_,_] Zfl 3 (h:=xS [_,_] 1 [_,_] Zjr (h:=xA (h:=tL4 (Zd (Zm ?_))))))
 exact Zd2 .ret (.inl rfl) [_,_] [2] rfl ⟨⟨_,rfl,.inr ⟨[_,_],Zfl,Zbw 1 rfl rfl rfl,rfl⟩⟩,rfl,trivial⟩ ⟨_,_,_,rfl,rfl,hs3⟩
 try simp only [sQ,ne_eq] at g2
 have hae:=ZrV (fl:=fl) (t:=t) (b:=x) oz
 rw [hae]
 refine wSk (Za (xW Zbc (h:=x1 Zh1 3 (h:=xW Zda (h:=x1 lk3 0 (h:=xM (h:=xM (h:=xB [(0,_),(1,_),(2,_)] [_,_,_] [_,_,_] ZAV ZlU (h:=xBs [(0,_)] [_,_,_] Tryz.underlying91 Zgg ZlU (h:=fun b5=>Zl (ZhK (z:=⟨x.next,fl,t⟩) (R:=Z5) 2 rfl hs3 rfl rfl rfl Zwn Zx3 rfl rfl (Zc1.box 4 rfl) rfl rfl (⟨rfl,by first | assumption | omega | (simp;done) | (simp;omega)⟩) om (fun l6 p6 c6 hv6=>?_))))))))))))
 refine xW Zbc (h:=xS [_] 3 [_,_] ZyD (h:=tL5 (Za (xW Zda (h:=x1 lk3 0 (h:=xD (h:=xW Zda (h:=xS [_] 3 [_,_] sz3 (h:=tL5 (Za (xL [_,_] Zfl 3 (h:=xS [_,_] 1 [_,_] Zjr (h:=xA (h:=tL5 (Zd ?_)))))))))))))))
 exact Zd2 .ret (.inl rfl) [_,_] [2] rfl ⟨⟨_,rfl,.inr ⟨[_,_],Zfl,Zbw 1 rfl rfl rfl,rfl⟩⟩,rfl,trivial⟩ ⟨_,_,_,rfl,rfl,hv6⟩

theorem Ztg (q1 q2 q3:Option Addr) (c1 c2 c3:Nat) (x:DHost) (k fl:Int) (t:Str) (ht:t.length≤20) (hok:ZQ x=true) (hk0:0≤k) (hk1:k<x.folders.length) (hd:x.domain.length≤2000000) (B:Kn) (hu:SlK B q1 c1 3 Zn x.users) (hf:SlK B q2 c2 5 Zk x.folders) (hi:SlK B q3 c3 4 Zy x.queue.items):Zv (pj J) 73 [.agg #[str x.domain,.slice q1 x.users.length c1,.slice q2 x.folders.length c2,.int .i64 x.queue.next,.slice q3 x.queue.items.length c3],.int .i64 k,.int .i64 fl,str t] B [] (fun v B' Ls=>Ls=[]∧∃p1 d1 p2 d2 p3 d3,v = .tuple #[.agg #[str (ZaM x k.toNat fl t).1.domain,.slice p1 (ZaM x k.toNat fl t).1.users.length d1,.slice p2 (ZaM x k.toNat fl t).1.folders.length d2,.int .i64 (ZaM x k.toNat fl t).1.queue.next,.slice p3 (ZaM x k.toNat fl t).1.queue.items.length d3],.int .i64 (ZaM x k.toNat fl t).2]∧SlK B' p1 d1 3 Zn (ZaM x k.toNat fl t).1.users∧SlK B' p2 d2 5 Zk (ZaM x k.toNat fl t).1.folders∧SlK B' p3 d3 4 Zy (ZaM x k.toNat fl t).1.queue.items∧(ZaM x k.toNat fl t).1.domain.length≤2000000):=by
 refine cB 61 Tryz.func73 (h:=?_)
 have hun:=hu.len
 have hfn:=hf.len
 have hin:=hi.len
 obtain ⟨f,hf0⟩ :∃f,x.folders[k.toNat]? = some f:=⟨_,List.getElem?_eq_getElem oz⟩
 have hfo:=Zbm hok hf0
 have hbo:=ZbI hfo
 have hub:=ZmM hok f.owner
 have hoi:0≤Zee x.users f.owner:=Zbg.2 (Zhu hfo)
 have hol:=ZqK x.users f.owner
 refine Za (xBx [_,_,_,_,_] (h:=fun b1=>xAl [_,_,_,_,_] Zb3 (h:=fun b2=>xA (h:=tL2 (Za (xL [_,_,_,_,_] Zcd 0 (h:=xC ZxD rfl (Ze3 _ _ _ _ _ _ x _ hu hf hi) (h:=?_))))))))
 rintro _ B3 _ hle3 ⟨l3,a3,c3,q13,c13,q33,c33,rfl,rfl,hu3,hs3,hi3⟩
 obtain ⟨hu,hf⟩:=up2 hle3 hu hf
 have hu3n:=hu3.len
 have hi3n:=hi3.len
 refine xAl [_,_,_,_,_] Zb3 (h:=fun b4=>xS [_,_,_,_,_] 3 [_,_,_,_,_] ZcL (h:=tL4 (Za (xW Zat (h:=x1 ZeB 0 (h:=xM (h:=?_)))))))
 obtain ⟨bb5,oo5,rfl⟩:=hf.base hf0
 obtain ⟨_,⟨qg6,cg6,qm6,cm6,rfl,hg6,hm6,hb6,hb6b⟩,hc6⟩:=hf.elem hf0
 have hg6n:=hg6.len
 have hm6n:=hm6.len
 have hm6s:=Zao hm6
 refine xIx Tryz.underlying24 ZbM (h:=xW ZbW (h:=y1 lk9 hc6 0 (h:=xA (h:=Zc (Zc (Z2 (same _ _) mo kr ⟨rfl,rfl⟩ (fun _ _=>?_)))))))
 refine aT 0 rfl (Zae fun D=>ZW [_,_,_,_,_] rfl rfl Zcd rfl (Zbw 0 rfl rfl rfl) r4) (h:=aM 1 rfl (h:=aT 2 rfl (Zae fun D=>Z7 rfl rfl ZA8 rfl (Zla _ _ _ _ _ _ x _ _ hf) r4) (h:=aM 3 rfl (h:=aT 4 rfl (Zae fun D=>Zps rfl rfl Tryz.underlying9 rfl r4) (h:=aD 5 rfl (h:=aW 6 rfl ZbL (h:=aT 7 rfl (Zae fun D=>Zo rfl rfl ZiE rfl (atL 0 rfl rfl rfl) r4) (h:=aW 8 rfl ZbL (h:=aT 9 rfl (Zae fun D=>Zo rfl rfl ZiE rfl (atL 0 rfl rfl rfl) r4) (h:=aM 10 rfl (h:=aT 11 rfl (Zae fun D=>Z7 rfl rfl ZxC rfl (Ze4 _ _ _ _ _ hu) r4) (h:=?_))))))))))))
 obtain ⟨w,hw⟩:=ZtF (xs:=x.users) (i:=(Zee x.users f.owner)) om om
 obtain ⟨bb10,oo10,rfl⟩:=hu.base hw
 obtain ⟨_,⟨rfl,hb11,hb11b⟩,hc11⟩:=hu.elem hw
 refine aIx 12 rfl Tryz.underlying23 Zbq (h:=?_)
 have hqe:Zc3 x.users f.owner=w.quota:=by simp only [Zc3,hw]
 refine aW 13 rfl ZdD (h:=aT 14 rfl (Zae fun D=>Zo rfl rfl lk3 rfl (hc11 _ 2 _ rfl) r4) (h:=Zo9 15 rfl (h:=Zu kr kr ?_)))
 refine Zp (Zb rfl (fun g1=>?_) (fun g1=>?_))
 try simp only [sQ,ne_eq] at g1
 refine Za (xL [_,_,_,_,_] Zcd 3 (h:=Zd8 2 rfl hs3 Zk.mono om3 (fun B12 hle12 hr12=>?_)))
 obtain ⟨hu3,hi3⟩:=up2 hle12 hu3 hi3
 have hr12n:=hr12.len
 refine xS [_,_,_,_,_] 1 [_,_,_,_,_] ZcL (h:=?_)
 rw [ZhS hf0 oz]
 refine xA (h:=tL4 (Zd (Zm ?_)))
 exact Zd2 .ret (.inl rfl) [_,_] [] rfl ⟨⟨_,rfl,.inr ⟨[_,_,_,_,_],Zcd,Zbw 1 rfl rfl rfl,rfl⟩⟩,rfl,trivial⟩ ⟨rfl,_,_,_,_,_,_,(by first | rfl | (simp only [DHost.withFolders,List.length_set];rfl)),hu3,hr12,hi3,by first | assumption | (rw [ZbE.2.2.1];assumption)⟩
 try simp only [sQ,ne_eq] at g1
 have hal:=Zn0 (⟨f.next,f.mail⟩:DBox) fl t
 have hfl:=hbo
 have hfm:f.mail.length≤10:=(Zcn hbo).2.2
 replace hal:(Zdn (⟨f.next,f.mail⟩:DBox) fl t).1.mail.length≤f.mail.length+1:=hal
 refine wSk (Za (xW Zat (h:=x1 ZeB 0 (h:=xM (h:=xIx Tryz.underlying24 ZbM (h:=xW Zbv (h:=yL [_,_] Zfl hc6 3 (h:=xM (h:=xM (h:=xC ZAq rfl (ZmE _ _ (⟨f.next,f.mail⟩:DBox) fl t oz (oy) _ hm6) (h:=?_)))))))))))
 rintro _ B13 _ hle13 ⟨l13,a13,c13,rfl,rfl,hs13⟩
 replace hs3:=hs3.mono Zk.mono hle13
 replace hu3:=hu3.mono Zn.mono hle13
 replace hi3:=hi3.mono Zy.mono hle13
 replace hs13:=hs13.anyK (B':=B13) Z5.any
 refine xM (h:=xE (h:=Zd8 4 rfl hs13 Z5.mono om3 (fun B14 hle14 hr14=>?_)))
 replace hs3:=hs3.mono Zk.mono hle14
 replace hu3:=hu3.mono Zn.mono hle14
 replace hi3:=hi3.mono Zy.mono hle14
 have hr14n:=hr14.len
 refine xE (h:=xAl [_,_] Zpc (h:=fun b15=>xS [_,_] 5 [_,_] Zjr (h:=xA (h:=tL6 (Zc (Za (xM (h:=xN (h:=Zb rfl (fun g2=>?_) (fun g2=>?_))))))))))
 try simp only [sQ,ne_eq] at g2
 refine Za ?_
 refine Zl (ZW [_,_,_,_,_] rfl rfl Zcd rfl (Zbw 3 rfl rfl rfl) ?_)
 refine Zd8 2 rfl hs3 Zk.mono (by first | omega | decide | (simp;done) | (simp;omega)) (fun B16 hle16 hr16=>?_)
 obtain ⟨hu3,hi3,hr14⟩:=up3 hle16 hu3 hi3 hr14
 have hr16n:=hr16.len
 refine xS [_,_,_,_,_] 1 [_,_,_,_,_] ZcL (h:=?_)
 rw [ZiX hf0 oz g2]
 refine xA (h:=tL6 (Zd (Zm ?_)))
 exact Zd2 .ret (.inl rfl) [_,_] [] rfl ⟨⟨_,rfl,.inr ⟨[_,_,_,_,_],Zcd,Zbw 1 rfl rfl rfl,rfl⟩⟩,rfl,trivial⟩ ⟨rfl,_,_,_,_,_,_,(by first | rfl | (simp only [DHost.withFolders,List.length_set];rfl)),hu3,hr16,hi3,by first | assumption | (rw [ZbE.2.2.1];assumption)⟩
 try simp only [sQ,ne_eq] at g2
 refine wSk (Za (xW Zat (h:=x1 ZeB 3 (h:=xM (h:=xL [_,_] Zfl 5 (h:=?_))))))
 obtain ⟨bb17,_,hp17,⟨qg17,cg17,qm17,cm17,rfl,hg17,hm17,hb17,hb17b⟩,hw17,hc17⟩:=hs3.row hf0
 have hg17n:=hg17.len
 have hm17n:=hm17.len
 have hm17s:=Zao hm17
 refine xIp hp17 Tryz.underlying24 ZbM (h:=xW Zbv (h:=Zl (Zgb (k:=(k).toNat) (off:=3) (⟨f.owner,f.name,f.grants,(Zdn f.box fl t).1.next,(Zdn f.box fl t).1.mail⟩) [_,_] 2 hs3 hp17 hf0 rfl rfl Zjr rfl rfl rfl rfl rfl rfl (by rintro _ ⟨_,_,_,_,rfl,e1,_,e3,e4⟩;exact ⟨_,_,_,_,rfl,e1,hr14,e3,e4⟩) (fun l18 hv18=>?_))))
 refine tL6 (Za (xL [_,_,_,_,_] Zcd 3 (h:=Zd8 2 rfl hv18 Zk.mono om3 (fun B19 hle19 hr19=>?_))))
 obtain ⟨hu3,hi3⟩:=up2 hle19 hu3 hi3
 have hr19n:=hr19.len
 refine xS [_,_,_,_,_] 1 [_,_,_,_,_] ZcL (h:=?_)
 rw [ZgL hf0 oz (show (Zdn (⟨f.next,f.mail⟩:DBox) fl t).2=true by simpa using g2)]
 refine xA (h:=tL6 (Zd ?_))
 exact Zd2 .ret (.inl rfl) [_,_] [] rfl ⟨⟨_,rfl,.inr ⟨[_,_,_,_,_],Zcd,Zbw 1 rfl rfl rfl,rfl⟩⟩,rfl,trivial⟩ ⟨rfl,_,_,_,_,_,_,(by first | rfl | (simp only [DHost.withFolders,List.length_set];rfl)),hu3,hr19,hi3,by first | assumption | (rw [ZbE.2.2.1];assumption)⟩

theorem ZkC (q:Option Addr) (cp:Nat) (xs:List DSpan) (B:Kn) (hs:SlK B q cp 2 Z1 xs):Zac (pj J) 50 [.slice q xs.length cp] B (.bool (Zdd xs)):=by
 refine cB 29 Tryz.func50 (h:=?_)
 have hsn:=hs.len
 refine Za (xA (h:=Zc (Za (xA (h:=Zg (Zz (α:=Nat) [0] (fun k=>[(3,.int .i64 k)]) [] (fun k=>[]) (fun k Bx=>Bx=B∧k≤xs.length∧∀y,y∈xs.take k→ZeY y=true) (fun k=>xs.length - k) 0 t1 rfl (⟨rfl,Nat.zero_le _,by simp⟩) (fun k B1 hle1 hI=>?_)))))))
 obtain ⟨rfl,hk,hall⟩:=hI
 refine ZD [(0,_),(3,_)] [] t2 rfl (Zc (Za (xM (h:=xM (h:=xV Tryz.underlying41 (h:=ZF (h:=Zb rfl (fun g1=>?_) (fun g1=>?_))))))))
 try simp only [sQ,ne_eq] at g1
 refine wSk (Zc (Zg (Za (xM (h:=xM (h:=?_))))))
 obtain ⟨m,hm⟩:=ZY (xs:=xs) (i:=k) om
 obtain ⟨bb3,oo3,rfl⟩:=hs.base hm
 obtain ⟨_,rfl,hc4⟩:=hs.elem hm
 refine xIx Tryz.underlying41 Zl6 (h:=xW Zhl (h:=y1 lk3 hc4 0 (h:=xR Zfw rfl (Zc9 _ _ _ _) (h:=xN (h:=xM (h:=Zx (d:=17) rfl (fun g2=>?_) (fun g2=>?_)))))))
 try simp only [sQ,ne_eq] at g2
 refine xP (h:=xP (h:=xP (h:=xP (h:=xP (h:=xP (h:=xP (h:=xT (h:=Zb (t:=true) rfl (fun _=>Za (xA (h:=Zd (ZB (Zm (ZM (ZB (Zm ?_)))))))) (fun h=>Bool.noConfusion h)))))))))
 exact eR t1 ⟨Ze (by rw [Zdd,Zb2 hm (by simp only [ZeY,g2,Bool.false_and]),Bool.false_and]),rfl,rfl⟩
 try simp only [sQ,ne_eq] at g2
 refine xM (h:=xM (h:=xIx Tryz.underlying41 Zl6 (h:=xW Zhk (h:=y1 lk3 hc4 1 (h:=xR Zfw rfl (Zc9 _ _ _ _) (h:=xN (h:=xF (h:=Zb rfl (fun g3=>?_) (fun g3=>?_)))))))))
 try simp only [sQ,ne_eq] at g3
 refine Za (xA (h:=Zd (ZB (Zm (ZM (ZB (Zm ?_)))))))
 exact eR t1 ⟨Ze (by rw [Zdd,Zb2 hm (by simp only [ZeY,g3,Bool.and_false]),Bool.false_and]),rfl,rfl⟩
 try simp only [sQ,ne_eq] at g3
 refine ZS (ZK (Zp (Zf (xM (h:=xD (h:=xA (h:=?_)))))))
 exact ZC (k+1) [] so2 ⟨rfl,oz,Za8 hm hall (by simp only [ZeY];rw [show (decide (0≤m.low) && decide (m.low≤99))=true by simpa only [Bool.not_eq_false] using g2,show (decide (0≤m.high) && decide (m.high≤99))=true by simpa only [Bool.not_eq_false] using g3];rfl)⟩ t2 rfl
 try simp only [sQ,ne_eq] at g1
 refine ZE (ZV (ZG (Zt (Zp (Za (xM (h:=xV Tryz.underlying41 (h:=xR Zfw rfl (Zc9 _ _ _ _) (h:=xA (h:=Zd ?_))))))))))
 exact eR t1 ⟨Ze (by rw [Zdd,ZdX (Zbe oz hall),Bool.true_and,Bool.eq_iff_iff];simp;try omega),rfl,rfl⟩

theorem Zvp (q:Option Addr) (cp:Nat) (xs:List DSpan) (last n:Int) (B:Kn) (hs:SlK B q cp 2 Z1 xs):Zac (pj J) 172 [.slice q xs.length cp,.int .i64 last,.int .i64 n] B (.bool (ZeO xs last n)):=by
 refine cB 40 Tryz.func172 (h:=?_)
 have hsn:=hs.len
 refine Za (xA (h:=Zc (Za (xA (h:=Zg (Zz (α:=Nat) [0,1,2] (fun k=>[(7,.int .i64 k)]) [] (fun k=>[]) (fun k Bx=>Bx=B∧k≤xs.length∧(xs.take k).any (ZcN last n)=false) (fun k=>xs.length - k) 0 t1 rfl (⟨rfl,Nat.zero_le _,rfl⟩) (fun k B1 hle1 hI=>?_)))))))
 obtain ⟨rfl,hk,hna⟩:=hI
 refine ZD [(0,_),(1,_),(2,_),(7,_)] [] t4 rfl (Zc (Za (xM (h:=xM (h:=xV Tryz.underlying41 (h:=ZF (h:=Zb rfl (fun g1=>?_) (fun g1=>?_))))))))
 try simp only [sQ,ne_eq] at g1
 refine wSk (Zc (Zg (Za (xM (h:=xM (h:=?_))))))
 obtain ⟨m,hm⟩:=ZY (xs:=xs) (i:=k) om
 obtain ⟨bb3,oo3,rfl⟩:=hs.base hm
 obtain ⟨_,rfl,hc4⟩:=hs.elem hm
 refine xIx Tryz.underlying41 Zl6 (h:=xW Zhl (h:=y1 lk3 hc4 0 (h:=xA (h:=Za (xM (h:=xM (h:=xIx Tryz.underlying41 Zl6 (h:=xW Zhk (h:=y1 lk3 hc4 1 (h:=xA (h:=Zc (Za (xM (h:=Zf8 (h:=Zb rfl (fun g2=>?_) (fun g2=>?_))))))))))))))))
 try simp only [sQ,ne_eq] at g2
 refine Zf (xM (h:=xA (h:=Zp (Zc (Za (xM (h:=Zf8 (h:=Zb rfl (fun g3=>?_) (fun g3=>?_)))))))))
 try simp only [sQ,ne_eq] at g3
 refine Zf (xM (h:=xA (h:=Zp (Za (xM (h:=xM (h:=xM (h:=Zl (Zgd rfl rfl rfl rfl (xM (h:=xM (h:=Zl (Znk rfl rfl rfl rfl (xR Zfw rfl (Zc9 _ _ _ _) (h:=Zb rfl (fun g4=>?_) (fun g4=>?_))))))))))))))))
 try simp only [sQ,ne_eq] at g4
 refine Za (xA (h:=Zd (ZB (Zm (ZM (ZB (Zm ?_)))))))
 exact eR t1 ⟨Ze (by symm;rw [ZeO,List.any_eq_true];exact ⟨m,List.mem_of_getElem? hm,by simp only [ZcN,g2,g3,if_true,if_false];simpa using g4⟩),rfl,rfl⟩
 try simp only [sQ,ne_eq] at g4
 refine ZS (ZK (Zp (Zf (xM (h:=xD (h:=xA (h:=?_)))))))
 exact ZC (k+1) [] so2 ⟨rfl,oz,by rw [Zdg hm,hna];simp only [ZcN,g2,g3,if_true,if_false];simpa using g4⟩ t4 rfl
 try simp only [sQ,ne_eq] at g3
 refine wSk (Za (xM (h:=xM (h:=xM (h:=Zl (Zgd rfl rfl rfl rfl (xM (h:=xM (h:=Zl (Znk rfl rfl rfl rfl (xR Zfw rfl (Zc9 _ _ _ _) (h:=Zb rfl (fun g4=>?_) (fun g4=>?_)))))))))))))
 try simp only [sQ,ne_eq] at g4
 refine Za (xA (h:=Zd (ZB (Zm (ZM (ZB (Zm ?_)))))))
 exact eR t1 ⟨Ze (by symm;rw [ZeO,List.any_eq_true];exact ⟨m,List.mem_of_getElem? hm,by simp only [ZcN,g2,g3,if_true,if_false];simpa using g4⟩),rfl,rfl⟩
 try simp only [sQ,ne_eq] at g4
 refine ZS (ZK (Zp (Zf (xM (h:=xD (h:=xA (h:=?_)))))))
 exact ZC (k+1) [] so2 ⟨rfl,oz,by rw [Zdg hm,hna];simp only [ZcN,g2,g3,if_true,if_false];simpa using g4⟩ t4 rfl
 try simp only [sQ,ne_eq] at g2
 refine wSk (Zc (Za (xM (h:=Zf8 (h:=Zb rfl (fun g3=>?_) (fun g3=>?_))))))
 try simp only [sQ,ne_eq] at g3
 refine Zf (xM (h:=xA (h:=Zp (Za (xM (h:=xM (h:=xM (h:=Zl (Zgd rfl rfl rfl rfl (xM (h:=xM (h:=Zl (Znk rfl rfl rfl rfl (xR Zfw rfl (Zc9 _ _ _ _) (h:=Zb rfl (fun g4=>?_) (fun g4=>?_))))))))))))))))
 try simp only [sQ,ne_eq] at g4
 refine Za (xA (h:=Zd (ZB (Zm (ZM (ZB (Zm ?_)))))))
 exact eR t1 ⟨Ze (by symm;rw [ZeO,List.any_eq_true];exact ⟨m,List.mem_of_getElem? hm,by simp only [ZcN,g2,g3,if_true,if_false];simpa using g4⟩),rfl,rfl⟩
 try simp only [sQ,ne_eq] at g4
 refine ZS (ZK (Zp (Zf (xM (h:=xD (h:=xA (h:=?_)))))))
 exact ZC (k+1) [] so2 ⟨rfl,oz,by rw [Zdg hm,hna];simp only [ZcN,g2,g3,if_true,if_false];simpa using g4⟩ t4 rfl
 try simp only [sQ,ne_eq] at g3
 refine wSk (Za (xM (h:=xM (h:=xM (h:=Zl (Zgd rfl rfl rfl rfl (xM (h:=xM (h:=Zl (Znk rfl rfl rfl rfl (xR Zfw rfl (Zc9 _ _ _ _) (h:=Zb rfl (fun g4=>?_) (fun g4=>?_)))))))))))))
 try simp only [sQ,ne_eq] at g4
 refine Za (xA (h:=Zd (ZB (Zm (ZM (ZB (Zm ?_)))))))
 exact eR t1 ⟨Ze (by symm;rw [ZeO,List.any_eq_true];exact ⟨m,List.mem_of_getElem? hm,by simp only [ZcN,g2,g3,if_true,if_false];simpa using g4⟩),rfl,rfl⟩
 try simp only [sQ,ne_eq] at g4
 refine ZS (ZK (Zp (Zf (xM (h:=xD (h:=xA (h:=?_)))))))
 exact ZC (k+1) [] so2 ⟨rfl,oz,by rw [Zdg hm,hna];simp only [ZcN,g2,g3,if_true,if_false];simpa using g4⟩ t4 rfl
 try simp only [sQ,ne_eq] at g1
 refine ZE (ZV (ZG (Zt (Zp (Za (xA (h:=Zd ?_)))))))
 exact eR t1 ⟨Ze (by rw [ZeO,← ZrT (b:=false) hna.symm oz]),rfl,rfl⟩

theorem Zoj (q:Option Addr) (cp:Nat) (xs:List DSpan) (last:Int) (hl0:0≤last) (B:Kn) (hs:SlK B q cp 2 Z1 xs):Zv (pj J) 107 [.slice q xs.length cp,.int .i64 last] B [] (fun v B' Ls=>Ls=[]∧∃a c,v = .slice a (ZaA xs last).length c∧SlK B' a c 1 ZcH (ZaA xs last)):=by
 refine cB 28 Tryz.func107 (h:=?_)
 have hsn:=hs.len
 refine Za (xA (h:=Za (xBs [] [] Tryz.underlying65 sz3 zo3 (h:=fun b1=>xA (h:=tL1 (Zc (Za (xA (h:=Zg (Zz (α:=Gh Int) [0,1,4] (fun g=>[(5,.slice g.a g.xs.length g.c),(6,.int .i64 ((g.k+1:Nat):Int))]) [0] (fun g=>[g.l]) (fun g Bx=>Bx=B∧g.k≤(min last 99).toNat∧g.xs.length≤g.k∧(0<g.k→Zdd xs=true)∧g.xs=ZbT xs (min last 99) g.k∧ZT Bx g.l g.a g.c 3 1 ZcH g.xs) (fun g=>(min last 99).toNat - g.k) ⟨0,0,_,_,_,[]⟩ t2 rfl (⟨rfl,Nat.zero_le _,Nat.le_refl _,by simp,rfl,.lit0⟩) (fun g B2 hle2 hI=>?_)))))))))))
 obtain ⟨rfl,hk,hgl,hok,hnt,hv⟩:=hI
 refine ZD [(0,_),(1,_),(4,_),(5,_),(6,_)] [_] t5 rfl (Zc (Za (xM (h:=xM (h:=Zl (Zgd rfl rfl rfl rfl (Zb4 (h:=xM (h:=Zx (d:=12) rfl (fun g1=>?_) (fun g1=>?_))))))))))
 try simp only [sQ,ne_eq] at g1
 refine xM (h:=xR ZBc rfl (ZkC _ _ xs _ hs) (h:=xT (h:=Zb rfl (fun g2=>?_) (fun g2=>?_))))
 try simp only [sQ,ne_eq] at g2
 refine wSk (Zc (Zg (Za (xM (h:=xM (h:=Zl (Zgd rfl rfl rfl rfl (xM (h:=xR Zz0 rfl (Zvp _ _ xs (min last 99) (↑(g.k+1)) _ hs) (h:=Zb rfl (fun g3=>?_) (fun g3=>?_)))))))))))
 try simp only [sQ,ne_eq] at g3
 refine Zf (xM (h:=xM (h:=xBs [(0,_)] [_] Tryz.underlying65 sz3 zo3 (h:=fun b5=>Zl (ZhK (z:=(↑(g.k+1):Int)) (R:=ZcH) 0 rfl hv rfl rfl rfl ZA3 ZAR rfl rfl (Zc1.box 1 rfl) rfl rfl (rfl) om (fun l6 p6 c6 hv6=>?_))))))
 refine xA (h:=ZK (Zp (Zf (xM (h:=xD (h:=xA (h:=?_)))))))
 exact ZC ⟨g.k+1,0,l6,p6,c6,(g.xs ++ [(↑(g.k+1):Int)])⟩ [0] so2 ⟨rfl,so,by simp;omega,fun _=>g2,by simp only [];rw [ZiY (by exact_mod_cast g3),hnt],hv6⟩ t5 rfl
 try simp only [sQ,ne_eq] at g3
 refine ZS (ZK (Zp (Zf (xM (h:=xD (h:=xA (h:=?_)))))))
 exact ZC ⟨g.k+1,0,g.l,g.a,g.c,g.xs⟩ [0] so2 ⟨rfl,so,so,fun _=>g2,by simp only [];rw [ZkT (by exact_mod_cast g3),hnt],hv⟩ t5 rfl
 try simp only [sQ,ne_eq] at g2
 refine ZE (ZV (ZG (Zt (Zp (Za (xM (h:=Zd8 0 rfl hv ZcH.mono om3 (fun B7 hle7 hr7=>?_))))))))
 have hr7n:=hr7.len
 refine xA (h:=tL1 ?_)
 have hne:ZaA xs last=g.xs:=by
    rw [ZaA,if_neg (by simp [g2]),hnt]
    have:g.k=0:=by
      rcases Nat.eq_zero_or_pos g.k with h | h
      · exact h
      · rw [hok h] at g2;cases g2
    rw [this];rfl
 rw [hne]
 refine Zd ?_
 exact eN [] rfl t1 ⟨rfl,_,_,rfl,hr7⟩
 try simp only [sQ,ne_eq] at g1
 refine xP (h:=xP (h:=xF (h:=Zb (t:=false) rfl (fun h=>Bool.noConfusion h) (fun _=>ZE (ZV (ZG (Zt (Zp (Za (xM (h:=Zd8 0 rfl hv ZcH.mono om3 (fun B8 hle8 hr8=>?_))))))))))))
 have hr8n:=hr8.len
 refine xA (h:=tL1 ?_)
 have hne:ZaA xs last=g.xs:=by
    have hk2:g.k=(min last 99).toNat:=by omega
    rw [ZaA]
    rcases Nat.eq_zero_or_pos g.k with h | h
    · rw [← hk2,hnt,h];split <;> rfl
    · rw [if_pos (hok h),hnt,hk2]
 rw [hne]
 refine Zd ?_
 exact eN [] rfl t1 ⟨rfl,_,_,rfl,hr8⟩

theorem Zvq (q1 q2 q3:Option Addr) (c1 c2 c3:Nat) (x:DHost) (s:DSess) (hs1:s.user.length≤2000000) (hs2:s.owner.length≤2000000) (hs3:s.name.length≤2000000) (r:Int) (hrr:ZhC x.folders) (h1:0<r) (B:Kn) (hu:SlK B q1 c1 3 Zn x.users) (hf:SlK B q2 c2 5 Zk x.folders):Zac (pj J) 51 [.agg #[str x.domain,.slice q1 x.users.length c1,.slice q2 x.folders.length c2,.int .i64 x.queue.next,.slice q3 x.queue.items.length c3],.agg #[str s.user,str s.owner,str s.name],.int .i64 r] B (.tuple #[.int .i64 (atF x s r).1,.int .i64 (atF x s r).2]):=by
 refine cB 32 Tryz.func51 (h:=?_)
 have hun:=hu.len
 have hfn:=hf.len
 have hix:=ZgV (inF s.owner s.name) x.folders
 refine Za (xBx [_,_,_,_,_] (h:=fun b1=>xBx [_,_,_] (h:=fun b2=>xA (h:=xA (h:=tL2 (Za (xL [_,_,_,_,_] Zcd 0 (h:=xW ZqX (h:=x1 lk9 1 (h:=xW ZqW (h:=x1 lk9 1 (h:=xR Zy8 rfl (Zh2 _ _ _ _ _ _ x s.owner s.name om2 om2 _ hf) (h:=?_)))))))))))))
 refine xA (h:=Za (xL [_,_,_,_,_] Zcd 0 (h:=xW Zjb (h:=x1 lk9 1 (h:=xM (h:=xR Zy9 rfl (ZgT _ _ _ _ _ _ x s.user (ZaN (inF s.owner s.name) x.folders) 2 oz hrr oz _ hu hf) (h:=?_)))))))
 refine xA (h:=Zc (Za (xM (h:=ZaH (h:=Zb rfl (fun g1=>?_) (fun g1=>?_))))))
 try simp only [sQ,ne_eq] at g1
 refine Za (xM (h:=xM (h:=xA (h:=xA (h:=Zd (Zm ?_))))))
 exact Zru .ret (.inl rfl) [_,_] t2 ⟨by rw [atF,if_pos g1];rfl,rfl,rfl⟩
 try simp only [sQ,ne_eq] at g1
 refine wSk (Za (xM (h:=xL [_,_,_,_,_] Zcd 0 (h:=xW Zjb (h:=x1 lk9 1 (h:=xM (h:=xM (h:=xR Zy9 rfl (ZgT _ _ _ _ _ _ x s.user (ZaN (inF s.owner s.name) x.folders) r oz hrr oz _ hu hf) (h:=?_)))))))))
 refine xA (h:=xA (h:=Zd ?_))
 exact Zru .ret (.inl rfl) [_,_] t2 ⟨by rw [atF,if_neg (fun h=>h g1)];rfl,rfl,rfl⟩

theorem Ztf (q:Option Addr) (cp:Nat) (x:DBox) (q2:Option Addr) (cp2:Nat) (xs:List DSpan) (B:Kn) (hx:SlK B q cp 3 Z5 x.mail) (hs:SlK B q2 cp2 2 Z1 xs):Zv (pj J) 52 [.agg #[.int .i64 x.next,.slice q x.mail.length cp],.slice q2 xs.length cp2] B [] (fun v B' Ls=>Ls=[]∧∃a c,v = .slice a (ZaA xs x.mail.length).length c∧SlK B' a c 1 ZcH (ZaA xs x.mail.length)):=by
 refine cB 10 Tryz.func52 (h:=?_)
 have hxn:=hx.len
 refine Za (xBx [_,_] (h:=fun b1=>xA (h:=tL1 (Za (xM (h:=xW Zbc (h:=x1 Zh1 0 (h:=xV Tryz.underlying91 (h:=xQ ZAH rfl (Zoj _ _ xs ↑x.mail.length om2 _ hs) (h:=?_))))))))))
 intro v2 B2 hle2
 rintro ⟨a2,c2,rfl,hs2⟩
 have hs2n:=hs2.len
 refine xA (h:=Zd ?_)
 exact eN [] rfl t1 ⟨rfl,_,_,rfl,hs2⟩

theorem Zd6 (q1 q2 q3:Option Addr) (c1 c2 c3:Nat) (x:DHost) (s:DSess) (hs1:s.user.length≤2000000) (hs2:s.owner.length≤2000000) (hs3:s.name.length≤2000000) (q4:Option Addr) (c4:Nat) (set:List DSpan) (o n:Str) (hol:o.length≤2000000) (hnl:n.length≤2000000) (hd:x.domain.length≤2000000) (B:Kn) (hu:SlK B q1 c1 3 Zn x.users) (hf:SlK B q2 c2 5 Zk x.folders) (hi:SlK B q3 c3 4 Zy x.queue.items) (hs:SlK B q4 c4 2 Z1 set):Zv (pj J) 31 [.agg #[str x.domain,.slice q1 x.users.length c1,.slice q2 x.folders.length c2,.int .i64 x.queue.next,.slice q3 x.queue.items.length c3],.agg #[str s.user,str s.owner,str s.name],.slice q4 set.length c4,str o,str n] B [] (fun v B' Ls=>Ls=[]∧∃p1 d1 p2 d2 p3 d3,v = .tuple #[.agg #[str (Z0 x s set o n).1.domain,.slice p1 (Z0 x s set o n).1.users.length d1,.slice p2 (Z0 x s set o n).1.folders.length d2,.int .i64 (Z0 x s set o n).1.queue.next,.slice p3 (Z0 x s set o n).1.queue.items.length d3],.int .i64 (Z0 x s set o n).2]∧SlK B' p1 d1 3 Zn (Z0 x s set o n).1.users∧SlK B' p2 d2 5 Zk (Z0 x s set o n).1.folders∧SlK B' p3 d3 4 Zy (Z0 x s set o n).1.queue.items∧(Z0 x s set o n).1.domain.length≤2000000):=by
 refine cB 102 Tryz.func31 (h:=?_)
 have hun:=hu.len
 have hfn:=hf.len
 have hin:=hi.len
 have hsn:=hs.len
 have hix:=ZgV (inF s.owner s.name) x.folders
 have hix2:=ZgV (inF o n) x.folders
 refine Za (xBx [_,_,_,_,_] (h:=fun b1=>xBx [_,_,_] (h:=fun b2=>xAl [_,_,_,_,_] Zb3 (h:=fun b3=>xA (h:=tL3 (Zc (Za (xL [_,_,_,_,_] Zcd 0 (h:=xR ZB3 rfl (Zok _ _ _ _ _ _ x om2 _ hu hf hi) (h:=?_))))))))))
 refine xN (h:=xM (h:=Zx (d:=24) rfl (fun g1=>?_) (fun g1=>?_)))
 try simp only [sQ,ne_eq] at g1
 rw [Z0,if_pos (by simp [g1])]
 refine xP (h:=xP (h:=xP (h:=xT (h:=Zb (t:=true) rfl (fun _=>Za (xB [] [_,_,_,_,_] [_,_,_,_,_] Zhn Zb3 (h:=xS [_,_,_,_,_] 2 [_,_,_,_,_] ZcL (h:=xA (h:=tL3 (Zd (Zm ?_))))))) (fun h=>Bool.noConfusion h)))))
 exact Zd2 .ret (.inl rfl) [_,_] [] rfl ⟨⟨_,rfl,.inr ⟨[_,_,_,_,_],Zcd,Zbw 2 rfl rfl rfl,rfl⟩⟩,rfl,trivial⟩ ⟨rfl,none,0,none,0,none,0,rfl,SlK.nil,SlK.nil,SlK.nil,by simp [Zdu]⟩
 try simp only [sQ,ne_eq] at g1
 refine xM (h:=xR ZBc rfl (ZkC _ _ set _ hs) (h:=xN (h:=xF (h:=Zb rfl (fun g2=>?_) (fun g2=>?_)))))
 try simp only [sQ,ne_eq] at g2
 rw [Z0,if_pos (by simp [g2])]
 refine Za (xB [] [_,_,_,_,_] [_,_,_,_,_] Zhn Zb3 (h:=xS [_,_,_,_,_] 2 [_,_,_,_,_] ZcL (h:=xA (h:=tL3 (Zd (Zm ?_))))))
 exact Zd2 .ret (.inl rfl) [_,_] [] rfl ⟨⟨_,rfl,.inr ⟨[_,_,_,_,_],Zcd,Zbw 2 rfl rfl rfl,rfl⟩⟩,rfl,trivial⟩ ⟨rfl,none,0,none,0,none,0,rfl,SlK.nil,SlK.nil,SlK.nil,by simp [Zdu]⟩
 try simp only [sQ,ne_eq] at g2
 have hok:ZQ x=true:=by simpa using g1
 have hrr:=ZjQ hok
 have hnn : ¬ ¬ (ZQ x=true∧Zdd set=true):=fun h=>h ⟨hok,by simpa using g2⟩
 refine wSk (Za (xL [_,_,_,_,_] Zcd 0 (h:=xL [_,_,_] Zx7 1 (h:=xR ZBX rfl (Zvq _ _ _ _ _ _ x s om2 om2 om2 2 hrr oz _ hu hf) (h:=?_)))))
 refine xM (h:=xE (h:=xE (h:=xA (h:=xA (h:=Zc (Za (xM (h:=ZaH (h:=Zb rfl (fun g5=>?_) (fun g5=>?_))))))))))
 try simp only [sQ,ne_eq] at g5
 refine Za (xL [_,_,_,_,_] Zcd 0 (h:=xC ZxD rfl (Ze3 _ _ _ _ _ _ x _ hu hf hi) (h:=?_)))
 rintro _ B7 _ hle7 ⟨l7,a7,c7,q17,c17,q37,c37,rfl,rfl,hu7,hs7,hi7⟩
 obtain ⟨hu,hf,hi,hs⟩:=up4 hle7 hu hf hi hs
 have hu7n:=hu7.len
 have hi7n:=hi7.len
 refine Zd8 3 rfl hs7 Zk.mono om3 (fun B8 hle8 hr8=>?_)
 obtain ⟨hu,hf,hi,hs,hu7,hi7⟩:=up6 hle8 hu hf hi hs hu7 hi7
 have hr8n:=hr8.len
 refine xM (h:=?_)
 rw [Z0,if_neg hnn,if_pos g5]
 refine xS [_,_,_,_,_] 2 [_,_,_,_,_] ZcL (h:=xA (h:=tL4 (Zd (Zm ?_))))
 exact Zd2 .ret (.inl rfl) [_,_] [] rfl ⟨⟨_,rfl,.inr ⟨[_,_,_,_,_],Zcd,Zbw 2 rfl rfl rfl,rfl⟩⟩,rfl,trivial⟩ ⟨rfl,_,_,_,_,_,_,(by first | rfl | (simp only [DHost.withFolders,List.length_set];rfl)),hu7,hr8,hi7,by first | assumption | (rw [ZbE.2.2.1];assumption)⟩
 try simp only [sQ,ne_eq] at g5
 obtain ⟨hat,hk0,_,_,_⟩:=ZnY g5
 obtain ⟨f,hf0⟩ :∃f,x.folders[(atF x s 2).1.toNat]? = some f:=⟨_,List.getElem?_eq_getElem oz⟩
 have hfb:Zc6 (⟨f.next,f.mail⟩:DBox)=true:=ZbI (Zbm hok hf0)
 have hnl3:=Zi0 set f.mail.length
 have hnl4:f.mail.length≤10:=(Zcn hfb).2.2
 refine wSk (Za (xL [_,_,_,_,_] Zcd 0 (h:=xM (h:=xM (h:=xR Zy8 rfl (Zh2 _ _ _ _ _ _ x o n om2 om2 _ hf) (h:=?_))))))
 refine xA (h:=Za (xL [_,_,_,_,_] Zcd 0 (h:=xW Zjb (h:=x1 lk9 1 (h:=xM (h:=xR Zy9 rfl (ZgT _ _ _ _ _ _ x s.user (ZaN (inF o n) x.folders) 8 oz hrr oz _ hu hf) (h:=?_)))))))
 refine xA (h:=Za (xL [_,_,_,_,_] Zcd 0 (h:=xC ZxD rfl (Ze3 _ _ _ _ _ _ x _ hu hf hi) (h:=?_))))
 rintro _ B11 _ hle11 ⟨l11,a11,c11,q111,c111,q311,c311,rfl,rfl,hu11,hs11,hi11⟩
 obtain ⟨hu,hf,hi,hs⟩:=up4 hle11 hu hf hi hs
 have hu11n:=hu11.len
 have hi11n:=hi11.len
 refine Zd8 3 rfl hs11 Zk.mono om3 (fun B12 hle12 hr12=>?_)
 obtain ⟨hu,hf,hi,hs,hu11,hi11⟩:=up6 hle12 hu hf hi hs hu11 hi11
 have hr12n:=hr12.len
 refine xAl [_,_,_,_,_] Zb3 (h:=fun b13=>xS [_,_,_,_,_] 4 [_,_,_,_,_] ZcL (h:=tL5 (Za (xW Zat (h:=x1 ZeB 0 (h:=xM (h:=?_)))))))
 obtain ⟨bb14,oo14,rfl⟩:=hf.base hf0
 obtain ⟨_,⟨qg15,cg15,qm15,cm15,rfl,hg15,hm15,hb15,hb15b⟩,hc15⟩:=hf.elem hf0
 have hg15n:=hg15.len
 have hm15n:=hm15.len
 have hm15s:=Zao hm15
 refine xIx Tryz.underlying24 ZbM (h:=xW Zbv (h:=yL [_,_] Zfl hc15 3 (h:=xM (h:=xQ ZBW rfl (Ztf _ _ (⟨f.next,f.mail⟩:DBox) _ _ set _ hm15 hs) (h:=?_)))))
 intro v16 B16 hle16
 rintro ⟨a16,c16,rfl,hs16⟩
 obtain ⟨hu,hf,hi,hu11,hr12,hi11⟩:=up6 hle16 hu hf hi hu11 hr12 hi11
 have hs16n:=hs16.len
 refine xA (h:=Zc (Za (xA (h:=Zg (Zz (α:=GCp) [0,1,2,3,4,5,6,10,11,12,14,15,16,28,37] (fun g=>[(13,.int .i64 g.c),(17,.int .i64 g.k)]) [4] (fun g=>[ZN b13 [str g.x.domain,.slice g.q1 g.x.users.length g.c1,.slice g.q2 g.x.folders.length g.c2,.int .i64 g.x.queue.next,.slice g.q3 g.x.queue.items.length g.c3] 29]) (fun g Bx=>g.k≤(ZaA set f.mail.length).length∧(g.x,g.c)=(((ZaA set f.mail.length).take g.k).map (Zci f.mail)).foldl (Zap (ZaN (inF o n) x.folders).toNat) (x,(Zhp x.users x.folders s.user (ZaN (inF o n) x.folders) 8))∧(g.c=0→(Zhp x.users x.folders s.user (ZaN (inF o n) x.folders) 8)=0)∧ZQ g.x=true∧g.x.domain.length≤2000000∧g.x.folders.length=x.folders.length∧SlK Bx g.q1 g.c1 3 Zn g.x.users∧SlK Bx g.q2 g.c2 5 Zk g.x.folders∧SlK Bx g.q3 g.c3 4 Zy g.x.queue.items) (fun g=>(ZaA set f.mail.length).length - g.k) ⟨0,x,(Zhp x.users x.folders s.user (ZaN (inF o n) x.folders) 8),_,_,_,_,_,_⟩ t2 rfl (⟨Nat.zero_le _,rfl,id,hok,hd,rfl,hu11,hr12,hi11⟩) (fun g B17 hle17 hI=>?_))))))
 obtain ⟨hgk,hgs,hgc,hgo,hgd,hgl,hgu,hgf,hgi⟩:=hI
 have hgun:=hgu.len
 have hgin:=hgi.len
 obtain ⟨hu,hf,hi,hs16⟩:=up4 hle17 hu hf hi hs16
 refine ZD [(0,_),(1,_),(2,_),(3,_),(4,_),(5,_),(6,_),(10,_),(11,_),(12,_),(13,_),(14,_),(15,_),(16,_),(17,_),(28,_),(37,_)] [_,_,_,_,_] t17 rfl (Zc (Za (xM (h:=xM (h:=xV Tryz.underlying65 (h:=ZF (h:=xM (h:=Zx (d:=64) rfl (fun g6=>?_) (fun g6=>?_)))))))))
 try simp only [sQ,ne_eq] at g6
 refine xM (h:=Zf8 (h:=xT (h:=Zb rfl (fun g7=>?_) (fun g7=>?_))))
 try simp only [sQ,ne_eq] at g7
 obtain ⟨_,hk8,_⟩:=Zis (hgc g7)
 obtain ⟨y,hy⟩:=ZY (xs:=ZaA set f.mail.length) (i:=g.k) oz
 have hyb:=ZgN (List.mem_of_getElem? hy)
 refine wSk (Zc (Zg (Zc (Z2 (keeps _ [0] _) mo kr ⟨Kn.le.refl _,Za6.refl _ _⟩ (fun _ _=>?_)))))
 refine aW 0 rfl Zat (h:=aT 1 rfl (ZO fun D B L hI=>Zo rfl rfl ZeB rfl (atL 0 (hI.2.1.trans rfl) rfl rfl) r4) (h:=aM 2 rfl (h:=?_)))
 obtain ⟨_,⟨qg18,cg18,qm18,cm18,rfl,hg18,hm18,hb18,hb18b⟩,hc18⟩:=hf.elem hf0
 have hg18n:=hg18.len
 have hm18n:=hm18.len
 have hm18s:=Zao hm18
 refine aIx 3 rfl Tryz.underlying24 ZbM (h:=aW 4 rfl Zbv (h:=aW 5 rfl Zbc (h:=aT 6 rfl (ZO fun D B L hI=>Zo rfl rfl Zh1 rfl ((hc18.mono hI.1) _ 4 _ rfl) r4) (h:=aM 7 rfl (h:=aM 8 rfl (h:=?_))))))
 obtain ⟨bb19,oo19,rfl⟩:=hs16.base hy
 obtain ⟨_,rfl,hc20⟩:=hs16.elem hy
 refine aIx 9 rfl Tryz.underlying65 sz3 (h:=aT 10 rfl (ZO fun D B L hI=>Zo rfl rfl lk3 rfl ((hc20.mono hI.1) _ 0 _ rfl) r4) (h:=aU 11 rfl (h:=?_)))
 obtain ⟨m,hm⟩:=ZtF (xs:=f.mail) (i:=(y - 1)) om om
 obtain ⟨bb22,oo22,rfl⟩:=hm18.base hm
 obtain ⟨_,⟨rfl,hb23⟩,hc23⟩:=hm18.elem hm
 refine aIx 12 rfl Tryz.underlying91 Zgg (h:=?_)
 have hmo:=(ZdI hfb).1 m (List.mem_of_getElem? hm)
 have hmt:m.text.length≤20:=by simp only [Zbk,Bool.and_eq_true,decide_eq_true_eq] at hmo;exact hmo.2
 have hme:Zci f.mail y=m:=by simp only [Zci,hm]
 refine aT 13 rfl (ZO fun D B L hI=>ZW [_,_,_] rfl rfl ZmA rfl (Zkf (hc23.mono hI.1) 0 rfl rfl) r4) (h:=ZA 14 kr rfl kr (Zaj (l:=[_,_,_]) rfl rfl ZlU rfl (fun b24=>?_)))
 refine ⟨⟨Kn.le.refl _,t1⟩,(Zag 15 kr rfl kr kr kr (ZL [_,_,_] 5 [_,_,_] rfl rfl Zgg rfl rfl rfl rfl rfl rfl rfl rfl ?_))⟩
 refine Zp (tL6 (Za (xL [_,_,_,_,_] Zcd 4 (h:=xM (h:=xW Zgr (h:=x1 lk3 5 (h:=xW Zfa (h:=x1 lk9 5 (h:=xQ ZBH rfl (Ztg _ _ _ _ _ _ g.x (ZaN (inF o n) x.folders) m.flags m.text om2 (oy) oz oz om2 _ hgu hgf hgi) (h:=?_))))))))))
 intro va Ba hlea
 rintro ⟨p1a,d1a,p2a,d2a,p3a,d3a,rfl,hua,hfa,hia,hda⟩
 obtain ⟨hu,hf,hi,hgu,hgf,hgi⟩:=up6 hlea hu hf hi hgu hgf hgi
 have huan:=hua.len
 have hfan:=hfa.len
 have hian:=hia.len
 refine xM (h:=xE (h:=xE (h:=xAl [_,_,_,_,_] Zb3 (h:=fun b26=>xS [_,_,_,_,_] 6 [_,_,_,_,_] ZcL (h:=xA (h:=tL7 (Za (xL [_,_,_,_,_] Zcd 6 (h:=xS [_,_,_,_,_] 4 [_,_,_,_,_] ZcL (h:=tL7 (Zf (xM (h:=xA (h:=ZK (Zp (Zf (xM (h:=xD (h:=xA (h:=?_))))))))))))))))))))
 exact ZC ⟨g.k+1,(ZaM g.x (ZaN (inF o n) x.folders).toNat m.flags m.text).1,(ZaM g.x (ZaN (inF o n) x.folders).toNat m.flags m.text).2,_,_,_,_,_,_⟩ [0,1,2,3,4] so2 ⟨so,by simp only [];rw [ZrG hy,← hgs,hme,Zap,if_pos g7],fun _=>hgc g7,Zjz hgo (by simp only [Zbk,Bool.and_eq_true,decide_eq_true_eq] at hmo;simp only [Zc5,Bool.and_eq_true,decide_eq_true_eq];exact hmo.1.2) hmt,hda,by simp only [];rw [ZbE.2.2.2];exact hgl,hua,hfa,hia⟩ t17 rfl
 try simp only [sQ,ne_eq] at g7
 have hfin:=Zlm (n:=n) hnn g5 hf0 (ZrF hgs g7)
 refine ZE (ZV (ZG (Zt (Zp (Zc (Za (xM (h:=ZaH (h:=Zb rfl (fun g8=>?_) (fun g8=>by simp at g8;exact absurd g8 g7))))))))))
 try simp only [sQ,ne_eq] at g8
 refine Za (xL [_,_,_,_,_] Zcd 0 (h:=xC ZxD rfl (Ze3 _ _ _ _ _ _ x _ hu hf hi) (h:=?_)))
 rintro _ B27 _ hle27 ⟨l27,a27,c27,q127,c127,q327,c327,rfl,rfl,hu27,hs27,hi27⟩
 obtain ⟨hu,hf,hi,hgu,hgf,hgi⟩:=up6 hle27 hu hf hi hgu hgf hgi
 have hu27n:=hu27.len
 have hi27n:=hi27.len
 refine Zd8 5 rfl hs27 Zk.mono om3 (fun B28 hle28 hr28=>?_)
 obtain ⟨hu,hf,hi,hu27,hi27,hgu⟩:=up6 hle28 hu hf hi hu27 hi27 hgu
 obtain ⟨hgf,hgi⟩:=up2 hle28 hgf hgi
 have hr28n:=hr28.len
 refine xM (h:=?_)
 rw [hfin,if_neg g7]
 refine xS [_,_,_,_,_] 2 [_,_,_,_,_] ZcL (h:=xA (h:=tL6 (Zd (Zm ?_))))
 exact Zd2 .ret (.inl rfl) [_,_] [] rfl ⟨⟨_,rfl,.inr ⟨[_,_,_,_,_],Zcd,Zbw 2 rfl rfl rfl,rfl⟩⟩,rfl,trivial⟩ ⟨rfl,_,_,_,_,_,_,(by first | rfl | (simp only [DHost.withFolders,List.length_set];rfl)),hu27,hr28,hi27,by first | assumption | (rw [ZbE.2.2.1];assumption)⟩
 try simp only [sQ,ne_eq] at g6
 rw [List.take_of_length_le oz] at hgs
 have hfin:=Zlm (n:=n) hnn g5 hf0 hgs
 refine xP (h:=xP (h:=xF (h:=Zb (t:=false) rfl (fun h=>Bool.noConfusion h) (fun _=>ZE (ZV (ZG (Zt (Zp (Zc (Za (xM (h:=ZaH (h:=Zb rfl (fun g8=>?_) (fun g8=>?_))))))))))))))
 try simp only [sQ,ne_eq] at g8
 refine Za (xL [_,_,_,_,_] Zcd 0 (h:=xC ZxD rfl (Ze3 _ _ _ _ _ _ x _ hu hf hi) (h:=?_)))
 rintro _ B29 _ hle29 ⟨l29,a29,c29,q129,c129,q329,c329,rfl,rfl,hu29,hs29,hi29⟩
 obtain ⟨hgu,hgf,hgi⟩:=up3 hle29 hgu hgf hgi
 have hu29n:=hu29.len
 have hi29n:=hi29.len
 refine Zd8 5 rfl hs29 Zk.mono om3 (fun B30 hle30 hr30=>?_)
 obtain ⟨hu29,hi29,hgu,hgf,hgi⟩:=up5 hle30 hu29 hi29 hgu hgf hgi
 have hr30n:=hr30.len
 refine xM (h:=?_)
 rw [hfin,if_neg g8]
 refine xS [_,_,_,_,_] 2 [_,_,_,_,_] ZcL (h:=xA (h:=tL6 (Zd (Zm ?_))))
 exact Zd2 .ret (.inl rfl) [_,_] [] rfl ⟨⟨_,rfl,.inr ⟨[_,_,_,_,_],Zcd,Zbw 2 rfl rfl rfl,rfl⟩⟩,rfl,trivial⟩ ⟨rfl,_,_,_,_,_,_,(by first | rfl | (simp only [DHost.withFolders,List.length_set];rfl)),hu29,hr30,hi29,by first | assumption | (rw [ZbE.2.2.1];assumption)⟩
 try simp only [sQ,ne_eq] at g8
 rw [hfin,if_pos g8]
 refine wSk (Za (xL [_,_,_,_,_] Zcd 4 (h:=xS [_,_,_,_,_] 2 [_,_,_,_,_] ZcL (h:=xA (h:=tL5 (Zd ?_))))))
 exact Zd2 .ret (.inl rfl) [_,_] [] rfl ⟨⟨_,rfl,.inr ⟨[_,_,_,_,_],Zcd,Zbw 2 rfl rfl rfl,rfl⟩⟩,rfl,trivial⟩ ⟨rfl,_,_,_,_,_,_,(by first | rfl | (simp only [DHost.withFolders,List.length_set];rfl)),hgu,hgf,hgi,by first | assumption | (rw [ZbE.2.2.1];assumption)⟩

theorem Znb (q:Option Addr) (cp:Nat) (gs:List DGrant) (o u:Str) (ho:o.length≤2000000) (hn:u.length≤2000000) (B:Kn) (hg:SlK B q cp 2 Z8 gs):Zac (pj J) 155 [.slice q gs.length cp,str o,str u] B (.int .i64 (Zkd gs o u)):=by
 refine cB 35 Tryz.func155 (h:=?_)
 refine Za (xA (h:=Za (xM (h:=xC ZxG rfl (Zn2 _ _ _ _ hg) (h:=?_)))))
 rintro _ Bm _ hlem ⟨mm,lm,rfl,rfl,rfl,hlm⟩
 refine xM (h:=xE (h:=xE (h:=xA (h:=xA (h:=tL1 (Zc (Za (xM (h:=xN (h:=xM (h:=Zx (d:=16) rfl (fun g1=>?_) (fun g1=>?_))))))))))))
 try simp only [sQ,ne_eq] at g1
 refine xP (h:=xP (h:=xP (h:=xT (h:=xM (h:=xP (h:=xP (h:=xP (h:=xT (h:=Zb (t:=true) rfl (fun _=>Za (xA (h:=Zd (Zm ?_)))) (fun h=>Bool.noConfusion h))))))))))
 exact eR t1 ⟨ZH (Zkc (by simp [g1])).symm,rfl,rfl⟩
 try simp only [sQ,ne_eq] at g1
 refine xM (h:=xR Zlw rfl (Zck _ om2 _) (h:=?_))
 refine xN (h:=xF (h:=xM (h:=Zx (d:=21) rfl (fun g2=>?_) (fun g2=>?_))))
 try simp only [sQ,ne_eq] at g2
 refine xP (h:=xP (h:=xP (h:=xT (h:=Zb (t:=true) rfl (fun _=>Za (xA (h:=Zd (Zm ?_)))) (fun h=>Bool.noConfusion h)))))
 exact eR t1 ⟨ZH (Zkc (by simp [g2])).symm,rfl,rfl⟩
 try simp only [sQ,ne_eq] at g2
 refine xM (h:=xR Zlw rfl (Zck _ om2 _) (h:=?_))
 refine xN (h:=xF (h:=Zb rfl (fun g3=>?_) (fun g3=>?_)))
 try simp only [sQ,ne_eq] at g3
 refine Za (xA (h:=Zd (Zm ?_)))
 exact eR t1 ⟨ZH (Zkc (by simp [g3])).symm,rfl,rfl⟩
 try simp only [sQ,ne_eq] at g3
 have hce:=Zt6 (gs:=gs) (o:=o) (u:=u) g1 g2 (by simpa using g3)
 obtain ⟨bm,hmb,hml⟩:=hlm g1
 subst hmb
 clear hlm
 have hlm:=hml
 refine wSk (Zc (Za (xM (h:=xM (h:=Zd4 (h:=Zb rfl (fun g4=>?_) (fun g4=>?_)))))))
 try simp only [sQ,ne_eq] at g4
 refine Za (xA (h:=Zd (Zm ?_)))
 exact eR t1 ⟨ZH (by rw [hce,if_pos g4]),rfl,rfl⟩
 try simp only [sQ,ne_eq] at g4
 refine wSk (Za (xM (h:=xM (h:=Zl (Znl (k:=u) 0 rfl hlm rfl rfl Tryz.underlying295 Tryz.underlying9 zo3 rfl rfl (xM (h:=Zl (Znl (k:=[97,110,121,111,110,101]) 0 rfl hlm rfl rfl Tryz.underlying295 Tryz.underlying9 zo3 rfl rfl (Zl (Zyr rfl rfl rfl rfl (xA (h:=Zd ?_))))))))))))
 exact eR t1 ⟨ZH (by rw [hce,if_neg g4];rfl),rfl,rfl⟩

theorem Zxc (b o:Nat) (q1 q2 q3:Option Addr) (c1 c2 c3:Nat) (x:DHost) (qa qb:Option Addr) (ca cb:Nat) (u:Str) (f:DFolder) (rr:Int) (hn:u.length≤2000000) (ho:f.owner.length≤2000000) (B:Kn) (hh:Zal B b o [str x.domain,.slice q1 x.users.length c1,.slice q2 x.folders.length c2,.int .i64 x.queue.next,.slice q3 x.queue.items.length c3]) (hu:SlK B q1 c1 3 Zn x.users) (hg:SlK B qa ca 2 Z8 f.grants):Zac (pj J) 89 [ptr ⟨b,o,none⟩,str u,.agg #[str f.owner,str f.name,.slice qa f.grants.length ca,.int .i64 f.next,.slice qb f.mail.length cb],.int .i64 rr] B (.bool (Zqu x.users f u rr)):=by
 refine cB 29 Tryz.func89 (h:=?_)
 refine Za (xBx [_,_,_,_,_] (h:=fun b1=>xA (h:=tL1 (Za (xW Zeg (h:=x1 Zr2 0 (h:=xW ZbW (h:=x1 lk9 0 (h:=xM (h:=xR ZAe rfl (Znb _ _ f.grants f.owner u om2 om2 _ hg) (h:=?_)))))))))))
 refine xA (h:=Za (xM (h:=xM (h:=xR ZtM rfl (Zhw _ _ _ _ _ _ _ _ x u om2 _ hh hu) (h:=?_)))))
 refine xM (h:=Zx (d:=19) rfl (fun g1=>?_) (fun g1=>?_))
 refine xM (h:=Zep (h:=xT (h:=xM (h:=Zx (d:=23) rfl (fun g2=>?_) (fun g2=>?_)))))
 refine xM (h:=xM (h:=Zl (ZwL rfl rfl rfl rfl (ZaH (h:=xT (h:=xA (h:=Zd ?_)))))))
 exact eR t1 ⟨Ze (by simp [Zqu,g1,g2]),rfl,rfl⟩
 refine xP (h:=xP (h:=xP (h:=xP (h:=xF (h:=xA (h:=Zd ?_))))))
 exact eR t1 ⟨Ze (by simp [Zqu,g1,g2];try omega),rfl,rfl⟩
 refine xP (h:=xP (h:=xF (h:=xM (h:=xP (h:=xP (h:=xP (h:=xP (h:=xF (h:=xA (h:=Zd ?_))))))))))
 exact eR t1 ⟨Ze (by simp [Zqu,g1]),rfl,rfl⟩

theorem Zl4 (u y z:Str) (h1:u.length≤140737488355328) (h2:y.length≤140737488355328) (h3:z.length≤140737488355328) (left:Int) (hl0:0≤left) (hl1:left≤1048576) (B:Kn):Zac (pj J) 12 [.agg #[str u,str y,str z],.int .i64 left] B (.int .i64 (szI left (u.length+y.length+z.length))):=by
 refine cB 27 Tryz.func12 (h:=?_)
 refine Za (xBx [_,_,_] (h:=fun b1=>xA (h:=tL1 (Za (xM (h:=xW Zuw (h:=x1 lk9 0 (h:=xVs Tryz.underlying9 (h:=xU (h:=xA (h:=Zc (Za (xM (h:=ZF (h:=Zb rfl (fun g1=>?_) (fun g1=>?_))))))))))))))))
 try simp only [sQ,ne_eq] at g1
 refine Za (xA (h:=Zd (Zm ?_)))
 exact eR t1 ⟨ZH (by first | (unfold szI;split <;> omega)),rfl,rfl⟩
 try simp only [sQ,ne_eq] at g1
 refine wSk (Za (xM (h:=xW Zuv (h:=x1 lk9 0 (h:=xVs Tryz.underlying9 (h:=xU (h:=xA (h:=Zc (Za (xM (h:=ZF (h:=Zb rfl (fun g2=>?_) (fun g2=>?_)))))))))))))
 try simp only [sQ,ne_eq] at g2
 refine Za (xA (h:=Zd (Zm ?_)))
 exact eR t1 ⟨ZH (by first | (unfold szI;split <;> omega)),rfl,rfl⟩
 try simp only [sQ,ne_eq] at g2
 refine wSk (Za (xM (h:=xW Zuu (h:=x1 lk9 0 (h:=xVs Tryz.underlying9 (h:=xU (h:=xA (h:=Zc (Za (xM (h:=ZF (h:=Zb rfl (fun g3=>?_) (fun g3=>?_)))))))))))))
 try simp only [sQ,ne_eq] at g3
 refine Za (xA (h:=Zd (Zm ?_)))
 exact eR t1 ⟨ZH (by first | (unfold szI;split <;> omega)),rfl,rfl⟩
 try simp only [sQ,ne_eq] at g3
 refine wSk (Za (xM (h:=xA (h:=Zd ?_))))
 exact eR t1 ⟨ZH (by first | (unfold szI;split <;> omega)),rfl,rfl⟩

theorem Zb6 (u y z:Str) (B:Kn):Zac (pj J) 16 [.agg #[str u,str y,str z]] B (.agg #[str u,str y,str z]):=by
 refine cB 14 Tryz.func16 (h:=?_)
 refine Za (xBx [_,_,_] (h:=fun b1=>xAl [_,_,_] ZAN (h:=fun b2=>tL2 (Za (xAl [_,_,_] ZAN (h:=fun b3=>tL3 (Za (xW Zuw (h:=x1 lk9 0 (h:=xW Zjb (h:=xS [_] 2 [_,_,_] sz9 (h:=tL3 (Za (xW Zuv (h:=x1 lk9 0 (h:=xW ZqX (h:=xS [_] 2 [_,_,_] sz9 (h:=tL3 (Za (xW Zuu (h:=x1 lk9 0 (h:=xW ZqW (h:=xS [_] 2 [_,_,_] sz9 (h:=tL3 (Za (xL [_,_,_] Zx7 2 (h:=xS [_,_,_] 1 [_,_,_] ZBk (h:=tL3 (Zd ?_)))))))))))))))))))))))))))))
 exact eR ⟨⟨_,rfl,.inr ⟨[_,_,_],Zx7,Zbw 1 rfl rfl rfl,rfl⟩⟩,trivial⟩ ⟨rfl,rfl,rfl⟩

theorem ZmQ (q:Option Addr) (cp:Nat) (xs:List DMail) (k m n:Nat) (hmn:m=n) (he:xs=Zcc k n) (hk:k+3*n≤900000000000000) (B:Kn) (hx0:SlK B q cp 3 Z5 xs):Zac (pj J) 125 [.slice q m cp,.int .i64 k] B (.int .i64 ((k+3*n:Nat):Int)):=by
 refine cB 41 Tryz.func125 (h:=?_)
 have hxn:=hx0.len
 have hxl:xs.length=n:=by rw [he];exact ZaJ _ _
 refine Za (xA (h:=Zc (Za (xA (h:=Zg (Zz (α:=Nat) [0] (fun g=>[(1,.int .i64 ((k+3*g:Nat):Int)),(5,.int .i64 g)]) [] (fun g=>[]) (fun g Bx=>Bx=B∧g≤n) (fun g=>n - g) 0 t2 rfl (⟨rfl,Nat.zero_le _⟩) (fun g B1 hle1 hI=>?_)))))))
 obtain ⟨rfl,hi⟩:=hI
 refine ZD [(0,_),(1,_),(5,_)] [] t3 rfl (Zc (Za (xM (h:=xM (h:=xV Tryz.underlying91 (h:=ZF (h:=Zb rfl (fun g1=>?_) (fun g1=>?_))))))))
 try simp only [sQ,ne_eq] at g1
 have hx:xs[g]? = some (⟨((k+3*g:Nat):Int),((k+3*g+1:Nat):Int),ZX (k+3*g+1+1)⟩:DMail):=by rw [he];exact Zmp oz
 refine wSk (Zc (Zg (Zc (Za (xM (h:=xM (h:=?_)))))))
 obtain ⟨bb2,oo2,rfl⟩:=hx0.base hx
 obtain ⟨_,⟨rfl,hb3⟩,hc3⟩:=hx0.elem hx
 refine xIx Tryz.underlying91 Zgg (h:=xW ZeR (h:=y1 lk3 hc3 0 (h:=xM (h:=ZaH (h:=Zb rfl (fun h1=>by simp at h1) (fun h1=>?_))))))
 try simp only [sQ,ne_eq] at h1
 refine wSk (Za (xM (h:=xD (h:=xA (h:=Zc (Za (xM (h:=xM (h:=xIx Tryz.underlying91 Zgg (h:=xW Zgr (h:=y1 lk3 hc3 1 (h:=xM (h:=ZaH (h:=Zb rfl (fun h2=>by simp at h2) (fun h2=>?_)))))))))))))))
 try simp only [sQ,ne_eq] at h2
 refine wSk (Za (xM (h:=xD (h:=xA (h:=Zc (Zc (Z2 (same _ _) mo kr ⟨rfl,rfl⟩ (fun _ _=>?_))))))))
 refine aM 0 rfl (h:=aM 1 rfl (h:=aIx 2 rfl Tryz.underlying91 Zgg (h:=aW 3 rfl Zfa (h:=aT 4 rfl (Zae fun D=>Zo rfl rfl lk9 rfl (hc3 _ 2 _ rfl) r4) (h:=aM 5 rfl (h:=aT 6 rfl (Zae fun D=>Z7 rfl rfl Zkh rfl (Zam (((k+3*g)+1)+1) oz _) r4) (h:=?_)))))))
 refine ZfJ 7 rfl (h:=Zu kr kr ?_)
 refine Zp (Zb rfl (fun h3=>by simp at h3) (fun h3=>?_))
 try simp only [sQ,ne_eq] at h3
 refine wSk (Zf (xM (h:=xD (h:=xA (h:=ZK (Zp (Zf (xM (h:=xD (h:=xA (h:=?_)))))))))))
 exact ZC (g+1) [] so2 ⟨rfl,oz⟩ t3 rfl
 try simp only [sQ,ne_eq] at g1
 refine ZE (ZV (ZG (Zt (Zp (Za (xM (h:=xA (h:=Zd ?_))))))))
 exact eR t1 ⟨ZH (by rw [show g=n from by omega]),rfl,rfl⟩

theorem Zli (q:Option Addr) (cp:Nat) (xs:List DGrant) (k m n:Nat) (hmn:m=n) (he:xs=ZaI k n) (hk:k+2*n≤900000000000000) (B:Kn) (hx0:SlK B q cp 2 Z8 xs):Zac (pj J) 124 [.slice q m cp,.int .i64 k] B (.int .i64 ((k+2*n:Nat):Int)):=by
 refine cB 32 Tryz.func124 (h:=?_)
 have hxn:=hx0.len
 have hxl:xs.length=n:=by rw [he];exact Zaz _ _
 refine Za (xA (h:=Zc (Za (xA (h:=Zg (Zz (α:=Nat) [0] (fun g=>[(1,.int .i64 ((k+2*g:Nat):Int)),(5,.int .i64 g)]) [] (fun g=>[]) (fun g Bx=>Bx=B∧g≤n) (fun g=>n - g) 0 t2 rfl (⟨rfl,Nat.zero_le _⟩) (fun g B1 hle1 hI=>?_)))))))
 obtain ⟨rfl,hi⟩:=hI
 refine ZD [(0,_),(1,_),(5,_)] [] t3 rfl (Zc (Za (xM (h:=xM (h:=xV Tryz.underlying94 (h:=ZF (h:=Zb rfl (fun g1=>?_) (fun g1=>?_))))))))
 try simp only [sQ,ne_eq] at g1
 have hx:xs[g]? = some (⟨ZX (k+2*g),((k+2*g+1:Nat):Int)⟩:DGrant):=by rw [he];exact Zk1 oz
 refine wSk (Zc (Zg (Zc (Zc (Z2 (same _ _) mo kr ⟨rfl,rfl⟩ (fun _ _=>?_))))))
 refine aM 0 rfl (h:=aM 1 rfl (h:=?_))
 obtain ⟨bb2,oo2,rfl⟩:=hx0.base hx
 obtain ⟨_,⟨rfl,hb3⟩,hc3⟩:=hx0.elem hx
 refine aIx 2 rfl Tryz.underlying94 Zd0 (h:=aW 3 rfl Zcz (h:=aT 4 rfl (Zae fun D=>Zo rfl rfl lk9 rfl (hc3 _ 0 _ rfl) r4) (h:=aM 5 rfl (h:=aT 6 rfl (Zae fun D=>Z7 rfl rfl Zkh rfl (Zam (k+2*g) oz _) r4) (h:=?_)))))
 refine ZfJ 7 rfl (h:=Zu kr kr ?_)
 refine Zp (Zb rfl (fun h1=>by simp at h1) (fun h1=>?_))
 try simp only [sQ,ne_eq] at h1
 refine wSk (Za (xM (h:=xD (h:=xA (h:=Zc (Za (xM (h:=xM (h:=xIx Tryz.underlying94 Zd0 (h:=xW ZdC (h:=y1 lk3 hc3 1 (h:=xM (h:=ZaH (h:=Zb rfl (fun h2=>by simp at h2) (fun h2=>?_)))))))))))))))
 try simp only [sQ,ne_eq] at h2
 refine wSk (Zf (xM (h:=xD (h:=xA (h:=ZK (Zp (Zf (xM (h:=xD (h:=xA (h:=?_)))))))))))
 exact ZC (g+1) [] so2 ⟨rfl,oz⟩ t3 rfl
 try simp only [sQ,ne_eq] at g1
 refine ZE (ZV (ZG (Zt (Zp (Za (xM (h:=xA (h:=Zd ?_))))))))
 exact eR t1 ⟨ZH (by rw [show g=n from by omega]),rfl,rfl⟩

theorem ZmO (q:Option Addr) (cp:Nat) (xs:List DUser) (k m n:Nat) (hmn:m=n) (he:xs=ZcP k n) (hk:k+3*n≤900000000000000) (B:Kn) (hx0:SlK B q cp 3 Zn xs):Zac (pj J) 70 [.slice q m cp,.int .i64 k] B (.int .i64 ((k+3*n:Nat):Int)):=by
 refine cB 42 Tryz.func70 (h:=?_)
 have hxn:=hx0.len
 have hxl:xs.length=n:=by rw [he];exact Zby _ _
 refine Za (xA (h:=Zc (Za (xA (h:=Zg (Zz (α:=Nat) [0] (fun g=>[(1,.int .i64 ((k+3*g:Nat):Int)),(5,.int .i64 g)]) [] (fun g=>[]) (fun g Bx=>Bx=B∧g≤n) (fun g=>n - g) 0 t2 rfl (⟨rfl,Nat.zero_le _⟩) (fun g B1 hle1 hI=>?_)))))))
 obtain ⟨rfl,hi⟩:=hI
 refine ZD [(0,_),(1,_),(5,_)] [] t3 rfl (Zc (Za (xM (h:=xM (h:=xV Tryz.underlying23 (h:=ZF (h:=Zb rfl (fun g1=>?_) (fun g1=>?_))))))))
 try simp only [sQ,ne_eq] at g1
 have hx:xs[g]? = some (⟨ZX (k+3*g),ZX (k+3*g+1),((k+3*g+1+1:Nat):Int)⟩:DUser):=by rw [he];exact Zmn oz
 refine wSk (Zc (Zg (Zc (Zc (Z2 (same _ _) mo kr ⟨rfl,rfl⟩ (fun _ _=>?_))))))
 refine aM 0 rfl (h:=aM 1 rfl (h:=?_))
 obtain ⟨bb2,oo2,rfl⟩:=hx0.base hx
 obtain ⟨_,⟨rfl,hb3,hb3b⟩,hc3⟩:=hx0.elem hx
 refine aIx 2 rfl Tryz.underlying23 Zbq (h:=aW 3 rfl Zbi (h:=aT 4 rfl (Zae fun D=>Zo rfl rfl lk9 rfl (hc3 _ 0 _ rfl) r4) (h:=aM 5 rfl (h:=aT 6 rfl (Zae fun D=>Z7 rfl rfl Zkh rfl (Zam (k+3*g) oz _) r4) (h:=?_)))))
 refine ZfJ 7 rfl (h:=Zu kr kr ?_)
 refine Zp (Zb rfl (fun h1=>by simp at h1) (fun h1=>?_))
 try simp only [sQ,ne_eq] at h1
 refine wSk (Za (xM (h:=xD (h:=xA (h:=Zc (Zc (Z2 (same _ _) mo kr ⟨rfl,rfl⟩ (fun _ _=>?_))))))))
 refine aM 0 rfl (h:=aM 1 rfl (h:=aIx 2 rfl Tryz.underlying23 Zbq (h:=aW 3 rfl ZfZ (h:=aT 4 rfl (Zae fun D=>Zo rfl rfl lk9 rfl (hc3 _ 1 _ rfl) r4) (h:=aM 5 rfl (h:=aT 6 rfl (Zae fun D=>Z7 rfl rfl Zkh rfl (Zam ((k+3*g)+1) oz _) r4) (h:=?_)))))))
 refine ZfJ 7 rfl (h:=Zu kr kr ?_)
 refine Zp (Zb rfl (fun h2=>by simp at h2) (fun h2=>?_))
 try simp only [sQ,ne_eq] at h2
 refine wSk (Za (xM (h:=xD (h:=xA (h:=Zc (Za (xM (h:=xM (h:=xIx Tryz.underlying23 Zbq (h:=xW ZdD (h:=y1 lk3 hc3 2 (h:=xM (h:=ZaH (h:=Zb rfl (fun h3=>by simp at h3) (fun h3=>?_)))))))))))))))
 try simp only [sQ,ne_eq] at h3
 refine wSk (Zf (xM (h:=xD (h:=xA (h:=ZK (Zp (Zf (xM (h:=xD (h:=xA (h:=?_)))))))))))
 exact ZC (g+1) [] so2 ⟨rfl,oz⟩ t3 rfl
 try simp only [sQ,ne_eq] at g1
 refine ZE (ZV (ZG (Zt (Zp (Za (xM (h:=xA (h:=Zd ?_))))))))
 exact eR t1 ⟨ZH (by rw [show g=n from by omega]),rfl,rfl⟩

theorem ZoN (q:Option Addr) (cp:Nat) (xs:List Str) (k m n:Nat) (hmn:m=n) (he:xs=Zdw k n) (hk:k+1*n≤900000000000000) (B:Kn) (hx0:SlK B q cp 1 ZdM xs):Zac (pj J) 185 [.slice q m cp,.int .i64 k] B (.int .i64 ((k+1*n:Nat):Int)):=by
 refine cB 22 Tryz.func185 (h:=?_)
 have hxn:=hx0.len
 have hxl:xs.length=n:=by rw [he];exact Zbo _ _
 refine Za (xA (h:=Zc (Za (xA (h:=Zg (Zz (α:=Nat) [0] (fun g=>[(1,.int .i64 ((k+1*g:Nat):Int)),(5,.int .i64 g)]) [] (fun g=>[]) (fun g Bx=>Bx=B∧g≤n) (fun g=>n - g) 0 t2 rfl (⟨rfl,Nat.zero_le _⟩) (fun g B1 hle1 hI=>?_)))))))
 obtain ⟨rfl,hi⟩:=hI
 refine ZD [(0,_),(1,_),(5,_)] [] t3 rfl (Zc (Za (xM (h:=xM (h:=xV Tryz.underlying143 (h:=ZF (h:=Zb rfl (fun g1=>?_) (fun g1=>?_))))))))
 try simp only [sQ,ne_eq] at g1
 have hx:xs[g]? = some (ZX (k+1*g):Str):=by rw [he];exact Zoz oz
 refine wSk (Zc (Zg (Zc (Zc (Z2 (same _ _) mo kr ⟨rfl,rfl⟩ (fun _ _=>?_))))))
 refine aM 0 rfl (h:=aM 1 rfl (h:=?_))
 obtain ⟨bb2,oo2,rfl⟩:=hx0.base hx
 obtain ⟨_,⟨rfl,hb3⟩,hc3⟩:=hx0.elem hx
 refine aIx 2 rfl Tryz.underlying143 sz9 (h:=aT 3 rfl (Zae fun D=>Zo rfl rfl lk9 rfl (hc3 _ 0 _ rfl) r4) (h:=aM 4 rfl (h:=aT 5 rfl (Zae fun D=>Z7 rfl rfl Zkh rfl (Zam (k+1*g) oz _) r4) (h:=?_))))
 refine ZfJ 6 rfl (h:=Zu kr kr ?_)
 refine Zp (Zb rfl (fun h1=>by simp at h1) (fun h1=>?_))
 try simp only [sQ,ne_eq] at h1
 refine wSk (Zf (xM (h:=xD (h:=xA (h:=ZK (Zp (Zf (xM (h:=xD (h:=xA (h:=?_)))))))))))
 exact ZC (g+1) [] so2 ⟨rfl,oz⟩ t3 rfl
 try simp only [sQ,ne_eq] at g1
 refine ZE (ZV (ZG (Zt (Zp (Za (xM (h:=xA (h:=Zd ?_))))))))
 exact eR t1 ⟨ZH (by rw [show g=n from by omega]),rfl,rfl⟩

set_option maxHeartbeats 400000 in
theorem ZjH (q:Option Addr) (cp:Nat) (xs:List DFolder) (l:Cells) (k:Nat) (hk:kL ZbQ k xs≤800000000000000) (hn:xs.length≤2000000) (B:Kn) (hv:ZaF l q cp 96 5 (ZU 259 99) xs):Zv (pj J) 63 [.slice q xs.length cp,.int .i64 k] B [l] (fun v B' Ls=>B'=B∧∃l',Ls=[l']∧v = .int .i64 ((kL ZbQ k xs:Nat):Int)∧ZaF l' q cp 96 5 (ZU 259 99) (mkL ZbQ mkF k xs)):=by
 refine Zcg 52 Tryz.func63 rfl rfl rfl (Nat.le_of_ble_eq_true rfl) ?_
 have hvc:=hv.cap
 refine Za ?_
 refine xA (h:=?_)
 refine Zc ?_
 refine Za ?_
 refine xA (h:=?_)
 refine Zg ?_
 refine Zz (α:=Nat × Nat × Cells × List DFolder) [4] (fun g=>[(0,.slice q xs.length cp),(1,.int .i64 ((g.2.1:Nat):Int)),(5,.int .i64 g.1)]) [0] (fun g=>[g.2.2.1]) (fun g Bx=>Bx=B∧g.1≤xs.length∧g.2.1=kL ZbQ k (xs.take g.1)∧g.2.2.2.length=xs.length∧g.2.2.2.take g.1=mkL ZbQ mkF k (xs.take g.1)∧g.2.2.2.drop g.1=xs.drop g.1∧ZaF g.2.2.1 q cp 96 5 (ZU 259 99) g.2.2.2) (fun g=>xs.length - g.1) (0,k,l,xs) t3 rfl (⟨rfl,Nat.zero_le _,ZnG.symm,rfl,rfl,rfl,hv⟩) (fun g B1 hle1 hI=>?_)
 obtain ⟨rfl,hi,hs,hle,ht,hd,hw⟩:=hI
 refine ZD [(0,_),(1,_),(4,_),(5,_)] [_] t4 rfl ?_
 refine Zc ?_
 refine Za ?_
 refine xM (h:=?_)
 refine xM (h:=?_)
 refine xV Tryz.underlying24 (h:=?_)
 refine ZF (h:=?_)
 refine Zb rfl (fun g1=>?_) (fun g1=>?_)
 try simp only [sQ,ne_eq] at g1
 obtain ⟨x,hx⟩:=ZY (xs:=xs) (i:=g.1) oz
 have hy:=(ZnQ hd).trans hx
 have hkl:=Nat.le_trans (Ztj (st:=ZbQ) (k:=k) hx) hk
 rw [← hs] at hkl
 have hst:ZbQ x=3+2*x.grants.length+3*x.mail.length:=rfl
 refine ZS ?_
 refine Zp ?_
 refine Zc ?_
 refine Zg ?_
 refine Za ?_
 refine xM (h:=?_)
 refine xM (h:=?_)
 refine xM (h:=?_)
 refine xR Zkh rfl (Zam (g.2.1) oz _) (h:=?_)
 obtain ⟨bb3,_,li3,lr3,hp3,⟨qg3,cg3,qm3,cm3,ia3,ib3,rfl,rfl,hg3,hm3,ho3,hn3,hx3,hy3⟩,hw3,hq3,hc3,hk3⟩:=hw.cell (B:=B1) (L:=[g.2.2.1]) hy 0 rfl
 refine xIp hp3 Tryz.underlying24 ZbM (h:=?_)
 refine xW ZbW (h:=?_)
 refine Zl (ZiM (k:=g.1) (us:=[_]) ((⟨ZX (g.2.1),x.name,x.grants,x.next,x.mail⟩:DFolder)) 0 0 rfl hw hp3 hy rfl rfl sz9 rfl rfl rfl rfl (Nat.le_of_ble_eq_true rfl) (by rintro _ _ ⟨_,_,_,_,_,_,rfl,rfl,h1,h2,h3,h4,h5,h6⟩;exact ⟨_,_,_,_,_,_,rfl,rfl,h1,h2,show (ZX (g.2.1)).length≤2000000 from Nat.le_trans (Zcv (k:=g.2.1) oz) (by decide),h4,h5,h6⟩) (fun l4 hv4=>?_))
 have hs4:=Zex (z:=((⟨ZX (g.2.1),x.name,x.grants,x.next,x.mail⟩:DFolder))) hy
 refine Zpk [_] rfl ?_
 refine Za ?_
 refine xM (h:=?_)
 refine xD (h:=?_)
 refine xA (h:=?_)
 refine Za ?_
 refine xM (h:=?_)
 refine xM (h:=?_)
 refine xM (h:=?_)
 refine xR Zkh rfl (Zam ((g.2.1)+1) oz _) (h:=?_)
 obtain ⟨bb6,_,li6,lr6,hp6,⟨qg6,cg6,qm6,cm6,ia6,ib6,rfl,rfl,hg6,hm6,ho6,hn6,hx6,hy6⟩,hw6,hq6,hc6,hk6⟩:=hv4.cell (B:=B1) (L:=[l4]) hs4 0 rfl
 refine xIp hp6 Tryz.underlying24 ZbM (h:=?_)
 refine xW Zeh (h:=?_)
 refine Zl (ZiM (k:=g.1) (us:=[_]) ((⟨ZX (g.2.1),ZX (g.2.1+1),x.grants,x.next,x.mail⟩:DFolder)) 1 0 rfl hv4 hp6 hs4 rfl rfl sz9 rfl rfl rfl rfl (Nat.le_of_ble_eq_true rfl) (by rintro _ _ ⟨_,_,_,_,_,_,rfl,rfl,h1,h2,h3,h4,h5,h6⟩;exact ⟨_,_,_,_,_,_,rfl,rfl,h1,h2,h3,show (ZX (g.2.1+1)).length≤2000000 from Nat.le_trans (Zcv (k:=g.2.1+1) oz) (by decide),h5,h6⟩) (fun l7 hv7=>?_))
 rw [List.set_set] at hv7
 have hs7:=Zex (z:=((⟨ZX (g.2.1),ZX (g.2.1+1),x.grants,x.next,x.mail⟩:DFolder))) hy
 refine Zpk [_] rfl ?_
 obtain ⟨bb8,_,li8,lr8,hp8,⟨qg8,cg8,qm8,cm8,ia8,ib8,rfl,rfl,hg8,hm8,ho8,hn8,hx8,hy8⟩,hw8,hq8,hc8,hk8⟩:=hv7.cell (B:=B1) (L:=[_]) hs7 0 rfl
 replace hc8:=fun m u h=>(hc8 m u h).perm (ZgG 0 rfl (Zqd hq8))
 refine ZeW 0 rfl (Zqd hq8) ?_
 refine Za ?_
 refine xM (h:=?_)
 refine xD (h:=?_)
 refine xA (h:=?_)
 refine Zpk [_,_,_] rfl ?_
 refine Za ?_
 refine xM (h:=?_)
 refine xM (h:=?_)
 refine xIp hp8 Tryz.underlying24 ZbM (h:=?_)
 refine xW Zeg (h:=?_)
 refine Zl (Zo rfl rfl Zr2 rfl (hc8 2 _ rfl) ?_)
 refine xM (h:=?_)
 refine Zl (ZcI [1] rfl rfl rfl rfl ZAA rfl (Zk4 _ _ (((⟨ZX (g.2.1),ZX (g.2.1+1),x.grants,x.next,x.mail⟩:DFolder)).grants) _ (((g.2.1)+1)+1) oz oz _ (hg8.anyK Z8.any)) ?_)
 rintro _ B9 _ hle9 ⟨rfl,l9,rfl,rfl,hs9⟩
 refine xA (h:=?_)
 refine Zpk [_,_,_] rfl ?_
 refine ZfM 0 2 rfl rfl (by decide) ?_
 refine ZfM 0 1 rfl rfl (by decide) ?_
 have hv10:=hk8 (⟨ZX (g.2.1),ZX (g.2.1+1),ZaI (g.2.1+1+1) x.grants.length,x.next,x.mail⟩:DFolder) _ ⟨qg8,cg8,qm8,cm8,_,_,by simp only [Zaz,ZaJ],rfl,hs9.anyK Z8.any,hm8.anyK Z5.any,ho8,hn8,by first | assumption | (rw [Zaz];assumption),by first | assumption | (rw [ZaJ];assumption)⟩
 rw [List.append_assoc,List.set_set] at hv10
 have hs10:=Zex (z:=((⟨ZX (g.2.1),ZX (g.2.1+1),ZaI (g.2.1+1+1) x.grants.length,x.next,x.mail⟩:DFolder))) hy
 refine Zpm [0] rfl ?_
 refine Za ?_
 refine xM (h:=?_)
 refine xM (h:=?_)
 refine xM (h:=?_)
 obtain ⟨bb11,_,li11,lr11,hp11,⟨qg11,cg11,qm11,cm11,ia11,ib11,rfl,rfl,hg11,hm11,ho11,hn11,hx11,hy11⟩,hw11,hq11,hc11,hk11⟩:=hv10.cell (B:=B9) (L:=[_]) hs10 0 rfl
 refine xIp hp11 Tryz.underlying24 ZbM (h:=?_)
 refine xW Zbv (h:=?_)
 refine xW Zda (h:=?_)
 refine Zl (ZiM (k:=g.1) (us:=[_]) ((⟨ZX (g.2.1),ZX (g.2.1+1),ZaI (g.2.1+1+1) x.grants.length,((g.2.1+1+1+2*x.grants.length:Nat):Int),x.mail⟩:DFolder)) 3 0 rfl hv10 hp11 hs10 rfl rfl sz3 rfl rfl rfl rfl (Nat.le_of_ble_eq_true rfl) (by rintro _ _ ⟨_,_,_,_,_,_,rfl,rfl,h1,h2,h3,h4,h5,h6⟩;exact ⟨_,_,_,_,_,_,rfl,rfl,h1,h2,h3,h4,h5,h6⟩) (fun l12 hv12=>?_))
 rw [List.set_set] at hv12
 have hs12:=Zex (z:=((⟨ZX (g.2.1),ZX (g.2.1+1),ZaI (g.2.1+1+1) x.grants.length,((g.2.1+1+1+2*x.grants.length:Nat):Int),x.mail⟩:DFolder))) hy
 refine Zpk [_] rfl ?_
 obtain ⟨bb13,_,li13,lr13,hp13,⟨qg13,cg13,qm13,cm13,ia13,ib13,rfl,rfl,hg13,hm13,ho13,hn13,hx13,hy13⟩,hw13,hq13,hc13,hk13⟩:=hv12.cell (B:=B9) (L:=[_]) hs12 0 rfl
 replace hc13:=fun m u h=>(hc13 m u h).perm (ZgG 0 rfl (Zqd hq13))
 refine ZeW 0 rfl (Zqd hq13) ?_
 refine Za ?_
 refine xM (h:=?_)
 refine xD (h:=?_)
 refine xA (h:=?_)
 refine Zpk [_,_,_] rfl ?_
 refine Zf ?_
 refine xM (h:=?_)
 refine xM (h:=?_)
 refine xIp hp13 Tryz.underlying24 ZbM (h:=?_)
 refine xW Zbv (h:=?_)
 refine xW Zbc (h:=?_)
 refine Zl (Zo rfl rfl Zh1 rfl (hc13 4 _ rfl) ?_)
 refine xM (h:=?_)
 refine Zl (ZcI [2] rfl rfl rfl rfl ZAz rfl (Zmw _ _ (((⟨ZX (g.2.1),ZX (g.2.1+1),ZaI (g.2.1+1+1) x.grants.length,((g.2.1+1+1+2*x.grants.length:Nat):Int),x.mail⟩:DFolder)).mail) _ (((((g.2.1)+1)+1)+2*(((⟨ZX (g.2.1),ZX (g.2.1+1),x.grants,x.next,x.mail⟩:DFolder)).grants).length)+1) oz oz _ (hm13.anyK Z5.any)) ?_)
 rintro _ B14 _ hle14 ⟨rfl,l14,rfl,rfl,hs14⟩
 refine xA (h:=?_)
 refine ZK (Zp ?_)
 refine ZfM 0 2 rfl rfl (by decide) ?_
 refine ZfM 0 1 rfl rfl (by decide) ?_
 have hv15:=hk13 (⟨ZX (g.2.1),ZX (g.2.1+1),ZaI (g.2.1+1+1) x.grants.length,((g.2.1+1+1+2*x.grants.length:Nat):Int),Zcc (g.2.1+1+1+2*x.grants.length+1) x.mail.length⟩:DFolder) _ ⟨qg13,cg13,qm13,cm13,_,_,by simp only [Zaz,ZaJ],rfl,hg13.anyK Z8.any,hs14.anyK Z5.any,ho13,hn13,by first | assumption | (rw [Zaz];assumption),by first | assumption | (rw [ZaJ];assumption)⟩
 rw [List.append_assoc,List.set_set] at hv15
 have hs15:=Zex (z:=((⟨ZX (g.2.1),ZX (g.2.1+1),ZaI (g.2.1+1+1) x.grants.length,((g.2.1+1+1+2*x.grants.length:Nat):Int),Zcc (g.2.1+1+1+2*x.grants.length+1) x.mail.length⟩:DFolder))) hy
 refine Zpm [0] rfl ?_
 refine Zf ?_
 refine xM (h:=?_)
 refine xD (h:=?_)
 refine xA (h:=?_)
 exact ZC (g.1+1,g.2.1+1+1+2*x.grants.length+1+3*x.mail.length,_,(g.2.2.2.set g.1 ((⟨ZX (g.2.1),ZX (g.2.1+1),ZaI (g.2.1+1+1) x.grants.length,((g.2.1+1+1+2*x.grants.length:Nat):Int),Zcc (g.2.1+1+1+2*x.grants.length+1) x.mail.length⟩:DFolder)))) [0] so2 ⟨rfl,so,by simp only [];rw [Zh3 hx,← hs,hst];omega,Znp hle,Zk0 ht hx hle hs,ZnP hd,hv15⟩ t4 rfl
 try simp only [sQ,ne_eq] at g1
 have he:=Zqs ht hle oz
 have hgi:g.1=xs.length:=by omega
 refine ZE (ZV (ZG (Zt (Zp ?_))))
 refine Za ?_
 refine xM (h:=?_)
 refine xA (h:=?_)
 refine Zd ?_
 exact Zd2 .ret (.inl rfl) [_] [0] rfl t1 ⟨rfl,_,rfl,by rw [hs,ZnH oz];rfl,by rw [← he];exact hw⟩

theorem Zmx (q:Option Addr) (cp:Nat) (xs:List DItem) (l:Cells) (k:Nat) (hk:kL Zco k xs≤800000000000000) (hn:xs.length≤2000000) (B:Kn) (hv:ZaF l q cp 145 4 (ZaQ 9) xs):Zv (pj J) 116 [.slice q xs.length cp,.int .i64 k] B [l] (fun v B' Ls=>B'=B∧∃l',Ls=[l']∧v = .int .i64 ((kL Zco k xs:Nat):Int)∧ZaF l' q cp 145 4 (ZaQ 9) (mkL Zco mkI k xs)):=by
 refine cB 43 Tryz.func116 (h:=?_)
 have hvc:=hv.cap
 refine Za (xA (h:=Zc (Za (xA (h:=Zg (Zz (α:=Nat × Nat × Cells × List DItem) [4] (fun g=>[(0,.slice q xs.length cp),(1,.int .i64 ((g.2.1:Nat):Int)),(5,.int .i64 g.1)]) [0] (fun g=>[g.2.2.1]) (fun g Bx=>Bx=B∧g.1≤xs.length∧g.2.1=kL Zco k (xs.take g.1)∧g.2.2.2.length=xs.length∧g.2.2.2.take g.1=mkL Zco mkI k (xs.take g.1)∧g.2.2.2.drop g.1=xs.drop g.1∧ZaF g.2.2.1 q cp 145 4 (ZaQ 9) g.2.2.2) (fun g=>xs.length - g.1) (0,k,l,xs) t3 rfl (⟨rfl,Nat.zero_le _,ZnG.symm,rfl,rfl,rfl,hv⟩) (fun g B1 hle1 hI=>?_)))))))
 obtain ⟨rfl,hi,hs,hle,ht,hd,hw⟩:=hI
 refine ZD [(0,_),(1,_),(4,_),(5,_)] [_] t4 rfl (Zc (Za (xM (h:=xM (h:=xV Tryz.underlying25 (h:=ZF (h:=Zb rfl (fun g1=>?_) (fun g1=>?_))))))))
 try simp only [sQ,ne_eq] at g1
 obtain ⟨x,hx⟩:=ZY (xs:=xs) (i:=g.1) oz
 have hy:=(ZnQ hd).trans hx
 have hkl:=Nat.le_trans (Ztj (st:=Zco) (k:=k) hx) hk
 rw [← hs] at hkl
 have hst:Zco x=3+x.left.length:=rfl
 refine wSk (Zc (Zg (Za (xM (h:=xM (h:=xM (h:=?_)))))))
 obtain ⟨bb2,_,li2,lr2,hp2,⟨qg2,cg2,rfl,hg2,ho2,hn2,hx2⟩,hw2,hq2,hc2,hk2⟩:=hw.cell (B:=B1) (L:=[g.2.2.1]) hy 0 rfl
 refine xIp hp2 Tryz.underlying25 ZbC (h:=xW ZeF (h:=Zl (ZiM (k:=g.1) (us:=[_]) ((⟨((g.2.1:Nat):Int),x.fr,x.text,x.left⟩:DItem)) 0 0 rfl hw hp2 hy rfl rfl sz3 rfl rfl rfl rfl (Nat.le_of_ble_eq_true rfl) (by rintro _ _ ⟨_,_,rfl,h1,h2,h3,h4⟩;exact ⟨_,_,rfl,h1,h2,h3,h4⟩) (fun l3 hv3=>?_))))
 have hs3:=Zex (z:=((⟨((g.2.1:Nat):Int),x.fr,x.text,x.left⟩:DItem))) hy
 refine tL1 (Za (xM (h:=xD (h:=xA (h:=Za (xM (h:=xM (h:=xM (h:=xR Zkh rfl (Zam ((g.2.1)+1) oz _) (h:=?_))))))))))
 obtain ⟨bb5,_,li5,lr5,hp5,⟨qg5,cg5,rfl,hg5,ho5,hn5,hx5⟩,hw5,hq5,hc5,hk5⟩:=hv3.cell (B:=B1) (L:=[l3]) hs3 0 rfl
 refine xIp hp5 Tryz.underlying25 ZbC (h:=xW ZeE (h:=Zl (ZiM (k:=g.1) (us:=[_]) ((⟨((g.2.1:Nat):Int),ZX (g.2.1+1),x.text,x.left⟩:DItem)) 1 0 rfl hv3 hp5 hs3 rfl rfl sz9 rfl rfl rfl rfl (Nat.le_of_ble_eq_true rfl) (by rintro _ _ ⟨_,_,rfl,h1,h2,h3,h4⟩;exact ⟨_,_,rfl,h1,show (ZX (g.2.1+1)).length≤2000000 from Nat.le_trans (Zcv (k:=g.2.1+1) oz) (by decide),h3,h4⟩) (fun l6 hv6=>?_))))
 rw [List.set_set] at hv6
 have hs6:=Zex (z:=((⟨((g.2.1:Nat):Int),ZX (g.2.1+1),x.text,x.left⟩:DItem))) hy
 refine tL1 (Za (xM (h:=xD (h:=xA (h:=Za (xM (h:=xM (h:=xM (h:=xR Zkh rfl (Zam (((g.2.1)+1)+1) oz _) (h:=?_))))))))))
 obtain ⟨bb8,_,li8,lr8,hp8,⟨qg8,cg8,rfl,hg8,ho8,hn8,hx8⟩,hw8,hq8,hc8,hk8⟩:=hv6.cell (B:=B1) (L:=[l6]) hs6 0 rfl
 refine xIp hp8 Tryz.underlying25 ZbC (h:=xW ZfY (h:=Zl (ZiM (k:=g.1) (us:=[_]) ((⟨((g.2.1:Nat):Int),ZX (g.2.1+1),ZX (g.2.1+1+1),x.left⟩:DItem)) 2 0 rfl hv6 hp8 hs6 rfl rfl sz9 rfl rfl rfl rfl (Nat.le_of_ble_eq_true rfl) (by rintro _ _ ⟨_,_,rfl,h1,h2,h3,h4⟩;exact ⟨_,_,rfl,h1,h2,show (ZX (g.2.1+1+1)).length≤2000000 from Nat.le_trans (Zcv (k:=g.2.1+1+1) oz) (by decide),h4⟩) (fun l9 hv9=>?_))))
 rw [List.set_set] at hv9
 have hs9:=Zex (z:=((⟨((g.2.1:Nat):Int),ZX (g.2.1+1),ZX (g.2.1+1+1),x.left⟩:DItem))) hy
 refine tL1 ?_
 obtain ⟨bb10,_,li10,lr10,hp10,⟨qg10,cg10,rfl,hg10,ho10,hn10,hx10⟩,hw10,hq10,hc10,hk10⟩:=hv9.cell (B:=B1) (L:=[_]) hs9 0 rfl
 replace hc10:=fun m u h=>(hc10 m u h).perm (ZgG 0 rfl (Zw8 hq10))
 refine ZeW 0 rfl (Zw8 hq10) ?_
 refine Za ?_
 refine Zl (Zcr rfl rfl rfl ?_)
 refine Zl (ZgB rfl rfl rfl rfl (by first | exact ZcB (by first | omega | (simp;done) | (simp;omega)) (by first | omega | (simp;done) | (simp;omega)) | rfl) ?_)
 refine Zl (Zcs rfl rfl rfl ?_)
 refine Zpk [_,_] rfl ?_
 refine Zf ?_
 refine Zl (Zcr rfl rfl rfl ?_)
 refine Zl (Zcr rfl rfl rfl ?_)
 refine Zl (ZiD hp10 rfl rfl Tryz.underlying25 ZbC rfl rfl (by first | omega | (simp;done) | (simp;omega)) (by first | omega | (simp;done) | (simp;omega)) ?_)
 refine Zl (Zav rfl rfl ZcQ rfl ?_)
 refine Zl (Zo rfl rfl ZfV rfl (hc10 3 _ rfl) ?_)
 refine Zl (Zcr rfl rfl rfl ?_)
 refine Zl (ZcI [1] rfl rfl rfl rfl ZzT rfl (ZjG _ _ (((⟨((g.2.1:Nat):Int),ZX (g.2.1+1),ZX (g.2.1+1+1),x.left⟩:DItem)).left) _ ((((g.2.1)+1)+1)+1) (by omega) (by omega) _ (hg10.anyK ZdM.any)) ?_)
 rintro _ B11 _ hle11 ⟨rfl,l11,rfl,rfl,hs11⟩
 refine xA (h:=ZK (Zp (ZfM 0 1 rfl rfl (by decide) ?_)))
 have hv12:=hk10 (⟨((g.2.1:Nat):Int),ZX (g.2.1+1),ZX (g.2.1+1+1),Zdw (g.2.1+1+1+1) x.left.length⟩:DItem) _ ⟨qg10,cg10,by simp only [Zbo],hs11.anyK ZdM.any,ho10,hn10,by first | assumption | (rw [Zbo];assumption)⟩
 rw [List.set_set] at hv12
 have hs12:=Zex (z:=((⟨((g.2.1:Nat):Int),ZX (g.2.1+1),ZX (g.2.1+1+1),Zdw (g.2.1+1+1+1) x.left.length⟩:DItem))) hy
 refine Zpm [0] rfl (Zf (xM (h:=xD (h:=xA (h:=?_)))))
 exact ZC (g.1+1,g.2.1+1+1+1+1*x.left.length,_,(g.2.2.2.set g.1 ((⟨((g.2.1:Nat):Int),ZX (g.2.1+1),ZX (g.2.1+1+1),Zdw (g.2.1+1+1+1) x.left.length⟩:DItem)))) [0] so2 ⟨rfl,so,by simp only [];rw [Zh3 hx,← hs,hst];omega,Znp hle,Zk0 ht hx hle hs,ZnP hd,hv12⟩ t4 rfl
 try simp only [sQ,ne_eq] at g1
 have he:=Zqs ht hle oz
 refine ZE (ZV (ZG (Zt (Zp (Za (xM (h:=xA (h:=Zd ?_))))))))
 exact Zd2 .ret (.inl rfl) [_] [0] rfl ⟨rfl,trivial⟩ ⟨rfl,_,rfl,by rw [hs,ZnH (by omega)];rfl,by rw [← he];exact hw⟩

theorem Zmv (q1:Option Addr) (c1:Nat) (x:DQueue) (l1:Cells) (k:Nat) (hk:kL Zco k x.items≤800000000000000) (hn:x.items.length≤2000000) (B:Kn) (hv:ZaF l1 q1 c1 145 4 (ZaQ 9) x.items):Zv (pj J) 64 [.agg #[.int .i64 x.next,.slice q1 x.items.length c1],.int .i64 k] B [l1] (fun v B' Ls=>B'=B∧∃l',Ls=[l']∧v = .int .i64 ((kL Zco k x.items:Nat):Int)∧ZaF l' q1 c1 145 4 (ZaQ 9) (mkL Zco mkI k x.items)):=by
 refine cB 10 Tryz.func64 (h:=?_)
 refine Za (xBx [_,_] (h:=fun b1=>xA (h:=tL2 (Za (xW ZbX (h:=x1 Zi5 1 (h:=xM (h:=xK [0] rfl ZAy rfl (Zmx _ _ x.items _ k oa oz _ hv) (h:=?_)))))))))
 rintro _ B2 _ hle2 ⟨rfl,l2,rfl,rfl,hs2⟩
 refine xA (h:=tL2 (Za (xM (h:=xA (h:=Zd ?_)))))
 exact eN [0] rfl t1 ⟨rfl,_,rfl,rfl,hs2⟩

theorem Zi3 (q1 q2 q3:Option Addr) (c1 c2 c3:Nat) (x:DHost) (l1 l2 l3:Cells) (k:Nat) (hk:kH k x≤800000000000000) (hn1:x.users.length≤2000000) (hn2:x.folders.length≤2000000) (hn3:x.queue.items.length≤2000000) (B:Kn) (hu:ZT Kn.none l1 q1 c1 141 3 Zn x.users) (hf:ZaF l2 q2 c2 96 5 (ZU 259 99) x.folders) (hi:ZaF l3 q3 c3 145 4 (ZaQ 9) x.queue.items):Zv (pj J) 21 [.agg #[str x.domain,.slice q1 x.users.length c1,.slice q2 x.folders.length c2,.int .i64 x.queue.next,.slice q3 x.queue.items.length c3],.int .i64 k] B [l1,l2,l3] (fun v B' Ls=>B'=B∧∃l1' l2' l3',Ls=[l1',l2',l3']∧v = .int .i64 ((kH k x:Nat):Int)∧ZT Kn.none l1' q1 c1 141 3 Zn (ZcP k x.users.length)∧ZaF l2' q2 c2 96 5 (ZU 259 99) (mkL ZbQ mkF (k+3*x.users.length) x.folders)∧ZaF l3' q3 c3 145 4 (ZaQ 9) (mkL Zco mkI (kL ZbQ (k+3*x.users.length) x.folders) x.queue.items)):=by
 refine cB 18 Tryz.func21 (h:=?_)
 have hk3:kL Zco (kL ZbQ (k+3*x.users.length) x.folders) x.queue.items≤800000000000000:=hk
 have hk2:(kL ZbQ (k+3*x.users.length) x.folders)≤800000000000000:=Nat.le_trans Zti hk3
 have hk1:(k+3*x.users.length)≤800000000000000:=Nat.le_trans Zti hk2
 refine Za (xBx [_,_,_,_,_] (h:=fun b1=>xA (h:=tL4 (Za (xW ZbL (h:=x1 ZiE 3 (h:=xM (h:=xK [0] rfl ZBN rfl (Zmt _ _ x.users _ k oz oz _ (hu.anyK Zn.any)) (h:=?_)))))))))
 rintro _ B2 _ hle2 ⟨rfl,l2,rfl,rfl,hs2⟩
 refine xA (h:=tL4 (Za (xW Zat (h:=x1 ZeB 3 (h:=xM (h:=xK [1] rfl ZBM rfl (ZjH _ _ x.folders _ (k+3*x.users.length) oa oz _ hf) (h:=?_)))))))
 rintro _ B3 _ hle3 ⟨rfl,l3,rfl,rfl,hs3⟩
 refine xA (h:=tL4 (Za (xW ZeS (h:=xL [_,_] ZlS 3 (h:=xM (h:=xK [2] rfl ZBL rfl (Zmv _ _ x.queue _ (kL ZbQ (k+3*x.users.length) x.folders) oa oz _ hi) (h:=?_)))))))
 rintro _ B4 _ hle4 ⟨rfl,l4a,rfl,rfl,hs4a⟩
 refine xA (h:=tL4 (Za (xM (h:=xA (h:=Zd ?_)))))
 exact eN [0,1,2] rfl t1 ⟨rfl,_,_,_,rfl,rfl,hs2.anyK Zn.any,hs3,hs4a⟩

theorem ZjR (q:Option Addr) (cp:Nat) (xs:List DFolder) (k m:Nat) (hmn:m=xs.length) (hk:kL ZbQ k xs≤800000000000000) (B:Kn) (hx0:SlK B q cp 5 Zk (mkL ZbQ mkF k xs)):Zac (pj J) 71 [.slice q m cp,.int .i64 k] B (.int .i64 ((kL ZbQ k xs:Nat):Int)):=by
 refine cB 62 Tryz.func71 (h:=?_)
 have hxn:=hx0.len
 have hml:=ZeA (st:=ZbQ) (mk:=mkF) (xs:=xs) k
 refine Za (xA (h:=Zc (Za (xA (h:=Zg (Zz (α:=Nat × Nat) [0] (fun g=>[(1,.int .i64 g.2),(5,.int .i64 g.1)]) [] (fun g=>[]) (fun g Bx=>Bx=B∧g.1≤xs.length∧g.2=kL ZbQ k (xs.take g.1)) (fun g=>xs.length - g.1) (0,k) t2 rfl (⟨rfl,Nat.zero_le _,ZnG.symm⟩) (fun g B1 hle1 hI=>?_)))))))
 obtain ⟨rfl,hi,hs⟩:=hI
 refine ZD [(0,_),(1,_),(5,_)] [] t3 rfl (Zc (Za (xM (h:=xM (h:=xV Tryz.underlying24 (h:=ZF (h:=Zb rfl (fun g1=>?_) (fun g1=>?_))))))))
 try simp only [sQ,ne_eq] at g1
 obtain ⟨x,hx⟩:=ZY (xs:=xs) (i:=g.1) oz
 have hkl:=Nat.le_trans (Ztj (st:=ZbQ) (k:=k) hx) hk
 rw [← hs] at hkl
 have hst:ZbQ x=3+2*x.grants.length+3*x.mail.length:=rfl
 have hz:(mkL ZbQ mkF k xs)[g.1]? = some (mkF g.2 x):=by rw [hs];exact Zmq k hx
 refine wSk (Zc (Zg (Zc (Zc (Z2 (same _ _) mo kr ⟨rfl,rfl⟩ (fun _ _=>?_))))))
 refine aM 0 rfl (h:=aM 1 rfl (h:=?_))
 obtain ⟨bb2,oo2,rfl⟩:=hx0.base hz
 obtain ⟨_,⟨qg3,cg3,qm3,cm3,rfl,hg3,hm3,hb3,hb3b⟩,hc3⟩:=hx0.elem hz
 have hg3n:=hg3.len
 have hm3n:=hm3.len
 have hm3s:=Zao hm3
 refine aIx 2 rfl Tryz.underlying24 ZbM (h:=aW 3 rfl ZbW (h:=aT 4 rfl (Zae fun D=>Zo rfl rfl lk9 rfl (hc3 _ 0 _ rfl) r4) (h:=aM 5 rfl (h:=aT 6 rfl (Zae fun D=>Z7 rfl rfl Zkh rfl (Zam g.2 oz _) r4) (h:=?_)))))
 refine ZfJ 7 rfl (h:=Zu kr kr ?_)
 refine Zp (Zb rfl (fun h1=>by simp [mkF] at h1) (fun h1=>?_))
 try simp only [sQ,ne_eq] at h1
 refine wSk (Za (xM (h:=xD (h:=xA (h:=Zc (Zc (Z2 (same _ _) mo kr ⟨rfl,rfl⟩ (fun _ _=>?_))))))))
 refine aM 0 rfl (h:=aM 1 rfl (h:=aIx 2 rfl Tryz.underlying24 ZbM (h:=aW 3 rfl Zeh (h:=aT 4 rfl (Zae fun D=>Zo rfl rfl lk9 rfl (hc3 _ 1 _ rfl) r4) (h:=aM 5 rfl (h:=aT 6 rfl (Zae fun D=>Z7 rfl rfl Zkh rfl (Zam (g.2+1) oz _) r4) (h:=?_)))))))
 refine ZfJ 7 rfl (h:=Zu kr kr ?_)
 refine Zp (Zb rfl (fun h2=>by simp [mkF] at h2) (fun h2=>?_))
 try simp only [sQ,ne_eq] at h2
 refine wSk (Za (xM (h:=xD (h:=xA (h:=Za (xM (h:=xM (h:=xIx Tryz.underlying24 ZbM (h:=xW Zeg (h:=y1 Zr2 hc3 2 (h:=xM (h:=xR ZAt rfl (Zli _ _ _ ((g.2+1)+1) _ x.grants.length (by first | rfl | exact Zaz _ _) rfl oz _ hg3) (h:=?_)))))))))))))
 refine xA (h:=Zc (Za (xM (h:=ZF (h:=Zb rfl (fun h3=>by first | omega | (simp at h3;done) | (simp at h3;omega)) (fun h3=>?_))))))
 try simp only [sQ,ne_eq] at h3
 refine wSk (Zc (Za (xM (h:=xM (h:=xIx Tryz.underlying24 ZbM (h:=xW Zbv (h:=xW Zda (h:=y1 lk3 hc3 3 (h:=xM (h:=ZaH (h:=Zb rfl (fun h4=>by simp [mkF] at h4) (fun h4=>?_))))))))))))
 try simp only [sQ,ne_eq] at h4
 refine wSk (Za (xM (h:=xD (h:=xA (h:=Za (xM (h:=xM (h:=xIx Tryz.underlying24 ZbM (h:=xW Zbv (h:=xW Zbc (h:=y1 Zh1 hc3 4 (h:=xM (h:=xR ZAs rfl (ZmQ _ _ _ ((((g.2+1)+1)+2*x.grants.length)+1) _ x.mail.length (by first | rfl | exact ZaJ _ _) rfl oz _ hm3) (h:=?_))))))))))))))
 refine xA (h:=Za (xM (h:=ZF (h:=Zb rfl (fun h5=>by first | omega | (simp at h5;done) | (simp at h5;omega)) (fun h5=>?_)))))
 try simp only [sQ,ne_eq] at h5
 refine ZS (ZK (Zp (Zf (xM (h:=xD (h:=xA (h:=?_)))))))
 exact ZC (g.1+1,g.2+1+1+2*x.grants.length+1+3*x.mail.length) [] so2 ⟨rfl,so,by simp only [];rw [Zh3 hx,← hs,hst];omega⟩ t3 rfl
 try simp only [sQ,ne_eq] at g1
 refine ZE (ZV (ZG (Zt (Zp (Za (xM (h:=xA (h:=Zd ?_))))))))
 exact eR t1 ⟨ZH (by rw [hs,ZnH oz]),rfl,rfl⟩

theorem ZmR (q:Option Addr) (cp:Nat) (xs:List DItem) (k m:Nat) (hmn:m=xs.length) (hk:kL Zco k xs≤800000000000000) (B:Kn) (hx0:SlK B q cp 4 Zy (mkL Zco mkI k xs)):Zac (pj J) 126 [.slice q m cp,.int .i64 k] B (.int .i64 ((kL Zco k xs:Nat):Int)):=by
 refine cB 51 Tryz.func126 (h:=?_)
 have hxn:=hx0.len
 have hml:=ZeA (st:=Zco) (mk:=mkI) (xs:=xs) k
 refine Za (xA (h:=Zc (Za (xA (h:=Zg (Zz (α:=Nat × Nat) [0] (fun g=>[(1,.int .i64 g.2),(5,.int .i64 g.1)]) [] (fun g=>[]) (fun g Bx=>Bx=B∧g.1≤xs.length∧g.2=kL Zco k (xs.take g.1)) (fun g=>xs.length - g.1) (0,k) t2 rfl (⟨rfl,Nat.zero_le _,ZnG.symm⟩) (fun g B1 hle1 hI=>?_)))))))
 obtain ⟨rfl,hi,hs⟩:=hI
 refine ZD [(0,_),(1,_),(5,_)] [] t3 rfl (Zc (Za (xM (h:=xM (h:=xV Tryz.underlying25 (h:=ZF (h:=Zb rfl (fun g1=>?_) (fun g1=>?_))))))))
 try simp only [sQ,ne_eq] at g1
 obtain ⟨x,hx⟩:=ZY (xs:=xs) (i:=g.1) oz
 have hkl:=Nat.le_trans (Ztj (st:=Zco) (k:=k) hx) hk
 rw [← hs] at hkl
 have hst:Zco x=3+x.left.length:=rfl
 have hz:(mkL Zco mkI k xs)[g.1]? = some (mkI g.2 x):=by rw [hs];exact Zmq k hx
 refine wSk (Zc (Zg (Zc (Za (xM (h:=xM (h:=?_)))))))
 obtain ⟨bb2,oo2,rfl⟩:=hx0.base hz
 obtain ⟨_,⟨qi3,ci3,rfl,hi3,hb3,hb3b⟩,hc3⟩:=hx0.elem hz
 have hi3n:=hi3.len
 refine xIx Tryz.underlying25 ZbC (h:=xW ZeF (h:=y1 lk3 hc3 0 (h:=xM (h:=ZaH (h:=Zb rfl (fun h1=>by simp [mkI] at h1) (fun h1=>?_))))))
 try simp only [sQ,ne_eq] at h1
 refine wSk (Za (xM (h:=xD (h:=xA (h:=Zc (Zc (Z2 (same _ _) mo kr ⟨rfl,rfl⟩ (fun _ _=>?_))))))))
 refine aM 0 rfl (h:=aM 1 rfl (h:=aIx 2 rfl Tryz.underlying25 ZbC (h:=aW 3 rfl ZeE (h:=aT 4 rfl (Zae fun D=>Zo rfl rfl lk9 rfl (hc3 _ 1 _ rfl) r4) (h:=aM 5 rfl (h:=aT 6 rfl (Zae fun D=>Z7 rfl rfl Zkh rfl (Zam (g.2+1) oz _) r4) (h:=?_)))))))
 refine ZfJ 7 rfl (h:=Zu kr kr ?_)
 refine Zp (Zb rfl (fun h2=>by simp [mkI] at h2) (fun h2=>?_))
 try simp only [sQ,ne_eq] at h2
 refine wSk (Za (xM (h:=xD (h:=xA (h:=Zc (Zc (Z2 (same _ _) mo kr ⟨rfl,rfl⟩ (fun _ _=>?_))))))))
 refine aM 0 rfl (h:=aM 1 rfl (h:=aIx 2 rfl Tryz.underlying25 ZbC (h:=aW 3 rfl ZfY (h:=aT 4 rfl (Zae fun D=>Zo rfl rfl lk9 rfl (hc3 _ 2 _ rfl) r4) (h:=aM 5 rfl (h:=aT 6 rfl (Zae fun D=>Z7 rfl rfl Zkh rfl (Zam ((g.2+1)+1) oz _) r4) (h:=?_)))))))
 refine ZfJ 7 rfl (h:=Zu kr kr ?_)
 refine Zp (Zb rfl (fun h3=>by simp [mkI] at h3) (fun h3=>?_))
 try simp only [sQ,ne_eq] at h3
 refine wSk (Za (xM (h:=xD (h:=xA (h:=Za (xM (h:=xM (h:=xIx Tryz.underlying25 ZbC (h:=xW ZcQ (h:=y1 ZfV hc3 3 (h:=xM (h:=xR ZzQ rfl (ZoN _ _ _ (((g.2+1)+1)+1) _ x.left.length (by first | rfl | exact Zbo _ _) rfl oz _ hi3) (h:=?_)))))))))))))
 refine xA (h:=Za (xM (h:=ZF (h:=Zb rfl (fun h4=>by first | omega | (simp at h4;done) | (simp at h4;omega)) (fun h4=>?_)))))
 try simp only [sQ,ne_eq] at h4
 refine ZS (ZK (Zp (Zf (xM (h:=xD (h:=xA (h:=?_)))))))
 exact ZC (g.1+1,g.2+1+1+1+1*x.left.length) [] so2 ⟨rfl,so,by simp only [];rw [Zh3 hx,← hs,hst];omega⟩ t3 rfl
 try simp only [sQ,ne_eq] at g1
 refine ZE (ZV (ZG (Zt (Zp (Za (xM (h:=xA (h:=Zd ?_))))))))
 exact eR t1 ⟨ZH (by rw [hs,ZnH oz]),rfl,rfl⟩

theorem ZmP (q:Option Addr) (cp:Nat) (x:DQueue) (k:Nat) (hk:kL Zco k x.items≤800000000000000) (B:Kn) (hi:SlK B q cp 4 Zy (mkL Zco mkI k x.items)):Zac (pj J) 72 [.agg #[.int .i64 x.next,.slice q x.items.length cp],.int .i64 k] B (.int .i64 ((kL Zco k x.items:Nat):Int)):=by
 refine cB 12 Tryz.func72 (h:=?_)
 refine Za (xBx [_,_] (h:=fun b1=>xA (h:=tL1 (Za (xW ZbX (h:=x1 Zi5 0 (h:=xM (h:=xR ZAr rfl (ZmR _ _ x.items k _ rfl oa _ hi) (h:=?_)))))))))
 refine xA (h:=Zc (Za (xM (h:=ZF (h:=Zb rfl (fun h1=>by first | omega | (simp at h1;done) | (simp at h1;omega)) (fun h1=>?_))))))
 refine wSk (Za (xM (h:=xA (h:=Zd ?_))))
 exact eR t1 ⟨rfl,rfl,rfl⟩

theorem Zi7 (q1 q2 q3:Option Addr) (c1 c2 c3:Nat) (x:DHost) (k:Nat) (hk:kH k x≤800000000000000) (B:Kn) (hu:SlK B q1 c1 3 Zn (ZcP k x.users.length)) (hf:SlK B q2 c2 5 Zk (mkL ZbQ mkF (k+3*x.users.length) x.folders)) (hi:SlK B q3 c3 4 Zy (mkL Zco mkI (kL ZbQ (k+3*x.users.length) x.folders) x.queue.items)):Zac (pj J) 29 [.agg #[str x.domain,.slice q1 x.users.length c1,.slice q2 x.folders.length c2,.int .i64 x.queue.next,.slice q3 x.queue.items.length c3],.int .i64 k] B (.int .i64 ((kH k x:Nat):Int)):=by
 refine cB 24 Tryz.func29 (h:=?_)
 have hk3:kL Zco (kL ZbQ (k+3*x.users.length) x.folders) x.queue.items≤800000000000000:=hk
 have hk2:(kL ZbQ (k+3*x.users.length) x.folders)≤800000000000000:=Nat.le_trans Zti hk3
 have hk1:(k+3*x.users.length)≤800000000000000:=Nat.le_trans Zti hk2
 refine Za (xBx [_,_,_,_,_] (h:=fun b1=>xA (h:=tL1 (Za (xW ZbL (h:=x1 ZiE 0 (h:=xM (h:=xR ZBK rfl (ZmO _ _ _ k _ x.users.length (by first | rfl | exact Zby _ _) rfl oz _ hu) (h:=?_)))))))))
 refine xA (h:=Zc (Za (xM (h:=ZF (h:=Zb rfl (fun h1=>by first | omega | (simp at h1;done) | (simp at h1;omega)) (fun h1=>?_))))))
 refine wSk (Za (xW Zat (h:=x1 ZeB 0 (h:=xM (h:=xR ZBJ rfl (ZjR _ _ x.folders (k+3*x.users.length) _ rfl oa _ hf) (h:=?_))))))
 refine xA (h:=Zc (Za (xM (h:=ZF (h:=Zb rfl (fun h2=>by first | omega | (simp at h2;done) | (simp at h2;omega)) (fun h2=>?_))))))
 refine wSk (Za (xW ZeS (h:=xL [_,_] ZlS 0 (h:=xM (h:=xR ZBI rfl (ZmP _ _ x.queue (kL ZbQ (k+3*x.users.length) x.folders) oa _ hi) (h:=?_))))))
 refine xA (h:=Zc (Za (xM (h:=ZF (h:=Zb rfl (fun h3=>by first | omega | (simp at h3;done) | (simp at h3;omega)) (fun h3=>?_))))))
 refine wSk (Za (xM (h:=xA (h:=Zd ?_))))
 exact eR t1 ⟨rfl,rfl,rfl⟩

theorem Zxy (v:Value) (Q:Value→Kn→Cells→Prop) (B:Kn) (L:Cells):hb Tryz.prog (Extern.ReflectliteType.typeOf #[.iface 372 v]) Q B L=Q (.iface 303 (.agg #[.pointer (some ⟨5,372,none⟩)])) B L:=by kernel_rfl

theorem Zxz (v:Value) (k:Nat) (Q:FuncId × Value→Kn→Cells→Prop) (B:Kn) (L:Cells):hb Tryz.prog (Go.method (k+1) 303 v "Comparable") Q B L=Q (313,v) B L:=by kernel_rfl

theorem ZxA (Q:Value→Kn→Cells→Prop) (B:Kn) (L:Cells):hb Tryz.prog ((Extern.ReflectliteType.method fun t=>do Extern.Rtype.noPackHeld "Comparable" t;pure (.bool (← typeInfo t).comparable)) #[(.agg #[.pointer (some ⟨5,372,none⟩)])]) Q B L=Q (.bool true) B L:=by kernel_rfl

theorem ZvV:Extern.find Tryz.f313=some (Extern.ReflectliteType.method fun t=>do Extern.Rtype.noPackHeld "Comparable" t;pure (.bool (← typeInfo t).comparable)):=by kernel_rfl
theorem ZvU:Extern.find Tryz.f156=some Extern.ReflectliteType.typeOf:=by kernel_rfl

theorem Zy1:Extern.findNext Tryz.f156=none:=by kernel_rfl
theorem Zy2:Extern.findNext Tryz.f313=none:=by kernel_rfl

theorem ZvS (c k:Nat) (hc:c<4) (hk:k<4) (a:Nat→Addr)  (B:Kn) (hE:ErrsB 372 [0,1,2,3] B a):Zac (pj J) 157 [errv 372 a (c+1),errv 372 a (k+1),.bool true] B (.bool (decide (c+1=k+1))):=by
 refine cB 54 Tryz.func157 (h:=?_)
 refine Za (xA (h:=Zg (Zz (α:=Unit) [1,2] (fun u=>[(0,errv 372 a (c+1))]) [] (fun u=>[]) (fun u Bx=>Bx=B) (fun u=>0) () t1 rfl (rfl) (fun u B1 hle1 hI=>?_))))
 subst hI
 refine ZD [(0,_),(1,_),(2,_)] [] t3 rfl (Zg (Zc (Za (xM (h:=xM (h:=Zx (d:=15) rfl (fun g1=>?_) (fun g1=>by cases g1)))))))
 try simp only [sQ,ne_eq] at g1
 refine xM (h:=xM (h:=Zl (Zpu (a:=a) (c:=(c+1)) (k:=k) hE oz oz rfl rfl Tryz.underlying82 Tryz.underlying372 ZBg ZwS rfl rfl ?_)))
 refine xT (h:=Zb rfl (fun g2=>?_) (fun g2=>?_))
 try simp only [sQ,ne_eq] at g2
 refine Za (xA (h:=Zd (Zm (ZB (ZM (ZB ?_))))))
 exact eR t1 ⟨Ze (decide_eq_true g2).symm,rfl,rfl⟩
 try simp only [sQ,ne_eq] at g2
 refine wSk (Zc (Za (xM (h:=Zl (ZhJ rfl rfl Tryz.underlying305 kr Zyi rfl ?_)))))
 refine xM (h:=xE (h:=xE (h:=xA (h:=xA (h:=Za (xM (h:=xM (h:=Zx (d:=26) rfl (fun g3=>by cases g3) (fun g3=>?_)))))))))
 try simp only [sQ,ne_eq] at g3
 refine xP (h:=xP (h:=xP (h:=xF (h:=Zb (t:=false) rfl (fun h=>Bool.noConfusion h) (fun _=>wSk (Za (xM (h:=Zg (Za (Zl (ZhJ rfl rfl Tryz.underlying308 kr Zyh rfl ?_)))))))))))
 refine xE (h:=xE (h:=Zb rfl (fun g5=>by cases g5) (fun g5=>?_)))
 try simp only [sQ,ne_eq] at g5
 refine Za (Zl (ZhJ rfl rfl Tryz.underlying310 kr Zyg rfl ?_))
 refine xE (h:=xE (h:=Zb rfl (fun g6=>by cases g6) (fun g6=>?_)))
 try simp only [sQ,ne_eq] at g6
 refine Za (xA (h:=Za (xA (h:=Zd (ZB (ZB (ZM (ZB ?_))))))))
 exact eR t1 ⟨Ze (decide_eq_false g2).symm,rfl,rfl⟩

theorem ZvR (c k:Nat) (hc:c<4) (hk:k<4) (a:Nat→Addr)  (B:Kn) (hE:ErrsB 372 [0,1,2,3] B a):Zac (pj J) 90 [errv 372 a (c+1),errv 372 a (k+1)] B (.bool (decide (c+1=k+1))):=by
 refine cB 22 Tryz.func90 (h:=?_)
 refine Za (xA (h:=Zc (Za (xM (h:=Zl (Znm (tE:=372) (a:=a) (c:=(c+1)) rfl rfl Tryz.underlying82 rfl (xM (h:=Zx (d:=8) rfl (fun g1=>by simp at g1) (fun g1=>?_)))))))))
 refine xM (h:=Zl (Znm (tE:=372) (a:=a) (c:=(k+1)) rfl rfl Tryz.underlying82 rfl (xF (h:=Zb rfl (fun g2=>by simp at g2) (fun g2=>?_)))))
 refine wSk (Za (xM (h:=Zl (ZwH (fn:=Tryz.f156) rfl rfl Tryz.func156 rfl rfl Zy1 ZvU rfl (Zxy _) (Zl (ZwE (f:=313) (fn:=Tryz.f313) rfl rfl Tryz.func313 rfl rfl Zy2 ZvV rfl (Zxz _) ZxA (xA (h:=Za (xM (h:=xM (h:=xM (h:=xR ZAd rfl (ZvS c k oz oz a _ hE) (h:=?_)))))))))))))
 refine xA (h:=Zd ?_)
 exact eR t1 ⟨rfl,rfl,rfl⟩

theorem ZvT (k:Nat) (hk:k<4) (a:Nat→Addr)  (B:Kn) (hE:ErrsB 372 [0,1,2,3] B a):Zac (pj J) 90 [.nilIface,errv 372 a (k+1)] B (.bool (decide (0=k+1))):=by
 refine cB 22 Tryz.func90 (h:=?_)
 refine Za (xA (h:=Zc (Za (xM (h:=Zl (Znm (tE:=372) (a:=a) (c:=0) rfl rfl Tryz.underlying82 rfl (xM (h:=Zx (d:=8) rfl (fun g1=>?_) (fun g1=>by simp at g1)))))))))
 refine xP (h:=xP (h:=xT (h:=Zb (t:=true) rfl (fun _=>Za (xM (h:=xM (h:=Zl (Zpu (a:=a) (c:=0) (k:=k) hE oz oz rfl rfl Tryz.underlying82 Tryz.underlying372 ZBg ZwS rfl rfl ?_))))) (fun h=>Bool.noConfusion h))))
 refine xA (h:=Zd (Zm ?_))
 exact eR t1 ⟨rfl,rfl,rfl⟩

theorem ZnO (c k:Nat) (hc:c<5) (hk:k<4) (a:Nat→Addr)  (B:Kn) (hE:ErrsB 372 [0,1,2,3] B a):Zac (pj J) 90 [errv 372 a c,errv 372 a (k+1)] B (.bool (decide (c=k+1))):=by
 cases c with
 | zero=>exact ZvT k hk a B hE
 | succ c=>exact ZvR c k oz hk a B hE

theorem ZgW (c:Nat) (hc:c<5) (a:Nat→Addr)  (B:Kn) (hE:ErrsB 372 [0,1,2,3] B a):Zac (pj J) 39 [errv 372 a (c)] B (.int .i64 c):=by
 refine cB 22 Tryz.func39 (h:=?_)
 refine Za (xA (h:=Zc (Zg (Za (xM (h:=Zl (Znm (tE:=372) (a:=a) (c:=c) rfl rfl Tryz.underlying82 rfl (xA (h:=Zb rfl (fun g0=>?_) (fun g0=>?_))))))))))
 try simp only [sQ,ne_eq] at g0
 refine Za (xA (h:=Zd (ZB (Zm ?_))))
 exact eR t1 ⟨ZH oz,rfl,rfl⟩
 try simp only [sQ,ne_eq] at g0
 refine Za (xM (h:=Zl (Zo rfl rfl Ztd rfl ((hE.row 0 (by decide)) _ 0 _ rfl) ?_)))
 refine xR Zya rfl (ZnO c 0 om2 om2 a _ hE) (h:=?_)
 refine xA (h:=Zb rfl (fun g1=>?_) (fun g1=>?_))
 try simp only [sQ,ne_eq] at g1
 refine Za (xA (h:=Zd (ZB (Zm ?_))))
 exact eR t1 ⟨ZH oz,rfl,rfl⟩
 try simp only [sQ,ne_eq] at g1
 refine Za (xM (h:=Zl (Zo rfl rfl Ztd rfl ((hE.row 1 (by decide)) _ 0 _ rfl) ?_)))
 refine xR Zya rfl (ZnO c 1 om2 om2 a _ hE) (h:=?_)
 refine xA (h:=Zb rfl (fun g2=>?_) (fun g2=>?_))
 try simp only [sQ,ne_eq] at g2
 refine Za (xA (h:=Zd (ZB (Zm ?_))))
 exact eR t1 ⟨ZH oz,rfl,rfl⟩
 try simp only [sQ,ne_eq] at g2
 refine Za (xM (h:=Zl (Zo rfl rfl Ztd rfl ((hE.row 2 (by decide)) _ 0 _ rfl) ?_)))
 refine xR Zya rfl (ZnO c 2 om2 om2 a _ hE) (h:=?_)
 refine xA (h:=Zb rfl (fun g3=>?_) (fun g3=>?_))
 try simp only [sQ,ne_eq] at g3
 refine Za (xA (h:=Zd (ZB (Zm ?_))))
 exact eR t1 ⟨ZH oz,rfl,rfl⟩
 try simp only [sQ,ne_eq] at g3
 refine Za (xM (h:=Zl (Zo rfl rfl Ztd rfl ((hE.row 3 (by decide)) _ 0 _ rfl) ?_)))
 refine xR Zya rfl (ZnO c 3 om2 om2 a _ hE) (h:=?_)
 refine xA (h:=Zb rfl (fun g4=>?_) (fun g4=>?_))
 try simp only [sQ,ne_eq] at g4
 refine Za (xA (h:=Zd (ZB (Zm ?_))))
 exact eR t1 ⟨ZH oz,rfl,rfl⟩
 try simp only [sQ,ne_eq] at g4
 refine ZS (ZK (Zp (Za (xA (h:=Zd ?_)))))
 exact eR t1 ⟨ZH oz,rfl,rfl⟩

theorem Zm5 (b o:Nat) (q1 q2 q3:Option Addr) (c1 c2 c3:Nat) (x:DHost) (u ow nm:Str) (rr:Int) (hn:u.length≤2000000) (ho:ow.length≤2000000) (hm:nm.length≤2000000) (a:Nat→Addr)  (B:Kn) (hE:ErrsB 372 [0,1,2,3] B a) (hh:Zal B b o [str x.domain,.slice q1 x.users.length c1,.slice q2 x.folders.length c2,.int .i64 x.queue.next,.slice q3 x.queue.items.length c3]) (hu:SlK B q1 c1 3 Zn x.users) (hf:SlK B q2 c2 5 Zk x.folders):Zac (pj J) 38 [ptr ⟨b,o,none⟩,str u,str ow,str nm,.int .i64 rr] B (.tuple #[.int .i64 (if ZcS x.users x.folders u ow nm rr=0 then ZaN (inF ow nm) x.folders else -1),errv 372 a (ZcS x.users x.folders u ow nm rr)]):=by
 refine cB 47 Tryz.func38 (h:=?_)
 have hfn:=hf.len
 have hix:=ZgV (inF ow nm) x.folders
 refine Za (xA (h:=xA (h:=Za (xM (h:=xM (h:=xM (h:=xR ZBa rfl (ZuC _ _ _ _ _ _ _ _ x ow nm om2 om2 _ hh hf) (h:=?_))))))))
 refine xA (h:=Zc (Za (xM (h:=ZF (h:=xM (h:=Zx (d:=19) rfl (fun g1=>?_) (fun g1=>?_)))))))
 try simp only [sQ,ne_eq] at g1
 refine xP (h:=xP (h:=xP (h:=xP (h:=xP (h:=xP (h:=xP (h:=xP (h:=xP (h:=xP (h:=xP (h:=xT (h:=Zb (t:=true) rfl (fun _=>Zc (Z2 (same _ _) mo kr ⟨rfl,rfl⟩ (fun _ _=>?_))) (fun h=>Bool.noConfusion h)))))))))))))
 refine aT 0 rfl (Zae fun D=>Zo rfl rfl Ztd rfl ((hE.row 0 (by decide)) _ 0 _ rfl) r4) (h:=?_)
 refine aA 1 rfl (h:=aA 2 rfl (h:=Zu kr kr ?_))
 refine Zp (Zd (Zm ?_))
 exact Zru .ret (.inl rfl) [_,_] t2 ⟨(by rw [show ZcS x.users x.folders u ow nm rr=1 from ZrH (by simpa using g1)];rfl),rfl,rfl⟩
 try simp only [sQ,ne_eq] at g1
 refine xM (h:=xM (h:=xM (h:=xNc (h:=xW Zat (h:=Zl (Zo rfl rfl ZeB rfl (hh _ 2 _ rfl) (xM (h:=?_))))))))
 obtain ⟨w,hw⟩:=ZtF (xs:=x.folders) (i:=(ZaN (inF ow nm) x.folders)) om om
 obtain ⟨bb3,oo3,rfl⟩:=hf.base hw
 obtain ⟨_,⟨qg4,cg4,qm4,cm4,rfl,hg4,hm4,hb4,hb4b⟩,hc4⟩:=hf.elem hw
 have hg4n:=hg4.len
 have hm4n:=hm4.len
 have hm4s:=Zao hm4
 refine xIx Tryz.underlying24 ZbM (h:=yL [_,_,_,_,_] ZiB hc4 0 (h:=xR ZA9 rfl (Zxc _ _ _ _ _ _ _ _ x _ _ _ _ u w _ om2 om2 _ hh hu hg4) (h:=?_)))
 refine xN (h:=xF (h:=Zb rfl (fun g3=>?_) (fun g3=>?_)))
 try simp only [sQ,ne_eq] at g3
 refine Zc (Z2 (same _ _) mo kr ⟨rfl,rfl⟩ (fun _ _=>?_))
 refine aT 0 rfl (Zae fun D=>Zo rfl rfl Ztd rfl ((hE.row 0 (by decide)) _ 0 _ rfl) r4) (h:=?_)
 refine aA 1 rfl (h:=aA 2 rfl (h:=Zu kr kr ?_))
 refine Zp (Zd (Zm ?_))
 exact Zru .ret (.inl rfl) [_,_] t2 ⟨(by rw [show ZcS x.users x.folders u ow nm rr=1 from by rw [Zj7 oz hw,if_pos (by simpa using g3)]];rfl),rfl,rfl⟩
 try simp only [sQ,ne_eq] at g3
 refine wSk (Zc (Za (xM (h:=xM (h:=xM (h:=xNc (h:=xW Zat (h:=Zl (Zo rfl rfl ZeB rfl (hh _ 2 _ rfl) (xM (h:=xIx Tryz.underlying24 ZbM (h:=yL [_,_,_,_,_] ZiB hc4 0 (h:=xM (h:=xR ZA9 rfl (Zxc _ _ _ _ _ _ _ _ x _ _ _ _ u w _ om2 om2 _ hh hu hg4) (h:=?_)))))))))))))))
 refine xN (h:=Zb rfl (fun g4=>?_) (fun g4=>?_))
 try simp only [sQ,ne_eq] at g4
 refine Zc (Z2 (same _ _) mo kr ⟨rfl,rfl⟩ (fun _ _=>?_))
 refine aT 0 rfl (Zae fun D=>Zo rfl rfl Ztd rfl ((hE.row 1 (by decide)) _ 0 _ rfl) r4) (h:=?_)
 refine aA 1 rfl (h:=aA 2 rfl (h:=Zu kr kr ?_))
 refine Zp (Zd (Zm ?_))
 exact Zru .ret (.inl rfl) [_,_] t2 ⟨(by rw [show ZcS x.users x.folders u ow nm rr=2 from by rw [Zj7 oz hw,if_neg (by simp [g3]),if_pos (by simpa using g4)]];rfl),rfl,rfl⟩
 try simp only [sQ,ne_eq] at g4
 refine wSk (Za (xM (h:=xA (h:=xA (h:=Zd ?_)))))
 exact Zru .ret (.inl rfl) [_,_] t2 ⟨(by rw [show ZcS x.users x.folders u ow nm rr=0 from by rw [Zj7 oz hw,if_neg (by simp [g3]),if_neg (by simp [g4])]];rfl),rfl,rfl⟩

theorem Zie (q:Option Addr) (cp:Nat) (xs:List DFolder) (B:Kn) (hx:SlK B q cp 5 Zk xs):Zv (pj J) 165 [.slice q xs.length cp] B [] (fun v B' Ls=>B'=B∧∃l a c,Ls=[l]∧v = .slice a xs.length c∧ZaF l a c 96 5 (ZU 259 99) xs):=by
 refine cB 22 Tryz.func165 (h:=?_)
 have hxn:=hx.len
 refine Za (xA (h:=Za (xM (h:=xV Tryz.underlying24 (h:=Zl (Za3 (m:=0) (c:=xs.length) (by_:=88) [.string ⟨#[]⟩,.string ⟨#[]⟩,.slice none 0 0,.int .i64 0,.slice none 0 0] rfl rfl Zx9 Zgx rfl rfl ⟨_,_,rfl,by first | omega | (simp;done) | (simp;omega)⟩ ⟨_,_,rfl,by first | omega | (simp;done) | (simp;omega)⟩ om om (fun b1=>?_)))))))
 have hd1:=ZaF.zeros (b:=b1) (T:=96) (R:=(ZU 259 99)) (d:=(⟨[],[],[],0,[]⟩:DFolder)) (m:=0) (c:=xs.length) (zs:=[.string ⟨#[]⟩,.string ⟨#[]⟩,.slice none 0 0,.int .i64 0,.slice none 0 0]) rfl (⟨_,_,_,_,[],[],rfl,rfl,ZT.nil,ZT.nil,by simp,by simp,by simp,by simp⟩) om
 refine xA (h:=tL1 (Zc (Za (xM (h:=xV Tryz.underlying24 (h:=xM (h:=Zg (Zz (α:=Gh DFolder) [0,2,9,10] (fun g=>[(3,.slice g.a g.xs.length g.c),(11,.int .i64 g.k)]) [0] (fun g=>[g.l]) (fun g Bx=>Bx=B∧g.k≤xs.length∧g.xs=xs.take g.k∧g.xs.length≤g.k∧ZaF g.l g.a g.c 96 5 (ZU 259 99) g.xs) (fun g=>xs.length - g.k) ⟨0,0,(ZN b1 (zrow [.string ⟨#[]⟩,.string ⟨#[]⟩,.slice none 0 0,.int .i64 0,.slice none 0 0] xs.length) 96),(some ⟨b1,0,none⟩),xs.length,[]⟩ t2 rfl (⟨rfl,Nat.zero_le _,by simp,Nat.le_refl _,hd1⟩) (fun g B2 hle2 hI=>?_)))))))))
 obtain ⟨rfl,hk,hxs,hxl,hv⟩:=hI
 refine ZD [(0,_),(2,_),(3,_),(9,_),(10,_),(11,_)] [_] t6 rfl (Za (ZF (h:=Zc (Zb rfl (fun g1=>?_) (fun g1=>?_)))))
 try simp only [sQ,ne_eq] at g1
 refine wSk (Zc (Zg (Za ?_)))
 obtain ⟨w,hw⟩:=ZY (xs:=xs) (i:=g.k) om
 obtain ⟨bb4,oo4,rfl⟩:=hx.base hw
 obtain ⟨_,⟨qg5,cg5,qm5,cm5,rfl,hg5,hm5,hb5,hb5b⟩,hc5⟩:=hx.elem hw
 have hg5n:=hg5.len
 have hm5n:=hm5.len
 have hm5s:=Zao hm5
 refine xIx Tryz.underlying24 ZbM (h:=yL [_,_,_,_,_] ZiB hc5 0 (h:=xAl [_,_,_,_,_] Zgx (h:=fun b6=>xS [_,_,_,_,_] 1 [_,_,_,_,_] ZbM (h:=tL2 (Zf (xM (h:=xL [_,_,_,_,_] ZiB 1 (h:=xC ZzH rfl (ZjX _ _ _ _ w _ hg5 hm5) (h:=?_)))))))))
 rintro _ B7 _ hle7 ⟨rfl,l7,a7,c7,l7b,a7b,c7b,rfl,rfl,hs7,hs7b⟩
 refine xBs [(0,_)] [_,_,_,_,_] Tryz.underlying24 ZbM Zgx (h:=fun b8=>Zl (ZuR (R:=(ZU 259 99)) (⟨w.owner,w.name,w.grants,w.next,w.mail⟩) 0 [2,3] rfl rfl hv rfl rfl rfl Zx9 ZAT rfl rfl (Zc1.box 4 rfl) rfl rfl (l7 ++ l7b) (by simp) (⟨_,_,_,_,_,_,rfl,rfl,(hs7.anyK Z8.any),(hs7b.anyK Z5.any),by first | assumption | omega | (simp;done) | (simp;omega),by first | assumption | omega | (simp;done) | (simp;omega),by first | assumption | omega | (simp;done) | (simp;omega),by first | assumption | omega | (simp;done) | (simp;omega)⟩) om (fun l9 p9 c9 hd9=>?_)))
 refine xA (h:=ZK (Zp (Zf (xD (h:=xM (h:=?_))))))
 exact ZC ⟨g.k+1,0,l9,p9,c9,(g.xs ++ [⟨w.owner,w.name,w.grants,w.next,w.mail⟩])⟩ [0] (by first | omega | (simp only [];omega)) ⟨rfl,by simp only [];omega,by simp only [];rw [Zbj hw,hxs],by simp;omega,hd9⟩ ⟨rfl,rfl,rfl,rfl,rfl,rfl,trivial⟩ rfl
 try simp only [sQ,ne_eq] at g1
 have hxe:g.xs=xs:=by rw [hxs];exact List.take_of_length_le oz
 refine ZE (ZV (ZG (Zt (Zp (Za (xM (h:=xA (h:=Zd ?_))))))))
 exact Zd2 .ret (.inl rfl) [_] [0] rfl ⟨rfl,trivial⟩ ⟨rfl,_,_,_,rfl,by rw [← hxe];rfl,hxe ▸ hv⟩

theorem Zhh (q1 q2 q3:Option Addr) (c1 c2 c3:Nat) (x:DHost) (B:Kn) (hu:SlK B q1 c1 3 Zn x.users) (hf:SlK B q2 c2 5 Zk x.folders) (hi:SlK B q3 c3 4 Zy x.queue.items):Zv (pj J) 99 [.agg #[str x.domain,.slice q1 x.users.length c1,.slice q2 x.folders.length c2,.int .i64 x.queue.next,.slice q3 x.queue.items.length c3]] B [] (fun v B' Ls=>∃q1 c1 q2 c2 q3 c3 l1 l2 l3,Ls=[l1,l2,l3]∧v = .agg #[str x.domain,.slice q1 x.users.length c1,.slice q2 x.folders.length c2,.int .i64 x.queue.next,.slice q3 x.queue.items.length c3]∧ZT Kn.none l1 q1 c1 141 3 Zn x.users∧ZaF l2 q2 c2 96 5 (ZU 259 99) x.folders∧ZaF l3 q3 c3 145 4 (ZaQ 9) x.queue.items):=by
 refine cB 16 Tryz.func99 (h:=?_)
 have hun:=hu.len
 have hfn:=hf.len
 have hin:=hi.len
 refine Za (xBx [_,_,_,_,_] (h:=fun b1=>xAl [_,_,_,_,_] Zb3 (h:=fun b2=>tL2 (Zc (Z2 (keeps _ [0] _) mo kr ⟨Kn.le.refl _,Za6.refl _ _⟩ (fun _ _=>?_))))))
 refine aW 0 rfl Zif (h:=aT 1 rfl (ZO fun D B L hI=>Zo rfl rfl lk9 rfl (atL 0 (hI.2.1.trans rfl) rfl rfl) r4) (h:=aW 3 rfl ZbL (h:=aT 4 rfl (ZO fun D B L hI=>Zo rfl rfl ZiE rfl (atL 0 (hI.2.1.trans rfl) rfl rfl) r4) (h:=aW 6 rfl Zat (h:=aT 7 rfl (ZO fun D B L hI=>Zo rfl rfl ZeB rfl (atL 0 (hI.2.1.trans rfl) rfl rfl) r4) (h:=aW 9 rfl ZeS (h:=aT 10 rfl (ZO fun D B L hI=>ZW [_,_] rfl rfl ZlS rfl (Zbw 0 (hI.2.1.trans rfl) rfl rfl) r4) (h:=ZA 2 kr rfl kr (ZJ (parts:=[]) [] rfl rfl Tryz.underlying23 Zbq Zeo rfl rfl rfl rfl rfl (fun b3=>?_))))))))))
 refine ⟨⟨Kn.le.refl _,t1⟩,(ZA 5 kr rfl kr (ZcC (R:=Zn) 2 rfl (ZT.lit0 (R:=Zn)) rfl rfl rfl ZoY Zpd rfl rfl rfl hu.rows Zn.one rfl om (fun l4 p4 c4 hv4=>?_)))⟩
 refine ⟨⟨Kn.le.refl _,t1⟩,(ZA 8 kr rfl kr (Zad rfl rfl Zz6 rfl (Zie _ _ x.folders _ hf) ?_))⟩
 rintro _ B5 _ hle5 ⟨rfl,l5,a5,c5,rfl,rfl,hs5⟩
 refine ⟨⟨Kn.le.refl _,t1⟩,(ZA 11 kr rfl kr (Zad rfl rfl Zz5 rfl (ZkK _ _ x.queue _ hi) ?_))⟩
 rintro _ B6 _ hle6 ⟨l6,q6,c6,rfl,rfl,hd6⟩
 replace hv4:=hv4.mono Zn.mono hle6
 refine ⟨⟨hle6,t1⟩,(aT 12 rfl (ZO fun D B L hI=>Zaq (parts:=[(0,_),(1,_),(2,_),(3,_)]) [_,_,_,_,_] [_,_,_,_,_] rfl rfl Zhn Zb3 rfl rfl rfl r4) (h:=Zag 13 kr rfl kr kr kr (ZL [_,_,_,_,_] 1 [_,_,_,_,_] rfl rfl ZcL rfl rfl rfl rfl rfl rfl rfl rfl ?_)))⟩
 refine Zp (tL5 (Zd ?_))
 exact eN [2,3,4] rfl ⟨⟨_,rfl,.inr ⟨[_,_,_,_,_],Zcd,Zbw 1 rfl rfl rfl,rfl⟩⟩,trivial⟩ ⟨_,_,_,_,_,_,_,_,_,rfl,rfl,hv4.anyK Zn.any,hs5,hd6⟩

theorem ZoC (b:Nat) (m:DMail) (hm:m.text.length≤2000000) (B:Kn):Zv (pj J) 183 [ptr ⟨b,0,none⟩,.agg #[.int .i64 m.uid,.int .i64 m.flags,str m.text]] B [ZN b [.pointer none,.pointer none,.int .i64 0] 195] (fun v B' Ls=>B'=B∧∃s,Ls=[s]∧MLst 195 198 b ([] ++ [m]) s):=by
 refine cB 35 Tryz.func183 (h:=?_)
 refine Za (xBx [_,_,_] (h:=fun b1=>tL2 (Za (xL [_,_,_] ZmA 1 (h:=xB [(0,_)] [_,_,_,_] [_,_,_,_] Zw5 Zwr (h:=xBx [_,_,_,_] (h:=fun b2=>xA (h:=tL3 (Zc (Za (xM (h:=xNc (h:=xW Zih (h:=x1 ZqB 0 (h:=Zl (Zpv rfl rfl rfl rfl rfl (Zhy Tryz.underlying193) (Zb rfl (fun g1=>?_) (fun g1=>by cases g1))))))))))))))))))
 refine Zf (xM (h:=xM (h:=xNc (h:=xW Zq5 (h:=xS [_] 0 [_,_,_] ZsD (h:=Zp (Za (xM (h:=xM (h:=xNc (h:=xW Zih (h:=xS [_] 0 [_,_,_] ZsD (h:=tL3 (Zf (xM (h:=xNc (h:=xW Zig (h:=x1 lk3 0 (h:=xD (h:=xNc (h:=xW Zig (h:=xS [_] 0 [_,_,_] sz3 (h:=?_)))))))))))))))))))))))
 exact ZA5 .normal (.inr rfl) [] [0,2] rfl trivial ⟨rfl,_,rfl,MLst.one (bn:=b2) hm (List.Perm.refl _)⟩

theorem ZoB (b bl:Nat) (v0:Value) (x:DMail) (rest:Cells) (xs:List DMail) (m:DMail) (hm:m.text.length≤2000000) (hn:xs.length≤2000000) (B:Kn) (hh:Zke 198 v0 bl x rest xs):Zv (pj J) 183 [ptr ⟨b,0,none⟩,.agg #[.int .i64 m.uid,.int .i64 m.flags,str m.text]] B [ZN b [v0,ptr ⟨bl,0,none⟩,.int .i64 xs.length] 195,ZN bl (Zho x (.pointer none)) 198,rest] (fun v B' Ls=>B'=B∧∃s,Ls=[s]∧MLst 195 198 b (xs ++ [m]) s):=by
 refine cB 35 Tryz.func183 (h:=?_)
 refine Za (xBx [_,_,_] (h:=fun b1=>tL4 (Za (xL [_,_,_] ZmA 3 (h:=xB [(0,_)] [_,_,_,_] [_,_,_,_] Zw5 Zwr (h:=xBx [_,_,_,_] (h:=fun b2=>xA (h:=tL5 (Zc (Za (xM (h:=xNc (h:=xW Zih (h:=x1 ZqB 0 (h:=Zl (Zpv rfl rfl rfl rfl rfl (Zhy Tryz.underlying193) (Zb rfl (fun g1=>by cases g1) (fun g1=>?_))))))))))))))))))
 refine Zf (xM (h:=xNc (h:=xW Zih (h:=x1 ZqB 0 (h:=xM (h:=xNc (h:=xW Zq4 (h:=xS [_] 1 [_,_,_,_] ZsD (h:=Zp (Za (xM (h:=xM (h:=xNc (h:=xW Zih (h:=xS [_] 0 [_,_,_] ZsD (h:=tL5 (Zf (xM (h:=xNc (h:=xW Zig (h:=x1 lk3 0 (h:=xD (h:=xNc (h:=xW Zig (h:=xS [_] 0 [_,_,_] sz3 (h:=?_))))))))))))))))))))))))))
 exact ZA5 .normal (.inr rfl) [] [0,4,2,1] rfl trivial ⟨rfl,_,rfl,MLst.add (bn:=b2) hh hm rfl (List.Perm.refl _)⟩

theorem Zk7 (b:Nat) (xs:List DMail) (m:DMail) (s:Cells) (hm:m.text.length≤2000000) (hn:xs.length≤2000000) (B:Kn) (hs:MLst 195 198 b xs s):Zv (pj J) 183 [ptr ⟨b,0,none⟩,.agg #[.int .i64 m.uid,.int .i64 m.flags,str m.text]] B [s] (fun v B' Ls=>B'=B∧∃s',Ls=[s']∧MLst 195 198 b (xs ++ [m]) s'):=by
 rcases hs with ⟨rfl,hp⟩ | ⟨v0,bl,x,rest,hp,hh⟩
 · exact Zv.perm (by simpa using hp) (ZoC b m hm B)
 · exact Zv.perm (by simpa using hp) (ZoB b bl v0 x rest xs m hm hn B hh)

theorem ZoA (q:Option Addr) (cp:Nat) (xs:List DMail) (B:Kn) (hx:SlK B q cp 3 Z5 xs):Zv (pj J) 121 [.slice q xs.length cp] B [] (fun v B' Ls=>∃b s,Ls=[s]∧v=ptr ⟨b,0,none⟩∧MLst 195 198 b xs s):=by
 refine cB 19 Tryz.func121 (h:=?_)
 have hxn:=hx.len
 refine Za (xA (h:=Za (xB [] [_,_,_] [_,_,_] ZyK Zyl (h:=xBx [_,_,_] (h:=fun b1=>xA (h:=tL1 (Zc (Za (xM (h:=xV Tryz.underlying91 (h:=xM (h:=Zg (Zz (α:=Gh DMail) [0,2,3,8,9] (fun g=>[(10,.int .i64 g.k)]) [0] (fun g=>[g.l]) (fun g Bx=>Bx=B∧g.k≤xs.length∧g.xs=xs.take g.k∧g.xs.length≤g.k∧MLst 195 198 b1 g.xs g.l) (fun g=>xs.length - g.k) ⟨0,0,_,none,0,[]⟩ t1 rfl (⟨rfl,Nat.zero_le _,by simp,Nat.le_refl _,MLst.nil⟩) (fun g B2 hle2 hI=>?_))))))))))))))
 obtain ⟨rfl,hk,hxs,hxl,hv⟩:=hI
 refine ZD [(0,_),(2,_),(3,_),(8,_),(9,_),(10,_)] [_] t6 rfl (Za (ZF (h:=Zc (Zb rfl (fun g1=>?_) (fun g1=>?_)))))
 try simp only [sQ,ne_eq] at g1
 refine wSk (Zc (Zg (Za ?_)))
 obtain ⟨w,hw⟩:=ZY (xs:=xs) (i:=g.k) om
 obtain ⟨bb4,oo4,rfl⟩:=hx.base hw
 obtain ⟨_,⟨rfl,hb5⟩,hc5⟩:=hx.elem hw
 refine xIx Tryz.underlying91 Zgg (h:=yL [_,_,_] ZmA hc5 0 (h:=xAl [_,_,_] ZlU (h:=fun b6=>xS [_,_,_] 1 [_,_,_] Zgg (h:=tL2 (Zf (xM (h:=xL [_,_,_] ZmA 1 (h:=xK [0] rfl ZxJ rfl (Zk7 _ g.xs w _ om2 om2 _ hv) (h:=?_)))))))))
 rintro _ B7 _ hle7 ⟨rfl,s7,rfl,hs7⟩
 refine ZK (Zp (Zf (xD (h:=xM (h:=?_)))))
 exact ZC ⟨g.k+1,0,s7,none,0,(g.xs ++ [w])⟩ [0] so2 ⟨rfl,so,by simp only [];rw [Zbj hw,hxs],by simp;omega,hs7⟩ t6 rfl
 try simp only [sQ,ne_eq] at g1
 have hxe:g.xs=xs:=by rw [hxs];exact List.take_of_length_le oz
 refine ZE (ZV (ZG (Zt (Zp (Za (xM (h:=xA (h:=Zd ?_))))))))
 exact eN [0] rfl t1 ⟨_,_,rfl,rfl,hxe ▸ hv⟩

end Go.Proofs.YtkppijmhadbpdaaGreatDoor
