/-
  WHAT THE FUNCTIONS THAT THE LAWS REACH COMPUTE: each function's contract, proved off its printed body (the text is written by program). No condition beyond those that each theorem states.
-/
import Derived.Test.YtonfijmgahdgeaaGreatDoorC1
namespace Go.Proofs.YtonfijmgahdgeaaGreatDoor
open Go Go.BL
set_option linter.unusedVariables false
set_option linter.unusedSimpArgs false
set_option maxRecDepth 4000
set_option maxHeartbeats 6400000
variable {J : JoinT}
theorem ZjC (q:Option Addr) (cp:Nat) (xs:List Str) (l:Cells) (k:Nat) (hk:k≤900000000000000) (hn:xs.length≤2000000) (B:Kn) (hv:ZW B l q cp 9 1 ZdF xs):Zw (pj J) 153 [.slice q xs.length cp,.int .i64 k] B [l] (fun v B' Ls=>B'=B∧∃l',Ls=[l']∧v = .int .i64 ((k+1*xs.length:Nat):Int)∧ZW B l' q cp 9 1 ZdF (Zdu k xs.length)):=by
 refine cB 20 Tryz.func153 (h:=?_)
 have hvc:=hv.cap
 refine Za (xA (h:=Zc (Za (xA (h:=Zg (Zy (α:=Nat × Cells × List Str) [4] (fun g=>[(0,.slice q xs.length cp),(1,.int .i64 ((k+1*g.1:Nat):Int)),(5,.int .i64 g.1)]) [0] (fun g=>[g.2.1]) (fun g Bx=>Bx=B∧g.1≤xs.length∧g.2.2.length=xs.length∧g.2.2.take g.1=Zdu k g.1∧ZW Bx g.2.1 q cp 9 1 ZdF g.2.2) (fun g=>xs.length - g.1) (0,l,xs) t3 rfl (⟨rfl,Nat.zero_le _,rfl,rfl,hv⟩) (fun g B1 hle1 hI=>?_)))))))
 obtain ⟨rfl,hi,hle,ht,hw⟩:=hI
 refine ZD [(0,_),(1,_),(4,_),(5,_)] [_] t4 rfl (Zc (Za (xM (h:=xM (h:=xV Tryz.underlying134 (h:=ZG (h:=Zb rfl (fun g1=>?_) (fun g1=>?_))))))))
 try simp only [sQ,ne_eq] at g1
 refine wSk (Zc (Zg (Za (xM (h:=xM (h:=xM (h:=xR ZeR rfl (Zao (k+1*g.1) oz _) (h:=?_))))))))
 obtain ⟨z1,hz1⟩:=ZX (xs:=g.2.2) (i:=g.1) om
 obtain ⟨bb4,_,hp4,⟨rfl,hb4⟩,hw4,hc4⟩:=hw.row hz1
 refine xIp hp4 Tryz.underlying134 sz9 (h:=Zj (ZeT (k:=g.1) (off:=0) (ZY (k+1*g.1)) [_] 0 hw hp4 hz1 rfl rfl sz9 rfl rfl rfl rfl rfl rfl (by rintro _ ⟨rfl,e1⟩;exact ⟨rfl,show (ZY (k+1*g.1)).length≤2000000 from Nat.le_trans (Zcq (k:=k+1*g.1) oz) (by decide)⟩) (fun l5 hv5=>?_)))
 refine tL1 (Ze (xM (h:=xD (h:=xA (h:=ZK (Zn (Ze (xM (h:=xD (h:=xA (h:=?_)))))))))))
 exact ZC (g.1+1,l5,(g.2.2.set g.1 (ZY (k+1*g.1)))) [0] so2 ⟨rfl,so,by simp only [List.length_set];exact hle,Zmm ht hz1,hv5⟩ t4 rfl
 try simp only [sQ,ne_eq] at g1
 have he:=ZkX ht oz
 have hgi:g.1=xs.length:=by omega
 rw [hgi] at he
 refine ZE (ZT (ZH (Zv (Zn (Za (xM (h:=xA (h:=Zd ?_))))))))
 exact ZdI .ret (.inl rfl) [_] [0] rfl ⟨rfl,trivial⟩ ⟨rfl,_,rfl,by rw [hgi];rfl,by rw [← he];exact hw⟩

theorem ZjG (k:Nat) (hk:k<6) (B:Kn):Z8 (pj J) 206 [.int .i64 k] B (.int .i64 (Zbd k)):=by
 refine cB 7 Tryz.func206 (h:=?_)
 refine Za (xA (h:=Za (xBs [(0,_),(1,_),(2,_),(3,_),(4,_),(5,_)] [_,_,_,_,_,_] Tryz.underlying58 sz3 zo3 (h:=fun b1=>?_))))
 have hvq:ZW B (ZN b1 (([1,2,4,8,16,32]:List Int).map fun x=>.int .i64 x) 3) (some ⟨b1,0,none⟩) 6 3 1 ZbU ([1,2,4,8,16,32]:List Int):=ZW.ints
 refine xM (h:=?_)
 obtain ⟨e,he⟩:=ZX (xs:=([1,2,4,8,16,32]:List Int)) (i:=k) om
 obtain ⟨bb3,_,hp3,rfl,hw3,hc3⟩:=hvq.row he
 refine xIp hp3 Tryz.underlying58 sz3 (h:=Zj (Zo rfl rfl lk3 rfl (hc3 _ 0 rfl 0 _ rfl) (xA (h:=tL1 (Zd ?_)))))
 exact eR t1 ⟨ZF (ZsJ he),rfl,rfl⟩

theorem ZmB (k:Nat) (hk:k<5) (B:Kn):Z8 (pj J) 127 [.int .i64 k] B (.int .i64 (Zbd k)):=by
 refine cB 7 Tryz.func127 (h:=?_)
 refine Za (xA (h:=Za (xBs [(0,_),(1,_),(2,_),(3,_),(4,_)] [_,_,_,_,_] Tryz.underlying58 sz3 zo3 (h:=fun b1=>?_))))
 have hvq:ZW B (ZN b1 (([1,2,4,8,16]:List Int).map fun x=>.int .i64 x) 3) (some ⟨b1,0,none⟩) 5 3 1 ZbU ([1,2,4,8,16]:List Int):=ZW.ints
 refine xM (h:=?_)
 obtain ⟨e,he⟩:=ZX (xs:=([1,2,4,8,16]:List Int)) (i:=k) om
 obtain ⟨bb3,_,hp3,rfl,hw3,hc3⟩:=hvq.row he
 refine xIp hp3 Tryz.underlying58 sz3 (h:=Zj (Zo rfl rfl lk3 rfl (hc3 _ 0 rfl 0 _ rfl) (xA (h:=tL1 (Zd ?_)))))
 exact eR t1 ⟨ZF (Zp4 he),rfl,rfl⟩

theorem Zvm (q:Option Addr) (cp:Nat) (gs:List DGrant) (u:Str) (hr :∀y,y∈gs→0≤y.rights∧y.rights≤63) (B:Kn) (hg:SlK B q cp 2 Zac gs):Z8 (pj J) 166 [.slice q gs.length cp,str u] B (.int .i64 (Zbq gs u)):=by
 refine cB 55 Tryz.func166 (h:=?_)
 have hgn:=hg.len
 refine Za (xA (h:=Za (xA (h:=Zc (Za (xA (h:=Zg (Zy (α:=Nat × Int) [0,1,4] (fun g=>[(5,.int .i64 g.2),(6,.int .i64 g.1)]) [] (fun g=>[]) (fun g Bx=>Bx=B∧g.1≤6∧g.2=ZfI gs u g.1) (fun g=>6 - g.1) (0,0) t2 rfl (⟨rfl,oz,rfl⟩) (fun g B1 hle1 hI=>?_)))))))))
 obtain ⟨rfl,hk,hs⟩:=hI
 have hbd:=Zir gs u g.1 hk
 refine ZD [(0,_),(1,_),(4,_),(5,_),(6,_)] [] t5 rfl (Zc (Za (xM (h:=ZG (h:=Zb rfl (fun g1=>?_) (fun g1=>?_))))))
 try simp only [sQ,ne_eq] at g1
 have hp:=Zj7 (k:=g.1) oz
 refine wSk (Zc (Zg (Za (xA (h:=Zc (Za (xA (h:=Zg (Zy (α:=Nat × Bool) [0,1,4,5,6,10] (fun o=>[(7,.bool o.2),(8,.int .i64 o.1)]) [] (fun o=>[]) (fun o Bx=>Bx=B1∧o.1≤gs.length∧o.2=(gs.take o.1).any (onB u (Zbd g.1))) (fun o=>gs.length - o.1) (0,false) t2 rfl (⟨rfl,Nat.zero_le _,rfl⟩) (fun o B2 hle2 hI=>?_))))))))))
 obtain ⟨rfl,ho,hon⟩:=hI
 refine ZD [(0,_),(1,_),(4,_),(5,_),(6,_),(7,_),(8,_),(10,_)] [] t8 rfl (Zc (Za (xM (h:=xM (h:=xV Tryz.underlying85 (h:=ZG (h:=Zb rfl (fun g2=>?_) (fun g2=>?_))))))))
 try simp only [sQ,ne_eq] at g2
 obtain ⟨x,hx⟩:=ZX (xs:=gs) (i:=o.1) oz
 have hrx:=hr x (List.mem_of_getElem? hx)
 refine wSk (Zc (Zg (Z3 (same _ _) mo kr ⟨rfl,rfl⟩ (fun _ _=>?_))))
 refine aM 0 rfl (h:=aM 1 rfl (h:=ZaF (d:=20) rfl (fun g3=>?_) (fun g3=>?_)))
 try simp only [sQ,ne_eq] at g3
 refine aZ 2 rfl (h:=aZ 3 rfl (h:=aZ 4 rfl (h:=aZ 5 rfl (h:=aZ 6 rfl (h:=aZ 7 rfl (h:=aZ 8 rfl (h:=aZ 9 rfl (h:=aZ 10 rfl (h:=aZ 11 rfl (h:=aZ 12 rfl (h:=aZ 13 rfl (h:=aZ 14 rfl (h:=aZ 15 rfl (h:=aZ 16 rfl (h:=aZ 17 rfl (h:=aZ 18 rfl (h:=aZ 19 rfl (h:=aZ 20 rfl (h:=aZ 21 rfl (h:=aZ 22 rfl (h:=aZ 23 rfl (h:=aZ 24 rfl (h:=aZ 25 rfl (h:=aZ 26 rfl (h:=aZ 27 rfl (h:=aZ 28 rfl (h:=aPT 29 rfl (h:=aA 30 rfl (h:=Zu kr kr ?_)))))))))))))))))))))))))))))
 refine ZK (Zn (Ze (xM (h:=xD (h:=xA (h:=?_))))))
 exact ZC (o.1+1,true) [] so2 ⟨rfl,so,by rw [Zdd hx,← hon,g3];rfl⟩ t8 rfl
 try simp only [sQ,ne_eq] at g3
 refine aM 2 rfl (h:=aM 3 rfl (h:=?_))
 obtain ⟨bb3,oo3,rfl⟩:=hg.base hx
 obtain ⟨_,⟨rfl,hb4⟩,hc4⟩:=hg.elem hx
 refine aIx 4 rfl Tryz.underlying85 ZdT (h:=aW 5 rfl Zcw (h:=aT 6 rfl (Zaf fun D=>Zo rfl rfl lk9 rfl (hc4 _ 0 _ rfl) r4) (h:=aM 7 rfl (h:=ZrS 8 rfl (h:=aM 9 rfl (h:=ZaF (d:=28) rfl (fun g4=>?_) (fun g4=>?_)))))))
 try simp only [sQ,ne_eq] at g4
 refine aZ 10 rfl (h:=aZ 11 rfl (h:=aZ 12 rfl (h:=aZ 13 rfl (h:=aZ 14 rfl (h:=aZ 15 rfl (h:=aPT 16 rfl (h:=aM 17 rfl (h:=aM 18 rfl (h:=aM 19 rfl (h:=aIx 20 rfl Tryz.underlying85 ZdT (h:=aW 21 rfl Zdx (h:=aT 22 rfl (Zaf fun D=>Zo rfl rfl lk3 rfl (hc4 _ 1 _ rfl) r4) (h:=aM 23 rfl (h:=aT 24 rfl (Zaf fun D=>Z9 rfl rfl ZvZ rfl (ZjG g.1 om2 _) r4) (h:=?_)))))))))))))))
 refine aT 25 rfl (Zaf fun D=>ZlU (a:=x.rights) (b:=(Zbd g.1)) (r:=Int.tdiv x.rights (Zbd g.1)) rfl rfl rfl rfl oz (ZkK oz oz oz) r4) (h:=?_)
 refine aT 26 rfl (Zaf fun D=>Zn4 (a:=(Int.tdiv x.rights (Zbd g.1))) (b:=2) (r:=Int.tmod (Int.tdiv x.rights (Zbd g.1)) 2) rfl rfl rfl rfl (by decide) rfl r4) (h:=?_)
 refine ZrT 27 rfl (h:=aPT 28 rfl (h:=aPF 29 rfl (h:=aA 30 rfl (h:=Zu kr kr ?_))))
 refine ZK (Zn (Ze (xM (h:=xD (h:=xA (h:=?_))))))
 exact ZC (o.1+1,decide (Int.tmod (Int.tdiv x.rights (Zbd g.1)) 2=1)) [] so2 ⟨rfl,so,by rw [Zdd hx,← hon,g3,onB];simp [g4]⟩ t8 rfl
 try simp only [sQ,ne_eq] at g4
 refine aM 10 rfl (h:=aM 11 rfl (h:=aIx 12 rfl Tryz.underlying85 ZdT (h:=aW 13 rfl Zcw (h:=aT 14 rfl (Zaf fun D=>Zo rfl rfl lk9 rfl (hc4 _ 0 _ rfl) r4) (h:=ZrS 15 rfl (h:=aPF 16 rfl (h:=aM 17 rfl (h:=ZaF (d:=36) rfl (fun g5=>?_) (fun g5=>?_)))))))))
 try simp only [sQ,ne_eq] at g5
 refine aM 18 rfl (h:=aM 19 rfl (h:=aIx 20 rfl Tryz.underlying85 ZdT (h:=aW 21 rfl Zdx (h:=aT 22 rfl (Zaf fun D=>Zo rfl rfl lk3 rfl (hc4 _ 1 _ rfl) r4) (h:=aM 23 rfl (h:=aT 24 rfl (Zaf fun D=>Z9 rfl rfl ZvZ rfl (ZjG g.1 om2 _) r4) (h:=?_)))))))
 refine aT 25 rfl (Zaf fun D=>ZlU (a:=x.rights) (b:=(Zbd g.1)) (r:=Int.tdiv x.rights (Zbd g.1)) rfl rfl rfl rfl oz (ZkK oz oz oz) r4) (h:=?_)
 refine aT 26 rfl (Zaf fun D=>Zn4 (a:=(Int.tdiv x.rights (Zbd g.1))) (b:=2) (r:=Int.tmod (Int.tdiv x.rights (Zbd g.1)) 2) rfl rfl rfl rfl (by decide) rfl r4) (h:=?_)
 refine ZrT 27 rfl (h:=aPT 28 rfl (h:=aPF 29 rfl (h:=aA 30 rfl (h:=Zu kr kr ?_))))
 refine ZK (Zn (Ze (xM (h:=xD (h:=xA (h:=?_))))))
 exact ZC (o.1+1,decide (Int.tmod (Int.tdiv x.rights (Zbd g.1)) 2=1)) [] so2 ⟨rfl,so,by rw [Zdd hx,← hon,g3,onB];simp [g5,anyone]⟩ t8 rfl
 try simp only [sQ,ne_eq] at g5
 refine aZ 18 rfl (h:=aZ 19 rfl (h:=aZ 20 rfl (h:=aZ 21 rfl (h:=aZ 22 rfl (h:=aZ 23 rfl (h:=aZ 24 rfl (h:=aZ 25 rfl (h:=aZ 26 rfl (h:=aZ 27 rfl (h:=aPF 28 rfl (h:=aPF 29 rfl (h:=aA 30 rfl (h:=Zu kr kr ?_)))))))))))))
 refine ZK (Zn (Ze (xM (h:=xD (h:=xA (h:=?_))))))
 exact ZC (o.1+1,false) [] so2 ⟨rfl,so,by rw [Zdd hx,← hon,g3,onB];simp [g4,g5,anyone]⟩ t8 rfl
 try simp only [sQ,ne_eq] at g2
 have hae:=ZrP hon oz
 refine ZE (ZT (ZH (Zv (Zn (Za (xM (h:=Zb rfl (fun g6=>?_) (fun g6=>?_))))))))
 try simp only [sQ,ne_eq] at g6
 refine Ze (xM (h:=xM (h:=xR ZvZ rfl (ZjG g.1 om2 _) (h:=?_))))
 refine xD (h:=xA (h:=ZK (Zn (Ze (xM (h:=xD (h:=xA (h:=?_))))))))
 exact ZC (g.1+1,g.2+Zbd g.1) [] so2 ⟨rfl,so,by simp only [ZfI];rw [← hae,if_pos g6,hs]⟩ t5 rfl
 try simp only [sQ,ne_eq] at g6
 refine ZS (ZK (Zn (Ze (xM (h:=xD (h:=xA (h:=?_)))))))
 exact ZC (g.1+1,g.2) [] so2 ⟨rfl,so,by simp only [ZfI];rw [← hae,if_neg (by simp [g6]),hs]⟩ t5 rfl
 try simp only [sQ,ne_eq] at g1
 refine ZE (ZT (ZH (Zv (Zn (Za (xM (h:=xA (h:=Zd ?_))))))))
 exact eR t1 ⟨ZF (by rw [hs,show g.1=6 from by omega];rfl),rfl,rfl⟩

theorem ZnF (q1 q2 q3:Option Addr) (c1 c2 c3:Nat) (x:DHost) (k:Int) (u:Str) (r:Int) (f:DFolder) (hk0:0≤k) (hk:x.folders[k.toNat]? = some f) (hrr:Zhz x.folders) (h1:0<r) (B:Kn) (hf:SlK B q2 c2 5 Zm x.folders):Z8 (pj J) 125 [.agg #[str x.domain,.slice q1 x.users.length c1,.slice q2 x.folders.length c2,.int .i64 x.queue.next,.slice q3 x.queue.items.length c3],.int .i64 k,str u,.int .i64 r] B (.bool (ZlF f u r)):=by
 refine cB 31 Tryz.func125 (h:=?_)
 have hfn:=hf.len
 have hkl:=(List.getElem?_eq_some_iff.1 hk).1
 have hrb:=Zmc f.grants u
 refine Za (xBx [_,_,_,_,_] (h:=fun b1=>xA (h:=tL1 (Za (xM (h:=xW ZaA (h:=x1 ZeS 0 (h:=xM (h:=?_)))))))))
 obtain ⟨bb2,oo2,rfl⟩:=hf.base hk
 obtain ⟨_,⟨qg3,cg3,qm3,cm3,rfl,hg3,hm3,hb3,hb3b⟩,hc3⟩:=hf.elem hk
 have hg3n:=hg3.len
 have hm3n:=hm3.len
 have hm3s:=Zap hm3
 refine xIx Tryz.underlying36 Zb1 (h:=xW Zcv (h:=y1 lk9 hc3 0 (h:=Zd0 (h:=xM (h:=Zs (d:=17) rfl (fun g1=>?_) (fun g1=>?_))))))
 refine xP (h:=xP (h:=xP (h:=xP (h:=xP (h:=xP (h:=xP (h:=xP (h:=xP (h:=xP (h:=xP (h:=xP (h:=xT (h:=xA (h:=Zd ?_))))))))))))))
 exact eR t1 ⟨Zf (by simp [ZlF,g1]),rfl,rfl⟩
 refine xW ZaA (h:=x1 ZeS 0 (h:=xM (h:=xIx Tryz.underlying36 Zb1 (h:=xW Zd9 (h:=y1 ZrY hc3 2 (h:=xM (h:=xR ZzX rfl (Zvm _ _ f.grants u (by first | assumption | exact hrr _ (List.mem_of_getElem? (oy))) _ hg3) (h:=?_))))))))
 refine xM (h:=Zj (ZlU (a:=(Zbq f.grants u)) (b:=r) (r:=Int.tdiv (Zbq f.grants u) r) rfl rfl rfl rfl oz (ZkK oz oz oz) ?_))
 refine Zj (Zn4 (a:=(Int.tdiv (Zbq f.grants u) r)) (b:=2) (r:=Int.tmod (Int.tdiv (Zbq f.grants u) r) 2) rfl rfl rfl rfl (by decide) rfl ?_)
 refine ZaH (h:=xF (h:=xA (h:=Zd ?_)))
 exact eR t1 ⟨Zf (by simp [ZlF,g1]),rfl,rfl⟩

theorem Zi0 (q1 q2 q3:Option Addr) (c1 c2 c3:Nat) (x:DHost) (u:Str) (k r:Int) (hk:k<x.folders.length) (hrr:Zhz x.folders) (h1:0<r) (B:Kn) (hu:SlK B q1 c1 3 Zp x.users) (hf:SlK B q2 c2 5 Zm x.folders):Z8 (pj J) 78 [.agg #[str x.domain,.slice q1 x.users.length c1,.slice q2 x.folders.length c2,.int .i64 x.queue.next,.slice q3 x.queue.items.length c3],str u,.int .i64 k,.int .i64 r] B (.int .i64 (ZlD x.users x.folders u k r)):=by
 refine cB 32 Tryz.func78 (h:=?_)
 refine Za (xBx [_,_,_,_,_] (h:=fun b1=>xA (h:=tL1 (Zc (Zg (Za (xW Zcg (h:=x1 ZjE 0 (h:=xM (h:=xR Zx8 rfl (Zgp _ _ _ _ _ hu) (h:=ZG (h:=xM (h:=Zs (d:=15) rfl (fun g1=>?_) (fun g1=>?_))))))))))))))
 try simp only [sQ,ne_eq] at g1
 refine xP (h:=xP (h:=xT (h:=xA (h:=Zb (t:=true) rfl (fun _=>Za (xA (h:=Zd (ZA (Zl ?_))))) (fun h=>Bool.noConfusion h)))))
 exact eR t1 ⟨ZF (Zj5 (.inl g1)).symm,rfl,rfl⟩
 try simp only [sQ,ne_eq] at g1
 refine xM (h:=ZG (h:=xF (h:=xA (h:=Zb rfl (fun g2=>?_) (fun g2=>?_)))))
 try simp only [sQ,ne_eq] at g2
 refine Za (xA (h:=Zd (ZA (Zl ?_))))
 exact eR t1 ⟨ZF (Zj5 (.inr g2)).symm,rfl,rfl⟩
 try simp only [sQ,ne_eq] at g2
 have hfn:=hf.len
 obtain ⟨f,hf0⟩ :∃f,x.folders[k.toNat]? = some f:=⟨_,List.getElem?_eq_getElem oz⟩
 have hce:=ZrF (us:=x.users) (u:=u) (r:=r) oz hf0
 refine Za (xL [_,_,_,_,_] ZcK 0 (h:=xM (h:=xM (h:=xR ZxG rfl (ZnF _ _ _ _ _ _ x k u 1 _ oz (oy) hrr oz _ hf) (h:=?_)))))
 refine xN (h:=xA (h:=Zb rfl (fun g3=>?_) (fun g3=>?_)))
 try simp only [sQ,ne_eq] at g3
 refine Za (xA (h:=Zd (ZA (Zl ?_))))
 exact eR t1 ⟨ZF (by rw [hce,if_pos g3]),rfl,rfl⟩
 try simp only [sQ,ne_eq] at g3
 refine Za (xL [_,_,_,_,_] ZcK 0 (h:=xM (h:=xM (h:=xM (h:=xR ZxG rfl (ZnF _ _ _ _ _ _ x k u r _ oz (oy) hrr oz _ hf) (h:=?_))))))
 refine xN (h:=xA (h:=Zb rfl (fun g4=>?_) (fun g4=>?_)))
 try simp only [sQ,ne_eq] at g4
 refine Za (xA (h:=Zd (ZA (Zl ?_))))
 exact eR t1 ⟨ZF (by rw [hce,if_neg (by simp [g3]),if_pos g4]),rfl,rfl⟩
 try simp only [sQ,ne_eq] at g4
 refine ZS (ZK (Zn (Za (xA (h:=Zd ?_)))))
 exact eR t1 ⟨ZF (by rw [hce,if_neg (by simp [g3]),if_neg (by simp [g4])]),rfl,rfl⟩

theorem Zle (q:Option Addr) (cp:Nat) (x:DBox) (B:Kn) (hm:SlK B q cp 3 Zab x.mail):Zw (pj J) 83 [.agg #[.int .i64 x.next,.slice q x.mail.length cp]] B [] (fun v B' Ls=>B'=B∧∃l a c,Ls=[l]∧v = .agg #[.int .i64 x.next,.slice a x.mail.length c]∧ZW B l a c 146 3 Zab x.mail):=by
 refine cB 9 Tryz.func83 (h:=?_)
 have hxn:=hm.len
 refine Za (xBx [_,_] (h:=fun b1=>xAl [_,_] Zix (h:=fun b2=>tL2 (Za (xBs [] [] Tryz.underlying80 ZcT Ziz (h:=fun b3=>xW Zbj (h:=x1 ZhZ 0 (h:=Zj (Zcz (R:=Zab) 2 rfl (ZW.lit0 (R:=Zab)) rfl rfl rfl Zxx ZyD rfl rfl rfl hm.rows Zab.one rfl om (fun l4 p4 c4 hv4=>?_))))))))))
 refine xW Zbj (h:=xS [_] 0 [_,_] ZAL (h:=tL3 (Za (xL [_,_] ZeQ 0 (h:=xS [_,_] 1 [_,_] Zgy (h:=tL3 (Zd ?_)))))))
 exact eN [2] rfl ⟨⟨_,rfl,.inr ⟨[_,_],ZeQ,Zbu 1 rfl rfl rfl,rfl⟩⟩,trivial⟩ ⟨rfl,_,_,_,rfl,rfl,hv4⟩

theorem ZmC (qa qb:Option Addr) (ca cb:Nat) (x:DFolder) (B:Kn) (hg:SlK B qa ca 2 Zac x.grants) (hm:SlK B qb cb 3 Zab x.mail):Zw (pj J) 80 [.agg #[str x.owner,str x.name,.slice qa x.grants.length ca,.int .i64 x.next,.slice qb x.mail.length cb]] B [] (fun v B' Ls=>B'=B∧∃l a c l' a' c',Ls=[l,l']∧v = .agg #[str x.owner,str x.name,.slice a x.grants.length c,.int .i64 x.next,.slice a' x.mail.length c']∧ZW B l a c 223 2 Zac x.grants∧ZW B l' a' c' 146 3 Zab x.mail):=by
 refine cB 13 Tryz.func80 (h:=?_)
 have hgn:=hg.len
 have hmn:=hm.len
 refine Za (xBx [_,_,_,_,_] (h:=fun b1=>xAl [_,_,_,_,_] Zgx (h:=fun b2=>tL2 (Za (xBs [] [] Tryz.underlying85 ZdT Zn0 (h:=fun b3=>xW Zd9 (h:=x1 ZrY 0 (h:=Zj (Zcz (R:=Zac) 2 rfl (ZW.lit0 (R:=Zac)) rfl rfl rfl ZyY ZAN rfl rfl rfl hg.rows Zac.one rfl om (fun l4 p4 c4 hv4=>?_))))))))))
 refine xW Zd9 (h:=xS [_] 0 [_,_,_,_,_] Zyz (h:=tL3 (Za (xW Zbi (h:=xL [_,_] ZeQ 0 (h:=xC ZA1 rfl (Zle _ _ (⟨x.next,x.mail⟩:DBox) _ hm) (h:=?_)))))))
 rintro _ B5 _ hle5 ⟨hB5,l5,a5,c5,rfl,rfl,hs5⟩
 have hB5:=hB5.symm
 subst hB5
 refine xW Zbi (h:=xS [_,_] 0 [_,_,_,_,_] Zgy (h:=tL4 (Za (xL [_,_,_,_,_] Ziy 0 (h:=xS [_,_,_,_,_] 1 [_,_,_,_,_] Zb1 (h:=tL4 (Zd ?_)))))))
 exact eN [2,3] rfl ⟨⟨_,rfl,.inr ⟨[_,_,_,_,_],Ziy,Zbu 1 rfl rfl rfl,rfl⟩⟩,trivial⟩ ⟨rfl,_,_,_,_,_,_,rfl,rfl,hv4,hs5⟩

theorem Zqx (q1 q2 q3:Option Addr) (c1 c2 c3:Nat) (x:DHost) (B:Kn) (hu:SlK B q1 c1 3 Zp x.users) (hf:SlK B q2 c2 5 Zm x.folders) (hi:SlK B q3 c3 4 Zz x.queue.items):Zw (pj J) 35 [.agg #[str x.domain,.slice q1 x.users.length c1,.slice q2 x.folders.length c2,.int .i64 x.queue.next,.slice q3 x.queue.items.length c3]] B [] (fun v B' Ls=>∃l a c p1 d1 p3 d3,Ls=[l]∧v = .agg #[str x.domain,.slice p1 x.users.length d1,.slice a x.folders.length c,.int .i64 x.queue.next,.slice p3 x.queue.items.length d3]∧SlK B' p1 d1 3 Zp x.users∧ZW B' l a c 87 5 Zm x.folders∧SlK B' p3 d3 4 Zz x.queue.items):=by
 refine cB 35 Tryz.func35 (h:=?_)
 have hun:=hu.len
 have hfn:=hf.len
 have hin:=hi.len
 refine Za (xBx [_,_,_,_,_] (h:=fun b1=>xAl [_,_,_,_,_] Zca (h:=fun b2=>tL2 (Zng (α:=GHC × Gh DFolder) [0,1,2] (fun o=>[(3,ptr ⟨o.1.b,0,none⟩)]) (fun o=>[ZN b1 [str x.domain,.slice q1 x.users.length c1,.slice q2 x.folders.length c2,.int .i64 x.queue.next,.slice q3 x.queue.items.length c3] 41,ZN b2 [str [],.slice none 0 0,.slice none 0 0,.int .i64 0,.slice none 0 0] 41,o.2.l,ZN o.1.b [str x.domain,.slice o.1.q1 x.users.length o.1.c1,.slice o.2.a o.2.xs.length o.2.c,.int .i64 x.queue.next,.slice o.1.q3 x.queue.items.length o.1.c3] 41]) (fun o Bx=>SlK Bx o.1.q1 o.1.c1 3 Zp x.users∧o.2.xs=[]∧ZW Bx o.2.l o.2.a o.2.c 87 5 Zm o.2.xs∧SlK Bx o.1.q3 o.1.c3 4 Zz x.queue.items) ?_ (fun o B3 hle3 hF=>?_)))))
 refine Z3 (keeps _ [0] _) mo kr ⟨Kn.le.refl _,Za7.refl _ _⟩ (fun _ _=>?_)
 refine aW 0 rfl Zie (h:=aT 1 rfl (ZR fun D B L hI=>Zo rfl rfl lk9 rfl (atL 0 (hI.2.1.trans rfl) rfl rfl) r4) (h:=aW 3 rfl Zcg (h:=aT 4 rfl (ZR fun D B L hI=>Zo rfl rfl ZjE rfl (atL 0 (hI.2.1.trans rfl) rfl rfl) r4) (h:=aW 7 rfl ZeN (h:=aT 8 rfl (ZR fun D B L hI=>Z4 [_,_] rfl rfl ZlR rfl (Zbu 0 (hI.2.1.trans rfl) rfl rfl) r4) (h:=Zat [2,6,11] kr kr kr ⟨?_,?_,?_⟩))))))
 refine (ZO (parts:=[]) [] rfl rfl Tryz.underlying35 Zbr Zej rfl rfl rfl rfl rfl (fun b4=>⟨⟨Kn.le.refl _,t1⟩,(Zat [5,6,11] kr kr kr ⟨?_,?_,?_⟩)⟩))
 refine (Zcz (R:=Zp) 2 rfl (ZW.lit0 (R:=Zp)) rfl rfl rfl ZoY Zpa rfl rfl rfl hu.rows Zp.one rfl om (fun l5 p5 c5 hv5=>?_))
 refine ⟨⟨Kn.le.refl _,t1⟩,(ZaR 2 rfl hv5 Zp.mono om3 (fun B' hle'=>⟨hle',t1⟩) (fun B6 hle6 hr6=>?_))⟩
 obtain ⟨hu,hf,hi⟩:=up3 hle6 hu hf hi
 have hr6n:=hr6.len
 refine Zat [6,9,11] kr kr kr ⟨?_,?_,?_⟩
 refine (ZO (parts:=[]) [] rfl rfl Tryz.underlying36 Zb1 Zgx rfl rfl rfl rfl rfl (fun b7=>⟨⟨hle6,t1⟩,(Zat [9,11] kr kr kr ⟨?_,?_⟩)⟩))
 refine (Zag rfl rfl ZjZ rfl (Zax _ _ x.queue _ hi) ?_)
 rintro _ B8 _ hle8 ⟨l8,a8,c8,rfl,rfl,hv8⟩
 obtain ⟨hu,hf,hi,hr6⟩:=up4 hle8 hu hf hi hr6
 replace hv8:=hv8.mono Zz.mono Kn.less_le
 refine ⟨⟨(hle6.trans hle8),t1⟩,(ZaR 4 rfl hv8 Zz.mono om3 (fun B' hle'=>⟨(hle6.trans hle8).trans hle',t1⟩) (fun B9 hle9 hr9=>?_))⟩
 obtain ⟨hu,hf,hi,hr6⟩:=up4 hle9 hu hf hi hr6
 have hr9n:=hr9.len
 refine aT 10 rfl (ZR fun D B L hI=>Zas (parts:=[(0,_),(1,_),(2,_),(3,_)]) [_,_,_,_,_] [_,_,_,_,_] rfl rfl ZgI Zca rfl rfl rfl r4) (h:=ZB 11 kr rfl kr (Zae (l:=[_,_,_,_,_]) rfl rfl Zca rfl (fun b10=>?_)))
 refine ⟨⟨((hle6.trans hle8).trans hle9),t1⟩,(Zar 12 kr rfl kr kr kr (ZL [_,_,_,_,_] 5 [_,_,_,_,_] rfl rfl ZcZ rfl rfl rfl rfl rfl rfl rfl rfl ?_))⟩
 exact Zam ⟨⟨_,_,_,_,_⟩,⟨0,0,_,_,_,[]⟩⟩ [0,1,3,5] ⟨hr6,rfl,ZW.lit0,hr9⟩ t4 rfl
 refine (Zae (l:=[_,_,_,_,_]) rfl rfl Zca rfl (fun b11=>⟨⟨hle6,t1⟩,(ZB 9 kr rfl kr (Zag rfl rfl ZjZ rfl (Zax _ _ x.queue _ hi) ?_))⟩))
 rintro _ B12 _ hle12 ⟨l12,a12,c12,rfl,rfl,hv12⟩
 obtain ⟨hu,hf,hi,hr6⟩:=up4 hle12 hu hf hi hr6
 replace hv12:=hv12.mono Zz.mono Kn.less_le
 refine ⟨⟨(hle6.trans hle12),t1⟩,(ZaR 5 rfl hv12 Zz.mono om3 (fun B' hle'=>⟨(hle6.trans hle12).trans hle',t1⟩) (fun B13 hle13 hr13=>?_))⟩
 obtain ⟨hu,hf,hi,hr6⟩:=up4 hle13 hu hf hi hr6
 have hr13n:=hr13.len
 refine aT 10 rfl (ZR fun D B L hI=>Zas (parts:=[(0,_),(1,_),(2,_),(3,_)]) [_,_,_,_,_] [_,_,_,_,_] rfl rfl ZgI Zca rfl rfl rfl r4) (h:=Zar 12 kr rfl kr kr kr (ZL [_,_,_,_,_] 4 [_,_,_,_,_] rfl rfl ZcZ rfl rfl rfl rfl rfl rfl rfl rfl ?_))
 exact Zam ⟨⟨_,_,_,_,_⟩,⟨0,0,_,_,_,[]⟩⟩ [0,1,3,4] ⟨hr6,rfl,ZW.lit0,hr13⟩ t4 rfl
 refine (Zag rfl rfl ZjZ rfl (Zax _ _ x.queue _ hi) ?_)
 rintro _ B14 _ hle14 ⟨l14,a14,c14,rfl,rfl,hv14⟩
 obtain ⟨hu,hf,hi,hr6⟩:=up4 hle14 hu hf hi hr6
 replace hv14:=hv14.mono Zz.mono Kn.less_le
 refine ⟨⟨(hle6.trans hle14),t1⟩,(ZaR 3 rfl hv14 Zz.mono om3 (fun B' hle'=>⟨(hle6.trans hle14).trans hle',t1⟩) (fun B15 hle15 hr15=>?_))⟩
 obtain ⟨hu,hf,hi,hr6⟩:=up4 hle15 hu hf hi hr6
 have hr15n:=hr15.len
 refine Zat [6,11] kr kr kr ⟨?_,?_⟩
 refine (ZO (parts:=[]) [] rfl rfl Tryz.underlying36 Zb1 Zgx rfl rfl rfl rfl rfl (fun b16=>⟨⟨((hle6.trans hle14).trans hle15),t1⟩,(aT 10 rfl (ZR fun D B L hI=>Zas (parts:=[(0,_),(1,_),(2,_),(3,_)]) [_,_,_,_,_] [_,_,_,_,_] rfl rfl ZgI Zca rfl rfl rfl r4) (h:=ZB 11 kr rfl kr (Zae (l:=[_,_,_,_,_]) rfl rfl Zca rfl (fun b17=>?_))))⟩))
 refine ⟨⟨((hle6.trans hle14).trans hle15),t1⟩,(Zar 12 kr rfl kr kr kr (ZL [_,_,_,_,_] 5 [_,_,_,_,_] rfl rfl ZcZ rfl rfl rfl rfl rfl rfl rfl rfl ?_))⟩
 exact Zam ⟨⟨_,_,_,_,_⟩,⟨0,0,_,_,_,[]⟩⟩ [0,1,4,5] ⟨hr6,rfl,ZW.lit0,hr15⟩ t4 rfl
 refine (Zae (l:=[_,_,_,_,_]) rfl rfl Zca rfl (fun b18=>⟨⟨((hle6.trans hle14).trans hle15),t1⟩,(ZB 6 kr rfl kr (ZO (parts:=[]) [] rfl rfl Tryz.underlying36 Zb1 Zgx rfl rfl rfl rfl rfl (fun b19=>?_)))⟩))
 refine ⟨⟨((hle6.trans hle14).trans hle15),t1⟩,(aT 10 rfl (ZR fun D B L hI=>Zas (parts:=[(0,_),(1,_),(2,_),(3,_)]) [_,_,_,_,_] [_,_,_,_,_] rfl rfl ZgI Zca rfl rfl rfl r4) (h:=Zar 12 kr rfl kr kr kr (ZL [_,_,_,_,_] 4 [_,_,_,_,_] rfl rfl ZcZ rfl rfl rfl rfl rfl rfl rfl rfl ?_)))⟩
 exact Zam ⟨⟨_,_,_,_,_⟩,⟨0,0,_,_,_,[]⟩⟩ [0,1,5,4] ⟨hr6,rfl,ZW.lit0,hr15⟩ t4 rfl
 refine (Zae (l:=[_,_,_,_,_]) rfl rfl Zca rfl (fun b20=>⟨⟨hle6,t1⟩,(Zat [6,9] kr kr kr ⟨?_,?_⟩)⟩))
 refine (ZO (parts:=[]) [] rfl rfl Tryz.underlying36 Zb1 Zgx rfl rfl rfl rfl rfl (fun b21=>⟨⟨hle6,t1⟩,(ZB 9 kr rfl kr (Zag rfl rfl ZjZ rfl (Zax _ _ x.queue _ hi) ?_))⟩))
 rintro _ B22 _ hle22 ⟨l22,a22,c22,rfl,rfl,hv22⟩
 obtain ⟨hu,hf,hi,hr6⟩:=up4 hle22 hu hf hi hr6
 replace hv22:=hv22.mono Zz.mono Kn.less_le
 refine ⟨⟨(hle6.trans hle22),t1⟩,(ZaR 5 rfl hv22 Zz.mono om3 (fun B' hle'=>⟨(hle6.trans hle22).trans hle',t1⟩) (fun B23 hle23 hr23=>?_))⟩
 obtain ⟨hu,hf,hi,hr6⟩:=up4 hle23 hu hf hi hr6
 have hr23n:=hr23.len
 refine aT 10 rfl (ZR fun D B L hI=>Zas (parts:=[(0,_),(1,_),(2,_),(3,_)]) [_,_,_,_,_] [_,_,_,_,_] rfl rfl ZgI Zca rfl rfl rfl r4) (h:=Zar 12 kr rfl kr kr kr (ZL [_,_,_,_,_] 3 [_,_,_,_,_] rfl rfl ZcZ rfl rfl rfl rfl rfl rfl rfl rfl ?_))
 exact Zam ⟨⟨_,_,_,_,_⟩,⟨0,0,_,_,_,[]⟩⟩ [0,1,4,3] ⟨hr6,rfl,ZW.lit0,hr23⟩ t4 rfl
 refine (Zag rfl rfl ZjZ rfl (Zax _ _ x.queue _ hi) ?_)
 rintro _ B24 _ hle24 ⟨l24,a24,c24,rfl,rfl,hv24⟩
 obtain ⟨hu,hf,hi,hr6⟩:=up4 hle24 hu hf hi hr6
 replace hv24:=hv24.mono Zz.mono Kn.less_le
 refine ⟨⟨(hle6.trans hle24),t1⟩,(ZaR 4 rfl hv24 Zz.mono om3 (fun B' hle'=>⟨(hle6.trans hle24).trans hle',t1⟩) (fun B25 hle25 hr25=>?_))⟩
 obtain ⟨hu,hf,hi,hr6⟩:=up4 hle25 hu hf hi hr6
 have hr25n:=hr25.len
 refine ZB 6 kr rfl kr (ZO (parts:=[]) [] rfl rfl Tryz.underlying36 Zb1 Zgx rfl rfl rfl rfl rfl (fun b26=>?_))
 refine ⟨⟨((hle6.trans hle24).trans hle25),t1⟩,(aT 10 rfl (ZR fun D B L hI=>Zas (parts:=[(0,_),(1,_),(2,_),(3,_)]) [_,_,_,_,_] [_,_,_,_,_] rfl rfl ZgI Zca rfl rfl rfl r4) (h:=Zar 12 kr rfl kr kr kr (ZL [_,_,_,_,_] 3 [_,_,_,_,_] rfl rfl ZcZ rfl rfl rfl rfl rfl rfl rfl rfl ?_)))⟩
 exact Zam ⟨⟨_,_,_,_,_⟩,⟨0,0,_,_,_,[]⟩⟩ [0,1,5,3] ⟨hr6,rfl,ZW.lit0,hr25⟩ t4 rfl
 refine (ZO (parts:=[]) [] rfl rfl Tryz.underlying36 Zb1 Zgx rfl rfl rfl rfl rfl (fun b27=>⟨⟨Kn.le.refl _,t1⟩,(Zat [5,11] kr kr kr ⟨?_,?_⟩)⟩))
 refine (Zcz (R:=Zp) 2 rfl (ZW.lit0 (R:=Zp)) rfl rfl rfl ZoY Zpa rfl rfl rfl hu.rows Zp.one rfl om (fun l28 p28 c28 hv28=>?_))
 refine ⟨⟨Kn.le.refl _,t1⟩,(ZaR 2 rfl hv28 Zp.mono om3 (fun B' hle'=>⟨hle',t1⟩) (fun B29 hle29 hr29=>?_))⟩
 obtain ⟨hu,hf,hi⟩:=up3 hle29 hu hf hi
 have hr29n:=hr29.len
 refine Zat [9,11] kr kr kr ⟨?_,?_⟩
 refine (Zag rfl rfl ZjZ rfl (Zax _ _ x.queue _ hi) ?_)
 rintro _ B30 _ hle30 ⟨l30,a30,c30,rfl,rfl,hv30⟩
 obtain ⟨hu,hf,hi,hr29⟩:=up4 hle30 hu hf hi hr29
 replace hv30:=hv30.mono Zz.mono Kn.less_le
 refine ⟨⟨(hle29.trans hle30),t1⟩,(ZaR 4 rfl hv30 Zz.mono om3 (fun B' hle'=>⟨(hle29.trans hle30).trans hle',t1⟩) (fun B31 hle31 hr31=>?_))⟩
 obtain ⟨hu,hf,hi,hr29⟩:=up4 hle31 hu hf hi hr29
 have hr31n:=hr31.len
 refine aT 10 rfl (ZR fun D B L hI=>Zas (parts:=[(0,_),(1,_),(2,_),(3,_)]) [_,_,_,_,_] [_,_,_,_,_] rfl rfl ZgI Zca rfl rfl rfl r4) (h:=ZB 11 kr rfl kr (Zae (l:=[_,_,_,_,_]) rfl rfl Zca rfl (fun b32=>?_)))
 refine ⟨⟨((hle29.trans hle30).trans hle31),t1⟩,(Zar 12 kr rfl kr kr kr (ZL [_,_,_,_,_] 5 [_,_,_,_,_] rfl rfl ZcZ rfl rfl rfl rfl rfl rfl rfl rfl ?_))⟩
 exact Zam ⟨⟨_,_,_,_,_⟩,⟨0,0,_,_,_,[]⟩⟩ [0,1,3,5] ⟨hr29,rfl,ZW.lit0,hr31⟩ t4 rfl
 refine (Zae (l:=[_,_,_,_,_]) rfl rfl Zca rfl (fun b33=>⟨⟨hle29,t1⟩,(ZB 9 kr rfl kr (Zag rfl rfl ZjZ rfl (Zax _ _ x.queue _ hi) ?_))⟩))
 rintro _ B34 _ hle34 ⟨l34,a34,c34,rfl,rfl,hv34⟩
 obtain ⟨hu,hf,hi,hr29⟩:=up4 hle34 hu hf hi hr29
 replace hv34:=hv34.mono Zz.mono Kn.less_le
 refine ⟨⟨(hle29.trans hle34),t1⟩,(ZaR 5 rfl hv34 Zz.mono om3 (fun B' hle'=>⟨(hle29.trans hle34).trans hle',t1⟩) (fun B35 hle35 hr35=>?_))⟩
 obtain ⟨hu,hf,hi,hr29⟩:=up4 hle35 hu hf hi hr29
 have hr35n:=hr35.len
 refine aT 10 rfl (ZR fun D B L hI=>Zas (parts:=[(0,_),(1,_),(2,_),(3,_)]) [_,_,_,_,_] [_,_,_,_,_] rfl rfl ZgI Zca rfl rfl rfl r4) (h:=Zar 12 kr rfl kr kr kr (ZL [_,_,_,_,_] 4 [_,_,_,_,_] rfl rfl ZcZ rfl rfl rfl rfl rfl rfl rfl rfl ?_))
 exact Zam ⟨⟨_,_,_,_,_⟩,⟨0,0,_,_,_,[]⟩⟩ [0,1,3,4] ⟨hr29,rfl,ZW.lit0,hr35⟩ t4 rfl
 refine (Zae (l:=[_,_,_,_,_]) rfl rfl Zca rfl (fun b36=>⟨⟨Kn.le.refl _,t1⟩,(ZB 5 kr rfl kr (Zcz (R:=Zp) 2 rfl (ZW.lit0 (R:=Zp)) rfl rfl rfl ZoY Zpa rfl rfl rfl hu.rows Zp.one rfl om (fun l37 p37 c37 hv37=>?_)))⟩))
 refine ⟨⟨Kn.le.refl _,t1⟩,(ZaR 2 rfl hv37 Zp.mono om3 (fun B' hle'=>⟨hle',t1⟩) (fun B38 hle38 hr38=>?_))⟩
 obtain ⟨hu,hf,hi⟩:=up3 hle38 hu hf hi
 have hr38n:=hr38.len
 refine ZB 9 kr rfl kr (Zag rfl rfl ZjZ rfl (Zax _ _ x.queue _ hi) ?_)
 rintro _ B39 _ hle39 ⟨l39,a39,c39,rfl,rfl,hv39⟩
 obtain ⟨hu,hf,hi,hr38⟩:=up4 hle39 hu hf hi hr38
 replace hv39:=hv39.mono Zz.mono Kn.less_le
 refine ⟨⟨(hle38.trans hle39),t1⟩,(ZaR 5 rfl hv39 Zz.mono om3 (fun B' hle'=>⟨(hle38.trans hle39).trans hle',t1⟩) (fun B40 hle40 hr40=>?_))⟩
 obtain ⟨hu,hf,hi,hr38⟩:=up4 hle40 hu hf hi hr38
 have hr40n:=hr40.len
 refine aT 10 rfl (ZR fun D B L hI=>Zas (parts:=[(0,_),(1,_),(2,_),(3,_)]) [_,_,_,_,_] [_,_,_,_,_] rfl rfl ZgI Zca rfl rfl rfl r4) (h:=Zar 12 kr rfl kr kr kr (ZL [_,_,_,_,_] 4 [_,_,_,_,_] rfl rfl ZcZ rfl rfl rfl rfl rfl rfl rfl rfl ?_))
 exact Zam ⟨⟨_,_,_,_,_⟩,⟨0,0,_,_,_,[]⟩⟩ [0,1,3,4] ⟨hr38,rfl,ZW.lit0,hr40⟩ t4 rfl
 refine (Zae (l:=[_,_,_,_,_]) rfl rfl Zca rfl (fun b41=>⟨⟨Kn.le.refl _,t1⟩,(Zat [5,6] kr kr kr ⟨?_,?_⟩)⟩))
 refine (Zcz (R:=Zp) 2 rfl (ZW.lit0 (R:=Zp)) rfl rfl rfl ZoY Zpa rfl rfl rfl hu.rows Zp.one rfl om (fun l42 p42 c42 hv42=>?_))
 refine ⟨⟨Kn.le.refl _,t1⟩,(ZaR 2 rfl hv42 Zp.mono om3 (fun B' hle'=>⟨hle',t1⟩) (fun B43 hle43 hr43=>?_))⟩
 obtain ⟨hu,hf,hi⟩:=up3 hle43 hu hf hi
 have hr43n:=hr43.len
 refine Zat [6,9] kr kr kr ⟨?_,?_⟩
 refine (ZO (parts:=[]) [] rfl rfl Tryz.underlying36 Zb1 Zgx rfl rfl rfl rfl rfl (fun b44=>⟨⟨hle43,t1⟩,(ZB 9 kr rfl kr (Zag rfl rfl ZjZ rfl (Zax _ _ x.queue _ hi) ?_))⟩))
 rintro _ B45 _ hle45 ⟨l45,a45,c45,rfl,rfl,hv45⟩
 obtain ⟨hu,hf,hi,hr43⟩:=up4 hle45 hu hf hi hr43
 replace hv45:=hv45.mono Zz.mono Kn.less_le
 refine ⟨⟨(hle43.trans hle45),t1⟩,(ZaR 5 rfl hv45 Zz.mono om3 (fun B' hle'=>⟨(hle43.trans hle45).trans hle',t1⟩) (fun B46 hle46 hr46=>?_))⟩
 obtain ⟨hu,hf,hi,hr43⟩:=up4 hle46 hu hf hi hr43
 have hr46n:=hr46.len
 refine aT 10 rfl (ZR fun D B L hI=>Zas (parts:=[(0,_),(1,_),(2,_),(3,_)]) [_,_,_,_,_] [_,_,_,_,_] rfl rfl ZgI Zca rfl rfl rfl r4) (h:=Zar 12 kr rfl kr kr kr (ZL [_,_,_,_,_] 3 [_,_,_,_,_] rfl rfl ZcZ rfl rfl rfl rfl rfl rfl rfl rfl ?_))
 exact Zam ⟨⟨_,_,_,_,_⟩,⟨0,0,_,_,_,[]⟩⟩ [0,1,4,3] ⟨hr43,rfl,ZW.lit0,hr46⟩ t4 rfl
 refine (Zag rfl rfl ZjZ rfl (Zax _ _ x.queue _ hi) ?_)
 rintro _ B47 _ hle47 ⟨l47,a47,c47,rfl,rfl,hv47⟩
 obtain ⟨hu,hf,hi,hr43⟩:=up4 hle47 hu hf hi hr43
 replace hv47:=hv47.mono Zz.mono Kn.less_le
 refine ⟨⟨(hle43.trans hle47),t1⟩,(ZaR 4 rfl hv47 Zz.mono om3 (fun B' hle'=>⟨(hle43.trans hle47).trans hle',t1⟩) (fun B48 hle48 hr48=>?_))⟩
 obtain ⟨hu,hf,hi,hr43⟩:=up4 hle48 hu hf hi hr43
 have hr48n:=hr48.len
 refine ZB 6 kr rfl kr (ZO (parts:=[]) [] rfl rfl Tryz.underlying36 Zb1 Zgx rfl rfl rfl rfl rfl (fun b49=>?_))
 refine ⟨⟨((hle43.trans hle47).trans hle48),t1⟩,(aT 10 rfl (ZR fun D B L hI=>Zas (parts:=[(0,_),(1,_),(2,_),(3,_)]) [_,_,_,_,_] [_,_,_,_,_] rfl rfl ZgI Zca rfl rfl rfl r4) (h:=Zar 12 kr rfl kr kr kr (ZL [_,_,_,_,_] 3 [_,_,_,_,_] rfl rfl ZcZ rfl rfl rfl rfl rfl rfl rfl rfl ?_)))⟩
 exact Zam ⟨⟨_,_,_,_,_⟩,⟨0,0,_,_,_,[]⟩⟩ [0,1,5,3] ⟨hr43,rfl,ZW.lit0,hr48⟩ t4 rfl
 refine (ZO (parts:=[]) [] rfl rfl Tryz.underlying36 Zb1 Zgx rfl rfl rfl rfl rfl (fun b50=>⟨⟨Kn.le.refl _,t1⟩,(ZB 5 kr rfl kr (Zcz (R:=Zp) 2 rfl (ZW.lit0 (R:=Zp)) rfl rfl rfl ZoY Zpa rfl rfl rfl hu.rows Zp.one rfl om (fun l51 p51 c51 hv51=>?_)))⟩))
 refine ⟨⟨Kn.le.refl _,t1⟩,(ZaR 2 rfl hv51 Zp.mono om3 (fun B' hle'=>⟨hle',t1⟩) (fun B52 hle52 hr52=>?_))⟩
 obtain ⟨hu,hf,hi⟩:=up3 hle52 hu hf hi
 have hr52n:=hr52.len
 refine ZB 9 kr rfl kr (Zag rfl rfl ZjZ rfl (Zax _ _ x.queue _ hi) ?_)
 rintro _ B53 _ hle53 ⟨l53,a53,c53,rfl,rfl,hv53⟩
 obtain ⟨hu,hf,hi,hr52⟩:=up4 hle53 hu hf hi hr52
 replace hv53:=hv53.mono Zz.mono Kn.less_le
 refine ⟨⟨(hle52.trans hle53),t1⟩,(ZaR 5 rfl hv53 Zz.mono om3 (fun B' hle'=>⟨(hle52.trans hle53).trans hle',t1⟩) (fun B54 hle54 hr54=>?_))⟩
 obtain ⟨hu,hf,hi,hr52⟩:=up4 hle54 hu hf hi hr52
 have hr54n:=hr54.len
 refine aT 10 rfl (ZR fun D B L hI=>Zas (parts:=[(0,_),(1,_),(2,_),(3,_)]) [_,_,_,_,_] [_,_,_,_,_] rfl rfl ZgI Zca rfl rfl rfl r4) (h:=Zar 12 kr rfl kr kr kr (ZL [_,_,_,_,_] 3 [_,_,_,_,_] rfl rfl ZcZ rfl rfl rfl rfl rfl rfl rfl rfl ?_))
 exact Zam ⟨⟨_,_,_,_,_⟩,⟨0,0,_,_,_,[]⟩⟩ [0,1,4,3] ⟨hr52,rfl,ZW.lit0,hr54⟩ t4 rfl
 refine (ZO (parts:=[]) [] rfl rfl Tryz.underlying36 Zb1 Zgx rfl rfl rfl rfl rfl (fun b55=>⟨⟨Kn.le.refl _,t1⟩,(Zat [2,11] kr kr kr ⟨?_,?_⟩)⟩))
 refine (ZO (parts:=[]) [] rfl rfl Tryz.underlying35 Zbr Zej rfl rfl rfl rfl rfl (fun b56=>⟨⟨Kn.le.refl _,t1⟩,(Zat [5,11] kr kr kr ⟨?_,?_⟩)⟩))
 refine (Zcz (R:=Zp) 3 rfl (ZW.lit0 (R:=Zp)) rfl rfl rfl ZoY Zpa rfl rfl rfl hu.rows Zp.one rfl om (fun l57 p57 c57 hv57=>?_))
 refine ⟨⟨Kn.le.refl _,t1⟩,(ZaR 3 rfl hv57 Zp.mono om3 (fun B' hle'=>⟨hle',t1⟩) (fun B58 hle58 hr58=>?_))⟩
 obtain ⟨hu,hf,hi⟩:=up3 hle58 hu hf hi
 have hr58n:=hr58.len
 refine Zat [9,11] kr kr kr ⟨?_,?_⟩
 refine (Zag rfl rfl ZjZ rfl (Zax _ _ x.queue _ hi) ?_)
 rintro _ B59 _ hle59 ⟨l59,a59,c59,rfl,rfl,hv59⟩
 obtain ⟨hu,hf,hi,hr58⟩:=up4 hle59 hu hf hi hr58
 replace hv59:=hv59.mono Zz.mono Kn.less_le
 refine ⟨⟨(hle58.trans hle59),t1⟩,(ZaR 4 rfl hv59 Zz.mono om3 (fun B' hle'=>⟨(hle58.trans hle59).trans hle',t1⟩) (fun B60 hle60 hr60=>?_))⟩
 obtain ⟨hu,hf,hi,hr58⟩:=up4 hle60 hu hf hi hr58
 have hr60n:=hr60.len
 refine aT 10 rfl (ZR fun D B L hI=>Zas (parts:=[(0,_),(1,_),(2,_),(3,_)]) [_,_,_,_,_] [_,_,_,_,_] rfl rfl ZgI Zca rfl rfl rfl r4) (h:=ZB 11 kr rfl kr (Zae (l:=[_,_,_,_,_]) rfl rfl Zca rfl (fun b61=>?_)))
 refine ⟨⟨((hle58.trans hle59).trans hle60),t1⟩,(Zar 12 kr rfl kr kr kr (ZL [_,_,_,_,_] 5 [_,_,_,_,_] rfl rfl ZcZ rfl rfl rfl rfl rfl rfl rfl rfl ?_))⟩
 exact Zam ⟨⟨_,_,_,_,_⟩,⟨0,0,_,_,_,[]⟩⟩ [0,1,2,5] ⟨hr58,rfl,ZW.lit0,hr60⟩ t4 rfl
 refine (Zae (l:=[_,_,_,_,_]) rfl rfl Zca rfl (fun b62=>⟨⟨hle58,t1⟩,(ZB 9 kr rfl kr (Zag rfl rfl ZjZ rfl (Zax _ _ x.queue _ hi) ?_))⟩))
 rintro _ B63 _ hle63 ⟨l63,a63,c63,rfl,rfl,hv63⟩
 obtain ⟨hu,hf,hi,hr58⟩:=up4 hle63 hu hf hi hr58
 replace hv63:=hv63.mono Zz.mono Kn.less_le
 refine ⟨⟨(hle58.trans hle63),t1⟩,(ZaR 5 rfl hv63 Zz.mono om3 (fun B' hle'=>⟨(hle58.trans hle63).trans hle',t1⟩) (fun B64 hle64 hr64=>?_))⟩
 obtain ⟨hu,hf,hi,hr58⟩:=up4 hle64 hu hf hi hr58
 have hr64n:=hr64.len
 refine aT 10 rfl (ZR fun D B L hI=>Zas (parts:=[(0,_),(1,_),(2,_),(3,_)]) [_,_,_,_,_] [_,_,_,_,_] rfl rfl ZgI Zca rfl rfl rfl r4) (h:=Zar 12 kr rfl kr kr kr (ZL [_,_,_,_,_] 4 [_,_,_,_,_] rfl rfl ZcZ rfl rfl rfl rfl rfl rfl rfl rfl ?_))
 exact Zam ⟨⟨_,_,_,_,_⟩,⟨0,0,_,_,_,[]⟩⟩ [0,1,2,4] ⟨hr58,rfl,ZW.lit0,hr64⟩ t4 rfl
 refine (Zae (l:=[_,_,_,_,_]) rfl rfl Zca rfl (fun b65=>⟨⟨Kn.le.refl _,t1⟩,(ZB 5 kr rfl kr (Zcz (R:=Zp) 3 rfl (ZW.lit0 (R:=Zp)) rfl rfl rfl ZoY Zpa rfl rfl rfl hu.rows Zp.one rfl om (fun l66 p66 c66 hv66=>?_)))⟩))
 refine ⟨⟨Kn.le.refl _,t1⟩,(ZaR 3 rfl hv66 Zp.mono om3 (fun B' hle'=>⟨hle',t1⟩) (fun B67 hle67 hr67=>?_))⟩
 obtain ⟨hu,hf,hi⟩:=up3 hle67 hu hf hi
 have hr67n:=hr67.len
 refine ZB 9 kr rfl kr (Zag rfl rfl ZjZ rfl (Zax _ _ x.queue _ hi) ?_)
 rintro _ B68 _ hle68 ⟨l68,a68,c68,rfl,rfl,hv68⟩
 obtain ⟨hu,hf,hi,hr67⟩:=up4 hle68 hu hf hi hr67
 replace hv68:=hv68.mono Zz.mono Kn.less_le
 refine ⟨⟨(hle67.trans hle68),t1⟩,(ZaR 5 rfl hv68 Zz.mono om3 (fun B' hle'=>⟨(hle67.trans hle68).trans hle',t1⟩) (fun B69 hle69 hr69=>?_))⟩
 obtain ⟨hu,hf,hi,hr67⟩:=up4 hle69 hu hf hi hr67
 have hr69n:=hr69.len
 refine aT 10 rfl (ZR fun D B L hI=>Zas (parts:=[(0,_),(1,_),(2,_),(3,_)]) [_,_,_,_,_] [_,_,_,_,_] rfl rfl ZgI Zca rfl rfl rfl r4) (h:=Zar 12 kr rfl kr kr kr (ZL [_,_,_,_,_] 4 [_,_,_,_,_] rfl rfl ZcZ rfl rfl rfl rfl rfl rfl rfl rfl ?_))
 exact Zam ⟨⟨_,_,_,_,_⟩,⟨0,0,_,_,_,[]⟩⟩ [0,1,2,4] ⟨hr67,rfl,ZW.lit0,hr69⟩ t4 rfl
 refine (Zae (l:=[_,_,_,_,_]) rfl rfl Zca rfl (fun b70=>⟨⟨Kn.le.refl _,t1⟩,(ZB 2 kr rfl kr (ZO (parts:=[]) [] rfl rfl Tryz.underlying35 Zbr Zej rfl rfl rfl rfl rfl (fun b71=>?_)))⟩))
 refine ⟨⟨Kn.le.refl _,t1⟩,(ZB 5 kr rfl kr (Zcz (R:=Zp) 4 rfl (ZW.lit0 (R:=Zp)) rfl rfl rfl ZoY Zpa rfl rfl rfl hu.rows Zp.one rfl om (fun l72 p72 c72 hv72=>?_)))⟩
 refine ⟨⟨Kn.le.refl _,t1⟩,(ZaR 4 rfl hv72 Zp.mono om3 (fun B' hle'=>⟨hle',t1⟩) (fun B73 hle73 hr73=>?_))⟩
 obtain ⟨hu,hf,hi⟩:=up3 hle73 hu hf hi
 have hr73n:=hr73.len
 refine ZB 9 kr rfl kr (Zag rfl rfl ZjZ rfl (Zax _ _ x.queue _ hi) ?_)
 rintro _ B74 _ hle74 ⟨l74,a74,c74,rfl,rfl,hv74⟩
 obtain ⟨hu,hf,hi,hr73⟩:=up4 hle74 hu hf hi hr73
 replace hv74:=hv74.mono Zz.mono Kn.less_le
 refine ⟨⟨(hle73.trans hle74),t1⟩,(ZaR 5 rfl hv74 Zz.mono om3 (fun B' hle'=>⟨(hle73.trans hle74).trans hle',t1⟩) (fun B75 hle75 hr75=>?_))⟩
 obtain ⟨hu,hf,hi,hr73⟩:=up4 hle75 hu hf hi hr73
 have hr75n:=hr75.len
 refine aT 10 rfl (ZR fun D B L hI=>Zas (parts:=[(0,_),(1,_),(2,_),(3,_)]) [_,_,_,_,_] [_,_,_,_,_] rfl rfl ZgI Zca rfl rfl rfl r4) (h:=Zar 12 kr rfl kr kr kr (ZL [_,_,_,_,_] 3 [_,_,_,_,_] rfl rfl ZcZ rfl rfl rfl rfl rfl rfl rfl rfl ?_))
 exact Zam ⟨⟨_,_,_,_,_⟩,⟨0,0,_,_,_,[]⟩⟩ [0,1,2,3] ⟨hr73,rfl,ZW.lit0,hr75⟩ t4 rfl
 refine (Zae (l:=[_,_,_,_,_]) rfl rfl Zca rfl (fun b76=>⟨⟨Kn.le.refl _,t1⟩,(Zat [2,6] kr kr kr ⟨?_,?_⟩)⟩))
 refine (ZO (parts:=[]) [] rfl rfl Tryz.underlying35 Zbr Zej rfl rfl rfl rfl rfl (fun b77=>⟨⟨Kn.le.refl _,t1⟩,(Zat [5,6] kr kr kr ⟨?_,?_⟩)⟩))
 refine (Zcz (R:=Zp) 3 rfl (ZW.lit0 (R:=Zp)) rfl rfl rfl ZoY Zpa rfl rfl rfl hu.rows Zp.one rfl om (fun l78 p78 c78 hv78=>?_))
 refine ⟨⟨Kn.le.refl _,t1⟩,(ZaR 3 rfl hv78 Zp.mono om3 (fun B' hle'=>⟨hle',t1⟩) (fun B79 hle79 hr79=>?_))⟩
 obtain ⟨hu,hf,hi⟩:=up3 hle79 hu hf hi
 have hr79n:=hr79.len
 refine Zat [6,9] kr kr kr ⟨?_,?_⟩
 refine (ZO (parts:=[]) [] rfl rfl Tryz.underlying36 Zb1 Zgx rfl rfl rfl rfl rfl (fun b80=>⟨⟨hle79,t1⟩,(ZB 9 kr rfl kr (Zag rfl rfl ZjZ rfl (Zax _ _ x.queue _ hi) ?_))⟩))
 rintro _ B81 _ hle81 ⟨l81,a81,c81,rfl,rfl,hv81⟩
 obtain ⟨hu,hf,hi,hr79⟩:=up4 hle81 hu hf hi hr79
 replace hv81:=hv81.mono Zz.mono Kn.less_le
 refine ⟨⟨(hle79.trans hle81),t1⟩,(ZaR 5 rfl hv81 Zz.mono om3 (fun B' hle'=>⟨(hle79.trans hle81).trans hle',t1⟩) (fun B82 hle82 hr82=>?_))⟩
 obtain ⟨hu,hf,hi,hr79⟩:=up4 hle82 hu hf hi hr79
 have hr82n:=hr82.len
 refine aT 10 rfl (ZR fun D B L hI=>Zas (parts:=[(0,_),(1,_),(2,_),(3,_)]) [_,_,_,_,_] [_,_,_,_,_] rfl rfl ZgI Zca rfl rfl rfl r4) (h:=Zar 12 kr rfl kr kr kr (ZL [_,_,_,_,_] 2 [_,_,_,_,_] rfl rfl ZcZ rfl rfl rfl rfl rfl rfl rfl rfl ?_))
 exact Zam ⟨⟨_,_,_,_,_⟩,⟨0,0,_,_,_,[]⟩⟩ [0,1,4,2] ⟨hr79,rfl,ZW.lit0,hr82⟩ t4 rfl
 refine (Zag rfl rfl ZjZ rfl (Zax _ _ x.queue _ hi) ?_)
 rintro _ B83 _ hle83 ⟨l83,a83,c83,rfl,rfl,hv83⟩
 obtain ⟨hu,hf,hi,hr79⟩:=up4 hle83 hu hf hi hr79
 replace hv83:=hv83.mono Zz.mono Kn.less_le
 refine ⟨⟨(hle79.trans hle83),t1⟩,(ZaR 4 rfl hv83 Zz.mono om3 (fun B' hle'=>⟨(hle79.trans hle83).trans hle',t1⟩) (fun B84 hle84 hr84=>?_))⟩
 obtain ⟨hu,hf,hi,hr79⟩:=up4 hle84 hu hf hi hr79
 have hr84n:=hr84.len
 refine ZB 6 kr rfl kr (ZO (parts:=[]) [] rfl rfl Tryz.underlying36 Zb1 Zgx rfl rfl rfl rfl rfl (fun b85=>?_))
 refine ⟨⟨((hle79.trans hle83).trans hle84),t1⟩,(aT 10 rfl (ZR fun D B L hI=>Zas (parts:=[(0,_),(1,_),(2,_),(3,_)]) [_,_,_,_,_] [_,_,_,_,_] rfl rfl ZgI Zca rfl rfl rfl r4) (h:=Zar 12 kr rfl kr kr kr (ZL [_,_,_,_,_] 2 [_,_,_,_,_] rfl rfl ZcZ rfl rfl rfl rfl rfl rfl rfl rfl ?_)))⟩
 exact Zam ⟨⟨_,_,_,_,_⟩,⟨0,0,_,_,_,[]⟩⟩ [0,1,5,2] ⟨hr79,rfl,ZW.lit0,hr84⟩ t4 rfl
 refine (ZO (parts:=[]) [] rfl rfl Tryz.underlying36 Zb1 Zgx rfl rfl rfl rfl rfl (fun b86=>⟨⟨Kn.le.refl _,t1⟩,(ZB 5 kr rfl kr (Zcz (R:=Zp) 3 rfl (ZW.lit0 (R:=Zp)) rfl rfl rfl ZoY Zpa rfl rfl rfl hu.rows Zp.one rfl om (fun l87 p87 c87 hv87=>?_)))⟩))
 refine ⟨⟨Kn.le.refl _,t1⟩,(ZaR 3 rfl hv87 Zp.mono om3 (fun B' hle'=>⟨hle',t1⟩) (fun B88 hle88 hr88=>?_))⟩
 obtain ⟨hu,hf,hi⟩:=up3 hle88 hu hf hi
 have hr88n:=hr88.len
 refine ZB 9 kr rfl kr (Zag rfl rfl ZjZ rfl (Zax _ _ x.queue _ hi) ?_)
 rintro _ B89 _ hle89 ⟨l89,a89,c89,rfl,rfl,hv89⟩
 obtain ⟨hu,hf,hi,hr88⟩:=up4 hle89 hu hf hi hr88
 replace hv89:=hv89.mono Zz.mono Kn.less_le
 refine ⟨⟨(hle88.trans hle89),t1⟩,(ZaR 5 rfl hv89 Zz.mono om3 (fun B' hle'=>⟨(hle88.trans hle89).trans hle',t1⟩) (fun B90 hle90 hr90=>?_))⟩
 obtain ⟨hu,hf,hi,hr88⟩:=up4 hle90 hu hf hi hr88
 have hr90n:=hr90.len
 refine aT 10 rfl (ZR fun D B L hI=>Zas (parts:=[(0,_),(1,_),(2,_),(3,_)]) [_,_,_,_,_] [_,_,_,_,_] rfl rfl ZgI Zca rfl rfl rfl r4) (h:=Zar 12 kr rfl kr kr kr (ZL [_,_,_,_,_] 2 [_,_,_,_,_] rfl rfl ZcZ rfl rfl rfl rfl rfl rfl rfl rfl ?_))
 exact Zam ⟨⟨_,_,_,_,_⟩,⟨0,0,_,_,_,[]⟩⟩ [0,1,4,2] ⟨hr88,rfl,ZW.lit0,hr90⟩ t4 rfl
 refine (ZO (parts:=[]) [] rfl rfl Tryz.underlying36 Zb1 Zgx rfl rfl rfl rfl rfl (fun b91=>⟨⟨Kn.le.refl _,t1⟩,(ZB 2 kr rfl kr (ZO (parts:=[]) [] rfl rfl Tryz.underlying35 Zbr Zej rfl rfl rfl rfl rfl (fun b92=>?_)))⟩))
 refine ⟨⟨Kn.le.refl _,t1⟩,(ZB 5 kr rfl kr (Zcz (R:=Zp) 4 rfl (ZW.lit0 (R:=Zp)) rfl rfl rfl ZoY Zpa rfl rfl rfl hu.rows Zp.one rfl om (fun l93 p93 c93 hv93=>?_)))⟩
 refine ⟨⟨Kn.le.refl _,t1⟩,(ZaR 4 rfl hv93 Zp.mono om3 (fun B' hle'=>⟨hle',t1⟩) (fun B94 hle94 hr94=>?_))⟩
 obtain ⟨hf,hi⟩:=up2 hle94 hf hi
 have hr94n:=hr94.len
 refine ZB 9 kr rfl kr (Zag rfl rfl ZjZ rfl (Zax _ _ x.queue _ hi) ?_)
 rintro _ B95 _ hle95 ⟨l95,a95,c95,rfl,rfl,hv95⟩
 obtain ⟨hf,hr94⟩:=up2 hle95 hf hr94
 replace hv95:=hv95.mono Zz.mono Kn.less_le
 refine ⟨⟨(hle94.trans hle95),t1⟩,(ZaR 5 rfl hv95 Zz.mono om3 (fun B' hle'=>⟨(hle94.trans hle95).trans hle',t1⟩) (fun B96 hle96 hr96=>?_))⟩
 obtain ⟨hf,hr94⟩:=up2 hle96 hf hr94
 have hr96n:=hr96.len
 refine aT 10 rfl (ZR fun D B L hI=>Zas (parts:=[(0,_),(1,_),(2,_),(3,_)]) [_,_,_,_,_] [_,_,_,_,_] rfl rfl ZgI Zca rfl rfl rfl r4) (h:=Zar 12 kr rfl kr kr kr (ZL [_,_,_,_,_] 2 [_,_,_,_,_] rfl rfl ZcZ rfl rfl rfl rfl rfl rfl rfl rfl ?_))
 exact Zam ⟨⟨_,_,_,_,_⟩,⟨0,0,_,_,_,[]⟩⟩ [0,1,3,2] ⟨hr94,rfl,ZW.lit0,hr96⟩ t4 rfl
 obtain ⟨hou,hoe,hv0,hoi⟩:=hF
 replace hf:=up1 hle3 hf
 refine ZD [(0,_),(1,_),(2,_),(3,_)] [_,_,_,_] t4 rfl (Zc (Za (xA (h:=Zg (Zy (α:=Gh DFolder) [0,1,2,3] (fun g=>[(4,.int .i64 g.k)]) [2,3] (fun g=>[g.l,ZN o.1.b [str x.domain,.slice o.1.q1 x.users.length o.1.c1,.slice g.a g.xs.length g.c,.int .i64 x.queue.next,.slice o.1.q3 x.queue.items.length o.1.c3] 41]) (fun g Bx=>g.k≤x.folders.length∧g.xs=x.folders.take g.k∧ZW Bx g.l g.a g.c 87 5 Zm g.xs) (fun g=>x.folders.length - g.k) ⟨0,0,_,_,_,_⟩ t1 rfl (⟨Nat.zero_le _,by rw [hoe];rfl,hv0⟩) (fun g B97 hle97 hI=>?_))))))
 obtain ⟨hk,hxs,hv⟩:=hI
 have hxn:=congrArg List.length hxs
 rw [List.length_take] at hxn
 obtain ⟨hf,hou,hoi⟩:=up3 hle97 hf hou hoi
 refine ZD [(0,_),(1,_),(2,_),(3,_),(4,_)] [_,_,_,_] t5 rfl (Zc (Za (xM (h:=xW ZaA (h:=x1 ZeS 0 (h:=xV Tryz.underlying36 (h:=ZG (h:=Zb rfl (fun g1=>?_) (fun g1=>?_)))))))))
 try simp only [sQ,ne_eq] at g1
 refine wSk (Zc (Zg (Z3 (keeps _ [0,3] _) mo kr ⟨Kn.le.refl _,Za7.refl _ _⟩ (fun _ _=>?_))))
 refine aW 0 rfl ZaA (h:=aT 1 rfl (ZR fun D B L hI=>Zo rfl rfl ZeS rfl (atL 3 (hI.2.2.1.trans rfl) rfl rfl) r4) (h:=aW 2 rfl ZaA (h:=aT 3 rfl (ZR fun D B L hI=>Zo rfl rfl ZeS rfl (atL 0 (hI.2.1.trans rfl) rfl rfl) r4) (h:=aM 4 rfl (h:=?_)))))
 obtain ⟨w,hw⟩:=ZX (xs:=x.folders) (i:=g.k) om
 obtain ⟨bb99,oo99,rfl⟩:=hf.base hw
 obtain ⟨_,⟨qg100,cg100,qm100,cm100,rfl,hg100,hm100,hb100,hb100b⟩,hc100⟩:=hf.elem hw
 have hg100n:=hg100.len
 have hm100n:=hm100.len
 have hm100s:=Zap hm100
 refine aIx 5 rfl Tryz.underlying36 Zb1 (h:=aT 6 rfl (ZR fun D B L hI=>Z4 [_,_,_,_,_] rfl rfl Ziy rfl (Zke (hc100.mono hI.1) 0 rfl rfl) r4) (h:=ZB 7 kr rfl kr (Zag rfl rfl ZBE rfl (ZmC _ _ _ _ w _ hg100 hm100) ?_)))
 rintro _ B101 _ hle101 ⟨rfl,l101,a101,c101,l101b,a101b,c101b,rfl,rfl,hs101,hs101b⟩
 refine ⟨⟨Kn.le.refl _,t2⟩,(ZaR 4 rfl hs101 Zac.mono om3 (fun B' hle'=>⟨hle',t2⟩) (fun B102 hle102 hr102=>?_))⟩
 replace hv:=hv.mono Zm.mono hle102
 replace hou:=hou.mono Zp.mono hle102
 replace hoi:=hoi.mono Zz.mono hle102
 replace hs101b:=hs101b.mono Zab.mono hle102
 have hr102n:=hr102.len
 refine ZaR 5 rfl hs101b Zab.mono (by first | omega | decide | (simp;done) | (simp;omega)) (fun B' hle'=>⟨hle102.trans hle',⟨rfl,rfl,trivial⟩⟩) (fun B103 hle103 hr103=>?_)
 replace hr102:=up1 hle103 hr102
 replace hv:=hv.mono Zm.mono hle103
 obtain ⟨hou,hoi⟩:=up2 hle103 hou hoi
 have hr103n:=hr103.len
 refine ZB 8 kr rfl kr (ZO (parts:=[(0,_)]) [_,_,_,_,_] rfl rfl Tryz.underlying36 Zb1 Zgx rfl rfl rfl rfl rfl (fun b104=>?_))
 refine ⟨⟨(hle102.trans hle103),t2⟩,(ZB 9 kr rfl kr (ZiK (z:=⟨w.owner,w.name,w.grants,w.next,w.mail⟩) (R:=Zm) 2 rfl hv rfl rfl rfl Zx6 ZAQ rfl rfl (Zc4.box 6 rfl) rfl rfl (⟨_,_,_,_,rfl,hr102,hr103,by first | assumption | omega | (simp;done) | (simp;omega),by first | assumption | omega | (simp;done) | (simp;omega)⟩) om (fun l105 p105 c105 hv105=>?_)))⟩
 refine ⟨⟨(hle102.trans hle103),t2⟩,(aW 10 rfl ZaA (h:=Zar 11 kr rfl kr kr kr (ZL [_] 3 [_,_,_,_,_] rfl rfl ZAM rfl rfl rfl rfl rfl rfl rfl rfl ?_)))⟩
 refine ZK (Zn (Ze (xM (h:=xD (h:=xA (h:=?_))))))
 exact ZC ⟨g.k+1,0,l105,p105,c105,(g.xs ++ [⟨w.owner,w.name,w.grants,w.next,w.mail⟩])⟩ [0,1,2,3] so2 ⟨so,by simp only [];rw [Zbs hw,hxs],hv105⟩ t5 rfl
 try simp only [sQ,ne_eq] at g1
 have hxe:g.xs=x.folders:=by rw [hxs];exact List.take_of_length_le oz
 refine ZE (ZT (ZH (Zv (Zn (Za (xL [_,_,_,_,_] ZcK 3 (h:=xS [_,_,_,_,_] 1 [_,_,_,_,_] ZcZ (h:=tL4 (Zd ?_)))))))))
 exact ZdI .ret (.inl rfl) [_] [2] rfl ⟨⟨_,rfl,.inr ⟨[_,_,_,_,_],ZcK,Zbu 1 rfl rfl rfl,rfl⟩⟩,trivial⟩ ⟨_,_,_,_,_,_,_,rfl,by rw [← hxe];rfl,hou,hxe ▸ hv,hoi⟩

theorem ZoF (fl how ot:Int) (h1:0≤fl∧fl≤31) (h2:0≤ot∧ot≤31) (B:Kn):Z8 (pj J) 84 [.int .i64 fl,.int .i64 how,.int .i64 ot] B (.int .i64 (chg fl how ot)):=by
 refine cB 60 Tryz.func84 (h:=?_)
 refine Za (xA (h:=Za (xA (h:=Zc (Za (xA (h:=Zg (Zy (α:=Nat × Int) [0,1,2,6] (fun g=>[(7,.int .i64 g.2),(8,.int .i64 g.1)]) [] (fun g=>[]) (fun g Bx=>Bx=B∧g.1≤5∧g.2=Zio fl how ot g.1) (fun g=>5 - g.1) (0,0) t2 rfl (⟨rfl,oz,rfl⟩) (fun g B1 hle1 hI=>?_)))))))))
 obtain ⟨rfl,hk,hs⟩:=hI
 have hbd:=ZnW fl how ot g.1 hk
 refine ZD [(0,_),(1,_),(2,_),(6,_),(7,_),(8,_)] [] t6 rfl (Zc (Za (xM (h:=ZG (h:=Zb rfl (fun g1=>?_) (fun g1=>?_))))))
 try simp only [sQ,ne_eq] at g1
 have hp:=Zj7 (k:=g.1) oz
 have hb1 : -2<Int.tmod (Int.tdiv fl (Zbd g.1)) 2∧Int.tmod (Int.tdiv fl (Zbd g.1)) 2<2:=⟨Int.lt_tmod_of_pos _ (by decide),Int.tmod_lt_of_pos _ (by decide)⟩
 have hb2 : -2<Int.tmod (Int.tdiv ot (Zbd g.1)) 2∧Int.tmod (Int.tdiv ot (Zbd g.1)) 2<2:=⟨Int.lt_tmod_of_pos _ (by decide),Int.tmod_lt_of_pos _ (by decide)⟩
 refine wSk (Zc (Zg (Za (xM (h:=xM (h:=xR Zv1 rfl (ZmB g.1 om2 _) (h:=?_)))))))
 refine Zj (ZlU (a:=fl) (b:=(Zbd g.1)) (r:=Int.tdiv fl (Zbd g.1)) rfl rfl rfl rfl oz (ZkK oz oz oz) ?_)
 refine Zj (Zn4 (a:=(Int.tdiv fl (Zbd g.1))) (b:=2) (r:=Int.tmod (Int.tdiv fl (Zbd g.1)) 2) rfl rfl rfl rfl (by decide) rfl ?_)
 refine xA (h:=Za (xM (h:=xM (h:=xR Zv1 rfl (ZmB g.1 om2 _) (h:=?_)))))
 refine Zj (ZlU (a:=ot) (b:=(Zbd g.1)) (r:=Int.tdiv ot (Zbd g.1)) rfl rfl rfl rfl oz (ZkK oz oz oz) ?_)
 refine Zj (Zn4 (a:=(Int.tdiv ot (Zbd g.1))) (b:=2) (r:=Int.tmod (Int.tdiv ot (Zbd g.1)) 2) rfl rfl rfl rfl (by decide) rfl ?_)
 refine xA (h:=ZiI 11 (Zfa fl how ot g.1) [0,1,2,6,7,8,9,10,13] ?_ ?_)
 refine xM (h:=ZaH (h:=xM (h:=Zs (d:=28) rfl (fun g1=>?_) (fun g1=>?_))))
 try simp only [sQ,ne_eq] at g1
 refine xM (h:=xM (h:=xD (h:=Zek (h:=xT (h:=xM (h:=Zs (d:=34) rfl (fun g2=>?_) (fun g2=>?_)))))))
 try simp only [sQ,ne_eq] at g2
 refine xP (h:=xP (h:=xP (h:=xP (h:=xP (h:=xP (h:=xP (h:=xP (h:=xP (h:=xP (h:=xT (h:=xM (h:=xP (h:=xP (h:=xP (h:=xP (h:=xP (h:=xP (h:=xT (h:=xA (h:=?_))))))))))))))))))))
 exact ⟨rfl,rfl,rfl,Zdb rfl (by rw [Bool.eq_iff_iff];simp only [Zfa,decide_eq_true_eq,Bool.or_eq_true,Bool.and_eq_true,Bool.false_eq_true,true_iff,false_iff];simp only [Zjg];omega),t9⟩
 try simp only [sQ,ne_eq] at g2
 refine xM (h:=ZaH (h:=xM (h:=Zs (d:=37) rfl (fun g3=>?_) (fun g3=>?_))))
 try simp only [sQ,ne_eq] at g3
 refine xM (h:=ZaH (h:=xT (h:=xM (h:=Zs (d:=41) rfl (fun g4=>?_) (fun g4=>?_)))))
 try simp only [sQ,ne_eq] at g4
 refine xM (h:=ZaH (h:=xT (h:=xF (h:=xM (h:=Zs (d:=46) rfl (fun g5=>?_) (fun g5=>?_))))))
 try simp only [sQ,ne_eq] at g5
 refine xP (h:=xP (h:=xP (h:=xP (h:=xP (h:=xP (h:=xT (h:=xA (h:=?_))))))))
 exact ⟨rfl,rfl,rfl,Zdb rfl (by rw [Bool.eq_iff_iff];simp only [Zfa,decide_eq_true_eq,Bool.or_eq_true,Bool.and_eq_true,Bool.false_eq_true,true_iff,false_iff];simp only [Zjg];omega),t9⟩
 try simp only [sQ,ne_eq] at g5
 refine xM (h:=ZaH (h:=xM (h:=Zs (d:=49) rfl (fun g6=>?_) (fun g6=>?_))))
 try simp only [sQ,ne_eq] at g6
 refine xM (h:=ZaH (h:=xT (h:=xF (h:=xA (h:=?_)))))
 exact ⟨rfl,rfl,rfl,Zdb rfl (by rw [Bool.eq_iff_iff];simp only [Zfa,decide_eq_true_eq,Bool.or_eq_true,Bool.and_eq_true,Bool.false_eq_true,true_iff,false_iff];simp only [Zjg];omega),t9⟩
 try simp only [sQ,ne_eq] at g6
 refine xP (h:=xP (h:=xF (h:=xF (h:=xA (h:=?_)))))
 exact ⟨rfl,rfl,rfl,Zdb rfl (by rw [Bool.eq_iff_iff];simp only [Zfa,decide_eq_true_eq,Bool.or_eq_true,Bool.and_eq_true,Bool.false_eq_true,true_iff,false_iff];simp only [Zjg];omega),t9⟩
 try simp only [sQ,ne_eq] at g4
 refine xP (h:=xP (h:=xF (h:=xF (h:=xM (h:=xM (h:=ZaH (h:=xM (h:=Zs (d:=49) rfl (fun g7=>?_) (fun g7=>?_)))))))))
 try simp only [sQ,ne_eq] at g7
 refine xM (h:=ZaH (h:=xT (h:=xF (h:=xA (h:=?_)))))
 exact ⟨rfl,rfl,rfl,Zdb rfl (by rw [Bool.eq_iff_iff];simp only [Zfa,decide_eq_true_eq,Bool.or_eq_true,Bool.and_eq_true,Bool.false_eq_true,true_iff,false_iff];simp only [Zjg];omega),t9⟩
 try simp only [sQ,ne_eq] at g7
 refine xP (h:=xP (h:=xF (h:=xF (h:=xA (h:=?_)))))
 exact ⟨rfl,rfl,rfl,Zdb rfl (by rw [Bool.eq_iff_iff];simp only [Zfa,decide_eq_true_eq,Bool.or_eq_true,Bool.and_eq_true,Bool.false_eq_true,true_iff,false_iff];simp only [Zjg];omega),t9⟩
 try simp only [sQ,ne_eq] at g3
 refine xP (h:=xP (h:=xF (h:=xM (h:=xP (h:=xP (h:=xF (h:=xF (h:=xM (h:=xM (h:=ZaH (h:=xM (h:=Zs (d:=49) rfl (fun g8=>?_) (fun g8=>?_)))))))))))))
 try simp only [sQ,ne_eq] at g8
 refine xM (h:=ZaH (h:=xT (h:=xF (h:=xA (h:=?_)))))
 exact ⟨rfl,rfl,rfl,Zdb rfl (by rw [Bool.eq_iff_iff];simp only [Zfa,decide_eq_true_eq,Bool.or_eq_true,Bool.and_eq_true,Bool.false_eq_true,true_iff,false_iff];simp only [Zjg];omega),t9⟩
 try simp only [sQ,ne_eq] at g8
 refine xP (h:=xP (h:=xF (h:=xF (h:=xA (h:=?_)))))
 exact ⟨rfl,rfl,rfl,Zdb rfl (by rw [Bool.eq_iff_iff];simp only [Zfa,decide_eq_true_eq,Bool.or_eq_true,Bool.and_eq_true,Bool.false_eq_true,true_iff,false_iff];simp only [Zjg];omega),t9⟩
 try simp only [sQ,ne_eq] at g1
 refine xP (h:=xP (h:=xP (h:=xP (h:=xF (h:=xM (h:=xM (h:=ZaH (h:=xM (h:=Zs (d:=37) rfl (fun g9=>?_) (fun g9=>?_))))))))))
 try simp only [sQ,ne_eq] at g9
 refine xM (h:=ZaH (h:=xT (h:=xM (h:=Zs (d:=41) rfl (fun g10=>?_) (fun g10=>?_)))))
 try simp only [sQ,ne_eq] at g10
 refine xM (h:=ZaH (h:=xT (h:=xF (h:=xM (h:=Zs (d:=46) rfl (fun g11=>?_) (fun g11=>?_))))))
 try simp only [sQ,ne_eq] at g11
 refine xP (h:=xP (h:=xP (h:=xP (h:=xP (h:=xP (h:=xT (h:=xA (h:=?_))))))))
 exact ⟨rfl,rfl,rfl,Zdb rfl (by rw [Bool.eq_iff_iff];simp only [Zfa,decide_eq_true_eq,Bool.or_eq_true,Bool.and_eq_true,Bool.false_eq_true,true_iff,false_iff];simp only [Zjg];omega),t9⟩
 try simp only [sQ,ne_eq] at g11
 refine xM (h:=ZaH (h:=xM (h:=Zs (d:=49) rfl (fun g12=>?_) (fun g12=>?_))))
 try simp only [sQ,ne_eq] at g12
 refine xM (h:=ZaH (h:=xT (h:=xF (h:=xA (h:=?_)))))
 exact ⟨rfl,rfl,rfl,Zdb rfl (by rw [Bool.eq_iff_iff];simp only [Zfa,decide_eq_true_eq,Bool.or_eq_true,Bool.and_eq_true,Bool.false_eq_true,true_iff,false_iff];simp only [Zjg];omega),t9⟩
 try simp only [sQ,ne_eq] at g12
 refine xP (h:=xP (h:=xF (h:=xF (h:=xA (h:=?_)))))
 exact ⟨rfl,rfl,rfl,Zdb rfl (by rw [Bool.eq_iff_iff];simp only [Zfa,decide_eq_true_eq,Bool.or_eq_true,Bool.and_eq_true,Bool.false_eq_true,true_iff,false_iff];simp only [Zjg];omega),t9⟩
 try simp only [sQ,ne_eq] at g10
 refine xP (h:=xP (h:=xF (h:=xF (h:=xM (h:=xM (h:=ZaH (h:=xM (h:=Zs (d:=49) rfl (fun g13=>?_) (fun g13=>?_)))))))))
 try simp only [sQ,ne_eq] at g13
 refine xM (h:=ZaH (h:=xT (h:=xF (h:=xA (h:=?_)))))
 exact ⟨rfl,rfl,rfl,Zdb rfl (by rw [Bool.eq_iff_iff];simp only [Zfa,decide_eq_true_eq,Bool.or_eq_true,Bool.and_eq_true,Bool.false_eq_true,true_iff,false_iff];simp only [Zjg];omega),t9⟩
 try simp only [sQ,ne_eq] at g13
 refine xP (h:=xP (h:=xF (h:=xF (h:=xA (h:=?_)))))
 exact ⟨rfl,rfl,rfl,Zdb rfl (by rw [Bool.eq_iff_iff];simp only [Zfa,decide_eq_true_eq,Bool.or_eq_true,Bool.and_eq_true,Bool.false_eq_true,true_iff,false_iff];simp only [Zjg];omega),t9⟩
 try simp only [sQ,ne_eq] at g9
 refine xP (h:=xP (h:=xF (h:=xM (h:=xP (h:=xP (h:=xF (h:=xF (h:=xM (h:=xM (h:=ZaH (h:=xM (h:=Zs (d:=49) rfl (fun g14=>?_) (fun g14=>?_)))))))))))))
 try simp only [sQ,ne_eq] at g14
 refine xM (h:=ZaH (h:=xT (h:=xF (h:=xA (h:=?_)))))
 exact ⟨rfl,rfl,rfl,Zdb rfl (by rw [Bool.eq_iff_iff];simp only [Zfa,decide_eq_true_eq,Bool.or_eq_true,Bool.and_eq_true,Bool.false_eq_true,true_iff,false_iff];simp only [Zjg];omega),t9⟩
 try simp only [sQ,ne_eq] at g14
 refine xP (h:=xP (h:=xF (h:=xF (h:=xA (h:=?_)))))
 exact ⟨rfl,rfl,rfl,Zdb rfl (by rw [Bool.eq_iff_iff];simp only [Zfa,decide_eq_true_eq,Bool.or_eq_true,Bool.and_eq_true,Bool.false_eq_true,true_iff,false_iff];simp only [Zjg];omega),t9⟩
 refine Za (xM (h:=Zb rfl (fun g2=>?_) (fun g2=>?_)))
 try simp only [sQ,ne_eq] at g2
 refine Ze (xM (h:=xM (h:=xR Zv1 rfl (ZmB g.1 om2 _) (h:=?_))))
 refine xD (h:=xA (h:=ZK (Zn (Ze (xM (h:=xD (h:=xA (h:=?_))))))))
 exact ZC (g.1+1,g.2+Zbd g.1) [] so2 ⟨rfl,so,by simp only [Zio];rw [if_pos g2,hs]⟩ t6 rfl
 try simp only [sQ,ne_eq] at g2
 refine ZS (ZK (Zn (Ze (xM (h:=xD (h:=xA (h:=?_)))))))
 exact ZC (g.1+1,g.2) [] so2 ⟨rfl,so,by simp only [Zio];rw [if_neg (by simp [g2]),hs]⟩ t6 rfl
 try simp only [sQ,ne_eq] at g1
 refine ZE (ZT (ZH (Zv (Zn (Za (xM (h:=xA (h:=Zd ?_))))))))
 exact eR t1 ⟨ZF (by rw [hs,show g.1=5 from by omega];rfl),rfl,rfl⟩

theorem Zld (q:Option Addr) (cp:Nat) (x:DBox) (q2:Option Addr) (cp2:Nat) (xs:List Int)  (B:Kn) (hx:SlK B q cp 3 Zab x.mail) (hn:SlK B q2 cp2 1 ZbU xs):Z8 (pj J) 82 [.agg #[.int .i64 x.next,.slice q x.mail.length cp],.slice q2 xs.length cp2] B (.bool (Zc7 x.mail.length xs)):=by
 refine cB 37 Tryz.func82 (h:=?_)
 have hxn:=hx.len
 have hnn:=hn.len
 refine Za (xBx [_,_] (h:=fun b1=>xA (h:=tL1 (Zc (Za (xA (h:=Zg (Zy (α:=Nat × Int) [0,1,2] (fun g=>[(5,.int .i64 g.1)]) [] (fun g=>[]) (fun g Bx=>Bx=B∧g.1≤xs.length∧ZbD x.mail.length (xs.take g.1)=(true,g.2)∧Prev (fun y=>y) 0 xs g.1 g.2) (fun g=>xs.length - g.1) (0,0) t1 rfl (⟨rfl,Nat.zero_le _,ZdV,.zero⟩) (fun g B2 hle2 hI=>?_)))))))))
 obtain ⟨rfl,hk,hs,hp⟩:=hI
 refine ZD [(0,_),(1,_),(2,_),(5,_)] [_] t4 rfl (Zc (Za (xM (h:=xM (h:=xV Tryz.underlying58 (h:=ZG (h:=Zb rfl (fun g1=>?_) (fun g1=>?_))))))))
 try simp only [sQ,ne_eq] at g1
 refine wSk (Zc (Zg (Zc (Z3 (same _ _) mo kr ⟨rfl,rfl⟩ (fun _ _=>?_)))))
 refine aM 0 rfl (h:=aM 1 rfl (h:=?_))
 obtain ⟨m,hm⟩:=ZX (xs:=xs) (i:=g.1) om
 obtain ⟨bb4,oo4,rfl⟩:=hn.base hm
 obtain ⟨_,rfl,hc5⟩:=hn.elem hm
 refine aIx 2 rfl Tryz.underlying58 sz3 (h:=aT 3 rfl (Zaf fun D=>Zo rfl rfl lk3 rfl (hc5 _ 0 _ rfl) r4) (h:=aW 4 rfl Zbj (h:=aT 5 rfl (Zaf fun D=>Zo rfl rfl ZhZ rfl (atL 0 rfl rfl rfl) r4) (h:=aV 6 rfl Tryz.underlying80 (h:=aT 7 rfl (Zaf fun D=>Z9 rfl rfl Zj0 rfl (Zcr _ _ _ _) r4) (h:=aN 8 rfl (h:=aM 9 rfl (h:=ZaF (d:=21) rfl (fun g2=>?_) (fun g2=>?_)))))))))
 try simp only [sQ,ne_eq] at g2
 refine aZ 10 rfl (h:=aZ 11 rfl (h:=aZ 12 rfl (h:=aZ 13 rfl (h:=aZ 14 rfl (h:=aZ 15 rfl (h:=aZ 16 rfl (h:=aZ 17 rfl (h:=aZ 18 rfl (h:=aZ 19 rfl (h:=aZ 20 rfl (h:=aZ 21 rfl (h:=aZ 22 rfl (h:=aZ 23 rfl (h:=aPT 24 rfl (h:=Zu kr kr ?_)))))))))))))))
 refine Zn (Zb (t:=true) rfl (fun _=>Za (xA (h:=Zd (ZA (Zl (ZM (ZA (Zl ?_)))))))) (fun h=>Bool.noConfusion h))
 exact eR t1 ⟨Zf (Zd5 hm hs (by simp [Zgo,g2];try omega)).symm,rfl,rfl⟩
 try simp only [sQ,ne_eq] at g2
 refine aM 10 rfl (h:=Zo8 11 rfl (h:=aM 12 rfl (h:=ZaF (d:=24) rfl (fun g6=>?_) (fun g6=>?_))))
 try simp only [sQ,ne_eq] at g6
 refine aM 13 rfl (h:=aM 14 rfl (h:=aU 15 rfl (h:=?_)))
 obtain ⟨y,hy⟩:=Ztu (xs:=xs) (i:=(↑g.1 - 1)) om om
 obtain ⟨_,rfl,hc8⟩:=hn.elem hy
 refine aIx 16 rfl Tryz.underlying58 sz3 (h:=?_)
 have hpe:=hp.at hy oz
 refine aT 17 rfl (Zaf fun D=>Zo rfl rfl lk3 rfl (hc8 _ 0 _ rfl) r4) (h:=aM 18 rfl (h:=aM 19 rfl (h:=aIx 20 rfl Tryz.underlying58 sz3 (h:=aT 21 rfl (Zaf fun D=>Zo rfl rfl lk3 rfl (hc5 _ 0 _ rfl) r4) (h:=Zx0 22 rfl (h:=aPT 23 rfl (h:=aPF 24 rfl (h:=Zu kr kr ?_))))))))
 refine Zn (Zb rfl (fun g7=>?_) (fun g7=>?_))
 try simp only [sQ,ne_eq] at g7
 refine Za (xA (h:=Zd (ZA (Zl (ZM (ZA (Zl ?_)))))))
 exact eR t1 ⟨Zf (Zd5 hm hs (by simp [Zgo,g2,hpe];try omega)).symm,rfl,rfl⟩
 try simp only [sQ,ne_eq] at g7
 refine ZS (ZK (Zn (Ze (xM (h:=xD (h:=xA (h:=?_)))))))
 exact ZC (g.1+1,m) [0] so2 ⟨rfl,oz,Zbp hm hs (by rw [hpe];simp [Zgo,g2];simp at g2;omega),.succ hm⟩ t4 rfl
 try simp only [sQ,ne_eq] at g6
 refine aZ 13 rfl (h:=aZ 14 rfl (h:=aZ 15 rfl (h:=aZ 16 rfl (h:=aZ 17 rfl (h:=aZ 18 rfl (h:=aZ 19 rfl (h:=aZ 20 rfl (h:=aZ 21 rfl (h:=aZ 22 rfl (h:=aPF 23 rfl (h:=aPF 24 rfl (h:=Zu kr kr ?_))))))))))))
 refine Zn (Zb (t:=false) rfl (fun h=>Bool.noConfusion h) (fun _=>ZS (ZK (Zn (Ze (xM (h:=xD (h:=xA (h:=?_)))))))))
 exact ZC (g.1+1,m) [0] so2 ⟨rfl,oz,Zbp hm hs (by rw [hp.at0 oz];simp [Zgo,g2];simp at g2;omega),.succ hm⟩ t4 rfl
 try simp only [sQ,ne_eq] at g1
 refine ZE (ZT (ZH (Zv (Zn (Za (xA (h:=Zd ?_)))))))
 exact eR t1 ⟨Zf (ZiU (Zds hs oz)).symm,rfl,rfl⟩

theorem ZfQ (q:Option Addr) (cp:Nat) (x:DBox) (q2:Option Addr) (cp2:Nat) (xs:List Int) (how fl:Int) (B:Kn) (hx:SlK B q cp 3 Zab x.mail) (hn:SlK B q2 cp2 1 ZbU xs):Zw (pj J) 36 [.agg #[.int .i64 x.next,.slice q x.mail.length cp],.slice q2 xs.length cp2,.int .i64 how,.int .i64 fl] B [] (fun v B' Ls=>Ls=[]∧∃a c,v = .tuple #[.agg #[.int .i64 (ZP x xs how fl).1.next,.slice a (ZP x xs how fl).1.mail.length c],.bool (ZP x xs how fl).2]∧SlK B' a c 3 Zab (ZP x xs how fl).1.mail):=by
 refine cB 61 Tryz.func36 (h:=?_)
 have hxn:=hx.len
 have hnn:=hn.len
 refine Za (xBx [_,_] (h:=fun b1=>xAl [_,_] Zix (h:=fun b2=>xA (h:=tL2 (Zc (Za (xL [_,_] ZeQ 0 (h:=xR ZA2 rfl (ZkF _ _ (⟨x.next,x.mail⟩:DBox) _ hx) (h:=xN (h:=xM (h:=Zs (d:=16) rfl (fun g1=>?_) (fun g1=>?_))))))))))))
 try simp only [sQ,ne_eq] at g1
 rw [Zb9 (by simp [g1])]
 refine xP (h:=xP (h:=xP (h:=xP (h:=xT (h:=xM (h:=xP (h:=xP (h:=xP (h:=xT (h:=xM (h:=xP (h:=xP (h:=xP (h:=xT (h:=Zb (t:=true) rfl (fun _=>Za (xB [] [_,_] [_,_] ZsL Zix (h:=xS [_,_] 1 [_,_] Zgy (h:=xA (h:=tL2 (Zd (Zl ?_))))))) (fun h=>Bool.noConfusion h))))))))))))))))
 exact ZdI .ret (.inl rfl) [_,_] [] rfl ⟨⟨_,rfl,.inr ⟨[_,_],ZeQ,Zbu 1 rfl rfl rfl,rfl⟩⟩,rfl,trivial⟩ ⟨rfl,none,0,rfl,SlK.nil⟩
 try simp only [sQ,ne_eq] at g1
 refine xL [_,_] ZeQ 0 (h:=xM (h:=xR ZBD rfl (Zld _ _ (⟨x.next,x.mail⟩:DBox) _ _ xs _ hx hn) (h:=xN (h:=xF (h:=xM (h:=Zs (d:=22) rfl (fun g2=>?_) (fun g2=>?_)))))))
 try simp only [sQ,ne_eq] at g2
 rw [Zb9 (by simp [g2])]
 refine xP (h:=xP (h:=xP (h:=xT (h:=xM (h:=xP (h:=xP (h:=xP (h:=xT (h:=Zb (t:=true) rfl (fun _=>Za (xB [] [_,_] [_,_] ZsL Zix (h:=xS [_,_] 1 [_,_] Zgy (h:=xA (h:=tL2 (Zd (Zl ?_))))))) (fun h=>Bool.noConfusion h))))))))))
 exact ZdI .ret (.inl rfl) [_,_] [] rfl ⟨⟨_,rfl,.inr ⟨[_,_],ZeQ,Zbu 1 rfl rfl rfl,rfl⟩⟩,rfl,trivial⟩ ⟨rfl,none,0,rfl,SlK.nil⟩
 try simp only [sQ,ne_eq] at g2
 refine xM (h:=xR Zj0 rfl (Zcr _ _ _ _) (h:=xN (h:=xF (h:=xM (h:=Zs (d:=27) rfl (fun g3=>?_) (fun g3=>?_))))))
 try simp only [sQ,ne_eq] at g3
 rw [Zb9 (by simp only [ZcX,g3];simp)]
 refine xP (h:=xP (h:=xP (h:=xT (h:=Zb (t:=true) rfl (fun _=>Za (xB [] [_,_] [_,_] ZsL Zix (h:=xS [_,_] 1 [_,_] Zgy (h:=xA (h:=tL2 (Zd (Zl ?_))))))) (fun h=>Bool.noConfusion h)))))
 exact ZdI .ret (.inl rfl) [_,_] [] rfl ⟨⟨_,rfl,.inr ⟨[_,_],ZeQ,Zbu 1 rfl rfl rfl,rfl⟩⟩,rfl,trivial⟩ ⟨rfl,none,0,rfl,SlK.nil⟩
 try simp only [sQ,ne_eq] at g3
 refine xM (h:=xR Zzb rfl (Zh0 _ _) (h:=xN (h:=xF (h:=Zb rfl (fun g4=>?_) (fun g4=>?_)))))
 try simp only [sQ,ne_eq] at g4
 rw [Zb9 (by simp only [ZU,g4];simp)]
 refine Za (xB [] [_,_] [_,_] ZsL Zix (h:=xS [_,_] 1 [_,_] Zgy (h:=xA (h:=tL2 (Zd (Zl ?_))))))
 exact ZdI .ret (.inl rfl) [_,_] [] rfl ⟨⟨_,rfl,.inr ⟨[_,_],ZeQ,Zbu 1 rfl rfl rfl,rfl⟩⟩,rfl,trivial⟩ ⟨rfl,none,0,rfl,SlK.nil⟩
 try simp only [sQ,ne_eq] at g4
 have hok:Zcj x=true:=by simpa using g1
 have hno:Zc7 x.mail.length xs=true:=by simpa using g2
 have hfo:ZU fl=true:=by simpa only [ZU,Bool.not_eq_false] using g4
 have hall:=Zfc (how:=how) (fl:=fl) ⟨hok,hno,by simpa only [ZcX,Bool.not_eq_false] using g3,hfo⟩
 have hfl:0≤fl∧fl≤31:=by simpa [ZU] using hfo
 refine wSk (Za (xL [_,_] ZeQ 0 (h:=xC ZA1 rfl (Zle _ _ (⟨x.next,x.mail⟩:DBox) _ hx) (h:=?_))))
 rintro _ B7 _ hle7 ⟨hB7,l7,a7,c7,rfl,rfl,hs7⟩
 have hB7:=hB7.symm
 subst hB7
 refine xAl [_,_] Zix (h:=fun b8=>xS [_,_] 3 [_,_] Zgy (h:=tL4 (Zc (Za (xA (h:=Zg (Zy (α:=Nat × Cells × List DMail) [0,1,2,3,4,8,9,10,31] (fun g=>[(11,.int .i64 g.1)]) [2,3] (fun g=>[g.2.1,ZN b8 [.int .i64 x.next,.slice a7 x.mail.length c7] 82]) (fun g Bx=>Bx=B∧g.1≤xs.length∧g.2.2=Zbo x.mail how fl (xs.take g.1)∧Like x.mail g.2.2∧ZW Bx g.2.1 a7 c7 146 3 Zab g.2.2) (fun g=>xs.length - g.1) (0,_,x.mail) t1 rfl (⟨rfl,Nat.zero_le _,rfl,Like.refl _,hs7⟩) (fun g B9 hle9 hI=>?_))))))))
 obtain ⟨rfl,hk,hs,hlk,hv⟩:=hI
 have hll:=hlk.1
 refine ZD [(0,_),(1,_),(2,_),(3,_),(4,_),(8,_),(9,_),(10,_),(11,_),(31,_)] [_,_,_,_] t10 rfl (Zc (Za (xM (h:=xM (h:=xV Tryz.underlying58 (h:=ZG (h:=Zb rfl (fun g5=>?_) (fun g5=>?_))))))))
 try simp only [sQ,ne_eq] at g5
 refine wSk (Zc (Zg (Za (xM (h:=xM (h:=?_))))))
 obtain ⟨y,hy⟩:=ZX (xs:=xs) (i:=g.1) om
 obtain ⟨bb11,oo11,rfl⟩:=hn.base hy
 obtain ⟨_,rfl,hc12⟩:=hn.elem hy
 refine xIx Tryz.underlying58 sz3 (h:=?_)
 have hyb:=Zow hno y (List.mem_of_getElem? hy)
 have hyl:(y - 1).toNat<x.mail.length:=by omega
 refine y1 lk3 hc12 0 (h:=xU (h:=xA (h:=Z3 (keeps _ [0,2,3] _) mo kr ⟨Kn.le.refl _,Za7.refl _ _⟩ (fun _ _=>?_))))
 refine aW 0 rfl Zbj (h:=aT 1 rfl (ZR fun D B L hI=>Zo rfl rfl ZhZ rfl (atL 3 (hI.2.2.2.1.trans rfl) rfl rfl) r4) (h:=aM 2 rfl (h:=aW 3 rfl Zbj (h:=aT 4 rfl (ZR fun D B L hI=>Zo rfl rfl ZhZ rfl (atL 0 (hI.2.1.trans rfl) rfl rfl) r4) (h:=aM 5 rfl (h:=?_))))))
 obtain ⟨m,hm⟩:=Ztu (xs:=x.mail) (i:=(y - 1)) om om
 obtain ⟨bb14,oo14,rfl⟩:=hx.base hm
 obtain ⟨_,⟨rfl,hb15⟩,hc15⟩:=hx.elem hm
 refine aIx 6 rfl Tryz.underlying80 ZcT (h:=?_)
 have hmf:=Zm6 hok (List.mem_of_getElem? hm)
 refine aW 7 rfl Zdy (h:=aT 8 rfl (ZR fun D B L hI=>Zo rfl rfl lk3 rfl ((hc15.mono hI.1) _ 1 _ rfl) r4) (h:=aM 9 rfl (h:=aM 10 rfl (h:=aT 11 rfl (ZR fun D B L hI=>Z9 rfl rfl ZBC rfl (ZoF m.flags how fl (oy) (oy) _) r4) (h:=?_)))))
 obtain ⟨z,hz⟩:=Ztu (xs:=g.2.2) (i:=(y - 1)) om om
 obtain ⟨bb18,_,hp18,⟨rfl,hb18⟩,hw18,hc18⟩:=hv.row hz
 refine aT 12 rfl (ZR fun D B L hI=>Zkm hp18 rfl rfl Tryz.underlying80 ZcT rfl rfl om om r4) (h:=?_)
 refine aW 13 rfl Zdy (h:=Zar 14 kr rfl kr kr kr (ZeT (k:=((y - 1)).toNat) (off:=1) (⟨z.uid,chg m.flags how fl,z.text⟩) [_] 2 hv hp18 hz rfl rfl sz3 rfl rfl rfl rfl rfl rfl (by rintro _ ⟨rfl,e1⟩;exact ⟨rfl,e1⟩) (fun l19 hv19=>?_)))
 refine ZK (Zn (Ze (xM (h:=xD (h:=xA (h:=?_))))))
 exact ZC (g.1+1,l19,(g.2.2.set (((y - 1)).toNat) (⟨z.uid,chg m.flags how fl,z.text⟩))) [0,1,2,3] so2 ⟨rfl,so,by simp only [];rw [Zhn hy (by rw [← hs];exact hz) hm,← hs],hlk.set hz (ZrG _ _ _),hv19⟩ t10 rfl
 try simp only [sQ,ne_eq] at g5
 have hfe:g.2.2=Zbo x.mail how fl xs:=by rw [hs,List.take_of_length_le oz]
 rw [hfe] at hv hll
 refine ZE (ZT (ZH (Zv (Zn (Za (xL [_,_] ZeQ 3 (h:=ZfD 2 rfl hv Zab.mono om3 (fun B20 hle20 hr20=>?_))))))))
 have hr20n:=hr20.len
 refine xS [_,_] 1 [_,_] Zgy (h:=?_)
 rw [hall]
 refine xA (h:=tL4 (Zd ?_))
 exact ZdI .ret (.inl rfl) [_,_] [] rfl ⟨⟨_,rfl,.inr ⟨[_,_],ZeQ,Zbu 1 rfl rfl rfl,rfl⟩⟩,rfl,trivial⟩ ⟨rfl,_,_,by rw [← hll];rfl,hr20⟩

theorem ZkC (q:Option Addr) (cp:Nat) (xs:List DSpan) (B:Kn) (hs:SlK B q cp 2 Z0 xs):Z8 (pj J) 31 [.slice q xs.length cp] B (.bool (ZdU xs)):=by
 refine cB 29 Tryz.func31 (h:=?_)
 have hsn:=hs.len
 refine Za (xA (h:=Zc (Za (xA (h:=Zg (Zy (α:=Nat) [0] (fun k=>[(3,.int .i64 k)]) [] (fun k=>[]) (fun k Bx=>Bx=B∧k≤xs.length∧∀y,y∈xs.take k→ZeV y=true) (fun k=>xs.length - k) 0 t1 rfl (⟨rfl,Nat.zero_le _,by simp⟩) (fun k B1 hle1 hI=>?_)))))))
 obtain ⟨rfl,hk,hall⟩:=hI
 refine ZD [(0,_),(3,_)] [] t2 rfl (Zc (Za (xM (h:=xM (h:=xV Tryz.underlying47 (h:=ZG (h:=Zb rfl (fun g1=>?_) (fun g1=>?_))))))))
 try simp only [sQ,ne_eq] at g1
 refine wSk (Zc (Zg (Za (xM (h:=xM (h:=?_))))))
 obtain ⟨m,hm⟩:=ZX (xs:=xs) (i:=k) om
 obtain ⟨bb3,oo3,rfl⟩:=hs.base hm
 obtain ⟨_,rfl,hc4⟩:=hs.elem hm
 refine xIx Tryz.underlying47 Zl5 (h:=xW Zhl (h:=y1 lk3 hc4 0 (h:=xR Zj0 rfl (Zcr _ _ _ _) (h:=xN (h:=xM (h:=Zs (d:=17) rfl (fun g2=>?_) (fun g2=>?_)))))))
 try simp only [sQ,ne_eq] at g2
 refine xP (h:=xP (h:=xP (h:=xP (h:=xP (h:=xP (h:=xP (h:=xT (h:=Zb (t:=true) rfl (fun _=>Za (xA (h:=Zd (ZA (Zl (ZM (ZA (Zl ?_)))))))) (fun h=>Bool.noConfusion h)))))))))
 exact eR t1 ⟨Zf (by rw [ZdU,ZbX hm (by simp only [ZeV,g2,Bool.false_and]),Bool.false_and]),rfl,rfl⟩
 try simp only [sQ,ne_eq] at g2
 refine xM (h:=xM (h:=xIx Tryz.underlying47 Zl5 (h:=xW Zhk (h:=y1 lk3 hc4 1 (h:=xR Zj0 rfl (Zcr _ _ _ _) (h:=xN (h:=xF (h:=Zb rfl (fun g3=>?_) (fun g3=>?_)))))))))
 try simp only [sQ,ne_eq] at g3
 refine Za (xA (h:=Zd (ZA (Zl (ZM (ZA (Zl ?_)))))))
 exact eR t1 ⟨Zf (by rw [ZdU,ZbX hm (by simp only [ZeV,g3,Bool.and_false]),Bool.false_and]),rfl,rfl⟩
 try simp only [sQ,ne_eq] at g3
 refine ZS (ZK (Zn (Ze (xM (h:=xD (h:=xA (h:=?_)))))))
 exact ZC (k+1) [] so2 ⟨rfl,oz,Za3 hm hall (by simp only [ZeV];rw [show (decide (0≤m.low) && decide (m.low≤99))=true by simpa only [Bool.not_eq_false] using g2,show (decide (0≤m.high) && decide (m.high≤99))=true by simpa only [Bool.not_eq_false] using g3];rfl)⟩ t2 rfl
 try simp only [sQ,ne_eq] at g1
 refine ZE (ZT (ZH (Zv (Zn (Za (xM (h:=xV Tryz.underlying47 (h:=xR Zj0 rfl (Zcr _ _ _ _) (h:=xA (h:=Zd ?_))))))))))
 exact eR t1 ⟨Zf (by rw [ZdU,ZdP (Zbb oz hall),Bool.true_and,Bool.eq_iff_iff];simp;try omega),rfl,rfl⟩

theorem Zvj (q:Option Addr) (cp:Nat) (xs:List DSpan) (last n:Int) (B:Kn) (hs:SlK B q cp 2 Z0 xs):Z8 (pj J) 128 [.slice q xs.length cp,.int .i64 last,.int .i64 n] B (.bool (ZeK xs last n)):=by
 refine cB 40 Tryz.func128 (h:=?_)
 have hsn:=hs.len
 refine Za (xA (h:=Zc (Za (xA (h:=Zg (Zy (α:=Nat) [0,1,2] (fun k=>[(7,.int .i64 k)]) [] (fun k=>[]) (fun k Bx=>Bx=B∧k≤xs.length∧(xs.take k).any (ZcH last n)=false) (fun k=>xs.length - k) 0 t1 rfl (⟨rfl,Nat.zero_le _,rfl⟩) (fun k B1 hle1 hI=>?_)))))))
 obtain ⟨rfl,hk,hna⟩:=hI
 refine ZD [(0,_),(1,_),(2,_),(7,_)] [] t4 rfl (Zc (Za (xM (h:=xM (h:=xV Tryz.underlying47 (h:=ZG (h:=Zb rfl (fun g1=>?_) (fun g1=>?_))))))))
 try simp only [sQ,ne_eq] at g1
 refine wSk (Zc (Zg (Za (xM (h:=xM (h:=?_))))))
 obtain ⟨m,hm⟩:=ZX (xs:=xs) (i:=k) om
 obtain ⟨bb3,oo3,rfl⟩:=hs.base hm
 obtain ⟨_,rfl,hc4⟩:=hs.elem hm
 refine xIx Tryz.underlying47 Zl5 (h:=xW Zhl (h:=y1 lk3 hc4 0 (h:=xA (h:=Za (xM (h:=xM (h:=xIx Tryz.underlying47 Zl5 (h:=xW Zhk (h:=y1 lk3 hc4 1 (h:=xA (h:=Zc (Za (xM (h:=ZaH (h:=Zb rfl (fun g2=>?_) (fun g2=>?_))))))))))))))))
 try simp only [sQ,ne_eq] at g2
 refine Ze (xM (h:=xA (h:=Zn (Zc (Za (xM (h:=ZaH (h:=Zb rfl (fun g3=>?_) (fun g3=>?_)))))))))
 try simp only [sQ,ne_eq] at g3
 refine Ze (xM (h:=xA (h:=Zn (Za (xM (h:=xM (h:=xM (h:=Zj (Zge rfl rfl rfl rfl (xM (h:=xM (h:=Zj (Znh rfl rfl rfl rfl (xR Zj0 rfl (Zcr _ _ _ _) (h:=Zb rfl (fun g4=>?_) (fun g4=>?_))))))))))))))))
 try simp only [sQ,ne_eq] at g4
 refine Za (xA (h:=Zd (ZA (Zl (ZM (ZA (Zl ?_)))))))
 exact eR t1 ⟨Zf (by symm;rw [ZeK,List.any_eq_true];exact ⟨m,List.mem_of_getElem? hm,by simp only [ZcH,g2,g3,if_true,if_false];simpa using g4⟩),rfl,rfl⟩
 try simp only [sQ,ne_eq] at g4
 refine ZS (ZK (Zn (Ze (xM (h:=xD (h:=xA (h:=?_)))))))
 exact ZC (k+1) [] so2 ⟨rfl,oz,by rw [Zdd hm,hna];simp only [ZcH,g2,g3,if_true,if_false];simpa using g4⟩ t4 rfl
 try simp only [sQ,ne_eq] at g3
 refine wSk (Za (xM (h:=xM (h:=xM (h:=Zj (Zge rfl rfl rfl rfl (xM (h:=xM (h:=Zj (Znh rfl rfl rfl rfl (xR Zj0 rfl (Zcr _ _ _ _) (h:=Zb rfl (fun g4=>?_) (fun g4=>?_)))))))))))))
 try simp only [sQ,ne_eq] at g4
 refine Za (xA (h:=Zd (ZA (Zl (ZM (ZA (Zl ?_)))))))
 exact eR t1 ⟨Zf (by symm;rw [ZeK,List.any_eq_true];exact ⟨m,List.mem_of_getElem? hm,by simp only [ZcH,g2,g3,if_true,if_false];simpa using g4⟩),rfl,rfl⟩
 try simp only [sQ,ne_eq] at g4
 refine ZS (ZK (Zn (Ze (xM (h:=xD (h:=xA (h:=?_)))))))
 exact ZC (k+1) [] so2 ⟨rfl,oz,by rw [Zdd hm,hna];simp only [ZcH,g2,g3,if_true,if_false];simpa using g4⟩ t4 rfl
 try simp only [sQ,ne_eq] at g2
 refine wSk (Zc (Za (xM (h:=ZaH (h:=Zb rfl (fun g3=>?_) (fun g3=>?_))))))
 try simp only [sQ,ne_eq] at g3
 refine Ze (xM (h:=xA (h:=Zn (Za (xM (h:=xM (h:=xM (h:=Zj (Zge rfl rfl rfl rfl (xM (h:=xM (h:=Zj (Znh rfl rfl rfl rfl (xR Zj0 rfl (Zcr _ _ _ _) (h:=Zb rfl (fun g4=>?_) (fun g4=>?_))))))))))))))))
 try simp only [sQ,ne_eq] at g4
 refine Za (xA (h:=Zd (ZA (Zl (ZM (ZA (Zl ?_)))))))
 exact eR t1 ⟨Zf (by symm;rw [ZeK,List.any_eq_true];exact ⟨m,List.mem_of_getElem? hm,by simp only [ZcH,g2,g3,if_true,if_false];simpa using g4⟩),rfl,rfl⟩
 try simp only [sQ,ne_eq] at g4
 refine ZS (ZK (Zn (Ze (xM (h:=xD (h:=xA (h:=?_)))))))
 exact ZC (k+1) [] so2 ⟨rfl,oz,by rw [Zdd hm,hna];simp only [ZcH,g2,g3,if_true,if_false];simpa using g4⟩ t4 rfl
 try simp only [sQ,ne_eq] at g3
 refine wSk (Za (xM (h:=xM (h:=xM (h:=Zj (Zge rfl rfl rfl rfl (xM (h:=xM (h:=Zj (Znh rfl rfl rfl rfl (xR Zj0 rfl (Zcr _ _ _ _) (h:=Zb rfl (fun g4=>?_) (fun g4=>?_)))))))))))))
 try simp only [sQ,ne_eq] at g4
 refine Za (xA (h:=Zd (ZA (Zl (ZM (ZA (Zl ?_)))))))
 exact eR t1 ⟨Zf (by symm;rw [ZeK,List.any_eq_true];exact ⟨m,List.mem_of_getElem? hm,by simp only [ZcH,g2,g3,if_true,if_false];simpa using g4⟩),rfl,rfl⟩
 try simp only [sQ,ne_eq] at g4
 refine ZS (ZK (Zn (Ze (xM (h:=xD (h:=xA (h:=?_)))))))
 exact ZC (k+1) [] so2 ⟨rfl,oz,by rw [Zdd hm,hna];simp only [ZcH,g2,g3,if_true,if_false];simpa using g4⟩ t4 rfl
 try simp only [sQ,ne_eq] at g1
 refine ZE (ZT (ZH (Zv (Zn (Za (xA (h:=Zd ?_)))))))
 exact eR t1 ⟨Zf (by rw [ZeK,← ZrP (b:=false) hna.symm oz]),rfl,rfl⟩

theorem Zog (q:Option Addr) (cp:Nat) (xs:List DSpan) (last:Int) (hl0:0≤last) (B:Kn) (hs:SlK B q cp 2 Z0 xs):Zw (pj J) 85 [.slice q xs.length cp,.int .i64 last] B [] (fun v B' Ls=>Ls=[]∧∃a c,v = .slice a (Z6 xs last).length c∧SlK B' a c 1 ZbU (Z6 xs last)):=by
 refine cB 28 Tryz.func85 (h:=?_)
 have hsn:=hs.len
 refine Za (xA (h:=Za (xBs [] [] Tryz.underlying58 sz3 zo3 (h:=fun b1=>xA (h:=tL1 (Zc (Za (xA (h:=Zg (Zy (α:=Gh Int) [0,1,4] (fun g=>[(5,.slice g.a g.xs.length g.c),(6,.int .i64 ((g.k+1:Nat):Int))]) [0] (fun g=>[g.l]) (fun g Bx=>Bx=B∧g.k≤(min last 99).toNat∧g.xs.length≤g.k∧(0<g.k→ZdU xs=true)∧g.xs=ZcB xs (min last 99) g.k∧ZW Bx g.l g.a g.c 3 1 ZbU g.xs) (fun g=>(min last 99).toNat - g.k) ⟨0,0,_,_,_,[]⟩ t2 rfl (⟨rfl,Nat.zero_le _,Nat.le_refl _,by simp,rfl,.lit0⟩) (fun g B2 hle2 hI=>?_)))))))))))
 obtain ⟨rfl,hk,hgl,hok,hnt,hv⟩:=hI
 refine ZD [(0,_),(1,_),(4,_),(5,_),(6,_)] [_] t5 rfl (Zc (Za (xM (h:=xM (h:=Zj (Zge rfl rfl rfl rfl (ZbJ (h:=xM (h:=Zs (d:=12) rfl (fun g1=>?_) (fun g1=>?_))))))))))
 try simp only [sQ,ne_eq] at g1
 refine xM (h:=xR ZBa rfl (ZkC _ _ xs _ hs) (h:=xT (h:=Zb rfl (fun g2=>?_) (fun g2=>?_))))
 try simp only [sQ,ne_eq] at g2
 refine wSk (Zc (Zg (Za (xM (h:=xM (h:=Zj (Zge rfl rfl rfl rfl (xM (h:=xR ZAo rfl (Zvj _ _ xs (min last 99) (↑(g.k+1)) _ hs) (h:=Zb rfl (fun g3=>?_) (fun g3=>?_)))))))))))
 try simp only [sQ,ne_eq] at g3
 refine Ze (xM (h:=xM (h:=xBs [(0,_)] [_] Tryz.underlying58 sz3 zo3 (h:=fun b5=>Zj (ZiK (z:=(↑(g.k+1):Int)) (R:=ZbU) 0 rfl hv rfl rfl rfl ZAX ZAO rfl rfl (Zc4.box 1 rfl) rfl rfl (rfl) om (fun l6 p6 c6 hv6=>?_))))))
 refine xA (h:=ZK (Zn (Ze (xM (h:=xD (h:=xA (h:=?_)))))))
 exact ZC ⟨g.k+1,0,l6,p6,c6,(g.xs ++ [(↑(g.k+1):Int)])⟩ [0] so2 ⟨rfl,so,by simp;omega,fun _=>g2,by simp only [];rw [ZiT (by exact_mod_cast g3),hnt],hv6⟩ t5 rfl
 try simp only [sQ,ne_eq] at g3
 refine ZS (ZK (Zn (Ze (xM (h:=xD (h:=xA (h:=?_)))))))
 exact ZC ⟨g.k+1,0,g.l,g.a,g.c,g.xs⟩ [0] so2 ⟨rfl,so,so,fun _=>g2,by simp only [];rw [ZkS (by exact_mod_cast g3),hnt],hv⟩ t5 rfl
 try simp only [sQ,ne_eq] at g2
 refine ZE (ZT (ZH (Zv (Zn (Za (xM (h:=ZfD 0 rfl hv ZbU.mono om3 (fun B7 hle7 hr7=>?_))))))))
 have hr7n:=hr7.len
 refine xA (h:=tL1 ?_)
 have hne:Z6 xs last=g.xs:=by
    rw [Z6,if_neg (by simp [g2]),hnt]
    have:g.k=0:=by
      rcases Nat.eq_zero_or_pos g.k with h | h
      · exact h
      · rw [hok h] at g2;cases g2
    rw [this];rfl
 rw [hne]
 refine Zd ?_
 exact eN [] rfl t1 ⟨rfl,_,_,rfl,hr7⟩
 try simp only [sQ,ne_eq] at g1
 refine xP (h:=xP (h:=xF (h:=Zb (t:=false) rfl (fun h=>Bool.noConfusion h) (fun _=>ZE (ZT (ZH (Zv (Zn (Za (xM (h:=ZfD 0 rfl hv ZbU.mono om3 (fun B8 hle8 hr8=>?_))))))))))))
 have hr8n:=hr8.len
 refine xA (h:=tL1 ?_)
 have hne:Z6 xs last=g.xs:=by
    have hk2:g.k=(min last 99).toNat:=by omega
    rw [Z6]
    rcases Nat.eq_zero_or_pos g.k with h | h
    · rw [← hk2,hnt,h];split <;> rfl
    · rw [if_pos (hok h),hnt,hk2]
 rw [hne]
 refine Zd ?_
 exact eN [] rfl t1 ⟨rfl,_,_,rfl,hr8⟩

theorem Zvk (q1 q2 q3:Option Addr) (c1 c2 c3:Nat) (x:DHost) (s:DSess) (hs1:s.user.length≤2000000) (hs2:s.owner.length≤2000000) (hs3:s.name.length≤2000000) (r:Int) (hrr:Zhz x.folders) (h1:0<r) (B:Kn) (hu:SlK B q1 c1 3 Zp x.users) (hf:SlK B q2 c2 5 Zm x.folders):Z8 (pj J) 34 [.agg #[str x.domain,.slice q1 x.users.length c1,.slice q2 x.folders.length c2,.int .i64 x.queue.next,.slice q3 x.queue.items.length c3],.agg #[str s.user,str s.owner,str s.name],.int .i64 r] B (.tuple #[.int .i64 (atF x s r).1,.int .i64 (atF x s r).2]):=by
 refine cB 32 Tryz.func34 (h:=?_)
 have hun:=hu.len
 have hfn:=hf.len
 have hix:=Zh5 (inF s.owner s.name) x.folders
 refine Za (xBx [_,_,_,_,_] (h:=fun b1=>xBx [_,_,_] (h:=fun b2=>xA (h:=xA (h:=tL2 (Za (xL [_,_,_,_,_] ZcK 0 (h:=xW ZqQ (h:=x1 lk9 1 (h:=xW ZqP (h:=x1 lk9 1 (h:=xR ZA4 rfl (Zlc _ _ _ _ _ _ x s.owner s.name om2 om2 _ hf) (h:=?_)))))))))))))
 refine xA (h:=Za (xL [_,_,_,_,_] ZcK 0 (h:=xW ZnN (h:=x1 lk9 1 (h:=xM (h:=xR ZA3 rfl (Zi0 _ _ _ _ _ _ x s.user (ZbI (inF s.owner s.name) x.folders) 2 oz hrr oz _ hu hf) (h:=?_)))))))
 refine xA (h:=Zc (Za (xM (h:=ZaP (h:=Zb rfl (fun g1=>?_) (fun g1=>?_))))))
 try simp only [sQ,ne_eq] at g1
 refine Za (xM (h:=xM (h:=xA (h:=xA (h:=Zd (Zl ?_))))))
 exact Zrq .ret (.inl rfl) [_,_] t2 ⟨by rw [atF,if_pos g1];rfl,rfl,rfl⟩
 try simp only [sQ,ne_eq] at g1
 refine wSk (Za (xM (h:=xL [_,_,_,_,_] ZcK 0 (h:=xW ZnN (h:=x1 lk9 1 (h:=xM (h:=xM (h:=xR ZA3 rfl (Zi0 _ _ _ _ _ _ x s.user (ZbI (inF s.owner s.name) x.folders) r oz hrr oz _ hu hf) (h:=?_)))))))))
 refine xA (h:=xA (h:=Zd ?_))
 exact Zrq .ret (.inl rfl) [_,_] t2 ⟨by rw [atF,if_neg (fun h=>h g1)];rfl,rfl,rfl⟩

theorem ZnE (q:Option Addr) (cp:Nat) (x:DBox) (q2:Option Addr) (cp2:Nat) (xs:List DSpan) (B:Kn) (hx:SlK B q cp 3 Zab x.mail) (hs:SlK B q2 cp2 2 Z0 xs):Zw (pj J) 37 [.agg #[.int .i64 x.next,.slice q x.mail.length cp],.slice q2 xs.length cp2] B [] (fun v B' Ls=>Ls=[]∧∃a c,v = .slice a (Z6 xs x.mail.length).length c∧SlK B' a c 1 ZbU (Z6 xs x.mail.length)):=by
 refine cB 10 Tryz.func37 (h:=?_)
 have hxn:=hx.len
 refine Za (xBx [_,_] (h:=fun b1=>xA (h:=tL1 (Za (xM (h:=xW Zbj (h:=x1 ZhZ 0 (h:=xV Tryz.underlying80 (h:=xQ ZBB rfl (Zog _ _ xs ↑x.mail.length om2 _ hs) (h:=?_))))))))))
 intro v2 B2 hle2
 rintro ⟨a2,c2,rfl,hs2⟩
 have hs2n:=hs2.len
 refine xA (h:=Zd ?_)
 exact eN [] rfl t1 ⟨rfl,_,_,rfl,hs2⟩

theorem Zdq (q1 q2 q3:Option Addr) (c1 c2 c3:Nat) (x:DHost) (s:DSess) (hs1:s.user.length≤2000000) (hs2:s.owner.length≤2000000) (hs3:s.name.length≤2000000) (q4:Option Addr) (c4:Nat) (set:List DSpan) (how fl:Int) (hd:x.domain.length≤2000000) (B:Kn) (hu:SlK B q1 c1 3 Zp x.users) (hf:SlK B q2 c2 5 Zm x.folders) (hi:SlK B q3 c3 4 Zz x.queue.items) (hs:SlK B q4 c4 2 Z0 set):Zw (pj J) 8 [.agg #[str x.domain,.slice q1 x.users.length c1,.slice q2 x.folders.length c2,.int .i64 x.queue.next,.slice q3 x.queue.items.length c3],.agg #[str s.user,str s.owner,str s.name],.slice q4 set.length c4,.int .i64 how,.int .i64 fl] B [] (fun v B' Ls=>Ls=[]∧∃p1 d1 p2 d2 p3 d3,v = .tuple #[.agg #[str (ZI x s set how fl).1.domain,.slice p1 (ZI x s set how fl).1.users.length d1,.slice p2 (ZI x s set how fl).1.folders.length d2,.int .i64 (ZI x s set how fl).1.queue.next,.slice p3 (ZI x s set how fl).1.queue.items.length d3],.int .i64 (ZI x s set how fl).2]∧SlK B' p1 d1 3 Zp (ZI x s set how fl).1.users∧SlK B' p2 d2 5 Zm (ZI x s set how fl).1.folders∧SlK B' p3 d3 4 Zz (ZI x s set how fl).1.queue.items∧(ZI x s set how fl).1.domain.length≤2000000):=by
 refine cB 75 Tryz.func8 (h:=?_)
 have hun:=hu.len
 have hfn:=hf.len
 have hin:=hi.len
 have hsn:=hs.len
 have hix:=Zh5 (inF s.owner s.name) x.folders
 refine Za (xBx [_,_,_,_,_] (h:=fun b1=>xBx [_,_,_] (h:=fun b2=>xAl [_,_,_,_,_] Zca (h:=fun b3=>xA (h:=tL3 (Zc (Za (xL [_,_,_,_,_] ZcK 0 (h:=xR ZB4 rfl (Zoh _ _ _ _ _ _ x om2 _ hu hf hi) (h:=?_))))))))))
 refine xN (h:=xM (h:=Zs (d:=20) rfl (fun g1=>?_) (fun g1=>?_)))
 try simp only [sQ,ne_eq] at g1
 rw [ZI,if_pos (by simp [g1])]
 refine xP (h:=xP (h:=xP (h:=xT (h:=xM (h:=xP (h:=xP (h:=xP (h:=xT (h:=xM (h:=xP (h:=xP (h:=xP (h:=xT (h:=Zb (t:=true) rfl (fun _=>Za (xB [] [_,_,_,_,_] [_,_,_,_,_] ZgI Zca (h:=xS [_,_,_,_,_] 2 [_,_,_,_,_] ZcZ (h:=xA (h:=tL3 (Zd (Zl ?_))))))) (fun h=>Bool.noConfusion h)))))))))))))))
 exact ZdI .ret (.inl rfl) [_,_] [] rfl ⟨⟨_,rfl,.inr ⟨[_,_,_,_,_],ZcK,Zbu 2 rfl rfl rfl,rfl⟩⟩,rfl,trivial⟩ ⟨rfl,none,0,none,0,none,0,rfl,SlK.nil,SlK.nil,SlK.nil,by simp [ZcW]⟩
 try simp only [sQ,ne_eq] at g1
 refine xM (h:=xR ZBa rfl (ZkC _ _ set _ hs) (h:=xN (h:=xF (h:=xM (h:=Zs (d:=25) rfl (fun g2=>?_) (fun g2=>?_))))))
 try simp only [sQ,ne_eq] at g2
 rw [ZI,if_pos (by simp [g2])]
 refine xP (h:=xP (h:=xP (h:=xT (h:=xM (h:=xP (h:=xP (h:=xP (h:=xT (h:=Zb (t:=true) rfl (fun _=>Za (xB [] [_,_,_,_,_] [_,_,_,_,_] ZgI Zca (h:=xS [_,_,_,_,_] 2 [_,_,_,_,_] ZcZ (h:=xA (h:=tL3 (Zd (Zl ?_))))))) (fun h=>Bool.noConfusion h))))))))))
 exact ZdI .ret (.inl rfl) [_,_] [] rfl ⟨⟨_,rfl,.inr ⟨[_,_,_,_,_],ZcK,Zbu 2 rfl rfl rfl,rfl⟩⟩,rfl,trivial⟩ ⟨rfl,none,0,none,0,none,0,rfl,SlK.nil,SlK.nil,SlK.nil,by simp [ZcW]⟩
 try simp only [sQ,ne_eq] at g2
 refine xM (h:=xR Zzb rfl (Zh0 _ _) (h:=xN (h:=xF (h:=xM (h:=Zs (d:=30) rfl (fun g3=>?_) (fun g3=>?_))))))
 try simp only [sQ,ne_eq] at g3
 rw [ZI,if_pos (fun h=>by have:=h.2.2.1;simp only [ZU,g3] at this;cases this)]
 refine xP (h:=xP (h:=xP (h:=xT (h:=Zb (t:=true) rfl (fun _=>Za (xB [] [_,_,_,_,_] [_,_,_,_,_] ZgI Zca (h:=xS [_,_,_,_,_] 2 [_,_,_,_,_] ZcZ (h:=xA (h:=tL3 (Zd (Zl ?_))))))) (fun h=>Bool.noConfusion h)))))
 exact ZdI .ret (.inl rfl) [_,_] [] rfl ⟨⟨_,rfl,.inr ⟨[_,_,_,_,_],ZcK,Zbu 2 rfl rfl rfl,rfl⟩⟩,rfl,trivial⟩ ⟨rfl,none,0,none,0,none,0,rfl,SlK.nil,SlK.nil,SlK.nil,by simp [ZcW]⟩
 try simp only [sQ,ne_eq] at g3
 refine xM (h:=xR Zj0 rfl (Zcr _ _ _ _) (h:=xN (h:=xF (h:=Zb rfl (fun g4=>?_) (fun g4=>?_)))))
 try simp only [sQ,ne_eq] at g4
 rw [ZI,if_pos (fun h=>by have:=h.2.2.2;simp only [ZcX,g4] at this;cases this)]
 refine Za (xB [] [_,_,_,_,_] [_,_,_,_,_] ZgI Zca (h:=xS [_,_,_,_,_] 2 [_,_,_,_,_] ZcZ (h:=xA (h:=tL3 (Zd (Zl ?_))))))
 exact ZdI .ret (.inl rfl) [_,_] [] rfl ⟨⟨_,rfl,.inr ⟨[_,_,_,_,_],ZcK,Zbu 2 rfl rfl rfl,rfl⟩⟩,rfl,trivial⟩ ⟨rfl,none,0,none,0,none,0,rfl,SlK.nil,SlK.nil,SlK.nil,by simp [ZcW]⟩
 try simp only [sQ,ne_eq] at g4
 have hok:Zah x=true:=by simpa using g1
 have hrr:=ZjM hok
 have hnn : ¬ ¬ (Zah x=true∧ZdU set=true∧ZU fl=true∧ZcX how=true):=fun h=>h ⟨hok,by simpa using g2,by simpa only [ZU,Bool.not_eq_false] using g3,by simpa only [ZcX,Bool.not_eq_false] using g4⟩
 refine wSk (Za (xL [_,_,_,_,_] ZcK 0 (h:=xL [_,_,_] Zw5 1 (h:=xR ZB3 rfl (Zvk _ _ _ _ _ _ x s om2 om2 om2 4 hrr oz _ hu hf) (h:=?_)))))
 refine xM (h:=xE (h:=xE (h:=xA (h:=xA (h:=Za (xL [_,_,_,_,_] ZcK 0 (h:=xC ZB2 rfl (Zqx _ _ _ _ _ _ x _ hu hf hi) (h:=?_))))))))
 rintro _ B9 _ hle9 ⟨l9,a9,c9,q19,c19,q39,c39,rfl,rfl,hu9,hs9,hi9⟩
 obtain ⟨hf,hs⟩:=up2 hle9 hf hs
 have hu9n:=hu9.len
 have hi9n:=hi9.len
 refine xAl [_,_,_,_,_] Zca (h:=fun b10=>xS [_,_,_,_,_] 4 [_,_,_,_,_] ZcZ (h:=tL5 (Zc (Za (xM (h:=ZaP (h:=Zb rfl (fun g5=>?_) (fun g5=>?_))))))))
 try simp only [sQ,ne_eq] at g5
 refine Za (xL [_,_,_,_,_] ZcK 4 (h:=ZfD 3 rfl hs9 Zm.mono om3 (fun B11 hle11 hr11=>?_)))
 obtain ⟨hf,hs,hu9,hi9⟩:=up4 hle11 hf hs hu9 hi9
 have hr11n:=hr11.len
 refine xM (h:=?_)
 rw [ZI,if_neg hnn,if_pos g5]
 refine xS [_,_,_,_,_] 2 [_,_,_,_,_] ZcZ (h:=xA (h:=tL5 (Zd (Zl ?_))))
 exact ZdI .ret (.inl rfl) [_,_] [] rfl ⟨⟨_,rfl,.inr ⟨[_,_,_,_,_],ZcK,Zbu 2 rfl rfl rfl,rfl⟩⟩,rfl,trivial⟩ ⟨rfl,_,_,_,_,_,_,(by first | rfl | (simp only [DHost.withFolders,List.length_set];rfl)),hu9,hr11,hi9,by first | assumption | (rw [Zfl.2.2.1];assumption)⟩
 try simp only [sQ,ne_eq] at g5
 obtain ⟨hat,hk0,_,_,_⟩:=ZtP g5
 obtain ⟨f,hf0⟩ :∃f,x.folders[(atF x s 4).1.toNat]? = some f:=⟨_,List.getElem?_eq_getElem oz⟩
 have hfb:Zcj (⟨f.next,f.mail⟩:DBox)=true:=ZgT (Zgs hok hf0)
 have hse:ZI x s set how fl=(x.withFolders (x.folders.set (atF x s 4).1.toNat (f.withBox (ZP ⟨f.next,f.mail⟩ (Z6 set f.mail.length) how fl).1)),0):=by rw [ZI,if_neg hnn,if_neg (fun h=>h g5),ZgZ hf0,ZhO hf0];rfl
 refine wSk (Zc (Z3 (keeps _ [0,3] _) mo kr ⟨Kn.le.refl _,Za7.refl _ _⟩ (fun _ _=>?_)))
 refine aW 0 rfl ZaA (h:=aT 1 rfl (ZR fun D B L hI=>Zo rfl rfl ZeS rfl (atL 0 (hI.2.1.trans rfl) rfl rfl) r4) (h:=aM 2 rfl (h:=?_)))
 obtain ⟨bb12,oo12,rfl⟩:=hf.base hf0
 obtain ⟨_,⟨qg13,cg13,qm13,cm13,rfl,hg13,hm13,hb13,hb13b⟩,hc13⟩:=hf.elem hf0
 have hg13n:=hg13.len
 have hm13n:=hm13.len
 have hm13s:=Zap hm13
 refine aIx 3 rfl Tryz.underlying36 Zb1 (h:=aW 4 rfl Zbi (h:=aT 5 rfl (ZR fun D B L hI=>Z4 [_,_] rfl rfl ZeQ rfl (Zke (hc13.mono hI.1) 3 rfl rfl) r4) (h:=aW 6 rfl ZaA (h:=aT 7 rfl (ZR fun D B L hI=>Zo rfl rfl ZeS rfl (atL 0 (hI.2.1.trans rfl) rfl rfl) r4) (h:=aM 8 rfl (h:=aIx 9 rfl Tryz.underlying36 Zb1 (h:=aW 10 rfl Zbi (h:=aT 11 rfl (ZR fun D B L hI=>Z4 [_,_] rfl rfl ZeQ rfl (Zke (hc13.mono hI.1) 3 rfl rfl) r4) (h:=aM 12 rfl (h:=aM 14 rfl (h:=aM 15 rfl (h:=Zat [13,20] kr kr kr ⟨?_,?_⟩))))))))))))
 refine (ZcD rfl rfl ZA9 rfl (ZnE _ _ (⟨f.next,f.mail⟩:DBox) _ _ set _ hm13 hs) ?_)
 intro v14 B14 hle14
 rintro ⟨a14,c14,rfl,hs14⟩
 replace hs:=up1 hle14 hs
 replace hm13:=hm13.mono Zab.mono hle14
 replace hs9:=hs9.mono Zm.mono hle14
 replace hu9:=hu9.mono Zp.mono hle14
 replace hi9:=hi9.mono Zz.mono hle14
 have hs14n:=hs14.len
 refine ⟨⟨hle14,t2⟩,(Zat [16,20] kr kr kr ⟨?_,?_⟩)⟩
 refine (ZcD rfl rfl Zy8 rfl (ZfQ _ _ (⟨f.next,f.mail⟩:DBox) _ _ (Z6 set f.mail.length) how fl _ hm13 hs14) ?_)
 intro v15 B15 hle15
 rintro ⟨a15,c15,rfl,hs15⟩
 replace hs:=up1 hle15 hs
 replace hm13:=hm13.mono Zab.mono hle15
 replace hs14:=hs14.mono ZbU.mono hle15
 replace hs9:=hs9.mono Zm.mono hle15
 replace hu9:=hu9.mono Zp.mono hle15
 replace hi9:=hi9.mono Zz.mono hle15
 have hs15n:=hs15.len
 refine ⟨⟨(hle14.trans hle15),t2⟩,(aM 17 rfl (h:=aE 18 rfl (h:=aE 19 rfl (h:=ZB 20 kr rfl kr (Zae (l:=[_,_]) rfl rfl Zix rfl (fun b16=>?_))))))⟩
 refine ⟨⟨(hle14.trans hle15),t2⟩,(ZaU 21 kr rfl kr kr (ZL [_,_] 5 [_,_] rfl rfl Zgy rfl rfl rfl rfl rfl rfl rfl rfl ?_))⟩
 refine aA 22 rfl (h:=Zu kr kr ?_)
 refine Zn (tL6 (Za (xW ZaA (h:=x1 ZeS 4 (h:=xM (h:=xL [_,_] ZeQ 5 (h:=?_)))))))
 obtain ⟨bb17,_,hp17,⟨qg17,cg17,qm17,cm17,rfl,hg17,hm17,hb17,hb17b⟩,hw17,hc17⟩:=hs9.row hf0
 have hg17n:=hg17.len
 have hm17n:=hm17.len
 have hm17s:=Zap hm17
 refine xIp hp17 Tryz.underlying36 Zb1 (h:=xW Zbi (h:=Zj (ZeT (k:=((atF x s 4).1).toNat) (off:=3) (⟨f.owner,f.name,f.grants,(ZP ⟨f.next,f.mail⟩ (Z6 set f.mail.length) how fl).1.next,(ZP ⟨f.next,f.mail⟩ (Z6 set f.mail.length) how fl).1.mail⟩) [_,_] 3 hs9 hp17 hf0 rfl rfl Zgy rfl rfl rfl rfl rfl rfl (by rintro _ ⟨_,_,_,_,rfl,e1,_,e3,e4⟩;exact ⟨_,_,_,_,rfl,e1,hs15,e3,e4⟩) (fun l18 hv18=>?_))))
 refine tL6 (Za (xL [_,_,_,_,_] ZcK 4 (h:=ZfD 3 rfl hv18 Zm.mono om3 (fun B19 hle19 hr19=>?_))))
 obtain ⟨hs,hu9,hi9⟩:=up3 hle19 hs hu9 hi9
 have hr19n:=hr19.len
 refine xS [_,_,_,_,_] 2 [_,_,_,_,_] ZcZ (h:=?_)
 rw [hse]
 refine xA (h:=tL6 (Zd ?_))
 exact ZdI .ret (.inl rfl) [_,_] [] rfl ⟨⟨_,rfl,.inr ⟨[_,_,_,_,_],ZcK,Zbu 2 rfl rfl rfl,rfl⟩⟩,rfl,trivial⟩ ⟨rfl,_,_,_,_,_,_,(by first | rfl | (simp only [DHost.withFolders,List.length_set];rfl)),hu9,hr19,hi9,by first | assumption | (rw [Zfl.2.2.1];assumption)⟩
 refine (Zae (l:=[_,_]) rfl rfl Zix rfl (fun b20=>⟨⟨hle14,t2⟩,(ZB 16 kr rfl kr (ZcD rfl rfl Zy8 rfl (ZfQ _ _ (⟨f.next,f.mail⟩:DBox) _ _ (Z6 set f.mail.length) how fl _ hm13 hs14) ?_))⟩))
 intro v21 B21 hle21
 rintro ⟨a21,c21,rfl,hs21⟩
 replace hs:=up1 hle21 hs
 replace hm13:=hm13.mono Zab.mono hle21
 replace hs9:=hs9.mono Zm.mono hle21
 replace hu9:=hu9.mono Zp.mono hle21
 replace hi9:=hi9.mono Zz.mono hle21
 have hs21n:=hs21.len
 refine ⟨⟨(hle14.trans hle21),t2⟩,(aM 17 rfl (h:=aE 18 rfl (h:=aE 19 rfl (h:=ZaU 21 kr rfl kr kr (ZL [_,_] 5 [_,_] rfl rfl Zgy rfl rfl rfl rfl rfl rfl rfl rfl ?_)))))⟩
 refine aA 22 rfl (h:=Zu kr kr ?_)
 refine Zn (tL6 (Za (xW ZaA (h:=x1 ZeS 4 (h:=xM (h:=xL [_,_] ZeQ 5 (h:=?_)))))))
 obtain ⟨bb22,_,hp22,⟨qg22,cg22,qm22,cm22,rfl,hg22,hm22,hb22,hb22b⟩,hw22,hc22⟩:=hs9.row hf0
 have hg22n:=hg22.len
 have hm22n:=hm22.len
 have hm22s:=Zap hm22
 refine xIp hp22 Tryz.underlying36 Zb1 (h:=xW Zbi (h:=Zj (ZeT (k:=((atF x s 4).1).toNat) (off:=3) (⟨f.owner,f.name,f.grants,(ZP ⟨f.next,f.mail⟩ (Z6 set f.mail.length) how fl).1.next,(ZP ⟨f.next,f.mail⟩ (Z6 set f.mail.length) how fl).1.mail⟩) [_,_] 3 hs9 hp22 hf0 rfl rfl Zgy rfl rfl rfl rfl rfl rfl (by rintro _ ⟨_,_,_,_,rfl,e1,_,e3,e4⟩;exact ⟨_,_,_,_,rfl,e1,hs21,e3,e4⟩) (fun l23 hv23=>?_))))
 refine tL6 (Za (xL [_,_,_,_,_] ZcK 4 (h:=ZfD 3 rfl hv23 Zm.mono om3 (fun B24 hle24 hr24=>?_))))
 obtain ⟨hs,hu9,hi9⟩:=up3 hle24 hs hu9 hi9
 have hr24n:=hr24.len
 refine xS [_,_,_,_,_] 2 [_,_,_,_,_] ZcZ (h:=?_)
 rw [hse]
 refine xA (h:=tL6 (Zd ?_))
 exact ZdI .ret (.inl rfl) [_,_] [] rfl ⟨⟨_,rfl,.inr ⟨[_,_,_,_,_],ZcK,Zbu 2 rfl rfl rfl,rfl⟩⟩,rfl,trivial⟩ ⟨rfl,_,_,_,_,_,_,(by first | rfl | (simp only [DHost.withFolders,List.length_set];rfl)),hu9,hr24,hi9,by first | assumption | (rw [Zfl.2.2.1];assumption)⟩
 refine (Zae (l:=[_,_]) rfl rfl Zix rfl (fun b25=>⟨⟨Kn.le.refl _,t2⟩,(ZB 13 kr rfl kr (ZcD rfl rfl ZA9 rfl (ZnE _ _ (⟨f.next,f.mail⟩:DBox) _ _ set _ hm13 hs) ?_))⟩))
 intro v26 B26 hle26
 rintro ⟨a26,c26,rfl,hs26⟩
 replace hm13:=hm13.mono Zab.mono hle26
 replace hs9:=hs9.mono Zm.mono hle26
 replace hu9:=hu9.mono Zp.mono hle26
 replace hi9:=hi9.mono Zz.mono hle26
 have hs26n:=hs26.len
 refine ⟨⟨hle26,t2⟩,(ZB 16 kr rfl kr (ZcD rfl rfl Zy8 rfl (ZfQ _ _ (⟨f.next,f.mail⟩:DBox) _ _ (Z6 set f.mail.length) how fl _ hm13 hs26) ?_))⟩
 intro v27 B27 hle27
 rintro ⟨a27,c27,rfl,hs27⟩
 replace hs9:=hs9.mono Zm.mono hle27
 replace hu9:=hu9.mono Zp.mono hle27
 replace hi9:=hi9.mono Zz.mono hle27
 have hs27n:=hs27.len
 refine ⟨⟨(hle26.trans hle27),t2⟩,(aM 17 rfl (h:=aE 18 rfl (h:=aE 19 rfl (h:=ZaU 21 kr rfl kr kr (ZL [_,_] 5 [_,_] rfl rfl Zgy rfl rfl rfl rfl rfl rfl rfl rfl ?_)))))⟩
 refine aA 22 rfl (h:=Zu kr kr ?_)
 refine Zn (tL6 (Za (xW ZaA (h:=x1 ZeS 4 (h:=xM (h:=xL [_,_] ZeQ 5 (h:=?_)))))))
 obtain ⟨bb28,_,hp28,⟨qg28,cg28,qm28,cm28,rfl,hg28,hm28,hb28,hb28b⟩,hw28,hc28⟩:=hs9.row hf0
 have hg28n:=hg28.len
 have hm28n:=hm28.len
 have hm28s:=Zap hm28
 refine xIp hp28 Tryz.underlying36 Zb1 (h:=xW Zbi (h:=Zj (ZeT (k:=((atF x s 4).1).toNat) (off:=3) (⟨f.owner,f.name,f.grants,(ZP ⟨f.next,f.mail⟩ (Z6 set f.mail.length) how fl).1.next,(ZP ⟨f.next,f.mail⟩ (Z6 set f.mail.length) how fl).1.mail⟩) [_,_] 3 hs9 hp28 hf0 rfl rfl Zgy rfl rfl rfl rfl rfl rfl (by rintro _ ⟨_,_,_,_,rfl,e1,_,e3,e4⟩;exact ⟨_,_,_,_,rfl,e1,hs27,e3,e4⟩) (fun l29 hv29=>?_))))
 refine tL6 (Za (xL [_,_,_,_,_] ZcK 4 (h:=ZfD 3 rfl hv29 Zm.mono om3 (fun B30 hle30 hr30=>?_))))
 obtain ⟨hu9,hi9⟩:=up2 hle30 hu9 hi9
 have hr30n:=hr30.len
 refine xS [_,_,_,_,_] 2 [_,_,_,_,_] ZcZ (h:=?_)
 rw [hse]
 refine xA (h:=tL6 (Zd ?_))
 exact ZdI .ret (.inl rfl) [_,_] [] rfl ⟨⟨_,rfl,.inr ⟨[_,_,_,_,_],ZcK,Zbu 2 rfl rfl rfl,rfl⟩⟩,rfl,trivial⟩ ⟨rfl,_,_,_,_,_,_,(by first | rfl | (simp only [DHost.withFolders,List.length_set];rfl)),hu9,hr30,hi9,by first | assumption | (rw [Zfl.2.2.1];assumption)⟩

theorem Zna (q:Option Addr) (cp:Nat) (gs:List DGrant) (o u:Str) (ho:o.length≤2000000) (hn:u.length≤2000000) (B:Kn) (hg:SlK B q cp 2 Zac gs):Z8 (pj J) 245 [.slice q gs.length cp,str o,str u] B (.int .i64 (Zkb gs o u)):=by
 refine cB 35 Tryz.func245 (h:=?_)
 refine Za (xA (h:=Za (xM (h:=xC Zxz rfl (ZnZ _ _ _ _ hg) (h:=?_)))))
 rintro _ Bm _ hlem ⟨mm,lm,rfl,rfl,rfl,hlm⟩
 refine xM (h:=xE (h:=xE (h:=xA (h:=xA (h:=tL1 (Zc (Za (xM (h:=xN (h:=xM (h:=Zs (d:=16) rfl (fun g1=>?_) (fun g1=>?_))))))))))))
 try simp only [sQ,ne_eq] at g1
 refine xP (h:=xP (h:=xP (h:=xT (h:=xM (h:=xP (h:=xP (h:=xP (h:=xT (h:=Zb (t:=true) rfl (fun _=>Za (xA (h:=Zd (Zl ?_)))) (fun h=>Bool.noConfusion h))))))))))
 exact eR t1 ⟨ZF (Zka (by simp [g1])).symm,rfl,rfl⟩
 try simp only [sQ,ne_eq] at g1
 refine xM (h:=xR Zlw rfl (Zcd _ om2 _) (h:=?_))
 refine xN (h:=xF (h:=xM (h:=Zs (d:=21) rfl (fun g2=>?_) (fun g2=>?_))))
 try simp only [sQ,ne_eq] at g2
 refine xP (h:=xP (h:=xP (h:=xT (h:=Zb (t:=true) rfl (fun _=>Za (xA (h:=Zd (Zl ?_)))) (fun h=>Bool.noConfusion h)))))
 exact eR t1 ⟨ZF (Zka (by simp [g2])).symm,rfl,rfl⟩
 try simp only [sQ,ne_eq] at g2
 refine xM (h:=xR Zlw rfl (Zcd _ om2 _) (h:=?_))
 refine xN (h:=xF (h:=Zb rfl (fun g3=>?_) (fun g3=>?_)))
 try simp only [sQ,ne_eq] at g3
 refine Za (xA (h:=Zd (Zl ?_)))
 exact eR t1 ⟨ZF (Zka (by simp [g3])).symm,rfl,rfl⟩
 try simp only [sQ,ne_eq] at g3
 have hce:=ZtY (gs:=gs) (o:=o) (u:=u) g1 g2 (by simpa using g3)
 obtain ⟨bm,hmb,hml⟩:=hlm g1
 subst hmb
 clear hlm
 have hlm:=hml
 refine wSk (Zc (Za (xM (h:=xM (h:=Zd0 (h:=Zb rfl (fun g4=>?_) (fun g4=>?_)))))))
 try simp only [sQ,ne_eq] at g4
 refine Za (xA (h:=Zd (Zl ?_)))
 exact eR t1 ⟨ZF (by rw [hce,if_pos g4]),rfl,rfl⟩
 try simp only [sQ,ne_eq] at g4
 refine wSk (Za (xM (h:=xM (h:=Zj (Zni (k:=u) 0 rfl hlm rfl rfl Tryz.underlying303 Tryz.underlying9 zo3 rfl rfl (xM (h:=Zj (Zni (k:=[97,110,121,111,110,101]) 0 rfl hlm rfl rfl Tryz.underlying303 Tryz.underlying9 zo3 rfl rfl (Zj (Zwr rfl rfl rfl rfl (xA (h:=Zd ?_))))))))))))
 exact eR t1 ⟨ZF (by rw [hce,if_neg g4];rfl),rfl,rfl⟩

theorem Zw4 (b o:Nat) (q1 q2 q3:Option Addr) (c1 c2 c3:Nat) (x:DHost) (qa qb:Option Addr) (ca cb:Nat) (u:Str) (f:DFolder) (rr:Int) (hn:u.length≤2000000) (ho:f.owner.length≤2000000) (B:Kn) (hh:Zan B b o [str x.domain,.slice q1 x.users.length c1,.slice q2 x.folders.length c2,.int .i64 x.queue.next,.slice q3 x.queue.items.length c3]) (hu:SlK B q1 c1 3 Zp x.users) (hg:SlK B qa ca 2 Zac f.grants):Z8 (pj J) 191 [ptr ⟨b,o,none⟩,str u,.agg #[str f.owner,str f.name,.slice qa f.grants.length ca,.int .i64 f.next,.slice qb f.mail.length cb],.int .i64 rr] B (.bool (Zqm x.users f u rr)):=by
 refine cB 29 Tryz.func191 (h:=?_)
 refine Za (xBx [_,_,_,_,_] (h:=fun b1=>xA (h:=tL1 (Za (xW Zd9 (h:=x1 ZrY 0 (h:=xW Zcv (h:=x1 lk9 0 (h:=xM (h:=xR Zzn rfl (Zna _ _ f.grants f.owner u om2 om2 _ hg) (h:=?_)))))))))))
 refine xA (h:=Za (xM (h:=xM (h:=xR ZtE rfl (Zht _ _ _ _ _ _ _ _ x u om2 _ hh hu) (h:=?_)))))
 refine xM (h:=Zs (d:=19) rfl (fun g1=>?_) (fun g1=>?_))
 refine xM (h:=ZdZ (h:=xT (h:=xM (h:=Zs (d:=23) rfl (fun g2=>?_) (fun g2=>?_)))))
 refine xM (h:=xM (h:=Zj (ZwG rfl rfl rfl rfl (ZaP (h:=xT (h:=xA (h:=Zd ?_)))))))
 exact eR t1 ⟨Zf (by simp [Zqm,g1,g2]),rfl,rfl⟩
 refine xP (h:=xP (h:=xP (h:=xP (h:=xF (h:=xA (h:=Zd ?_))))))
 exact eR t1 ⟨Zf (by simp [Zqm,g1,g2];try omega),rfl,rfl⟩
 refine xP (h:=xP (h:=xF (h:=xM (h:=xP (h:=xP (h:=xP (h:=xP (h:=xF (h:=xA (h:=Zd ?_))))))))))
 exact eR t1 ⟨Zf (by simp [Zqm,g1]),rfl,rfl⟩

theorem Zl3 (u y z:Str) (h1:u.length≤140737488355328) (h2:y.length≤140737488355328) (h3:z.length≤140737488355328) (left:Int) (hl0:0≤left) (hl1:left≤1048576) (B:Kn):Z8 (pj J) 6 [.agg #[str u,str y,str z],.int .i64 left] B (.int .i64 (szI left (u.length+y.length+z.length))):=by
 refine cB 27 Tryz.func6 (h:=?_)
 refine Za (xBx [_,_,_] (h:=fun b1=>xA (h:=tL1 (Za (xM (h:=xW Zus (h:=x1 lk9 0 (h:=xVs Tryz.underlying9 (h:=xU (h:=xA (h:=Zc (Za (xM (h:=ZG (h:=Zb rfl (fun g1=>?_) (fun g1=>?_))))))))))))))))
 try simp only [sQ,ne_eq] at g1
 refine Za (xA (h:=Zd (Zl ?_)))
 exact eR t1 ⟨ZF (by first | (unfold szI;split <;> omega)),rfl,rfl⟩
 try simp only [sQ,ne_eq] at g1
 refine wSk (Za (xM (h:=xW Zur (h:=x1 lk9 0 (h:=xVs Tryz.underlying9 (h:=xU (h:=xA (h:=Zc (Za (xM (h:=ZG (h:=Zb rfl (fun g2=>?_) (fun g2=>?_)))))))))))))
 try simp only [sQ,ne_eq] at g2
 refine Za (xA (h:=Zd (Zl ?_)))
 exact eR t1 ⟨ZF (by first | (unfold szI;split <;> omega)),rfl,rfl⟩
 try simp only [sQ,ne_eq] at g2
 refine wSk (Za (xM (h:=xW Zuq (h:=x1 lk9 0 (h:=xVs Tryz.underlying9 (h:=xU (h:=xA (h:=Zc (Za (xM (h:=ZG (h:=Zb rfl (fun g3=>?_) (fun g3=>?_)))))))))))))
 try simp only [sQ,ne_eq] at g3
 refine Za (xA (h:=Zd (Zl ?_)))
 exact eR t1 ⟨ZF (by first | (unfold szI;split <;> omega)),rfl,rfl⟩
 try simp only [sQ,ne_eq] at g3
 refine wSk (Za (xM (h:=xA (h:=Zd ?_))))
 exact eR t1 ⟨ZF (by first | (unfold szI;split <;> omega)),rfl,rfl⟩

theorem ZbZ (u y z:Str) (B:Kn):Z8 (pj J) 10 [.agg #[str u,str y,str z]] B (.agg #[str u,str y,str z]):=by
 refine cB 14 Tryz.func10 (h:=?_)
 refine Za (xBx [_,_,_] (h:=fun b1=>xAl [_,_,_] ZAJ (h:=fun b2=>tL2 (Za (xAl [_,_,_] ZAJ (h:=fun b3=>tL3 (Za (xW Zus (h:=x1 lk9 0 (h:=xW ZnN (h:=xS [_] 2 [_,_,_] sz9 (h:=tL3 (Za (xW Zur (h:=x1 lk9 0 (h:=xW ZqQ (h:=xS [_] 2 [_,_,_] sz9 (h:=tL3 (Za (xW Zuq (h:=x1 lk9 0 (h:=xW ZqP (h:=xS [_] 2 [_,_,_] sz9 (h:=tL3 (Za (xL [_,_,_] Zw5 2 (h:=xS [_,_,_] 1 [_,_,_] ZBj (h:=tL3 (Zd ?_)))))))))))))))))))))))))))))
 exact eR ⟨⟨_,rfl,.inr ⟨[_,_,_],Zw5,Zbu 1 rfl rfl rfl,rfl⟩⟩,trivial⟩ ⟨rfl,rfl,rfl⟩

theorem ZmN (q:Option Addr) (cp:Nat) (xs:List DMail) (k m n:Nat) (hmn:m=n) (he:xs=Zb6 k n) (hk:k+3*n≤900000000000000) (B:Kn) (hx0:SlK B q cp 3 Zab xs):Z8 (pj J) 109 [.slice q m cp,.int .i64 k] B (.int .i64 ((k+3*n:Nat):Int)):=by
 refine cB 41 Tryz.func109 (h:=?_)
 have hxn:=hx0.len
 have hxl:xs.length=n:=by rw [he];exact ZaL _ _
 refine Za (xA (h:=Zc (Za (xA (h:=Zg (Zy (α:=Nat) [0] (fun g=>[(1,.int .i64 ((k+3*g:Nat):Int)),(5,.int .i64 g)]) [] (fun g=>[]) (fun g Bx=>Bx=B∧g≤n) (fun g=>n - g) 0 t2 rfl (⟨rfl,Nat.zero_le _⟩) (fun g B1 hle1 hI=>?_)))))))
 obtain ⟨rfl,hi⟩:=hI
 refine ZD [(0,_),(1,_),(5,_)] [] t3 rfl (Zc (Za (xM (h:=xM (h:=xV Tryz.underlying80 (h:=ZG (h:=Zb rfl (fun g1=>?_) (fun g1=>?_))))))))
 try simp only [sQ,ne_eq] at g1
 have hx:xs[g]? = some (⟨((k+3*g:Nat):Int),((k+3*g+1:Nat):Int),ZY (k+3*g+1+1)⟩:DMail):=by rw [he];exact Zmn oz
 refine wSk (Zc (Zg (Zc (Za (xM (h:=xM (h:=?_)))))))
 obtain ⟨bb2,oo2,rfl⟩:=hx0.base hx
 obtain ⟨_,⟨rfl,hb3⟩,hc3⟩:=hx0.elem hx
 refine xIx Tryz.underlying80 ZcT (h:=xW Zc3 (h:=y1 lk3 hc3 0 (h:=xM (h:=ZaP (h:=Zb rfl (fun h1=>by simp at h1) (fun h1=>?_))))))
 try simp only [sQ,ne_eq] at h1
 refine wSk (Za (xM (h:=xD (h:=xA (h:=Zc (Za (xM (h:=xM (h:=xIx Tryz.underlying80 ZcT (h:=xW Zdy (h:=y1 lk3 hc3 1 (h:=xM (h:=ZaP (h:=Zb rfl (fun h2=>by simp at h2) (fun h2=>?_)))))))))))))))
 try simp only [sQ,ne_eq] at h2
 refine wSk (Za (xM (h:=xD (h:=xA (h:=Zc (Zc (Z3 (same _ _) mo kr ⟨rfl,rfl⟩ (fun _ _=>?_))))))))
 refine aM 0 rfl (h:=aM 1 rfl (h:=aIx 2 rfl Tryz.underlying80 ZcT (h:=aW 3 rfl Zez (h:=aT 4 rfl (Zaf fun D=>Zo rfl rfl lk9 rfl (hc3 _ 2 _ rfl) r4) (h:=aM 5 rfl (h:=aT 6 rfl (Zaf fun D=>Z9 rfl rfl ZeR rfl (Zao (((k+3*g)+1)+1) oz _) r4) (h:=?_)))))))
 refine ZfK 7 rfl (h:=Zu kr kr ?_)
 refine Zn (Zb rfl (fun h3=>by simp at h3) (fun h3=>?_))
 try simp only [sQ,ne_eq] at h3
 refine wSk (Ze (xM (h:=xD (h:=xA (h:=ZK (Zn (Ze (xM (h:=xD (h:=xA (h:=?_)))))))))))
 exact ZC (g+1) [] so2 ⟨rfl,oz⟩ t3 rfl
 try simp only [sQ,ne_eq] at g1
 refine ZE (ZT (ZH (Zv (Zn (Za (xM (h:=xA (h:=Zd ?_))))))))
 exact eR t1 ⟨ZF (by rw [show g=n from by omega]),rfl,rfl⟩

theorem Zlj (q:Option Addr) (cp:Nat) (xs:List DGrant) (k m n:Nat) (hmn:m=n) (he:xs=ZaK k n) (hk:k+2*n≤900000000000000) (B:Kn) (hx0:SlK B q cp 2 Zac xs):Z8 (pj J) 108 [.slice q m cp,.int .i64 k] B (.int .i64 ((k+2*n:Nat):Int)):=by
 refine cB 32 Tryz.func108 (h:=?_)
 have hxn:=hx0.len
 have hxl:xs.length=n:=by rw [he];exact Zaz _ _
 refine Za (xA (h:=Zc (Za (xA (h:=Zg (Zy (α:=Nat) [0] (fun g=>[(1,.int .i64 ((k+2*g:Nat):Int)),(5,.int .i64 g)]) [] (fun g=>[]) (fun g Bx=>Bx=B∧g≤n) (fun g=>n - g) 0 t2 rfl (⟨rfl,Nat.zero_le _⟩) (fun g B1 hle1 hI=>?_)))))))
 obtain ⟨rfl,hi⟩:=hI
 refine ZD [(0,_),(1,_),(5,_)] [] t3 rfl (Zc (Za (xM (h:=xM (h:=xV Tryz.underlying85 (h:=ZG (h:=Zb rfl (fun g1=>?_) (fun g1=>?_))))))))
 try simp only [sQ,ne_eq] at g1
 have hx:xs[g]? = some (⟨ZY (k+2*g),((k+2*g+1:Nat):Int)⟩:DGrant):=by rw [he];exact Zk2 oz
 refine wSk (Zc (Zg (Zc (Zc (Z3 (same _ _) mo kr ⟨rfl,rfl⟩ (fun _ _=>?_))))))
 refine aM 0 rfl (h:=aM 1 rfl (h:=?_))
 obtain ⟨bb2,oo2,rfl⟩:=hx0.base hx
 obtain ⟨_,⟨rfl,hb3⟩,hc3⟩:=hx0.elem hx
 refine aIx 2 rfl Tryz.underlying85 ZdT (h:=aW 3 rfl Zcw (h:=aT 4 rfl (Zaf fun D=>Zo rfl rfl lk9 rfl (hc3 _ 0 _ rfl) r4) (h:=aM 5 rfl (h:=aT 6 rfl (Zaf fun D=>Z9 rfl rfl ZeR rfl (Zao (k+2*g) oz _) r4) (h:=?_)))))
 refine ZfK 7 rfl (h:=Zu kr kr ?_)
 refine Zn (Zb rfl (fun h1=>by simp at h1) (fun h1=>?_))
 try simp only [sQ,ne_eq] at h1
 refine wSk (Za (xM (h:=xD (h:=xA (h:=Zc (Za (xM (h:=xM (h:=xIx Tryz.underlying85 ZdT (h:=xW Zdx (h:=y1 lk3 hc3 1 (h:=xM (h:=ZaP (h:=Zb rfl (fun h2=>by simp at h2) (fun h2=>?_)))))))))))))))
 try simp only [sQ,ne_eq] at h2
 refine wSk (Ze (xM (h:=xD (h:=xA (h:=ZK (Zn (Ze (xM (h:=xD (h:=xA (h:=?_)))))))))))
 exact ZC (g+1) [] so2 ⟨rfl,oz⟩ t3 rfl
 try simp only [sQ,ne_eq] at g1
 refine ZE (ZT (ZH (Zv (Zn (Za (xM (h:=xA (h:=Zd ?_))))))))
 exact eR t1 ⟨ZF (by rw [show g=n from by omega]),rfl,rfl⟩

theorem ZmL (q:Option Addr) (cp:Nat) (xs:List DUser) (k m n:Nat) (hmn:m=n) (he:xs=ZcJ k n) (hk:k+3*n≤900000000000000) (B:Kn) (hx0:SlK B q cp 3 Zp xs):Z8 (pj J) 55 [.slice q m cp,.int .i64 k] B (.int .i64 ((k+3*n:Nat):Int)):=by
 refine cB 42 Tryz.func55 (h:=?_)
 have hxn:=hx0.len
 have hxl:xs.length=n:=by rw [he];exact Zbv _ _
 refine Za (xA (h:=Zc (Za (xA (h:=Zg (Zy (α:=Nat) [0] (fun g=>[(1,.int .i64 ((k+3*g:Nat):Int)),(5,.int .i64 g)]) [] (fun g=>[]) (fun g Bx=>Bx=B∧g≤n) (fun g=>n - g) 0 t2 rfl (⟨rfl,Nat.zero_le _⟩) (fun g B1 hle1 hI=>?_)))))))
 obtain ⟨rfl,hi⟩:=hI
 refine ZD [(0,_),(1,_),(5,_)] [] t3 rfl (Zc (Za (xM (h:=xM (h:=xV Tryz.underlying35 (h:=ZG (h:=Zb rfl (fun g1=>?_) (fun g1=>?_))))))))
 try simp only [sQ,ne_eq] at g1
 have hx:xs[g]? = some (⟨ZY (k+3*g),ZY (k+3*g+1),((k+3*g+1+1:Nat):Int)⟩:DUser):=by rw [he];exact Zml oz
 refine wSk (Zc (Zg (Zc (Zc (Z3 (same _ _) mo kr ⟨rfl,rfl⟩ (fun _ _=>?_))))))
 refine aM 0 rfl (h:=aM 1 rfl (h:=?_))
 obtain ⟨bb2,oo2,rfl⟩:=hx0.base hx
 obtain ⟨_,⟨rfl,hb3,hb3b⟩,hc3⟩:=hx0.elem hx
 refine aIx 2 rfl Tryz.underlying35 Zbr (h:=aW 3 rfl Zbg (h:=aT 4 rfl (Zaf fun D=>Zo rfl rfl lk9 rfl (hc3 _ 0 _ rfl) r4) (h:=aM 5 rfl (h:=aT 6 rfl (Zaf fun D=>Z9 rfl rfl ZeR rfl (Zao (k+3*g) oz _) r4) (h:=?_)))))
 refine ZfK 7 rfl (h:=Zu kr kr ?_)
 refine Zn (Zb rfl (fun h1=>by simp at h1) (fun h1=>?_))
 try simp only [sQ,ne_eq] at h1
 refine wSk (Za (xM (h:=xD (h:=xA (h:=Zc (Zc (Z3 (same _ _) mo kr ⟨rfl,rfl⟩ (fun _ _=>?_))))))))
 refine aM 0 rfl (h:=aM 1 rfl (h:=aIx 2 rfl Tryz.underlying35 Zbr (h:=aW 3 rfl Zf0 (h:=aT 4 rfl (Zaf fun D=>Zo rfl rfl lk9 rfl (hc3 _ 1 _ rfl) r4) (h:=aM 5 rfl (h:=aT 6 rfl (Zaf fun D=>Z9 rfl rfl ZeR rfl (Zao ((k+3*g)+1) oz _) r4) (h:=?_)))))))
 refine ZfK 7 rfl (h:=Zu kr kr ?_)
 refine Zn (Zb rfl (fun h2=>by simp at h2) (fun h2=>?_))
 try simp only [sQ,ne_eq] at h2
 refine wSk (Za (xM (h:=xD (h:=xA (h:=Zc (Za (xM (h:=xM (h:=xIx Tryz.underlying35 Zbr (h:=xW ZdX (h:=y1 lk3 hc3 2 (h:=xM (h:=ZaP (h:=Zb rfl (fun h3=>by simp at h3) (fun h3=>?_)))))))))))))))
 try simp only [sQ,ne_eq] at h3
 refine wSk (Ze (xM (h:=xD (h:=xA (h:=ZK (Zn (Ze (xM (h:=xD (h:=xA (h:=?_)))))))))))
 exact ZC (g+1) [] so2 ⟨rfl,oz⟩ t3 rfl
 try simp only [sQ,ne_eq] at g1
 refine ZE (ZT (ZH (Zv (Zn (Za (xM (h:=xA (h:=Zd ?_))))))))
 exact eR t1 ⟨ZF (by rw [show g=n from by omega]),rfl,rfl⟩

theorem ZoN (q:Option Addr) (cp:Nat) (xs:List Str) (k m n:Nat) (hmn:m=n) (he:xs=Zdu k n) (hk:k+1*n≤900000000000000) (B:Kn) (hx0:SlK B q cp 1 ZdF xs):Z8 (pj J) 154 [.slice q m cp,.int .i64 k] B (.int .i64 ((k+1*n:Nat):Int)):=by
 refine cB 22 Tryz.func154 (h:=?_)
 have hxn:=hx0.len
 have hxl:xs.length=n:=by rw [he];exact Zbm _ _
 refine Za (xA (h:=Zc (Za (xA (h:=Zg (Zy (α:=Nat) [0] (fun g=>[(1,.int .i64 ((k+1*g:Nat):Int)),(5,.int .i64 g)]) [] (fun g=>[]) (fun g Bx=>Bx=B∧g≤n) (fun g=>n - g) 0 t2 rfl (⟨rfl,Nat.zero_le _⟩) (fun g B1 hle1 hI=>?_)))))))
 obtain ⟨rfl,hi⟩:=hI
 refine ZD [(0,_),(1,_),(5,_)] [] t3 rfl (Zc (Za (xM (h:=xM (h:=xV Tryz.underlying134 (h:=ZG (h:=Zb rfl (fun g1=>?_) (fun g1=>?_))))))))
 try simp only [sQ,ne_eq] at g1
 have hx:xs[g]? = some (ZY (k+1*g):Str):=by rw [he];exact ZoA oz
 refine wSk (Zc (Zg (Zc (Zc (Z3 (same _ _) mo kr ⟨rfl,rfl⟩ (fun _ _=>?_))))))
 refine aM 0 rfl (h:=aM 1 rfl (h:=?_))
 obtain ⟨bb2,oo2,rfl⟩:=hx0.base hx
 obtain ⟨_,⟨rfl,hb3⟩,hc3⟩:=hx0.elem hx
 refine aIx 2 rfl Tryz.underlying134 sz9 (h:=aT 3 rfl (Zaf fun D=>Zo rfl rfl lk9 rfl (hc3 _ 0 _ rfl) r4) (h:=aM 4 rfl (h:=aT 5 rfl (Zaf fun D=>Z9 rfl rfl ZeR rfl (Zao (k+1*g) oz _) r4) (h:=?_))))
 refine ZfK 6 rfl (h:=Zu kr kr ?_)
 refine Zn (Zb rfl (fun h1=>by simp at h1) (fun h1=>?_))
 try simp only [sQ,ne_eq] at h1
 refine wSk (Ze (xM (h:=xD (h:=xA (h:=ZK (Zn (Ze (xM (h:=xD (h:=xA (h:=?_)))))))))))
 exact ZC (g+1) [] so2 ⟨rfl,oz⟩ t3 rfl
 try simp only [sQ,ne_eq] at g1
 refine ZE (ZT (ZH (Zv (Zn (Za (xM (h:=xA (h:=Zd ?_))))))))
 exact eR t1 ⟨ZF (by rw [show g=n from by omega]),rfl,rfl⟩

set_option maxHeartbeats 400000 in
theorem ZjD (q:Option Addr) (cp:Nat) (xs:List DFolder) (l:Cells) (k:Nat) (hk:kL ZbM k xs≤800000000000000) (hn:xs.length≤2000000) (B:Kn) (hv:ZaV l q cp 87 5 (ZZ 223 146) xs):Zw (pj J) 53 [.slice q xs.length cp,.int .i64 k] B [l] (fun v B' Ls=>B'=B∧∃l',Ls=[l']∧v = .int .i64 ((kL ZbM k xs:Nat):Int)∧ZaV l' q cp 87 5 (ZZ 223 146) (mkL ZbM mkF k xs)):=by
 refine ZcO 52 Tryz.func53 rfl rfl rfl (Nat.le_of_ble_eq_true rfl) ?_
 have hvc:=hv.cap
 refine Za ?_
 refine xA (h:=?_)
 refine Zc ?_
 refine Za ?_
 refine xA (h:=?_)
 refine Zg ?_
 refine Zy (α:=Nat × Nat × Cells × List DFolder) [4] (fun g=>[(0,.slice q xs.length cp),(1,.int .i64 ((g.2.1:Nat):Int)),(5,.int .i64 g.1)]) [0] (fun g=>[g.2.2.1]) (fun g Bx=>Bx=B∧g.1≤xs.length∧g.2.1=kL ZbM k (xs.take g.1)∧g.2.2.2.length=xs.length∧g.2.2.2.take g.1=mkL ZbM mkF k (xs.take g.1)∧g.2.2.2.drop g.1=xs.drop g.1∧ZaV g.2.2.1 q cp 87 5 (ZZ 223 146) g.2.2.2) (fun g=>xs.length - g.1) (0,k,l,xs) t3 rfl (⟨rfl,Nat.zero_le _,ZnG.symm,rfl,rfl,rfl,hv⟩) (fun g B1 hle1 hI=>?_)
 obtain ⟨rfl,hi,hs,hle,ht,hd,hw⟩:=hI
 refine ZD [(0,_),(1,_),(4,_),(5,_)] [_] t4 rfl ?_
 refine Zc ?_
 refine Za ?_
 refine xM (h:=?_)
 refine xM (h:=?_)
 refine xV Tryz.underlying36 (h:=?_)
 refine ZG (h:=?_)
 refine Zb rfl (fun g1=>?_) (fun g1=>?_)
 try simp only [sQ,ne_eq] at g1
 obtain ⟨x,hx⟩:=ZX (xs:=xs) (i:=g.1) oz
 have hy:=(ZnR hd).trans hx
 have hkl:=Nat.le_trans (Ztc (st:=ZbM) (k:=k) hx) hk
 rw [← hs] at hkl
 have hst:ZbM x=3+2*x.grants.length+3*x.mail.length:=rfl
 refine ZS ?_
 refine Zn ?_
 refine Zc ?_
 refine Zg ?_
 refine Za ?_
 refine xM (h:=?_)
 refine xM (h:=?_)
 refine xM (h:=?_)
 refine xR ZeR rfl (Zao (g.2.1) oz _) (h:=?_)
 obtain ⟨bb3,_,li3,lr3,hp3,⟨qg3,cg3,qm3,cm3,ia3,ib3,rfl,rfl,hg3,hm3,ho3,hn3,hx3,hy3⟩,hw3,hq3,hc3,hk3⟩:=hw.cell (B:=B1) (L:=[g.2.2.1]) hy 0 rfl
 refine xIp hp3 Tryz.underlying36 Zb1 (h:=?_)
 refine xW Zcv (h:=?_)
 refine Zj (ZiH (k:=g.1) (us:=[_]) ((⟨ZY (g.2.1),x.name,x.grants,x.next,x.mail⟩:DFolder)) 0 0 rfl hw hp3 hy rfl rfl sz9 rfl rfl rfl rfl (Nat.le_of_ble_eq_true rfl) (by rintro _ _ ⟨_,_,_,_,_,_,rfl,rfl,h1,h2,h3,h4,h5,h6⟩;exact ⟨_,_,_,_,_,_,rfl,rfl,h1,h2,show (ZY (g.2.1)).length≤2000000 from Nat.le_trans (Zcq (k:=g.2.1) oz) (by decide),h4,h5,h6⟩) (fun l4 hv4=>?_))
 have hs4:=Zeu (z:=((⟨ZY (g.2.1),x.name,x.grants,x.next,x.mail⟩:DFolder))) hy
 refine Zph [_] rfl ?_
 refine Za ?_
 refine xM (h:=?_)
 refine xD (h:=?_)
 refine xA (h:=?_)
 refine Za ?_
 refine xM (h:=?_)
 refine xM (h:=?_)
 refine xM (h:=?_)
 refine xR ZeR rfl (Zao ((g.2.1)+1) oz _) (h:=?_)
 obtain ⟨bb6,_,li6,lr6,hp6,⟨qg6,cg6,qm6,cm6,ia6,ib6,rfl,rfl,hg6,hm6,ho6,hn6,hx6,hy6⟩,hw6,hq6,hc6,hk6⟩:=hv4.cell (B:=B1) (L:=[l4]) hs4 0 rfl
 refine xIp hp6 Tryz.underlying36 Zb1 (h:=?_)
 refine xW Zea (h:=?_)
 refine Zj (ZiH (k:=g.1) (us:=[_]) ((⟨ZY (g.2.1),ZY (g.2.1+1),x.grants,x.next,x.mail⟩:DFolder)) 1 0 rfl hv4 hp6 hs4 rfl rfl sz9 rfl rfl rfl rfl (Nat.le_of_ble_eq_true rfl) (by rintro _ _ ⟨_,_,_,_,_,_,rfl,rfl,h1,h2,h3,h4,h5,h6⟩;exact ⟨_,_,_,_,_,_,rfl,rfl,h1,h2,h3,show (ZY (g.2.1+1)).length≤2000000 from Nat.le_trans (Zcq (k:=g.2.1+1) oz) (by decide),h5,h6⟩) (fun l7 hv7=>?_))
 rw [List.set_set] at hv7
 have hs7:=Zeu (z:=((⟨ZY (g.2.1),ZY (g.2.1+1),x.grants,x.next,x.mail⟩:DFolder))) hy
 refine Zph [_] rfl ?_
 obtain ⟨bb8,_,li8,lr8,hp8,⟨qg8,cg8,qm8,cm8,ia8,ib8,rfl,rfl,hg8,hm8,ho8,hn8,hx8,hy8⟩,hw8,hq8,hc8,hk8⟩:=hv7.cell (B:=B1) (L:=[_]) hs7 0 rfl
 replace hc8:=fun m u h=>(hc8 m u h).perm (ZgE 0 rfl (ZsN hq8))
 refine Zel 0 rfl (ZsN hq8) ?_
 refine Za ?_
 refine xM (h:=?_)
 refine xD (h:=?_)
 refine xA (h:=?_)
 refine Zph [_,_,_] rfl ?_
 refine Za ?_
 refine xM (h:=?_)
 refine xM (h:=?_)
 refine xIp hp8 Tryz.underlying36 Zb1 (h:=?_)
 refine xW Zd9 (h:=?_)
 refine Zj (Zo rfl rfl ZrY rfl (hc8 2 _ rfl) ?_)
 refine xM (h:=?_)
 refine Zj (ZbH [1] rfl rfl rfl rfl ZAD rfl (Zk5 _ _ (((⟨ZY (g.2.1),ZY (g.2.1+1),x.grants,x.next,x.mail⟩:DFolder)).grants) _ (((g.2.1)+1)+1) oz oz _ (hg8.anyK Zac.any)) ?_)
 rintro _ B9 _ hle9 ⟨rfl,l9,rfl,rfl,hs9⟩
 refine xA (h:=?_)
 refine Zph [_,_,_] rfl ?_
 refine Zeo 0 2 rfl rfl (by decide) ?_
 refine Zeo 0 1 rfl rfl (by decide) ?_
 have hv10:=hk8 (⟨ZY (g.2.1),ZY (g.2.1+1),ZaK (g.2.1+1+1) x.grants.length,x.next,x.mail⟩:DFolder) _ ⟨qg8,cg8,qm8,cm8,_,_,by simp only [Zaz,ZaL],rfl,hs9.anyK Zac.any,hm8.anyK Zab.any,ho8,hn8,by first | assumption | (rw [Zaz];assumption),by first | assumption | (rw [ZaL];assumption)⟩
 rw [List.append_assoc,List.set_set] at hv10
 have hs10:=Zeu (z:=((⟨ZY (g.2.1),ZY (g.2.1+1),ZaK (g.2.1+1+1) x.grants.length,x.next,x.mail⟩:DFolder))) hy
 refine Zpk [0] rfl ?_
 refine Za ?_
 refine xM (h:=?_)
 refine xM (h:=?_)
 refine xM (h:=?_)
 obtain ⟨bb11,_,li11,lr11,hp11,⟨qg11,cg11,qm11,cm11,ia11,ib11,rfl,rfl,hg11,hm11,ho11,hn11,hx11,hy11⟩,hw11,hq11,hc11,hk11⟩:=hv10.cell (B:=B9) (L:=[_]) hs10 0 rfl
 refine xIp hp11 Tryz.underlying36 Zb1 (h:=?_)
 refine xW Zbi (h:=?_)
 refine xW ZfF (h:=?_)
 refine Zj (ZiH (k:=g.1) (us:=[_]) ((⟨ZY (g.2.1),ZY (g.2.1+1),ZaK (g.2.1+1+1) x.grants.length,((g.2.1+1+1+2*x.grants.length:Nat):Int),x.mail⟩:DFolder)) 3 0 rfl hv10 hp11 hs10 rfl rfl sz3 rfl rfl rfl rfl (Nat.le_of_ble_eq_true rfl) (by rintro _ _ ⟨_,_,_,_,_,_,rfl,rfl,h1,h2,h3,h4,h5,h6⟩;exact ⟨_,_,_,_,_,_,rfl,rfl,h1,h2,h3,h4,h5,h6⟩) (fun l12 hv12=>?_))
 rw [List.set_set] at hv12
 have hs12:=Zeu (z:=((⟨ZY (g.2.1),ZY (g.2.1+1),ZaK (g.2.1+1+1) x.grants.length,((g.2.1+1+1+2*x.grants.length:Nat):Int),x.mail⟩:DFolder))) hy
 refine Zph [_] rfl ?_
 obtain ⟨bb13,_,li13,lr13,hp13,⟨qg13,cg13,qm13,cm13,ia13,ib13,rfl,rfl,hg13,hm13,ho13,hn13,hx13,hy13⟩,hw13,hq13,hc13,hk13⟩:=hv12.cell (B:=B9) (L:=[_]) hs12 0 rfl
 replace hc13:=fun m u h=>(hc13 m u h).perm (ZgE 0 rfl (ZsN hq13))
 refine Zel 0 rfl (ZsN hq13) ?_
 refine Za ?_
 refine xM (h:=?_)
 refine xD (h:=?_)
 refine xA (h:=?_)
 refine Zph [_,_,_] rfl ?_
 refine Ze ?_
 refine xM (h:=?_)
 refine xM (h:=?_)
 refine xIp hp13 Tryz.underlying36 Zb1 (h:=?_)
 refine xW Zbi (h:=?_)
 refine xW Zbj (h:=?_)
 refine Zj (Zo rfl rfl ZhZ rfl (hc13 4 _ rfl) ?_)
 refine xM (h:=?_)
 refine Zj (ZbH [2] rfl rfl rfl rfl ZAC rfl (Zmu _ _ (((⟨ZY (g.2.1),ZY (g.2.1+1),ZaK (g.2.1+1+1) x.grants.length,((g.2.1+1+1+2*x.grants.length:Nat):Int),x.mail⟩:DFolder)).mail) _ (((((g.2.1)+1)+1)+2*(((⟨ZY (g.2.1),ZY (g.2.1+1),x.grants,x.next,x.mail⟩:DFolder)).grants).length)+1) oz oz _ (hm13.anyK Zab.any)) ?_)
 rintro _ B14 _ hle14 ⟨rfl,l14,rfl,rfl,hs14⟩
 refine xA (h:=?_)
 refine ZK (Zn ?_)
 refine Zeo 0 2 rfl rfl (by decide) ?_
 refine Zeo 0 1 rfl rfl (by decide) ?_
 have hv15:=hk13 (⟨ZY (g.2.1),ZY (g.2.1+1),ZaK (g.2.1+1+1) x.grants.length,((g.2.1+1+1+2*x.grants.length:Nat):Int),Zb6 (g.2.1+1+1+2*x.grants.length+1) x.mail.length⟩:DFolder) _ ⟨qg13,cg13,qm13,cm13,_,_,by simp only [Zaz,ZaL],rfl,hg13.anyK Zac.any,hs14.anyK Zab.any,ho13,hn13,by first | assumption | (rw [Zaz];assumption),by first | assumption | (rw [ZaL];assumption)⟩
 rw [List.append_assoc,List.set_set] at hv15
 have hs15:=Zeu (z:=((⟨ZY (g.2.1),ZY (g.2.1+1),ZaK (g.2.1+1+1) x.grants.length,((g.2.1+1+1+2*x.grants.length:Nat):Int),Zb6 (g.2.1+1+1+2*x.grants.length+1) x.mail.length⟩:DFolder))) hy
 refine Zpk [0] rfl ?_
 refine Ze ?_
 refine xM (h:=?_)
 refine xD (h:=?_)
 refine xA (h:=?_)
 exact ZC (g.1+1,g.2.1+1+1+2*x.grants.length+1+3*x.mail.length,_,(g.2.2.2.set g.1 ((⟨ZY (g.2.1),ZY (g.2.1+1),ZaK (g.2.1+1+1) x.grants.length,((g.2.1+1+1+2*x.grants.length:Nat):Int),Zb6 (g.2.1+1+1+2*x.grants.length+1) x.mail.length⟩:DFolder)))) [0] so2 ⟨rfl,so,by simp only [];rw [Zh1 hx,← hs,hst];omega,Znn hle,Zk1 ht hx hle hs,ZnQ hd,hv15⟩ t4 rfl
 try simp only [sQ,ne_eq] at g1
 have he:=Zqk ht hle oz
 have hgi:g.1=xs.length:=by omega
 refine ZE (ZT (ZH (Zv (Zn ?_))))
 refine Za ?_
 refine xM (h:=?_)
 refine xA (h:=?_)
 refine Zd ?_
 exact ZdI .ret (.inl rfl) [_] [0] rfl t1 ⟨rfl,_,rfl,by rw [hs,ZnH oz];rfl,by rw [← he];exact hw⟩

theorem Zmv (q:Option Addr) (cp:Nat) (xs:List DItem) (l:Cells) (k:Nat) (hk:kL Zch k xs≤800000000000000) (hn:xs.length≤2000000) (B:Kn) (hv:ZaV l q cp 136 4 (ZaX 9) xs):Zw (pj J) 107 [.slice q xs.length cp,.int .i64 k] B [l] (fun v B' Ls=>B'=B∧∃l',Ls=[l']∧v = .int .i64 ((kL Zch k xs:Nat):Int)∧ZaV l' q cp 136 4 (ZaX 9) (mkL Zch mkI k xs)):=by
 refine cB 43 Tryz.func107 (h:=?_)
 have hvc:=hv.cap
 refine Za (xA (h:=Zc (Za (xA (h:=Zg (Zy (α:=Nat × Nat × Cells × List DItem) [4] (fun g=>[(0,.slice q xs.length cp),(1,.int .i64 ((g.2.1:Nat):Int)),(5,.int .i64 g.1)]) [0] (fun g=>[g.2.2.1]) (fun g Bx=>Bx=B∧g.1≤xs.length∧g.2.1=kL Zch k (xs.take g.1)∧g.2.2.2.length=xs.length∧g.2.2.2.take g.1=mkL Zch mkI k (xs.take g.1)∧g.2.2.2.drop g.1=xs.drop g.1∧ZaV g.2.2.1 q cp 136 4 (ZaX 9) g.2.2.2) (fun g=>xs.length - g.1) (0,k,l,xs) t3 rfl (⟨rfl,Nat.zero_le _,ZnG.symm,rfl,rfl,rfl,hv⟩) (fun g B1 hle1 hI=>?_)))))))
 obtain ⟨rfl,hi,hs,hle,ht,hd,hw⟩:=hI
 refine ZD [(0,_),(1,_),(4,_),(5,_)] [_] t4 rfl (Zc (Za (xM (h:=xM (h:=xV Tryz.underlying37 (h:=ZG (h:=Zb rfl (fun g1=>?_) (fun g1=>?_))))))))
 try simp only [sQ,ne_eq] at g1
 obtain ⟨x,hx⟩:=ZX (xs:=xs) (i:=g.1) oz
 have hy:=(ZnR hd).trans hx
 have hkl:=Nat.le_trans (Ztc (st:=Zch) (k:=k) hx) hk
 rw [← hs] at hkl
 have hst:Zch x=3+x.left.length:=rfl
 refine wSk (Zc (Zg (Za (xM (h:=xM (h:=xM (h:=?_)))))))
 obtain ⟨bb2,_,li2,lr2,hp2,⟨qg2,cg2,rfl,hg2,ho2,hn2,hx2⟩,hw2,hq2,hc2,hk2⟩:=hw.cell (B:=B1) (L:=[g.2.2.1]) hy 0 rfl
 refine xIp hp2 Tryz.underlying37 ZbA (h:=xW ZeB (h:=Zj (ZiH (k:=g.1) (us:=[_]) ((⟨((g.2.1:Nat):Int),x.fr,x.text,x.left⟩:DItem)) 0 0 rfl hw hp2 hy rfl rfl sz3 rfl rfl rfl rfl (Nat.le_of_ble_eq_true rfl) (by rintro _ _ ⟨_,_,rfl,h1,h2,h3,h4⟩;exact ⟨_,_,rfl,h1,h2,h3,h4⟩) (fun l3 hv3=>?_))))
 have hs3:=Zeu (z:=((⟨((g.2.1:Nat):Int),x.fr,x.text,x.left⟩:DItem))) hy
 refine tL1 (Za (xM (h:=xD (h:=xA (h:=Za (xM (h:=xM (h:=xM (h:=xR ZeR rfl (Zao ((g.2.1)+1) oz _) (h:=?_))))))))))
 obtain ⟨bb5,_,li5,lr5,hp5,⟨qg5,cg5,rfl,hg5,ho5,hn5,hx5⟩,hw5,hq5,hc5,hk5⟩:=hv3.cell (B:=B1) (L:=[l3]) hs3 0 rfl
 refine xIp hp5 Tryz.underlying37 ZbA (h:=xW ZeA (h:=Zj (ZiH (k:=g.1) (us:=[_]) ((⟨((g.2.1:Nat):Int),ZY (g.2.1+1),x.text,x.left⟩:DItem)) 1 0 rfl hv3 hp5 hs3 rfl rfl sz9 rfl rfl rfl rfl (Nat.le_of_ble_eq_true rfl) (by rintro _ _ ⟨_,_,rfl,h1,h2,h3,h4⟩;exact ⟨_,_,rfl,h1,show (ZY (g.2.1+1)).length≤2000000 from Nat.le_trans (Zcq (k:=g.2.1+1) oz) (by decide),h3,h4⟩) (fun l6 hv6=>?_))))
 rw [List.set_set] at hv6
 have hs6:=Zeu (z:=((⟨((g.2.1:Nat):Int),ZY (g.2.1+1),x.text,x.left⟩:DItem))) hy
 refine tL1 (Za (xM (h:=xD (h:=xA (h:=Za (xM (h:=xM (h:=xM (h:=xR ZeR rfl (Zao (((g.2.1)+1)+1) oz _) (h:=?_))))))))))
 obtain ⟨bb8,_,li8,lr8,hp8,⟨qg8,cg8,rfl,hg8,ho8,hn8,hx8⟩,hw8,hq8,hc8,hk8⟩:=hv6.cell (B:=B1) (L:=[l6]) hs6 0 rfl
 refine xIp hp8 Tryz.underlying37 ZbA (h:=xW ZfZ (h:=Zj (ZiH (k:=g.1) (us:=[_]) ((⟨((g.2.1:Nat):Int),ZY (g.2.1+1),ZY (g.2.1+1+1),x.left⟩:DItem)) 2 0 rfl hv6 hp8 hs6 rfl rfl sz9 rfl rfl rfl rfl (Nat.le_of_ble_eq_true rfl) (by rintro _ _ ⟨_,_,rfl,h1,h2,h3,h4⟩;exact ⟨_,_,rfl,h1,h2,show (ZY (g.2.1+1+1)).length≤2000000 from Nat.le_trans (Zcq (k:=g.2.1+1+1) oz) (by decide),h4⟩) (fun l9 hv9=>?_))))
 rw [List.set_set] at hv9
 have hs9:=Zeu (z:=((⟨((g.2.1:Nat):Int),ZY (g.2.1+1),ZY (g.2.1+1+1),x.left⟩:DItem))) hy
 refine tL1 ?_
 obtain ⟨bb10,_,li10,lr10,hp10,⟨qg10,cg10,rfl,hg10,ho10,hn10,hx10⟩,hw10,hq10,hc10,hk10⟩:=hv9.cell (B:=B1) (L:=[_]) hs9 0 rfl
 replace hc10:=fun m u h=>(hc10 m u h).perm (ZgE 0 rfl (Zw0 hq10))
 refine Zel 0 rfl (Zw0 hq10) ?_
 refine Za ?_
 refine Zj (Zcl rfl rfl rfl ?_)
 refine Zj (Zgz rfl rfl rfl rfl (by first | exact Zcy (by first | omega | (simp;done) | (simp;omega)) (by first | omega | (simp;done) | (simp;omega)) | rfl) ?_)
 refine Zj (Zcm rfl rfl rfl ?_)
 refine Zph [_,_] rfl ?_
 refine Ze ?_
 refine Zj (Zcl rfl rfl rfl ?_)
 refine Zj (Zcl rfl rfl rfl ?_)
 refine Zj (Zkm hp10 rfl rfl Tryz.underlying37 ZbA rfl rfl (by first | omega | (simp;done) | (simp;omega)) (by first | omega | (simp;done) | (simp;omega)) ?_)
 refine Zj (Zaw rfl rfl ZcM rfl ?_)
 refine Zj (Zo rfl rfl ZfV rfl (hc10 3 _ rfl) ?_)
 refine Zj (Zcl rfl rfl rfl ?_)
 refine Zj (ZbH [1] rfl rfl rfl rfl Zz3 rfl (ZjC _ _ (((⟨((g.2.1:Nat):Int),ZY (g.2.1+1),ZY (g.2.1+1+1),x.left⟩:DItem)).left) _ ((((g.2.1)+1)+1)+1) (by omega) (by omega) _ (hg10.anyK ZdF.any)) ?_)
 rintro _ B11 _ hle11 ⟨rfl,l11,rfl,rfl,hs11⟩
 refine xA (h:=ZK (Zn (Zeo 0 1 rfl rfl (by decide) ?_)))
 have hv12:=hk10 (⟨((g.2.1:Nat):Int),ZY (g.2.1+1),ZY (g.2.1+1+1),Zdu (g.2.1+1+1+1) x.left.length⟩:DItem) _ ⟨qg10,cg10,by simp only [Zbm],hs11.anyK ZdF.any,ho10,hn10,by first | assumption | (rw [Zbm];assumption)⟩
 rw [List.set_set] at hv12
 have hs12:=Zeu (z:=((⟨((g.2.1:Nat):Int),ZY (g.2.1+1),ZY (g.2.1+1+1),Zdu (g.2.1+1+1+1) x.left.length⟩:DItem))) hy
 refine Zpk [0] rfl (Ze (xM (h:=xD (h:=xA (h:=?_)))))
 exact ZC (g.1+1,g.2.1+1+1+1+1*x.left.length,_,(g.2.2.2.set g.1 ((⟨((g.2.1:Nat):Int),ZY (g.2.1+1),ZY (g.2.1+1+1),Zdu (g.2.1+1+1+1) x.left.length⟩:DItem)))) [0] so2 ⟨rfl,so,by simp only [];rw [Zh1 hx,← hs,hst];omega,Znn hle,Zk1 ht hx hle hs,ZnQ hd,hv12⟩ t4 rfl
 try simp only [sQ,ne_eq] at g1
 have he:=Zqk ht hle oz
 refine ZE (ZT (ZH (Zv (Zn (Za (xM (h:=xA (h:=Zd ?_))))))))
 exact ZdI .ret (.inl rfl) [_] [0] rfl ⟨rfl,trivial⟩ ⟨rfl,_,rfl,by rw [hs,ZnH (by omega)];rfl,by rw [← he];exact hw⟩

theorem Zmt (q1:Option Addr) (c1:Nat) (x:DQueue) (l1:Cells) (k:Nat) (hk:kL Zch k x.items≤800000000000000) (hn:x.items.length≤2000000) (B:Kn) (hv:ZaV l1 q1 c1 136 4 (ZaX 9) x.items):Zw (pj J) 54 [.agg #[.int .i64 x.next,.slice q1 x.items.length c1],.int .i64 k] B [l1] (fun v B' Ls=>B'=B∧∃l',Ls=[l']∧v = .int .i64 ((kL Zch k x.items:Nat):Int)∧ZaV l' q1 c1 136 4 (ZaX 9) (mkL Zch mkI k x.items)):=by
 refine cB 10 Tryz.func54 (h:=?_)
 refine Za (xBx [_,_] (h:=fun b1=>xA (h:=tL2 (Za (xW ZbT (h:=x1 ZiZ 1 (h:=xM (h:=xK [0] rfl ZAB rfl (Zmv _ _ x.items _ k oa oz _ hv) (h:=?_)))))))))
 rintro _ B2 _ hle2 ⟨rfl,l2,rfl,rfl,hs2⟩
 refine xA (h:=tL2 (Za (xM (h:=xA (h:=Zd ?_)))))
 exact eN [0] rfl t1 ⟨rfl,_,rfl,rfl,hs2⟩

theorem ZiX (q1 q2 q3:Option Addr) (c1 c2 c3:Nat) (x:DHost) (l1 l2 l3:Cells) (k:Nat) (hk:kH k x≤800000000000000) (hn1:x.users.length≤2000000) (hn2:x.folders.length≤2000000) (hn3:x.queue.items.length≤2000000) (B:Kn) (hu:ZW Kn.none l1 q1 c1 132 3 Zp x.users) (hf:ZaV l2 q2 c2 87 5 (ZZ 223 146) x.folders) (hi:ZaV l3 q3 c3 136 4 (ZaX 9) x.queue.items):Zw (pj J) 15 [.agg #[str x.domain,.slice q1 x.users.length c1,.slice q2 x.folders.length c2,.int .i64 x.queue.next,.slice q3 x.queue.items.length c3],.int .i64 k] B [l1,l2,l3] (fun v B' Ls=>B'=B∧∃l1' l2' l3',Ls=[l1',l2',l3']∧v = .int .i64 ((kH k x:Nat):Int)∧ZW Kn.none l1' q1 c1 132 3 Zp (ZcJ k x.users.length)∧ZaV l2' q2 c2 87 5 (ZZ 223 146) (mkL ZbM mkF (k+3*x.users.length) x.folders)∧ZaV l3' q3 c3 136 4 (ZaX 9) (mkL Zch mkI (kL ZbM (k+3*x.users.length) x.folders) x.queue.items)):=by
 refine cB 18 Tryz.func15 (h:=?_)
 have hk3:kL Zch (kL ZbM (k+3*x.users.length) x.folders) x.queue.items≤800000000000000:=hk
 have hk2:(kL ZbM (k+3*x.users.length) x.folders)≤800000000000000:=Nat.le_trans Ztb hk3
 have hk1:(k+3*x.users.length)≤800000000000000:=Nat.le_trans Ztb hk2
 refine Za (xBx [_,_,_,_,_] (h:=fun b1=>xA (h:=tL4 (Za (xW Zcg (h:=x1 ZjE 3 (h:=xM (h:=xK [0] rfl ZBT rfl (Zmr _ _ x.users _ k oz oz _ (hu.anyK Zp.any)) (h:=?_)))))))))
 rintro _ B2 _ hle2 ⟨rfl,l2,rfl,rfl,hs2⟩
 refine xA (h:=tL4 (Za (xW ZaA (h:=x1 ZeS 3 (h:=xM (h:=xK [1] rfl ZBS rfl (ZjD _ _ x.folders _ (k+3*x.users.length) oa oz _ hf) (h:=?_)))))))
 rintro _ B3 _ hle3 ⟨rfl,l3,rfl,rfl,hs3⟩
 refine xA (h:=tL4 (Za (xW ZeN (h:=xL [_,_] ZlR 3 (h:=xM (h:=xK [2] rfl ZBR rfl (Zmt _ _ x.queue _ (kL ZbM (k+3*x.users.length) x.folders) oa oz _ hi) (h:=?_)))))))
 rintro _ B4 _ hle4 ⟨rfl,l4a,rfl,rfl,hs4a⟩
 refine xA (h:=tL4 (Za (xM (h:=xA (h:=Zd ?_)))))
 exact eN [0,1,2] rfl t1 ⟨rfl,_,_,_,rfl,rfl,hs2.anyK Zp.any,hs3,hs4a⟩

theorem ZjN (q:Option Addr) (cp:Nat) (xs:List DFolder) (k m:Nat) (hmn:m=xs.length) (hk:kL ZbM k xs≤800000000000000) (B:Kn) (hx0:SlK B q cp 5 Zm (mkL ZbM mkF k xs)):Z8 (pj J) 56 [.slice q m cp,.int .i64 k] B (.int .i64 ((kL ZbM k xs:Nat):Int)):=by
 refine cB 62 Tryz.func56 (h:=?_)
 have hxn:=hx0.len
 have hml:=Zew (st:=ZbM) (mk:=mkF) (xs:=xs) k
 refine Za (xA (h:=Zc (Za (xA (h:=Zg (Zy (α:=Nat × Nat) [0] (fun g=>[(1,.int .i64 g.2),(5,.int .i64 g.1)]) [] (fun g=>[]) (fun g Bx=>Bx=B∧g.1≤xs.length∧g.2=kL ZbM k (xs.take g.1)) (fun g=>xs.length - g.1) (0,k) t2 rfl (⟨rfl,Nat.zero_le _,ZnG.symm⟩) (fun g B1 hle1 hI=>?_)))))))
 obtain ⟨rfl,hi,hs⟩:=hI
 refine ZD [(0,_),(1,_),(5,_)] [] t3 rfl (Zc (Za (xM (h:=xM (h:=xV Tryz.underlying36 (h:=ZG (h:=Zb rfl (fun g1=>?_) (fun g1=>?_))))))))
 try simp only [sQ,ne_eq] at g1
 obtain ⟨x,hx⟩:=ZX (xs:=xs) (i:=g.1) oz
 have hkl:=Nat.le_trans (Ztc (st:=ZbM) (k:=k) hx) hk
 rw [← hs] at hkl
 have hst:ZbM x=3+2*x.grants.length+3*x.mail.length:=rfl
 have hz:(mkL ZbM mkF k xs)[g.1]? = some (mkF g.2 x):=by rw [hs];exact Zmo k hx
 refine wSk (Zc (Zg (Zc (Zc (Z3 (same _ _) mo kr ⟨rfl,rfl⟩ (fun _ _=>?_))))))
 refine aM 0 rfl (h:=aM 1 rfl (h:=?_))
 obtain ⟨bb2,oo2,rfl⟩:=hx0.base hz
 obtain ⟨_,⟨qg3,cg3,qm3,cm3,rfl,hg3,hm3,hb3,hb3b⟩,hc3⟩:=hx0.elem hz
 have hg3n:=hg3.len
 have hm3n:=hm3.len
 have hm3s:=Zap hm3
 refine aIx 2 rfl Tryz.underlying36 Zb1 (h:=aW 3 rfl Zcv (h:=aT 4 rfl (Zaf fun D=>Zo rfl rfl lk9 rfl (hc3 _ 0 _ rfl) r4) (h:=aM 5 rfl (h:=aT 6 rfl (Zaf fun D=>Z9 rfl rfl ZeR rfl (Zao g.2 oz _) r4) (h:=?_)))))
 refine ZfK 7 rfl (h:=Zu kr kr ?_)
 refine Zn (Zb rfl (fun h1=>by simp [mkF] at h1) (fun h1=>?_))
 try simp only [sQ,ne_eq] at h1
 refine wSk (Za (xM (h:=xD (h:=xA (h:=Zc (Zc (Z3 (same _ _) mo kr ⟨rfl,rfl⟩ (fun _ _=>?_))))))))
 refine aM 0 rfl (h:=aM 1 rfl (h:=aIx 2 rfl Tryz.underlying36 Zb1 (h:=aW 3 rfl Zea (h:=aT 4 rfl (Zaf fun D=>Zo rfl rfl lk9 rfl (hc3 _ 1 _ rfl) r4) (h:=aM 5 rfl (h:=aT 6 rfl (Zaf fun D=>Z9 rfl rfl ZeR rfl (Zao (g.2+1) oz _) r4) (h:=?_)))))))
 refine ZfK 7 rfl (h:=Zu kr kr ?_)
 refine Zn (Zb rfl (fun h2=>by simp [mkF] at h2) (fun h2=>?_))
 try simp only [sQ,ne_eq] at h2
 refine wSk (Za (xM (h:=xD (h:=xA (h:=Za (xM (h:=xM (h:=xIx Tryz.underlying36 Zb1 (h:=xW Zd9 (h:=y1 ZrY hc3 2 (h:=xM (h:=xR ZAA rfl (Zlj _ _ _ ((g.2+1)+1) _ x.grants.length (by first | rfl | exact Zaz _ _) rfl oz _ hg3) (h:=?_)))))))))))))
 refine xA (h:=Zc (Za (xM (h:=ZG (h:=Zb rfl (fun h3=>by first | omega | (simp at h3;done) | (simp at h3;omega)) (fun h3=>?_))))))
 try simp only [sQ,ne_eq] at h3
 refine wSk (Zc (Za (xM (h:=xM (h:=xIx Tryz.underlying36 Zb1 (h:=xW Zbi (h:=xW ZfF (h:=y1 lk3 hc3 3 (h:=xM (h:=ZaP (h:=Zb rfl (fun h4=>by simp [mkF] at h4) (fun h4=>?_))))))))))))
 try simp only [sQ,ne_eq] at h4
 refine wSk (Za (xM (h:=xD (h:=xA (h:=Za (xM (h:=xM (h:=xIx Tryz.underlying36 Zb1 (h:=xW Zbi (h:=xW Zbj (h:=y1 ZhZ hc3 4 (h:=xM (h:=xR ZAz rfl (ZmN _ _ _ ((((g.2+1)+1)+2*x.grants.length)+1) _ x.mail.length (by first | rfl | exact ZaL _ _) rfl oz _ hm3) (h:=?_))))))))))))))
 refine xA (h:=Za (xM (h:=ZG (h:=Zb rfl (fun h5=>by first | omega | (simp at h5;done) | (simp at h5;omega)) (fun h5=>?_)))))
 try simp only [sQ,ne_eq] at h5
 refine ZS (ZK (Zn (Ze (xM (h:=xD (h:=xA (h:=?_)))))))
 exact ZC (g.1+1,g.2+1+1+2*x.grants.length+1+3*x.mail.length) [] so2 ⟨rfl,so,by simp only [];rw [Zh1 hx,← hs,hst];omega⟩ t3 rfl
 try simp only [sQ,ne_eq] at g1
 refine ZE (ZT (ZH (Zv (Zn (Za (xM (h:=xA (h:=Zd ?_))))))))
 exact eR t1 ⟨ZF (by rw [hs,ZnH oz]),rfl,rfl⟩

theorem ZmO (q:Option Addr) (cp:Nat) (xs:List DItem) (k m:Nat) (hmn:m=xs.length) (hk:kL Zch k xs≤800000000000000) (B:Kn) (hx0:SlK B q cp 4 Zz (mkL Zch mkI k xs)):Z8 (pj J) 110 [.slice q m cp,.int .i64 k] B (.int .i64 ((kL Zch k xs:Nat):Int)):=by
 refine cB 51 Tryz.func110 (h:=?_)
 have hxn:=hx0.len
 have hml:=Zew (st:=Zch) (mk:=mkI) (xs:=xs) k
 refine Za (xA (h:=Zc (Za (xA (h:=Zg (Zy (α:=Nat × Nat) [0] (fun g=>[(1,.int .i64 g.2),(5,.int .i64 g.1)]) [] (fun g=>[]) (fun g Bx=>Bx=B∧g.1≤xs.length∧g.2=kL Zch k (xs.take g.1)) (fun g=>xs.length - g.1) (0,k) t2 rfl (⟨rfl,Nat.zero_le _,ZnG.symm⟩) (fun g B1 hle1 hI=>?_)))))))
 obtain ⟨rfl,hi,hs⟩:=hI
 refine ZD [(0,_),(1,_),(5,_)] [] t3 rfl (Zc (Za (xM (h:=xM (h:=xV Tryz.underlying37 (h:=ZG (h:=Zb rfl (fun g1=>?_) (fun g1=>?_))))))))
 try simp only [sQ,ne_eq] at g1
 obtain ⟨x,hx⟩:=ZX (xs:=xs) (i:=g.1) oz
 have hkl:=Nat.le_trans (Ztc (st:=Zch) (k:=k) hx) hk
 rw [← hs] at hkl
 have hst:Zch x=3+x.left.length:=rfl
 have hz:(mkL Zch mkI k xs)[g.1]? = some (mkI g.2 x):=by rw [hs];exact Zmo k hx
 refine wSk (Zc (Zg (Zc (Za (xM (h:=xM (h:=?_)))))))
 obtain ⟨bb2,oo2,rfl⟩:=hx0.base hz
 obtain ⟨_,⟨qi3,ci3,rfl,hi3,hb3,hb3b⟩,hc3⟩:=hx0.elem hz
 have hi3n:=hi3.len
 refine xIx Tryz.underlying37 ZbA (h:=xW ZeB (h:=y1 lk3 hc3 0 (h:=xM (h:=ZaP (h:=Zb rfl (fun h1=>by simp [mkI] at h1) (fun h1=>?_))))))
 try simp only [sQ,ne_eq] at h1
 refine wSk (Za (xM (h:=xD (h:=xA (h:=Zc (Zc (Z3 (same _ _) mo kr ⟨rfl,rfl⟩ (fun _ _=>?_))))))))
 refine aM 0 rfl (h:=aM 1 rfl (h:=aIx 2 rfl Tryz.underlying37 ZbA (h:=aW 3 rfl ZeA (h:=aT 4 rfl (Zaf fun D=>Zo rfl rfl lk9 rfl (hc3 _ 1 _ rfl) r4) (h:=aM 5 rfl (h:=aT 6 rfl (Zaf fun D=>Z9 rfl rfl ZeR rfl (Zao (g.2+1) oz _) r4) (h:=?_)))))))
 refine ZfK 7 rfl (h:=Zu kr kr ?_)
 refine Zn (Zb rfl (fun h2=>by simp [mkI] at h2) (fun h2=>?_))
 try simp only [sQ,ne_eq] at h2
 refine wSk (Za (xM (h:=xD (h:=xA (h:=Zc (Zc (Z3 (same _ _) mo kr ⟨rfl,rfl⟩ (fun _ _=>?_))))))))
 refine aM 0 rfl (h:=aM 1 rfl (h:=aIx 2 rfl Tryz.underlying37 ZbA (h:=aW 3 rfl ZfZ (h:=aT 4 rfl (Zaf fun D=>Zo rfl rfl lk9 rfl (hc3 _ 2 _ rfl) r4) (h:=aM 5 rfl (h:=aT 6 rfl (Zaf fun D=>Z9 rfl rfl ZeR rfl (Zao ((g.2+1)+1) oz _) r4) (h:=?_)))))))
 refine ZfK 7 rfl (h:=Zu kr kr ?_)
 refine Zn (Zb rfl (fun h3=>by simp [mkI] at h3) (fun h3=>?_))
 try simp only [sQ,ne_eq] at h3
 refine wSk (Za (xM (h:=xD (h:=xA (h:=Za (xM (h:=xM (h:=xIx Tryz.underlying37 ZbA (h:=xW ZcM (h:=y1 ZfV hc3 3 (h:=xM (h:=xR Zz2 rfl (ZoN _ _ _ (((g.2+1)+1)+1) _ x.left.length (by first | rfl | exact Zbm _ _) rfl oz _ hi3) (h:=?_)))))))))))))
 refine xA (h:=Za (xM (h:=ZG (h:=Zb rfl (fun h4=>by first | omega | (simp at h4;done) | (simp at h4;omega)) (fun h4=>?_)))))
 try simp only [sQ,ne_eq] at h4
 refine ZS (ZK (Zn (Ze (xM (h:=xD (h:=xA (h:=?_)))))))
 exact ZC (g.1+1,g.2+1+1+1+1*x.left.length) [] so2 ⟨rfl,so,by simp only [];rw [Zh1 hx,← hs,hst];omega⟩ t3 rfl
 try simp only [sQ,ne_eq] at g1
 refine ZE (ZT (ZH (Zv (Zn (Za (xM (h:=xA (h:=Zd ?_))))))))
 exact eR t1 ⟨ZF (by rw [hs,ZnH oz]),rfl,rfl⟩

theorem ZmM (q:Option Addr) (cp:Nat) (x:DQueue) (k:Nat) (hk:kL Zch k x.items≤800000000000000) (B:Kn) (hi:SlK B q cp 4 Zz (mkL Zch mkI k x.items)):Z8 (pj J) 57 [.agg #[.int .i64 x.next,.slice q x.items.length cp],.int .i64 k] B (.int .i64 ((kL Zch k x.items:Nat):Int)):=by
 refine cB 12 Tryz.func57 (h:=?_)
 refine Za (xBx [_,_] (h:=fun b1=>xA (h:=tL1 (Za (xW ZbT (h:=x1 ZiZ 0 (h:=xM (h:=xR ZAy rfl (ZmO _ _ x.items k _ rfl oa _ hi) (h:=?_)))))))))
 refine xA (h:=Zc (Za (xM (h:=ZG (h:=Zb rfl (fun h1=>by first | omega | (simp at h1;done) | (simp at h1;omega)) (fun h1=>?_))))))
 refine wSk (Za (xM (h:=xA (h:=Zd ?_))))
 exact eR t1 ⟨rfl,rfl,rfl⟩

theorem Zi3 (q1 q2 q3:Option Addr) (c1 c2 c3:Nat) (x:DHost) (k:Nat) (hk:kH k x≤800000000000000) (B:Kn) (hu:SlK B q1 c1 3 Zp (ZcJ k x.users.length)) (hf:SlK B q2 c2 5 Zm (mkL ZbM mkF (k+3*x.users.length) x.folders)) (hi:SlK B q3 c3 4 Zz (mkL Zch mkI (kL ZbM (k+3*x.users.length) x.folders) x.queue.items)):Z8 (pj J) 17 [.agg #[str x.domain,.slice q1 x.users.length c1,.slice q2 x.folders.length c2,.int .i64 x.queue.next,.slice q3 x.queue.items.length c3],.int .i64 k] B (.int .i64 ((kH k x:Nat):Int)):=by
 refine cB 24 Tryz.func17 (h:=?_)
 have hk3:kL Zch (kL ZbM (k+3*x.users.length) x.folders) x.queue.items≤800000000000000:=hk
 have hk2:(kL ZbM (k+3*x.users.length) x.folders)≤800000000000000:=Nat.le_trans Ztb hk3
 have hk1:(k+3*x.users.length)≤800000000000000:=Nat.le_trans Ztb hk2
 refine Za (xBx [_,_,_,_,_] (h:=fun b1=>xA (h:=tL1 (Za (xW Zcg (h:=x1 ZjE 0 (h:=xM (h:=xR ZBQ rfl (ZmL _ _ _ k _ x.users.length (by first | rfl | exact Zbv _ _) rfl oz _ hu) (h:=?_)))))))))
 refine xA (h:=Zc (Za (xM (h:=ZG (h:=Zb rfl (fun h1=>by first | omega | (simp at h1;done) | (simp at h1;omega)) (fun h1=>?_))))))
 refine wSk (Za (xW ZaA (h:=x1 ZeS 0 (h:=xM (h:=xR ZBP rfl (ZjN _ _ x.folders (k+3*x.users.length) _ rfl oa _ hf) (h:=?_))))))
 refine xA (h:=Zc (Za (xM (h:=ZG (h:=Zb rfl (fun h2=>by first | omega | (simp at h2;done) | (simp at h2;omega)) (fun h2=>?_))))))
 refine wSk (Za (xW ZeN (h:=xL [_,_] ZlR 0 (h:=xM (h:=xR ZBO rfl (ZmM _ _ x.queue (kL ZbM (k+3*x.users.length) x.folders) oa _ hi) (h:=?_))))))
 refine xA (h:=Zc (Za (xM (h:=ZG (h:=Zb rfl (fun h3=>by first | omega | (simp at h3;done) | (simp at h3;omega)) (fun h3=>?_))))))
 refine wSk (Za (xM (h:=xA (h:=Zd ?_))))
 exact eR t1 ⟨rfl,rfl,rfl⟩

theorem Zxt (v:Value) (Q:Value→Kn→Cells→Prop) (B:Kn) (L:Cells):hb Tryz.prog (Extern.ReflectliteType.typeOf #[.iface 392 v]) Q B L=Q (.iface 326 (.agg #[.pointer (some ⟨9,392,none⟩)])) B L:=by kernel_rfl

theorem Zxu (v:Value) (k:Nat) (Q:FuncId × Value→Kn→Cells→Prop) (B:Kn) (L:Cells):hb Tryz.prog (Go.method (k+1) 326 v "Comparable") Q B L=Q (330,v) B L:=by kernel_rfl

theorem Zxv (Q:Value→Kn→Cells→Prop) (B:Kn) (L:Cells):hb Tryz.prog ((Extern.ReflectliteType.method fun t=>do Extern.Rtype.noPackHeld "Comparable" t;pure (.bool (← typeInfo t).comparable)) #[(.agg #[.pointer (some ⟨9,392,none⟩)])]) Q B L=Q (.bool true) B L:=by kernel_rfl

theorem ZvS:Extern.find Tryz.f330=some (Extern.ReflectliteType.method fun t=>do Extern.Rtype.noPackHeld "Comparable" t;pure (.bool (← typeInfo t).comparable)):=by kernel_rfl
theorem ZvR:Extern.find Tryz.f192=some Extern.ReflectliteType.typeOf:=by kernel_rfl

theorem ZyW:Extern.findNext Tryz.f192=none:=by kernel_rfl
theorem ZyX:Extern.findNext Tryz.f330=none:=by kernel_rfl

theorem ZvP (c k:Nat) (hc:c<4) (hk:k<4) (a:Nat→Addr)  (B:Kn) (hE:ErrsB 392 [0,1,2,3] B a):Z8 (pj J) 193 [errv 392 a (c+1),errv 392 a (k+1),.bool true] B (.bool (decide (c+1=k+1))):=by
 refine cB 54 Tryz.func193 (h:=?_)
 refine Za (xA (h:=Zg (Zy (α:=Unit) [1,2] (fun u=>[(0,errv 392 a (c+1))]) [] (fun u=>[]) (fun u Bx=>Bx=B) (fun u=>0) () t1 rfl (rfl) (fun u B1 hle1 hI=>?_))))
 subst hI
 refine ZD [(0,_),(1,_),(2,_)] [] t3 rfl (Zg (Zc (Za (xM (h:=xM (h:=Zs (d:=15) rfl (fun g1=>?_) (fun g1=>by cases g1)))))))
 try simp only [sQ,ne_eq] at g1
 refine xM (h:=xM (h:=Zj (Zpq (a:=a) (c:=(c+1)) (k:=k) hE oz oz rfl rfl Tryz.underlying100 Tryz.underlying392 ZBd ZwM rfl rfl ?_)))
 refine xT (h:=Zb rfl (fun g2=>?_) (fun g2=>?_))
 try simp only [sQ,ne_eq] at g2
 refine Za (xA (h:=Zd (Zl (ZA (ZM (ZA ?_))))))
 exact eR t1 ⟨Zf (decide_eq_true g2).symm,rfl,rfl⟩
 try simp only [sQ,ne_eq] at g2
 refine wSk (Zc (Za (xM (h:=Zj (ZhH rfl rfl Tryz.underlying328 kr Zyd rfl ?_)))))
 refine xM (h:=xE (h:=xE (h:=xA (h:=xA (h:=Za (xM (h:=xM (h:=Zs (d:=26) rfl (fun g3=>by cases g3) (fun g3=>?_)))))))))
 try simp only [sQ,ne_eq] at g3
 refine xP (h:=xP (h:=xP (h:=xF (h:=Zb (t:=false) rfl (fun h=>Bool.noConfusion h) (fun _=>wSk (Za (xM (h:=Zg (Za (Zj (ZhH rfl rfl Tryz.underlying331 kr Zyc rfl ?_)))))))))))
 refine xE (h:=xE (h:=Zb rfl (fun g5=>by cases g5) (fun g5=>?_)))
 try simp only [sQ,ne_eq] at g5
 refine Za (Zj (ZhH rfl rfl Tryz.underlying333 kr Zyb rfl ?_))
 refine xE (h:=xE (h:=Zb rfl (fun g6=>by cases g6) (fun g6=>?_)))
 try simp only [sQ,ne_eq] at g6
 refine Za (xA (h:=Za (xA (h:=Zd (ZA (ZA (ZM (ZA ?_))))))))
 exact eR t1 ⟨Zf (decide_eq_false g2).symm,rfl,rfl⟩

theorem ZvO (c k:Nat) (hc:c<4) (hk:k<4) (a:Nat→Addr)  (B:Kn) (hE:ErrsB 392 [0,1,2,3] B a):Z8 (pj J) 147 [errv 392 a (c+1),errv 392 a (k+1)] B (.bool (decide (c+1=k+1))):=by
 refine cB 22 Tryz.func147 (h:=?_)
 refine Za (xA (h:=Zc (Za (xM (h:=Zj (Znj (tE:=392) (a:=a) (c:=(c+1)) rfl rfl Tryz.underlying100 rfl (xM (h:=Zs (d:=8) rfl (fun g1=>by simp at g1) (fun g1=>?_)))))))))
 refine xM (h:=Zj (Znj (tE:=392) (a:=a) (c:=(k+1)) rfl rfl Tryz.underlying100 rfl (xF (h:=Zb rfl (fun g2=>by simp at g2) (fun g2=>?_)))))
 refine wSk (Za (xM (h:=Zj (ZwC (fn:=Tryz.f192) rfl rfl Tryz.func192 rfl rfl ZyW ZvR rfl (Zxt _) (Zj (Zwz (f:=330) (fn:=Tryz.f330) rfl rfl Tryz.func330 rfl rfl ZyX ZvS rfl (Zxu _) Zxv (xA (h:=Za (xM (h:=xM (h:=xM (h:=xR ZzG rfl (ZvP c k oz oz a _ hE) (h:=?_)))))))))))))
 refine xA (h:=Zd ?_)
 exact eR t1 ⟨rfl,rfl,rfl⟩

theorem ZvQ (k:Nat) (hk:k<4) (a:Nat→Addr)  (B:Kn) (hE:ErrsB 392 [0,1,2,3] B a):Z8 (pj J) 147 [.nilIface,errv 392 a (k+1)] B (.bool (decide (0=k+1))):=by
 refine cB 22 Tryz.func147 (h:=?_)
 refine Za (xA (h:=Zc (Za (xM (h:=Zj (Znj (tE:=392) (a:=a) (c:=0) rfl rfl Tryz.underlying100 rfl (xM (h:=Zs (d:=8) rfl (fun g1=>?_) (fun g1=>by simp at g1)))))))))
 refine xP (h:=xP (h:=xT (h:=Zb (t:=true) rfl (fun _=>Za (xM (h:=xM (h:=Zj (Zpq (a:=a) (c:=0) (k:=k) hE oz oz rfl rfl Tryz.underlying100 Tryz.underlying392 ZBd ZwM rfl rfl ?_))))) (fun h=>Bool.noConfusion h))))
 refine xA (h:=Zd (Zl ?_))
 exact eR t1 ⟨rfl,rfl,rfl⟩

theorem ZnP (c k:Nat) (hc:c<5) (hk:k<4) (a:Nat→Addr)  (B:Kn) (hE:ErrsB 392 [0,1,2,3] B a):Z8 (pj J) 147 [errv 392 a c,errv 392 a (k+1)] B (.bool (decide (c=k+1))):=by
 cases c with
 | zero=>exact ZvQ k hk a B hE
 | succ c=>exact ZvO c k oz hk a B hE

theorem ZgR (c:Nat) (hc:c<5) (a:Nat→Addr)  (B:Kn) (hE:ErrsB 392 [0,1,2,3] B a):Z8 (pj J) 95 [errv 392 a (c)] B (.int .i64 c):=by
 refine cB 22 Tryz.func95 (h:=?_)
 refine Za (xA (h:=Zc (Zg (Za (xM (h:=Zj (Znj (tE:=392) (a:=a) (c:=c) rfl rfl Tryz.underlying100 rfl (xA (h:=Zb rfl (fun g0=>?_) (fun g0=>?_))))))))))
 try simp only [sQ,ne_eq] at g0
 refine Za (xA (h:=Zd (ZA (Zl ?_))))
 exact eR t1 ⟨ZF oz,rfl,rfl⟩
 try simp only [sQ,ne_eq] at g0
 refine Za (xM (h:=Zj (Zo rfl rfl Zmy rfl ((hE.row 0 (by decide)) _ 0 _ rfl) ?_)))
 refine xR ZtG rfl (ZnP c 0 om2 om2 a _ hE) (h:=?_)
 refine xA (h:=Zb rfl (fun g1=>?_) (fun g1=>?_))
 try simp only [sQ,ne_eq] at g1
 refine Za (xA (h:=Zd (ZA (Zl ?_))))
 exact eR t1 ⟨ZF oz,rfl,rfl⟩
 try simp only [sQ,ne_eq] at g1
 refine Za (xM (h:=Zj (Zo rfl rfl Zmy rfl ((hE.row 1 (by decide)) _ 0 _ rfl) ?_)))
 refine xR ZtG rfl (ZnP c 1 om2 om2 a _ hE) (h:=?_)
 refine xA (h:=Zb rfl (fun g2=>?_) (fun g2=>?_))
 try simp only [sQ,ne_eq] at g2
 refine Za (xA (h:=Zd (ZA (Zl ?_))))
 exact eR t1 ⟨ZF oz,rfl,rfl⟩
 try simp only [sQ,ne_eq] at g2
 refine Za (xM (h:=Zj (Zo rfl rfl Zmy rfl ((hE.row 2 (by decide)) _ 0 _ rfl) ?_)))
 refine xR ZtG rfl (ZnP c 2 om2 om2 a _ hE) (h:=?_)
 refine xA (h:=Zb rfl (fun g3=>?_) (fun g3=>?_))
 try simp only [sQ,ne_eq] at g3
 refine Za (xA (h:=Zd (ZA (Zl ?_))))
 exact eR t1 ⟨ZF oz,rfl,rfl⟩
 try simp only [sQ,ne_eq] at g3
 refine Za (xM (h:=Zj (Zo rfl rfl Zmy rfl ((hE.row 3 (by decide)) _ 0 _ rfl) ?_)))
 refine xR ZtG rfl (ZnP c 3 om2 om2 a _ hE) (h:=?_)
 refine xA (h:=Zb rfl (fun g4=>?_) (fun g4=>?_))
 try simp only [sQ,ne_eq] at g4
 refine Za (xA (h:=Zd (ZA (Zl ?_))))
 exact eR t1 ⟨ZF oz,rfl,rfl⟩
 try simp only [sQ,ne_eq] at g4
 refine ZS (ZK (Zn (Za (xA (h:=Zd ?_)))))
 exact eR t1 ⟨ZF oz,rfl,rfl⟩

theorem ZrH (b o:Nat) (q1 q2 q3:Option Addr) (c1 c2 c3:Nat) (x:DHost) (u ow nm:Str) (rr:Int) (hn:u.length≤2000000) (ho:ow.length≤2000000) (hm:nm.length≤2000000) (a:Nat→Addr)  (B:Kn) (hE:ErrsB 392 [0,1,2,3] B a) (hh:Zan B b o [str x.domain,.slice q1 x.users.length c1,.slice q2 x.folders.length c2,.int .i64 x.queue.next,.slice q3 x.queue.items.length c3]) (hu:SlK B q1 c1 3 Zp x.users) (hf:SlK B q2 c2 5 Zm x.folders):Z8 (pj J) 146 [ptr ⟨b,o,none⟩,str u,str ow,str nm,.int .i64 rr] B (.tuple #[.int .i64 (if Zdj x.users x.folders u ow nm rr=0 then ZbI (inF ow nm) x.folders else -1),errv 392 a (Zdj x.users x.folders u ow nm rr)]):=by
 refine cB 47 Tryz.func146 (h:=?_)
 have hfn:=hf.len
 have hix:=Zh5 (inF ow nm) x.folders
 refine Za (xA (h:=xA (h:=Za (xM (h:=xM (h:=xM (h:=xR ZxC rfl (Zuy _ _ _ _ _ _ _ _ x ow nm om2 om2 _ hh hf) (h:=?_))))))))
 refine xA (h:=Zc (Za (xM (h:=ZG (h:=xM (h:=Zs (d:=19) rfl (fun g1=>?_) (fun g1=>?_)))))))
 try simp only [sQ,ne_eq] at g1
 refine xP (h:=xP (h:=xP (h:=xP (h:=xP (h:=xP (h:=xP (h:=xP (h:=xP (h:=xP (h:=xP (h:=xT (h:=Zb (t:=true) rfl (fun _=>Zc (Z3 (same _ _) mo kr ⟨rfl,rfl⟩ (fun _ _=>?_))) (fun h=>Bool.noConfusion h)))))))))))))
 refine aT 0 rfl (Zaf fun D=>Zo rfl rfl Zmy rfl ((hE.row 0 (by decide)) _ 0 _ rfl) r4) (h:=?_)
 refine aA 1 rfl (h:=aA 2 rfl (h:=Zu kr kr ?_))
 refine Zn (Zd (Zl ?_))
 exact Zrq .ret (.inl rfl) [_,_] t2 ⟨(by rw [show Zdj x.users x.folders u ow nm rr=1 from ZrB (by simpa using g1)];rfl),rfl,rfl⟩
 try simp only [sQ,ne_eq] at g1
 refine xM (h:=xM (h:=xM (h:=xNc (h:=xW ZaA (h:=Zj (Zo rfl rfl ZeS rfl (hh _ 2 _ rfl) (xM (h:=?_))))))))
 obtain ⟨w,hw⟩:=Ztu (xs:=x.folders) (i:=(ZbI (inF ow nm) x.folders)) om om
 obtain ⟨bb3,oo3,rfl⟩:=hf.base hw
 obtain ⟨_,⟨qg4,cg4,qm4,cm4,rfl,hg4,hm4,hb4,hb4b⟩,hc4⟩:=hf.elem hw
 have hg4n:=hg4.len
 have hm4n:=hm4.len
 have hm4s:=Zap hm4
 refine xIx Tryz.underlying36 Zb1 (h:=yL [_,_,_,_,_] Ziy hc4 0 (h:=xR ZxB rfl (Zw4 _ _ _ _ _ _ _ _ x _ _ _ _ u w _ om2 om2 _ hh hu hg4) (h:=?_)))
 refine xN (h:=xF (h:=Zb rfl (fun g3=>?_) (fun g3=>?_)))
 try simp only [sQ,ne_eq] at g3
 refine Zc (Z3 (same _ _) mo kr ⟨rfl,rfl⟩ (fun _ _=>?_))
 refine aT 0 rfl (Zaf fun D=>Zo rfl rfl Zmy rfl ((hE.row 0 (by decide)) _ 0 _ rfl) r4) (h:=?_)
 refine aA 1 rfl (h:=aA 2 rfl (h:=Zu kr kr ?_))
 refine Zn (Zd (Zl ?_))
 exact Zrq .ret (.inl rfl) [_,_] t2 ⟨(by rw [show Zdj x.users x.folders u ow nm rr=1 from by rw [Zj4 oz hw,if_pos (by simpa using g3)]];rfl),rfl,rfl⟩
 try simp only [sQ,ne_eq] at g3
 refine wSk (Zc (Za (xM (h:=xM (h:=xM (h:=xNc (h:=xW ZaA (h:=Zj (Zo rfl rfl ZeS rfl (hh _ 2 _ rfl) (xM (h:=xIx Tryz.underlying36 Zb1 (h:=yL [_,_,_,_,_] Ziy hc4 0 (h:=xM (h:=xR ZxB rfl (Zw4 _ _ _ _ _ _ _ _ x _ _ _ _ u w _ om2 om2 _ hh hu hg4) (h:=?_)))))))))))))))
 refine xN (h:=Zb rfl (fun g4=>?_) (fun g4=>?_))
 try simp only [sQ,ne_eq] at g4
 refine Zc (Z3 (same _ _) mo kr ⟨rfl,rfl⟩ (fun _ _=>?_))
 refine aT 0 rfl (Zaf fun D=>Zo rfl rfl Zmy rfl ((hE.row 1 (by decide)) _ 0 _ rfl) r4) (h:=?_)
 refine aA 1 rfl (h:=aA 2 rfl (h:=Zu kr kr ?_))
 refine Zn (Zd (Zl ?_))
 exact Zrq .ret (.inl rfl) [_,_] t2 ⟨(by rw [show Zdj x.users x.folders u ow nm rr=2 from by rw [Zj4 oz hw,if_neg (by simp [g3]),if_pos (by simpa using g4)]];rfl),rfl,rfl⟩
 try simp only [sQ,ne_eq] at g4
 refine wSk (Za (xM (h:=xA (h:=xA (h:=Zd ?_)))))
 exact Zrq .ret (.inl rfl) [_,_] t2 ⟨(by rw [show Zdj x.users x.folders u ow nm rr=0 from by rw [Zj4 oz hw,if_neg (by simp [g3]),if_neg (by simp [g4])]];rfl),rfl,rfl⟩

end Go.Proofs.YtonfijmgahdgeaaGreatDoor
