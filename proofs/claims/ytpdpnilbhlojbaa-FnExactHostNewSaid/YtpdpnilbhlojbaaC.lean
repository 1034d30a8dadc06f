/-
  WHAT THE FUNCTIONS THAT THE LAWS REACH COMPUTE: each function's contract, proved off its printed body (the text is written by program). No condition beyond those that each theorem states.
-/
import Derived.Test.YtpdpnilbhlojbaaC0
namespace Go.Proofs.Ytpdpnilbhlojbaa
open Go Go.BL
set_option linter.unusedVariables false
set_option linter.unusedSimpArgs false
set_option maxRecDepth 4000
variable {J : JoinT}
set_option maxHeartbeats 400000 in
theorem Zdq (q:Option Addr) (cp:Nat) (xs:List DUser) (l:Cells) (k:Nat) (hk:k≤900000000000000) (hn:xs.length≤2000000) (B:Kn) (hv:Zab B l q cp 85 3 Zv xs):ZT (pj J) 25 [.slice q xs.length cp,.int .i64 k] B [l] (fun v B' Ls=>B'=B∧∃l',Ls=[l']∧v = .int .i64 ((k+3*xs.length:Nat):Int)∧Zab B l' q cp 85 3 Zv (ZaO k xs.length)):=by
 refine Zb 36 Try.func25 rfl rfl rfl (Nat.le_of_ble_eq_true rfl) ?_
 have hvc:=hv.cap
 refine Za (xA (h:=Zg (Za (xA (h:=Zl (ZB (α:=Nat × Cells × List DUser) [4] (fun g=>[(0,.slice q xs.length cp),(1,.int .i64 ((k+3*g.1:Nat):Int)),(5,.int .i64 g.1)]) [0] (fun g=>[g.2.1]) (fun g Bx=>Bx=B∧g.1≤xs.length∧g.2.2.length=xs.length∧g.2.2.take g.1=ZaO k g.1∧Zab Bx g.2.1 q cp 85 3 Zv g.2.2) (fun g=>xs.length - g.1) (0,l,xs) t3 rfl (⟨rfl,Nat.zero_le _,rfl,rfl,hv⟩) (fun g B1 hle1 hI=>?_)))))))
 obtain ⟨rfl,hi,hle,ht,hw⟩:=hI
 refine ZF [(0,_),(1,_),(4,_),(5,_)] [_] t4 rfl (Zg (Za (xM (h:=xM (h:=xV Try.underlying48 (h:=ZN (h:=Zd rfl (fun g1=>?_) (fun g1=>?_))))))))
 try simp only [sQ,ne_eq] at g1
 refine Zh (Ze (Zg (Zl (Za (xM (h:=xM (h:=xM (h:=xR ZeT rfl (ZK (k+3*g.1) oz _) (h:=?_)))))))))
 obtain ⟨z1,hz1⟩:=Z2 (xs:=g.2.2) (i:=g.1) om
 obtain ⟨bb4,_,hp4,⟨rfl,hb4,hb4b⟩,hw4,hc4⟩:=hw.row hz1
 refine xIp hp4 Try.underlying48 ZcY (h:=xW ZaK (h:=Zr (Zer (k:=g.1) (off:=0) (⟨Zt (k+3*g.1),z1.pass,z1.quota⟩) [_] 0 hw hp4 hz1 rfl rfl sz9 rfl rfl rfl rfl rfl rfl (by rintro _ ⟨rfl,e1,e2⟩;exact ⟨rfl,show (Zt (k+3*g.1)).length≤2000000 from Nat.le_trans (ZaG (k:=k+3*g.1) oz) (by decide),e2⟩) (fun l5 hv5=>?_))))
 refine Zaa [_] rfl (Za (xM (h:=xD (h:=xA (h:=Za (xM (h:=xM (h:=xM (h:=xR ZeT rfl (ZK ((k+3*g.1)+1) oz _) (h:=?_))))))))))
 obtain ⟨z2,hz2⟩:=Z2 (xs:=(g.2.2.set g.1 (⟨Zt (k+3*g.1),z1.pass,z1.quota⟩))) (i:=g.1) om
 obtain ⟨bb8,_,hp8,⟨rfl,hb8,hb8b⟩,hw8,hc8⟩:=hv5.row hz2
 refine xIp hp8 Try.underlying48 ZcY (h:=xW ZdD (h:=Zr (Zer (k:=g.1) (off:=1) (⟨z2.name,Zt (k+3*g.1+1),z2.quota⟩) [_] 0 hv5 hp8 hz2 rfl rfl sz9 rfl rfl rfl rfl rfl rfl (by rintro _ ⟨rfl,e1,e2⟩;exact ⟨rfl,e1,show (Zt (k+3*g.1+1)).length≤2000000 from Nat.le_trans (ZaG (k:=k+3*g.1+1) oz) (by decide)⟩) (fun l9 hv9=>?_))))
 refine Zaa [_] rfl (Za (xM (h:=xD (h:=xA (h:=Za (xM (h:=xM (h:=xM (h:=?_)))))))))
 obtain ⟨z3,hz3⟩:=Z2 (xs:=((g.2.2.set g.1 (⟨Zt (k+3*g.1),z1.pass,z1.quota⟩)).set g.1 (⟨z2.name,Zt (k+3*g.1+1),z2.quota⟩))) (i:=g.1) om
 obtain ⟨bb11,_,hp11,⟨rfl,hb11,hb11b⟩,hw11,hc11⟩:=hv9.row hz3
 refine xIp hp11 Try.underlying48 ZcY (h:=xW Zcw (h:=Zr (Zer (k:=g.1) (off:=2) (⟨z3.name,z3.pass,((k+3*g.1+1+1:Nat):Int)⟩) [_] 0 hv9 hp11 hz3 rfl rfl sz3 rfl rfl rfl rfl rfl rfl (by rintro _ ⟨rfl,e1,e2⟩;exact ⟨rfl,e1,e2⟩) (fun l12 hv12=>?_))))
 refine Zaa [_] rfl (Zk (xM (h:=xD (h:=xA (h:=ZY (Ze (Zk (xM (h:=xD (h:=xA (h:=?_)))))))))))
 exact ZJ (g.1+1,l12,(((g.2.2.set g.1 (⟨Zt (k+3*g.1),z1.pass,z1.quota⟩)).set g.1 (⟨z2.name,Zt (k+3*g.1+1),z2.quota⟩)).set g.1 (⟨z3.name,z3.pass,((k+3*g.1+1+1:Nat):Int)⟩))) [0] so2 ⟨rfl,so,by simp only [List.length_set];exact hle,Zfe ht hz1 hz2 hz3,hv12⟩ t4 rfl
 try simp only [sQ,ne_eq] at g1
 have he:=ZgE ht oz
 have hgi:g.1=xs.length:=by omega
 rw [hgi] at he
 refine ZH (Z3 (ZO (Zx (Ze (Za (xM (h:=xA (h:=Zj ?_))))))))
 exact ZfH .ret (.inl rfl) [_] [0] rfl t1 ⟨rfl,_,rfl,by rw [hgi];rfl,by rw [← he];exact hw⟩

set_option maxHeartbeats 400000 in
theorem Zey (q:Option Addr) (cp:Nat) (xs:List Str) (l:Cells) (k:Nat) (hk:k≤900000000000000) (hn:xs.length≤2000000) (B:Kn) (hv:Zab B l q cp 9 1 Zc4 xs):ZT (pj J) 48 [.slice q xs.length cp,.int .i64 k] B [l] (fun v B' Ls=>B'=B∧∃l',Ls=[l']∧v = .int .i64 ((k+1*xs.length:Nat):Int)∧Zab B l' q cp 9 1 Zc4 (Za7 k xs.length)):=by
 refine Zb 20 Try.func48 rfl rfl rfl (Nat.le_of_ble_eq_true rfl) ?_
 have hvc:=hv.cap
 refine Za (xA (h:=Zg (Za (xA (h:=Zl (ZB (α:=Nat × Cells × List Str) [4] (fun g=>[(0,.slice q xs.length cp),(1,.int .i64 ((k+1*g.1:Nat):Int)),(5,.int .i64 g.1)]) [0] (fun g=>[g.2.1]) (fun g Bx=>Bx=B∧g.1≤xs.length∧g.2.2.length=xs.length∧g.2.2.take g.1=Za7 k g.1∧Zab Bx g.2.1 q cp 9 1 Zc4 g.2.2) (fun g=>xs.length - g.1) (0,l,xs) t3 rfl (⟨rfl,Nat.zero_le _,rfl,rfl,hv⟩) (fun g B1 hle1 hI=>?_)))))))
 obtain ⟨rfl,hi,hle,ht,hw⟩:=hI
 refine ZF [(0,_),(1,_),(4,_),(5,_)] [_] t4 rfl (Zg (Za (xM (h:=xM (h:=xV Try.underlying35 (h:=ZN (h:=Zd rfl (fun g1=>?_) (fun g1=>?_))))))))
 try simp only [sQ,ne_eq] at g1
 refine Zh (Ze (Zg (Zl (Za (xM (h:=xM (h:=xM (h:=xR ZeT rfl (ZK (k+1*g.1) oz _) (h:=?_)))))))))
 obtain ⟨z1,hz1⟩:=Z2 (xs:=g.2.2) (i:=g.1) om
 obtain ⟨bb4,_,hp4,⟨rfl,hb4⟩,hw4,hc4⟩:=hw.row hz1
 refine xIp hp4 Try.underlying35 sz9 (h:=Zr (Zer (k:=g.1) (off:=0) (Zt (k+1*g.1)) [_] 0 hw hp4 hz1 rfl rfl sz9 rfl rfl rfl rfl rfl rfl (by rintro _ ⟨rfl,e1⟩;exact ⟨rfl,show (Zt (k+1*g.1)).length≤2000000 from Nat.le_trans (ZaG (k:=k+1*g.1) oz) (by decide)⟩) (fun l5 hv5=>?_)))
 refine Zaa [_] rfl (Zk (xM (h:=xD (h:=xA (h:=ZY (Ze (Zk (xM (h:=xD (h:=xA (h:=?_)))))))))))
 exact ZJ (g.1+1,l5,(g.2.2.set g.1 (Zt (k+1*g.1)))) [0] so2 ⟨rfl,so,by simp only [List.length_set];exact hle,ZfU ht hz1,hv5⟩ t4 rfl
 try simp only [sQ,ne_eq] at g1
 have he:=ZgE ht oz
 have hgi:g.1=xs.length:=by omega
 rw [hgi] at he
 refine ZH (Z3 (ZO (Zx (Ze (Za (xM (h:=xA (h:=Zj ?_))))))))
 exact ZfH .ret (.inl rfl) [_] [0] rfl t1 ⟨rfl,_,rfl,by rw [hgi];rfl,by rw [← he];exact hw⟩

set_option maxHeartbeats 400000 in
theorem Zf6 (q:Option Addr) (cp:Nat) (xs:List DMail) (k m n:Nat) (hmn:m=n) (he:xs=Zau k n) (hk:k+3*n≤900000000000000) (B:Kn) (hx0:SlK B q cp 3 Zar xs):Zaw (pj J) 88 [.slice q m cp,.int .i64 k] B (.int .i64 ((k+3*n:Nat):Int)):=by
 refine Zb 41 Try.func88 rfl rfl rfl (Nat.le_of_ble_eq_true rfl) ?_
 have hxn:=hx0.len
 have hxl:xs.length=n:=by rw [he];exact ZX _ _
 refine Za (xA (h:=Zg (Za (xA (h:=Zl (ZB (α:=Nat) [0] (fun g=>[(1,.int .i64 ((k+3*g:Nat):Int)),(5,.int .i64 g)]) [] (fun g=>[]) (fun g Bx=>Bx=B∧g≤n) (fun g=>n - g) 0 t2 rfl (⟨rfl,Nat.zero_le _⟩) (fun g B1 hle1 hI=>?_)))))))
 obtain ⟨rfl,hi⟩:=hI
 refine ZF [(0,_),(1,_),(5,_)] [] t3 rfl (Zg (Za (xM (h:=xM (h:=xV Try.underlying87 (h:=ZN (h:=Zd rfl (fun g1=>?_) (fun g1=>?_))))))))
 try simp only [sQ,ne_eq] at g1
 have hx:xs[g]? = some (⟨((k+3*g:Nat):Int),((k+3*g+1:Nat):Int),Zt (k+3*g+1+1)⟩:DMail):=by rw [he];exact ZfV oz
 refine Zh (Ze (Zg (Zl (Zg (Za (xM (h:=xM (h:=?_))))))))
 obtain ⟨bb2,oo2,rfl⟩:=hx0.base hx
 obtain ⟨_,⟨rfl,hb3⟩,hc3⟩:=hx0.elem hx
 refine xIx Try.underlying87 Zb8 (h:=xW Zce (h:=y1 lk3 hc3 0 (h:=xM (h:=Zan (h:=Zd rfl (fun h1=>by simp at h1) (fun h1=>?_))))))
 try simp only [sQ,ne_eq] at h1
 refine Zh (Ze (Za (xM (h:=xD (h:=xA (h:=Zg (Za (xM (h:=xM (h:=xIx Try.underlying87 Zb8 (h:=xW ZdF (h:=y1 lk3 hc3 1 (h:=?_)))))))))))))
 refine xM (h:=Zan (h:=Zd rfl (fun h2=>by simp at h2) (fun h2=>?_)))
 try simp only [sQ,ne_eq] at h2
 refine Zh (Ze (Za (xM (h:=xD (h:=xA (h:=Zg (Zg (Z7 (same _ _) mo kr ⟨rfl,rfl⟩ (fun _ _=>?_)))))))))
 refine aM 0 rfl (h:=aM 1 rfl (h:=aIx 2 rfl Try.underlying87 Zb8 (h:=aW 3 rfl ZcJ (h:=aT 4 rfl (ZU fun D=>Zq rfl rfl lk9 rfl (hc3 _ 2 _ rfl) r4) (h:=aM 5 rfl (h:=aT 6 rfl (ZU fun D=>ZZ rfl rfl ZeT rfl (ZK (((k+3*g)+1)+1) oz _) r4) (h:=?_)))))))
 refine Zb1 7 rfl (h:=Zs kr kr ?_)
 refine Ze (Zd rfl (fun h3=>by simp at h3) (fun h3=>?_))
 try simp only [sQ,ne_eq] at h3
 refine Zh (Ze (Zk (xM (h:=xD (h:=xA (h:=ZY (Ze (Zk (xM (h:=xD (h:=xA (h:=?_))))))))))))
 exact ZJ (g+1) [] so2 ⟨rfl,oz⟩ t3 rfl
 try simp only [sQ,ne_eq] at g1
 refine ZH (Z3 (ZO (Zx (Ze (Za (xM (h:=xA (h:=Zj ?_))))))))
 exact ZC .ret (.inl rfl) [_] t1 ⟨ZaJ (by rw [show g=n from by omega]),rfl,rfl⟩

set_option maxHeartbeats 400000 in
theorem Zfn (q:Option Addr) (cp:Nat) (xs:List DGrant) (k m n:Nat) (hmn:m=n) (he:xs=ZW k n) (hk:k+2*n≤900000000000000) (B:Kn) (hx0:SlK B q cp 2 Z1 xs):Zaw (pj J) 87 [.slice q m cp,.int .i64 k] B (.int .i64 ((k+2*n:Nat):Int)):=by
 refine Zb 32 Try.func87 rfl rfl rfl (Nat.le_of_ble_eq_true rfl) ?_
 have hxn:=hx0.len
 have hxl:xs.length=n:=by rw [he];exact ZP _ _
 refine Za (xA (h:=Zg (Za (xA (h:=Zl (ZB (α:=Nat) [0] (fun g=>[(1,.int .i64 ((k+2*g:Nat):Int)),(5,.int .i64 g)]) [] (fun g=>[]) (fun g Bx=>Bx=B∧g≤n) (fun g=>n - g) 0 t2 rfl (⟨rfl,Nat.zero_le _⟩) (fun g B1 hle1 hI=>?_)))))))
 obtain ⟨rfl,hi⟩:=hI
 refine ZF [(0,_),(1,_),(5,_)] [] t3 rfl (Zg (Za (xM (h:=xM (h:=xV Try.underlying86 (h:=ZN (h:=Zd rfl (fun g1=>?_) (fun g1=>?_))))))))
 try simp only [sQ,ne_eq] at g1
 have hx:xs[g]? = some (⟨Zt (k+2*g),((k+2*g+1:Nat):Int)⟩:DGrant):=by rw [he];exact Zfh oz
 refine Zh (Ze (Zg (Zl (Zg (Zg (Z7 (same _ _) mo kr ⟨rfl,rfl⟩ (fun _ _=>?_)))))))
 refine aM 0 rfl (h:=aM 1 rfl (h:=?_))
 obtain ⟨bb2,oo2,rfl⟩:=hx0.base hx
 obtain ⟨_,⟨rfl,hb3⟩,hc3⟩:=hx0.elem hx
 refine aIx 2 rfl Try.underlying86 ZcB (h:=aW 3 rfl Zcf (h:=aT 4 rfl (ZU fun D=>Zq rfl rfl lk9 rfl (hc3 _ 0 _ rfl) r4) (h:=aM 5 rfl (h:=aT 6 rfl (ZU fun D=>ZZ rfl rfl ZeT rfl (ZK (k+2*g) oz _) r4) (h:=?_)))))
 refine Zb1 7 rfl (h:=Zs kr kr ?_)
 refine Ze (Zd rfl (fun h1=>by simp at h1) (fun h1=>?_))
 try simp only [sQ,ne_eq] at h1
 refine Zh (Ze (Za (xM (h:=xD (h:=xA (h:=Zg (Za (xM (h:=xM (h:=xIx Try.underlying86 ZcB (h:=xW ZdG (h:=y1 lk3 hc3 1 (h:=?_)))))))))))))
 refine xM (h:=Zan (h:=Zd rfl (fun h2=>by simp at h2) (fun h2=>?_)))
 try simp only [sQ,ne_eq] at h2
 refine Zh (Ze (Zk (xM (h:=xD (h:=xA (h:=ZY (Ze (Zk (xM (h:=xD (h:=xA (h:=?_))))))))))))
 exact ZJ (g+1) [] so2 ⟨rfl,oz⟩ t3 rfl
 try simp only [sQ,ne_eq] at g1
 refine ZH (Z3 (ZO (Zx (Ze (Za (xM (h:=xA (h:=Zj ?_))))))))
 exact ZC .ret (.inl rfl) [_] t1 ⟨ZaJ (by rw [show g=n from by omega]),rfl,rfl⟩

set_option maxHeartbeats 400000 in
theorem Zf4 (q:Option Addr) (cp:Nat) (xs:List DUser) (k m n:Nat) (hmn:m=n) (he:xs=ZaO k n) (hk:k+3*n≤900000000000000) (B:Kn) (hx0:SlK B q cp 3 Zv xs):Zaw (pj J) 59 [.slice q m cp,.int .i64 k] B (.int .i64 ((k+3*n:Nat):Int)):=by
 refine Zb 42 Try.func59 rfl rfl rfl (Nat.le_of_ble_eq_true rfl) ?_
 have hxn:=hx0.len
 have hxl:xs.length=n:=by rw [he];exact Zal _ _
 refine Za (xA (h:=Zg (Za (xA (h:=Zl (ZB (α:=Nat) [0] (fun g=>[(1,.int .i64 ((k+3*g:Nat):Int)),(5,.int .i64 g)]) [] (fun g=>[]) (fun g Bx=>Bx=B∧g≤n) (fun g=>n - g) 0 t2 rfl (⟨rfl,Nat.zero_le _⟩) (fun g B1 hle1 hI=>?_)))))))
 obtain ⟨rfl,hi⟩:=hI
 refine ZF [(0,_),(1,_),(5,_)] [] t3 rfl (Zg (Za (xM (h:=xM (h:=xV Try.underlying48 (h:=ZN (h:=Zd rfl (fun g1=>?_) (fun g1=>?_))))))))
 try simp only [sQ,ne_eq] at g1
 have hx:xs[g]? = some (⟨Zt (k+3*g),Zt (k+3*g+1),((k+3*g+1+1:Nat):Int)⟩:DUser):=by rw [he];exact ZfT oz
 refine Zh (Ze (Zg (Zl (Zg (Zg (Z7 (same _ _) mo kr ⟨rfl,rfl⟩ (fun _ _=>?_)))))))
 refine aM 0 rfl (h:=aM 1 rfl (h:=?_))
 obtain ⟨bb2,oo2,rfl⟩:=hx0.base hx
 obtain ⟨_,⟨rfl,hb3,hb3b⟩,hc3⟩:=hx0.elem hx
 refine aIx 2 rfl Try.underlying48 ZcY (h:=aW 3 rfl ZaK (h:=aT 4 rfl (ZU fun D=>Zq rfl rfl lk9 rfl (hc3 _ 0 _ rfl) r4) (h:=aM 5 rfl (h:=aT 6 rfl (ZU fun D=>ZZ rfl rfl ZeT rfl (ZK (k+3*g) oz _) r4) (h:=?_)))))
 refine Zb1 7 rfl (h:=Zs kr kr ?_)
 refine Ze (Zd rfl (fun h1=>by simp at h1) (fun h1=>?_))
 try simp only [sQ,ne_eq] at h1
 refine Zh (Ze (Za (xM (h:=xD (h:=xA (h:=Zg (Zg (Z7 (same _ _) mo kr ⟨rfl,rfl⟩ (fun _ _=>?_)))))))))
 refine aM 0 rfl (h:=aM 1 rfl (h:=aIx 2 rfl Try.underlying48 ZcY (h:=aW 3 rfl ZdD (h:=aT 4 rfl (ZU fun D=>Zq rfl rfl lk9 rfl (hc3 _ 1 _ rfl) r4) (h:=aM 5 rfl (h:=aT 6 rfl (ZU fun D=>ZZ rfl rfl ZeT rfl (ZK ((k+3*g)+1) oz _) r4) (h:=?_)))))))
 refine Zb1 7 rfl (h:=Zs kr kr ?_)
 refine Ze (Zd rfl (fun h2=>by simp at h2) (fun h2=>?_))
 try simp only [sQ,ne_eq] at h2
 refine Zh (Ze (Za (xM (h:=xD (h:=xA (h:=Zg (Za (xM (h:=xM (h:=xIx Try.underlying48 ZcY (h:=xW Zcw (h:=y1 lk3 hc3 2 (h:=?_)))))))))))))
 refine xM (h:=Zan (h:=Zd rfl (fun h3=>by simp at h3) (fun h3=>?_)))
 try simp only [sQ,ne_eq] at h3
 refine Zh (Ze (Zk (xM (h:=xD (h:=xA (h:=ZY (Ze (Zk (xM (h:=xD (h:=xA (h:=?_))))))))))))
 exact ZJ (g+1) [] so2 ⟨rfl,oz⟩ t3 rfl
 try simp only [sQ,ne_eq] at g1
 refine ZH (Z3 (ZO (Zx (Ze (Za (xM (h:=xA (h:=Zj ?_))))))))
 exact ZC .ret (.inl rfl) [_] t1 ⟨ZaJ (by rw [show g=n from by omega]),rfl,rfl⟩

set_option maxHeartbeats 400000 in
theorem Zhg (q:Option Addr) (cp:Nat) (xs:List Str) (k m n:Nat) (hmn:m=n) (he:xs=Za7 k n) (hk:k+1*n≤900000000000000) (B:Kn) (hx0:SlK B q cp 1 Zc4 xs):Zaw (pj J) 69 [.slice q m cp,.int .i64 k] B (.int .i64 ((k+1*n:Nat):Int)):=by
 refine Zb 22 Try.func69 rfl rfl rfl (Nat.le_of_ble_eq_true rfl) ?_
 have hxn:=hx0.len
 have hxl:xs.length=n:=by rw [he];exact Zag _ _
 refine Za (xA (h:=Zg (Za (xA (h:=Zl (ZB (α:=Nat) [0] (fun g=>[(1,.int .i64 ((k+1*g:Nat):Int)),(5,.int .i64 g)]) [] (fun g=>[]) (fun g Bx=>Bx=B∧g≤n) (fun g=>n - g) 0 t2 rfl (⟨rfl,Nat.zero_le _⟩) (fun g B1 hle1 hI=>?_)))))))
 obtain ⟨rfl,hi⟩:=hI
 refine ZF [(0,_),(1,_),(5,_)] [] t3 rfl (Zg (Za (xM (h:=xM (h:=xV Try.underlying35 (h:=ZN (h:=Zd rfl (fun g1=>?_) (fun g1=>?_))))))))
 try simp only [sQ,ne_eq] at g1
 have hx:xs[g]? = some (Zt (k+1*g):Str):=by rw [he];exact Zg8 oz
 refine Zh (Ze (Zg (Zl (Zg (Zg (Z7 (same _ _) mo kr ⟨rfl,rfl⟩ (fun _ _=>?_)))))))
 refine aM 0 rfl (h:=aM 1 rfl (h:=?_))
 obtain ⟨bb2,oo2,rfl⟩:=hx0.base hx
 obtain ⟨_,⟨rfl,hb3⟩,hc3⟩:=hx0.elem hx
 refine aIx 2 rfl Try.underlying35 sz9 (h:=aT 3 rfl (ZU fun D=>Zq rfl rfl lk9 rfl (hc3 _ 0 _ rfl) r4) (h:=aM 4 rfl (h:=aT 5 rfl (ZU fun D=>ZZ rfl rfl ZeT rfl (ZK (k+1*g) oz _) r4) (h:=?_))))
 refine Zb1 6 rfl (h:=Zs kr kr ?_)
 refine Ze (Zd rfl (fun h1=>by simp at h1) (fun h1=>?_))
 try simp only [sQ,ne_eq] at h1
 refine Zh (Ze (Zk (xM (h:=xD (h:=xA (h:=ZY (Ze (Zk (xM (h:=xD (h:=xA (h:=?_))))))))))))
 exact ZJ (g+1) [] so2 ⟨rfl,oz⟩ t3 rfl
 try simp only [sQ,ne_eq] at g1
 refine ZH (Z3 (ZO (Zx (Ze (Za (xM (h:=xA (h:=Zj ?_))))))))
 exact ZC .ret (.inl rfl) [_] t1 ⟨ZaJ (by rw [show g=n from by omega]),rfl,rfl⟩

set_option maxHeartbeats 400000 in
theorem Zez (q:Option Addr) (cp:Nat) (xs:List DFolder) (l:Cells) (k:Nat) (hk:kL ZaE k xs≤800000000000000) (hn:xs.length≤2000000) (B:Kn) (hv:Za9 l q cp 91 5 (Zax 142 144) xs):ZT (pj J) 58 [.slice q xs.length cp,.int .i64 k] B [l] (fun v B' Ls=>B'=B∧∃l',Ls=[l']∧v = .int .i64 ((kL ZaE k xs:Nat):Int)∧Za9 l' q cp 91 5 (Zax 142 144) (mkL ZaE mkF k xs)):=by
 refine Zb 52 Try.func58 rfl rfl rfl (Nat.le_of_ble_eq_true rfl) ?_
 have hvc:=hv.cap
 refine Za ?_
 refine xA (h:=?_)
 refine Zg ?_
 refine Za ?_
 refine xA (h:=?_)
 refine Zl ?_
 refine ZB (α:=Nat × Nat × Cells × List DFolder) [4] (fun g=>[(0,.slice q xs.length cp),(1,.int .i64 ((g.2.1:Nat):Int)),(5,.int .i64 g.1)]) [0] (fun g=>[g.2.2.1]) (fun g Bx=>Bx=B∧g.1≤xs.length∧g.2.1=kL ZaE k (xs.take g.1)∧g.2.2.2.length=xs.length∧g.2.2.2.take g.1=mkL ZaE mkF k (xs.take g.1)∧g.2.2.2.drop g.1=xs.drop g.1∧Za9 g.2.2.1 q cp 91 5 (Zax 142 144) g.2.2.2) (fun g=>xs.length - g.1) (0,k,l,xs) t3 rfl (⟨rfl,Nat.zero_le _,Zfl.symm,rfl,rfl,rfl,hv⟩) (fun g B1 hle1 hI=>?_)
 obtain ⟨rfl,hi,hs,hle,ht,hd,hw⟩:=hI
 refine ZF [(0,_),(1,_),(4,_),(5,_)] [_] t4 rfl ?_
 refine Zg ?_
 refine Za ?_
 refine xM (h:=?_)
 refine xM (h:=?_)
 refine xV Try.underlying49 (h:=?_)
 refine ZN (h:=?_)
 refine Zd rfl (fun g1=>?_) (fun g1=>?_)
 try simp only [sQ,ne_eq] at g1
 obtain ⟨x,hx⟩:=Z2 (xs:=xs) (i:=g.1) oz
 have hy:=(ZgP hd).trans hx
 have hkl:=Nat.le_trans (Zi4 (st:=ZaE) (k:=k) hx) hk
 rw [← hs] at hkl
 have hst:ZaE x=3+2*x.grants.length+3*x.mail.length:=rfl
 refine Zh ?_
 refine Ze ?_
 refine Zg ?_
 refine Zl ?_
 refine Za ?_
 refine xM (h:=?_)
 refine xM (h:=?_)
 refine xM (h:=?_)
 refine xR ZeT rfl (ZK (g.2.1) oz _) (h:=?_)
 obtain ⟨bb3,_,li3,lr3,hp3,⟨qg3,cg3,qm3,cm3,ia3,ib3,rfl,rfl,hg3,hm3,ho3,hn3,hx3,hy3⟩,hw3,hq3,hc3,hk3⟩:=hw.cell (B:=B1) (L:=[g.2.2.1]) hy 0 rfl
 refine xIp hp3 Try.underlying49 Zc2 (h:=?_)
 refine xW ZbK (h:=?_)
 refine Zr (ZdZ (k:=g.1) (us:=[_]) ((⟨Zt (g.2.1),x.name,x.grants,x.next,x.mail⟩:DFolder)) 0 0 rfl hw hp3 hy rfl rfl sz9 rfl rfl rfl rfl (Nat.le_of_ble_eq_true rfl) (by rintro _ _ ⟨_,_,_,_,_,_,rfl,rfl,h1,h2,h3,h4,h5,h6⟩;exact ⟨_,_,_,_,_,_,rfl,rfl,h1,h2,show (Zt (g.2.1)).length≤2000000 from Nat.le_trans (ZaG (k:=g.2.1) oz) (by decide),h4,h5,h6⟩) (fun l4 hv4=>?_))
 have hs4:=Zbq (z:=((⟨Zt (g.2.1),x.name,x.grants,x.next,x.mail⟩:DFolder))) hy
 refine Zaa [_] rfl ?_
 refine Za ?_
 refine xM (h:=?_)
 refine xD (h:=?_)
 refine xA (h:=?_)
 refine Za ?_
 refine xM (h:=?_)
 refine xM (h:=?_)
 refine xM (h:=?_)
 refine xR ZeT rfl (ZK ((g.2.1)+1) oz _) (h:=?_)
 obtain ⟨bb6,_,li6,lr6,hp6,⟨qg6,cg6,qm6,cm6,ia6,ib6,rfl,rfl,hg6,hm6,ho6,hn6,hx6,hy6⟩,hw6,hq6,hc6,hk6⟩:=hv4.cell (B:=B1) (L:=[l4]) hs4 0 rfl
 refine xIp hp6 Try.underlying49 Zc2 (h:=?_)
 refine xW ZcU (h:=?_)
 refine Zr (ZdZ (k:=g.1) (us:=[_]) ((⟨Zt (g.2.1),Zt (g.2.1+1),x.grants,x.next,x.mail⟩:DFolder)) 1 0 rfl hv4 hp6 hs4 rfl rfl sz9 rfl rfl rfl rfl (Nat.le_of_ble_eq_true rfl) (by rintro _ _ ⟨_,_,_,_,_,_,rfl,rfl,h1,h2,h3,h4,h5,h6⟩;exact ⟨_,_,_,_,_,_,rfl,rfl,h1,h2,h3,show (Zt (g.2.1+1)).length≤2000000 from Nat.le_trans (ZaG (k:=g.2.1+1) oz) (by decide),h5,h6⟩) (fun l7 hv7=>?_))
 rw [List.set_set] at hv7
 have hs7:=Zbq (z:=((⟨Zt (g.2.1),Zt (g.2.1+1),x.grants,x.next,x.mail⟩:DFolder))) hy
 refine Zaa [_] rfl ?_
 obtain ⟨bb8,_,li8,lr8,hp8,⟨qg8,cg8,qm8,cm8,ia8,ib8,rfl,rfl,hg8,hm8,ho8,hn8,hx8,hy8⟩,hw8,hq8,hc8,hk8⟩:=hv7.cell (B:=B1) (L:=[_]) hs7 0 rfl
 replace hc8:=fun m u h=>(hc8 m u h).perm (ZcC 0 rfl (ZiU hq8))
 refine ZfI 0 rfl (ZiU hq8) ?_
 refine Za ?_
 refine xM (h:=?_)
 refine xD (h:=?_)
 refine xA (h:=?_)
 refine Zaa [_,_,_] rfl ?_
 refine Za ?_
 refine xM (h:=?_)
 refine xM (h:=?_)
 refine xIp hp8 Try.underlying49 Zc2 (h:=?_)
 refine xW Zfr (h:=?_)
 refine Zr (Zq rfl rfl Zk3 rfl (hc8 2 _ rfl) ?_)
 refine xM (h:=?_)
 refine Zr (Za2 [1] rfl rfl rfl rfl Zmp rfl (Zfi _ _ (((⟨Zt (g.2.1),Zt (g.2.1+1),x.grants,x.next,x.mail⟩:DFolder)).grants) _ (((g.2.1)+1)+1) oz oz _ (hg8.anyK Z1.any)) ?_)
 rintro _ B9 _ hle9 ⟨rfl,l9,rfl,rfl,hs9⟩
 refine xA (h:=?_)
 refine Zaa [_,_,_] rfl ?_
 refine Zc8 0 2 rfl rfl (by decide) ?_
 refine Zc8 0 1 rfl rfl (by decide) ?_
 have hv10:=hk8 (⟨Zt (g.2.1),Zt (g.2.1+1),ZW (g.2.1+1+1) x.grants.length,x.next,x.mail⟩:DFolder) _ ⟨qg8,cg8,qm8,cm8,_,_,by simp only [ZP,ZX],rfl,hs9.anyK Z1.any,hm8.anyK Zar.any,ho8,hn8,by first | assumption | (rw [ZP];assumption),by first | assumption | (rw [ZX];assumption)⟩
 rw [List.append_assoc,List.set_set] at hv10
 have hs10:=Zbq (z:=((⟨Zt (g.2.1),Zt (g.2.1+1),ZW (g.2.1+1+1) x.grants.length,x.next,x.mail⟩:DFolder))) hy
 refine ZiM [0] rfl ?_
 refine Za ?_
 refine xM (h:=?_)
 refine xM (h:=?_)
 refine xM (h:=?_)
 obtain ⟨bb11,_,li11,lr11,hp11,⟨qg11,cg11,qm11,cm11,ia11,ib11,rfl,rfl,hg11,hm11,ho11,hn11,hx11,hy11⟩,hw11,hq11,hc11,hk11⟩:=hv10.cell (B:=B9) (L:=[_]) hs10 0 rfl
 refine xIp hp11 Try.underlying49 Zc2 (h:=?_)
 refine xW ZcT (h:=?_)
 refine xW Zfs (h:=?_)
 refine Zr (ZdZ (k:=g.1) (us:=[_]) ((⟨Zt (g.2.1),Zt (g.2.1+1),ZW (g.2.1+1+1) x.grants.length,((g.2.1+1+1+2*x.grants.length:Nat):Int),x.mail⟩:DFolder)) 3 0 rfl hv10 hp11 hs10 rfl rfl sz3 rfl rfl rfl rfl (Nat.le_of_ble_eq_true rfl) (by rintro _ _ ⟨_,_,_,_,_,_,rfl,rfl,h1,h2,h3,h4,h5,h6⟩;exact ⟨_,_,_,_,_,_,rfl,rfl,h1,h2,h3,h4,h5,h6⟩) (fun l12 hv12=>?_))
 rw [List.set_set] at hv12
 have hs12:=Zbq (z:=((⟨Zt (g.2.1),Zt (g.2.1+1),ZW (g.2.1+1+1) x.grants.length,((g.2.1+1+1+2*x.grants.length:Nat):Int),x.mail⟩:DFolder))) hy
 refine Zaa [_] rfl ?_
 obtain ⟨bb13,_,li13,lr13,hp13,⟨qg13,cg13,qm13,cm13,ia13,ib13,rfl,rfl,hg13,hm13,ho13,hn13,hx13,hy13⟩,hw13,hq13,hc13,hk13⟩:=hv12.cell (B:=B9) (L:=[_]) hs12 0 rfl
 replace hc13:=fun m u h=>(hc13 m u h).perm (ZcC 0 rfl (ZiU hq13))
 refine ZfI 0 rfl (ZiU hq13) ?_
 refine Za ?_
 refine xM (h:=?_)
 refine xD (h:=?_)
 refine xA (h:=?_)
 refine Zaa [_,_,_] rfl ?_
 refine Zk ?_
 refine xM (h:=?_)
 refine xM (h:=?_)
 refine xIp hp13 Try.underlying49 Zc2 (h:=?_)
 refine xW ZcT (h:=?_)
 refine xW ZbL (h:=?_)
 refine Zr (Zq rfl rfl Zh9 rfl (hc13 4 _ rfl) ?_)
 refine xM (h:=?_)
 refine Zr (Za2 [2] rfl rfl rfl rfl Zmo rfl (ZfY _ _ (((⟨Zt (g.2.1),Zt (g.2.1+1),ZW (g.2.1+1+1) x.grants.length,((g.2.1+1+1+2*x.grants.length:Nat):Int),x.mail⟩:DFolder)).mail) _ (((((g.2.1)+1)+1)+2*(((⟨Zt (g.2.1),Zt (g.2.1+1),x.grants,x.next,x.mail⟩:DFolder)).grants).length)+1) oz oz _ (hm13.anyK Zar.any)) ?_)
 rintro _ B14 _ hle14 ⟨rfl,l14,rfl,rfl,hs14⟩
 refine xA (h:=?_)
 refine ZY (Ze ?_)
 refine Zc8 0 2 rfl rfl (by decide) ?_
 refine Zc8 0 1 rfl rfl (by decide) ?_
 have hv15:=hk13 (⟨Zt (g.2.1),Zt (g.2.1+1),ZW (g.2.1+1+1) x.grants.length,((g.2.1+1+1+2*x.grants.length:Nat):Int),Zau (g.2.1+1+1+2*x.grants.length+1) x.mail.length⟩:DFolder) _ ⟨qg13,cg13,qm13,cm13,_,_,by simp only [ZP,ZX],rfl,hg13.anyK Z1.any,hs14.anyK Zar.any,ho13,hn13,by first | assumption | (rw [ZP];assumption),by first | assumption | (rw [ZX];assumption)⟩
 rw [List.append_assoc,List.set_set] at hv15
 have hs15:=Zbq (z:=((⟨Zt (g.2.1),Zt (g.2.1+1),ZW (g.2.1+1+1) x.grants.length,((g.2.1+1+1+2*x.grants.length:Nat):Int),Zau (g.2.1+1+1+2*x.grants.length+1) x.mail.length⟩:DFolder))) hy
 refine ZiM [0] rfl ?_
 refine Zk ?_
 refine xM (h:=?_)
 refine xD (h:=?_)
 refine xA (h:=?_)
 exact ZJ (g.1+1,g.2.1+1+1+2*x.grants.length+1+3*x.mail.length,_,(g.2.2.2.set g.1 ((⟨Zt (g.2.1),Zt (g.2.1+1),ZW (g.2.1+1+1) x.grants.length,((g.2.1+1+1+2*x.grants.length:Nat):Int),Zau (g.2.1+1+1+2*x.grants.length+1) x.mail.length⟩:DFolder)))) [0] so2 ⟨rfl,so,by simp only [];rw [Zdu hx,← hs,hst];omega,Zgt hle,Zfg ht hx hle hs,ZgO hd,hv15⟩ t4 rfl
 try simp only [sQ,ne_eq] at g1
 have he:=Zh6 ht hle oz
 have hgi:g.1=xs.length:=by omega
 refine ZH (Z3 (ZO (Zx (Ze ?_))))
 refine Za ?_
 refine xM (h:=?_)
 refine xA (h:=?_)
 refine Zj ?_
 exact ZfH .ret (.inl rfl) [_] [0] rfl t1 ⟨rfl,_,rfl,by rw [hs,ZgI oz];rfl,by rw [← he];exact hw⟩

set_option maxHeartbeats 400000 in
theorem ZfZ (q:Option Addr) (cp:Nat) (xs:List DItem) (l:Cells) (k:Nat) (hk:kL ZaL k xs≤800000000000000) (hn:xs.length≤2000000) (B:Kn) (hv:Za9 l q cp 67 4 (ZbN 9) xs):ZT (pj J) 39 [.slice q xs.length cp,.int .i64 k] B [l] (fun v B' Ls=>B'=B∧∃l',Ls=[l']∧v = .int .i64 ((kL ZaL k xs:Nat):Int)∧Za9 l' q cp 67 4 (ZbN 9) (mkL ZaL mkI k xs)):=by
 refine Zb 43 Try.func39 rfl rfl rfl (Nat.le_of_ble_eq_true rfl) ?_
 have hvc:=hv.cap
 refine Za ?_
 refine xA (h:=?_)
 refine Zg ?_
 refine Za ?_
 refine xA (h:=?_)
 refine Zl ?_
 refine ZB (α:=Nat × Nat × Cells × List DItem) [4] (fun g=>[(0,.slice q xs.length cp),(1,.int .i64 ((g.2.1:Nat):Int)),(5,.int .i64 g.1)]) [0] (fun g=>[g.2.2.1]) (fun g Bx=>Bx=B∧g.1≤xs.length∧g.2.1=kL ZaL k (xs.take g.1)∧g.2.2.2.length=xs.length∧g.2.2.2.take g.1=mkL ZaL mkI k (xs.take g.1)∧g.2.2.2.drop g.1=xs.drop g.1∧Za9 g.2.2.1 q cp 67 4 (ZbN 9) g.2.2.2) (fun g=>xs.length - g.1) (0,k,l,xs) t3 rfl (⟨rfl,Nat.zero_le _,Zfl.symm,rfl,rfl,rfl,hv⟩) (fun g B1 hle1 hI=>?_)
 obtain ⟨rfl,hi,hs,hle,ht,hd,hw⟩:=hI
 refine ZF [(0,_),(1,_),(4,_),(5,_)] [_] t4 rfl ?_
 refine Zg ?_
 refine Za ?_
 refine xM (h:=?_)
 refine xM (h:=?_)
 refine xV Try.underlying26 (h:=?_)
 refine ZN (h:=?_)
 refine Zd rfl (fun g1=>?_) (fun g1=>?_)
 try simp only [sQ,ne_eq] at g1
 obtain ⟨x,hx⟩:=Z2 (xs:=xs) (i:=g.1) oz
 have hy:=(ZgP hd).trans hx
 have hkl:=Nat.le_trans (Zi4 (st:=ZaL) (k:=k) hx) hk
 rw [← hs] at hkl
 have hst:ZaL x=3+x.left.length:=rfl
 refine Zh ?_
 refine Ze ?_
 refine Zg ?_
 refine Zl ?_
 refine Za ?_
 refine xM (h:=?_)
 refine xM (h:=?_)
 refine xM (h:=?_)
 obtain ⟨bb2,_,li2,lr2,hp2,⟨qg2,cg2,rfl,hg2,ho2,hn2,hx2⟩,hw2,hq2,hc2,hk2⟩:=hw.cell (B:=B1) (L:=[g.2.2.1]) hy 0 rfl
 refine xIp hp2 Try.underlying26 ZfF (h:=?_)
 refine xW Zen (h:=?_)
 refine Zr (ZdZ (k:=g.1) (us:=[_]) ((⟨((g.2.1:Nat):Int),x.fr,x.text,x.left⟩:DItem)) 0 0 rfl hw hp2 hy rfl rfl sz3 rfl rfl rfl rfl (Nat.le_of_ble_eq_true rfl) (by rintro _ _ ⟨_,_,rfl,h1,h2,h3,h4⟩;exact ⟨_,_,rfl,h1,h2,h3,h4⟩) (fun l3 hv3=>?_))
 have hs3:=Zbq (z:=((⟨((g.2.1:Nat):Int),x.fr,x.text,x.left⟩:DItem))) hy
 refine Zaa [_] rfl ?_
 refine Za ?_
 refine xM (h:=?_)
 refine xD (h:=?_)
 refine xA (h:=?_)
 refine Za ?_
 refine xM (h:=?_)
 refine xM (h:=?_)
 refine xM (h:=?_)
 refine xR ZeT rfl (ZK ((g.2.1)+1) oz _) (h:=?_)
 obtain ⟨bb5,_,li5,lr5,hp5,⟨qg5,cg5,rfl,hg5,ho5,hn5,hx5⟩,hw5,hq5,hc5,hk5⟩:=hv3.cell (B:=B1) (L:=[l3]) hs3 0 rfl
 refine xIp hp5 Try.underlying26 ZfF (h:=?_)
 refine xW Zem (h:=?_)
 refine Zr (ZdZ (k:=g.1) (us:=[_]) ((⟨((g.2.1:Nat):Int),Zt (g.2.1+1),x.text,x.left⟩:DItem)) 1 0 rfl hv3 hp5 hs3 rfl rfl sz9 rfl rfl rfl rfl (Nat.le_of_ble_eq_true rfl) (by rintro _ _ ⟨_,_,rfl,h1,h2,h3,h4⟩;exact ⟨_,_,rfl,h1,show (Zt (g.2.1+1)).length≤2000000 from Nat.le_trans (ZaG (k:=g.2.1+1) oz) (by decide),h3,h4⟩) (fun l6 hv6=>?_))
 rw [List.set_set] at hv6
 have hs6:=Zbq (z:=((⟨((g.2.1:Nat):Int),Zt (g.2.1+1),x.text,x.left⟩:DItem))) hy
 refine Zaa [_] rfl ?_
 refine Za ?_
 refine xM (h:=?_)
 refine xD (h:=?_)
 refine xA (h:=?_)
 refine Za ?_
 refine xM (h:=?_)
 refine xM (h:=?_)
 refine xM (h:=?_)
 refine xR ZeT rfl (ZK (((g.2.1)+1)+1) oz _) (h:=?_)
 obtain ⟨bb8,_,li8,lr8,hp8,⟨qg8,cg8,rfl,hg8,ho8,hn8,hx8⟩,hw8,hq8,hc8,hk8⟩:=hv6.cell (B:=B1) (L:=[l6]) hs6 0 rfl
 refine xIp hp8 Try.underlying26 ZfF (h:=?_)
 refine xW Zft (h:=?_)
 refine Zr (ZdZ (k:=g.1) (us:=[_]) ((⟨((g.2.1:Nat):Int),Zt (g.2.1+1),Zt (g.2.1+1+1),x.left⟩:DItem)) 2 0 rfl hv6 hp8 hs6 rfl rfl sz9 rfl rfl rfl rfl (Nat.le_of_ble_eq_true rfl) (by rintro _ _ ⟨_,_,rfl,h1,h2,h3,h4⟩;exact ⟨_,_,rfl,h1,h2,show (Zt (g.2.1+1+1)).length≤2000000 from Nat.le_trans (ZaG (k:=g.2.1+1+1) oz) (by decide),h4⟩) (fun l9 hv9=>?_))
 rw [List.set_set] at hv9
 have hs9:=Zbq (z:=((⟨((g.2.1:Nat):Int),Zt (g.2.1+1),Zt (g.2.1+1+1),x.left⟩:DItem))) hy
 refine Zaa [_] rfl ?_
 obtain ⟨bb10,_,li10,lr10,hp10,⟨qg10,cg10,rfl,hg10,ho10,hn10,hx10⟩,hw10,hq10,hc10,hk10⟩:=hv9.cell (B:=B1) (L:=[_]) hs9 0 rfl
 replace hc10:=fun m u h=>(hc10 m u h).perm (ZcC 0 rfl (Zk2 hq10))
 refine ZfI 0 rfl (Zk2 hq10) ?_
 refine Za ?_
 refine xM (h:=?_)
 refine xD (h:=?_)
 refine xA (h:=?_)
 refine Zaa [_,_] rfl ?_
 refine Zk ?_
 refine xM (h:=?_)
 refine xM (h:=?_)
 refine xIp hp10 Try.underlying26 ZfF (h:=?_)
 refine xW Zel (h:=?_)
 refine Zr (Zq rfl rfl ZjP rfl (hc10 3 _ rfl) ?_)
 refine xM (h:=?_)
 refine Zr (Za2 [1] rfl rfl rfl rfl ZmO rfl (Zey _ _ (((⟨((g.2.1:Nat):Int),Zt (g.2.1+1),Zt (g.2.1+1+1),x.left⟩:DItem)).left) _ ((((g.2.1)+1)+1)+1) oz oz _ (hg10.anyK Zc4.any)) ?_)
 rintro _ B11 _ hle11 ⟨rfl,l11,rfl,rfl,hs11⟩
 refine xA (h:=?_)
 refine ZY (Ze ?_)
 refine Zc8 0 1 rfl rfl (by decide) ?_
 have hv12:=hk10 (⟨((g.2.1:Nat):Int),Zt (g.2.1+1),Zt (g.2.1+1+1),Za7 (g.2.1+1+1+1) x.left.length⟩:DItem) _ ⟨qg10,cg10,by simp only [Zag],hs11.anyK Zc4.any,ho10,hn10,by first | assumption | (rw [Zag];assumption)⟩
 rw [List.set_set] at hv12
 have hs12:=Zbq (z:=((⟨((g.2.1:Nat):Int),Zt (g.2.1+1),Zt (g.2.1+1+1),Za7 (g.2.1+1+1+1) x.left.length⟩:DItem))) hy
 refine ZiM [0] rfl ?_
 refine Zk ?_
 refine xM (h:=?_)
 refine xD (h:=?_)
 refine xA (h:=?_)
 exact ZJ (g.1+1,g.2.1+1+1+1+1*x.left.length,_,(g.2.2.2.set g.1 ((⟨((g.2.1:Nat):Int),Zt (g.2.1+1),Zt (g.2.1+1+1),Za7 (g.2.1+1+1+1) x.left.length⟩:DItem)))) [0] so2 ⟨rfl,so,by simp only [];rw [Zdu hx,← hs,hst];omega,Zgt hle,Zfg ht hx hle hs,ZgO hd,hv12⟩ t4 rfl
 try simp only [sQ,ne_eq] at g1
 have he:=Zh6 ht hle oz
 refine ZH (Z3 (ZO (Zx (Ze ?_))))
 refine Za ?_
 refine xM (h:=?_)
 refine xA (h:=?_)
 refine Zj ?_
 exact ZfH .ret (.inl rfl) [_] [0] rfl t1 ⟨rfl,_,rfl,by rw [hs,ZgI oz];rfl,by rw [← he];exact hw⟩

set_option maxHeartbeats 400000 in
theorem ZfX (q1:Option Addr) (c1:Nat) (x:DQueue) (l1:Cells) (k:Nat) (hk:kL ZaL k x.items≤800000000000000) (hn:x.items.length≤2000000) (B:Kn) (hv:Za9 l1 q1 c1 67 4 (ZbN 9) x.items):ZT (pj J) 11 [.agg #[.int .i64 x.next,.slice q1 x.items.length c1],.int .i64 k] B [l1] (fun v B' Ls=>B'=B∧∃l',Ls=[l']∧v = .int .i64 ((kL ZaL k x.items:Nat):Int)∧Za9 l' q1 c1 67 4 (ZbN 9) (mkL ZaL mkI k x.items)):=by
 refine Zb 10 Try.func11 rfl rfl rfl (Nat.le_of_ble_eq_true rfl) ?_
 refine Za (xBx [_,_] (h:=fun b1=>xA (h:=Zaa [_,_] rfl (Za (xW Zcx (h:=x1 Zi0 1 (h:=xM (h:=Zr (Za2 [0] rfl rfl rfl rfl ZmS rfl (ZfZ _ _ x.items _ k oa oz _ hv) ?_)))))))))
 rintro _ B2 _ hle2 ⟨rfl,l2,rfl,rfl,hs2⟩
 refine xA (h:=Zaa [_,_] rfl (Za (xM (h:=xA (h:=Zj ?_)))))
 exact ZfH .ret (.inl rfl) [_] [0] rfl t1 ⟨rfl,_,rfl,rfl,hs2⟩

set_option maxHeartbeats 400000 in
theorem Zg9 (q1 q2 q3:Option Addr) (c1 c2 c3:Nat) (x:DHost) (l1 l2 l3:Cells) (k:Nat) (hk:kH k x≤800000000000000) (hn1:x.users.length≤2000000) (hn2:x.folders.length≤2000000) (hn3:x.queue.items.length≤2000000) (B:Kn) (hu:Zab Kn.none l1 q1 c1 85 3 Zv x.users) (hf:Za9 l2 q2 c2 91 5 (Zax 142 144) x.folders) (hi:Za9 l3 q3 c3 67 4 (ZbN 9) x.queue.items):ZT (pj J) 26 [.agg #[str x.domain,.slice q1 x.users.length c1,.slice q2 x.folders.length c2,.int .i64 x.queue.next,.slice q3 x.queue.items.length c3],.int .i64 k] B [l1,l2,l3] (fun v B' Ls=>B'=B∧∃l1' l2' l3',Ls=[l1',l2',l3']∧v = .int .i64 ((kH k x:Nat):Int)∧Zab Kn.none l1' q1 c1 85 3 Zv (ZaO k x.users.length)∧Za9 l2' q2 c2 91 5 (Zax 142 144) (mkL ZaE mkF (k+3*x.users.length) x.folders)∧Za9 l3' q3 c3 67 4 (ZbN 9) (mkL ZaL mkI (kL ZaE (k+3*x.users.length) x.folders) x.queue.items)):=by
 refine Zb 18 Try.func26 rfl rfl rfl (Nat.le_of_ble_eq_true rfl) ?_
 have hk3:kL ZaL (kL ZaE (k+3*x.users.length) x.folders) x.queue.items≤800000000000000:=hk
 have hk2:(kL ZaE (k+3*x.users.length) x.folders)≤800000000000000:=Nat.le_trans Zi3 hk3
 have hk1:(k+3*x.users.length)≤800000000000000:=Nat.le_trans Zi3 hk2
 refine Za (xBx [_,_,_,_,_] (h:=fun b1=>xA (h:=Zaa [_,_,_,_] rfl (Za (xW ZbA (h:=x1 Zhr 3 (h:=xM (h:=Zr (Za2 [0] rfl rfl rfl rfl Zl5 rfl (Zdq _ _ x.users _ k oz oz _ (hu.anyK Zv.any)) ?_)))))))))
 rintro _ B2 _ hle2 ⟨rfl,l2,rfl,rfl,hs2⟩
 refine xA (h:=Zaa [_,_,_,_] rfl (Za (xW ZaI (h:=x1 ZfG 3 (h:=xM (h:=Zr (Za2 [1] rfl rfl rfl rfl ZmF rfl (Zez _ _ x.folders _ (k+3*x.users.length) oa oz _ hf) ?_)))))))
 rintro _ B3 _ hle3 ⟨rfl,l3,rfl,rfl,hs3⟩
 refine xA (h:=Zaa [_,_,_,_] rfl (Za (xW ZdE (h:=xL [_,_] Zk4 3 (h:=xM (h:=Zr (Za2 [2] rfl rfl rfl rfl ZmZ rfl (ZfX _ _ x.queue _ (kL ZaE (k+3*x.users.length) x.folders) oa oz _ hi) ?_)))))))
 rintro _ B4 _ hle4 ⟨rfl,l4a,rfl,rfl,hs4a⟩
 refine xA (h:=Zaa [_,_,_,_] rfl (Za (xM (h:=xA (h:=Zj ?_)))))
 exact ZfH .ret (.inl rfl) [_] [0,1,2] rfl t1 ⟨rfl,_,_,_,rfl,rfl,hs2.anyK Zv.any,hs3,hs4a⟩

set_option maxHeartbeats 400000 in
theorem ZeI (q:Option Addr) (cp:Nat) (xs:List DFolder) (k m:Nat) (hmn:m=xs.length) (hk:kL ZaE k xs≤800000000000000) (B:Kn) (hx0:SlK B q cp 5 ZD (mkL ZaE mkF k xs)):Zaw (pj J) 60 [.slice q m cp,.int .i64 k] B (.int .i64 ((kL ZaE k xs:Nat):Int)):=by
 refine Zb 62 Try.func60 rfl rfl rfl (Nat.le_of_ble_eq_true rfl) ?_
 have hxn:=hx0.len
 have hml:=Zbs (st:=ZaE) (mk:=mkF) (xs:=xs) k
 refine Za (xA (h:=Zg (Za (xA (h:=Zl (ZB (α:=Nat × Nat) [0] (fun g=>[(1,.int .i64 g.2),(5,.int .i64 g.1)]) [] (fun g=>[]) (fun g Bx=>Bx=B∧g.1≤xs.length∧g.2=kL ZaE k (xs.take g.1)) (fun g=>xs.length - g.1) (0,k) t2 rfl (⟨rfl,Nat.zero_le _,Zfl.symm⟩) (fun g B1 hle1 hI=>?_)))))))
 obtain ⟨rfl,hi,hs⟩:=hI
 refine ZF [(0,_),(1,_),(5,_)] [] t3 rfl (Zg (Za (xM (h:=xM (h:=xV Try.underlying49 (h:=ZN (h:=Zd rfl (fun g1=>?_) (fun g1=>?_))))))))
 try simp only [sQ,ne_eq] at g1
 obtain ⟨x,hx⟩:=Z2 (xs:=xs) (i:=g.1) oz
 have hkl:=Nat.le_trans (Zi4 (st:=ZaE) (k:=k) hx) hk
 rw [← hs] at hkl
 have hst:ZaE x=3+2*x.grants.length+3*x.mail.length:=rfl
 have hz:(mkL ZaE mkF k xs)[g.1]? = some (mkF g.2 x):=by rw [hs];exact ZfW k hx
 refine Zh (Ze (Zg (Zl (Zg (Zg (Z7 (same _ _) mo kr ⟨rfl,rfl⟩ (fun _ _=>?_)))))))
 refine aM 0 rfl (h:=aM 1 rfl (h:=?_))
 obtain ⟨bb2,oo2,rfl⟩:=hx0.base hz
 obtain ⟨_,⟨qg3,cg3,qm3,cm3,rfl,hg3,hm3,hb3,hb3b⟩,hc3⟩:=hx0.elem hz
 have hg3n:=hg3.len
 have hm3n:=hm3.len
 have hm3s:=Za5 hm3
 refine aIx 2 rfl Try.underlying49 Zc2 (h:=aW 3 rfl ZbK (h:=aT 4 rfl (ZU fun D=>Zq rfl rfl lk9 rfl (hc3 _ 0 _ rfl) r4) (h:=aM 5 rfl (h:=aT 6 rfl (ZU fun D=>ZZ rfl rfl ZeT rfl (ZK g.2 oz _) r4) (h:=?_)))))
 refine Zb1 7 rfl (h:=Zs kr kr ?_)
 refine Ze (Zd rfl (fun h1=>by simp [mkF] at h1) (fun h1=>?_))
 try simp only [sQ,ne_eq] at h1
 refine Zh (Ze (Za (xM (h:=xD (h:=xA (h:=Zg (Zg (Z7 (same _ _) mo kr ⟨rfl,rfl⟩ (fun _ _=>?_)))))))))
 refine aM 0 rfl (h:=aM 1 rfl (h:=aIx 2 rfl Try.underlying49 Zc2 (h:=aW 3 rfl ZcU (h:=aT 4 rfl (ZU fun D=>Zq rfl rfl lk9 rfl (hc3 _ 1 _ rfl) r4) (h:=aM 5 rfl (h:=aT 6 rfl (ZU fun D=>ZZ rfl rfl ZeT rfl (ZK (g.2+1) oz _) r4) (h:=?_)))))))
 refine Zb1 7 rfl (h:=Zs kr kr ?_)
 refine Ze (Zd rfl (fun h2=>by simp [mkF] at h2) (fun h2=>?_))
 try simp only [sQ,ne_eq] at h2
 refine Zh (Ze (Za (xM (h:=xD (h:=xA (h:=Za (xM (h:=xM (h:=xIx Try.underlying49 Zc2 (h:=xW Zfr (h:=y1 Zk3 hc3 2 (h:=xM (h:=?_)))))))))))))
 refine xR Zmn rfl (Zfn _ _ _ ((g.2+1)+1) _ x.grants.length (by first | rfl | exact ZP _ _) rfl oz _ hg3) (h:=?_)
 refine xA (h:=Zg (Za (xM (h:=ZN (h:=Zd rfl (fun h3=>by first | omega | (simp at h3;done) | (simp at h3;omega)) (fun h3=>?_))))))
 try simp only [sQ,ne_eq] at h3
 refine Zh (Ze (Zg (Za (xM (h:=xM (h:=xIx Try.underlying49 Zc2 (h:=xW ZcT (h:=xW Zfs (h:=y1 lk3 hc3 3 (h:=xM (h:=Zan (h:=Zd rfl (fun h4=>by simp [mkF] at h4) (fun h4=>?_)))))))))))))
 try simp only [sQ,ne_eq] at h4
 refine Zh (Ze (Za (xM (h:=xD (h:=xA (h:=Za (xM (h:=xM (h:=xIx Try.underlying49 Zc2 (h:=xW ZcT (h:=xW ZbL (h:=y1 Zh9 hc3 4 (h:=?_)))))))))))))
 refine xM (h:=xR Zmm rfl (Zf6 _ _ _ ((((g.2+1)+1)+2*x.grants.length)+1) _ x.mail.length (by first | rfl | exact ZX _ _) rfl oz _ hm3) (h:=?_))
 refine xA (h:=Za (xM (h:=ZN (h:=Zd rfl (fun h5=>by first | omega | (simp at h5;done) | (simp at h5;omega)) (fun h5=>?_)))))
 try simp only [sQ,ne_eq] at h5
 refine Zh (ZY (Ze (Zk (xM (h:=xD (h:=xA (h:=?_)))))))
 exact ZJ (g.1+1,g.2+1+1+2*x.grants.length+1+3*x.mail.length) [] so2 ⟨rfl,so,by simp only [];rw [Zdu hx,← hs,hst];omega⟩ t3 rfl
 try simp only [sQ,ne_eq] at g1
 refine ZH (Z3 (ZO (Zx (Ze (Za (xM (h:=xA (h:=Zj ?_))))))))
 exact ZC .ret (.inl rfl) [_] t1 ⟨ZaJ (by rw [hs,ZgI oz]),rfl,rfl⟩

set_option maxHeartbeats 400000 in
theorem Zf7 (q:Option Addr) (cp:Nat) (xs:List DItem) (k m:Nat) (hmn:m=xs.length) (hk:kL ZaL k xs≤800000000000000) (B:Kn) (hx0:SlK B q cp 4 ZaC (mkL ZaL mkI k xs)):Zaw (pj J) 40 [.slice q m cp,.int .i64 k] B (.int .i64 ((kL ZaL k xs:Nat):Int)):=by
 refine Zb 51 Try.func40 rfl rfl rfl (Nat.le_of_ble_eq_true rfl) ?_
 have hxn:=hx0.len
 have hml:=Zbs (st:=ZaL) (mk:=mkI) (xs:=xs) k
 refine Za (xA (h:=Zg (Za (xA (h:=Zl (ZB (α:=Nat × Nat) [0] (fun g=>[(1,.int .i64 g.2),(5,.int .i64 g.1)]) [] (fun g=>[]) (fun g Bx=>Bx=B∧g.1≤xs.length∧g.2=kL ZaL k (xs.take g.1)) (fun g=>xs.length - g.1) (0,k) t2 rfl (⟨rfl,Nat.zero_le _,Zfl.symm⟩) (fun g B1 hle1 hI=>?_)))))))
 obtain ⟨rfl,hi,hs⟩:=hI
 refine ZF [(0,_),(1,_),(5,_)] [] t3 rfl (Zg (Za (xM (h:=xM (h:=xV Try.underlying26 (h:=ZN (h:=Zd rfl (fun g1=>?_) (fun g1=>?_))))))))
 try simp only [sQ,ne_eq] at g1
 obtain ⟨x,hx⟩:=Z2 (xs:=xs) (i:=g.1) oz
 have hkl:=Nat.le_trans (Zi4 (st:=ZaL) (k:=k) hx) hk
 rw [← hs] at hkl
 have hst:ZaL x=3+x.left.length:=rfl
 have hz:(mkL ZaL mkI k xs)[g.1]? = some (mkI g.2 x):=by rw [hs];exact ZfW k hx
 refine Zh (Ze (Zg (Zl (Zg (Za (xM (h:=xM (h:=?_))))))))
 obtain ⟨bb2,oo2,rfl⟩:=hx0.base hz
 obtain ⟨_,⟨qi3,ci3,rfl,hi3,hb3,hb3b⟩,hc3⟩:=hx0.elem hz
 have hi3n:=hi3.len
 refine xIx Try.underlying26 ZfF (h:=xW Zen (h:=y1 lk3 hc3 0 (h:=xM (h:=Zan (h:=Zd rfl (fun h1=>by simp [mkI] at h1) (fun h1=>?_))))))
 try simp only [sQ,ne_eq] at h1
 refine Zh (Ze (Za (xM (h:=xD (h:=xA (h:=Zg (Zg (Z7 (same _ _) mo kr ⟨rfl,rfl⟩ (fun _ _=>?_)))))))))
 refine aM 0 rfl (h:=aM 1 rfl (h:=aIx 2 rfl Try.underlying26 ZfF (h:=aW 3 rfl Zem (h:=aT 4 rfl (ZU fun D=>Zq rfl rfl lk9 rfl (hc3 _ 1 _ rfl) r4) (h:=aM 5 rfl (h:=aT 6 rfl (ZU fun D=>ZZ rfl rfl ZeT rfl (ZK (g.2+1) oz _) r4) (h:=?_)))))))
 refine Zb1 7 rfl (h:=Zs kr kr ?_)
 refine Ze (Zd rfl (fun h2=>by simp [mkI] at h2) (fun h2=>?_))
 try simp only [sQ,ne_eq] at h2
 refine Zh (Ze (Za (xM (h:=xD (h:=xA (h:=Zg (Zg (Z7 (same _ _) mo kr ⟨rfl,rfl⟩ (fun _ _=>?_)))))))))
 refine aM 0 rfl (h:=aM 1 rfl (h:=aIx 2 rfl Try.underlying26 ZfF (h:=aW 3 rfl Zft (h:=aT 4 rfl (ZU fun D=>Zq rfl rfl lk9 rfl (hc3 _ 2 _ rfl) r4) (h:=aM 5 rfl (h:=aT 6 rfl (ZU fun D=>ZZ rfl rfl ZeT rfl (ZK ((g.2+1)+1) oz _) r4) (h:=?_)))))))
 refine Zb1 7 rfl (h:=Zs kr kr ?_)
 refine Ze (Zd rfl (fun h3=>by simp [mkI] at h3) (fun h3=>?_))
 try simp only [sQ,ne_eq] at h3
 refine Zh (Ze (Za (xM (h:=xD (h:=xA (h:=Za (xM (h:=xM (h:=xIx Try.underlying26 ZfF (h:=xW Zel (h:=y1 ZjP hc3 3 (h:=xM (h:=?_)))))))))))))
 refine xR ZmA rfl (Zhg _ _ _ (((g.2+1)+1)+1) _ x.left.length (by first | rfl | exact Zag _ _) rfl oz _ hi3) (h:=?_)
 refine xA (h:=Za (xM (h:=ZN (h:=Zd rfl (fun h4=>by first | omega | (simp at h4;done) | (simp at h4;omega)) (fun h4=>?_)))))
 try simp only [sQ,ne_eq] at h4
 refine Zh (ZY (Ze (Zk (xM (h:=xD (h:=xA (h:=?_)))))))
 exact ZJ (g.1+1,g.2+1+1+1+1*x.left.length) [] so2 ⟨rfl,so,by simp only [];rw [Zdu hx,← hs,hst];omega⟩ t3 rfl
 try simp only [sQ,ne_eq] at g1
 refine ZH (Z3 (ZO (Zx (Ze (Za (xM (h:=xA (h:=Zj ?_))))))))
 exact ZC .ret (.inl rfl) [_] t1 ⟨ZaJ (by rw [hs,ZgI oz]),rfl,rfl⟩

set_option maxHeartbeats 400000 in
theorem Zf5 (q:Option Addr) (cp:Nat) (x:DQueue) (k:Nat) (hk:kL ZaL k x.items≤800000000000000) (B:Kn) (hi:SlK B q cp 4 ZaC (mkL ZaL mkI k x.items)):Zaw (pj J) 12 [.agg #[.int .i64 x.next,.slice q x.items.length cp],.int .i64 k] B (.int .i64 ((kL ZaL k x.items:Nat):Int)):=by
 refine Zb 12 Try.func12 rfl rfl rfl (Nat.le_of_ble_eq_true rfl) ?_
 refine Za (xBx [_,_] (h:=fun b1=>xA (h:=Zaa [_] rfl (Za (xW Zcx (h:=x1 Zi0 0 (h:=xM (h:=xR ZmR rfl (Zf7 _ _ x.items k _ rfl oa _ hi) (h:=?_)))))))))
 refine xA (h:=Zg (Za (xM (h:=ZN (h:=Zd rfl (fun h1=>by first | omega | (simp at h1;done) | (simp at h1;omega)) (fun h1=>?_))))))
 try simp only [sQ,ne_eq] at h1
 refine Zh (Ze (Za (xM (h:=xA (h:=Zj ?_)))))
 exact ZC .ret (.inl rfl) [_] t1 ⟨rfl,rfl,rfl⟩

set_option maxHeartbeats 400000 in
theorem Zeh (q1 q2 q3:Option Addr) (c1 c2 c3:Nat) (x:DHost) (k:Nat) (hk:kH k x≤800000000000000) (B:Kn) (hu:SlK B q1 c1 3 Zv (ZaO k x.users.length)) (hf:SlK B q2 c2 5 ZD (mkL ZaE mkF (k+3*x.users.length) x.folders)) (hi:SlK B q3 c3 4 ZaC (mkL ZaL mkI (kL ZaE (k+3*x.users.length) x.folders) x.queue.items)):Zaw (pj J) 27 [.agg #[str x.domain,.slice q1 x.users.length c1,.slice q2 x.folders.length c2,.int .i64 x.queue.next,.slice q3 x.queue.items.length c3],.int .i64 k] B (.int .i64 ((kH k x:Nat):Int)):=by
 refine Zb 24 Try.func27 rfl rfl rfl (Nat.le_of_ble_eq_true rfl) ?_
 have hk3:kL ZaL (kL ZaE (k+3*x.users.length) x.folders) x.queue.items≤800000000000000:=hk
 have hk2:(kL ZaE (k+3*x.users.length) x.folders)≤800000000000000:=Nat.le_trans Zi3 hk3
 have hk1:(k+3*x.users.length)≤800000000000000:=Nat.le_trans Zi3 hk2
 refine Za (xBx [_,_,_,_,_] (h:=fun b1=>xA (h:=Zaa [_] rfl (Za (xW ZbA (h:=x1 Zhr 0 (h:=xM (h:=xR ZmE rfl (Zf4 _ _ _ k _ x.users.length (by first | rfl | exact Zal _ _) rfl oz _ hu) (h:=?_)))))))))
 refine xA (h:=Zg (Za (xM (h:=ZN (h:=Zd rfl (fun h1=>by first | omega | (simp at h1;done) | (simp at h1;omega)) (fun h1=>?_))))))
 try simp only [sQ,ne_eq] at h1
 refine Zh (Ze (Za (xW ZaI (h:=x1 ZfG 0 (h:=xM (h:=xR ZmD rfl (ZeI _ _ x.folders (k+3*x.users.length) _ rfl oa _ hf) (h:=?_)))))))
 refine xA (h:=Zg (Za (xM (h:=ZN (h:=Zd rfl (fun h2=>by first | omega | (simp at h2;done) | (simp at h2;omega)) (fun h2=>?_))))))
 try simp only [sQ,ne_eq] at h2
 refine Zh (Ze (Za (xW ZdE (h:=xL [_,_] Zk4 0 (h:=xM (h:=xR ZmY rfl (Zf5 _ _ x.queue (kL ZaE (k+3*x.users.length) x.folders) oa _ hi) (h:=?_)))))))
 refine xA (h:=Zg (Za (xM (h:=ZN (h:=Zd rfl (fun h3=>by first | omega | (simp at h3;done) | (simp at h3;omega)) (fun h3=>?_))))))
 try simp only [sQ,ne_eq] at h3
 refine Zh (Ze (Za (xM (h:=xA (h:=Zj ?_)))))
 exact ZC .ret (.inl rfl) [_] t1 ⟨rfl,rfl,rfl⟩

set_option maxHeartbeats 400000 in
theorem Zfq (o n:Str) (B:Kn):ZT (pj J) 54 [str o,str n] B [] (fun v B' Ls=>B'=B∧∃l a k l' a' k',Ls=[l,l']∧v = .agg #[str o,str n,.slice a 0 k,.int .i64 1,.slice a' 0 k']∧Zab Kn.none l a k 142 2 Z1 ([]:List DGrant)∧Zab Kn.none l' a' k' 144 3 Zar ([]:List DMail)):=by
 refine Zb 11 Try.func54 rfl rfl rfl (Nat.le_of_ble_eq_true rfl) ?_
 refine Za (xAl [_,_,_,_,_] ZiG (h:=fun b1=>Zaa [_] rfl (Za (xM (h:=xM (h:=xBs [] [] Try.underlying86 ZcB Zj0 (h:=fun b2=>xBs [] [] Try.underlying87 Zb8 ZjZ (h:=fun b3=>xB [(0,_),(1,_)] [_,_] [_,_] ZlB Zlq (h:=xB [(0,_),(1,_),(2,_),(3,_)] [_,_,_,_,_] [_,_,_,_,_] ZlA ZiG (h:=xS [_,_,_,_,_] 0 [_,_,_,_,_] Zc2 (h:=Zaa [_,_,_] rfl (Zj ?_))))))))))))
 exact ZfH .ret (.inl rfl) [_] [1,2] rfl ⟨⟨_,rfl,.inr ⟨[_,_,_,_,_],ZkG,Zhp 0 rfl rfl rfl,rfl⟩⟩,trivial⟩ ⟨rfl,_,_,_,_,_,_,rfl,rfl,Zab.lit0,Zab.lit0⟩

set_option maxHeartbeats 400000 in
theorem Zeg (q:Option Addr) (cp:Nat) (d:Str) (us:List DUser) (hd:d.length≤2000000) (hl:us.length≤1100000) (B:Kn) (hu:SlK B q cp 3 Zv us):ZT (pj J) 22 [str d,.slice q us.length cp] B [] (fun v B' Ls=>∃q1 c1 q2 c2 q3 c3 l1 l2 l3,Ls=[l1,l2,l3]∧v = .tuple #[.agg #[str (ZE d us).1.domain,.slice q1 (ZE d us).1.users.length c1,.slice q2 (ZE d us).1.folders.length c2,.int .i64 (ZE d us).1.queue.next,.slice q3 (ZE d us).1.queue.items.length c3],.bool (ZE d us).2]∧Zab Kn.none l1 q1 c1 85 3 Zv (ZE d us).1.users∧Za9 l2 q2 c2 91 5 (Zax 142 144) (ZE d us).1.folders∧Za9 l3 q3 c3 67 4 (ZbN 9) (ZE d us).1.queue.items):=by
 refine Zb 41 Try.func22 rfl rfl rfl (Nat.le_of_ble_eq_true rfl) ?_
 have hun:=hu.len
 refine Za (xAl [_,_,_,_,_] Zho (h:=fun b1=>xA (h:=Zaa [_] rfl (Zg (Za (xM (h:=xR ZmK rfl (Zfm _ om2 _) (h:=?_))))))))
 refine xN (h:=xM (h:=Zz (d:=12) rfl (fun g1=>?_) (fun g1=>?_)))
 try simp only [sQ,ne_eq] at g1
 rw [ZcH (by rw [Zdo,g1];rfl)]
 refine xP (h:=xP (h:=xP (h:=xT (h:=Zj1 [[],[],[]] rfl (Zd (t:=true) rfl (fun _=>Za (xB [] [_,_,_,_,_] [_,_,_,_,_] Zk0 Zho (h:=xS [_,_,_,_,_] 0 [_,_,_,_,_] ZiE (h:=xA (h:=Zaa [_,_,_,_] rfl (Zj (Zp ?_))))))) (fun h=>Bool.noConfusion h))))))
 exact ZfH .ret (.inl rfl) [_,_] [1,2,3] rfl ⟨⟨_,rfl,.inr ⟨[_,_,_,_,_],ZdS,Zhp 0 rfl rfl rfl,rfl⟩⟩,rfl,trivial⟩ ⟨none,0,none,0,none,0,_,_,_,rfl,rfl,Zab.nil,Za9.nil,Za9.nil⟩
 try simp only [sQ,ne_eq] at g1
 refine xM (h:=xR ZmJ rfl (Zf2 _ _ _ _ hu) (h:=xN (h:=xF (h:=Zd rfl (fun g2=>?_) (fun g2=>?_)))))
 try simp only [sQ,ne_eq] at g2
 rw [ZcH (by rw [Zdo,g2,Bool.and_false])]
 refine Zj1 [[],[],[]] rfl (Za (xB [] [_,_,_,_,_] [_,_,_,_,_] Zk0 Zho (h:=xS [_,_,_,_,_] 0 [_,_,_,_,_] ZiE (h:=xA (h:=Zaa [_,_,_,_] rfl (Zj (Zp ?_)))))))
 exact ZfH .ret (.inl rfl) [_,_] [1,2,3] rfl ⟨⟨_,rfl,.inr ⟨[_,_,_,_,_],ZdS,Zhp 0 rfl rfl rfl,rfl⟩⟩,rfl,trivial⟩ ⟨none,0,none,0,none,0,_,_,_,rfl,rfl,Zab.nil,Za9.nil,Za9.nil⟩
 try simp only [sQ,ne_eq] at g2
 have hok:ZaS (Zh1 d us)=true:=by rw [Zdo,g1,g2];rfl
 refine Zj1 [[]] rfl (Zh (Ze (Za (xM (h:=xBs [] [] Try.underlying48 ZcY Zjy (h:=fun b4=>xM (h:=Zr (ZjJ (R:=Zv) 2 rfl (Zab.lit0 (R:=Zv)) rfl rfl rfl ZlG ZlW rfl rfl rfl hu.rows Zv.one rfl om (fun l5 p5 c5 hv5=>?_)))))))))
 refine xBs [] [] Try.underlying26 ZfF Zlj (h:=fun b6=>xB [(0,_),(1,_)] [_,_] [_,_] ZlY ZlU (h:=xB [(0,_),(1,_),(3,_)] [_,_,_,_,_] [_,_,_,_,_] Zk0 Zho (h:=xAl [_,_,_,_,_] Zho (h:=fun b7=>xS [_,_,_,_,_] 4 [_,_,_,_,_] ZiE (h:=Zaa [_,_,_,_,_] rfl (Zg (Za (xM (h:=xV Try.underlying48 (h:=xM (h:=Zl (ZB (α:=Gh DFolder) [0,1,4,5,6,16,25,26] (fun g=>[(27,.int .i64 g.k)]) [1,4] (fun g=>[g.l,ZaB b7 [str d,.slice p5 us.length c5,.slice g.a g.xs.length g.c,.int .i64 1,.slice (some ⟨b6,0,none⟩) 0 0] 51]) (fun g Bx=>Bx=B∧g.k≤us.length∧g.xs=(us.take g.k).map (fun u=>ZcS u.name)∧Za9 g.l g.a g.c 91 5 (Zax 142 144) g.xs) (fun g=>us.length - g.k) ⟨0,0,[],none,0,[]⟩ t1 rfl (⟨rfl,Nat.zero_le _,by simp,Za9.nil⟩) (fun g B8 hle8 hI=>?_)))))))))))))
 obtain ⟨rfl,hk,hx,hv⟩:=hI
 have hgl:g.xs.length≤us.length:=by rw [hx,List.length_map,List.length_take];omega
 refine ZF [(0,_),(1,_),(4,_),(5,_),(6,_),(16,_),(25,_),(26,_),(27,_)] [_,_,_,_,_] t9 rfl (Za (ZN (h:=Zg (Zd rfl (fun g3=>?_) (fun g3=>?_)))))
 try simp only [sQ,ne_eq] at g3
 refine Zh (Ze (Zg (Zl (Za ?_))))
 obtain ⟨w,hw⟩:=Z2 (xs:=us) (i:=g.k) om
 obtain ⟨bb10,oo10,rfl⟩:=hu.base hw
 obtain ⟨_,⟨rfl,hb11,hb11b⟩,hc11⟩:=hu.elem hw
 refine xIx Try.underlying48 ZcY (h:=yL [_,_,_] ZjO hc11 0 (h:=xAl [_,_,_] Zjy (h:=fun b12=>xS [_,_,_] 5 [_,_,_] ZcY (h:=Zaa [_,_,_,_,_,_] rfl (Z7 (keeps _ [4,5] _) mo kr ⟨Kn.le.refl _,Zdt.refl _ _⟩ (fun _ _=>?_))))))
 refine aW 0 rfl ZaI (h:=aT 1 rfl (Ze7 fun D B L hI=>Zq rfl rfl ZfG rfl (atL 4 (hI.2.1.trans rfl) rfl rfl) r4) (h:=aW 2 rfl ZaK (h:=aT 3 rfl (Ze7 fun D B L hI=>Zq rfl rfl lk9 rfl (atL 5 (hI.2.2.1.trans rfl) rfl rfl) r4) (h:=Zbv 4 kr rfl kr (Zci rfl rfl ZmI rfl (Zfq w.name ([105,110,98,111,120]) _) ?_)))))
 rintro _ B13 _ hle13 ⟨rfl,l13,a13,c13,l13b,a13b,c13b,rfl,rfl,hs13,hs13b⟩
 refine ⟨⟨Kn.le.refl _,t2⟩,(Zbv 5 kr rfl kr (Zac (parts:=[(0,_)]) [_,_,_,_,_] rfl rfl Try.underlying49 Zc2 ZiG rfl rfl rfl rfl rfl (fun b14=>?_)))⟩
 refine ⟨⟨Kn.le.refl _,t2⟩,(Zbv 6 kr rfl kr (Zj5 (R:=(Zax 142 144)) (⟨w.name,[105,110,98,111,120],([]:List DGrant),1,([]:List DMail)⟩) 1 [6,7] rfl rfl hv rfl rfl rfl ZlF Zlz rfl rfl (Zbb.box 8 rfl) rfl rfl (l13 ++ l13b) (by simp) (⟨_,_,_,_,_,_,rfl,rfl,(hs13.anyK Z1.any),(hs13b.anyK Zar.any),by first | assumption | omega | (simp;done) | (simp;omega),by first | assumption | omega | (simp;done) | (simp;omega),by first | assumption | omega | (simp;done) | (simp;omega),by first | assumption | omega | (simp;done) | (simp;omega)⟩) om (fun l15 p15 c15 hd15=>?_)))⟩
 refine ⟨⟨Kn.le.refl _,t2⟩,(aW 7 rfl ZaI (h:=Zgl 8 kr rfl kr kr kr (Zb5 [_] 4 [_,_,_,_,_] rfl rfl Zly rfl rfl rfl rfl rfl rfl rfl rfl ?_)))⟩
 refine ZY (Ze (Zk (xD (h:=xM (h:=?_)))))
 exact ZJ ⟨g.k+1,0,l15,p15,c15,(g.xs ++ [⟨w.name,[105,110,98,111,120],([]:List DGrant),1,([]:List DMail)⟩])⟩ [0,1,2,3,4] so2 ⟨rfl,so,by rw [List.take_add_one,hw];simp [hx,ZcS,inbox],hd15⟩ t9 rfl
 try simp only [sQ,ne_eq] at g3
 have he:(us.map fun u=>ZcS u.name)=g.xs:=by rw [hx,List.take_of_length_le oz]
 refine ZH (Z3 (ZO (Zx (Ze (Za (xL [_,_,_,_,_] ZdS 4 (h:=xS [_,_,_,_,_] 0 [_,_,_,_,_] ZiE (h:=xA (h:=Zaa [_,_,_,_,_] rfl (Zj ?_))))))))))
 exact ZfH .ret (.inl rfl) [_,_] [2,1,3] rfl ⟨⟨_,rfl,.inr ⟨[_,_,_,_,_],ZdS,Zhp 0 rfl rfl rfl,rfl⟩⟩,rfl,trivial⟩ (by rw [Zdx hok,Zh1,he];exact ⟨_,_,_,_,_,_,_,_,_,rfl,rfl,hv5.anyK Zv.any,hv,Za9.lit0⟩)

set_option maxHeartbeats 4000000 in
theorem Zf9 (W:World) (d:Str) (q:Option Addr) (cp:Nat) (us:List DUser) (hw:d.length≤140737488355328) (hu:SlB (Zc1 W) q cp 3 Zgo us):Calls Try.prog 5 [str d,.slice q us.length cp].toArray W fun e w'=>∃v,e = .returned v∧Kept W w'∧∃(B':Kn) (Ls':List Cells),Sat B' Ls'.flatten w'∧v = .bool true:=by
 refine Zjn (args:=[str d,.slice q us.length cp]) 104 Try.func5 rfl rfl rfl (Nat.le_of_ble_eq_true rfl) ?_
 generalize Zc1 W=B at hu ⊢
 refine Za (xA (h:=Zg (Za (xM (h:=xVs Try.underlying9 (h:=ZiI (h:=Zd rfl (fun g0=>?_) (fun g0=>?_))))))))
 try simp only [sQ,ne_eq] at g0
 refine Za (xA (h:=Zj (Zp ?_)))
 exact ZC .ret (.inl rfl) [_] t1 rfl
 try simp only [sQ,ne_eq] at g0
 refine Zh (Ze (Za (xA (h:=Za (xM (h:=xM (h:=xR ZmX rfl (ZhG _ _ us 1048576 om om _ hu) (h:=?_))))))))
 refine xA (h:=Zg (Za (xM (h:=ZN (h:=Zd rfl (fun g1=>?_) (fun g1=>?_))))))
 try simp only [sQ,ne_eq] at g1
 refine Za (xA (h:=Zj (Zp ?_)))
 exact ZC .ret (.inl rfl) [_] t1 rfl
 try simp only [sQ,ne_eq] at g1
 have hsz:=(ZhH oz g1).2
 replace hsz:szL Zbx us≤1048576:=by omega
 obtain ⟨hka,hkb,hkc,hkd⟩:=Zkt (d:=d) hsz
 replace hu:=ZfK hu hsz
 have hun:=hu.len
 have husl:=(Zdb hsz).1
 refine Zh (Ze (Za (xM (h:=xM (h:=Zr (Zci rfl rfl Zlo rfl (Zcl _ _ us om2 _ hu) ?_))))))
 rintro _ B2 _ hle2 ⟨q2,c2,l2,rfl,rfl,rfl,hv2⟩
 refine ZjN 0 rfl hv2 Zv.any om (fun B3 hle3 hr3=>?_)
 replace hu:=hu.mono Zv.mono hle3
 have hr3n:=hr3.len
 refine Zr (Zj3 rfl rfl ZmW rfl (ZhN _ _ d us om2 om2 _ hr3) ?_)
 intro v4 B4 hle4
 rintro ⟨q14,c14,q24,c24,q34,c34,rfl,hu4,hf4,hi4⟩
 replace hu:=hu.mono Zv.mono hle4
 replace hr3:=hr3.mono Zv.mono hle4
 have hu4n:=hu4.len
 have hf4n:=hf4.len
 have hi4n:=hi4.len
 refine xM (h:=xE (h:=xE (h:=xAl [_,_,_,_,_] Zho (h:=fun b5=>xS [_,_,_,_,_] 1 [_,_,_,_,_] ZiE (h:=xA (h:=Zaa [_,_] rfl (Za (xM (h:=Zr (Zci rfl rfl Zlo rfl (Zcl _ _ us om2 _ hu) ?_))))))))))
 rintro _ B6 _ hle6 ⟨q6,c6,l6,rfl,rfl,rfl,hv6⟩
 refine xA (h:=Zaa [_,_,_] rfl (Za (xM (h:=xM (h:=Zr (Za2 [2] rfl rfl rfl rfl Zl7 rfl (ZT.borrow fun hm7=>Zeg _ _ d us om2 om2 _ ((hv6.anyK Zv.any).lend Zv.mono hm7 om)) ?_))))))
 rintro _ B7 _ hle7 ⟨BB7,_,rfl,hB7,_,hm7,_,q17,c17,q27,c27,q37,c37,l17,l27,l37,rfl,rfl,hu7,hf7,hi7⟩
 replace hu:=hu.mono Zv.mono hle7
 replace hu4:=hu4.mono Zv.mono hle7
 replace hf4:=hf4.mono ZD.mono hle7
 replace hi4:=hi4.mono ZaC.mono hle7
 replace hv6:=hv6.mono Zv.mono hle7
 refine xM (h:=xE (h:=xE (h:=xAl [_,_,_,_,_] Zho (h:=fun b8=>xS [_,_,_,_,_] 6 [_,_,_,_,_] ZiE (h:=xA (h:=Zaa [_,_,_,_,_,_,_] rfl (Zg (Za (xL [_,_,_,_,_] ZdS 6 (h:=xL [_,_,_,_,_] ZdS 1 (h:=Zr (Zd0 [3,4,5] rfl rfl rfl rfl rfl ZlJ rfl (Zaw.borrowL fun hm9=>ZeM _ _ _ _ _ _ _ _ _ _ _ _ ((ZE d us).1) ((ZE d us).1) _ (hu7.lendK Zv.any 0 rfl hm9 om) (hf7.lendK Zax.known ZD.mono 1 rfl hm9 om) (hi7.lendK ZbN.known ZaC.mono 2 rfl hm9 om) (hu4.mono Zv.mono (Kn.le_add _ _)) (hf4.mono ZD.mono (Kn.le_add _ _)) (hi4.mono ZaC.mono (Kn.le_add _ _))) ?_))))))))))))
 refine xN (h:=xM (h:=Zz (d:=43) rfl (fun g2=>by simp at g2) (fun g2=>?_)))
 try simp only [sQ,ne_eq] at g2
 refine xM (h:=xM (h:=Zr (Zhy rfl rfl rfl rfl rfl (Ziv Try.underlying4) (xF (h:=Zd rfl (fun g3=>by simp at g3) (fun g3=>?_))))))
 try simp only [sQ,ne_eq] at g3
 refine Zh (Ze (Zg (Za (xM (h:=xM (h:=Zr (Zci rfl rfl Zlo rfl (Zcl _ _ us om2 _ hu) ?_)))))))
 rintro _ B10 _ hle10 ⟨q10,c10,l10,rfl,rfl,rfl,hv10⟩
 refine Zr (Zd0 [2,7] rfl rfl rfl rfl rfl Zl6 rfl (Zaw.borrowL fun hm11=>Zfv _ _ _ _ _ _ _ (hv6.lendK Zv.any 0 rfl hm11 om) (hv10.lendK Zv.any 1 rfl hm11 om)) ?_)
 refine xN (h:=Zaa [_,_,_,_,_,_,_,_] rfl (Zd rfl (fun g4=>by simp at g4) (fun g4=>?_)))
 try simp only [sQ,ne_eq] at g4
 refine Zh (Ze (Za (xA (h:=Za (xM (h:=xM (h:=Zr (Za2 [2] rfl rfl rfl rfl Zl5 rfl (Zdq _ _ us _ 1 oz oz _ (hv6.anyK Zv.any)) ?_))))))))
 rintro _ B12 _ hle12 ⟨rfl,l12,rfl,rfl,hs12⟩
 refine xA (h:=Zaa [_,_,_,_,_,_,_,_] rfl (Zg (Za (xM (h:=ZN (h:=xM (h:=Zz (d:=58) rfl (fun g5=>by first | omega | (simp at g5;done) | (simp at g5;omega)) (fun g5=>?_))))))))
 try simp only [sQ,ne_eq] at g5
 refine xL [_,_,_,_,_] ZdS 6 (h:=xL [_,_,_,_,_] ZdS 1 (h:=Zr (Zd0 [3,4,5] rfl rfl rfl rfl rfl ZlJ rfl (Zaw.borrowL fun hm13=>ZeM _ _ _ _ _ _ _ _ _ _ _ _ ((ZE d us).1) ((ZE d us).1) _ (hu7.lendK Zv.any 0 rfl hm13 om) (hf7.lendK Zax.known ZD.mono 1 rfl hm13 om) (hi7.lendK ZbN.known ZaC.mono 2 rfl hm13 om) (hu4.mono Zv.mono (Kn.le_add _ _)) (hf4.mono ZD.mono (Kn.le_add _ _)) (hi4.mono ZaC.mono (Kn.le_add _ _))) ?_)))
 refine xN (h:=xF (h:=xM (h:=Zz (d:=64) rfl (fun g6=>by simp at g6) (fun g6=>?_))))
 try simp only [sQ,ne_eq] at g6
 refine xM (h:=xM (h:=Zr (Zhy rfl rfl rfl rfl rfl (Ziv Try.underlying4) (xF (h:=Zd rfl (fun g7=>by simp at g7) (fun g7=>?_))))))
 try simp only [sQ,ne_eq] at g7
 refine Zh (Ze (Za (xA (h:=Za (xL [_,_,_,_,_] ZdS 6 (h:=xM (h:=Zr (Za2 [3,4,5] rfl rfl rfl rfl ZmV rfl (Zg9 _ _ _ _ _ _ ((ZE d us).1) _ _ _ 1 oa oz oz oz _ (hu7.anyK Zv.any) hf7 hi7) ?_))))))))
 rintro _ B14 _ hle14 ⟨rfl,l14a,l14b,l14c,rfl,rfl,hs14a,hs14b,hs14c⟩
 refine xA (h:=Zaa [_,_,_,_,_,_,_,_] rfl (Za (xA (h:=Za (xL [_,_,_,_,_] ZdS 6 (h:=xM (h:=Zr (Zd0 [3,4,5] rfl rfl rfl rfl rfl Zl4 rfl (Zaw.borrowL fun hm15=>Zeh _ _ _ _ _ _ (ZE d us).1 1 oa _ (hs14a.lendK Zv.any 0 rfl hm15 (by simp only [ZP,ZX,Zal,Zag,Zbs];omega)) (hs14b.lendK Zax.known ZD.mono 1 rfl hm15 (by simp only [ZP,ZX,Zal,Zag,Zbs];omega)) (hs14c.lendK ZbN.known ZaC.mono 2 rfl hm15 (by simp only [ZP,ZX,Zal,Zag,Zbs];omega))) ?_))))))))
 refine xA (h:=Zg (Za (xM (h:=ZN (h:=Zd rfl (fun g8=>by first | omega | (simp at g8;done) | (simp at g8;omega)) (fun g8=>?_))))))
 try simp only [sQ,ne_eq] at g8
 refine Zh (Ze (Zg (Za (xM (h:=xM (h:=Zan (h:=Zd rfl (fun g9=>by simp at g9) (fun g9=>?_))))))))
 try simp only [sQ,ne_eq] at g9
 refine Zh (Ze (Za (xM (h:=xM (h:=Zr (Zci rfl rfl Zlo rfl (Zcl _ _ us om2 _ hu) ?_))))))
 rintro _ B16 _ hle16 ⟨q16,c16,l16,rfl,rfl,rfl,hv16⟩
 refine ZjN 8 rfl hv16 Zv.any om (fun B17 hle17 hr17=>?_)
 replace hu:=hu.mono Zv.mono hle17
 replace hu4:=hu4.mono Zv.mono hle17
 replace hf4:=hf4.mono ZD.mono hle17
 replace hi4:=hi4.mono ZaC.mono hle17
 replace hs12:=hs12.mono Zv.mono hle17
 replace hs14a:=hs14a.mono Zv.mono hle17
 replace hv10:=hv10.mono Zv.mono hle17
 have hr17n:=hr17.len
 refine Zr (Zci rfl rfl Zl7 rfl (Zeg _ _ d us om2 om2 _ hr17) ?_)
 rintro _ B18 _ hle18 ⟨q118,c118,q218,c218,q318,c318,l118,l218,l318,rfl,rfl,hu18,hf18,hi18⟩
 replace hu:=hu.mono Zv.mono hle18
 replace hr17:=hr17.mono Zv.mono hle18
 replace hu4:=hu4.mono Zv.mono hle18
 replace hf4:=hf4.mono ZD.mono hle18
 replace hi4:=hi4.mono ZaC.mono hle18
 replace hs12:=hs12.mono Zv.mono hle18
 replace hs14a:=hs14a.mono Zv.mono hle18
 replace hv10:=hv10.mono Zv.mono hle18
 refine xM (h:=xE (h:=xE (h:=xAl [_,_,_,_,_] Zho (h:=fun b19=>xS [_,_,_,_,_] 12 [_,_,_,_,_] ZiE (h:=xA (h:=Zaa [_,_,_,_,_,_,_,_,_,_,_,_,_] rfl (Zg (Za (xL [_,_,_,_,_] ZdS 12 (h:=xL [_,_,_,_,_] ZdS 1 (h:=Zr (Zd0 [9,10,11] rfl rfl rfl rfl rfl ZlJ rfl (Zaw.borrowL fun hm20=>ZeM _ _ _ _ _ _ _ _ _ _ _ _ ((ZE d us).1) ((ZE d us).1) _ (hu18.lendK Zv.any 0 rfl hm20 om) (hf18.lendK Zax.known ZD.mono 1 rfl hm20 om) (hi18.lendK ZbN.known ZaC.mono 2 rfl hm20 om) (hu4.mono Zv.mono (Kn.le_add _ _)) (hf4.mono ZD.mono (Kn.le_add _ _)) (hi4.mono ZaC.mono (Kn.le_add _ _))) ?_))))))))))))
 refine xN (h:=xM (h:=Zz (d:=91) rfl (fun ga=>by simp at ga) (fun ga=>?_)))
 try simp only [sQ,ne_eq] at ga
 refine xM (h:=xM (h:=Zr (Zhy rfl rfl rfl rfl rfl (Ziv Try.underlying4) (xF (h:=Zd rfl (fun gb=>by simp at gb) (fun gb=>?_))))))
 try simp only [sQ,ne_eq] at gb
 refine Zh (Ze (Za (xA (h:=Za (xL [_,_,_,_,_] ZdS 6 (h:=xM (h:=Zr (Zd0 [3,4,5] rfl rfl rfl rfl rfl Zl4 rfl (Zaw.borrowL fun hm21=>Zeh _ _ _ _ _ _ (ZE d us).1 1 oa _ (hs14a.lendK Zv.any 0 rfl hm21 (by simp only [ZP,ZX,Zal,Zag,Zbs];omega)) (hs14b.lendK Zax.known ZD.mono 1 rfl hm21 (by simp only [ZP,ZX,Zal,Zag,Zbs];omega)) (hs14c.lendK ZbN.known ZaC.mono 2 rfl hm21 (by simp only [ZP,ZX,Zal,Zag,Zbs];omega))) ?_))))))))
 refine xA (h:=Zg (Za (xM (h:=ZN (h:=Zd rfl (fun gc=>by first | omega | (simp at gc;done) | (simp at gc;omega)) (fun gc=>?_))))))
 try simp only [sQ,ne_eq] at gc
 refine Zh (Ze (Zg (Za (xM (h:=xM (h:=Zan (h:=Zd rfl (fun gd=>by simp at gd) (fun gd=>?_))))))))
 try simp only [sQ,ne_eq] at gd
 refine Zh (Ze (Za (xA (h:=Zj ?_))))
 exact ZC .ret (.inl rfl) [_] t1 rfl

end Go.Proofs.Ytpdpnilbhlojbaa
