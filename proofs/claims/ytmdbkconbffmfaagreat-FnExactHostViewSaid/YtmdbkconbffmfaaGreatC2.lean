/-
  WHAT THE FUNCTIONS THAT THE LAWS REACH COMPUTE: each function's contract, proved off its printed body (the text is written by program). No condition beyond those that each theorem states.
-/
import Derived.Test.YtmdbkconbffmfaaGreatC1
namespace Go.Proofs.YtmdbkconbffmfaaGreat
open Go Go.BL
set_option linter.unusedVariables false
set_option linter.unusedSimpArgs false
set_option maxRecDepth 4000
variable {J : JoinT}
set_option maxHeartbeats 400000 in
theorem Zku (q:Option Addr) (cp:Nat) (xs:List DUser) (l:Cells) (k:Nat) (hk:k≤900000000000000) (hn:xs.length≤2000000) (B:Kn) (hv:Z3 B l q cp 101 3 Zq xs):ZJ (pj J) 40 [.slice q xs.length cp,.int .i64 k] B [l] (fun v B' Ls=>B'=B∧∃l',Ls=[l']∧v = .int .i64 ((k+3*xs.length:Nat):Int)∧Z3 B l' q cp 101 3 Zq (ZdG k xs.length)):=by
 refine Zb 36 Tryz.func40 rfl rfl rfl (Nat.le_of_ble_eq_true rfl) ?_
 have hvc:=hv.cap
 refine Za (xA (h:=Zg (Za (xA (h:=Zl (ZC (α:=Nat × Cells × List DUser) [4] (fun g=>[(0,.slice q xs.length cp),(1,.int .i64 ((k+3*g.1:Nat):Int)),(5,.int .i64 g.1)]) [0] (fun g=>[g.2.1]) (fun g Bx=>Bx=B∧g.1≤xs.length∧g.2.2.length=xs.length∧g.2.2.take g.1=ZdG k g.1∧Z3 Bx g.2.1 q cp 101 3 Zq g.2.2) (fun g=>xs.length - g.1) (0,l,xs) t3 rfl (⟨rfl,Nat.zero_le _,rfl,rfl,hv⟩) (fun g B1 hle1 hI=>?_)))))))
 obtain ⟨rfl,hi,hle,ht,hw⟩:=hI
 refine ZL [(0,_),(1,_),(4,_),(5,_)] [_] t4 rfl (Zg (Za (xM (h:=xM (h:=xV Tryz.underlying38 (h:=ZF (h:=Zc rfl (fun g1=>?_) (fun g1=>?_))))))))
 try simp only [sQ,ne_eq] at g1
 refine Zf (Zd (Zg (Zl (Za (xM (h:=xM (h:=xM (h:=xR Zmm rfl (Zaz (k+3*g.1) oz _) (h:=?_)))))))))
 obtain ⟨z1,hz1⟩:=ZW (xs:=g.2.2) (i:=g.1) om
 obtain ⟨bb4,_,hp4,⟨rfl,hb4,hb4b⟩,hw4,hc4⟩:=hw.row hz1
 refine xIp hp4 Tryz.underlying38 ZbV (h:=xW ZaX (h:=Zo (ZgA (k:=g.1) (off:=0) (⟨ZT (k+3*g.1),z1.pass,z1.quota⟩) [_] 0 hw hp4 hz1 rfl rfl sz9 rfl rfl rfl rfl rfl rfl (by rintro _ ⟨rfl,e1,e2⟩;exact ⟨rfl,show (ZT (k+3*g.1)).length≤2000000 from Nat.le_trans (ZbE (k:=k+3*g.1) oz) (by decide),e2⟩) (fun l5 hv5=>?_))))
 refine ZH [_] rfl (Za (xM (h:=xD (h:=xA (h:=Za (xM (h:=xM (h:=xM (h:=xR Zmm rfl (Zaz ((k+3*g.1)+1) oz _) (h:=?_))))))))))
 obtain ⟨z2,hz2⟩:=ZW (xs:=(g.2.2.set g.1 (⟨ZT (k+3*g.1),z1.pass,z1.quota⟩))) (i:=g.1) om
 obtain ⟨bb8,_,hp8,⟨rfl,hb8,hb8b⟩,hw8,hc8⟩:=hv5.row hz2
 refine xIp hp8 Tryz.underlying38 ZbV (h:=xW Zf1 (h:=Zo (ZgA (k:=g.1) (off:=1) (⟨z2.name,ZT (k+3*g.1+1),z2.quota⟩) [_] 0 hv5 hp8 hz2 rfl rfl sz9 rfl rfl rfl rfl rfl rfl (by rintro _ ⟨rfl,e1,e2⟩;exact ⟨rfl,e1,show (ZT (k+3*g.1+1)).length≤2000000 from Nat.le_trans (ZbE (k:=k+3*g.1+1) oz) (by decide)⟩) (fun l9 hv9=>?_))))
 refine ZH [_] rfl (Za (xM (h:=xD (h:=xA (h:=Za (xM (h:=xM (h:=xM (h:=?_)))))))))
 obtain ⟨z3,hz3⟩:=ZW (xs:=((g.2.2.set g.1 (⟨ZT (k+3*g.1),z1.pass,z1.quota⟩)).set g.1 (⟨z2.name,ZT (k+3*g.1+1),z2.quota⟩))) (i:=g.1) om
 obtain ⟨bb11,_,hp11,⟨rfl,hb11,hb11b⟩,hw11,hc11⟩:=hv9.row hz3
 refine xIp hp11 Tryz.underlying38 ZbV (h:=xW ZdN (h:=Zo (ZgA (k:=g.1) (off:=2) (⟨z3.name,z3.pass,((k+3*g.1+1+1:Nat):Int)⟩) [_] 0 hv9 hp11 hz3 rfl rfl sz3 rfl rfl rfl rfl rfl rfl (by rintro _ ⟨rfl,e1,e2⟩;exact ⟨rfl,e1,e2⟩) (fun l12 hv12=>?_))))
 refine ZH [_] rfl (Zk (xM (h:=xD (h:=xA (h:=ZP (Zd (Zk (xM (h:=xD (h:=xA (h:=?_)))))))))))
 exact ZD (g.1+1,l12,(((g.2.2.set g.1 (⟨ZT (k+3*g.1),z1.pass,z1.quota⟩)).set g.1 (⟨z2.name,ZT (k+3*g.1+1),z2.quota⟩)).set g.1 (⟨z3.name,z3.pass,((k+3*g.1+1+1:Nat):Int)⟩))) [0] so2 ⟨rfl,so,by simp only [List.length_set];exact hle,Zjj ht hz1 hz2 hz3,hv12⟩ t4 rfl
 try simp only [sQ,ne_eq] at g1
 have he:=Zlo ht oz
 have hgi:g.1=xs.length:=by omega
 rw [hgi] at he
 refine ZI (ZY (ZM (Zv (Zd (Za (xM (h:=xA (h:=Zi ?_))))))))
 exact Zbx .ret (.inl rfl) [_] [0] rfl t1 ⟨rfl,_,rfl,by rw [hgi];rfl,by rw [← he];exact hw⟩

set_option maxHeartbeats 400000 in
theorem Zin (q:Option Addr) (cp:Nat) (xs:List Str) (l:Cells) (k:Nat) (hk:k≤900000000000000) (hn:xs.length≤2000000) (B:Kn) (hv:Z3 B l q cp 9 1 Zek xs):ZJ (pj J) 115 [.slice q xs.length cp,.int .i64 k] B [l] (fun v B' Ls=>B'=B∧∃l',Ls=[l']∧v = .int .i64 ((k+1*xs.length:Nat):Int)∧Z3 B l' q cp 9 1 Zek (ZdT k xs.length)):=by
 refine Zb 20 Tryz.func115 rfl rfl rfl (Nat.le_of_ble_eq_true rfl) ?_
 have hvc:=hv.cap
 refine Za (xA (h:=Zg (Za (xA (h:=Zl (ZC (α:=Nat × Cells × List Str) [4] (fun g=>[(0,.slice q xs.length cp),(1,.int .i64 ((k+1*g.1:Nat):Int)),(5,.int .i64 g.1)]) [0] (fun g=>[g.2.1]) (fun g Bx=>Bx=B∧g.1≤xs.length∧g.2.2.length=xs.length∧g.2.2.take g.1=ZdT k g.1∧Z3 Bx g.2.1 q cp 9 1 Zek g.2.2) (fun g=>xs.length - g.1) (0,l,xs) t3 rfl (⟨rfl,Nat.zero_le _,rfl,rfl,hv⟩) (fun g B1 hle1 hI=>?_)))))))
 obtain ⟨rfl,hi,hle,ht,hw⟩:=hI
 refine ZL [(0,_),(1,_),(4,_),(5,_)] [_] t4 rfl (Zg (Za (xM (h:=xM (h:=xV Tryz.underlying103 (h:=ZF (h:=Zc rfl (fun g1=>?_) (fun g1=>?_))))))))
 try simp only [sQ,ne_eq] at g1
 refine Zf (Zd (Zg (Zl (Za (xM (h:=xM (h:=xM (h:=xR Zmm rfl (Zaz (k+1*g.1) oz _) (h:=?_)))))))))
 obtain ⟨z1,hz1⟩:=ZW (xs:=g.2.2) (i:=g.1) om
 obtain ⟨bb4,_,hp4,⟨rfl,hb4⟩,hw4,hc4⟩:=hw.row hz1
 refine xIp hp4 Tryz.underlying103 sz9 (h:=Zo (ZgA (k:=g.1) (off:=0) (ZT (k+1*g.1)) [_] 0 hw hp4 hz1 rfl rfl sz9 rfl rfl rfl rfl rfl rfl (by rintro _ ⟨rfl,e1⟩;exact ⟨rfl,show (ZT (k+1*g.1)).length≤2000000 from Nat.le_trans (ZbE (k:=k+1*g.1) oz) (by decide)⟩) (fun l5 hv5=>?_)))
 refine ZH [_] rfl (Zk (xM (h:=xD (h:=xA (h:=ZP (Zd (Zk (xM (h:=xD (h:=xA (h:=?_)))))))))))
 exact ZD (g.1+1,l5,(g.2.2.set g.1 (ZT (k+1*g.1)))) [0] so2 ⟨rfl,so,by simp only [List.length_set];exact hle,Zkp ht hz1,hv5⟩ t4 rfl
 try simp only [sQ,ne_eq] at g1
 have he:=Zlo ht oz
 have hgi:g.1=xs.length:=by omega
 rw [hgi] at he
 refine ZI (ZY (ZM (Zv (Zd (Za (xM (h:=xA (h:=Zi ?_))))))))
 exact Zbx .ret (.inl rfl) [_] [0] rfl t1 ⟨rfl,_,rfl,by rw [hgi];rfl,by rw [← he];exact hw⟩

set_option maxHeartbeats 400000 in
theorem Zit (k:Nat) (hk:k<6) (B:Kn):Zaa (pj J) 116 [.int .i64 k] B (.int .i64 (ZbM k)):=by
 refine Zb 7 Tryz.func116 rfl rfl rfl (Nat.le_of_ble_eq_true rfl) ?_
 refine Za (xA (h:=Za (xBs [(0,_),(1,_),(2,_),(3,_),(4,_),(5,_)] [_,_,_,_,_,_] Tryz.underlying182 sz3 zo3 (h:=fun b1=>?_))))
 have hvq:Z3 B (ZaK b1 (([1,2,4,8,16,32]:List Int).map fun x=>.int .i64 x) 3) (some ⟨b1,0,none⟩) 6 3 1 ZbN ([1,2,4,8,16,32]:List Int):=Z3.ints
 refine xM (h:=?_)
 obtain ⟨e,he⟩:=ZW (xs:=([1,2,4,8,16,32]:List Int)) (i:=k) om
 obtain ⟨bb3,_,hp3,rfl,hw3,hc3⟩:=hvq.row he
 refine xIp hp3 Tryz.underlying182 sz3 (h:=Zo (Zs rfl rfl lk3 rfl (hc3 _ 0 rfl 0 _ rfl) (xA (h:=ZH [_] rfl (Zi ?_)))))
 exact ZB .ret (.inl rfl) [_] t1 ⟨ZN (Zo1 he),rfl,rfl⟩

set_option maxHeartbeats 400000 in
theorem Zq1 (q:Option Addr) (cp:Nat) (gs:List DGrant) (u:Str) (hr :∀y,y∈gs→0≤y.rights∧y.rights≤63) (B:Kn) (hg:SlK B q cp 2 Zu gs):Zaa (pj J) 81 [.slice q gs.length cp,str u] B (.int .i64 (ZaZ gs u)):=by
 refine Zb 55 Tryz.func81 rfl rfl rfl (Nat.le_of_ble_eq_true rfl) ?_
 have hgn:=hg.len
 refine Za (xA (h:=Za (xA (h:=Zg (Za (xA (h:=Zl (ZC (α:=Nat × Int) [0,1,4] (fun g=>[(5,.int .i64 g.2),(6,.int .i64 g.1)]) [] (fun g=>[]) (fun g Bx=>Bx=B∧g.1≤6∧g.2=ZeJ gs u g.1) (fun g=>6 - g.1) (0,0) t2 rfl (⟨rfl,oz,rfl⟩) (fun g B1 hle1 hI=>?_)))))))))
 obtain ⟨rfl,hk,hs⟩:=hI
 have hbd:=Zhu gs u g.1 hk
 refine ZL [(0,_),(1,_),(4,_),(5,_),(6,_)] [] t5 rfl (Zg (Za (xM (h:=ZF (h:=Zc rfl (fun g1=>?_) (fun g1=>?_))))))
 try simp only [sQ,ne_eq] at g1
 have hp:=Zop (k:=g.1) oz
 refine Zf (Zd (Zg (Zl (Za (xA (h:=Zg (Za (xA (h:=Zl (ZC (α:=Nat × Bool) [0,1,4,5,6,10] (fun o=>[(7,.bool o.2),(8,.int .i64 o.1)]) [] (fun o=>[]) (fun o Bx=>Bx=B1∧o.1≤gs.length∧o.2=(gs.take o.1).any (onB u (ZbM g.1))) (fun o=>gs.length - o.1) (0,false) t2 rfl (⟨rfl,Nat.zero_le _,rfl⟩) (fun o B2 hle2 hI=>?_)))))))))))
 obtain ⟨rfl,ho,hon⟩:=hI
 refine ZL [(0,_),(1,_),(4,_),(5,_),(6,_),(7,_),(8,_),(10,_)] [] t8 rfl (Zg (Za (xM (h:=xM (h:=xV Tryz.underlying30 (h:=ZF (h:=Zc rfl (fun g2=>?_) (fun g2=>?_))))))))
 try simp only [sQ,ne_eq] at g2
 obtain ⟨x,hx⟩:=ZW (xs:=gs) (i:=o.1) oz
 have hrx:=hr x (List.mem_of_getElem? hx)
 refine Zf (Zd (Zg (Zl (Zan (same _ _) mo kr ⟨rfl,rfl⟩ (fun _ _=>?_)))))
 refine aM 0 rfl (h:=aM 1 rfl (h:=Zav (d:=20) rfl (fun g3=>?_) (fun g3=>?_)))
 try simp only [sQ,ne_eq] at g3
 refine aZ 2 rfl (h:=aZ 3 rfl (h:=aZ 4 rfl (h:=aZ 5 rfl (h:=aZ 6 rfl (h:=aZ 7 rfl (h:=aZ 8 rfl (h:=aZ 9 rfl (h:=aZ 10 rfl (h:=aZ 11 rfl (h:=aZ 12 rfl (h:=aZ 13 rfl (h:=aZ 14 rfl (h:=?_)))))))))))))
 refine aZ 15 rfl (h:=aZ 16 rfl (h:=aZ 17 rfl (h:=aZ 18 rfl (h:=aZ 19 rfl (h:=aZ 20 rfl (h:=aZ 21 rfl (h:=aZ 22 rfl (h:=aZ 23 rfl (h:=aZ 24 rfl (h:=aZ 25 rfl (h:=aZ 26 rfl (h:=aZ 27 rfl (h:=?_)))))))))))))
 refine aZ 28 rfl (h:=aPT 29 rfl (h:=aA 30 rfl (h:=Zz kr kr ?_)))
 refine ZP (Zd (Zk (xM (h:=xD (h:=xA (h:=?_))))))
 exact ZD (o.1+1,true) [] so2 ⟨rfl,so,by rw [Zgy hx,← hon,g3];rfl⟩ t8 rfl
 try simp only [sQ,ne_eq] at g3
 refine aM 2 rfl (h:=aM 3 rfl (h:=?_))
 obtain ⟨bb3,oo3,rfl⟩:=hg.base hx
 obtain ⟨_,⟨rfl,hb4⟩,hc4⟩:=hg.elem hx
 refine aIx 4 rfl Tryz.underlying30 ZbO (h:=aW 5 rfl ZbK (h:=aT 6 rfl (Zaq fun D=>Zs rfl rfl lk9 rfl (hc4 _ 0 _ rfl) r4) (h:=aM 7 rfl (h:=Zox 8 rfl (h:=aM 9 rfl (h:=Zav (d:=28) rfl (fun g4=>?_) (fun g4=>?_)))))))
 try simp only [sQ,ne_eq] at g4
 refine aZ 10 rfl (h:=aZ 11 rfl (h:=aZ 12 rfl (h:=aZ 13 rfl (h:=aZ 14 rfl (h:=aZ 15 rfl (h:=aPT 16 rfl (h:=aM 17 rfl (h:=aM 18 rfl (h:=aM 19 rfl (h:=aIx 20 rfl Tryz.underlying30 ZbO (h:=aW 21 rfl ZcH (h:=aT 22 rfl (Zaq fun D=>Zs rfl rfl lk3 rfl (hc4 _ 1 _ rfl) r4) (h:=?_)))))))))))))
 refine aM 23 rfl (h:=aT 24 rfl (Zaq fun D=>Zam rfl rfl Zrs rfl (Zit g.1 om2 _) r4) (h:=?_))
 refine aT 25 rfl (Zaq fun D=>ZmD (a:=x.rights) (b:=(ZbM g.1)) (r:=Int.tdiv x.rights (ZbM g.1)) rfl rfl rfl rfl oz (Znh oz oz oz) r4) (h:=?_)
 refine aT 26 rfl (Zaq fun D=>ZoG (a:=(Int.tdiv x.rights (ZbM g.1))) (b:=2) (r:=Int.tmod (Int.tdiv x.rights (ZbM g.1)) 2) rfl rfl rfl rfl (by decide) rfl r4) (h:=?_)
 refine Zoy 27 rfl (h:=aPT 28 rfl (h:=aPF 29 rfl (h:=aA 30 rfl (h:=Zz kr kr ?_))))
 refine ZP (Zd (Zk (xM (h:=xD (h:=xA (h:=?_))))))
 exact ZD (o.1+1,decide (Int.tmod (Int.tdiv x.rights (ZbM g.1)) 2=1)) [] so2 ⟨rfl,so,by rw [Zgy hx,← hon,g3,onB];simp [g4]⟩ t8 rfl
 try simp only [sQ,ne_eq] at g4
 refine aM 10 rfl (h:=aM 11 rfl (h:=aIx 12 rfl Tryz.underlying30 ZbO (h:=aW 13 rfl ZbK (h:=aT 14 rfl (Zaq fun D=>Zs rfl rfl lk9 rfl (hc4 _ 0 _ rfl) r4) (h:=Zox 15 rfl (h:=aPF 16 rfl (h:=aM 17 rfl (h:=Zav (d:=36) rfl (fun g5=>?_) (fun g5=>?_)))))))))
 try simp only [sQ,ne_eq] at g5
 refine aM 18 rfl (h:=aM 19 rfl (h:=aIx 20 rfl Tryz.underlying30 ZbO (h:=aW 21 rfl ZcH (h:=aT 22 rfl (Zaq fun D=>Zs rfl rfl lk3 rfl (hc4 _ 1 _ rfl) r4) (h:=aM 23 rfl (h:=aT 24 rfl (Zaq fun D=>Zam rfl rfl Zrs rfl (Zit g.1 om2 _) r4) (h:=?_)))))))
 refine aT 25 rfl (Zaq fun D=>ZmD (a:=x.rights) (b:=(ZbM g.1)) (r:=Int.tdiv x.rights (ZbM g.1)) rfl rfl rfl rfl oz (Znh oz oz oz) r4) (h:=?_)
 refine aT 26 rfl (Zaq fun D=>ZoG (a:=(Int.tdiv x.rights (ZbM g.1))) (b:=2) (r:=Int.tmod (Int.tdiv x.rights (ZbM g.1)) 2) rfl rfl rfl rfl (by decide) rfl r4) (h:=?_)
 refine Zoy 27 rfl (h:=aPT 28 rfl (h:=aPF 29 rfl (h:=aA 30 rfl (h:=Zz kr kr ?_))))
 refine ZP (Zd (Zk (xM (h:=xD (h:=xA (h:=?_))))))
 exact ZD (o.1+1,decide (Int.tmod (Int.tdiv x.rights (ZbM g.1)) 2=1)) [] so2 ⟨rfl,so,by rw [Zgy hx,← hon,g3,onB];simp [g5,anyone]⟩ t8 rfl
 try simp only [sQ,ne_eq] at g5
 refine aZ 18 rfl (h:=aZ 19 rfl (h:=aZ 20 rfl (h:=aZ 21 rfl (h:=aZ 22 rfl (h:=aZ 23 rfl (h:=aZ 24 rfl (h:=aZ 25 rfl (h:=aZ 26 rfl (h:=aZ 27 rfl (h:=aPF 28 rfl (h:=aPF 29 rfl (h:=aA 30 rfl (h:=?_)))))))))))))
 refine Zz kr kr ?_
 refine ZP (Zd (Zk (xM (h:=xD (h:=xA (h:=?_))))))
 exact ZD (o.1+1,false) [] so2 ⟨rfl,so,by rw [Zgy hx,← hon,g3,onB];simp [g4,g5,anyone]⟩ t8 rfl
 try simp only [sQ,ne_eq] at g2
 have hae:=Zrx hon oz
 refine ZI (ZY (ZM (Zv (Zd (Za (xM (h:=Zc rfl (fun g6=>?_) (fun g6=>?_))))))))
 try simp only [sQ,ne_eq] at g6
 refine Zk (xM (h:=xM (h:=xR Zrs rfl (Zit g.1 om2 _) (h:=?_))))
 refine xD (h:=xA (h:=ZP (Zd (Zk (xM (h:=xD (h:=xA (h:=?_))))))))
 exact ZD (g.1+1,g.2+ZbM g.1) [] so2 ⟨rfl,so,by simp only [ZeJ];rw [← hae,if_pos g6,hs]⟩ t5 rfl
 try simp only [sQ,ne_eq] at g6
 refine Zf (ZP (Zd (Zk (xM (h:=xD (h:=xA (h:=?_)))))))
 exact ZD (g.1+1,g.2) [] so2 ⟨rfl,so,by simp only [ZeJ];rw [← hae,if_neg (by simp [g6]),hs]⟩ t5 rfl
 try simp only [sQ,ne_eq] at g1
 refine ZI (ZY (ZM (Zv (Zd (Za (xM (h:=xA (h:=Zi ?_))))))))
 exact ZB .ret (.inl rfl) [_] t1 ⟨ZN (by rw [hs,show g.1=6 from by omega];rfl),rfl,rfl⟩

set_option maxHeartbeats 400000 in
theorem Zis (q1 q2 q3:Option Addr) (c1 c2 c3:Nat) (x:DHost) (k:Int) (u:Str) (r:Int) (f:DFolder) (hk0:0≤k) (hk:x.folders[k.toNat]? = some f) (hrr:ZiL x.folders) (h1:0<r) (B:Kn) (hf:SlK B q2 c2 5 Ze x.folders):Zaa (pj J) 47 [.agg #[str x.domain,.slice q1 x.users.length c1,.slice q2 x.folders.length c2,.int .i64 x.queue.next,.slice q3 x.queue.items.length c3],.int .i64 k,str u,.int .i64 r] B (.bool (ZjR f u r)):=by
 refine Zb 31 Tryz.func47 rfl rfl rfl (Nat.le_of_ble_eq_true rfl) ?_
 have hfn:=hf.len
 have hkl:=(List.getElem?_eq_some_iff.1 hk).1
 have hrb:=Zkk f.grants u
 refine Za (xBx [_,_,_,_,_] (h:=fun b1=>xA (h:=ZH [_] rfl (Za (xM (h:=xW Zar (h:=x1 Zd7 0 (h:=xM (h:=?_)))))))))
 obtain ⟨bb2,oo2,rfl⟩:=hf.base hk
 obtain ⟨_,⟨qg3,cg3,qm3,cm3,rfl,hg3,hm3,hb3,hb3b⟩,hc3⟩:=hf.elem hk
 have hg3n:=hg3.len
 have hm3n:=hm3.len
 have hm3s:=Z5 hm3
 refine xIx Tryz.underlying39 ZaQ (h:=xW Za0 (h:=y1 lk9 hc3 0 (h:=Zc9 (h:=xM (h:=Zw (d:=17) rfl (fun g1=>?_) (fun g1=>?_))))))
 try simp only [sQ,ne_eq] at g1
 refine xP (h:=xP (h:=xP (h:=xP (h:=xP (h:=xP (h:=xP (h:=xP (h:=xP (h:=xP (h:=xP (h:=xP (h:=xT (h:=?_)))))))))))))
 refine xA (h:=Zi ?_)
 exact ZB .ret (.inl rfl) [_] t1 ⟨Zh (by simp [ZjR,g1]),rfl,rfl⟩
 try simp only [sQ,ne_eq] at g1
 refine xW Zar (h:=x1 Zd7 0 (h:=xM (h:=xIx Tryz.underlying39 ZaQ (h:=xW Zce (h:=y1 Zmx hc3 2 (h:=xM (h:=xR Zvf rfl (Zq1 _ _ f.grants u (by first | assumption | exact hrr _ (List.mem_of_getElem? (oy))) _ hg3) (h:=?_))))))))
 refine xM (h:=Zo (ZmD (a:=(ZaZ f.grants u)) (b:=r) (r:=Int.tdiv (ZaZ f.grants u) r) rfl rfl rfl rfl oz (Znh oz oz oz) ?_))
 refine Zo (ZoG (a:=(Int.tdiv (ZaZ f.grants u) r)) (b:=2) (r:=Int.tmod (Int.tdiv (ZaZ f.grants u) r) 2) rfl rfl rfl rfl (by decide) rfl ?_)
 refine ZkZ (h:=xF (h:=xA (h:=Zi ?_)))
 exact ZB .ret (.inl rfl) [_] t1 ⟨Zh (by simp [ZjR,g1]),rfl,rfl⟩

set_option maxHeartbeats 400000 in
theorem Zl8 (q1 q2 q3:Option Addr) (c1 c2 c3:Nat) (x:DHost) (u:Str) (k r:Int) (hk:k<x.folders.length) (hrr:ZiL x.folders) (h1:0<r) (B:Kn) (hu:SlK B q1 c1 3 Zq x.users) (hf:SlK B q2 c2 5 Ze x.folders):Zaa (pj J) 52 [.agg #[str x.domain,.slice q1 x.users.length c1,.slice q2 x.folders.length c2,.int .i64 x.queue.next,.slice q3 x.queue.items.length c3],str u,.int .i64 k,.int .i64 r] B (.int .i64 (ZrI x.users x.folders u k r)):=by
 refine Zb 32 Tryz.func52 rfl rfl rfl (Nat.le_of_ble_eq_true rfl) ?_
 refine Za (xBx [_,_,_,_,_] (h:=fun b1=>xA (h:=ZH [_] rfl (Zg (Zl (Za (xW ZbI (h:=x1 ZiM 0 (h:=xM (h:=xR ZrG rfl (Zdi _ _ _ _ _ hu) (h:=ZF (h:=xM (h:=?_)))))))))))))
 refine Zw (d:=15) rfl (fun g1=>?_) (fun g1=>?_)
 try simp only [sQ,ne_eq] at g1
 refine xP (h:=xP (h:=xT (h:=xA (h:=Zc (t:=true) rfl (fun _=>Za (xA (h:=Zi (ZE (Zn ?_))))) (fun h=>Bool.noConfusion h)))))
 exact ZB .ret (.inl rfl) [_] t1 ⟨ZN (Zok (.inl g1)).symm,rfl,rfl⟩
 try simp only [sQ,ne_eq] at g1
 refine xM (h:=ZF (h:=xF (h:=xA (h:=Zc rfl (fun g2=>?_) (fun g2=>?_)))))
 try simp only [sQ,ne_eq] at g2
 refine Za (xA (h:=Zi (ZE (Zn ?_))))
 exact ZB .ret (.inl rfl) [_] t1 ⟨ZN (Zok (.inr g2)).symm,rfl,rfl⟩
 try simp only [sQ,ne_eq] at g2
 have hfn:=hf.len
 obtain ⟨f,hf0⟩ :∃f,x.folders[k.toNat]? = some f:=⟨_,List.getElem?_eq_getElem oz⟩
 have hce:=Zol (us:=x.users) (u:=u) (r:=r) oz hf0
 refine Za (xL [_,_,_,_,_] Ze7 0 (h:=xM (h:=xM (h:=xR Ztt rfl (Zis _ _ _ _ _ _ x k u 1 _ oz (oy) hrr oz _ hf) (h:=?_)))))
 refine xN (h:=xA (h:=Zc rfl (fun g3=>?_) (fun g3=>?_)))
 try simp only [sQ,ne_eq] at g3
 refine Za (xA (h:=Zi (ZE (Zn ?_))))
 exact ZB .ret (.inl rfl) [_] t1 ⟨ZN (by rw [hce,if_pos g3]),rfl,rfl⟩
 try simp only [sQ,ne_eq] at g3
 refine Za (xL [_,_,_,_,_] Ze7 0 (h:=xM (h:=xM (h:=xM (h:=xR Ztt rfl (Zis _ _ _ _ _ _ x k u r _ oz (oy) hrr oz _ hf) (h:=?_))))))
 refine xN (h:=xA (h:=Zc rfl (fun g4=>?_) (fun g4=>?_)))
 try simp only [sQ,ne_eq] at g4
 refine Za (xA (h:=Zi (ZE (Zn ?_))))
 exact ZB .ret (.inl rfl) [_] t1 ⟨ZN (by rw [hce,if_neg (by simp [g3]),if_pos g4]),rfl,rfl⟩
 try simp only [sQ,ne_eq] at g4
 refine Zf (ZP (Zd (Za (xA (h:=Zi ?_)))))
 exact ZB .ret (.inl rfl) [_] t1 ⟨ZN (by rw [hce,if_neg (by simp [g3]),if_neg (by simp [g4])]),rfl,rfl⟩

set_option maxHeartbeats 400000 in
theorem ZnF (q:Option Addr) (cp:Nat) (x:DBox) (B:Kn) (hm:SlK B q cp 3 ZK x.mail):ZJ (pj J) 63 [.agg #[.int .i64 x.next,.slice q x.mail.length cp]] B [] (fun v B' Ls=>B'=B∧∃l a c,Ls=[l]∧v = .agg #[.int .i64 x.next,.slice a x.mail.length c]∧Z3 B l a c 126 3 ZK x.mail):=by
 refine Zb 9 Tryz.func63 rfl rfl rfl (Nat.le_of_ble_eq_true rfl) ?_
 have hxn:=hm.len
 refine Za (xBx [_,_] (h:=fun b1=>xAl [_,_] Zqw (h:=fun b2=>ZH [_,_] rfl (Za (xBs [] [] Tryz.underlying31 Zcv Zh8 (h:=fun b3=>xW Zbu (h:=x1 ZiO 0 (h:=Zo (Zk3 (R:=ZK) 2 rfl (Z3.lit0 (R:=ZK)) rfl rfl rfl Ztp Zus rfl rfl rfl hm.rows ZK.one rfl om (fun l4 p4 c4 hv4=>?_))))))))))
 refine xW Zbu (h:=xS [_] 0 [_,_] Zur (h:=ZH [_,_,_] rfl (Za (xL [_,_] ZiN 0 (h:=xS [_,_] 1 [_,_] ZrD (h:=ZH [_,_,_] rfl (Zi ?_)))))))
 exact Zbx .ret (.inl rfl) [_] [2] rfl ⟨⟨_,rfl,.inr ⟨[_,_],ZiN,ZcQ 1 rfl rfl rfl,rfl⟩⟩,trivial⟩ ⟨rfl,_,_,_,rfl,rfl,hv4⟩

set_option maxHeartbeats 400000 in
theorem Zg6 (qa qb:Option Addr) (ca cb:Nat) (x:DFolder) (B:Kn) (hg:SlK B qa ca 2 Zu x.grants) (hm:SlK B qb cb 3 ZK x.mail):ZJ (pj J) 29 [.agg #[str x.owner,str x.name,.slice qa x.grants.length ca,.int .i64 x.next,.slice qb x.mail.length cb]] B [] (fun v B' Ls=>B'=B∧∃l a c l' a' c',Ls=[l,l']∧v = .agg #[str x.owner,str x.name,.slice a x.grants.length c,.int .i64 x.next,.slice a' x.mail.length c']∧Z3 B l a c 117 2 Zu x.grants∧Z3 B l' a' c' 126 3 ZK x.mail):=by
 refine Zb 13 Tryz.func29 rfl rfl rfl (Nat.le_of_ble_eq_true rfl) ?_
 have hgn:=hg.len
 have hmn:=hm.len
 refine Za (xBx [_,_,_,_,_] (h:=fun b1=>xAl [_,_,_,_,_] Zca (h:=fun b2=>ZH [_,_] rfl (Za (xBs [] [] Tryz.underlying30 ZbO ZfG (h:=fun b3=>xW Zce (h:=x1 Zmx 0 (h:=Zo (Zk3 (R:=Zu) 2 rfl (Z3.lit0 (R:=Zu)) rfl rfl rfl Ztq Zut rfl rfl rfl hg.rows Zu.one rfl om (fun l4 p4 c4 hv4=>?_))))))))))
 refine xW Zce (h:=xS [_] 0 [_,_,_,_,_] ZsR (h:=ZH [_,_,_] rfl (Za (xW ZbJ (h:=xL [_,_] ZiN 0 (h:=Zo (Zao rfl rfl Zvw rfl (ZnF _ _ (⟨x.next,x.mail⟩:DBox) _ hm) ?_)))))))
 rintro _ B5 _ hle5 ⟨hB5,l5,a5,c5,rfl,rfl,hs5⟩
 have hB5:=hB5.symm
 subst hB5
 refine xW ZbJ (h:=xS [_,_] 0 [_,_,_,_,_] ZrD (h:=ZH [_,_,_,_] rfl (Za (xL [_,_,_,_,_] Zcd 0 (h:=xS [_,_,_,_,_] 1 [_,_,_,_,_] ZaQ (h:=ZH [_,_,_,_] rfl (Zi ?_)))))))
 exact Zbx .ret (.inl rfl) [_] [2,3] rfl ⟨⟨_,rfl,.inr ⟨[_,_,_,_,_],Zcd,ZcQ 1 rfl rfl rfl,rfl⟩⟩,trivial⟩ ⟨rfl,_,_,_,_,_,_,rfl,rfl,hv4,hs5⟩

set_option maxHeartbeats 400000 in
theorem Zi6 (q1 q2 q3:Option Addr) (c1 c2 c3:Nat) (x:DHost) (o n:Str) (ho:o.length≤2000000) (hn:n.length≤2000000) (hd:x.domain.length≤2000000) (B:Kn) (hu:SlK B q1 c1 3 Zq x.users) (hf:SlK B q2 c2 5 Ze x.folders) (hi:SlK B q3 c3 4 ZG x.queue.items):ZJ (pj J) 7 [.agg #[str x.domain,.slice q1 x.users.length c1,.slice q2 x.folders.length c2,.int .i64 x.queue.next,.slice q3 x.queue.items.length c3],str o,str n] B [] (fun v B' Ls=>Ls=[]∧∃qa ca qb cb,v = .tuple #[.agg #[str (ZA x o n).1.owner,str (ZA x o n).1.name,.slice qa (ZA x o n).1.grants.length ca,.int .i64 (ZA x o n).1.next,.slice qb (ZA x o n).1.mail.length cb],.bool (ZA x o n).2]∧SlK B' qa ca 2 Zu (ZA x o n).1.grants∧SlK B' qb cb 3 ZK (ZA x o n).1.mail):=by
 refine Zb 28 Tryz.func7 rfl rfl rfl (Nat.le_of_ble_eq_true rfl) ?_
 have hfn:=hf.len
 have hix:=ZkD (inF o n) x.folders
 refine Za (xBx [_,_,_,_,_] (h:=fun b1=>xAl [_,_,_,_,_] Zca (h:=fun b2=>xA (h:=ZH [_,_] rfl (Zg (Za (xL [_,_,_,_,_] Ze7 0 (h:=xR Ztw rfl (ZfN _ _ _ _ _ _ x om2 _ hu hf hi) (h:=?_)))))))))
 refine xN (h:=xM (h:=Zw (d:=11) rfl (fun g1=>?_) (fun g1=>?_)))
 try simp only [sQ,ne_eq] at g1
 rw [Zc5 (x:=x) (o:=o) (n:=n) (by simpa using g1)]
 refine xP (h:=xP (h:=xP (h:=xP (h:=xP (h:=xT (h:=Zc (t:=true) rfl (fun _=>Za (xB [] [_,_,_,_,_] [_,_,_,_,_] Zlk Zca (h:=xS [_,_,_,_,_] 1 [_,_,_,_,_] ZaQ (h:=xA (h:=ZH [_,_] rfl (Zi (Zn ?_))))))) (fun h=>Bool.noConfusion h)))))))
 exact Zbx .ret (.inl rfl) [_,_] [] rfl ⟨⟨_,rfl,.inr ⟨[_,_,_,_,_],Zcd,ZcQ 1 rfl rfl rfl,rfl⟩⟩,rfl,trivial⟩ ⟨rfl,none,0,none,0,rfl,SlK.nil,SlK.nil⟩
 try simp only [sQ,ne_eq] at g1
 refine xL [_,_,_,_,_] Ze7 0 (h:=xM (h:=xM (h:=xR Ztv rfl (Zg7 _ _ _ _ _ _ x o n om2 om2 _ hf) (h:=?_))))
 refine ZF (h:=xF (h:=Zc rfl (fun g2=>?_) (fun g2=>?_)))
 try simp only [sQ,ne_eq] at g2
 rw [ZcG (x:=x) (o:=o) (n:=n) oz]
 refine Za (xB [] [_,_,_,_,_] [_,_,_,_,_] Zlk Zca (h:=xS [_,_,_,_,_] 1 [_,_,_,_,_] ZaQ (h:=xA (h:=ZH [_,_] rfl (Zi (Zn ?_))))))
 exact Zbx .ret (.inl rfl) [_,_] [] rfl ⟨⟨_,rfl,.inr ⟨[_,_,_,_,_],Zcd,ZcQ 1 rfl rfl rfl,rfl⟩⟩,rfl,trivial⟩ ⟨rfl,none,0,none,0,rfl,SlK.nil,SlK.nil⟩
 try simp only [sQ,ne_eq] at g2
 refine Zf (Zd (Zg (Zan (keeps _ [0] _) mo kr ⟨Kn.le.refl _,ZbF.refl _ _⟩ (fun _ _=>?_))))
 refine aW 0 rfl Zar (h:=aT 1 rfl (Zah fun D B L hI=>Zs rfl rfl Zd7 rfl (atL 0 (hI.2.1.trans rfl) rfl rfl) r4) (h:=aT 2 rfl (Zah fun D B L hI=>Z8 [_,_,_,_,_] rfl rfl Ze7 rfl (ZcQ 0 (hI.2.1.trans rfl) rfl rfl) r4) (h:=aM 3 rfl (h:=aM 4 rfl (h:=aT 5 rfl (Zah fun D B L hI=>Zam rfl rfl Ztv rfl (Zg7 _ _ _ _ _ _ x o n om2 om2 _ (hf.mono Ze.mono hI.1)) r4) (h:=?_))))))
 obtain ⟨w,hw⟩:=ZrE (xs:=x.folders) (i:=(ZeG (inF o n) x.folders)) om om
 obtain ⟨bb7,oo7,rfl⟩:=hf.base hw
 obtain ⟨_,⟨qg8,cg8,qm8,cm8,rfl,hg8,hm8,hb8,hb8b⟩,hc8⟩:=hf.elem hw
 have hg8n:=hg8.len
 have hm8n:=hm8.len
 have hm8s:=Z5 hm8
 refine aIx 6 rfl Tryz.underlying39 ZaQ (h:=aT 7 rfl (Zah fun D B L hI=>Z8 [_,_,_,_,_] rfl rfl Zcd rfl (Zlg (hc8.mono hI.1) 0 rfl rfl) r4) (h:=Z4 8 kr rfl kr (Zao rfl rfl ZuK rfl (Zg6 _ _ _ _ w _ hg8 hm8) ?_)))
 rintro _ B9 _ hle9 ⟨rfl,l9,a9,c9,l9b,a9b,c9b,rfl,rfl,hs9,hs9b⟩
 refine ⟨⟨Kn.le.refl _,t1⟩,(ZeL 2 rfl hs9 Zu.mono om3 (fun B' hle'=>⟨hle',t1⟩) (fun B10 hle10 hr10=>?_))⟩
 replace hu:=hu.mono Zq.mono hle10
 replace hf:=hf.mono Ze.mono hle10
 replace hi:=hi.mono ZG.mono hle10
 replace hg8:=hg8.mono Zu.mono hle10
 replace hm8:=hm8.mono ZK.mono hle10
 replace hc8:=hc8.mono hle10
 replace hs9b:=hs9b.mono ZK.mono hle10
 have hr10n:=hr10.len
 refine ZeL 3 rfl hs9b ZK.mono om3 (fun B' hle'=>⟨hle10.trans hle',t1⟩) (fun B11 hle11 hr11=>?_)
 replace hu:=hu.mono Zq.mono hle11
 replace hf:=hf.mono Ze.mono hle11
 replace hi:=hi.mono ZG.mono hle11
 replace hg8:=hg8.mono Zu.mono hle11
 replace hm8:=hm8.mono ZK.mono hle11
 replace hc8:=hc8.mono hle11
 replace hr10:=hr10.mono Zu.mono hle11
 have hr11n:=hr11.len
 refine Zou 9 kr rfl kr kr (Zd0 [_,_,_,_,_] 1 [_,_,_,_,_] rfl rfl ZaQ rfl rfl rfl rfl rfl rfl rfl rfl ?_)
 refine aA 10 rfl (h:=Zz kr kr ?_)
 refine Zd (ZH [_,_,_,_] rfl (Zi ?_))
 exact Zbx .ret (.inl rfl) [_,_] [] rfl ⟨⟨_,rfl,.inr ⟨[_,_,_,_,_],Zcd,ZcQ 1 rfl rfl rfl,rfl⟩⟩,rfl,trivial⟩ (by rw [ZcF (x:=x) (o:=o) (n:=n) (by simpa using g1) oz hw];exact ⟨rfl,_,_,_,_,rfl,hr10,hr11⟩)

set_option maxHeartbeats 400000 in
theorem ZkU (q:Option Addr) (cp:Nat) (gs:List DGrant) (o u:Str) (ho:o.length≤2000000) (hn:u.length≤2000000) (B:Kn) (hg:SlK B q cp 2 Zu gs):Zaa (pj J) 82 [.slice q gs.length cp,str o,str u] B (.int .i64 (ZiK gs o u)):=by
 refine Zb 35 Tryz.func82 rfl rfl rfl (Nat.le_of_ble_eq_true rfl) ?_
 refine Za (xA (h:=Za (xM (h:=Zo (Zao rfl rfl Zsz rfl (ZlI _ _ _ _ hg) ?_)))))
 rintro _ Bm _ hlem ⟨mm,lm,rfl,rfl,rfl,hlm⟩
 refine xM (h:=xE (h:=xE (h:=xA (h:=xA (h:=ZH [_] rfl (Zg (Za (xM (h:=xN (h:=xM (h:=Zw (d:=16) rfl (fun g1=>?_) (fun g1=>?_))))))))))))
 try simp only [sQ,ne_eq] at g1
 refine xP (h:=xP (h:=xP (h:=xT (h:=xM (h:=xP (h:=xP (h:=xP (h:=xT (h:=Zc (t:=true) rfl (fun _=>Za (xA (h:=Zi (Zn ?_)))) (fun h=>Bool.noConfusion h))))))))))
 exact ZB .ret (.inl rfl) [_] t1 ⟨ZN (ZiJ (by simp [g1])).symm,rfl,rfl⟩
 try simp only [sQ,ne_eq] at g1
 refine xM (h:=xR ZjJ rfl (Zbr _ om2 _) (h:=?_))
 refine xN (h:=xF (h:=xM (h:=Zw (d:=21) rfl (fun g2=>?_) (fun g2=>?_))))
 try simp only [sQ,ne_eq] at g2
 refine xP (h:=xP (h:=xP (h:=xT (h:=Zc (t:=true) rfl (fun _=>Za (xA (h:=Zi (Zn ?_)))) (fun h=>Bool.noConfusion h)))))
 exact ZB .ret (.inl rfl) [_] t1 ⟨ZN (ZiJ (by simp [g2])).symm,rfl,rfl⟩
 try simp only [sQ,ne_eq] at g2
 refine xM (h:=xR ZjJ rfl (Zbr _ om2 _) (h:=?_))
 refine xN (h:=xF (h:=Zc rfl (fun g3=>?_) (fun g3=>?_)))
 try simp only [sQ,ne_eq] at g3
 refine Za (xA (h:=Zi (Zn ?_)))
 exact ZB .ret (.inl rfl) [_] t1 ⟨ZN (ZiJ (by simp [g3])).symm,rfl,rfl⟩
 try simp only [sQ,ne_eq] at g3
 have hce:=ZpO (gs:=gs) (o:=o) (u:=u) g1 g2 (by simpa using g3)
 obtain ⟨bm,hmb,hml⟩:=hlm g1
 subst hmb
 clear hlm
 have hlm:=hml
 refine Zf (Zd (Zg (Za (xM (h:=xM (h:=Zc9 (h:=Zc rfl (fun g4=>?_) (fun g4=>?_))))))))
 try simp only [sQ,ne_eq] at g4
 refine Za (xA (h:=Zi (Zn ?_)))
 exact ZB .ret (.inl rfl) [_] t1 ⟨ZN (by rw [hce,if_pos g4]),rfl,rfl⟩
 try simp only [sQ,ne_eq] at g4
 refine Zf (Zd (Za (xM (h:=xM (h:=Zo (Zk1 (k:=u) 0 rfl hlm rfl rfl Tryz.underlying166 Tryz.underlying9 zo3 rfl rfl (xM (h:=Zo (Zk1 (k:=[97,110,121,111,110,101]) 0 rfl hlm rfl rfl Tryz.underlying166 Tryz.underlying9 zo3 rfl rfl (Zo (Zs4 rfl rfl rfl rfl (xA (h:=Zi ?_)))))))))))))
 exact ZB .ret (.inl rfl) [_] t1 ⟨ZN (by rw [hce,if_neg g4];rfl),rfl,rfl⟩

set_option maxHeartbeats 400000 in
theorem Zl4 (b o:Nat) (q1 q2 q3:Option Addr) (c1 c2 c3:Nat) (x:DHost) (qa qb:Option Addr) (ca cb:Nat) (u:Str) (f:DFolder) (rr:Int) (hn:u.length≤2000000) (ho:f.owner.length≤2000000) (B:Kn) (hh:ZaI B b o [str x.domain,.slice q1 x.users.length c1,.slice q2 x.folders.length c2,.int .i64 x.queue.next,.slice q3 x.queue.items.length c3]) (hu:SlK B q1 c1 3 Zq x.users) (hg:SlK B qa ca 2 Zu f.grants):Zaa (pj J) 48 [ptr ⟨b,o,none⟩,str u,.agg #[str f.owner,str f.name,.slice qa f.grants.length ca,.int .i64 f.next,.slice qb f.mail.length cb],.int .i64 rr] B (.bool (Zkt x.users f u rr)):=by
 refine Zb 29 Tryz.func48 rfl rfl rfl (Nat.le_of_ble_eq_true rfl) ?_
 refine Za (xBx [_,_,_,_,_] (h:=fun b1=>xA (h:=ZH [_] rfl (Za (xW Zce (h:=x1 Zmx 0 (h:=xW Za0 (h:=x1 lk9 0 (h:=xM (h:=xR Zve rfl (ZkU _ _ f.grants f.owner u om2 om2 _ hg) (h:=?_)))))))))))
 refine xA (h:=Za (xM (h:=xM (h:=xR ZsV rfl (Zgu _ _ _ _ _ _ _ _ x u om2 _ hh hu) (h:=?_)))))
 refine xM (h:=Zw (d:=19) rfl (fun g1=>?_) (fun g1=>?_))
 try simp only [sQ,ne_eq] at g1
 refine xM (h:=ZdW (h:=xT (h:=xM (h:=Zw (d:=23) rfl (fun g2=>?_) (fun g2=>?_)))))
 try simp only [sQ,ne_eq] at g2
 refine xM (h:=xM (h:=Zo (Zr1 rfl rfl rfl rfl (ZaL (h:=xT (h:=xA (h:=Zi ?_)))))))
 exact ZB .ret (.inl rfl) [_] t1 ⟨Zh (by simp [Zkt,g1,g2]),rfl,rfl⟩
 try simp only [sQ,ne_eq] at g2
 refine xP (h:=xP (h:=xP (h:=xP (h:=xF (h:=xA (h:=Zi ?_))))))
 exact ZB .ret (.inl rfl) [_] t1 ⟨Zh (by simp [Zkt,g1,g2];try omega),rfl,rfl⟩
 try simp only [sQ,ne_eq] at g1
 refine xP (h:=xP (h:=xF (h:=xM (h:=xP (h:=xP (h:=xP (h:=xP (h:=xF (h:=xA (h:=Zi ?_))))))))))
 exact ZB .ret (.inl rfl) [_] t1 ⟨Zh (by simp [Zkt,g1]),rfl,rfl⟩

set_option maxRecDepth 4000 in
set_option maxHeartbeats 400000 in
theorem ZqZ (hJ : Joins Tryz.prog J) (q1 q2 q3 : Option Addr) (c1 c2 c3 : Nat) (x : DHost) (u y z : Str) (hn : u.length ≤ 2000000) (hd : x.domain.length ≤ 2000000) (B : Kn) (hu : SlK B q1 c1 3 Zq x.users) (hf : SlK B q2 c2 5 Ze x.folders) (hi : SlK B q3 c3 4 ZG x.queue.items) : ZJ (pj J) 18 [.agg #[str x.domain, .slice q1 x.users.length c1, .slice q2 x.folders.length c2, .int .i64 x.queue.next, .slice q3 x.queue.items.length c3], .agg #[str u, str y, str z]] B [] (fun v B' Ls => Ls = [] ∧ ∃ p cp, v = .slice p (ZdY x u).length cp ∧ SlK B' p cp 5 Ze (ZdY x u)) := by
  refine Zb 34 Tryz.func18 rfl rfl rfl (Nat.le_of_ble_eq_true rfl) ?_
  have hfn := hf.len
  refine Za (xBx [_, _, _, _, _] (h:=fun b1 => xBx [_, _, _] (h:=fun b2 => xA (h:=ZH [_, _] rfl (Zj2 0 rfl (fun B3 hle3 hpm3 => ?_))))))
  have hc3 := Za2 hpm3
  replace hu := hu.mono Zq.mono hle3
  replace hf := hf.mono Ze.mono hle3
  replace hi := hi.mono ZG.mono hle3
  refine Za (xBs [] [] Tryz.underlying39 ZaQ Zca (h:=fun b4 => xA (h:=ZH [_, _, _] rfl (Zg (Za (yL [_, _, _, _, _] Ze7 hc3 0 (h:=Zo (ZbS rfl rfl ZrH rfl (ZbY hJ _ _ _ _ _ _ x (by first | assumption | omega | (simp; done) | (simp; omega)) _ hu hf hi) ?_))))))))
  intro v5 B5 hle5
  rintro rfl
  replace hu := hu.mono Zq.mono hle5
  replace hf := hf.mono Ze.mono hle5
  replace hi := hi.mono ZG.mono hle5
  replace hc3 := hc3.mono hle5
  refine xN (h:=Zc rfl (fun g1 => ?_) (fun g1 => ?_))
  try simp only [sQ, ne_eq] at g1
  rw [Zlr (by simpa using g1)]
  refine Za (xM (h:=xA (h:=Zi (Zn ?_))))
  exact Zbx .ret (.inl rfl) [_] [] rfl ⟨rfl, trivial⟩ ⟨rfl, _, _, rfl, SlK.nil⟩
  try simp only [sQ, ne_eq] at g1
  refine Zf (Zd (Zg (Za (xW Zar (h:=y1 Zd7 hc3 2 (h:=xV Tryz.underlying39 (h:=xM (h:=Zl (ZC (α := Gh DFolder) [0, 1, 2, 3, 4, 11, 14, 15] (fun g => [(5, .slice g.a g.xs.length g.c), (16, .int .i64 g.k)]) [2] (fun g => [g.l]) (fun g Bx => Bx = B5 ∧ g.k ≤ x.folders.length ∧ g.xs = ZcR (Z9 x) (Zsb x u) ZjT x.folders g.k ∧ g.xs.length ≤ g.k ∧ Z3 Bx g.l g.a g.c 35 5 Ze g.xs) (fun g => x.folders.length - g.k) ⟨0, 0, _, _, _, []⟩ ⟨rfl, rfl, trivial⟩ rfl (⟨rfl, Nat.zero_le _, Zco, Nat.le_refl _, Z3.lit0⟩) (fun g B6 hle6 hI => ?_))))))))))
  obtain ⟨rfl, hk, hxs, hxl, hv⟩ := hI
  refine ZL [(0, _), (1, _), (2, _), (3, _), (4, _), (5, _), (11, _), (14, _), (15, _), (16, _)] [_, _, _] ⟨rfl, rfl, rfl, rfl, rfl, rfl, rfl, rfl, rfl, rfl, trivial⟩ rfl (Za (ZF (h:=Zg (Zc rfl (fun g2 => ?_) (fun g2 => ?_)))))
  try simp only [sQ, ne_eq] at g2
  refine Zf (Zd (Zg (Zl (Za ?_))))
  obtain ⟨w, hw⟩ := ZW (xs := x.folders) (i := g.k) (by first | omega | (simp; done) | (simp; omega))
  obtain ⟨bb8, oo8, rfl⟩ := hf.base hw
  obtain ⟨_, ⟨qg9, cg9, qm9, cm9, rfl, hg9, hm9, hb9, hb9b⟩, hc9⟩ := hf.elem hw
  have hg9n := hg9.len
  have hm9n := hm9.len
  have hm9s := Z5 hm9
  refine xIx Tryz.underlying39 ZaQ (h:=yL [_, _, _, _, _] Zcd hc9 0 (h:=xAl [_, _, _, _, _] Zca (h:=fun b10 => xS [_, _, _, _, _] 3 [_, _, _, _, _] ZaQ (h:=ZH [_, _, _, _] rfl (Za (xW ZjD (h:=x1 lk9 1 (h:=xL [_, _, _, _, _] Zcd 3 (h:=xR ZrF rfl (Zl4 _ _ _ _ _ _ _ _ x _ _ _ _ u w _ (by first | assumption | omega | (simp; done) | (simp; omega)) (by first | assumption | omega | (simp; done) | (simp; omega)) _ hc3 hu hg9) (h:=?_))))))))))
  refine Zc rfl (fun g3 => ?_) (fun g3 => ?_)
  try simp only [sQ, ne_eq] at g3
  refine Zk (xM (h:=xW Za0 (h:=x1 lk9 3 (h:=xW ZbP (h:=x1 lk9 3 (h:=xB [(0, _), (1, _)] [_, _, _, _, _] [_, _, _, _, _] Zlk Zca (h:=xBs [(0, _)] [_, _, _, _, _] Tryz.underlying39 ZaQ Zca (h:=fun b12 => Zo (ZgE (z := ⟨w.owner, w.name, [], 0, []⟩) (R := Ze) 2 rfl hv rfl rfl rfl ZoA ZoT rfl rfl (ZbL.box 4 rfl) rfl rfl (⟨_, _, _, _, rfl, SlK.nil, SlK.nil, by first | assumption | omega | (simp; done) | (simp; omega), by first | assumption | omega | (simp; done) | (simp; omega)⟩) (by first | omega | (simp; done) | (simp; omega)) (fun l13 p13 c13 hv13 => ?_))))))))))
  refine xA (h:=ZP (Zd (Zk (xD (h:=xM (h:=?_))))))
  exact ZD ⟨g.k + 1, 0, l13, p13, c13, (g.xs ++ [⟨w.owner, w.name, [], 0, []⟩])⟩ [0, 1, 2] (by first | omega | (simp only []; omega)) ⟨rfl, by simp only []; omega, by simp only []; exact ZbD hxs (by simpa using g1) hw g3, by simp; omega, hv13⟩ ⟨rfl, rfl, rfl, rfl, rfl, rfl, rfl, rfl, rfl, rfl, trivial⟩ rfl
  try simp only [sQ, ne_eq] at g3
  refine Zf (ZP (Zd (Zk (xD (h:=xM (h:=?_))))))
  exact ZD ⟨g.k + 1, 0, g.l, g.a, g.c, g.xs⟩ [0, 1, 2] (by first | omega | (simp only []; omega)) ⟨rfl, by simp only []; omega, by simp only []; exact Zbp hxs (by simpa using g1) hw (by simpa [Zsb] using g3), by simp only []; omega, hv⟩ ⟨rfl, rfl, rfl, rfl, rfl, rfl, rfl, rfl, rfl, rfl, trivial⟩ rfl
  try simp only [sQ, ne_eq] at g2
  have hxe := Zjr hxs (by omega)
  refine ZI (ZY (ZM (Zv (Zd (Za (xM (h:=ZdR 2 rfl hv Ze.mono (by first | omega | decide | (simp; done) | (simp; omega)) (fun B14 hle14 hr14 => ?_))))))))
  replace hu := hu.mono Zq.mono hle14
  replace hf := hf.mono Ze.mono hle14
  replace hi := hi.mono ZG.mono hle14
  replace hc3 := hc3.mono hle14
  have hr14n := hr14.len
  refine xA (h:=ZH [_, _, _] rfl (Zi ?_))
  exact Zbx .ret (.inl rfl) [_] [] rfl ⟨rfl, trivial⟩ (by rw [← hxe]; exact ⟨rfl, _, _, rfl, hr14⟩)

set_option maxRecDepth 4000 in
set_option maxHeartbeats 400000 in
theorem ZqY (q1 q2 q3 : Option Addr) (c1 c2 c3 : Nat) (x : DHost) (u y z : Str) (hn : u.length ≤ 2000000) (hd : x.domain.length ≤ 2000000) (B : Kn) (hu : SlK B q1 c1 3 Zq x.users) (hf : SlK B q2 c2 5 Ze x.folders) (hi : SlK B q3 c3 4 ZG x.queue.items) : ZJ (pj J) 16 [.agg #[str x.domain, .slice q1 x.users.length c1, .slice q2 x.folders.length c2, .int .i64 x.queue.next, .slice q3 x.queue.items.length c3], .agg #[str u, str y, str z]] B [] (fun v B' Ls => Ls = [] ∧ ∃ p cp, v = .slice p (Zl5 x u).length cp ∧ SlK B' p cp 5 Ze (Zl5 x u)) := by
  refine Zb 52 Tryz.func16 rfl rfl rfl (Nat.le_of_ble_eq_true rfl) ?_
  have hfn := hf.len
  have hix := ZnL x.users u
  refine Za (xBx [_, _, _, _, _] (h:=fun b1 => xBx [_, _, _] (h:=fun b2 => xA (h:=ZH [_, _] rfl (Za (xBs [] [] Tryz.underlying39 ZaQ Zca (h:=fun b3 => xA (h:=ZH [_, _, _] rfl (Zg (Za (xA (h:=Zl ?_))))))))))))
  refine ZC (α := Gh DFolder) [0, 1, 2, 3, 4] (fun g => [(5, .slice g.a g.xs.length g.c), (6, .int .i64 g.k)]) [2] (fun g => [g.l]) (fun g Bx => g.k ≤ x.folders.length ∧ g.xs = ZcR (okU x u) (Ztg u) ZjT x.folders g.k ∧ g.xs.length ≤ g.k ∧ Z3 Bx g.l g.a g.c 35 5 Ze g.xs) (fun g => x.folders.length - g.k) ⟨0, 0, _, _, _, []⟩ ⟨rfl, rfl, trivial⟩ rfl (⟨Nat.zero_le _, Zco, Nat.le_refl _, Z3.lit0⟩) (fun g B4 hle4 hI => ?_)
  obtain ⟨hk, hxs, hxl, hv⟩ := hI
  replace hu := hu.mono Zq.mono hle4
  replace hf := hf.mono Ze.mono hle4
  replace hi := hi.mono ZG.mono hle4
  refine ZL [(0, _), (1, _), (2, _), (3, _), (4, _), (5, _), (6, _)] [_, _, _] ⟨rfl, rfl, rfl, rfl, rfl, rfl, rfl, trivial⟩ rfl (Zg (Za (xM (h:=xW Zar (h:=x1 Zd7 0 (h:=xV Tryz.underlying39 (h:=ZF (h:=xM (h:=Zw (d := 13) rfl (fun g1 => ?_) (fun g1 => ?_))))))))))
  try simp only [sQ, ne_eq] at g1
  refine xL [_, _, _, _, _] Ze7 0 (h:=xR Ztw rfl (ZfN _ _ _ _ _ _ x (by first | assumption | omega | (simp; done) | (simp; omega)) _ hu hf hi) (h:=?_))
  refine xT (h:=xM (h:=Zw (d := 17) rfl (fun g2 => ?_) (fun g2 => ?_)))
  try simp only [sQ, ne_eq] at g2
  refine xW ZbI (h:=x1 ZiM 0 (h:=xW ZjD (h:=x1 lk9 1 (h:=xR ZrG rfl (Zdi _ _ _ _ _ hu) (h:=ZdW (h:=xT (h:=Zc rfl (fun g3 => ?_) (fun g3 => ?_))))))))
  try simp only [sQ, ne_eq] at g3
  have hrr := Zfx g2
  obtain ⟨w, hw⟩ := ZW (xs := x.folders) (i := g.k) (by omega)
  have hwt : x.folders[((g.k : Nat) : Int).toNat]? = some w := hw
  refine Zf (Zd (Zg (Zl (Za (xL [_, _, _, _, _] Ze7 0 (h:=xM (h:=xW ZjD (h:=x1 lk9 1 (h:=xR Ztt rfl (Zis _ _ _ _ _ _ x ↑g.k u 1 _ (by omega) (by assumption) hrr (by omega) _ hf) (h:=?_))))))))))
  refine Zc rfl (fun g4 => ?_) (fun g4 => ?_)
  try simp only [sQ, ne_eq] at g4
  refine Zan (keeps _ [0, 1] _) mo (by kernel_rfl) ⟨Kn.le.refl _, ZbF.refl _ _⟩ (fun _ _ => ?_)
  refine aM 0 rfl (h:=aW 1 rfl Zar (h:=aT 2 rfl (Zah fun D B L hI => Zs rfl rfl Zd7 rfl (atL 0 (hI.2.1.trans rfl) rfl rfl) r4) (h:=aM 3 rfl (h:=?_))))
  obtain ⟨bb8, oo8, rfl⟩ := hf.base hw
  obtain ⟨_, ⟨qg9, cg9, qm9, cm9, rfl, hg9, hm9, hb9, hb9b⟩, hc9⟩ := hf.elem hw
  have hg9n := hg9.len
  have hm9n := hm9.len
  have hm9s := Z5 hm9
  refine aIx 4 rfl Tryz.underlying39 ZaQ (h:=aW 5 rfl Za0 (h:=aT 6 rfl (Zah fun D B L hI => Zs rfl rfl lk9 rfl ((hc9.mono hI.1) _ 0 _ rfl) r4) (h:=aW 7 rfl Zar (h:=aT 8 rfl (Zah fun D B L hI => Zs rfl rfl Zd7 rfl (atL 0 (hI.2.1.trans rfl) rfl rfl) r4) (h:=aM 9 rfl (h:=aIx 10 rfl Tryz.underlying39 ZaQ (h:=aW 11 rfl ZbP (h:=aT 12 rfl (Zah fun D B L hI => Zs rfl rfl lk9 rfl ((hc9.mono hI.1) _ 1 _ rfl) r4) (h:=ZkT [13, 14] (by kernel_rfl) (by kernel_rfl) (by kernel_rfl) ⟨?_, ?_⟩)))))))))
  refine (ZZ (parts := []) [] rfl rfl Tryz.underlying30 ZbO ZfG rfl rfl rfl rfl rfl (fun b10 => ⟨⟨Kn.le.refl _, ⟨rfl, rfl, trivial⟩⟩, (Z4 14 (by kernel_rfl) rfl (by kernel_rfl) (ZZ (parts := []) [] rfl rfl Tryz.underlying31 Zcv Zh8 rfl rfl rfl rfl rfl (fun b11 => ?_)))⟩))
  refine ⟨⟨Kn.le.refl _, ⟨rfl, rfl, trivial⟩⟩, (aT 15 rfl (Zah fun D B L hI => Zc2 (parts := [(1, _)]) [_, _] [_, _] rfl rfl Zth Zqw rfl rfl rfl r4) (h:=aT 16 rfl (Zah fun D B L hI => Zc2 (parts := [(0, _), (1, _), (2, _), (3, _)]) [_, _, _, _, _] [_, _, _, _, _] rfl rfl Zlk Zca rfl rfl rfl r4) (h:=ZeL 3 rfl (Z3.lit0 (R := Zu) (w := 2)) Zu.mono (by first | omega | decide | (simp; done) | (simp; omega)) (fun B' hle' => ⟨hle', ⟨rfl, rfl, trivial⟩⟩) (fun B12 hle12 hr12 => ?_))))⟩
  replace hu := hu.mono Zq.mono hle12
  replace hf := hf.mono Ze.mono hle12
  replace hi := hi.mono ZG.mono hle12
  replace hg9 := hg9.mono Zu.mono hle12
  replace hm9 := hm9.mono ZK.mono hle12
  replace hc9 := hc9.mono hle12
  replace hv := hv.mono Ze.mono hle12
  have hr12n := hr12.len
  refine ZeL 4 rfl (Z3.lit0 (R := ZK) (w := 3)) ZK.mono (by first | omega | decide | (simp; done) | (simp; omega)) (fun B' hle' => ⟨hle12.trans hle', ⟨rfl, rfl, trivial⟩⟩) (fun B13 hle13 hr13 => ?_)
  replace hu := hu.mono Zq.mono hle13
  replace hf := hf.mono Ze.mono hle13
  replace hi := hi.mono ZG.mono hle13
  replace hg9 := hg9.mono Zu.mono hle13
  replace hm9 := hm9.mono ZK.mono hle13
  replace hc9 := hc9.mono hle13
  replace hr12 := hr12.mono Zu.mono hle13
  replace hv := hv.mono Ze.mono hle13
  have hr13n := hr13.len
  refine Z4 17 (by kernel_rfl) rfl (by kernel_rfl) (ZZ (parts := [(0, _)]) [_, _, _, _, _] rfl rfl Tryz.underlying39 ZaQ Zca rfl rfl rfl rfl rfl (fun b14 => ?_))
  refine ⟨⟨(hle12.trans hle13), ⟨rfl, rfl, trivial⟩⟩, (Z4 18 (by kernel_rfl) rfl (by kernel_rfl) (ZgE (z := ⟨w.owner, w.name, [], 0, []⟩) (R := Ze) 2 rfl hv rfl rfl rfl ZoA ZoT rfl rfl (ZbL.box 5 rfl) rfl rfl (⟨_, _, _, _, rfl, hr12, hr13, by first | assumption | omega | (simp; done) | (simp; omega), by first | assumption | omega | (simp; done) | (simp; omega)⟩) (by first | omega | (simp; done) | (simp; omega)) (fun l15 p15 c15 hv15 => ?_)))⟩
  refine ⟨⟨(hle12.trans hle13), ⟨rfl, rfl, trivial⟩⟩, (aA 19 rfl (h:=Zz (by kernel_rfl) (by kernel_rfl) ?_))⟩
  refine ZP (Zd (Zk (xM (h:=xD (h:=xA (h:=?_))))))
  exact ZD ⟨g.k + 1, 0, l15, p15, c15, (g.xs ++ [⟨w.owner, w.name, [], 0, []⟩])⟩ [0, 1, 2] (by first | omega | (simp only []; omega)) ⟨by simp only []; omega, by simp only []; exact ZbD hxs (ZgY g2 g3) hw g4, by simp; omega, hv15⟩ ⟨rfl, rfl, rfl, rfl, rfl, rfl, rfl, trivial⟩ rfl
  refine (ZZ (parts := []) [] rfl rfl Tryz.underlying31 Zcv Zh8 rfl rfl rfl rfl rfl (fun b16 => ⟨⟨Kn.le.refl _, ⟨rfl, rfl, trivial⟩⟩, (aT 15 rfl (Zah fun D B L hI => Zc2 (parts := [(1, _)]) [_, _] [_, _] rfl rfl Zth Zqw rfl rfl rfl r4) (h:=Z4 13 (by kernel_rfl) rfl (by kernel_rfl) (ZZ (parts := []) [] rfl rfl Tryz.underlying30 ZbO ZfG rfl rfl rfl rfl rfl (fun b17 => ?_))))⟩))
  refine ⟨⟨Kn.le.refl _, ⟨rfl, rfl, trivial⟩⟩, (aT 16 rfl (Zah fun D B L hI => Zc2 (parts := [(0, _), (1, _), (2, _), (3, _)]) [_, _, _, _, _] [_, _, _, _, _] rfl rfl Zlk Zca rfl rfl rfl r4) (h:=ZeL 4 rfl (Z3.lit0 (R := Zu) (w := 2)) Zu.mono (by first | omega | decide | (simp; done) | (simp; omega)) (fun B' hle' => ⟨hle', ⟨rfl, rfl, trivial⟩⟩) (fun B18 hle18 hr18 => ?_)))⟩
  replace hu := hu.mono Zq.mono hle18
  replace hf := hf.mono Ze.mono hle18
  replace hi := hi.mono ZG.mono hle18
  replace hg9 := hg9.mono Zu.mono hle18
  replace hm9 := hm9.mono ZK.mono hle18
  replace hc9 := hc9.mono hle18
  replace hv := hv.mono Ze.mono hle18
  have hr18n := hr18.len
  refine ZeL 3 rfl (Z3.lit0 (R := ZK) (w := 3)) ZK.mono (by first | omega | decide | (simp; done) | (simp; omega)) (fun B' hle' => ⟨hle18.trans hle', ⟨rfl, rfl, trivial⟩⟩) (fun B19 hle19 hr19 => ?_)
  replace hu := hu.mono Zq.mono hle19
  replace hf := hf.mono Ze.mono hle19
  replace hi := hi.mono ZG.mono hle19
  replace hg9 := hg9.mono Zu.mono hle19
  replace hm9 := hm9.mono ZK.mono hle19
  replace hc9 := hc9.mono hle19
  replace hr18 := hr18.mono Zu.mono hle19
  replace hv := hv.mono Ze.mono hle19
  have hr19n := hr19.len
  refine Z4 17 (by kernel_rfl) rfl (by kernel_rfl) (ZZ (parts := [(0, _)]) [_, _, _, _, _] rfl rfl Tryz.underlying39 ZaQ Zca rfl rfl rfl rfl rfl (fun b20 => ?_))
  refine ⟨⟨(hle18.trans hle19), ⟨rfl, rfl, trivial⟩⟩, (Z4 18 (by kernel_rfl) rfl (by kernel_rfl) (ZgE (z := ⟨w.owner, w.name, [], 0, []⟩) (R := Ze) 2 rfl hv rfl rfl rfl ZoA ZoT rfl rfl (ZbL.box 5 rfl) rfl rfl (⟨_, _, _, _, rfl, hr18, hr19, by first | assumption | omega | (simp; done) | (simp; omega), by first | assumption | omega | (simp; done) | (simp; omega)⟩) (by first | omega | (simp; done) | (simp; omega)) (fun l21 p21 c21 hv21 => ?_)))⟩
  refine ⟨⟨(hle18.trans hle19), ⟨rfl, rfl, trivial⟩⟩, (aA 19 rfl (h:=Zz (by kernel_rfl) (by kernel_rfl) ?_))⟩
  refine ZP (Zd (Zk (xM (h:=xD (h:=xA (h:=?_))))))
  exact ZD ⟨g.k + 1, 0, l21, p21, c21, (g.xs ++ [⟨w.owner, w.name, [], 0, []⟩])⟩ [0, 1, 2] (by first | omega | (simp only []; omega)) ⟨by simp only []; omega, by simp only []; exact ZbD hxs (ZgY g2 g3) hw g4, by simp; omega, hv21⟩ ⟨rfl, rfl, rfl, rfl, rfl, rfl, rfl, trivial⟩ rfl
  try simp only [sQ, ne_eq] at g4
  refine Zf (ZP (Zd (Zk (xM (h:=xD (h:=xA (h:=?_)))))))
  exact ZD ⟨g.k + 1, 0, g.l, g.a, g.c, g.xs⟩ [0, 1, 2] (by first | omega | (simp only []; omega)) ⟨by simp only []; omega, by simp only []; exact Zbp hxs (ZgY g2 g3) hw (by simpa [Ztg] using g4), by simp only []; omega, hv⟩ ⟨rfl, rfl, rfl, rfl, rfl, rfl, rfl, trivial⟩ rfl
  try simp only [sQ, ne_eq] at g3
  have hxe := Zg5 hxs (.inr (Znk (by first | omega | simpa using g3)))
  refine ZI (ZY (ZM (Zv (Zd (Za (xM (h:=ZdR 2 rfl hv Ze.mono (by first | omega | decide | (simp; done) | (simp; omega)) (fun B22 hle22 hr22 => ?_))))))))
  replace hu := hu.mono Zq.mono hle22
  replace hf := hf.mono Ze.mono hle22
  replace hi := hi.mono ZG.mono hle22
  have hr22n := hr22.len
  refine xA (h:=ZH [_, _, _] rfl (Zi ?_))
  exact Zbx .ret (.inl rfl) [_] [] rfl ⟨rfl, trivial⟩ (by rw [← hxe]; exact ⟨rfl, _, _, rfl, hr22⟩)
  try simp only [sQ, ne_eq] at g2
  have hxe := Zg5 hxs (.inr (Znl g2))
  refine xP (h:=xP (h:=xP (h:=xP (h:=xP (h:=xP (h:=xF (h:=Zc (t := false) rfl (fun h => Bool.noConfusion h) (fun _ => ZI (ZY (ZM (Zv (Zd (Za (xM (h:=ZdR 2 rfl hv Ze.mono (by first | omega | decide | (simp; done) | (simp; omega)) (fun B23 hle23 hr23 => ?_))))))))))))))))
  replace hu := hu.mono Zq.mono hle23
  replace hf := hf.mono Ze.mono hle23
  replace hi := hi.mono ZG.mono hle23
  have hr23n := hr23.len
  refine xA (h:=ZH [_, _, _] rfl (Zi ?_))
  exact Zbx .ret (.inl rfl) [_] [] rfl ⟨rfl, trivial⟩ (by rw [← hxe]; exact ⟨rfl, _, _, rfl, hr23⟩)
  try simp only [sQ, ne_eq] at g1
  have hxe := Zg5 hxs (.inl (by omega))
  refine xP (h:=xP (h:=xF (h:=xM (h:=xP (h:=xP (h:=xP (h:=xP (h:=xP (h:=xP (h:=xF (h:=Zc (t := false) rfl (fun h => Bool.noConfusion h) (fun _ => ZI (ZY (ZM (Zv (Zd ?_))))))))))))))))
  refine Za (xM (h:=ZdR 2 rfl hv Ze.mono (by first | omega | decide | (simp; done) | (simp; omega)) (fun B24 hle24 hr24 => ?_)))
  replace hu := hu.mono Zq.mono hle24
  replace hf := hf.mono Ze.mono hle24
  replace hi := hi.mono ZG.mono hle24
  have hr24n := hr24.len
  refine xA (h:=ZH [_, _, _] rfl (Zi ?_))
  exact Zbx .ret (.inl rfl) [_] [] rfl ⟨rfl, trivial⟩ (by rw [← hxe]; exact ⟨rfl, _, _, rfl, hr24⟩)

set_option maxRecDepth 4000 in
set_option maxHeartbeats 400000 in
theorem ZqC (hJ : Joins Tryz.prog J) (q1 q2 q3 : Option Addr) (c1 c2 c3 : Nat) (x : DHost) (u : Str) (hn : u.length ≤ 2000000) (hd : x.domain.length ≤ 2000000) (B : Kn) (hu : SlK B q1 c1 3 Zq x.users) (hf : SlK B q2 c2 5 Ze x.folders) (hi : SlK B q3 c3 4 ZG x.queue.items) : ZJ (pj J) 23 [.agg #[str x.domain, .slice q1 x.users.length c1, .slice q2 x.folders.length c2, .int .i64 x.queue.next, .slice q3 x.queue.items.length c3], str u] B [] (fun v B' Ls => Ls = [] ∧ ∃ p cp, v = .slice p (Zdw x u).length cp ∧ SlK B' p cp 5 Ze (Zdw x u)) := by
  refine Zb 42 Tryz.func23 rfl rfl rfl (Nat.le_of_ble_eq_true rfl) ?_
  have hfn := hf.len
  refine Za (xBx [_, _, _, _, _] (h:=fun b1 => xA (h:=ZH [_] rfl (Zj2 0 rfl (fun B2 hle2 hpm2 => ?_)))))
  have hc2 := Za2 hpm2
  replace hu := hu.mono Zq.mono hle2
  replace hf := hf.mono Ze.mono hle2
  replace hi := hi.mono ZG.mono hle2
  refine Za (xBs [] [] Tryz.underlying39 ZaQ Zca (h:=fun b3 => xA (h:=ZH [_, _] rfl (Zg (Za (yL [_, _, _, _, _] Ze7 hc2 0 (h:=Zo (ZbS rfl rfl ZrH rfl (ZbY hJ _ _ _ _ _ _ x (by first | assumption | omega | (simp; done) | (simp; omega)) _ hu hf hi) ?_))))))))
  intro v4 B4 hle4
  rintro rfl
  replace hu := hu.mono Zq.mono hle4
  replace hf := hf.mono Ze.mono hle4
  replace hi := hi.mono ZG.mono hle4
  replace hc2 := hc2.mono hle4
  refine xN (h:=Zc rfl (fun g1 => ?_) (fun g1 => ?_))
  try simp only [sQ, ne_eq] at g1
  rw [Zk4 (by simpa using g1)]
  refine Za (xM (h:=xA (h:=Zi (Zn ?_))))
  exact Zbx .ret (.inl rfl) [_] [] rfl ⟨rfl, trivial⟩ ⟨rfl, _, _, rfl, SlK.nil⟩
  try simp only [sQ, ne_eq] at g1
  refine Zf (Zd (Zg (Za (xW Zar (h:=y1 Zd7 hc2 2 (h:=xV Tryz.underlying39 (h:=xM (h:=Zl (ZC (α := Gh DFolder) [0, 1, 2, 4, 11, 14, 15] (fun g => [(5, .slice g.a g.xs.length g.c), (16, .int .i64 g.k)]) [1] (fun g => [g.l]) (fun g Bx => g.k ≤ x.folders.length ∧ g.xs = ZcR (Z9 x) (ZgN x u) ZiU x.folders g.k ∧ g.xs.length ≤ g.k ∧ Z3 Bx g.l g.a g.c 35 5 Ze g.xs) (fun g => x.folders.length - g.k) ⟨0, 0, _, _, _, []⟩ ⟨rfl, rfl, trivial⟩ rfl (⟨Nat.zero_le _, Zco, Nat.le_refl _, Z3.lit0⟩) (fun g B5 hle5 hI => ?_))))))))))
  obtain ⟨hk, hxs, hxl, hv⟩ := hI
  replace hu := hu.mono Zq.mono hle5
  replace hf := hf.mono Ze.mono hle5
  replace hi := hi.mono ZG.mono hle5
  replace hc2 := hc2.mono hle5
  refine ZL [(0, _), (1, _), (2, _), (4, _), (5, _), (11, _), (14, _), (15, _), (16, _)] [_, _] ⟨rfl, rfl, rfl, rfl, rfl, rfl, rfl, rfl, rfl, trivial⟩ rfl (Za (ZF (h:=Zg (Zc rfl (fun g2 => ?_) (fun g2 => ?_)))))
  try simp only [sQ, ne_eq] at g2
  refine Zf (Zd (Zg (Zl (Za ?_))))
  obtain ⟨w, hw⟩ := ZW (xs := x.folders) (i := g.k) (by first | omega | (simp; done) | (simp; omega))
  obtain ⟨bb7, oo7, rfl⟩ := hf.base hw
  obtain ⟨_, ⟨qg8, cg8, qm8, cm8, rfl, hg8, hm8, hb8, hb8b⟩, hc8⟩ := hf.elem hw
  have hg8n := hg8.len
  have hm8n := hm8.len
  have hm8s := Z5 hm8
  refine xIx Tryz.underlying39 ZaQ (h:=yL [_, _, _, _, _] Zcd hc8 0 (h:=xAl [_, _, _, _, _] Zca (h:=fun b9 => xS [_, _, _, _, _] 2 [_, _, _, _, _] ZaQ (h:=ZH [_, _, _] rfl (Za (xM (h:=xL [_, _, _, _, _] Zcd 2 (h:=xR ZrF rfl (Zl4 _ _ _ _ _ _ _ _ x _ _ _ _ u w _ (by first | assumption | omega | (simp; done) | (simp; omega)) (by first | assumption | omega | (simp; done) | (simp; omega)) _ hc2 hu hg8) (h:=?_)))))))))
  refine xM (h:=Zw (d := 23) rfl (fun g3 => ?_) (fun g3 => ?_))
  try simp only [sQ, ne_eq] at g3
  refine xM (h:=xL [_, _, _, _, _] Zcd 2 (h:=xR ZrF rfl (Zl4 _ _ _ _ _ _ _ _ x _ _ _ _ u w _ (by first | assumption | omega | (simp; done) | (simp; omega)) (by first | assumption | omega | (simp; done) | (simp; omega)) _ hc2 hu hg8) (h:=?_)))
  refine xT (h:=Zc rfl (fun g4 => ?_) (fun g4 => ?_))
  try simp only [sQ, ne_eq] at g4
  refine Zan (keeps _ [2] _) mo (by kernel_rfl) ⟨Kn.le.refl _, ZbF.refl _ _⟩ (fun _ _ => ?_)
  refine aM 0 rfl (h:=aW 1 rfl Za0 (h:=aT 2 rfl (Zah fun D B L hI => Zs rfl rfl lk9 rfl (atL 2 (hI.2.1.trans rfl) rfl rfl) r4) (h:=aW 3 rfl ZbP (h:=aT 4 rfl (Zah fun D B L hI => Zs rfl rfl lk9 rfl (atL 2 (hI.2.1.trans rfl) rfl rfl) r4) (h:=aW 6 rfl ZbJ (h:=aT 7 rfl (Zah fun D B L hI => Z8 [_, _] rfl rfl ZiN rfl (ZcQ 2 (hI.2.1.trans rfl) rfl rfl) r4) (h:=ZkT [5, 8] (by kernel_rfl) (by kernel_rfl) (by kernel_rfl) ⟨?_, ?_⟩)))))))
  refine (ZZ (parts := []) [] rfl rfl Tryz.underlying30 ZbO ZfG rfl rfl rfl rfl rfl (fun b12 => ⟨⟨Kn.le.refl _, ⟨rfl, trivial⟩⟩, (Z4 8 (by kernel_rfl) rfl (by kernel_rfl) (Zao rfl rfl Zsw rfl (Zdr _ _ (⟨w.next, w.mail⟩ : DBox) _ hm8) ?_))⟩))
  rintro _ B13 _ hle13 ⟨rfl, l13, a13, c13, rfl, rfl, hs13⟩
  refine ⟨⟨Kn.le.refl _, ⟨rfl, trivial⟩⟩, (aT 9 rfl (Zah fun D B L hI => Zc2 (parts := [(0, _), (1, _), (2, _), (3, _)]) [_, _, _, _, _] [_, _, _, _, _] rfl rfl Zlk Zca rfl rfl rfl r4) (h:=ZeL 3 rfl (Z3.lit0 (R := Zu) (w := 2)) Zu.mono (by first | omega | decide | (simp; done) | (simp; omega)) (fun B' hle' => ⟨hle', ⟨rfl, trivial⟩⟩) (fun B14 hle14 hr14 => ?_)))⟩
  replace hu := hu.mono Zq.mono hle14
  replace hf := hf.mono Ze.mono hle14
  replace hi := hi.mono ZG.mono hle14
  replace hc2 := hc2.mono hle14
  replace hm8 := hm8.mono ZK.mono hle14
  replace hv := hv.mono Ze.mono hle14
  replace hg8 := hg8.mono Zu.mono hle14
  replace hs13 := hs13.mono ZK.mono hle14
  have hr14n := hr14.len
  refine ZeL 4 rfl hs13 ZK.mono (by first | omega | decide | (simp; done) | (simp; omega)) (fun B' hle' => ⟨hle14.trans hle', ⟨rfl, trivial⟩⟩) (fun B15 hle15 hr15 => ?_)
  replace hu := hu.mono Zq.mono hle15
  replace hf := hf.mono Ze.mono hle15
  replace hi := hi.mono ZG.mono hle15
  replace hc2 := hc2.mono hle15
  replace hm8 := hm8.mono ZK.mono hle15
  replace hr14 := hr14.mono Zu.mono hle15
  replace hv := hv.mono Ze.mono hle15
  replace hg8 := hg8.mono Zu.mono hle15
  have hr15n := hr15.len
  refine Z4 10 (by kernel_rfl) rfl (by kernel_rfl) (ZZ (parts := [(0, _)]) [_, _, _, _, _] rfl rfl Tryz.underlying39 ZaQ Zca rfl rfl rfl rfl rfl (fun b16 => ?_))
  refine ⟨⟨(hle14.trans hle15), ⟨rfl, trivial⟩⟩, (Z4 11 (by kernel_rfl) rfl (by kernel_rfl) (ZgE (z := ⟨w.owner, w.name, [], w.next, w.mail⟩) (R := Ze) 1 rfl hv rfl rfl rfl ZoA ZoT rfl rfl (ZbL.box 5 rfl) rfl rfl (⟨_, _, _, _, rfl, hr14, hr15, by first | assumption | omega | (simp; done) | (simp; omega), by first | assumption | omega | (simp; done) | (simp; omega)⟩) (by first | omega | (simp; done) | (simp; omega)) (fun l17 p17 c17 hv17 => ?_)))⟩
  refine ⟨⟨(hle14.trans hle15), ⟨rfl, trivial⟩⟩, (aA 12 rfl (h:=Zz (by kernel_rfl) (by kernel_rfl) ?_))⟩
  refine ZP (Zd (Zk (xD (h:=xM (h:=?_)))))
  exact ZD ⟨g.k + 1, 0, l17, p17, c17, (g.xs ++ [⟨w.owner, w.name, [], w.next, w.mail⟩])⟩ [0, 1] (by first | omega | (simp only []; omega)) ⟨by simp only []; omega, by simp only []; exact ZbD hxs (by simpa using g1) hw (by simp [ZgN, g3, g4]), by simp; omega, hv17⟩ ⟨rfl, rfl, rfl, rfl, rfl, rfl, rfl, rfl, rfl, trivial⟩ rfl
  refine (Zao rfl rfl Zsw rfl (Zdr _ _ (⟨w.next, w.mail⟩ : DBox) _ hm8) ?_)
  rintro _ B18 _ hle18 ⟨rfl, l18, a18, c18, rfl, rfl, hs18⟩
  refine ⟨⟨Kn.le.refl _, ⟨rfl, trivial⟩⟩, (Z4 5 (by kernel_rfl) rfl (by kernel_rfl) (ZZ (parts := []) [] rfl rfl Tryz.underlying30 ZbO ZfG rfl rfl rfl rfl rfl (fun b19 => ?_)))⟩
  refine ⟨⟨Kn.le.refl _, ⟨rfl, trivial⟩⟩, (aT 9 rfl (Zah fun D B L hI => Zc2 (parts := [(0, _), (1, _), (2, _), (3, _)]) [_, _, _, _, _] [_, _, _, _, _] rfl rfl Zlk Zca rfl rfl rfl r4) (h:=ZeL 4 rfl (Z3.lit0 (R := Zu) (w := 2)) Zu.mono (by first | omega | decide | (simp; done) | (simp; omega)) (fun B' hle' => ⟨hle', ⟨rfl, trivial⟩⟩) (fun B20 hle20 hr20 => ?_)))⟩
  replace hu := hu.mono Zq.mono hle20
  replace hf := hf.mono Ze.mono hle20
  replace hi := hi.mono ZG.mono hle20
  replace hc2 := hc2.mono hle20
  replace hm8 := hm8.mono ZK.mono hle20
  replace hv := hv.mono Ze.mono hle20
  replace hg8 := hg8.mono Zu.mono hle20
  replace hs18 := hs18.mono ZK.mono hle20
  have hr20n := hr20.len
  refine ZeL 3 rfl hs18 ZK.mono (by first | omega | decide | (simp; done) | (simp; omega)) (fun B' hle' => ⟨hle20.trans hle', ⟨rfl, trivial⟩⟩) (fun B21 hle21 hr21 => ?_)
  replace hu := hu.mono Zq.mono hle21
  replace hf := hf.mono Ze.mono hle21
  replace hi := hi.mono ZG.mono hle21
  replace hc2 := hc2.mono hle21
  replace hm8 := hm8.mono ZK.mono hle21
  replace hr20 := hr20.mono Zu.mono hle21
  replace hv := hv.mono Ze.mono hle21
  replace hg8 := hg8.mono Zu.mono hle21
  have hr21n := hr21.len
  refine Z4 10 (by kernel_rfl) rfl (by kernel_rfl) (ZZ (parts := [(0, _)]) [_, _, _, _, _] rfl rfl Tryz.underlying39 ZaQ Zca rfl rfl rfl rfl rfl (fun b22 => ?_))
  refine ⟨⟨(hle20.trans hle21), ⟨rfl, trivial⟩⟩, (Z4 11 (by kernel_rfl) rfl (by kernel_rfl) (ZgE (z := ⟨w.owner, w.name, [], w.next, w.mail⟩) (R := Ze) 1 rfl hv rfl rfl rfl ZoA ZoT rfl rfl (ZbL.box 5 rfl) rfl rfl (⟨_, _, _, _, rfl, hr20, hr21, by first | assumption | omega | (simp; done) | (simp; omega), by first | assumption | omega | (simp; done) | (simp; omega)⟩) (by first | omega | (simp; done) | (simp; omega)) (fun l23 p23 c23 hv23 => ?_)))⟩
  refine ⟨⟨(hle20.trans hle21), ⟨rfl, trivial⟩⟩, (aA 12 rfl (h:=Zz (by kernel_rfl) (by kernel_rfl) ?_))⟩
  refine ZP (Zd (Zk (xD (h:=xM (h:=?_)))))
  exact ZD ⟨g.k + 1, 0, l23, p23, c23, (g.xs ++ [⟨w.owner, w.name, [], w.next, w.mail⟩])⟩ [0, 1] (by first | omega | (simp only []; omega)) ⟨by simp only []; omega, by simp only []; exact ZbD hxs (by simpa using g1) hw (by simp [ZgN, g3, g4]), by simp; omega, hv23⟩ ⟨rfl, rfl, rfl, rfl, rfl, rfl, rfl, rfl, rfl, trivial⟩ rfl
  try simp only [sQ, ne_eq] at g4
  refine Zf (ZP (Zd (Zk (xD (h:=xM (h:=?_))))))
  exact ZD ⟨g.k + 1, 0, g.l, g.a, g.c, g.xs⟩ [0, 1] (by first | omega | (simp only []; omega)) ⟨by simp only []; omega, by simp only []; exact Zbp hxs (by simpa using g1) hw (by simp [ZgN, g3, g4]), by simp only []; omega, hv⟩ ⟨rfl, rfl, rfl, rfl, rfl, rfl, rfl, rfl, rfl, trivial⟩ rfl
  try simp only [sQ, ne_eq] at g3
  refine xP (h:=xP (h:=xP (h:=xF (h:=Zc (t := false) rfl (fun h => Bool.noConfusion h) (fun _ => Zf (ZP (Zd (Zk (xD (h:=xM (h:=?_)))))))))))
  exact ZD ⟨g.k + 1, 0, g.l, g.a, g.c, g.xs⟩ [0, 1] (by first | omega | (simp only []; omega)) ⟨by simp only []; omega, by simp only []; exact Zbp hxs (by simpa using g1) hw (by simp [ZgN, g3]), by simp only []; omega, hv⟩ ⟨rfl, rfl, rfl, rfl, rfl, rfl, rfl, rfl, rfl, trivial⟩ rfl
  try simp only [sQ, ne_eq] at g2
  have hxe := ZiT hxs (by omega)
  refine ZI (ZY (ZM (Zv (Zd (Za (xM (h:=ZdR 1 rfl hv Ze.mono (by first | omega | decide | (simp; done) | (simp; omega)) (fun B24 hle24 hr24 => ?_))))))))
  replace hu := hu.mono Zq.mono hle24
  replace hf := hf.mono Ze.mono hle24
  replace hi := hi.mono ZG.mono hle24
  replace hc2 := hc2.mono hle24
  have hr24n := hr24.len
  refine xA (h:=ZH [_, _] rfl (Zi ?_))
  exact Zbx .ret (.inl rfl) [_] [] rfl ⟨rfl, trivial⟩ (by rw [← hxe]; exact ⟨rfl, _, _, rfl, hr24⟩)

set_option maxRecDepth 4000 in
set_option maxHeartbeats 400000 in
theorem ZqB (q1 q2 q3 : Option Addr) (c1 c2 c3 : Nat) (x : DHost) (u : Str) (hn : u.length ≤ 2000000) (hd : x.domain.length ≤ 2000000) (B : Kn) (hu : SlK B q1 c1 3 Zq x.users) (hf : SlK B q2 c2 5 Ze x.folders) (hi : SlK B q3 c3 4 ZG x.queue.items) : ZJ (pj J) 22 [.agg #[str x.domain, .slice q1 x.users.length c1, .slice q2 x.folders.length c2, .int .i64 x.queue.next, .slice q3 x.queue.items.length c3], str u] B [] (fun v B' Ls => Ls = [] ∧ ∃ p cp, v = .slice p (ZlK x u).length cp ∧ SlK B' p cp 5 Ze (ZlK x u)) := by
  refine Zb 45 Tryz.func22 rfl rfl rfl (Nat.le_of_ble_eq_true rfl) ?_
  have hfn := hf.len
  have hix := ZnL x.users u
  refine Za (xBx [_, _, _, _, _] (h:=fun b1 => xA (h:=ZH [_] rfl (Za (xBs [] [] Tryz.underlying39 ZaQ Zca (h:=fun b2 => xA (h:=ZH [_, _] rfl (Zg (Za (xA (h:=Zl (ZC (α := Gh DFolder) [0, 1, 2, 4] (fun g => [(5, .slice g.a g.xs.length g.c), (6, .int .i64 g.k)]) [1] (fun g => [g.l]) (fun g Bx => g.k ≤ x.folders.length ∧ g.xs = ZcR (okU x u) (ZoX u) ZiU x.folders g.k ∧ g.xs.length ≤ g.k ∧ Z3 Bx g.l g.a g.c 35 5 Ze g.xs) (fun g => x.folders.length - g.k) ⟨0, 0, _, _, _, []⟩ ⟨rfl, rfl, trivial⟩ rfl (⟨Nat.zero_le _, Zco, Nat.le_refl _, Z3.lit0⟩) (fun g B3 hle3 hI => ?_)))))))))))))
  obtain ⟨hk, hxs, hxl, hv⟩ := hI
  replace hu := hu.mono Zq.mono hle3
  replace hf := hf.mono Ze.mono hle3
  replace hi := hi.mono ZG.mono hle3
  refine ZL [(0, _), (1, _), (2, _), (4, _), (5, _), (6, _)] [_, _] ⟨rfl, rfl, rfl, rfl, rfl, rfl, trivial⟩ rfl (Zg (Za (xM (h:=xW Zar (h:=x1 Zd7 0 (h:=xV Tryz.underlying39 (h:=ZF (h:=xM (h:=Zw (d := 14) rfl (fun g1 => ?_) (fun g1 => ?_))))))))))
  try simp only [sQ, ne_eq] at g1
  refine xL [_, _, _, _, _] Ze7 0 (h:=xR Ztw rfl (ZfN _ _ _ _ _ _ x (by first | assumption | omega | (simp; done) | (simp; omega)) _ hu hf hi) (h:=?_))
  refine xT (h:=xM (h:=Zw (d := 18) rfl (fun g2 => ?_) (fun g2 => ?_)))
  try simp only [sQ, ne_eq] at g2
  refine xW ZbI (h:=x1 ZiM 0 (h:=xM (h:=xR ZrG rfl (Zdi _ _ _ _ _ hu) (h:=ZdW (h:=xT (h:=Zc rfl (fun g3 => ?_) (fun g3 => ?_)))))))
  try simp only [sQ, ne_eq] at g3
  have hrr := Zfx g2
  obtain ⟨w, hw⟩ := ZW (xs := x.folders) (i := g.k) (by omega)
  have hwt : x.folders[((g.k : Nat) : Int).toNat]? = some w := hw
  refine Zf (Zd (Zg (Zl (Za (xL [_, _, _, _, _] Ze7 0 (h:=xM (h:=xM (h:=xR ZvG rfl (Zl8 _ _ _ _ _ _ x u ↑g.k 2 (by omega) hrr (by omega) _ hu hf) (h:=?_)))))))))
  refine ZkZ (h:=Zc rfl (fun g4 => ?_) (fun g4 => ?_))
  try simp only [sQ, ne_eq] at g4
  refine Za (xW Zar (h:=x1 Zd7 0 (h:=xM (h:=?_))))
  obtain ⟨bb7, oo7, rfl⟩ := hf.base hw
  obtain ⟨_, ⟨qg8, cg8, qm8, cm8, rfl, hg8, hm8, hb8, hb8b⟩, hc8⟩ := hf.elem hw
  have hg8n := hg8.len
  have hm8n := hm8.len
  have hm8s := Z5 hm8
  refine xIx Tryz.underlying39 ZaQ (h:=yL [_, _, _, _, _] Zcd hc8 0 (h:=Zo (Zao rfl rfl ZuK rfl (Zg6 _ _ _ _ w _ hg8 hm8) ?_)))
  rintro _ B9 _ hle9 ⟨rfl, l9, a9, c9, l9b, a9b, c9b, rfl, rfl, hs9, hs9b⟩
  refine xAl [_, _, _, _, _] Zca (h:=fun b10 => xS [_, _, _, _, _] 4 [_, _, _, _, _] ZaQ (h:=ZH [_, _, _, _, _] rfl (Za (xBs [] [] Tryz.underlying30 ZbO ZfG (h:=fun b11 => xW Zce (h:=xS [_] 4 [_, _, _, _, _] ZsR (h:=ZH [_, _, _, _, _, _] rfl (Zk (xM (h:=xL [_, _, _, _, _] Zcd 4 (h:=ZdR 5 rfl (Z3.lit0 (R := Zu) (w := 2)) Zu.mono (by first | omega | decide | (simp; done) | (simp; omega)) (fun B12 hle12 hr12 => ?_))))))))))))
  replace hu := hu.mono Zq.mono hle12
  replace hf := hf.mono Ze.mono hle12
  replace hi := hi.mono ZG.mono hle12
  replace hv := hv.mono Ze.mono hle12
  replace hs9 := hs9.mono Zu.mono hle12
  replace hs9b := hs9b.mono ZK.mono hle12
  have hr12n := hr12.len
  refine ZdR 3 rfl hs9b ZK.mono (by first | omega | decide | (simp; done) | (simp; omega)) (fun B13 hle13 hr13 => ?_)
  replace hu := hu.mono Zq.mono hle13
  replace hf := hf.mono Ze.mono hle13
  replace hi := hi.mono ZG.mono hle13
  replace hr12 := hr12.mono Zu.mono hle13
  replace hv := hv.mono Ze.mono hle13
  replace hs9 := hs9.mono Zu.mono hle13
  have hr13n := hr13.len
  refine xBs [(0, _)] [_, _, _, _, _] Tryz.underlying39 ZaQ Zca (h:=fun b14 => Zo (ZgE (z := ⟨w.owner, w.name, [], w.next, w.mail⟩) (R := Ze) 1 rfl hv rfl rfl rfl ZoA ZoT rfl rfl (ZbL.box 6 rfl) rfl rfl (⟨_, _, _, _, rfl, hr12, hr13, by first | assumption | omega | (simp; done) | (simp; omega), by first | assumption | omega | (simp; done) | (simp; omega)⟩) (by first | omega | (simp; done) | (simp; omega)) (fun l15 p15 c15 hv15 => ?_)))
  refine xA (h:=ZP (Zd (Zk (xM (h:=xD (h:=xA (h:=?_)))))))
  exact ZD ⟨g.k + 1, 0, l15, p15, c15, (g.xs ++ [⟨w.owner, w.name, [], w.next, w.mail⟩])⟩ [0, 1] (by first | omega | (simp only []; omega)) ⟨by simp only []; omega, by simp only []; exact ZbD hxs (ZgY g2 g3) hw (by rw [← ZlG g3 hw]; simpa using g4), by simp; omega, hv15⟩ ⟨rfl, rfl, rfl, rfl, rfl, rfl, trivial⟩ rfl
  try simp only [sQ, ne_eq] at g4
  refine Zf (ZP (Zd (Zk (xM (h:=xD (h:=xA (h:=?_)))))))
  exact ZD ⟨g.k + 1, 0, g.l, g.a, g.c, g.xs⟩ [0, 1] (by first | omega | (simp only []; omega)) ⟨by simp only []; omega, by simp only []; exact Zbp hxs (ZgY g2 g3) hw (by rw [← ZlG g3 hw]; simpa using g4), by simp only []; omega, hv⟩ ⟨rfl, rfl, rfl, rfl, rfl, rfl, trivial⟩ rfl
  try simp only [sQ, ne_eq] at g3
  have hxe := ZgF hxs (.inr (Znk (by first | omega | simpa using g3)))
  refine ZI (ZY (ZM (Zv (Zd (Za (xM (h:=ZdR 1 rfl hv Ze.mono (by first | omega | decide | (simp; done) | (simp; omega)) (fun B16 hle16 hr16 => ?_))))))))
  replace hu := hu.mono Zq.mono hle16
  replace hf := hf.mono Ze.mono hle16
  replace hi := hi.mono ZG.mono hle16
  have hr16n := hr16.len
  refine xA (h:=ZH [_, _] rfl (Zi ?_))
  exact Zbx .ret (.inl rfl) [_] [] rfl ⟨rfl, trivial⟩ (by rw [← hxe]; exact ⟨rfl, _, _, rfl, hr16⟩)
  try simp only [sQ, ne_eq] at g2
  have hxe := ZgF hxs (.inr (Znl g2))
  refine xP (h:=xP (h:=xP (h:=xP (h:=xP (h:=xF (h:=Zc (t := false) rfl (fun h => Bool.noConfusion h) (fun _ => ZI (ZY (ZM (Zv (Zd (Za (xM (h:=ZdR 1 rfl hv Ze.mono (by first | omega | decide | (simp; done) | (simp; omega)) (fun B17 hle17 hr17 => ?_)))))))))))))))
  replace hu := hu.mono Zq.mono hle17
  replace hf := hf.mono Ze.mono hle17
  replace hi := hi.mono ZG.mono hle17
  have hr17n := hr17.len
  refine xA (h:=ZH [_, _] rfl (Zi ?_))
  exact Zbx .ret (.inl rfl) [_] [] rfl ⟨rfl, trivial⟩ (by rw [← hxe]; exact ⟨rfl, _, _, rfl, hr17⟩)
  try simp only [sQ, ne_eq] at g1
  have hxe := ZgF hxs (.inl (by omega))
  refine xP (h:=xP (h:=xF (h:=xM (h:=xP (h:=xP (h:=xP (h:=xP (h:=xP (h:=xF (h:=Zc (t := false) rfl (fun h => Bool.noConfusion h) (fun _ => ZI (ZY (ZM (Zv (Zd (Za ?_))))))))))))))))
  refine xM (h:=ZdR 1 rfl hv Ze.mono (by first | omega | decide | (simp; done) | (simp; omega)) (fun B18 hle18 hr18 => ?_))
  replace hu := hu.mono Zq.mono hle18
  replace hf := hf.mono Ze.mono hle18
  replace hi := hi.mono ZG.mono hle18
  have hr18n := hr18.len
  refine xA (h:=ZH [_, _] rfl (Zi ?_))
  exact Zbx .ret (.inl rfl) [_] [] rfl ⟨rfl, trivial⟩ (by rw [← hxe]; exact ⟨rfl, _, _, rfl, hr18⟩)

set_option maxHeartbeats 400000 in
theorem Zj9 (u y z:Str) (h1:u.length≤140737488355328) (h2:y.length≤140737488355328) (h3:z.length≤140737488355328) (left:Int) (hl0:0≤left) (hl1:left≤1048576) (B:Kn):Zaa (pj J) 15 [.agg #[str u,str y,str z],.int .i64 left] B (.int .i64 (szI left (u.length+y.length+z.length))):=by
 refine Zb 27 Tryz.func15 rfl rfl rfl (Nat.le_of_ble_eq_true rfl) ?_
 refine Za (xBx [_,_,_] (h:=fun b1=>xA (h:=ZH [_] rfl (Za (xM (h:=xW Zqk (h:=x1 lk9 0 (h:=xVs Tryz.underlying9 (h:=xU (h:=xA (h:=Zg (Za ?_))))))))))))
 refine xM (h:=ZF (h:=Zc rfl (fun g1=>?_) (fun g1=>?_)))
 try simp only [sQ,ne_eq] at g1
 refine Za (xA (h:=Zi (Zn ?_)))
 exact ZB .ret (.inl rfl) [_] t1 ⟨ZN (by first | (unfold szI;split <;> omega)),rfl,rfl⟩
 try simp only [sQ,ne_eq] at g1
 refine Zf (Zd (Za (xM (h:=xW Zqj (h:=x1 lk9 0 (h:=xVs Tryz.underlying9 (h:=xU (h:=xA (h:=Zg (Za (xM (h:=ZF (h:=?_)))))))))))))
 refine Zc rfl (fun g2=>?_) (fun g2=>?_)
 try simp only [sQ,ne_eq] at g2
 refine Za (xA (h:=Zi (Zn ?_)))
 exact ZB .ret (.inl rfl) [_] t1 ⟨ZN (by first | (unfold szI;split <;> omega)),rfl,rfl⟩
 try simp only [sQ,ne_eq] at g2
 refine Zf (Zd (Za (xM (h:=xW Zqi (h:=x1 lk9 0 (h:=xVs Tryz.underlying9 (h:=xU (h:=xA (h:=Zg (Za (xM (h:=ZF (h:=?_)))))))))))))
 refine Zc rfl (fun g3=>?_) (fun g3=>?_)
 try simp only [sQ,ne_eq] at g3
 refine Za (xA (h:=Zi (Zn ?_)))
 exact ZB .ret (.inl rfl) [_] t1 ⟨ZN (by first | (unfold szI;split <;> omega)),rfl,rfl⟩
 try simp only [sQ,ne_eq] at g3
 refine Zf (Zd (Za (xM (h:=xA (h:=Zi ?_)))))
 exact ZB .ret (.inl rfl) [_] t1 ⟨ZN (by first | (unfold szI;split <;> omega)),rfl,rfl⟩

set_option maxHeartbeats 400000 in
theorem ZeS (u y z:Str) (B:Kn):Zaa (pj J) 17 [.agg #[str u,str y,str z]] B (.agg #[str u,str y,str z]):=by
 refine Zb 14 Tryz.func17 rfl rfl rfl (Nat.le_of_ble_eq_true rfl) ?_
 refine Za (xBx [_,_,_] (h:=fun b1=>xAl [_,_,_] Zul (h:=fun b2=>ZH [_,_] rfl (Za (xAl [_,_,_] Zul (h:=fun b3=>ZH [_,_,_] rfl (Za (xW Zqk (h:=x1 lk9 0 (h:=xW ZjD (h:=xS [_] 2 [_,_,_] sz9 (h:=ZH [_,_,_] rfl ?_))))))))))))
 refine Za (xW Zqj (h:=x1 lk9 0 (h:=xW Zss (h:=xS [_] 2 [_,_,_] sz9 (h:=ZH [_,_,_] rfl (Za (xW Zqi (h:=x1 lk9 0 (h:=xW Zsr (h:=xS [_] 2 [_,_,_] sz9 (h:=ZH [_,_,_] rfl (Za ?_))))))))))))
 refine xL [_,_,_] Zuz 2 (h:=xS [_,_,_] 1 [_,_,_] ZuQ (h:=ZH [_,_,_] rfl (Zi ?_)))
 exact ZB .ret (.inl rfl) [_] ⟨⟨_,rfl,.inr ⟨[_,_,_],Zuz,ZcQ 1 rfl rfl rfl,rfl⟩⟩,trivial⟩ ⟨rfl,rfl,rfl⟩

set_option maxHeartbeats 400000 in
theorem Zhd (q:Option Addr) (cp:Nat) (xs:List DMail) (k m n:Nat) (hmn:m=n) (he:xs=ZaP k n) (hk:k+3*n≤900000000000000) (B:Kn) (hx0:SlK B q cp 3 ZK xs):Zaa (pj J) 51 [.slice q m cp,.int .i64 k] B (.int .i64 ((k+3*n:Nat):Int)):=by
 refine Zb 41 Tryz.func51 rfl rfl rfl (Nat.le_of_ble_eq_true rfl) ?_
 have hxn:=hx0.len
 have hxl:xs.length=n:=by rw [he];exact Zad _ _
 refine Za (xA (h:=Zg (Za (xA (h:=Zl (ZC (α:=Nat) [0] (fun g=>[(1,.int .i64 ((k+3*g:Nat):Int)),(5,.int .i64 g)]) [] (fun g=>[]) (fun g Bx=>Bx=B∧g≤n) (fun g=>n - g) 0 t2 rfl (⟨rfl,Nat.zero_le _⟩) (fun g B1 hle1 hI=>?_)))))))
 obtain ⟨rfl,hi⟩:=hI
 refine ZL [(0,_),(1,_),(5,_)] [] t3 rfl (Zg (Za (xM (h:=xM (h:=xV Tryz.underlying31 (h:=ZF (h:=Zc rfl (fun g1=>?_) (fun g1=>?_))))))))
 try simp only [sQ,ne_eq] at g1
 have hx:xs[g]? = some (⟨((k+3*g:Nat):Int),((k+3*g+1:Nat):Int),ZT (k+3*g+1+1)⟩:DMail):=by rw [he];exact Zkq oz
 refine Zf (Zd (Zg (Zl (Zg (Za (xM (h:=xM (h:=?_))))))))
 obtain ⟨bb2,oo2,rfl⟩:=hx0.base hx
 obtain ⟨_,⟨rfl,hb3⟩,hc3⟩:=hx0.elem hx
 refine xIx Tryz.underlying31 Zcv (h:=xW Zb9 (h:=y1 lk3 hc3 0 (h:=xM (h:=ZaL (h:=Zc rfl (fun h1=>by simp at h1) (fun h1=>?_))))))
 try simp only [sQ,ne_eq] at h1
 refine Zf (Zd (Za (xM (h:=xD (h:=xA (h:=Zg (Za (xM (h:=xM (h:=xIx Tryz.underlying31 Zcv (h:=xW Ze4 (h:=y1 lk3 hc3 1 (h:=?_)))))))))))))
 refine xM (h:=ZaL (h:=Zc rfl (fun h2=>by simp at h2) (fun h2=>?_)))
 try simp only [sQ,ne_eq] at h2
 refine Zf (Zd (Za (xM (h:=xD (h:=xA (h:=Zg (Zg (Zan (same _ _) mo kr ⟨rfl,rfl⟩ (fun _ _=>?_)))))))))
 refine aM 0 rfl (h:=aM 1 rfl (h:=aIx 2 rfl Tryz.underlying31 Zcv (h:=aW 3 rfl ZdM (h:=aT 4 rfl (Zaq fun D=>Zs rfl rfl lk9 rfl (hc3 _ 2 _ rfl) r4) (h:=aM 5 rfl (h:=aT 6 rfl (Zaq fun D=>Zam rfl rfl Zmm rfl (Zaz (((k+3*g)+1)+1) oz _) r4) (h:=?_)))))))
 refine ZjY 7 rfl (h:=Zz kr kr ?_)
 refine Zd (Zc rfl (fun h3=>by simp at h3) (fun h3=>?_))
 try simp only [sQ,ne_eq] at h3
 refine Zf (Zd (Zk (xM (h:=xD (h:=xA (h:=ZP (Zd (Zk (xM (h:=xD (h:=xA (h:=?_))))))))))))
 exact ZD (g+1) [] so2 ⟨rfl,oz⟩ t3 rfl
 try simp only [sQ,ne_eq] at g1
 refine ZI (ZY (ZM (Zv (Zd (Za (xM (h:=xA (h:=Zi ?_))))))))
 exact ZB .ret (.inl rfl) [_] t1 ⟨ZN (by rw [show g=n from by omega]),rfl,rfl⟩

set_option maxHeartbeats 400000 in
theorem Zgh (q:Option Addr) (cp:Nat) (xs:List DGrant) (k m n:Nat) (hmn:m=n) (he:xs=Zal k n) (hk:k+2*n≤900000000000000) (B:Kn) (hx0:SlK B q cp 2 Zu xs):Zaa (pj J) 44 [.slice q m cp,.int .i64 k] B (.int .i64 ((k+2*n:Nat):Int)):=by
 refine Zb 32 Tryz.func44 rfl rfl rfl (Nat.le_of_ble_eq_true rfl) ?_
 have hxn:=hx0.len
 have hxl:xs.length=n:=by rw [he];exact Z7 _ _
 refine Za (xA (h:=Zg (Za (xA (h:=Zl (ZC (α:=Nat) [0] (fun g=>[(1,.int .i64 ((k+2*g:Nat):Int)),(5,.int .i64 g)]) [] (fun g=>[]) (fun g Bx=>Bx=B∧g≤n) (fun g=>n - g) 0 t2 rfl (⟨rfl,Nat.zero_le _⟩) (fun g B1 hle1 hI=>?_)))))))
 obtain ⟨rfl,hi⟩:=hI
 refine ZL [(0,_),(1,_),(5,_)] [] t3 rfl (Zg (Za (xM (h:=xM (h:=xV Tryz.underlying30 (h:=ZF (h:=Zc rfl (fun g1=>?_) (fun g1=>?_))))))))
 try simp only [sQ,ne_eq] at g1
 have hx:xs[g]? = some (⟨ZT (k+2*g),((k+2*g+1:Nat):Int)⟩:DGrant):=by rw [he];exact Zjm oz
 refine Zf (Zd (Zg (Zl (Zg (Zg (Zan (same _ _) mo kr ⟨rfl,rfl⟩ (fun _ _=>?_)))))))
 refine aM 0 rfl (h:=aM 1 rfl (h:=?_))
 obtain ⟨bb2,oo2,rfl⟩:=hx0.base hx
 obtain ⟨_,⟨rfl,hb3⟩,hc3⟩:=hx0.elem hx
 refine aIx 2 rfl Tryz.underlying30 ZbO (h:=aW 3 rfl ZbK (h:=aT 4 rfl (Zaq fun D=>Zs rfl rfl lk9 rfl (hc3 _ 0 _ rfl) r4) (h:=aM 5 rfl (h:=aT 6 rfl (Zaq fun D=>Zam rfl rfl Zmm rfl (Zaz (k+2*g) oz _) r4) (h:=?_)))))
 refine ZjY 7 rfl (h:=Zz kr kr ?_)
 refine Zd (Zc rfl (fun h1=>by simp at h1) (fun h1=>?_))
 try simp only [sQ,ne_eq] at h1
 refine Zf (Zd (Za (xM (h:=xD (h:=xA (h:=Zg (Za (xM (h:=xM (h:=xIx Tryz.underlying30 ZbO (h:=xW ZcH (h:=y1 lk3 hc3 1 (h:=?_)))))))))))))
 refine xM (h:=ZaL (h:=Zc rfl (fun h2=>by simp at h2) (fun h2=>?_)))
 try simp only [sQ,ne_eq] at h2
 refine Zf (Zd (Zk (xM (h:=xD (h:=xA (h:=ZP (Zd (Zk (xM (h:=xD (h:=xA (h:=?_))))))))))))
 exact ZD (g+1) [] so2 ⟨rfl,oz⟩ t3 rfl
 try simp only [sQ,ne_eq] at g1
 refine ZI (ZY (ZM (Zv (Zd (Za (xM (h:=xA (h:=Zi ?_))))))))
 exact ZB .ret (.inl rfl) [_] t1 ⟨ZN (by rw [show g=n from by omega]),rfl,rfl⟩

set_option maxHeartbeats 400000 in
theorem ZdH (q:Option Addr) (cp:Nat) (xs:List DFolder) (l:Cells) (k:Nat) (hk:kL Zbw k xs≤800000000000000) (hn:xs.length≤2000000) (B:Kn) (hv:Zby l q cp 35 5 (ZV 117 126) xs):ZJ (pj J) 20 [.slice q xs.length cp,.int .i64 k] B [l] (fun v B' Ls=>B'=B∧∃l',Ls=[l']∧v = .int .i64 ((kL Zbw k xs:Nat):Int)∧Zby l' q cp 35 5 (ZV 117 126) (mkL Zbw mkF k xs)):=by
 refine Zb 52 Tryz.func20 rfl rfl rfl (Nat.le_of_ble_eq_true rfl) ?_
 have hvc:=hv.cap
 refine Za ?_
 refine xA (h:=?_)
 refine Zg ?_
 refine Za ?_
 refine xA (h:=?_)
 refine Zl ?_
 refine ZC (α:=Nat × Nat × Cells × List DFolder) [4] (fun g=>[(0,.slice q xs.length cp),(1,.int .i64 ((g.2.1:Nat):Int)),(5,.int .i64 g.1)]) [0] (fun g=>[g.2.2.1]) (fun g Bx=>Bx=B∧g.1≤xs.length∧g.2.1=kL Zbw k (xs.take g.1)∧g.2.2.2.length=xs.length∧g.2.2.2.take g.1=mkL Zbw mkF k (xs.take g.1)∧g.2.2.2.drop g.1=xs.drop g.1∧Zby g.2.2.1 q cp 35 5 (ZV 117 126) g.2.2.2) (fun g=>xs.length - g.1) (0,k,l,xs) t3 rfl (⟨rfl,Nat.zero_le _,ZnG.symm,rfl,rfl,rfl,hv⟩) (fun g B1 hle1 hI=>?_)
 obtain ⟨rfl,hi,hs,hle,ht,hd,hw⟩:=hI
 refine ZL [(0,_),(1,_),(4,_),(5,_)] [_] t4 rfl ?_
 refine Zg ?_
 refine Za ?_
 refine xM (h:=?_)
 refine xM (h:=?_)
 refine xV Tryz.underlying39 (h:=?_)
 refine ZF (h:=?_)
 refine Zc rfl (fun g1=>?_) (fun g1=>?_)
 try simp only [sQ,ne_eq] at g1
 obtain ⟨x,hx⟩:=ZW (xs:=xs) (i:=g.1) oz
 have hy:=(ZlB hd).trans hx
 have hkl:=Nat.le_trans (Zq5 (st:=Zbw) (k:=k) hx) hk
 rw [← hs] at hkl
 have hst:Zbw x=3+2*x.grants.length+3*x.mail.length:=rfl
 refine Zf ?_
 refine Zd ?_
 refine Zg ?_
 refine Zl ?_
 refine Za ?_
 refine xM (h:=?_)
 refine xM (h:=?_)
 refine xM (h:=?_)
 refine xR Zmm rfl (Zaz (g.2.1) oz _) (h:=?_)
 obtain ⟨bb3,_,li3,lr3,hp3,⟨qg3,cg3,qm3,cm3,ia3,ib3,rfl,rfl,hg3,hm3,ho3,hn3,hx3,hy3⟩,hw3,hq3,hc3,hk3⟩:=hw.cell (B:=B1) (L:=[g.2.2.1]) hy 0 rfl
 refine xIp hp3 Tryz.underlying39 ZaQ (h:=?_)
 refine xW Za0 (h:=?_)
 refine Zo (ZhK (k:=g.1) (us:=[_]) ((⟨ZT (g.2.1),x.name,x.grants,x.next,x.mail⟩:DFolder)) 0 0 rfl hw hp3 hy rfl rfl sz9 rfl rfl rfl rfl (Nat.le_of_ble_eq_true rfl) (by rintro _ _ ⟨_,_,_,_,_,_,rfl,rfl,h1,h2,h3,h4,h5,h6⟩;exact ⟨_,_,_,_,_,_,rfl,rfl,h1,h2,show (ZT (g.2.1)).length≤2000000 from Nat.le_trans (ZbE (k:=g.2.1) oz) (by decide),h4,h5,h6⟩) (fun l4 hv4=>?_))
 have hs4:=ZdC (z:=((⟨ZT (g.2.1),x.name,x.grants,x.next,x.mail⟩:DFolder))) hy
 refine ZH [_] rfl ?_
 refine Za ?_
 refine xM (h:=?_)
 refine xD (h:=?_)
 refine xA (h:=?_)
 refine Za ?_
 refine xM (h:=?_)
 refine xM (h:=?_)
 refine xM (h:=?_)
 refine xR Zmm rfl (Zaz ((g.2.1)+1) oz _) (h:=?_)
 obtain ⟨bb6,_,li6,lr6,hp6,⟨qg6,cg6,qm6,cm6,ia6,ib6,rfl,rfl,hg6,hm6,ho6,hn6,hx6,hy6⟩,hw6,hq6,hc6,hk6⟩:=hv4.cell (B:=B1) (L:=[l4]) hs4 0 rfl
 refine xIp hp6 Tryz.underlying39 ZaQ (h:=?_)
 refine xW ZbP (h:=?_)
 refine Zo (ZhK (k:=g.1) (us:=[_]) ((⟨ZT (g.2.1),ZT (g.2.1+1),x.grants,x.next,x.mail⟩:DFolder)) 1 0 rfl hv4 hp6 hs4 rfl rfl sz9 rfl rfl rfl rfl (Nat.le_of_ble_eq_true rfl) (by rintro _ _ ⟨_,_,_,_,_,_,rfl,rfl,h1,h2,h3,h4,h5,h6⟩;exact ⟨_,_,_,_,_,_,rfl,rfl,h1,h2,h3,show (ZT (g.2.1+1)).length≤2000000 from Nat.le_trans (ZbE (k:=g.2.1+1) oz) (by decide),h5,h6⟩) (fun l7 hv7=>?_))
 rw [List.set_set] at hv7
 have hs7:=ZdC (z:=((⟨ZT (g.2.1),ZT (g.2.1+1),x.grants,x.next,x.mail⟩:DFolder))) hy
 refine ZH [_] rfl ?_
 obtain ⟨bb8,_,li8,lr8,hp8,⟨qg8,cg8,qm8,cm8,ia8,ib8,rfl,rfl,hg8,hm8,ho8,hn8,hx8,hy8⟩,hw8,hq8,hc8,hk8⟩:=hv7.cell (B:=B1) (L:=[_]) hs7 0 rfl
 replace hc8:=fun m u h=>(hc8 m u h).perm (ZfM 0 rfl (Zo4 hq8))
 refine Zj1 0 rfl (Zo4 hq8) ?_
 refine Za ?_
 refine xM (h:=?_)
 refine xD (h:=?_)
 refine xA (h:=?_)
 refine ZH [_,_,_] rfl ?_
 refine Za ?_
 refine xM (h:=?_)
 refine xM (h:=?_)
 refine xIp hp8 Tryz.underlying39 ZaQ (h:=?_)
 refine xW Zce (h:=?_)
 refine Zo (Zs rfl rfl Zmx rfl (hc8 2 _ rfl) ?_)
 refine xM (h:=?_)
 refine Zo (Zat [1] rfl rfl rfl rfl ZuI rfl (Zgf _ _ (((⟨ZT (g.2.1),ZT (g.2.1+1),x.grants,x.next,x.mail⟩:DFolder)).grants) _ (((g.2.1)+1)+1) oz oz _ (hg8.anyK Zu.any)) ?_)
 rintro _ B9 _ hle9 ⟨rfl,l9,rfl,rfl,hs9⟩
 refine xA (h:=?_)
 refine ZH [_,_,_] rfl ?_
 refine ZgD 0 2 rfl rfl (by decide) ?_
 refine ZgD 0 1 rfl rfl (by decide) ?_
 have hv10:=hk8 (⟨ZT (g.2.1),ZT (g.2.1+1),Zal (g.2.1+1+1) x.grants.length,x.next,x.mail⟩:DFolder) _ ⟨qg8,cg8,qm8,cm8,_,_,by simp only [Z7,Zad],rfl,hs9.anyK Zu.any,hm8.anyK ZK.any,ho8,hn8,by first | assumption | (rw [Z7];assumption),by first | assumption | (rw [Zad];assumption)⟩
 rw [List.append_assoc,List.set_set] at hv10
 have hs10:=ZdC (z:=((⟨ZT (g.2.1),ZT (g.2.1+1),Zal (g.2.1+1+1) x.grants.length,x.next,x.mail⟩:DFolder))) hy
 refine ZoF [0] rfl ?_
 refine Za ?_
 refine xM (h:=?_)
 refine xM (h:=?_)
 refine xM (h:=?_)
 obtain ⟨bb11,_,li11,lr11,hp11,⟨qg11,cg11,qm11,cm11,ia11,ib11,rfl,rfl,hg11,hm11,ho11,hn11,hx11,hy11⟩,hw11,hq11,hc11,hk11⟩:=hv10.cell (B:=B9) (L:=[_]) hs10 0 rfl
 refine xIp hp11 Tryz.underlying39 ZaQ (h:=?_)
 refine xW ZbJ (h:=?_)
 refine xW ZfA (h:=?_)
 refine Zo (ZhK (k:=g.1) (us:=[_]) ((⟨ZT (g.2.1),ZT (g.2.1+1),Zal (g.2.1+1+1) x.grants.length,((g.2.1+1+1+2*x.grants.length:Nat):Int),x.mail⟩:DFolder)) 3 0 rfl hv10 hp11 hs10 rfl rfl sz3 rfl rfl rfl rfl (Nat.le_of_ble_eq_true rfl) (by rintro _ _ ⟨_,_,_,_,_,_,rfl,rfl,h1,h2,h3,h4,h5,h6⟩;exact ⟨_,_,_,_,_,_,rfl,rfl,h1,h2,h3,h4,h5,h6⟩) (fun l12 hv12=>?_))
 rw [List.set_set] at hv12
 have hs12:=ZdC (z:=((⟨ZT (g.2.1),ZT (g.2.1+1),Zal (g.2.1+1+1) x.grants.length,((g.2.1+1+1+2*x.grants.length:Nat):Int),x.mail⟩:DFolder))) hy
 refine ZH [_] rfl ?_
 obtain ⟨bb13,_,li13,lr13,hp13,⟨qg13,cg13,qm13,cm13,ia13,ib13,rfl,rfl,hg13,hm13,ho13,hn13,hx13,hy13⟩,hw13,hq13,hc13,hk13⟩:=hv12.cell (B:=B9) (L:=[_]) hs12 0 rfl
 replace hc13:=fun m u h=>(hc13 m u h).perm (ZfM 0 rfl (Zo4 hq13))
 refine Zj1 0 rfl (Zo4 hq13) ?_
 refine Za ?_
 refine xM (h:=?_)
 refine xD (h:=?_)
 refine xA (h:=?_)
 refine ZH [_,_,_] rfl ?_
 refine Zk ?_
 refine xM (h:=?_)
 refine xM (h:=?_)
 refine xIp hp13 Tryz.underlying39 ZaQ (h:=?_)
 refine xW ZbJ (h:=?_)
 refine xW Zbu (h:=?_)
 refine Zo (Zs rfl rfl ZiO rfl (hc13 4 _ rfl) ?_)
 refine xM (h:=?_)
 refine Zo (Zat [2] rfl rfl rfl rfl ZuG rfl (Zg4 _ _ (((⟨ZT (g.2.1),ZT (g.2.1+1),Zal (g.2.1+1+1) x.grants.length,((g.2.1+1+1+2*x.grants.length:Nat):Int),x.mail⟩:DFolder)).mail) _ (((((g.2.1)+1)+1)+2*(((⟨ZT (g.2.1),ZT (g.2.1+1),x.grants,x.next,x.mail⟩:DFolder)).grants).length)+1) oz oz _ (hm13.anyK ZK.any)) ?_)
 rintro _ B14 _ hle14 ⟨rfl,l14,rfl,rfl,hs14⟩
 refine xA (h:=?_)
 refine ZP (Zd ?_)
 refine ZgD 0 2 rfl rfl (by decide) ?_
 refine ZgD 0 1 rfl rfl (by decide) ?_
 have hv15:=hk13 (⟨ZT (g.2.1),ZT (g.2.1+1),Zal (g.2.1+1+1) x.grants.length,((g.2.1+1+1+2*x.grants.length:Nat):Int),ZaP (g.2.1+1+1+2*x.grants.length+1) x.mail.length⟩:DFolder) _ ⟨qg13,cg13,qm13,cm13,_,_,by simp only [Z7,Zad],rfl,hg13.anyK Zu.any,hs14.anyK ZK.any,ho13,hn13,by first | assumption | (rw [Z7];assumption),by first | assumption | (rw [Zad];assumption)⟩
 rw [List.append_assoc,List.set_set] at hv15
 have hs15:=ZdC (z:=((⟨ZT (g.2.1),ZT (g.2.1+1),Zal (g.2.1+1+1) x.grants.length,((g.2.1+1+1+2*x.grants.length:Nat):Int),ZaP (g.2.1+1+1+2*x.grants.length+1) x.mail.length⟩:DFolder))) hy
 refine ZoF [0] rfl ?_
 refine Zk ?_
 refine xM (h:=?_)
 refine xD (h:=?_)
 refine xA (h:=?_)
 exact ZD (g.1+1,g.2.1+1+1+2*x.grants.length+1+3*x.mail.length,_,(g.2.2.2.set g.1 ((⟨ZT (g.2.1),ZT (g.2.1+1),Zal (g.2.1+1+1) x.grants.length,((g.2.1+1+1+2*x.grants.length:Nat):Int),ZaP (g.2.1+1+1+2*x.grants.length+1) x.mail.length⟩:DFolder)))) [0] so2 ⟨rfl,so,by simp only [];rw [Ziu hx,← hs,hst];omega,Zk7 hle,Zjl ht hx hle hs,ZlA hd,hv15⟩ t4 rfl
 try simp only [sQ,ne_eq] at g1
 have he:=Znw ht hle oz
 have hgi:g.1=xs.length:=by omega
 refine ZI (ZY (ZM (Zv (Zd ?_))))
 refine Za ?_
 refine xM (h:=?_)
 refine xA (h:=?_)
 refine Zi ?_
 exact Zbx .ret (.inl rfl) [_] [0] rfl t1 ⟨rfl,_,rfl,by rw [hs,ZnH oz];rfl,by rw [← he];exact hw⟩

set_option maxHeartbeats 400000 in
theorem Zkw (q:Option Addr) (cp:Nat) (xs:List DItem) (l:Cells) (k:Nat) (hk:kL ZeT k xs≤800000000000000) (hn:xs.length≤2000000) (B:Kn) (hv:Zby l q cp 105 4 (Zbf 9) xs):ZJ (pj J) 80 [.slice q xs.length cp,.int .i64 k] B [l] (fun v B' Ls=>B'=B∧∃l',Ls=[l']∧v = .int .i64 ((kL ZeT k xs:Nat):Int)∧Zby l' q cp 105 4 (Zbf 9) (mkL ZeT mkI k xs)):=by
 refine Zb 43 Tryz.func80 rfl rfl rfl (Nat.le_of_ble_eq_true rfl) ?_
 have hvc:=hv.cap
 refine Za ?_
 refine xA (h:=?_)
 refine Zg ?_
 refine Za ?_
 refine xA (h:=?_)
 refine Zl ?_
 refine ZC (α:=Nat × Nat × Cells × List DItem) [4] (fun g=>[(0,.slice q xs.length cp),(1,.int .i64 ((g.2.1:Nat):Int)),(5,.int .i64 g.1)]) [0] (fun g=>[g.2.2.1]) (fun g Bx=>Bx=B∧g.1≤xs.length∧g.2.1=kL ZeT k (xs.take g.1)∧g.2.2.2.length=xs.length∧g.2.2.2.take g.1=mkL ZeT mkI k (xs.take g.1)∧g.2.2.2.drop g.1=xs.drop g.1∧Zby g.2.2.1 q cp 105 4 (Zbf 9) g.2.2.2) (fun g=>xs.length - g.1) (0,k,l,xs) t3 rfl (⟨rfl,Nat.zero_le _,ZnG.symm,rfl,rfl,rfl,hv⟩) (fun g B1 hle1 hI=>?_)
 obtain ⟨rfl,hi,hs,hle,ht,hd,hw⟩:=hI
 refine ZL [(0,_),(1,_),(4,_),(5,_)] [_] t4 rfl ?_
 refine Zg ?_
 refine Za ?_
 refine xM (h:=?_)
 refine xM (h:=?_)
 refine xV Tryz.underlying40 (h:=?_)
 refine ZF (h:=?_)
 refine Zc rfl (fun g1=>?_) (fun g1=>?_)
 try simp only [sQ,ne_eq] at g1
 obtain ⟨x,hx⟩:=ZW (xs:=xs) (i:=g.1) oz
 have hy:=(ZlB hd).trans hx
 have hkl:=Nat.le_trans (Zq5 (st:=ZeT) (k:=k) hx) hk
 rw [← hs] at hkl
 have hst:ZeT x=3+x.left.length:=rfl
 refine Zf ?_
 refine Zd ?_
 refine Zg ?_
 refine Zl ?_
 refine Za ?_
 refine xM (h:=?_)
 refine xM (h:=?_)
 refine xM (h:=?_)
 obtain ⟨bb2,_,li2,lr2,hp2,⟨qg2,cg2,rfl,hg2,ho2,hn2,hx2⟩,hw2,hq2,hc2,hk2⟩:=hw.cell (B:=B1) (L:=[g.2.2.1]) hy 0 rfl
 refine xIp hp2 Tryz.underlying40 Zc3 (h:=?_)
 refine xW Zeg (h:=?_)
 refine Zo (ZhK (k:=g.1) (us:=[_]) ((⟨((g.2.1:Nat):Int),x.fr,x.text,x.left⟩:DItem)) 0 0 rfl hw hp2 hy rfl rfl sz3 rfl rfl rfl rfl (Nat.le_of_ble_eq_true rfl) (by rintro _ _ ⟨_,_,rfl,h1,h2,h3,h4⟩;exact ⟨_,_,rfl,h1,h2,h3,h4⟩) (fun l3 hv3=>?_))
 have hs3:=ZdC (z:=((⟨((g.2.1:Nat):Int),x.fr,x.text,x.left⟩:DItem))) hy
 refine ZH [_] rfl ?_
 refine Za ?_
 refine xM (h:=?_)
 refine xD (h:=?_)
 refine xA (h:=?_)
 refine Za ?_
 refine xM (h:=?_)
 refine xM (h:=?_)
 refine xM (h:=?_)
 refine xR Zmm rfl (Zaz ((g.2.1)+1) oz _) (h:=?_)
 obtain ⟨bb5,_,li5,lr5,hp5,⟨qg5,cg5,rfl,hg5,ho5,hn5,hx5⟩,hw5,hq5,hc5,hk5⟩:=hv3.cell (B:=B1) (L:=[l3]) hs3 0 rfl
 refine xIp hp5 Tryz.underlying40 Zc3 (h:=?_)
 refine xW Zef (h:=?_)
 refine Zo (ZhK (k:=g.1) (us:=[_]) ((⟨((g.2.1:Nat):Int),ZT (g.2.1+1),x.text,x.left⟩:DItem)) 1 0 rfl hv3 hp5 hs3 rfl rfl sz9 rfl rfl rfl rfl (Nat.le_of_ble_eq_true rfl) (by rintro _ _ ⟨_,_,rfl,h1,h2,h3,h4⟩;exact ⟨_,_,rfl,h1,show (ZT (g.2.1+1)).length≤2000000 from Nat.le_trans (ZbE (k:=g.2.1+1) oz) (by decide),h3,h4⟩) (fun l6 hv6=>?_))
 rw [List.set_set] at hv6
 have hs6:=ZdC (z:=((⟨((g.2.1:Nat):Int),ZT (g.2.1+1),x.text,x.left⟩:DItem))) hy
 refine ZH [_] rfl ?_
 refine Za ?_
 refine xM (h:=?_)
 refine xD (h:=?_)
 refine xA (h:=?_)
 refine Za ?_
 refine xM (h:=?_)
 refine xM (h:=?_)
 refine xM (h:=?_)
 refine xR Zmm rfl (Zaz (((g.2.1)+1)+1) oz _) (h:=?_)
 obtain ⟨bb8,_,li8,lr8,hp8,⟨qg8,cg8,rfl,hg8,ho8,hn8,hx8⟩,hw8,hq8,hc8,hk8⟩:=hv6.cell (B:=B1) (L:=[l6]) hs6 0 rfl
 refine xIp hp8 Tryz.underlying40 Zc3 (h:=?_)
 refine xW Zf0 (h:=?_)
 refine Zo (ZhK (k:=g.1) (us:=[_]) ((⟨((g.2.1:Nat):Int),ZT (g.2.1+1),ZT (g.2.1+1+1),x.left⟩:DItem)) 2 0 rfl hv6 hp8 hs6 rfl rfl sz9 rfl rfl rfl rfl (Nat.le_of_ble_eq_true rfl) (by rintro _ _ ⟨_,_,rfl,h1,h2,h3,h4⟩;exact ⟨_,_,rfl,h1,h2,show (ZT (g.2.1+1+1)).length≤2000000 from Nat.le_trans (ZbE (k:=g.2.1+1+1) oz) (by decide),h4⟩) (fun l9 hv9=>?_))
 rw [List.set_set] at hv9
 have hs9:=ZdC (z:=((⟨((g.2.1:Nat):Int),ZT (g.2.1+1),ZT (g.2.1+1+1),x.left⟩:DItem))) hy
 refine ZH [_] rfl ?_
 obtain ⟨bb10,_,li10,lr10,hp10,⟨qg10,cg10,rfl,hg10,ho10,hn10,hx10⟩,hw10,hq10,hc10,hk10⟩:=hv9.cell (B:=B1) (L:=[_]) hs9 0 rfl
 replace hc10:=fun m u h=>(hc10 m u h).perm (ZfM 0 rfl (Zsf hq10))
 refine Zj1 0 rfl (Zsf hq10) ?_
 refine Za ?_
 refine xM (h:=?_)
 refine xD (h:=?_)
 refine xA (h:=?_)
 refine ZH [_,_] rfl ?_
 refine Zk ?_
 refine xM (h:=?_)
 refine xM (h:=?_)
 refine xIp hp10 Tryz.underlying40 Zc3 (h:=?_)
 refine xW Zee (h:=?_)
 refine Zo (Zs rfl rfl Zgn rfl (hc10 3 _ rfl) ?_)
 refine xM (h:=?_)
 refine Zo (Zat [1] rfl rfl rfl rfl Zt7 rfl (Zin _ _ (((⟨((g.2.1:Nat):Int),ZT (g.2.1+1),ZT (g.2.1+1+1),x.left⟩:DItem)).left) _ ((((g.2.1)+1)+1)+1) oz oz _ (hg10.anyK Zek.any)) ?_)
 rintro _ B11 _ hle11 ⟨rfl,l11,rfl,rfl,hs11⟩
 refine xA (h:=?_)
 refine ZP (Zd ?_)
 refine ZgD 0 1 rfl rfl (by decide) ?_
 have hv12:=hk10 (⟨((g.2.1:Nat):Int),ZT (g.2.1+1),ZT (g.2.1+1+1),ZdT (g.2.1+1+1+1) x.left.length⟩:DItem) _ ⟨qg10,cg10,by simp only [ZaU],hs11.anyK Zek.any,ho10,hn10,by first | assumption | (rw [ZaU];assumption)⟩
 rw [List.set_set] at hv12
 have hs12:=ZdC (z:=((⟨((g.2.1:Nat):Int),ZT (g.2.1+1),ZT (g.2.1+1+1),ZdT (g.2.1+1+1+1) x.left.length⟩:DItem))) hy
 refine ZoF [0] rfl ?_
 refine Zk ?_
 refine xM (h:=?_)
 refine xD (h:=?_)
 refine xA (h:=?_)
 exact ZD (g.1+1,g.2.1+1+1+1+1*x.left.length,_,(g.2.2.2.set g.1 ((⟨((g.2.1:Nat):Int),ZT (g.2.1+1),ZT (g.2.1+1+1),ZdT (g.2.1+1+1+1) x.left.length⟩:DItem)))) [0] so2 ⟨rfl,so,by simp only [];rw [Ziu hx,← hs,hst];omega,Zk7 hle,Zjl ht hx hle hs,ZlA hd,hv12⟩ t4 rfl
 try simp only [sQ,ne_eq] at g1
 have he:=Znw ht hle oz
 refine ZI (ZY (ZM (Zv (Zd ?_))))
 refine Za ?_
 refine xM (h:=?_)
 refine xA (h:=?_)
 refine Zi ?_
 exact Zbx .ret (.inl rfl) [_] [0] rfl t1 ⟨rfl,_,rfl,by rw [hs,ZnH oz];rfl,by rw [← he];exact hw⟩

set_option maxHeartbeats 400000 in
theorem Znx (q1:Option Addr) (c1:Nat) (x:DBox) (l1:Cells) (k:Nat) (hk:k≤850000000000000) (hn:x.mail.length≤2000000) (B:Kn) (hv:Z3 Kn.none l1 q1 c1 126 3 ZK x.mail):ZJ (pj J) 43 [.agg #[.int .i64 x.next,.slice q1 x.mail.length c1],.int .i64 k] B [l1] (fun v B' Ls=>B'=B∧∃l',Ls=[l']∧v = .int .i64 ((k+3*x.mail.length:Nat):Int)∧Z3 Kn.none l' q1 c1 126 3 ZK (ZaP k x.mail.length)):=by
 refine Zb 10 Tryz.func43 rfl rfl rfl (Nat.le_of_ble_eq_true rfl) ?_
 refine Za (xBx [_,_] (h:=fun b1=>xA (h:=ZH [_,_] rfl (Za (xW Zbu (h:=x1 ZiO 1 (h:=xM (h:=Zo (Zat [0] rfl rfl rfl rfl ZuG rfl (Zg4 _ _ x.mail _ k oz oz _ (hv.anyK ZK.any)) ?_)))))))))
 rintro _ B2 _ hle2 ⟨rfl,l2,rfl,rfl,hs2⟩
 refine xA (h:=ZH [_,_] rfl (Za (xM (h:=xA (h:=Zi ?_)))))
 exact Zbx .ret (.inl rfl) [_] [0] rfl t1 ⟨rfl,_,rfl,rfl,hs2.anyK ZK.any⟩

set_option maxHeartbeats 400000 in
theorem Zjo (q1 q2:Option Addr) (c1 c2:Nat) (x:DFolder) (l1 l2:Cells) (k:Nat) (hk:k≤800000000000000) (hg:x.grants.length≤2000000) (hn:x.mail.length≤2000000) (B:Kn) (h1:Z3 Kn.none l1 q1 c1 117 2 Zu x.grants) (h2:Z3 Kn.none l2 q2 c2 126 3 ZK x.mail):ZJ (pj J) 13 [.agg #[str x.owner,str x.name,.slice q1 x.grants.length c1,.int .i64 x.next,.slice q2 x.mail.length c2],.int .i64 k] B [l1,l2] (fun v B' Ls=>B'=B∧∃l1' l2',Ls=[l1',l2']∧v = .int .i64 ((k+2*x.grants.length+3*x.mail.length:Nat):Int)∧Z3 Kn.none l1' q1 c1 117 2 Zu (Zal k x.grants.length)∧Z3 Kn.none l2' q2 c2 126 3 ZK (ZaP (k+2*x.grants.length) x.mail.length)):=by
 refine Zb 14 Tryz.func13 rfl rfl rfl (Nat.le_of_ble_eq_true rfl) ?_
 refine Za (xBx [_,_,_,_,_] (h:=fun b1=>xA (h:=ZH [_,_,_] rfl (Za (xW Zce (h:=x1 Zmx 2 (h:=xM (h:=Zo (Zat [0] rfl rfl rfl rfl ZuI rfl (Zgf _ _ x.grants _ k oz oz _ (h1.anyK Zu.any)) ?_)))))))))
 rintro _ B2 _ hle2 ⟨rfl,l2,rfl,rfl,hs2⟩
 refine xA (h:=ZH [_,_,_] rfl (Za (xW ZbJ (h:=xL [_,_] ZiN 2 (h:=xM (h:=Zo (Zat [1] rfl rfl rfl rfl ZvI rfl (Znx _ _ (⟨x.next,x.mail⟩:DBox) _ (k+2*x.grants.length) oz oz _ (h2.anyK ZK.any)) ?_)))))))
 rintro _ B3 _ hle3 ⟨rfl,l3a,rfl,rfl,hs3a⟩
 refine xA (h:=ZH [_,_,_] rfl (Za (xM (h:=xA (h:=Zi ?_)))))
 exact Zbx .ret (.inl rfl) [_] [0,1] rfl t1 ⟨rfl,_,_,rfl,rfl,hs2.anyK Zu.any,hs3a.anyK ZK.any⟩

set_option maxHeartbeats 400000 in
theorem Zkv (q1:Option Addr) (c1:Nat) (x:DQueue) (l1:Cells) (k:Nat) (hk:kL ZeT k x.items≤800000000000000) (hn:x.items.length≤2000000) (B:Kn) (hv:Zby l1 q1 c1 105 4 (Zbf 9) x.items):ZJ (pj J) 41 [.agg #[.int .i64 x.next,.slice q1 x.items.length c1],.int .i64 k] B [l1] (fun v B' Ls=>B'=B∧∃l',Ls=[l']∧v = .int .i64 ((kL ZeT k x.items:Nat):Int)∧Zby l' q1 c1 105 4 (Zbf 9) (mkL ZeT mkI k x.items)):=by
 refine Zb 10 Tryz.func41 rfl rfl rfl (Nat.le_of_ble_eq_true rfl) ?_
 refine Za (xBx [_,_] (h:=fun b1=>xA (h:=ZH [_,_] rfl (Za (xW Zdl (h:=x1 Zmw 1 (h:=xM (h:=Zo (Zat [0] rfl rfl rfl rfl Zvg rfl (Zkw _ _ x.items _ k oa oz _ hv) ?_)))))))))
 rintro _ B2 _ hle2 ⟨rfl,l2,rfl,rfl,hs2⟩
 refine xA (h:=ZH [_,_] rfl (Za (xM (h:=xA (h:=Zi ?_)))))
 exact Zbx .ret (.inl rfl) [_] [0] rfl t1 ⟨rfl,_,rfl,rfl,hs2⟩

set_option maxHeartbeats 400000 in
theorem ZfU (q1 q2 q3:Option Addr) (c1 c2 c3:Nat) (x:DHost) (l1 l2 l3:Cells) (k:Nat) (hk:kH k x≤800000000000000) (hn1:x.users.length≤2000000) (hn2:x.folders.length≤2000000) (hn3:x.queue.items.length≤2000000) (B:Kn) (hu:Z3 Kn.none l1 q1 c1 101 3 Zq x.users) (hf:Zby l2 q2 c2 35 5 (ZV 117 126) x.folders) (hi:Zby l3 q3 c3 105 4 (Zbf 9) x.queue.items):ZJ (pj J) 12 [.agg #[str x.domain,.slice q1 x.users.length c1,.slice q2 x.folders.length c2,.int .i64 x.queue.next,.slice q3 x.queue.items.length c3],.int .i64 k] B [l1,l2,l3] (fun v B' Ls=>B'=B∧∃l1' l2' l3',Ls=[l1',l2',l3']∧v = .int .i64 ((kH k x:Nat):Int)∧Z3 Kn.none l1' q1 c1 101 3 Zq (ZdG k x.users.length)∧Zby l2' q2 c2 35 5 (ZV 117 126) (mkL Zbw mkF (k+3*x.users.length) x.folders)∧Zby l3' q3 c3 105 4 (Zbf 9) (mkL ZeT mkI (kL Zbw (k+3*x.users.length) x.folders) x.queue.items)):=by
 refine Zb 18 Tryz.func12 rfl rfl rfl (Nat.le_of_ble_eq_true rfl) ?_
 have hk3:kL ZeT (kL Zbw (k+3*x.users.length) x.folders) x.queue.items≤800000000000000:=hk
 have hk2:(kL Zbw (k+3*x.users.length) x.folders)≤800000000000000:=Nat.le_trans Zso hk3
 have hk1:(k+3*x.users.length)≤800000000000000:=Nat.le_trans Zso hk2
 refine Za (xBx [_,_,_,_,_] (h:=fun b1=>xA (h:=ZH [_,_,_,_] rfl (Za (xW ZbI (h:=x1 ZiM 3 (h:=xM (h:=Zo (Zat [0] rfl rfl rfl rfl ZvK rfl (Zku _ _ x.users _ k oz oz _ (hu.anyK Zq.any)) ?_)))))))))
 rintro _ B2 _ hle2 ⟨rfl,l2,rfl,rfl,hs2⟩
 refine xA (h:=ZH [_,_,_,_] rfl (Za (xW Zar (h:=x1 Zd7 3 (h:=xM (h:=Zo (Zat [1] rfl rfl rfl rfl Ztx rfl (ZdH _ _ x.folders _ (k+3*x.users.length) oa oz _ hf) ?_)))))))
 rintro _ B3 _ hle3 ⟨rfl,l3,rfl,rfl,hs3⟩
 refine xA (h:=ZH [_,_,_,_] rfl (Za (xW Zfz (h:=xL [_,_] ZqW 3 (h:=xM (h:=Zo (Zat [2] rfl rfl rfl rfl ZvJ rfl (Zkv _ _ (⟨x.queue.next,x.queue.items⟩:DQueue) _ (kL Zbw (k+3*x.users.length) x.folders) oa oz _ hi) ?_)))))))
 rintro _ B4 _ hle4 ⟨rfl,l4a,rfl,rfl,hs4a⟩
 refine xA (h:=ZH [_,_,_,_] rfl (Za (xM (h:=xA (h:=Zi ?_)))))
 exact Zbx .ret (.inl rfl) [_] [0,1,2] rfl t1 ⟨rfl,_,_,_,rfl,rfl,hs2.anyK Zq.any,hs3,hs4a⟩

set_option maxHeartbeats 400000 in
theorem Zck (q:Option Addr) (cp:Nat) (xs:List DFolder) (k m:Nat) (hmn:m=xs.length) (hk:kL Zbw k xs≤800000000000000) (B:Kn) (hx0:SlK B q cp 5 Ze (mkL Zbw mkF k xs)):Zaa (pj J) 21 [.slice q m cp,.int .i64 k] B (.int .i64 ((kL Zbw k xs:Nat):Int)):=by
 refine Zb 62 Tryz.func21 rfl rfl rfl (Nat.le_of_ble_eq_true rfl) ?_
 have hxn:=hx0.len
 have hml:=Zc4 (st:=Zbw) (mk:=mkF) (xs:=xs) k
 refine Za (xA (h:=Zg (Za (xA (h:=Zl (ZC (α:=Nat × Nat) [0] (fun g=>[(1,.int .i64 g.2),(5,.int .i64 g.1)]) [] (fun g=>[]) (fun g Bx=>Bx=B∧g.1≤xs.length∧g.2=kL Zbw k (xs.take g.1)) (fun g=>xs.length - g.1) (0,k) t2 rfl (⟨rfl,Nat.zero_le _,ZnG.symm⟩) (fun g B1 hle1 hI=>?_)))))))
 obtain ⟨rfl,hi,hs⟩:=hI
 refine ZL [(0,_),(1,_),(5,_)] [] t3 rfl (Zg (Za (xM (h:=xM (h:=xV Tryz.underlying39 (h:=ZF (h:=Zc rfl (fun g1=>?_) (fun g1=>?_))))))))
 try simp only [sQ,ne_eq] at g1
 obtain ⟨x,hx⟩:=ZW (xs:=xs) (i:=g.1) oz
 have hkl:=Nat.le_trans (Zq5 (st:=Zbw) (k:=k) hx) hk
 rw [← hs] at hkl
 have hst:Zbw x=3+2*x.grants.length+3*x.mail.length:=rfl
 have hz:(mkL Zbw mkF k xs)[g.1]? = some (mkF g.2 x):=by rw [hs];exact Znv k hx
 refine Zf (Zd (Zg (Zl (Zg (Zg (Zan (same _ _) mo kr ⟨rfl,rfl⟩ (fun _ _=>?_)))))))
 refine aM 0 rfl (h:=aM 1 rfl (h:=?_))
 obtain ⟨bb2,oo2,rfl⟩:=hx0.base hz
 obtain ⟨_,⟨qg3,cg3,qm3,cm3,rfl,hg3,hm3,hb3,hb3b⟩,hc3⟩:=hx0.elem hz
 have hg3n:=hg3.len
 have hm3n:=hm3.len
 have hm3s:=Z5 hm3
 refine aIx 2 rfl Tryz.underlying39 ZaQ (h:=aW 3 rfl Za0 (h:=aT 4 rfl (Zaq fun D=>Zs rfl rfl lk9 rfl (hc3 _ 0 _ rfl) r4) (h:=aM 5 rfl (h:=aT 6 rfl (Zaq fun D=>Zam rfl rfl Zmm rfl (Zaz g.2 oz _) r4) (h:=?_)))))
 refine ZjY 7 rfl (h:=Zz kr kr ?_)
 refine Zd (Zc rfl (fun h1=>by simp [mkF] at h1) (fun h1=>?_))
 try simp only [sQ,ne_eq] at h1
 refine Zf (Zd (Za (xM (h:=xD (h:=xA (h:=Zg (Zg (Zan (same _ _) mo kr ⟨rfl,rfl⟩ (fun _ _=>?_)))))))))
 refine aM 0 rfl (h:=aM 1 rfl (h:=aIx 2 rfl Tryz.underlying39 ZaQ (h:=aW 3 rfl ZbP (h:=aT 4 rfl (Zaq fun D=>Zs rfl rfl lk9 rfl (hc3 _ 1 _ rfl) r4) (h:=aM 5 rfl (h:=aT 6 rfl (Zaq fun D=>Zam rfl rfl Zmm rfl (Zaz (g.2+1) oz _) r4) (h:=?_)))))))
 refine ZjY 7 rfl (h:=Zz kr kr ?_)
 refine Zd (Zc rfl (fun h2=>by simp [mkF] at h2) (fun h2=>?_))
 try simp only [sQ,ne_eq] at h2
 refine Zf (Zd (Za (xM (h:=xD (h:=xA (h:=Za (xM (h:=xM (h:=xIx Tryz.underlying39 ZaQ (h:=xW Zce (h:=y1 Zmx hc3 2 (h:=xM (h:=?_)))))))))))))
 refine xR ZuH rfl (Zgh _ _ _ ((g.2+1)+1) _ x.grants.length (by first | rfl | exact Z7 _ _) rfl oz _ hg3) (h:=?_)
 refine xA (h:=Zg (Za (xM (h:=ZF (h:=Zc rfl (fun h3=>by first | omega | (simp at h3;done) | (simp at h3;omega)) (fun h3=>?_))))))
 try simp only [sQ,ne_eq] at h3
 refine Zf (Zd (Zg (Za (xM (h:=xM (h:=xIx Tryz.underlying39 ZaQ (h:=xW ZbJ (h:=xW ZfA (h:=y1 lk3 hc3 3 (h:=xM (h:=ZaL (h:=Zc rfl (fun h4=>by simp [mkF] at h4) (fun h4=>?_)))))))))))))
 try simp only [sQ,ne_eq] at h4
 refine Zf (Zd (Za (xM (h:=xD (h:=xA (h:=Za (xM (h:=xM (h:=xIx Tryz.underlying39 ZaQ (h:=xW ZbJ (h:=xW Zbu (h:=y1 ZiO hc3 4 (h:=?_)))))))))))))
 refine xM (h:=xR ZuF rfl (Zhd _ _ _ ((((g.2+1)+1)+2*x.grants.length)+1) _ x.mail.length (by first | rfl | exact Zad _ _) rfl oz _ hm3) (h:=?_))
 refine xA (h:=Za (xM (h:=ZF (h:=Zc rfl (fun h5=>by first | omega | (simp at h5;done) | (simp at h5;omega)) (fun h5=>?_)))))
 try simp only [sQ,ne_eq] at h5
 refine Zf (ZP (Zd (Zk (xM (h:=xD (h:=xA (h:=?_)))))))
 exact ZD (g.1+1,g.2+1+1+2*x.grants.length+1+3*x.mail.length) [] so2 ⟨rfl,so,by simp only [];rw [Ziu hx,← hs,hst];omega⟩ t3 rfl
 try simp only [sQ,ne_eq] at g1
 refine ZI (ZY (ZM (Zv (Zd (Za (xM (h:=xA (h:=Zi ?_))))))))
 exact ZB .ret (.inl rfl) [_] t1 ⟨ZN (by rw [hs,ZnH oz]),rfl,rfl⟩

set_option maxHeartbeats 400000 in
theorem ZnN (q:Option Addr) (cp:Nat) (nx:Int) (k n:Nat) (hk:k+3*n≤800000000000000) (B:Kn) (hm:SlK B q cp 3 ZK (ZaP k n)):Zaa (pj J) 45 [.agg #[.int .i64 nx,.slice q n cp],.int .i64 k] B (.int .i64 ((k+3*n:Nat):Int)):=by
 refine Zb 12 Tryz.func45 rfl rfl rfl (Nat.le_of_ble_eq_true rfl) ?_
 refine Za (xBx [_,_] (h:=fun b1=>xA (h:=ZH [_] rfl (Za (xW Zbu (h:=x1 ZiO 0 (h:=xM (h:=xR ZuF rfl (Zhd _ _ _ k _ n (by first | rfl | exact Zad _ _) rfl oz _ hm) (h:=?_)))))))))
 refine xA (h:=Zg (Za (xM (h:=ZF (h:=Zc rfl (fun h1=>by first | omega | (simp at h1;done) | (simp at h1;omega)) (fun h1=>?_))))))
 try simp only [sQ,ne_eq] at h1
 refine Zf (Zd (Za (xM (h:=xA (h:=Zi ?_)))))
 exact ZB .ret (.inl rfl) [_] t1 ⟨rfl,rfl,rfl⟩

set_option maxHeartbeats 400000 in
theorem Zgi (q q':Option Addr) (cp cp':Nat) (x:DFolder) (k:Nat) (hk:k+2*x.grants.length+3*x.mail.length≤800000000000000) (B:Kn) (hg:SlK B q cp 2 Zu (Zal k x.grants.length)) (hm:SlK B q' cp' 3 ZK (ZaP (k+2*x.grants.length) x.mail.length)):Zaa (pj J) 14 [.agg #[str x.owner,str x.name,.slice q x.grants.length cp,.int .i64 x.next,.slice q' x.mail.length cp'],.int .i64 k] B (.int .i64 ((k+2*x.grants.length+3*x.mail.length:Nat):Int)):=by
 refine Zb 18 Tryz.func14 rfl rfl rfl (Nat.le_of_ble_eq_true rfl) ?_
 refine Za (xBx [_,_,_,_,_] (h:=fun b1=>xA (h:=ZH [_] rfl (Za (xW Zce (h:=x1 Zmx 0 (h:=xM (h:=xR ZuH rfl (Zgh _ _ _ k _ x.grants.length (by first | rfl | exact Z7 _ _) rfl oz _ hg) (h:=?_)))))))))
 refine xA (h:=Zg (Za (xM (h:=ZF (h:=Zc rfl (fun h1=>by first | omega | (simp at h1;done) | (simp at h1;omega)) (fun h1=>?_))))))
 try simp only [sQ,ne_eq] at h1
 refine Zf (Zd (Za (xW ZbJ (h:=xL [_,_] ZiN 0 (h:=xM (h:=xR ZvH rfl (ZnN _ _ _ (k+2*x.grants.length) x.mail.length oz _ hm) (h:=?_)))))))
 refine xA (h:=Zg (Za (xM (h:=ZF (h:=Zc rfl (fun h2=>by first | omega | (simp at h2;done) | (simp at h2;omega)) (fun h2=>?_))))))
 try simp only [sQ,ne_eq] at h2
 refine Zf (Zd (Za (xM (h:=xA (h:=Zi ?_)))))
 exact ZB .ret (.inl rfl) [_] t1 ⟨rfl,rfl,rfl⟩

set_option maxHeartbeats 400000 in
theorem ZiA (hJ:Joins Tryz.prog J) (q1 q2 q3:Option Addr) (c1 c2 c3:Nat) (x:DHost) (o n:Str) (ho:o.length≤2000000) (hn:n.length≤2000000) (hd:x.domain.length≤2000000) (B:Kn) (hu:SlK B q1 c1 3 Zq x.users) (hf:SlK B q2 c2 5 Ze x.folders) (hi:SlK B q3 c3 4 ZG x.queue.items):ZJ (pj J) 9 [.agg #[str x.domain,.slice q1 x.users.length c1,.slice q2 x.folders.length c2,.int .i64 x.queue.next,.slice q3 x.queue.items.length c3],str o,str n] B [] (fun v B' Ls=>∃l l' qa ca qb cb,Ls=[l,l']∧v = .tuple #[.agg #[str (ZA x o n).1.owner,str (ZA x o n).1.name,.slice qa (ZA x o n).1.grants.length ca,.int .i64 (ZA x o n).1.next,.slice qb (ZA x o n).1.mail.length cb],.bool (ZA x o n).2]∧Z3 Kn.none l qa ca 117 2 Zu (ZA x o n).1.grants∧Z3 Kn.none l' qb cb 126 3 ZK (ZA x o n).1.mail∧(ZA x o n).1.grants.length≤2000000∧(ZA x o n).1.mail.length≤2000000):=by
 refine Zb 25 Tryz.func9 rfl rfl rfl (Nat.le_of_ble_eq_true rfl) ?_
 have hfn:=hf.len
 have hix:=ZkD (inF o n) x.folders
 refine Za (xBx [_,_,_,_,_] (h:=fun b1=>xAl [_,_,_,_,_] Zca (h:=fun b2=>xA (h:=ZH [_,_] rfl (Zj2 0 rfl (fun B3 hle3 hpm3=>?_))))))
 have hc3:=Za2 hpm3
 replace hu:=hu.mono Zq.mono hle3
 replace hf:=hf.mono Ze.mono hle3
 replace hi:=hi.mono ZG.mono hle3
 refine Zg (Za (yL [_,_,_,_,_] Ze7 hc3 0 (h:=Zo (ZbS rfl rfl ZrH rfl (ZbY hJ _ _ _ _ _ _ x om2 _ hu hf hi) ?_))))
 intro v4 B4 hle4
 rintro rfl
 replace hu:=hu.mono Zq.mono hle4
 replace hf:=hf.mono Ze.mono hle4
 replace hi:=hi.mono ZG.mono hle4
 replace hc3:=hc3.mono hle4
 refine xN (h:=ZH [_,_] rfl (Zc rfl (fun g1=>?_) (fun g1=>?_)))
 try simp only [sQ,ne_eq] at g1
 rw [Zc5 (x:=x) (o:=o) (n:=n) (by simpa using g1)]
 refine ZrY [[],[]] rfl (Za (xB [] [_,_,_,_,_] [_,_,_,_,_] Zlk Zca (h:=xS [_,_,_,_,_] 1 [_,_,_,_,_] ZaQ (h:=xA (h:=ZH [_,_,_,_] rfl (Zi (Zn ?_)))))))
 exact Zbx .ret (.inl rfl) [_,_] [2,3] rfl ⟨⟨_,rfl,.inr ⟨[_,_,_,_,_],Zcd,ZcQ 1 rfl rfl rfl,rfl⟩⟩,rfl,trivial⟩ ⟨_,_,none,0,none,0,rfl,rfl,Z3.nil,Z3.nil,by simp [ZcY],by simp [ZcY]⟩
 try simp only [sQ,ne_eq] at g1
 refine Zf (Zd (Za (xM (h:=xM (h:=xR Ztu rfl (Zn2 _ _ _ _ _ _ _ _ x o n om2 om2 _ hc3 hf) (h:=?_))))))
 refine xA (h:=Zg (Za (xM (h:=ZF (h:=Zc rfl (fun g2=>?_) (fun g2=>?_))))))
 try simp only [sQ,ne_eq] at g2
 rw [ZcG (x:=x) (o:=o) (n:=n) oz]
 refine ZrY [[],[]] rfl (Za (xB [] [_,_,_,_,_] [_,_,_,_,_] Zlk Zca (h:=xS [_,_,_,_,_] 1 [_,_,_,_,_] ZaQ (h:=xA (h:=ZH [_,_,_,_] rfl (Zi (Zn ?_)))))))
 exact Zbx .ret (.inl rfl) [_,_] [2,3] rfl ⟨⟨_,rfl,.inr ⟨[_,_,_,_,_],Zcd,ZcQ 1 rfl rfl rfl,rfl⟩⟩,rfl,trivial⟩ ⟨_,_,none,0,none,0,rfl,rfl,Z3.nil,Z3.nil,by simp [ZcY],by simp [ZcY]⟩
 try simp only [sQ,ne_eq] at g2
 refine Zf (Zd (Za (xW Zar (h:=y1 Zd7 hc3 2 (h:=xM (h:=?_))))))
 obtain ⟨w,hw⟩:=ZrE (xs:=x.folders) (i:=(ZeG (inF o n) x.folders)) om om
 obtain ⟨bb7,oo7,rfl⟩:=hf.base hw
 obtain ⟨_,⟨qg8,cg8,qm8,cm8,rfl,hg8,hm8,hb8,hb8b⟩,hc8⟩:=hf.elem hw
 have hg8n:=hg8.len
 have hm8n:=hm8.len
 have hm8s:=Z5 hm8
 refine xIx Tryz.underlying39 ZaQ (h:=yL [_,_,_,_,_] Zcd hc8 0 (h:=Zo (Zao rfl rfl ZuJ rfl (Zfy _ _ _ _ w _ hg8 hm8) ?_)))
 rintro _ B9 _ hle9 ⟨rfl,l9,a9,c9,l9b,a9b,c9b,rfl,rfl,hs9,hs9b⟩
 refine xS [_,_,_,_,_] 1 [_,_,_,_,_] ZaQ (h:=xA (h:=ZH [_,_,_,_] rfl (Zi ?_)))
 exact Zbx .ret (.inl rfl) [_,_] [2,3] rfl ⟨⟨_,rfl,.inr ⟨[_,_,_,_,_],Zcd,ZcQ 1 rfl rfl rfl,rfl⟩⟩,rfl,trivial⟩ (by rw [ZcF (x:=x) (o:=o) (n:=n) (by simpa using g1) oz hw];exact ⟨_,_,_,_,_,_,rfl,rfl,hs9.anyK Zu.any,hs9b.anyK ZK.any,oz,oz⟩)

set_option maxRecDepth 4000 in
set_option maxHeartbeats 400000 in
theorem Zpf (hJ : Joins Tryz.prog J) (q1 q2 q3 : Option Addr) (c1 c2 c3 : Nat) (x : DHost) (u y z : Str) (hn : u.length ≤ 2000000) (hd : x.domain.length ≤ 2000000) (B : Kn) (hu : SlK B q1 c1 3 Zq x.users) (hf : SlK B q2 c2 5 Ze x.folders) (hi : SlK B q3 c3 4 ZG x.queue.items) : ZJ (pj J) 18 [.agg #[str x.domain, .slice q1 x.users.length c1, .slice q2 x.folders.length c2, .int .i64 x.queue.next, .slice q3 x.queue.items.length c3], .agg #[str u, str y, str z]] B [] (fun v B' Ls => ∃ l p cp, Ls = [l] ∧ v = .slice p (ZdY x u).length cp ∧ Zby l p cp 35 5 (ZV 117 126) (ZdY x u) ∧ (ZdY x u).length ≤ 2000000) := by
  refine Zb 34 Tryz.func18 rfl rfl rfl (Nat.le_of_ble_eq_true rfl) ?_
  have hfn := hf.len
  refine Za (xBx [_, _, _, _, _] (h:=fun b1 => xBx [_, _, _] (h:=fun b2 => xA (h:=ZH [_, _] rfl (Zj2 0 rfl (fun B3 hle3 hpm3 => ?_))))))
  have hc3 := Za2 hpm3
  replace hu := hu.mono Zq.mono hle3
  replace hf := hf.mono Ze.mono hle3
  replace hi := hi.mono ZG.mono hle3
  refine Za (xBs [] [] Tryz.underlying39 ZaQ Zca (h:=fun b4 => xA (h:=ZH [_, _, _] rfl (Zg (Za (yL [_, _, _, _, _] Ze7 hc3 0 (h:=Zo (ZbS rfl rfl ZrH rfl (ZbY hJ _ _ _ _ _ _ x (by first | assumption | omega | (simp; done) | (simp; omega)) _ hu hf hi) ?_))))))))
  intro v5 B5 hle5
  rintro rfl
  replace hu := hu.mono Zq.mono hle5
  replace hf := hf.mono Ze.mono hle5
  replace hi := hi.mono ZG.mono hle5
  replace hc3 := hc3.mono hle5
  refine xN (h:=Zc rfl (fun g1 => ?_) (fun g1 => ?_))
  try simp only [sQ, ne_eq] at g1
  rw [Zlr (by simpa using g1)]
  refine Za (xM (h:=xA (h:=Zi (Zn ?_))))
  exact Zbx .ret (.inl rfl) [_] [2] rfl ⟨rfl, trivial⟩ ⟨_, _, _, rfl, rfl, Zby.lit0, by simp⟩
  try simp only [sQ, ne_eq] at g1
  refine Zf (Zd (Zg (Za (xW Zar (h:=y1 Zd7 hc3 2 (h:=xV Tryz.underlying39 (h:=xM (h:=Zl (ZC (α := Gh DFolder) [0, 1, 2, 3, 4, 11, 14, 15] (fun g => [(5, .slice g.a g.xs.length g.c), (16, .int .i64 g.k)]) [2] (fun g => [g.l]) (fun g Bx => Bx = B5 ∧ g.k ≤ x.folders.length ∧ g.xs = ZcR (Z9 x) (Zsb x u) ZjT x.folders g.k ∧ g.xs.length ≤ g.k ∧ Zby g.l g.a g.c 35 5 (ZV 117 126) g.xs) (fun g => x.folders.length - g.k) ⟨0, 0, _, _, _, []⟩ ⟨rfl, rfl, trivial⟩ rfl (⟨rfl, Nat.zero_le _, Zco, Nat.le_refl _, Zby.lit0⟩) (fun g B6 hle6 hI => ?_))))))))))
  obtain ⟨rfl, hk, hxs, hxl, hv⟩ := hI
  refine ZL [(0, _), (1, _), (2, _), (3, _), (4, _), (5, _), (11, _), (14, _), (15, _), (16, _)] [_, _, _] ⟨rfl, rfl, rfl, rfl, rfl, rfl, rfl, rfl, rfl, rfl, trivial⟩ rfl (Za (ZF (h:=Zg (Zc rfl (fun g2 => ?_) (fun g2 => ?_)))))
  try simp only [sQ, ne_eq] at g2
  refine Zf (Zd (Zg (Zl (Za ?_))))
  obtain ⟨w, hw⟩ := ZW (xs := x.folders) (i := g.k) (by first | omega | (simp; done) | (simp; omega))
  obtain ⟨bb8, oo8, rfl⟩ := hf.base hw
  obtain ⟨_, ⟨qg9, cg9, qm9, cm9, rfl, hg9, hm9, hb9, hb9b⟩, hc9⟩ := hf.elem hw
  have hg9n := hg9.len
  have hm9n := hm9.len
  have hm9s := Z5 hm9
  refine xIx Tryz.underlying39 ZaQ (h:=yL [_, _, _, _, _] Zcd hc9 0 (h:=xAl [_, _, _, _, _] Zca (h:=fun b10 => xS [_, _, _, _, _] 3 [_, _, _, _, _] ZaQ (h:=ZH [_, _, _, _] rfl (Za (xW ZjD (h:=x1 lk9 1 (h:=xL [_, _, _, _, _] Zcd 3 (h:=xR ZrF rfl (Zl4 _ _ _ _ _ _ _ _ x _ _ _ _ u w _ (by first | assumption | omega | (simp; done) | (simp; omega)) (by first | assumption | omega | (simp; done) | (simp; omega)) _ hc3 hu hg9) (h:=?_))))))))))
  refine Zc rfl (fun g3 => ?_) (fun g3 => ?_)
  try simp only [sQ, ne_eq] at g3
  refine Zk (xM (h:=xW Za0 (h:=x1 lk9 3 (h:=xW ZbP (h:=x1 lk9 3 (h:=xB [(0, _), (1, _)] [_, _, _, _, _] [_, _, _, _, _] Zlk Zca (h:=xBs [(0, _)] [_, _, _, _, _] Tryz.underlying39 ZaQ Zca (h:=fun b12 => Zo (Zj5 (R := (ZV 117 126)) (⟨w.owner, w.name, [], 0, []⟩) 2 [] rfl rfl hv rfl rfl rfl ZoA ZoT rfl rfl (ZbL.box 4 rfl) rfl rfl ([]) (by simp) (⟨_, _, _, _, _, _, rfl, rfl, Z3.nil, Z3.nil, by first | assumption | omega | (simp; done) | (simp; omega), by first | assumption | omega | (simp; done) | (simp; omega), by first | assumption | omega | (simp; done) | (simp; omega), by first | assumption | omega | (simp; done) | (simp; omega)⟩) (by first | omega | (simp; done) | (simp; omega)) (fun l13 p13 c13 hd13 => ?_))))))))))
  refine xA (h:=ZP (Zd (Zk (xD (h:=xM (h:=?_))))))
  exact ZD ⟨g.k + 1, 0, l13, p13, c13, (g.xs ++ [⟨w.owner, w.name, [], 0, []⟩])⟩ [0, 1, 2] (by first | omega | (simp only []; omega)) ⟨rfl, by simp only []; omega, by simp only []; exact ZbD hxs (by simpa using g1) hw g3, by simp; omega, hd13⟩ ⟨rfl, rfl, rfl, rfl, rfl, rfl, rfl, rfl, rfl, rfl, trivial⟩ rfl
  try simp only [sQ, ne_eq] at g3
  refine Zf (ZP (Zd (Zk (xD (h:=xM (h:=?_))))))
  exact ZD ⟨g.k + 1, 0, g.l, g.a, g.c, g.xs⟩ [0, 1, 2] (by first | omega | (simp only []; omega)) ⟨rfl, by simp only []; omega, by simp only []; exact Zbp hxs (by simpa using g1) hw (by simpa [Zsb] using g3), by simp only []; omega, hv⟩ ⟨rfl, rfl, rfl, rfl, rfl, rfl, rfl, rfl, rfl, rfl, trivial⟩ rfl
  try simp only [sQ, ne_eq] at g2
  have hxe := Zjr hxs (by omega)
  refine ZI (ZY (ZM (Zv (Zd (Za (xM (h:=xA (h:=Zi ?_))))))))
  exact Zbx .ret (.inl rfl) [_] [2] rfl ⟨rfl, trivial⟩ (by rw [← hxe]; exact ⟨_, _, _, rfl, rfl, hv, by omega⟩)

set_option maxRecDepth 4000 in
set_option maxHeartbeats 400000 in
theorem ZoI (hJ : Joins Tryz.prog J) (q1 q2 q3 : Option Addr) (c1 c2 c3 : Nat) (x : DHost) (u : Str) (hn : u.length ≤ 2000000) (hd : x.domain.length ≤ 2000000) (B : Kn) (hu : SlK B q1 c1 3 Zq x.users) (hf : SlK B q2 c2 5 Ze x.folders) (hi : SlK B q3 c3 4 ZG x.queue.items) : ZJ (pj J) 23 [.agg #[str x.domain, .slice q1 x.users.length c1, .slice q2 x.folders.length c2, .int .i64 x.queue.next, .slice q3 x.queue.items.length c3], str u] B [] (fun v B' Ls => ∃ l p cp, Ls = [l] ∧ v = .slice p (Zdw x u).length cp ∧ Zby l p cp 35 5 (ZV 117 126) (Zdw x u) ∧ (Zdw x u).length ≤ 2000000) := by
  refine Zb 42 Tryz.func23 rfl rfl rfl (Nat.le_of_ble_eq_true rfl) ?_
  have hfn := hf.len
  refine Za (xBx [_, _, _, _, _] (h:=fun b1 => xA (h:=ZH [_] rfl (Zj2 0 rfl (fun B2 hle2 hpm2 => ?_)))))
  have hc2 := Za2 hpm2
  replace hu := hu.mono Zq.mono hle2
  replace hf := hf.mono Ze.mono hle2
  replace hi := hi.mono ZG.mono hle2
  refine Za (xBs [] [] Tryz.underlying39 ZaQ Zca (h:=fun b3 => xA (h:=ZH [_, _] rfl (Zg (Za (yL [_, _, _, _, _] Ze7 hc2 0 (h:=Zo (ZbS rfl rfl ZrH rfl (ZbY hJ _ _ _ _ _ _ x (by first | assumption | omega | (simp; done) | (simp; omega)) _ hu hf hi) ?_))))))))
  intro v4 B4 hle4
  rintro rfl
  replace hu := hu.mono Zq.mono hle4
  replace hf := hf.mono Ze.mono hle4
  replace hi := hi.mono ZG.mono hle4
  replace hc2 := hc2.mono hle4
  refine xN (h:=Zc rfl (fun g1 => ?_) (fun g1 => ?_))
  try simp only [sQ, ne_eq] at g1
  rw [Zk4 (by simpa using g1)]
  refine Za (xM (h:=xA (h:=Zi (Zn ?_))))
  exact Zbx .ret (.inl rfl) [_] [1] rfl ⟨rfl, trivial⟩ ⟨_, _, _, rfl, rfl, Zby.lit0, by simp⟩
  try simp only [sQ, ne_eq] at g1
  refine Zf (Zd (Zg (Za (xW Zar (h:=y1 Zd7 hc2 2 (h:=xV Tryz.underlying39 (h:=xM (h:=Zl (ZC (α := Gh DFolder) [0, 1, 2, 4, 11, 14, 15] (fun g => [(5, .slice g.a g.xs.length g.c), (16, .int .i64 g.k)]) [1] (fun g => [g.l]) (fun g Bx => g.k ≤ x.folders.length ∧ g.xs = ZcR (Z9 x) (ZgN x u) ZiU x.folders g.k ∧ g.xs.length ≤ g.k ∧ Zby g.l g.a g.c 35 5 (ZV 117 126) g.xs) (fun g => x.folders.length - g.k) ⟨0, 0, _, _, _, []⟩ ⟨rfl, rfl, trivial⟩ rfl (⟨Nat.zero_le _, Zco, Nat.le_refl _, Zby.lit0⟩) (fun g B5 hle5 hI => ?_))))))))))
  obtain ⟨hk, hxs, hxl, hv⟩ := hI
  replace hu := hu.mono Zq.mono hle5
  replace hf := hf.mono Ze.mono hle5
  replace hi := hi.mono ZG.mono hle5
  replace hc2 := hc2.mono hle5
  refine ZL [(0, _), (1, _), (2, _), (4, _), (5, _), (11, _), (14, _), (15, _), (16, _)] [_, _] ⟨rfl, rfl, rfl, rfl, rfl, rfl, rfl, rfl, rfl, trivial⟩ rfl (Za (ZF (h:=Zg (Zc rfl (fun g2 => ?_) (fun g2 => ?_)))))
  try simp only [sQ, ne_eq] at g2
  refine Zf (Zd (Zg (Zl (Za ?_))))
  obtain ⟨w, hw⟩ := ZW (xs := x.folders) (i := g.k) (by first | omega | (simp; done) | (simp; omega))
  obtain ⟨bb7, oo7, rfl⟩ := hf.base hw
  obtain ⟨_, ⟨qg8, cg8, qm8, cm8, rfl, hg8, hm8, hb8, hb8b⟩, hc8⟩ := hf.elem hw
  have hg8n := hg8.len
  have hm8n := hm8.len
  have hm8s := Z5 hm8
  refine xIx Tryz.underlying39 ZaQ (h:=yL [_, _, _, _, _] Zcd hc8 0 (h:=xAl [_, _, _, _, _] Zca (h:=fun b9 => xS [_, _, _, _, _] 2 [_, _, _, _, _] ZaQ (h:=ZH [_, _, _] rfl (Za (xM (h:=xL [_, _, _, _, _] Zcd 2 (h:=xR ZrF rfl (Zl4 _ _ _ _ _ _ _ _ x _ _ _ _ u w _ (by first | assumption | omega | (simp; done) | (simp; omega)) (by first | assumption | omega | (simp; done) | (simp; omega)) _ hc2 hu hg8) (h:=?_)))))))))
  refine xM (h:=Zw (d := 23) rfl (fun g3 => ?_) (fun g3 => ?_))
  try simp only [sQ, ne_eq] at g3
  refine xM (h:=xL [_, _, _, _, _] Zcd 2 (h:=xR ZrF rfl (Zl4 _ _ _ _ _ _ _ _ x _ _ _ _ u w _ (by first | assumption | omega | (simp; done) | (simp; omega)) (by first | assumption | omega | (simp; done) | (simp; omega)) _ hc2 hu hg8) (h:=?_)))
  refine xT (h:=Zc rfl (fun g4 => ?_) (fun g4 => ?_))
  try simp only [sQ, ne_eq] at g4
  refine Zan (keeps _ [2] _) mo (by kernel_rfl) ⟨Kn.le.refl _, ZbF.refl _ _⟩ (fun _ _ => ?_)
  refine aM 0 rfl (h:=aW 1 rfl Za0 (h:=aT 2 rfl (Zah fun D B L hI => Zs rfl rfl lk9 rfl (atL 2 (hI.2.1.trans rfl) rfl rfl) r4) (h:=aW 3 rfl ZbP (h:=aT 4 rfl (Zah fun D B L hI => Zs rfl rfl lk9 rfl (atL 2 (hI.2.1.trans rfl) rfl rfl) r4) (h:=aW 6 rfl ZbJ (h:=aT 7 rfl (Zah fun D B L hI => Z8 [_, _] rfl rfl ZiN rfl (ZcQ 2 (hI.2.1.trans rfl) rfl rfl) r4) (h:=ZkT [5, 8] (by kernel_rfl) (by kernel_rfl) (by kernel_rfl) ⟨?_, ?_⟩)))))))
  refine (ZZ (parts := []) [] rfl rfl Tryz.underlying30 ZbO ZfG rfl rfl rfl rfl rfl (fun b12 => ⟨⟨Kn.le.refl _, ⟨rfl, trivial⟩⟩, (Z4 8 (by kernel_rfl) rfl (by kernel_rfl) (Zao rfl rfl Zsw rfl (Zdr _ _ (⟨w.next, w.mail⟩ : DBox) _ hm8) ?_))⟩))
  rintro _ B13 _ hle13 ⟨rfl, l13, a13, c13, rfl, rfl, hs13⟩
  refine ⟨⟨Kn.le.refl _, ⟨rfl, trivial⟩⟩, (aT 9 rfl (Zah fun D B L hI => Zc2 (parts := [(0, _), (1, _), (2, _), (3, _)]) [_, _, _, _, _] [_, _, _, _, _] rfl rfl Zlk Zca rfl rfl rfl r4) (h:=Z4 10 (by kernel_rfl) rfl (by kernel_rfl) (ZZ (parts := [(0, _)]) [_, _, _, _, _] rfl rfl Tryz.underlying39 ZaQ Zca rfl rfl rfl rfl rfl (fun b14 => ?_))))⟩
  refine ⟨⟨Kn.le.refl _, ⟨rfl, trivial⟩⟩, (Z4 11 (by kernel_rfl) rfl (by kernel_rfl) (Zj5 (R := (ZV 117 126)) (⟨w.owner, w.name, [], w.next, w.mail⟩) 1 [3, 4] rfl rfl hv rfl rfl rfl ZoA ZoT rfl rfl (ZbL.box 5 rfl) rfl rfl (ZaK b12 [] 117 ++ l13) (by simp) (⟨_, _, _, _, _, _, rfl, rfl, Z3.lit0, (hs13.anyK ZK.any), by first | assumption | omega | (simp; done) | (simp; omega), by first | assumption | omega | (simp; done) | (simp; omega), by first | assumption | omega | (simp; done) | (simp; omega), by first | assumption | omega | (simp; done) | (simp; omega)⟩) (by first | omega | (simp; done) | (simp; omega)) (fun l15 p15 c15 hd15 => ?_)))⟩
  refine ⟨⟨Kn.le.refl _, ⟨rfl, trivial⟩⟩, (aA 12 rfl (h:=Zz (by kernel_rfl) (by kernel_rfl) ?_))⟩
  refine ZP (Zd (Zk (xD (h:=xM (h:=?_)))))
  exact ZD ⟨g.k + 1, 0, l15, p15, c15, (g.xs ++ [⟨w.owner, w.name, [], w.next, w.mail⟩])⟩ [0, 1] (by first | omega | (simp only []; omega)) ⟨by simp only []; omega, by simp only []; exact ZbD hxs (by simpa using g1) hw (by simp [ZgN, g3, g4]), by simp; omega, hd15⟩ ⟨rfl, rfl, rfl, rfl, rfl, rfl, rfl, rfl, rfl, trivial⟩ rfl
  refine (Zao rfl rfl Zsw rfl (Zdr _ _ (⟨w.next, w.mail⟩ : DBox) _ hm8) ?_)
  rintro _ B16 _ hle16 ⟨rfl, l16, a16, c16, rfl, rfl, hs16⟩
  refine ⟨⟨Kn.le.refl _, ⟨rfl, trivial⟩⟩, (Z4 5 (by kernel_rfl) rfl (by kernel_rfl) (ZZ (parts := []) [] rfl rfl Tryz.underlying30 ZbO ZfG rfl rfl rfl rfl rfl (fun b17 => ?_)))⟩
  refine ⟨⟨Kn.le.refl _, ⟨rfl, trivial⟩⟩, (aT 9 rfl (Zah fun D B L hI => Zc2 (parts := [(0, _), (1, _), (2, _), (3, _)]) [_, _, _, _, _] [_, _, _, _, _] rfl rfl Zlk Zca rfl rfl rfl r4) (h:=Z4 10 (by kernel_rfl) rfl (by kernel_rfl) (ZZ (parts := [(0, _)]) [_, _, _, _, _] rfl rfl Tryz.underlying39 ZaQ Zca rfl rfl rfl rfl rfl (fun b18 => ?_))))⟩
  refine ⟨⟨Kn.le.refl _, ⟨rfl, trivial⟩⟩, (Z4 11 (by kernel_rfl) rfl (by kernel_rfl) (Zj5 (R := (ZV 117 126)) (⟨w.owner, w.name, [], w.next, w.mail⟩) 1 [4, 3] rfl rfl hv rfl rfl rfl ZoA ZoT rfl rfl (ZbL.box 5 rfl) rfl rfl (ZaK b17 [] 117 ++ l16) (by simp) (⟨_, _, _, _, _, _, rfl, rfl, Z3.lit0, (hs16.anyK ZK.any), by first | assumption | omega | (simp; done) | (simp; omega), by first | assumption | omega | (simp; done) | (simp; omega), by first | assumption | omega | (simp; done) | (simp; omega), by first | assumption | omega | (simp; done) | (simp; omega)⟩) (by first | omega | (simp; done) | (simp; omega)) (fun l19 p19 c19 hd19 => ?_)))⟩
  refine ⟨⟨Kn.le.refl _, ⟨rfl, trivial⟩⟩, (aA 12 rfl (h:=Zz (by kernel_rfl) (by kernel_rfl) ?_))⟩
  refine ZP (Zd (Zk (xD (h:=xM (h:=?_)))))
  exact ZD ⟨g.k + 1, 0, l19, p19, c19, (g.xs ++ [⟨w.owner, w.name, [], w.next, w.mail⟩])⟩ [0, 1] (by first | omega | (simp only []; omega)) ⟨by simp only []; omega, by simp only []; exact ZbD hxs (by simpa using g1) hw (by simp [ZgN, g3, g4]), by simp; omega, hd19⟩ ⟨rfl, rfl, rfl, rfl, rfl, rfl, rfl, rfl, rfl, trivial⟩ rfl
  try simp only [sQ, ne_eq] at g4
  refine Zf (ZP (Zd (Zk (xD (h:=xM (h:=?_))))))
  exact ZD ⟨g.k + 1, 0, g.l, g.a, g.c, g.xs⟩ [0, 1] (by first | omega | (simp only []; omega)) ⟨by simp only []; omega, by simp only []; exact Zbp hxs (by simpa using g1) hw (by simp [ZgN, g3, g4]), by simp only []; omega, hv⟩ ⟨rfl, rfl, rfl, rfl, rfl, rfl, rfl, rfl, rfl, trivial⟩ rfl
  try simp only [sQ, ne_eq] at g3
  refine xP (h:=xP (h:=xP (h:=xF (h:=Zc (t := false) rfl (fun h => Bool.noConfusion h) (fun _ => Zf (ZP (Zd (Zk (xD (h:=xM (h:=?_)))))))))))
  exact ZD ⟨g.k + 1, 0, g.l, g.a, g.c, g.xs⟩ [0, 1] (by first | omega | (simp only []; omega)) ⟨by simp only []; omega, by simp only []; exact Zbp hxs (by simpa using g1) hw (by simp [ZgN, g3]), by simp only []; omega, hv⟩ ⟨rfl, rfl, rfl, rfl, rfl, rfl, rfl, rfl, rfl, trivial⟩ rfl
  try simp only [sQ, ne_eq] at g2
  have hxe := ZiT hxs (by omega)
  refine ZI (ZY (ZM (Zv (Zd (Za (xM (h:=xA (h:=Zi ?_))))))))
  exact Zbx .ret (.inl rfl) [_] [1] rfl ⟨rfl, trivial⟩ (by rw [← hxe]; exact ⟨_, _, _, rfl, rfl, hv, by omega⟩)

set_option maxHeartbeats 1600000 in
theorem ZhF (q1 q2 q3:Option Addr) (c1 c2 c3:Nat) (x:DHost) (hd:x.domain.length≤140737488355328) (o n:Str) (ho:o.length≤140737488355328) (hn:n.length≤140737488355328) (B:Kn) (hu:SlB B q1 c1 3 Zdt x.users) (hf:SlB B q2 c2 5 ZaJ x.folders) (hi:SlB B q3 c3 4 Zb2 x.queue.items) :∃code,Tryz.f3.body=some code∧wpS (pj (ZhH Tryz.prog)) 112 code (Zgp (pj (ZhH Tryz.prog)) [.tmp 6] (fun v B' Ls=>v = .bool true)) (Zc0 [.agg #[str x.domain,.slice q1 x.users.length c1,.slice q2 x.folders.length c2,.int .i64 x.queue.next,.slice q3 x.queue.items.length c3],str o,str n] 0) [] B []:=by
 have hJ:=Ze1 Tryz.prog
 refine ⟨_,rfl,(Za (xBx [_,_,_,_,_] (h:=fun b1=>xA (h:=ZH [_] rfl (Zg (Za (xM (h:=xVs Tryz.underlying9 (h:=ZdV (h:=Zc rfl (fun g0=>?_) (fun g0=>?_)))))))))))⟩
 try simp only [sQ,ne_eq] at g0
 refine Za (xA (h:=Zi (Zn ?_)))
 exact ZB .ret (.inl rfl) [_] t1 rfl
 try simp only [sQ,ne_eq] at g0
 refine Zf (Zd (Zg (Za (xM (h:=xVs Tryz.underlying9 (h:=ZdV (h:=Zc rfl (fun g0b=>?_) (fun g0b=>?_))))))))
 try simp only [sQ,ne_eq] at g0b
 refine Za (xA (h:=Zi (Zn ?_)))
 exact ZB .ret (.inl rfl) [_] t1 rfl
 try simp only [sQ,ne_eq] at g0b
 refine Zf (Zd (Za (xA (h:=Za (xL [_,_,_,_,_] Zky 0 (h:=xM (h:=xR en6 rfl (Zid _ _ _ _ _ _ x om 1048576 om om _ hu hf hi) (h:=?_))))))))
 refine xA (h:=Zg (Za (xM (h:=ZF (h:=Zc rfl (fun g1=>?_) (fun g1=>?_))))))
 try simp only [sQ,ne_eq] at g1
 refine Za (xA (h:=Zi (Zn ?_)))
 exact ZB .ret (.inl rfl) [_] t1 rfl
 try simp only [sQ,ne_eq] at g1
 have hsz:=(Zba oz g1).2
 replace hsz:ZbA x≤1048576:=by omega
 have hsz2:=ZfW hsz
 have hkh:=Zq6 hsz
 replace hu:=ZeP hu hsz2.2.1
 replace hf:=ZdL hf hsz2.2.2.1
 replace hi:=Ze2 hi hsz2.2.2.2
 have hun:=hu.len
 have hfn:=hf.len
 have hin:=hi.len
 refine Zf (Zd (Za (xL [_,_,_,_,_] Zky 0 (h:=Zo (Zao rfl rfl en8 rfl (Zbg _ _ _ _ _ _ x _ hu hf hi om2) ?_)))))
 rintro _ B3 _ hle3 ⟨q3,c3,l3,q3b,c3b,l3b,q3c,c3c,l3c,rfl,rfl,rfl,hv3,hv3b,hv3c⟩
 refine Zlh 1 rfl hv3 Zq.any om (fun B4 hle4 hr4=>?_)
 replace hu:=hu.mono Zq.mono hle4
 replace hf:=hf.mono Ze.mono hle4
 replace hi:=hi.mono ZG.mono hle4
 have hr4n:=hr4.len
 refine Zga 2 rfl hv3b ZV.known Ze.mono om (fun B5 hle5 hr5=>?_)
 replace hu:=hu.mono Zq.mono hle5
 replace hf:=hf.mono Ze.mono hle5
 replace hi:=hi.mono ZG.mono hle5
 replace hr4:=hr4.mono Zq.mono hle5
 have hr5n:=hr5.len
 refine Zga 3 rfl hv3c Zbf.known ZG.mono om (fun B6 hle6 hr6=>?_)
 replace hu:=hu.mono Zq.mono hle6
 replace hf:=hf.mono Ze.mono hle6
 replace hi:=hi.mono ZG.mono hle6
 replace hr4:=hr4.mono Zq.mono hle6
 replace hr5:=hr5.mono Ze.mono hle6
 have hr6n:=hr6.len
 refine xM (h:=xM (h:=Zo (ZbS rfl rfl en7 rfl (Zi6 _ _ _ _ _ _ x o n om2 om2 om2 _ hr4 hr5 hr6) ?_)))
 intro v7 B7 hle7
 rintro ⟨qa7,ca7,qb7,cb7,rfl,hg7,hm7⟩
 replace hu:=hu.mono Zq.mono hle7
 replace hf:=hf.mono Ze.mono hle7
 replace hi:=hi.mono ZG.mono hle7
 replace hr4:=hr4.mono Zq.mono hle7
 replace hr5:=hr5.mono Ze.mono hle7
 replace hr6:=hr6.mono ZG.mono hle7
 have hg7n:=hg7.len
 have hm7n:=hm7.len
 refine xM (h:=xE (h:=xE (h:=xAl [_,_,_,_,_] Zca (h:=fun b8=>xS [_,_,_,_,_] 4 [_,_,_,_,_] ZaQ (h:=xA (h:=ZH [_,_,_,_,_] rfl (Za (xL [_,_,_,_,_] Zky 0 (h:=Zo (Zao rfl rfl en8 rfl (Zbg _ _ _ _ _ _ x _ hu hf hi om2) ?_))))))))))
 rintro _ B9 _ hle9 ⟨q9,c9,l9,q9b,c9b,l9b,q9c,c9c,l9c,rfl,rfl,rfl,hv9,hv9b,hv9c⟩
 refine xAl [_,_,_,_,_] ZrJ (h:=fun b10=>xS [_,_,_,_,_] 8 [_,_,_,_,_] ZsQ (h:=ZH [_,_,_,_,_,_,_,_,_] rfl (Za (xL [_,_,_,_,_] Ze7 8 (h:=xM (h:=xM (h:=Zo (Zat [5,6,7] rfl rfl rfl rfl en9 rfl (ZJ.borrowK 3 fun hm11=>ZiA hJ _ _ _ _ _ _ x o n om2 om2 om2 _ (hv9.lendK Zq.any 0 rfl hm11 om) (hv9b.lendK ZV.known Ze.mono 1 rfl hm11 om) (hv9c.lendK Zbf.known ZG.mono 2 rfl hm11 om)) ?_))))))))
 rintro _ B11 _ hle11 ⟨BB11,_,rfl,hB11,_,hm11,_,l11,l11b,qa11,ca11,qb11,cb11,rfl,rfl,hg11,hm11,hg11n,hm11n⟩
 replace hu:=hu.mono Zq.mono hle11
 replace hf:=hf.mono Ze.mono hle11
 replace hi:=hi.mono ZG.mono hle11
 replace hg7:=hg7.mono Zu.mono hle11
 replace hm7:=hm7.mono ZK.mono hle11
 replace hv9:=hv9.mono Zq.mono hle11
 refine xM (h:=xE (h:=xE (h:=xAl [_,_,_,_,_] Zca (h:=fun b12=>xS [_,_,_,_,_] 11 [_,_,_,_,_] ZaQ (h:=xA (h:=ZH [_,_,_,_,_,_,_,_,_,_,_,_] rfl (Zg (Za (xL [_,_,_,_,_] Zcd 11 (h:=xL [_,_,_,_,_] Zcd 4 (h:=Zo (Zcr [9,10] rfl rfl rfl rfl rfl ZsX rfl (Zaa.borrowL fun hm13=>Zev _ _ _ _ _ _ _ _ ((ZA x o n).1) ((ZA x o n).1) _ (hg11.lendK Zu.any 0 rfl hm13 om) (hm11.lendK ZK.any 1 rfl hm13 om) (hg7.mono Zu.mono (Kn.le_add _ _)) (hm7.mono ZK.mono (Kn.le_add _ _))) ?_))))))))))))
 refine xN (h:=xM (h:=Zw (d:=50) rfl (fun g2=>by simp at g2) (fun g2=>?_)))
 try simp only [sQ,ne_eq] at g2
 refine xM (h:=xM (h:=Zo (ZmG rfl rfl rfl rfl rfl (Zlz Tryz.underlying4) (xF (h:=Zc rfl (fun g3=>by simp at g3) (fun g3=>?_))))))
 try simp only [sQ,ne_eq] at g3
 refine Zf (Zd (Zg (Zg (Zan (keeps _ [0,8] _) mo kr ⟨Kn.le.refl _,ZbF.refl _ _⟩ (fun _ _=>?_)))))
 refine aT 0 rfl (Zah fun D B L hI=>Z8 [_,_,_,_,_] rfl rfl Ze7 rfl (ZcQ 8 (hI.2.2.1.trans rfl) rfl rfl) r4) (h:=aT 1 rfl (Zah fun D B L hI=>Z8 [_,_,_,_,_] rfl rfl Zky rfl (ZcQ 0 (hI.2.1.trans rfl) rfl rfl) r4) (h:=Z4 2 kr rfl kr (Zao rfl rfl en8 rfl (Zbg _ _ _ _ _ _ x _ hu hf hi om2) ?_)))
 rintro _ B14 _ hle14 ⟨q14,c14,l14,q14b,c14b,l14b,q14c,c14c,l14c,rfl,rfl,rfl,hv14,hv14b,hv14c⟩
 refine ⟨⟨Kn.le.refl _,t2⟩,(ZjX 12 rfl hv14 Zq.any om (fun B' hle'=>⟨hle',t2⟩) (fun B15 hle15 hr15=>?_))⟩
 replace hu:=hu.mono Zq.mono hle15
 replace hf:=hf.mono Ze.mono hle15
 replace hi:=hi.mono ZG.mono hle15
 replace hg7:=hg7.mono Zu.mono hle15
 replace hm7:=hm7.mono ZK.mono hle15
 replace hv9:=hv9.mono Zq.mono hle15
 replace hg11:=hg11.mono Zu.mono hle15
 replace hm11:=hm11.mono ZK.mono hle15
 have hr15n:=hr15.len
 refine ZeM 13 rfl hv14b ZV.known Ze.mono om (fun B' hle'=>⟨hle15.trans hle',t2⟩) (fun B16 hle16 hr16=>?_)
 replace hu:=hu.mono Zq.mono hle16
 replace hf:=hf.mono Ze.mono hle16
 replace hi:=hi.mono ZG.mono hle16
 replace hr15:=hr15.mono Zq.mono hle16
 replace hg7:=hg7.mono Zu.mono hle16
 replace hm7:=hm7.mono ZK.mono hle16
 replace hv9:=hv9.mono Zq.mono hle16
 replace hg11:=hg11.mono Zu.mono hle16
 replace hm11:=hm11.mono ZK.mono hle16
 have hr16n:=hr16.len
 refine ZeM 14 rfl hv14c Zbf.known ZG.mono om (fun B' hle'=>⟨(hle15.trans hle16).trans hle',t2⟩) (fun B17 hle17 hr17=>?_)
 replace hu:=hu.mono Zq.mono hle17
 replace hf:=hf.mono Ze.mono hle17
 replace hi:=hi.mono ZG.mono hle17
 replace hr15:=hr15.mono Zq.mono hle17
 replace hr16:=hr16.mono Ze.mono hle17
 replace hg7:=hg7.mono Zu.mono hle17
 replace hm7:=hm7.mono ZK.mono hle17
 replace hv9:=hv9.mono Zq.mono hle17
 replace hg11:=hg11.mono Zu.mono hle17
 replace hm11:=hm11.mono ZK.mono hle17
 have hr17n:=hr17.len
 refine Z4 3 kr rfl kr (Zcr [5,6,7] rfl rfl rfl rfl rfl Zud rfl (Zaa.borrowL fun hm18=>ZiD _ _ _ _ _ _ _ _ _ _ _ _ x x _ (hv9.lendK Zq.any 0 rfl hm18 om) (hv9b.lendK ZV.known Ze.mono 1 rfl hm18 om) (hv9c.lendK Zbf.known ZG.mono 2 rfl hm18 om) (hr15.mono Zq.mono (Kn.le_add _ _)) (hr16.mono Ze.mono (Kn.le_add _ _)) (hr17.mono ZG.mono (Kn.le_add _ _))) ?_)
 refine ⟨⟨((hle15.trans hle16).trans hle17),t2⟩,(aN 4 rfl (h:=Zz kr kr ?_))⟩
 refine Zd (ZH [_,_,_,_,_,_,_,_,_,_,_,_,_,_,_] rfl (Zc rfl (fun g4=>by simp at g4) (fun g4=>?_)))
 try simp only [sQ,ne_eq] at g4
 refine Zf (Zd (Za (xA (h:=Za (xL [_,_,_,_,_] Ze7 8 (h:=xM (h:=Zo (Zat [5,6,7] rfl rfl rfl rfl Zt5 rfl (ZfU _ _ _ _ _ _ x _ _ _ 1 oa oz oz oz _ (hv9.anyK Zq.any) hv9b hv9c) ?_))))))))
 rintro _ B19 _ hle19 ⟨rfl,l19a,l19b,l19c,rfl,rfl,hs19a,hs19b,hs19c⟩
 refine xA (h:=ZH [_,_,_,_,_,_,_,_,_,_,_,_,_,_,_] rfl (Zg (Za (xM (h:=ZF (h:=xM (h:=Zw (d:=65) rfl (fun g5=>by first | omega | (simp at g5;done) | (simp at g5;omega)) (fun g5=>?_))))))))
 try simp only [sQ,ne_eq] at g5
 refine xL [_,_,_,_,_] Zcd 11 (h:=xL [_,_,_,_,_] Zcd 4 (h:=Zo (Zcr [9,10] rfl rfl rfl rfl rfl ZsX rfl (Zaa.borrowL fun hm20=>Zev _ _ _ _ _ _ _ _ ((ZA x o n).1) ((ZA x o n).1) _ (hg11.lendK Zu.any 0 rfl hm20 om) (hm11.lendK ZK.any 1 rfl hm20 om) (hg7.mono Zu.mono (Kn.le_add _ _)) (hm7.mono ZK.mono (Kn.le_add _ _))) ?_)))
 refine xN (h:=xF (h:=xM (h:=Zw (d:=71) rfl (fun g6=>by simp at g6) (fun g6=>?_))))
 try simp only [sQ,ne_eq] at g6
 refine xM (h:=xM (h:=Zo (ZmG rfl rfl rfl rfl rfl (Zlz Tryz.underlying4) (xF (h:=Zc rfl (fun g7=>by simp at g7) (fun g7=>?_))))))
 try simp only [sQ,ne_eq] at g7
 refine Zf (Zd (Za (xA (h:=Za (xL [_,_,_,_,_] Zcd 11 (h:=xM (h:=Zo (Zat [9,10] rfl rfl rfl rfl ZvY rfl (Zjo _ _ _ _ ((ZA x o n).1) _ _ 1 oz oz oz _ (hg11.anyK Zu.any) (hm11.anyK ZK.any)) ?_))))))))
 rintro _ B21 _ hle21 ⟨rfl,l21a,l21b,rfl,rfl,hs21a,hs21b⟩
 refine xA (h:=ZH [_,_,_,_,_,_,_,_,_,_,_,_,_,_,_] rfl (Za (xA (h:=Za (xL [_,_,_,_,_] Zcd 11 (h:=xM (h:=Zo (Zcr [9,10] rfl rfl rfl rfl rfl ZuN rfl (Zaa.borrowL fun hm22=>Zgi _ _ _ _ (ZA x o n).1 1 oz _ (hs21a.lendK Zu.any 0 rfl hm22 (by simp only [Z7,Zad,Za3,ZaU,Zc4];omega)) (hs21b.lendK ZK.any 1 rfl hm22 (by simp only [Z7,Zad,Za3,ZaU,Zc4];omega))) ?_))))))))
 refine xA (h:=Zg (Za (xM (h:=ZF (h:=Zc rfl (fun g8=>by first | omega | (simp at g8;done) | (simp at g8;omega)) (fun g8=>?_))))))
 try simp only [sQ,ne_eq] at g8
 refine Zf (Zd (Zg (Za (xM (h:=xM (h:=ZaL (h:=Zc rfl (fun g9=>by simp at g9) (fun g9=>?_))))))))
 try simp only [sQ,ne_eq] at g9
 refine Zf (Zd (Za (xL [_,_,_,_,_] Zky 0 (h:=Zo (Zao rfl rfl en8 rfl (Zbg _ _ _ _ _ _ x _ hu hf hi om2) ?_)))))
 rintro _ B23 _ hle23 ⟨q23,c23,l23,q23b,c23b,l23b,q23c,c23c,l23c,rfl,rfl,rfl,hv23,hv23b,hv23c⟩
 refine Zlh 15 rfl hv23 Zq.any om (fun B24 hle24 hr24=>?_)
 replace hu:=hu.mono Zq.mono hle24
 replace hf:=hf.mono Ze.mono hle24
 replace hi:=hi.mono ZG.mono hle24
 replace hg7:=hg7.mono Zu.mono hle24
 replace hm7:=hm7.mono ZK.mono hle24
 replace hs19a:=hs19a.mono Zq.mono hle24
 replace hs21a:=hs21a.mono Zu.mono hle24
 replace hs21b:=hs21b.mono ZK.mono hle24
 have hr24n:=hr24.len
 refine Zga 16 rfl hv23b ZV.known Ze.mono om (fun B25 hle25 hr25=>?_)
 replace hu:=hu.mono Zq.mono hle25
 replace hf:=hf.mono Ze.mono hle25
 replace hi:=hi.mono ZG.mono hle25
 replace hr24:=hr24.mono Zq.mono hle25
 replace hg7:=hg7.mono Zu.mono hle25
 replace hm7:=hm7.mono ZK.mono hle25
 replace hs19a:=hs19a.mono Zq.mono hle25
 replace hs21a:=hs21a.mono Zu.mono hle25
 replace hs21b:=hs21b.mono ZK.mono hle25
 have hr25n:=hr25.len
 refine Zga 17 rfl hv23c Zbf.known ZG.mono om (fun B26 hle26 hr26=>?_)
 replace hu:=hu.mono Zq.mono hle26
 replace hf:=hf.mono Ze.mono hle26
 replace hi:=hi.mono ZG.mono hle26
 replace hr24:=hr24.mono Zq.mono hle26
 replace hr25:=hr25.mono Ze.mono hle26
 replace hg7:=hg7.mono Zu.mono hle26
 replace hm7:=hm7.mono ZK.mono hle26
 replace hs19a:=hs19a.mono Zq.mono hle26
 replace hs21a:=hs21a.mono Zu.mono hle26
 replace hs21b:=hs21b.mono ZK.mono hle26
 have hr26n:=hr26.len
 refine xM (h:=xM (h:=Zo (ZbS rfl rfl en9 rfl (Zjx hJ _ _ _ _ _ _ x o n om2 om2 om2 _ hr24 hr25 hr26) ?_)))
 intro v27 B27 hle27
 rintro ⟨qa27,ca27,qb27,cb27,rfl,hg27,hm27⟩
 replace hu:=hu.mono Zq.mono hle27
 replace hf:=hf.mono Ze.mono hle27
 replace hi:=hi.mono ZG.mono hle27
 replace hr24:=hr24.mono Zq.mono hle27
 replace hr25:=hr25.mono Ze.mono hle27
 replace hr26:=hr26.mono ZG.mono hle27
 replace hg7:=hg7.mono Zu.mono hle27
 replace hm7:=hm7.mono ZK.mono hle27
 replace hs19a:=hs19a.mono Zq.mono hle27
 replace hs21a:=hs21a.mono Zu.mono hle27
 replace hs21b:=hs21b.mono ZK.mono hle27
 have hg27n:=hg27.len
 have hm27n:=hm27.len
 refine xM (h:=xE (h:=xE (h:=xAl [_,_,_,_,_] Zca (h:=fun b28=>xS [_,_,_,_,_] 18 [_,_,_,_,_] ZaQ (h:=xA (h:=ZH [_,_,_,_,_,_,_,_,_,_,_,_,_,_,_,_,_,_,_] rfl (Zg (Za (xL [_,_,_,_,_] Zcd 18 (h:=xL [_,_,_,_,_] Zcd 4 (h:=xR ZsX rfl (Zev _ _ _ _ _ _ _ _ ((ZA x o n).1) ((ZA x o n).1) _ hg27 hm27 hg7 hm7) (h:=xN (h:=?_)))))))))))))
 refine xM (h:=Zw (d:=99) rfl (fun ga=>by simp at ga) (fun ga=>?_))
 try simp only [sQ,ne_eq] at ga
 refine xM (h:=xM (h:=Zo (ZmG rfl rfl rfl rfl rfl (Zlz Tryz.underlying4) (xF (h:=Zc rfl (fun gb=>by simp at gb) (fun gb=>?_))))))
 try simp only [sQ,ne_eq] at gb
 refine Zf (Zd (Za (xA (h:=Za (xL [_,_,_,_,_] Zcd 11 (h:=xM (h:=Zo (Zcr [9,10] rfl rfl rfl rfl rfl ZuN rfl (Zaa.borrowL fun hm30=>Zgi _ _ _ _ (ZA x o n).1 1 oz _ (hs21a.lendK Zu.any 0 rfl hm30 (by simp only [Z7,Zad,Za3,ZaU,Zc4];omega)) (hs21b.lendK ZK.any 1 rfl hm30 (by simp only [Z7,Zad,Za3,ZaU,Zc4];omega))) ?_))))))))
 refine xA (h:=Zg (Za (xM (h:=ZF (h:=Zc rfl (fun gc=>by first | omega | (simp at gc;done) | (simp at gc;omega)) (fun gc=>?_))))))
 try simp only [sQ,ne_eq] at gc
 refine Zf (Zd (Zg (Za (xM (h:=xM (h:=ZaL (h:=Zc rfl (fun gd=>by simp at gd) (fun gd=>?_))))))))
 try simp only [sQ,ne_eq] at gd
 refine Zf (Zd (Za (xA (h:=Zi ?_))))
 exact ZB .ret (.inl rfl) [_] t1 rfl

end Go.Proofs.YtmdbkconbffmfaaGreat
