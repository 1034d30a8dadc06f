/-
  Each function's contract, proved off its printed body (written by program).
-/
import Derived.Test.YtonfijmgahdgeaaGreatDoorC2
namespace Go.Proofs.YtonfijmgahdgeaaGreatDoor
open Go Go.BL
set_option linter.unusedVariables false
set_option linter.unusedSimpArgs false
set_option maxRecDepth 4000
set_option maxHeartbeats 6400000
variable {J : JoinT}
theorem Zu1 (s p:Str) (h1:s.length≤2000000) (h2:p.length≤2000000) (B:Kn):Z1 (pj J) 156 [str s,str p] B (.bool (ZaK s p)):=by
 refine cB 24 Tryz.func156 (h:=?_)
 refine Za (xA (h:=Ze (Za (xA (h:=Zg (Zv (α:=Nat) [0,1] (fun k=>[(5,.int .i64 k)]) [] (fun k=>[]) (fun k Bx=>Bx=B∧k≤s.length+1 - p.length∧ZcT s p k=false) (fun k=>s.length+1 - p.length - k) 0 t1 rfl (⟨rfl,Nat.zero_le _,rfl⟩) (fun k B1 hle1 hI=>?_)))))))
 obtain ⟨rfl,hk,hp⟩:=hI
 refine Zz [(0,_),(1,_),(5,_)] [] t3 rfl (Ze (Za (xM (h:=xM (h:=xVs Tryz.underlying9 (h:=xD (h:=xM (h:=xVs Tryz.underlying9 (h:=Zbd (h:=Zb rfl (fun g1=>?_) (fun g1=>?_)))))))))))
 try simp only [sQ,ne_eq] at g1
 refine wSk (Ze (Zg (Za (xM (h:=xM (h:=xM (h:=xM (h:=xVs Tryz.underlying9 (h:=xD (h:=Zh (ZbX (a:=k) (b:=(k+p.length)) rfl rfl Tryz.underlying9 rfl ⟨_,_,rfl,by first | omega | (simp;done) | (simp;omega)⟩ ⟨_,_,rfl,by first | omega | (simp;done) | (simp;omega)⟩ om om ?_)))))))))))
 refine xM (h:=Zcj (h:=Zb rfl (fun g2=>?_) (fun g2=>?_)))
 try simp only [sQ,ne_eq] at g2
 refine Za (xA (h:=Zf (Zt (Zj (ZJ (Zt (Zj ?_)))))))
 exact eR t1 ⟨Zc (ZuD (k:=k) oz (by rw [← Ztd];exact g2)),rfl,rfl⟩
 try simp only [sQ,ne_eq] at g2
 refine ZK (ZD (Zm (Zd (xM (h:=xD (h:=xA (h:=?_)))))))
 exact Zx (k+1) [] so2 ⟨rfl,oz,Zlt hp (by rw [← Ztd];exact g2)⟩ t3 rfl
 try simp only [sQ,ne_eq] at g1
 have hk9:s.length+1 - p.length≤k:=by omega
 have hpn:=Zrx hp hk9
 refine ZA (ZQ (ZB (Zs (Zm (Za (xA (h:=Zf ?_)))))))
 exact eR t1 ⟨Zc hpn,rfl,rfl⟩

def FdK (J : JoinT) (n : Nat) : Prop := ∀ (qm : Option Addr) (cm : Nat) (b : DBox) (q q' : Option Addr) (c c' : Nat) (x : DKey) (i : Nat) (w : DMail) (hw : b.mail[i]? = some w) (hbo : Zbq b = true) (hok : x.allOk = true) (h1 : x.text.length ≤ 2000000) (B : Kn) (hb : SlK B qm cm 3 Zah b.mail) (hs : SlK B q c 2 ZN x.set) (hk : SlK B q' c' 5 (Zbw n) x.keys), Z1 (pj J) 113 [.agg #[.int .i64 b.next, .slice qm b.mail.length cm], .agg #[.int .i64 x.kind, .int .i64 x.flag, str x.text, .slice q x.set.length c, .slice q' x.keys.length c'], .int .i64 i] B (.bool (x.finds b i w))
theorem ZpM (n:Nat) (hK :∀m,n=m+1→FdK J m) (qm:Option Addr) (cm:Nat) (b:DBox) (q q':Option Addr) (c c':Nat) (x:DKey) (i:Nat) (w:DMail) (hw:b.mail[i]? = some w) (hbo:Zbq b=true) (hok:x.allOk=true) (h1:x.text.length≤2000000) (B:Kn) (hb:SlK B qm cm 3 Zah b.mail) (hs:SlK B q c 2 ZN x.set) (hk:SlK B q' c' 5 (Zbw n) x.keys):Z1 (pj J) 113 [.agg #[.int .i64 b.next,.slice qm b.mail.length cm],.agg #[.int .i64 x.kind,.int .i64 x.flag,str x.text,.slice q x.set.length c,.slice q' x.keys.length c'],.int .i64 i] B (.bool (x.finds b i w)):=by
 refine cB 103 Tryz.func113 (h:=?_)
 have hbn:=hb.len
 have hkn:=hk.len
 have hsn:=hs.len
 have hil:=(List.getElem?_eq_some_iff.1 hw).1
 have hno:=Zdr (show x.nodeOk=true by rw [ZeE,Bool.and_eq_true] at hok;exact hok.2)
 have hsub:=fun y hy=>Zmy (y:=y) hok hy
 have hwo:=(ZaL hbo).1 w (List.mem_of_getElem? hw)
 simp only [ZbU,Bool.and_eq_true,decide_eq_true_eq] at hwo
 refine Za (xBx [_,_] (h:=fun b1=>xBx [_,_,_,_,_] (h:=fun b2=>xA (h:=tL2 (Za (xW ZaI (h:=x1 Zfs 0 (h:=xM (h:=?_)))))))))
 obtain ⟨bb3,oo3,rfl⟩:=hb.base hw
 obtain ⟨_,⟨rfl,hb4⟩,hc4⟩:=hb.elem hw
 refine xIx Tryz.underlying80 ZcB (h:=yL [_,_,_] ZhA hc4 0 (h:=xAl [_,_,_] ZiN (h:=fun b5=>xS [_,_,_] 2 [_,_,_] ZcB (h:=tL3 (Ze (Za (xW ZbD (h:=x1 lk3 1 (h:=Zg (Za (Z2 (h:=xA (h:=Zb rfl (fun g1=>?_) (fun g1=>?_))))))))))))))
 try simp only [sQ,ne_eq] at g1
 have hfl:=Zot hok g1
 have hq1:=Zxb (a:=w.flags) (b:=x.flag) oz oz oz
 refine Za (xW Ze5 (h:=x1 lk3 2 (h:=xW Ze3 (h:=x1 lk3 1 (h:=Zh (Zo4 rfl rfl rfl rfl oz (by first | exact Zb2 om om | rfl) ?_))))))
 refine Zh (ZqA rfl rfl rfl rfl oz rfl ?_)
 refine Z2 (h:=xA (h:=Zf (Zt (Zj ?_))))
 exact eR t1 ⟨Zc (by rw [ZbK,if_pos g1]),rfl,rfl⟩
 try simp only [sQ,ne_eq] at g1
 refine Za (Z2 (h:=xA (h:=Zb rfl (fun g2=>?_) (fun g2=>?_))))
 try simp only [sQ,ne_eq] at g2
 refine Za (xW ZdU (h:=x1 lk9 2 (h:=xW ZeK (h:=x1 lk9 1 (h:=xR ZDH rfl (Zu1 w.text x.text om2 om2 _) (h:=?_))))))
 refine xA (h:=Zf (Zt (Zj ?_)))
 exact eR t1 ⟨Zc (by rw [ZbK,if_neg g1,if_pos g2]),rfl,rfl⟩
 try simp only [sQ,ne_eq] at g2
 refine Za (Z2 (h:=xA (h:=Zb rfl (fun g3=>?_) (fun g3=>?_))))
 try simp only [sQ,ne_eq] at g3
 refine Za (xW Zcf (h:=x1 Zj6 1 (h:=xW ZaI (h:=x1 Zfs 0 (h:=xV Tryz.underlying80 (h:=xM (h:=xD (h:=xR ZAF rfl (Zr1 _ _ x.set ↑b.mail.length ((i:Int)+1) _ hs) (h:=xA (h:=Zf (Zt (Zj ?_))))))))))))
 exact eR t1 ⟨Zc (by rw [ZbK,if_neg g1,if_neg g2,if_pos g3]),rfl,rfl⟩
 try simp only [sQ,ne_eq] at g3
 refine Za (Z2 (h:=xA (h:=Zb rfl (fun g4=>?_) (fun g4=>?_))))
 try simp only [sQ,ne_eq] at g4
 refine Ze (ZW (same _ _) mo kr ⟨rfl,rfl⟩ (fun _ _=>?_))
 refine aW 0 rfl Zcf (h:=aT 1 rfl (Z3 fun D=>Zn rfl rfl Zj6 rfl (atL 1 rfl rfl rfl) r4) (h:=aW 2 rfl ZaI (h:=aT 3 rfl (Z3 fun D=>Zn rfl rfl Zfs rfl (atL 0 rfl rfl rfl) r4) (h:=aW 4 rfl ZaI (h:=aT 5 rfl (Z3 fun D=>Zn rfl rfl Zfs rfl (atL 0 rfl rfl rfl) r4) (h:=aV 6 rfl Tryz.underlying80 (h:=aU 7 rfl (h:=?_))))))))
 obtain ⟨l,hl⟩:=Zvq (xs:=b.mail) (i:=(↑b.mail.length - 1)) om om
 obtain ⟨_,⟨rfl,hb9⟩,hc9⟩:=hb.elem hl
 refine aIx 8 rfl Tryz.underlying80 ZcB (h:=aW 9 rfl Zb7 (h:=aT 10 rfl (Z3 fun D=>Zn rfl rfl lk3 rfl (hc9 _ 0 _ rfl) r4) (h:=aW 11 rfl Zb7 (h:=aT 12 rfl (Z3 fun D=>Zn rfl rfl lk3 rfl (atL 2 rfl rfl rfl) r4) (h:=aT 13 rfl (Z3 fun D=>Z5 rfl rfl ZAF rfl (Zr1 _ _ x.set l.uid w.uid _ hs) r4) (h:=aA 14 rfl (h:=Zy kr kr ?_)))))))
 refine Zm (Zf (Zt (Zj ?_)))
 exact eR t1 ⟨Zc (by rw [ZbK,if_neg g1,if_neg g2,if_neg g3,if_pos g4,ZoC (i:=(b.mail.length:Int) - 1) hl oz]),rfl,rfl⟩
 try simp only [sQ,ne_eq] at g4
 refine Za (Z2 (h:=xA (h:=Zb rfl (fun g5=>?_) (fun g5=>?_))))
 try simp only [sQ,ne_eq] at g5
 obtain ⟨m,rfl⟩:=hk.succ oz
 obtain ⟨y,hy⟩:=ZrF (hno.2.1 g5)
 have hky:=Znr hy
 refine Ze (ZW (same _ _) mo kr ⟨rfl,rfl⟩ (fun _ _=>?_))
 refine aT 0 rfl (Z3 fun D=>ZI [_,_] rfl rfl Zhm rfl (ZbZ 0 rfl rfl rfl) r4) (h:=aW 1 rfl Zbk (h:=aT 2 rfl (Z3 fun D=>Zn rfl rfl ZhF rfl (atL 1 rfl rfl rfl) r4) (h:=?_)))
 obtain ⟨bb11,oo11,rfl⟩:=hk.base hky
 obtain ⟨_,⟨qs12,cs12,qk12,ck12,rfl,hs12,hk12,hb12⟩,hc12⟩:=hk.elem hky
 have hs12n:=hs12.len
 have hk12n:=hk12.len
 refine aIx 3 rfl Tryz.underlying61 Zi1 (h:=aT 4 rfl (Z3 fun D=>ZI [_,_,_,_,_] rfl rfl ZfW rfl (Zhh hc12 0 rfl rfl) r4) (h:=aM 5 rfl (h:=aT 6 rfl (Z3 fun D=>Z5 rfl rfl Zp7 rfl (hK m rfl _ _ b _ _ _ _ y i _ hw hbo (hsub _ (List.mem_of_getElem? hky)) om2 _ hb hs12 hk12) r4) (h:=?_))))
 refine aN 7 rfl (h:=aA 8 rfl (h:=Zy kr kr ?_))
 refine Zm (Zf (Zt (Zj ?_)))
 exact eR t1 ⟨Zc (Zl8 g5 hy).symm,rfl,rfl⟩
 try simp only [sQ,ne_eq] at g5
 refine Za (Z2 (h:=xA (h:=Zb rfl (fun g6=>?_) (fun g6=>?_))))
 try simp only [sQ,ne_eq] at g6
 obtain ⟨m,rfl⟩:=hk.succ oz
 obtain ⟨y,z,hyz⟩:=ZjJ (hno.2.2.1 oz).1
 have hky:=Znr hyz
 have hkz:=Zr9 hyz
 refine Ze (ZW (same _ _) mo kr ⟨rfl,rfl⟩ (fun _ _=>?_))
 refine aT 0 rfl (Z3 fun D=>ZI [_,_] rfl rfl Zhm rfl (ZbZ 0 rfl rfl rfl) r4) (h:=aW 1 rfl Zbk (h:=aT 2 rfl (Z3 fun D=>Zn rfl rfl ZhF rfl (atL 1 rfl rfl rfl) r4) (h:=?_)))
 obtain ⟨bb14,oo14,rfl⟩:=hk.base hky
 obtain ⟨_,⟨qs15,cs15,qk15,ck15,rfl,hs15,hk15,hb15⟩,hc15⟩:=hk.elem hky
 have hs15n:=hs15.len
 have hk15n:=hk15.len
 refine aIx 3 rfl Tryz.underlying61 Zi1 (h:=aT 4 rfl (Z3 fun D=>ZI [_,_,_,_,_] rfl rfl ZfW rfl (Zhh hc15 0 rfl rfl) r4) (h:=aM 5 rfl (h:=aT 6 rfl (Z3 fun D=>Z5 rfl rfl Zp7 rfl (hK m rfl _ _ b _ _ _ _ y i _ hw hbo (hsub _ (List.mem_of_getElem? hky)) om2 _ hb hs15 hk15) r4) (h:=?_))))
 refine aM 7 rfl (h:=Zax (d:=76) rfl (fun g8=>?_) (fun g8=>?_))
 try simp only [sQ,ne_eq] at g8
 refine aT 8 rfl (Z3 fun D=>ZI [_,_] rfl rfl Zhm rfl (ZbZ 0 rfl rfl rfl) r4) (h:=aW 9 rfl Zbk (h:=aT 10 rfl (Z3 fun D=>Zn rfl rfl ZhF rfl (atL 1 rfl rfl rfl) r4) (h:=?_)))
 obtain ⟨_,⟨qs17,cs17,qk17,ck17,rfl,hs17,hk17,hb17⟩,hc17⟩:=hk.elem hkz
 have hs17n:=hs17.len
 have hk17n:=hk17.len
 refine aIx 11 rfl Tryz.underlying61 Zi1 (h:=aT 12 rfl (Z3 fun D=>ZI [_,_,_,_,_] rfl rfl ZfW rfl (Zhh hc17 0 rfl rfl) r4) (h:=aM 13 rfl (h:=aT 14 rfl (Z3 fun D=>Z5 rfl rfl Zp7 rfl (hK m rfl _ _ b _ _ _ _ z i _ hw hbo (hsub _ (List.mem_of_getElem? hkz)) om2 _ hb hs17 hk17) r4) (h:=?_))))
 refine aPT 15 rfl (h:=aA 16 rfl (h:=Zy kr kr ?_))
 refine Zm (Zf (Zt (Zj ?_)))
 exact eR t1 ⟨Zc (by rw [Ziv g6 hyz,g8,Bool.true_and]),rfl,rfl⟩
 try simp only [sQ,ne_eq] at g8
 refine aZ 8 rfl (h:=aZ 9 rfl (h:=aZ 10 rfl (h:=aZ 11 rfl (h:=aZ 12 rfl (h:=aZ 13 rfl (h:=aZ 14 rfl (h:=aPF 15 rfl (h:=aA 16 rfl (h:=Zy kr kr ?_)))))))))
 refine Zm (Zf (Zt (Zj ?_)))
 exact eR t1 ⟨Zc (by rw [Ziv g6 hyz,show y.finds b i w=false by simpa using g8,Bool.false_and]),rfl,rfl⟩
 try simp only [sQ,ne_eq] at g6
 refine Za (Z2 (h:=xA (h:=Zb rfl (fun g7=>?_) (fun g7=>?_))))
 try simp only [sQ,ne_eq] at g7
 obtain ⟨m,rfl⟩:=hk.succ oz
 obtain ⟨y,z,hyz⟩:=ZjJ (hno.2.2.1 oz).1
 have hky:=Znr hyz
 have hkz:=Zr9 hyz
 refine Ze (ZW (same _ _) mo kr ⟨rfl,rfl⟩ (fun _ _=>?_))
 refine aT 0 rfl (Z3 fun D=>ZI [_,_] rfl rfl Zhm rfl (ZbZ 0 rfl rfl rfl) r4) (h:=aW 1 rfl Zbk (h:=aT 2 rfl (Z3 fun D=>Zn rfl rfl ZhF rfl (atL 1 rfl rfl rfl) r4) (h:=?_)))
 obtain ⟨bb19,oo19,rfl⟩:=hk.base hky
 obtain ⟨_,⟨qs20,cs20,qk20,ck20,rfl,hs20,hk20,hb20⟩,hc20⟩:=hk.elem hky
 have hs20n:=hs20.len
 have hk20n:=hk20.len
 refine aIx 3 rfl Tryz.underlying61 Zi1 (h:=aT 4 rfl (Z3 fun D=>ZI [_,_,_,_,_] rfl rfl ZfW rfl (Zhh hc20 0 rfl rfl) r4) (h:=aM 5 rfl (h:=aT 6 rfl (Z3 fun D=>Z5 rfl rfl Zp7 rfl (hK m rfl _ _ b _ _ _ _ y i _ hw hbo (hsub _ (List.mem_of_getElem? hky)) om2 _ hb hs20 hk20) r4) (h:=?_))))
 refine aM 7 rfl (h:=Zax (d:=94) rfl (fun g8=>?_) (fun g8=>?_))
 try simp only [sQ,ne_eq] at g8
 refine aZ 8 rfl (h:=aZ 9 rfl (h:=aZ 10 rfl (h:=aZ 11 rfl (h:=aZ 12 rfl (h:=aZ 13 rfl (h:=aZ 14 rfl (h:=aPT 15 rfl (h:=aA 16 rfl (h:=Zy kr kr ?_)))))))))
 refine Zm (Zf (Zt (Zj ?_)))
 exact eR t1 ⟨Zc (by rw [Zkt g7 hyz,g8,Bool.true_or]),rfl,rfl⟩
 try simp only [sQ,ne_eq] at g8
 refine aT 8 rfl (Z3 fun D=>ZI [_,_] rfl rfl Zhm rfl (ZbZ 0 rfl rfl rfl) r4) (h:=aW 9 rfl Zbk (h:=aT 10 rfl (Z3 fun D=>Zn rfl rfl ZhF rfl (atL 1 rfl rfl rfl) r4) (h:=?_)))
 obtain ⟨_,⟨qs22,cs22,qk22,ck22,rfl,hs22,hk22,hb22⟩,hc22⟩:=hk.elem hkz
 have hs22n:=hs22.len
 have hk22n:=hk22.len
 refine aIx 11 rfl Tryz.underlying61 Zi1 (h:=aT 12 rfl (Z3 fun D=>ZI [_,_,_,_,_] rfl rfl ZfW rfl (Zhh hc22 0 rfl rfl) r4) (h:=aM 13 rfl (h:=aT 14 rfl (Z3 fun D=>Z5 rfl rfl Zp7 rfl (hK m rfl _ _ b _ _ _ _ z i _ hw hbo (hsub _ (List.mem_of_getElem? hkz)) om2 _ hb hs22 hk22) r4) (h:=?_))))
 refine aPF 15 rfl (h:=aA 16 rfl (h:=Zy kr kr ?_))
 refine Zm (Zf (Zt (Zj ?_)))
 exact eR t1 ⟨Zc (by rw [Zkt g7 hyz,show y.finds b i w=false by simpa using g8,Bool.false_or]),rfl,rfl⟩
 try simp only [sQ,ne_eq] at g7
 refine ZK (ZD (Zm (Za (xA (h:=Zf ?_)))))
 exact eR t1 ⟨Zc (by rw [ZbK,if_neg g1,if_neg g2,if_neg g3,if_neg g4,if_neg g5,if_neg g6,if_neg g7]),rfl,rfl⟩

theorem ZlT (n:Nat):FdK J n:=(ZdR (L:=fun n=>∀m,n=m+1→FdK J m) (K:=FdK J) (fun n h=>h) (fun n h=>ZpM n h) n).2

theorem Zlg (n:Nat) (qm:Option Addr) (cm:Nat) (b:DBox) (q q':Option Addr) (c c':Nat) (x:DKey) (h1:x.text.length≤2000000) (hN:x.nodes≤2000000) (B:Kn) (hb:SlK B qm cm 3 Zah b.mail) (hs:SlK B q c 2 ZN x.set) (hk:SlK B q' c' 5 (Zbw n) x.keys):Zu (pj J) 60 [.agg #[.int .i64 b.next,.slice qm b.mail.length cm],.agg #[.int .i64 x.kind,.int .i64 x.flag,str x.text,.slice q x.set.length c,.slice q' x.keys.length c']] B [] (fun v B' Ls=>Ls=[]∧∃a c,v = .slice a (Zan b x).length c∧SlK B' a c 1 Z9 (Zan b x)):=by
 refine cB 33 Tryz.func60 (h:=?_)
 have hbn:=hb.len
 refine Za (xBx [_,_] (h:=fun b1=>xBx [_,_,_,_,_] (h:=fun b2=>xA (h:=tL2 (Za (xBs [] [] Tryz.underlying58 sz3 zo3 (h:=fun b3=>xA (h:=tL3 (Ze (Za (xA (h:=Zg (Zv (α:=Gh Int) [0,1,2,3,4] (fun g=>[(5,.slice g.a g.xs.length g.c),(6,.int .i64 g.k)]) [2] (fun g=>[g.l]) (fun g Bx=>Bx=B∧g.k≤b.mail.length∧g.xs.length≤g.k∧g.xs=plc 0 ((fnds b x).take g.k)∧(0<g.k→Zbq b=true∧ZdE x=true)∧ZR Bx g.l g.a g.c 3 1 Z9 g.xs) (fun g=>b.mail.length - g.k) ⟨0,0,_,_,_,[]⟩ t2 rfl (⟨rfl,Nat.zero_le _,Nat.le_refl _,rfl,fun h=>absurd h (Nat.lt_irrefl 0),.lit0⟩) (fun g B4 hle4 hI=>?_))))))))))))))
 obtain ⟨rfl,hk0,hgl,hxs,hgo,hv⟩:=hI
 refine Zz [(0,_),(1,_),(2,_),(3,_),(4,_),(5,_),(6,_)] [_,_,_] t7 rfl (Ze (Za (xM (h:=xW ZaI (h:=x1 Zfs 0 (h:=xV Tryz.underlying80 (h:=ZC (h:=xM (h:=Zq (d:=13) rfl (fun g1=>?_) (fun g1=>?_))))))))))
 try simp only [sQ,ne_eq] at g1
 refine xL [_,_] Zhm 0 (h:=xR ZEz rfl (Zlk _ _ (⟨b.next,b.mail⟩:DBox) _ hb) (h:=xT (h:=xM (h:=Zq (d:=17) rfl (fun g2=>?_) (fun g2=>?_)))))
 try simp only [sQ,ne_eq] at g2
 refine xL [_,_,_,_,_] ZfW 1 (h:=xR ZED rfl (Zli _ _ _ _ _ x om2 om2 _ hs hk) (h:=?_))
 refine xT (h:=Zb rfl (fun g3=>?_) (fun g3=>?_))
 try simp only [sQ,ne_eq] at g3
 have hbo:Zbq b=true:=by simpa using g2
 have hko:ZdE x=true:=by simpa using g3
 have hka:x.allOk=true:=by rw [ZdE,Bool.and_eq_true] at hko;exact hko.1
 obtain ⟨w,hw⟩:=ZM (xs:=b.mail) (i:=g.k) (by simp at g1;omega)
 have hfw:=ZdW (k:=x) hw
 refine wSk (Ze (Zg (Za (xL [_,_] Zhm 0 (h:=xL [_,_,_,_,_] ZfW 1 (h:=xM (h:=xR Zp7 rfl (ZlT _ _ _ b _ _ _ _ x g.k _ hw hbo hka om2 _ hb hs hk) (h:=?_))))))))
 refine Zb rfl (fun g4=>?_) (fun g4=>?_)
 try simp only [sQ,ne_eq] at g4
 refine Zd (xM (h:=xM (h:=xD (h:=xBs [(0,_)] [_] Tryz.underlying58 sz3 zo3 (h:=fun b8=>Zh (ZkZ (z:=((g.k+1:Nat):Int)) (R:=Z9) 2 rfl hv rfl rfl rfl ZCl ZBH rfl rfl (ZcX.box 3 rfl) rfl rfl (rfl) om (fun l9 p9 c9 hv9=>?_)))))))
 refine xA (h:=ZD (Zm (Zd (xM (h:=xD (h:=xA (h:=?_)))))))
 exact Zx ⟨g.k+1,0,l9,p9,c9,(g.xs ++ [((g.k+1:Nat):Int)])⟩ [0,1,2] so2 ⟨rfl,by simp at g1;simp only [];omega,by simp;omega,by simp only [];rw [Zrs (by rw [hfw];simpa using g4),hxs],fun _=>⟨hbo,hko⟩,hv9⟩ t7 rfl
 try simp only [sQ,ne_eq] at g4
 refine ZK (ZD (Zm (Zd (xM (h:=xD (h:=xA (h:=?_)))))))
 exact Zx ⟨g.k+1,0,g.l,g.a,g.c,g.xs⟩ [0,1,2] so2 ⟨rfl,by simp at g1;simp only [];omega,so,by simp only [];rw [Zwo (by rw [hfw];simpa using g4),hxs],fun _=>⟨hbo,hko⟩,hv⟩ t7 rfl
 try simp only [sQ,ne_eq] at g3
 have hse:Zan b x=g.xs:=Zev hxs hgo (.inr (.inr (by simpa using g3)))
 rw [hse]
 refine ZA (ZQ (ZB (Zs (Zm (Za (xM (h:=Zgj 2 rfl hv Z9.mono om3 (fun B10 hle10 hr10=>?_))))))))
 have hr10n:=hr10.len
 refine xA (h:=tL3 (Zf ?_))
 exact eN [] rfl t1 ⟨rfl,_,_,rfl,hr10⟩
 try simp only [sQ,ne_eq] at g2
 have hse:Zan b x=g.xs:=Zev hxs hgo (.inr (.inl (by simpa using g2)))
 rw [hse]
 refine xP (h:=xP (h:=xF (h:=Zb (t:=false) rfl (fun h=>Bool.noConfusion h) (fun _=>ZA (ZQ (ZB (Zs (Zm (Za (xM (h:=Zgj 2 rfl hv Z9.mono om3 (fun B11 hle11 hr11=>?_))))))))))))
 have hr11n:=hr11.len
 refine xA (h:=tL3 (Zf ?_))
 exact eN [] rfl t1 ⟨rfl,_,_,rfl,hr11⟩
 try simp only [sQ,ne_eq] at g1
 have hse:Zan b x=g.xs:=Zev hxs hgo (.inl (by simp at g1;omega))
 rw [hse]
 refine xP (h:=xP (h:=xF (h:=xM (h:=xP (h:=xP (h:=xF (h:=Zb (t:=false) rfl (fun h=>Bool.noConfusion h) (fun _=>ZA (ZQ (ZB (Zs (Zm (Za (xM (h:=Zgj 2 rfl hv Z9.mono om3 (fun B12 hle12 hr12=>?_))))))))))))))))
 have hr12n:=hr12.len
 refine xA (h:=tL3 (Zf ?_))
 exact eN [] rfl t1 ⟨rfl,_,_,rfl,hr12⟩

theorem Zph (n:Nat) (q1 q2 q3:Option Addr) (c1 c2 c3:Nat) (x:DHost) (s:DSess) (hs1:s.user.length≤2000000) (hs2:s.owner.length≤2000000) (hs3:s.name.length≤2000000) (q q':Option Addr) (c c':Nat) (y:DKey) (hy1:y.text.length≤2000000) (hN:y.nodes≤2000000) (hd:x.domain.length≤2000000) (B:Kn) (hu:SlK B q1 c1 3 ZL x.users) (hf:SlK B q2 c2 5 ZF x.folders) (hi:SlK B q3 c3 4 Zar x.queue.items) (hys:SlK B q c 2 ZN y.set) (hyk:SlK B q' c' 5 (Zbw n) y.keys):Zu (pj J) 19 [.agg #[str x.domain,.slice q1 x.users.length c1,.slice q2 x.folders.length c2,.int .i64 x.queue.next,.slice q3 x.queue.items.length c3],.agg #[str s.user,str s.owner,str s.name],.agg #[.int .i64 y.kind,.int .i64 y.flag,str y.text,.slice q y.set.length c,.slice q' y.keys.length c']] B [] (fun v B' Ls=>Ls=[]∧∃qz cz,v = .tuple #[.slice qz (Zaq x s y).1.length cz,.int .i64 (Zaq x s y).2]∧SlK B' qz cz 1 Z9 (Zaq x s y).1):=by
 refine cB 37 Tryz.func19 (h:=?_)
 have hun:=hu.len
 have hfn:=hf.len
 have hin:=hi.len
 have hix:=Zij (inF s.owner s.name) x.folders
 refine Za (xBx [_,_,_,_,_] (h:=fun b1=>xBx [_,_,_] (h:=fun b2=>xBx [_,_,_,_,_] (h:=fun b3=>xA (h:=xA (h:=tL3 (Ze (Za (xL [_,_,_,_,_] ZgD 0 (h:=xR ZFO rfl (Zpi _ _ _ _ _ _ x om2 _ hu hf hi) (h:=?_)))))))))))
 refine xN (h:=xM (h:=Zq (d:=13) rfl (fun g1=>?_) (fun g1=>?_)))
 try simp only [sQ,ne_eq] at g1
 refine xP (h:=xP (h:=xP (h:=xT (h:=Zb (t:=true) rfl (fun _=>Za (xBs [] [] Tryz.underlying58 sz3 zo3 (h:=fun b5=>Zgj 3 rfl (ZR.lit0 (R:=Z9) (w:=1)) Z9.mono om3 (fun B6 hle6 hr6=>?_)))) (fun h=>Bool.noConfusion h)))))
 replace hu:=hu.mono ZL.mono hle6
 replace hf:=hf.mono ZF.mono hle6
 replace hys:=hys.mono ZN.mono hle6
 replace hyk:=hyk.mono Zbw.mono hle6
 have hr6n:=hr6.len
 refine xA (h:=?_)
 rw [Zaq,if_pos (by simp [g1])]
 refine xA (h:=tL4 (Zf (Zj ?_)))
 exact Zdh .ret (.inl rfl) [_,_] [] rfl t2 ⟨rfl,_,_,rfl,hr6⟩
 try simp only [sQ,ne_eq] at g1
 refine xL [_,_,_,_,_] ZfW 2 (h:=xR ZED rfl (Zli _ _ _ _ _ y om2 om2 _ hys hyk) (h:=?_))
 refine xN (h:=xF (h:=Zb rfl (fun g2=>?_) (fun g2=>?_)))
 try simp only [sQ,ne_eq] at g2
 refine Za (xBs [] [] Tryz.underlying58 sz3 zo3 (h:=fun b8=>Zgj 3 rfl (ZR.lit0 (R:=Z9) (w:=1)) Z9.mono om3 (fun B9 hle9 hr9=>?_)))
 replace hu:=hu.mono ZL.mono hle9
 replace hf:=hf.mono ZF.mono hle9
 replace hys:=hys.mono ZN.mono hle9
 replace hyk:=hyk.mono Zbw.mono hle9
 have hr9n:=hr9.len
 refine xA (h:=?_)
 rw [Zaq,if_pos (by simp [g2])]
 refine xA (h:=tL4 (Zf (Zj ?_)))
 exact Zdh .ret (.inl rfl) [_,_] [] rfl t2 ⟨rfl,_,_,rfl,hr9⟩
 try simp only [sQ,ne_eq] at g2
 have hok:ZaB x=true:=by simpa using g1
 have hrr:=Zki hok
 have hnn : ¬ ¬ (ZaB x=true∧ZdE y=true):=fun h=>h ⟨hok,by simpa using g2⟩
 refine wSk (Za (xL [_,_,_,_,_] ZgD 0 (h:=xL [_,_,_] ZA3 1 (h:=xR ZFM rfl (ZxN _ _ _ _ _ _ x s om2 om2 om2 2 hrr oz _ hu hf) (h:=?_)))))
 refine xM (h:=xE (h:=xE (h:=xA (h:=xA (h:=Ze (Za (xM (h:=Zaa (h:=Zb rfl (fun g5=>?_) (fun g5=>?_))))))))))
 try simp only [sQ,ne_eq] at g5
 refine Za (xBs [] [] Tryz.underlying58 sz3 zo3 (h:=fun b11=>Zgj 3 rfl (ZR.lit0 (R:=Z9) (w:=1)) Z9.mono om3 (fun B12 hle12 hr12=>?_)))
 replace hf:=hf.mono ZF.mono hle12
 replace hys:=hys.mono ZN.mono hle12
 replace hyk:=hyk.mono Zbw.mono hle12
 have hr12n:=hr12.len
 refine xM (h:=?_)
 rw [Zaq,if_neg hnn,if_pos g5]
 refine xA (h:=xA (h:=tL4 (Zf (Zj ?_))))
 exact Zdh .ret (.inl rfl) [_,_] [] rfl t2 ⟨rfl,_,_,rfl,hr12⟩
 try simp only [sQ,ne_eq] at g5
 obtain ⟨hat,hk0,_,_,_⟩:=ZvR g5
 obtain ⟨f,hf0⟩ :∃f,x.folders[(atF x s 2).1.toNat]? = some f:=⟨_,List.getElem?_eq_getElem oz⟩
 have hse:Zaq x s y=(Zan (⟨f.next,f.mail⟩:DBox) y,0):=by rw [Zaq,if_neg hnn,if_neg (fun h=>h g5),Zfo hf0];rfl
 rw [hse]
 refine wSk (Ze (ZW (keeps _ [0,2] _) mo kr ⟨Kn.le.refl _,ZaH.refl _ _⟩ (fun _ _=>?_)))
 refine aW 0 rfl Za5 (h:=aT 1 rfl (ZO fun D B L hI=>Zn rfl rfl ZgE rfl (atL 0 (hI.2.1.trans rfl) rfl rfl) r4) (h:=aM 2 rfl (h:=?_)))
 obtain ⟨bb13,oo13,rfl⟩:=hf.base hf0
 obtain ⟨_,⟨qg14,cg14,qm14,cm14,rfl,hg14,hm14,hb14,hb14b⟩,hc14⟩:=hf.elem hf0
 have hg14n:=hg14.len
 have hm14n:=hm14.len
 have hm14s:=ZaN hm14
 refine aIx 3 rfl Tryz.underlying36 ZeO (h:=aW 4 rfl Zed (h:=aT 5 rfl (ZO fun D B L hI=>ZI [_,_] rfl rfl Zhm rfl (Zhh (hc14.mono hI.1) 3 rfl rfl) r4) (h:=aT 6 rfl (ZO fun D B L hI=>ZI [_,_,_,_,_] rfl rfl ZfW rfl (ZbZ 2 (hI.2.2.1.trans rfl) rfl rfl) r4) (h:=ZV 7 kr rfl kr (ZjG rfl rfl ZFz rfl (Zlg _ _ _ (⟨f.next,f.mail⟩:DBox) _ _ _ _ y om2 om2 _ hm14 hys hyk) ?_)))))
 intro v15 B15 hle15
 rintro ⟨a15,c15,rfl,hs15⟩
 have hs15n:=hs15.len
 refine ⟨⟨hle15,t2⟩,(aA 8 rfl (h:=aA 9 rfl (h:=Zy kr kr ?_)))⟩
 refine Zm (Zf ?_)
 exact Zdh .ret (.inl rfl) [_,_] [] rfl t2 ⟨rfl,_,_,rfl,hs15⟩

theorem ZzO:Extern.find Tryz.f292=some (Extern.BytealgMakeNoZero.makeNoZero Tryz.f292.params #[221]):=by kernel_rfl
theorem ZE8:Extern.findNext Tryz.f292=none:=by kernel_rfl
theorem ZzT:Extern.find Tryz.f291=some Extern.AbiNoEscape.same:=by kernel_rfl
theorem ZE9:Extern.findNext Tryz.f291=none:=by kernel_rfl

theorem Zto (b:Nat) (q:Option Addr) (m cp:Nat) (B:Kn):Zu (pj J) 282 [ptr ⟨b,0,none⟩] B [ZP b [.pointer none,.slice q m cp] 359] (fun v B' Ls=>B'=B∧Ls=[ZP b [ptr ⟨b,0,none⟩,.slice q m cp] 359]):=by
 refine cB 20 Tryz.func282 (h:=?_)
 refine Za (xM (h:=xNc (h:=xW Zkp (h:=x1 ZxL 0 (h:=Zh (ZqG rfl rfl rfl rfl rfl (Zkx Tryz.underlying357) (Zb rfl (fun g1=>?_) (fun g1=>by cases g1))))))))
 refine Zd (xM (h:=xM (h:=Zh (Zy1 0 rfl (by simp) rfl rfl Tryz.underlying357 Tryz.underlying290 Zxg rfl ?_))))
 refine Zh (ZqE (xs:=[_]) (fn:=Tryz.f291) rfl rfl Tryz.func291 rfl rfl ZE9 ZzT rfl (fun Q F q=>q) (Zh (Zy4 0 rfl rfl rfl Tryz.underlying290 Tryz.underlying357 (k:=2) kr rfl rfl Zxg rfl ?_)))
 refine xNc (h:=xW Zkp (h:=xS [_] 0 [_,_] ZBw (h:=?_)))
 exact Zdh .normal (.inr rfl) [] [0] rfl trivial ⟨rfl,rfl⟩

theorem Zms (b:Nat) (q:Option Addr) (m cp:Nat) (B:Kn):Zu (pj J) 282 [ptr ⟨b,0,none⟩] B [ZP b [ptr ⟨b,0,none⟩,.slice q m cp] 359] (fun v B' Ls=>B'=B∧Ls=[ZP b [ptr ⟨b,0,none⟩,.slice q m cp] 359]):=by
 refine cB 20 Tryz.func282 (h:=?_)
 refine Za (xM (h:=xNc (h:=xW Zkp (h:=x1 ZxL 0 (h:=Zh (ZqG rfl rfl rfl rfl rfl (Zkx Tryz.underlying357) (Zb rfl (fun g1=>by cases g1) (fun g1=>?_))))))))
 refine Za (xM (h:=xNc (h:=xW Zkp (h:=x1 ZxL 0 (h:=xM (h:=Zh (Zwc rfl rfl rfl rfl rfl (ZsZ Tryz.underlying357 Zxg) (Zb rfl (fun g2=>by cases g2) (fun g2=>?_)))))))))
 refine ZK ?_
 exact Zdh .normal (.inr rfl) [] [0] rfl trivial ⟨rfl,rfl⟩

theorem Ztn (b n:Nat) (pa:Value) (hn0:0<n) (hn1:n≤20) (B:Kn):Zu (pj J) 283 [ptr ⟨b,0,none⟩,.int .i64 n] B [ZP b [pa,.slice none 0 0] 359] (fun v B' Ls=>B'=B∧∃q c l,Ls=[ZP b [pa,.slice q 0 c] 359,l]∧n≤c∧ZR Kn.none l q c 5 1 Zem ([]:List UInt8)):=by
 refine cB 30 Tryz.func283 (h:=?_)
 refine Ze (ZW (keeps _ [0] _) mo kr ⟨Kn.le.refl _,ZaH.refl _ _⟩ (fun _ _=>?_))
 refine aM 0 rfl (h:=aNc 1 rfl (h:=aW 2 rfl Zc1 (h:=aT 3 rfl (ZO fun D B L hI=>Zn rfl rfl Zj7 rfl (atL 0 (hI.2.1.trans rfl) rfl rfl) r4) (h:=aT 4 rfl (ZO fun D B L hI=>Zwj rfl rfl Tryz.underlying221 rfl r4) (h:=aT 5 rfl (ZO fun D B L hI=>ZjF rfl rfl rfl rfl (by first | exact Zb2 om om | rfl) r4) (h:=?_))))))
 refine aM 6 rfl (h:=aD 7 rfl (h:=aM 9 rfl (h:=aNc 10 rfl (h:=aW 11 rfl Zc1 (h:=aT 12 rfl (ZO fun D B L hI=>Zn rfl rfl Zj7 rfl (atL 0 (hI.2.1.trans rfl) rfl rfl) r4) (h:=aV 13 rfl Tryz.underlying221 (h:=ZV 8 kr rfl kr (Zze (xs:=[_]) (fn:=Tryz.f292) (R:=fun r s=>∃(b9:Nat) (arr:List Value),r = .slice (some ⟨b9,0,none⟩) n arr.length∧n≤arr.length∧s=ZP b9 arr 5) rfl rfl Tryz.func292 rfl rfl ZE8 ZzO rfl (fun Q F q=>Zvj Tryz.underlying221 oz oz q) (fun r9 s9 hR9=>?_)))))))))
 obtain ⟨b9,arr9,rfl,hc9,rfl⟩:=hR9
 refine ⟨⟨Kn.le.refl _,t1⟩,(aT 14 rfl (ZO fun D B L hI=>Zn7 (a:=0) (b:=0) (v:=.slice (some ⟨b9,0,Option.none⟩) 0 arr9.length) (by (rw [if_neg oz];simp [Addr.add])) (Nat.zero_le _) oz rfl rfl Tryz.underlying221 sz5 rfl rfl ⟨_,_,rfl,rfl⟩ r4) (h:=?_))⟩
 refine aA 15 rfl (h:=Zy kr kr ?_)
 refine Zm ?_
 refine Zo2 [_,_] rfl ?_
 refine Za ?_
 refine Zh (Za9 rfl rfl rfl ?_)
 refine Zh (Za9 rfl rfl rfl ?_)
 refine Zh (ZaF rfl rfl rfl ?_)
 refine Zh (Zac rfl rfl Zc1 rfl ?_)
 refine Zh (Zn rfl rfl Zj7 rfl (atL 0 rfl rfl rfl) ?_)
 refine Zh (Zzh (m:=0) (ws:=[]) (r:=[]) 1 (by rw [List.append_nil];rfl) rfl rfl Tryz.underlying221 sz5 rfl rfl rfl rfl (by simp) rfl (by simp) ?_)
 refine tL2 (Zd (xM (h:=xM (h:=xNc (h:=xW Zc1 (h:=xS [_] 0 [_,_] Zxh (h:=?_)))))))
 have hv9:ZR Kn.none (ZP b9 (Z7 arr9 0 []) 5 ++ []) (some ⟨b9,0,none⟩) arr9.length 5 1 Zem ([]:List UInt8):=Zmo ⟨rfl,.inr ⟨b9,Z7 arr9 0 [],rfl,by rw [Zbh];simp,by simp [Zaw],by simp,Nat.zero_le _⟩⟩
 exact Zdh .normal (.inr rfl) [] [0,1] rfl trivial ⟨rfl,_,_,_,rfl,hc9,hv9⟩

theorem Zqd (b n:Nat) (hn0:0<n) (hn1:n≤20) (B:Kn):Zu (pj J) 271 [ptr ⟨b,0,none⟩,.int .i64 n] B [ZP b [.pointer none,.slice none 0 0] 359] (fun v B' Ls=>B'=B∧∃q c l,Ls=[ZP b [ptr ⟨b,0,none⟩,.slice q 0 c] 359,l]∧ZR Kn.none l q c 5 1 Zem ([]:List UInt8)):=by
 refine cB 25 Tryz.func271 (h:=?_)
 refine Za (xM (h:=xK [0] rfl ZyD rfl (Zto _ _ _ _ _) (h:=?_)))
 rintro _ B1 _ hle1 ⟨rfl,rfl⟩
 refine tL1 (Ze (Za (xM (h:=ZC (h:=Zb rfl (fun g1=>by simp at g1;omega) (fun g1=>?_))))))
 refine wSk (Ze (ZW (keeps _ [0] _) mo kr ⟨Kn.le.refl _,ZaH.refl _ _⟩ (fun _ _=>?_)))
 refine aM 0 rfl (h:=aNc 1 rfl (h:=aW 2 rfl Zc1 (h:=aT 3 rfl (ZO fun D B L hI=>Zn rfl rfl Zj7 rfl (atL 0 (hI.2.1.trans rfl) rfl rfl) r4) (h:=aT 4 rfl (ZO fun D B L hI=>Zwj rfl rfl Tryz.underlying221 rfl r4) (h:=aM 5 rfl (h:=aNc 6 rfl (h:=aW 7 rfl Zc1 (h:=aT 8 rfl (ZO fun D B L hI=>Zn rfl rfl Zj7 rfl (atL 0 (hI.2.1.trans rfl) rfl rfl) r4) (h:=aV 9 rfl Tryz.underlying221 (h:=aU 10 rfl (h:=aM 11 rfl (h:=Zty 12 rfl (h:=Zy kr kr ?_)))))))))))))
 refine Zm (Zb rfl (fun g2=>?_) (fun g2=>by simp at g2;omega))
 refine Zd (xM (h:=xM (h:=xK [0] rfl ZCz rfl (Ztn _ n _ oz oz _) (h:=?_))))
 rintro _ B2 _ hle2 ⟨rfl,q2,c2,l2,rfl,hc2,hv2⟩
 exact Zdh .normal (.inr rfl) [] [0,1] rfl trivial ⟨rfl,_,_,_,rfl,hv2⟩

theorem Ztp (b:Nat) (xs:List UInt8) (q:Option Addr) (cp:Nat) (l:Cells) (c:UInt8) (hx:xs.length≤40) (B:Kn) (hv:ZR Kn.none l q cp 5 1 Zem xs):Zu (pj J) 273 [ptr ⟨b,0,none⟩,.int .u8 c.toNat] B [ZP b [ptr ⟨b,0,none⟩,.slice q xs.length cp] 359,l] (fun v B' Ls=>B'=B∧∃q' c' l',Ls=[ZP b [ptr ⟨b,0,none⟩,.slice q' (xs ++ [c]).length c'] 359,l']∧ZR Kn.none l' q' c' 5 1 Zem (xs ++ [c])):=by
 refine cB 17 Tryz.func273 (h:=?_)
 refine Za (xA (h:=Za (xM (h:=xK [0] rfl ZyD rfl (Zms _ _ _ _ _) (h:=?_)))))
 rintro _ B1 _ hle1 ⟨rfl,rfl⟩
 refine tL2 (Za (xM (h:=xM (h:=xNc (h:=xW Zc1 (h:=x1 Zj7 0 (h:=xM (h:=xBs [(0,_)] [_] Tryz.underlying221 sz5 zo5 (h:=fun b2=>Zh (ZkZ (z:=c) (R:=Zem) 1 rfl hv rfl rfl rfl ZAr ZBJ rfl rfl (ZcX.box 2 rfl) rfl rfl (rfl) om (fun l3 p3 c3 hv3=>?_)))))))))))
 refine xNc (h:=xW Zc1 (h:=xS [_] 0 [_,_] Zxh (h:=tL3 (Za (xA (h:=Zf ?_))))))
 exact eN [0,1] rfl t1 ⟨rfl,_,_,_,rfl,hv3⟩

theorem ZvO (b:Nat) (xs:List UInt8) (q:Option Addr) (cp:Nat) (l:Cells) (t:Str) (hx:xs.length≤40) (ht:t.length≤40) (B:Kn) (hv:ZR Kn.none l q cp 5 1 Zem xs):Zu (pj J) 272 [ptr ⟨b,0,none⟩,str t] B [ZP b [ptr ⟨b,0,none⟩,.slice q xs.length cp] 359,l] (fun v B' Ls=>B'=B∧∃q' c' l',Ls=[ZP b [ptr ⟨b,0,none⟩,.slice q' (xs ++ t).length c'] 359,l']∧ZR Kn.none l' q' c' 5 1 Zem (xs ++ t)):=by
 refine cB 19 Tryz.func272 (h:=?_)
 refine Za (xA (h:=xA (h:=Za (xM (h:=xK [0] rfl ZyD rfl (Zms _ _ _ _ _) (h:=?_))))))
 rintro _ B1 _ hle1 ⟨rfl,rfl⟩
 refine tL2 (Za (xM (h:=xM (h:=xNc (h:=xW Zc1 (h:=x1 Zj7 0 (h:=xM (h:=Zh (Zt3 (xs:=t) 1 rfl hv.bytes rfl rfl ZAr Tryz.underlying9 rfl rfl oz (fun l2 p2 c2 hw2=>?_))))))))))
 have hv2:=Zmo (B:=Kn.none) (xs:=xs ++ t) (by rw [List.length_append];simpa [Zaw] using hw2)
 refine xNc (h:=xW Zc1 (h:=xS [_] 0 [_,_] Zxh (h:=tL2 (Za (xM (h:=xVs Tryz.underlying9 (h:=xA (h:=xA (h:=Zf ?_)))))))))
 rw [show xs.length+t.length=(xs ++ t).length from by simp]
 exact Zdh .ret (.inl rfl) [_,_] [0,1] rfl t2 ⟨rfl,_,_,_,rfl,hv2⟩

theorem Zmr (b:Nat) (xs:List UInt8) (q:Option Addr) (cp:Nat) (l:Cells) (h0:0<xs.length) (hx:xs.length≤80) (B:Kn) (hv:ZR Kn.none l q cp 5 1 Zem xs):Zu (pj J) 274 [ptr ⟨b,0,none⟩] B [ZP b [ptr ⟨b,0,none⟩,.slice q xs.length cp] 359,l] (fun v B' Ls=>B'=B∧Ls=[]∧v=str xs):=by
 refine cB 14 Tryz.func274 (h:=?_)
 have hcp:=hv.cap
 obtain ⟨b8,rfl⟩:=hv.ptr h0
 have hvb:=hv.bytes
 refine Za (xA (h:=Ze (ZW (keeps _ [0] _) mo kr ⟨Kn.le.refl _,ZaH.refl _ _⟩ (fun _ _=>?_))))
 refine aM 0 rfl (h:=aNc 1 rfl (h:=aW 2 rfl Zc1 (h:=aT 3 rfl (ZO fun D B L hI=>Zn rfl rfl Zj7 rfl (atL 0 (hI.2.1.trans rfl) rfl rfl) r4) (h:=aT 4 rfl (ZO fun D B L hI=>ZtZ rfl rfl rfl oz r4) (h:=?_)))))
 refine aM 5 rfl (h:=aNc 6 rfl (h:=aW 7 rfl Zc1 (h:=aT 8 rfl (ZO fun D B L hI=>Zn rfl rfl Zj7 rfl (atL 0 (hI.2.1.trans rfl) rfl rfl) r4) (h:=aV 9 rfl Tryz.underlying221 (h:=ZV 10 kr rfl kr (ZwV 1 rfl hvb h0 rfl rfl Tryz.underlying367 kr rfl rfl oz ?_))))))
 refine ⟨⟨Kn.le.refl _,t1⟩,(aA 11 rfl (h:=Zy kr kr ?_))⟩
 refine Zm (tL2 (Zf ?_))
 exact eN [] rfl t1 ⟨rfl,rfl,rfl⟩

theorem ZxJ (w:Str) (hw:ZdY w=true) (B:Kn):Zu (pj J) 247 [str w] B [] (fun v B' Ls=>B'=B∧Ls=[]∧∃s,v=str s∧0<s.length):=by
 refine cB 78 Tryz.func247 (h:=?_)
 obtain ⟨hw0,hw1⟩:=ZtV hw
 refine Za (xA (h:=Za (xA (h:=xA (h:=Ze (Za (xA (h:=Zg (Zv (α:=Nat × Bool) [0,2] (fun g=>[(3,.bool true),(4,.bool g.2),(5,.int .i64 g.1)]) [] (fun g=>[]) (fun g Bx=>Bx=B∧g.1≤w.length∧(0<g.1→g.2=true)) (fun g=>w.length - g.1) (0,false) t3 rfl (⟨rfl,Nat.zero_le _,fun h=>absurd h (Nat.lt_irrefl 0)⟩) (fun g B1 hle1 hI=>?_))))))))))
 obtain ⟨rfl,hk,hg⟩:=hI
 refine Zz [(0,_),(2,_),(3,_),(4,_),(5,_)] [] t5 rfl (Ze (Za (xM (h:=xM (h:=xVs Tryz.underlying9 (h:=ZC (h:=Zb rfl (fun g1=>?_) (fun g1=>?_))))))))
 try simp only [sQ,ne_eq] at g1
 refine wSk (Ze (Zg (Za (xM (h:=xM (h:=?_))))))
 obtain ⟨c,hc⟩:=ZM (xs:=w) (i:=g.1) om
 refine Zh (Zba rfl rfl Tryz.underlying9 rfl rfl om hc ?_)
 refine xA (h:=Ze (Za (xM (h:=Zc9 (h:=Zb rfl (fun g2=>by have:=ZwU hw hc;simp at g2;omega) (fun g2=>?_))))))
 try simp only [sQ,ne_eq] at g2
 refine wSk (Zd (xM (h:=xM (h:=Zq (d:=23) rfl (fun g3=>?_) (fun g3=>?_)))))
 try simp only [sQ,ne_eq] at g3
 refine xP (h:=xP (h:=xP (h:=xP (h:=xP (h:=xP (h:=xT (h:=xA (h:=ZD (Zm (Zd (xM (h:=xD (h:=xA (h:=?_))))))))))))))
 exact Zx (g.1+1,true) [] so2 ⟨rfl,so2,fun _=>rfl⟩ t5 rfl
 try simp only [sQ,ne_eq] at g3
 refine xM (h:=Zbd (h:=xM (h:=Zq (d:=26) rfl (fun g4=>?_) (fun g4=>by have:=ZgG hw hc (Nat.eq_zero_of_not_pos fun h=>by rw [hg h] at g3;cases g3);simp at g4;omega))))
 try simp only [sQ,ne_eq] at g4
 refine xM (h:=Zbd (h:=xT (h:=xF (h:=xA (h:=ZD (Zm (Zd (xM (h:=xD (h:=xA (h:=?_)))))))))))
 exact Zx (g.1+1,decide ((↑c.toNat:Int)≤90)) [] so2 ⟨rfl,so2,fun _=>decide_eq_true (by have:=ZgG hw hc (Nat.eq_zero_of_not_pos fun h=>by rw [hg h] at g3;cases g3);omega)⟩ t5 rfl
 try simp only [sQ,ne_eq] at g1
 refine ZA (ZQ (ZB (Zs (Zm (Ze (Za (xM (h:=Zb rfl (fun g5=>?_) (fun g5=>by simp at g5)))))))))
 try simp only [sQ,ne_eq] at g5
 refine Ze (Za (xM (h:=xN (h:=Zb rfl (fun g6=>by rw [hg oz] at g6;simp at g6) (fun g6=>?_)))))
 try simp only [sQ,ne_eq] at g6
 refine wSk (Za (xAl [_,_] ZA7 (h:=fun b3=>tL1 (Za (xA (h:=Za (xM (h:=xVs Tryz.underlying9 (h:=xK [0] rfl ZCE rfl (Zqd _ w.length om om2 _) (h:=?_))))))))))
 rintro _ B4 _ hle4 ⟨rfl,q4,c4,l4,rfl,hv4⟩
 refine tL2 (Ze (Za (xA (h:=Zg (Zv (α:=Gh UInt8) [0,2,3,4,5,7,14,31,33] (fun g=>[(8,.int .i64 g.p),(9,.int .i64 g.k)]) [0,1] (fun g=>[ZP b3 [ptr ⟨b3,0,none⟩,.slice g.a g.xs.length g.c] 359,g.l]) (fun g Bx=>Bx=B4∧g.k≤w.length∧(g.k=0→g.p=0∧g.xs=[])∧(0<g.k→g.p=1∧g.xs.length=1)∧ZR Kn.none g.l g.a g.c 5 1 Zem g.xs) (fun g=>w.length - g.k) ⟨0,0,_,_,_,[]⟩ t2 rfl (⟨rfl,Nat.zero_le _,fun _=>⟨rfl,rfl⟩,fun h=>absurd h (Nat.lt_irrefl 0),hv4⟩) (fun g B5 hle5 hI=>?_))))))
 obtain ⟨rfl,hk,hz,hp,hv⟩:=hI
 refine Zz [(0,_),(2,_),(3,_),(4,_),(5,_),(7,_),(8,_),(9,_),(14,_),(31,_),(33,_)] [_,_] t11 rfl (Ze (Za (xM (h:=xM (h:=xVs Tryz.underlying9 (h:=ZC (h:=Zb rfl (fun g7=>?_) (fun g7=>?_))))))))
 try simp only [sQ,ne_eq] at g7
 refine wSk (Ze (Zg (Za (xM (h:=xM (h:=?_))))))
 obtain ⟨c,hc⟩:=ZM (xs:=w) (i:=g.k) om
 refine Zh (Zba rfl rfl Tryz.underlying9 rfl rfl om hc ?_)
 refine xA (h:=Za (xM (h:=Zbd (h:=xM (h:=Zq (d:=49) rfl (fun g8=>?_) (fun g8=>?_))))))
 try simp only [sQ,ne_eq] at g8
 refine xM (h:=Zbd (h:=xT (h:=Zb rfl (fun g9=>?_) (fun g9=>?_))))
 try simp only [sQ,ne_eq] at g9
 have hk0:g.k=0:=by
    rcases Nat.eq_zero_or_pos g.k with h | h
    · exact h
    · have:=Zqx hw hc h;first | omega | (simp at g9;omega)
 obtain ⟨hp0,hx0⟩:=hz hk0
 have hxl:g.xs.length=0:=by rw [hx0];rfl
 have hcu:=ZgG hw hc hk0
 refine Za (xM (h:=Zh (ZeM rfl rfl rfl rfl (Zzn hcu.2) (xA (h:=Ze (Za (xM (h:=xM (h:=ZC (h:=Zb rfl (fun g10=>by first | omega | (simp at g10;omega)) (fun g10=>?_)))))))))))
 try simp only [sQ,ne_eq] at g10
 refine wSk (Za (xM (h:=xK [0,1] rfl ZCC rfl (Ztp _ g.xs _ _ _ (c+32) om2 _ (hv.anyK Zem.any)) (h:=?_))))
 rintro _ B7 _ hle7 ⟨rfl,q7,c7,l7,rfl,hv7⟩
 refine tL2 (Zd (xM (h:=xD (h:=xA (h:=ZD (Zm (Zd (xM (h:=xD (h:=xA (h:=?_)))))))))))
 exact Zx ⟨g.k+1,g.k+1,l7,q7,c7,(g.xs ++ [(c+32)])⟩ [0,1] so2 ⟨rfl,so2,by simp,fun _=>⟨so2,by simp;omega⟩,hv7⟩ t11 rfl
 try simp only [sQ,ne_eq] at g9
 have hk1:0<g.k:=by
    rcases Nat.eq_zero_or_pos g.k with h | h
    · have:=ZgG hw hc h;first | omega | (simp at g9;omega)
    · exact h
 refine ZK (ZD (Zm (Zd (xM (h:=xD (h:=xA (h:=?_)))))))
 exact Zx ⟨g.k+1,g.p,g.l,g.a,g.c,g.xs⟩ [0,1] so2 ⟨rfl,so2,by simp,fun _=>hp hk1,hv⟩ t11 rfl
 try simp only [sQ,ne_eq] at g8
 have hk1:0<g.k:=by
    rcases Nat.eq_zero_or_pos g.k with h | h
    · have:=ZgG hw hc h;first | omega | (simp at g8;omega)
    · exact h
 refine xP (h:=xP (h:=xF (h:=Zb (t:=false) rfl (fun h=>Bool.noConfusion h) (fun _=>ZK (ZD (Zm (Zd (xM (h:=xD (h:=xA (h:=?_)))))))))))
 exact Zx ⟨g.k+1,g.p,g.l,g.a,g.c,g.xs⟩ [0,1] so2 ⟨rfl,so2,by simp,fun _=>hp hk1,hv⟩ t11 rfl
 try simp only [sQ,ne_eq] at g7
 obtain ⟨hp1,hx1⟩:=hp oz
 refine ZA (ZQ (ZB (Zs (Zm (Ze (Za (xM (h:=xM (h:=xVs Tryz.underlying9 (h:=ZC (h:=Zb rfl (fun g11=>?_) (fun g11=>?_))))))))))))
 try simp only [sQ,ne_eq] at g11
 refine Zd (xM (h:=xM (h:=Zh (ZbX (a:=g.p) (b:=w.length) rfl rfl Tryz.underlying9 rfl ⟨_,_,rfl,by first | omega | (simp;done) | (simp;omega)⟩ rfl om om ?_))))
 refine xK [0,1] rfl ZCD rfl (ZvO _ g.xs _ _ _ ((w.take w.length).drop g.p) om2 om2 _ (hv.anyK Zem.any)) (h:=?_)
 rintro _ B8 _ hle8 ⟨rfl,q8,c8,l8,rfl,hv8⟩
 refine Zm (Za (xK [0,1] rfl ZAu rfl (Zmr _ (g.xs ++ ((w.take w.length).drop g.p)) _ _ _ (by first | omega | (simp only [List.length_append];omega) | (simp;done) | (simp;omega)) om2 _ (hv8.anyK Zem.any)) (h:=?_)))
 rintro _ B9 _ hle9 ⟨rfl,rfl,rfl⟩
 refine xA (h:=tL2 (Zf (Zj ?_)))
 exact eN [] rfl t1 ⟨rfl,rfl,_,rfl,by rw [List.length_append];omega⟩
 try simp only [sQ,ne_eq] at g11
 refine wSk (Za (xK [0,1] rfl ZAu rfl (Zmr _ g.xs _ _ _ (by first | omega | (simp only [List.length_append];omega) | (simp;done) | (simp;omega)) om2 _ (hv.anyK Zem.any)) (h:=?_)))
 rintro _ B10 _ hle10 ⟨rfl,rfl,rfl⟩
 refine xA (h:=tL2 (Zf (Zj ?_)))
 exact eN [] rfl t1 ⟨rfl,rfl,_,rfl,oz⟩

theorem Zp3 (n M:Int) (B:Kn) (hG:GlobB 4 5 B M):Zu (pj J) 200 [.int .i64 n] B [] (fun v B' Ls=>B'=B∧Ls=[]∧∃s,v=str s∧(s=[]↔ZbB n=false)):=by
 refine cB 17 Tryz.func200 (h:=?_)
 refine Za (xA (h:=Ze (Za (Zh (ZI (Zdv.map str) rfl rfl ZB1 rfl (Zhh hG.words 0 rfl rfl) (xM (h:=Zg (Zv (α:=Nat) [0,5] (fun k=>[(6,.int .i64 k)]) [] (fun k=>[]) (fun k Bx=>Bx=B∧k≤5∧∀j,j<k→n≠(2:Int) ^ j) (fun k=>5 - k) 0 t1 rfl (⟨rfl,Nat.zero_le _,fun j h=>absurd h (Nat.not_lt_zero j)⟩) (fun k B1 hle1 hI=>?_)))))))))
 obtain ⟨rfl,hk,hn⟩:=hI
 refine Zz [(0,_),(5,_),(6,_)] [] t3 rfl (Za (ZC (h:=Ze (Zb rfl (fun g1=>?_) (fun g1=>?_)))))
 try simp only [sQ,ne_eq] at g1
 obtain ⟨w,hw⟩:=ZM (xs:=Zdv) (i:=k) (by show k<5;omega)
 have hwv:(Zdv.map str)[k]? = some (str w):=by rw [List.getElem?_map,hw];rfl
 have hcw:=Zqy (List.mem_of_getElem? hw)
 have hk5:k<5:=by omega
 refine wSk (Ze (Zg (Za (xM (h:=Zh (ZwY (j:=k) rfl rfl Tryz.underlying338 lk9 sz9 rfl rfl rfl hk5 hwv (xA (h:=xA (h:=Za (xM (h:=xM (h:=Zh (ZBk rfl rfl rfl rfl oz (Zur hk5) ?_)))))))))))))
 refine Z2 (h:=Zb rfl (fun g2=>?_) (fun g2=>?_))
 try simp only [sQ,ne_eq] at g2
 refine Za (xM (h:=xC ZCP rfl (ZxJ w hcw _) (h:=?_)))
 rintro _ B2 _ hle2 ⟨rfl,rfl,s2,rfl,hs2⟩
 refine xA (h:=tL0 (Zf (Zt (Zj (ZJ (Zt (Zj ?_)))))))
 exact eN [] rfl t1 ⟨rfl,rfl,_,rfl,ZwT hs2 (Zpx hk5 g2)⟩
 try simp only [sQ,ne_eq] at g2
 refine ZK (ZD (Zm (Zd (xD (h:=xM (h:=?_))))))
 exact Zx (k+1) [] so2 ⟨rfl,oz,Zuy hn g2⟩ t3 rfl
 try simp only [sQ,ne_eq] at g1
 refine ZA (ZQ (ZB (Zs (Zm (Za (xA (h:=Zf ?_)))))))
 exact eN [] rfl t1 ⟨rfl,rfl,_,rfl,by simp [Znc oz hn]⟩

theorem Zso (p:Str) (hp:p.length≤60) (B:Kn):Z1 (pj J) 290 [str p] B (.tuple #[.int .u32 (hsh p).toNat,.int .u32 (Zhi rkP p.length).toNat]):=by
 refine cB 39 Tryz.func290 (h:=?_)
 refine Za (xA (h:=xA (h:=Za (xA (h:=Ze (Za (xA (h:=Zg (Zv (α:=Nat × UInt32) [0,2,3] (fun g=>[(4,.int .u32 g.2.toNat),(5,.int .i64 g.1)]) [] (fun g=>[]) (fun g Bx=>Bx=B∧g.1≤p.length∧g.2=hsh (win p 0 g.1)) (fun g=>p.length - g.1) (0,0) t2 rfl (⟨rfl,Nat.zero_le _,rfl⟩) (fun g B1 hle1 hI=>?_))))))))))
 obtain ⟨rfl,hk,hh⟩:=hI
 refine Zz [(0,_),(2,_),(3,_),(4,_),(5,_)] [] t5 rfl (Ze (Za (xM (h:=xM (h:=xVs Tryz.underlying9 (h:=ZC (h:=Zb rfl (fun g1=>?_) (fun g1=>?_))))))))
 try simp only [sQ,ne_eq] at g1
 refine wSk (Ze (Zg (Zd (xM (h:=Zh (ZjF rfl rfl rfl rfl (ZjI _) (xM (h:=xM (h:=?_)))))))))
 obtain ⟨ch,hch⟩:=ZM (xs:=p) (i:=g.1) om
 refine Zh (Zba rfl rfl Tryz.underlying9 rfl rfl om hch ?_)
 refine Zh (ZhS rfl rfl Tryz.underlying5 Tryz.underlying157 rfl (Zt7 ch) (Zh (ZeM rfl rfl rfl rfl (ZmQ _ _) (xA (h:=ZD (Zm (Zd (xM (h:=xD (h:=xA (h:=?_)))))))))))
 exact Zx (g.1+1,g.2*rkP+ch.toUInt32) [] so2 ⟨rfl,so2,by simp only [];rw [hh,← ZnY hch]⟩ t5 rfl
 try simp only [sQ,ne_eq] at g1
 have hhs:g.2=hsh p:=by rw [hh,win,List.drop_zero,List.take_of_length_le oz]
 refine ZA (ZQ (ZB (Zs (Zm (Za (xA (h:=xA (h:=Ze (Za (xM (h:=xVs Tryz.underlying9 (h:=xA (h:=Zg (Zv (α:=Nat × UInt32 × UInt32) [0,2,3,4,5,12] (fun t=>[(6,.int .u32 t.2.1.toNat),(7,.int .u32 t.2.2.toNat),(8,.int .i64 t.1)]) [] (fun t=>[]) (fun t Bx=>Bx=B1∧t.1≤p.length∧t.2.1*Zhi t.2.2 t.1=Zhi rkP p.length) (fun t=>t.1) (p.length,1,rkP) t3 rfl (⟨rfl,Nat.le_refl _,by simp⟩) (fun t B3 hle3 hI=>?_)))))))))))))))
 obtain ⟨rfl,hk,hh⟩:=hI
 refine Zz [(0,_),(2,_),(3,_),(4,_),(5,_),(6,_),(7,_),(8,_),(12,_)] [] t9 rfl (Ze (Za (xM (h:=Zc8 (h:=Zb rfl (fun g2=>?_) (fun g2=>?_))))))
 try simp only [sQ,ne_eq] at g2
 have had:=ZvW t.1 oz
 refine wSk (Ze (Zg (Ze (Za (xM (h:=Zh (ZqK rfl rfl rfl rfl (Zaa (h:=Zb rfl (fun g3=>?_) (fun g3=>?_))))))))))
 try simp only [sQ,ne_eq] at g3
 refine Zd (xM (h:=xM (h:=Zh (ZjF rfl rfl rfl rfl (ZhX _ _) (xA (h:=Zm (Zd (xM (h:=xM (h:=Zh (ZjF rfl rfl rfl rfl (ZhX _ _) (xA (h:=ZD (Zm (Zd (xM (h:=Zh (ZwX rfl rfl rfl rfl oz (Zrf t.1) ?_))))))))))))))))))
 refine xA (h:=?_)
 exact Zx (t.1 / 2,t.2.1*t.2.2,t.2.2*t.2.2) [] so2 ⟨rfl,so2,ZzC hh (by rw [had] at g3;omega)⟩ t9 rfl
 try simp only [sQ,ne_eq] at g3
 refine wSk (Zd (xM (h:=xM (h:=Zh (ZjF rfl rfl rfl rfl (ZhX _ _) (xA (h:=ZD (Zm (Zd (xM (h:=Zh (ZwX rfl rfl rfl rfl oz (Zrf t.1) ?_))))))))))))
 refine xA (h:=?_)
 exact Zx (t.1 / 2,t.2.1,t.2.2*t.2.2) [] so2 ⟨rfl,so2,Zxr hh (by rw [had] at g3;omega)⟩ t9 rfl
 try simp only [sQ,ne_eq] at g2
 refine ZA (ZQ (ZB (Zs (Zm (Za (xM (h:=xM (h:=xA (h:=xA (h:=Zf ?_))))))))))
 exact Zqo .ret (.inl rfl) [_,_] t2 ⟨by rw [hhs,ZzD hh oz];rfl,rfl,rfl⟩

theorem Zxq (s p:Str) (h0:0<p.length) (hn:p.length≤s.length) (hs:s.length≤60) (B:Kn):Zu (pj J) 280 [str s,str p] B [] (fun v B' Ls=>B'=B∧Ls=[]∧∃z:Int,v = .int .i64 z∧-1≤z∧z≤(s.length:Int)∧(0≤z↔ZaK s p=true)):=by
 refine cB 81 Tryz.func280 (h:=?_)
 refine Za (xA (h:=Za (xM (h:=xR ZCy rfl (Zso p om2 _) (h:=?_)))))
 refine xM (h:=xE (h:=xE (h:=xA (h:=xA (h:=Za (xM (h:=xVs Tryz.underlying9 (h:=xA (h:=Za (xA (h:=Ze (Za (xA (h:=Zg (Zv (α:=Nat × UInt32) [0,1,4,5,6,7] (fun g=>[(8,.int .u32 g.2.toNat),(9,.int .i64 g.1)]) [] (fun g=>[]) (fun g Bx=>Bx=B∧g.1≤p.length∧g.2=hsh (win s 0 g.1)) (fun g=>p.length - g.1) (0,0) t2 rfl (⟨rfl,Nat.zero_le _,rfl⟩) (fun g B2 hle2 hI=>?_))))))))))))))))
 obtain ⟨rfl,hk,hh⟩:=hI
 refine Zz [(0,_),(1,_),(4,_),(5,_),(6,_),(7,_),(8,_),(9,_)] [] t8 rfl (Ze (Za (xM (h:=xM (h:=ZC (h:=Zb rfl (fun g1=>?_) (fun g1=>?_)))))))
 try simp only [sQ,ne_eq] at g1
 refine wSk (Ze (Zg (Zd (xM (h:=Zh (ZjF rfl rfl rfl rfl (ZjI _) (xM (h:=xM (h:=?_)))))))))
 obtain ⟨ch,hch⟩:=ZM (xs:=s) (i:=g.1) om
 refine Zh (Zba rfl rfl Tryz.underlying9 rfl rfl om hch ?_)
 refine Zh (ZhS rfl rfl Tryz.underlying5 Tryz.underlying157 rfl (Zt7 ch) (Zh (ZeM rfl rfl rfl rfl (ZmQ _ _) (xA (h:=ZD (Zm (Zd (xM (h:=xD (h:=xA (h:=?_)))))))))))
 exact Zx (g.1+1,g.2*rkP+ch.toUInt32) [] so2 ⟨rfl,so2,by simp only [];rw [hh,← ZnY hch]⟩ t8 rfl
 try simp only [sQ,ne_eq] at g1
 have hge:g.1=p.length:=by omega
 rw [hge] at hh
 refine ZA (ZQ (ZB (Zs (Zm (Ze (ZeQ (α:=Bool) [0,1,4,5,6,7,8,9,20] (fun bb=>[(39,.bool bb)]) [] (fun bb=>[]) (fun bb=>[]) (fun bb Bx=>Bx=B2∧bb=decide (win s 0 p.length=p)) ?_ (fun bb B4 hle4 hF=>?_)))))))
 refine Zd (xM (h:=xM (h:=Z2 (h:=xM (h:=Zq (d:=33) rfl (fun g1=>?_) (fun g1=>?_))))))
 try simp only [sQ,ne_eq] at g1
 refine xM (h:=xM (h:=Zh (ZbX (a:=0) (b:=p.length) rfl rfl Tryz.underlying9 rfl rfl ⟨_,_,rfl,by first | omega | (simp;done) | (simp;omega)⟩ om om ?_)))
 refine xM (h:=Zcj (h:=xT (h:=?_)))
 exact ZX _ [] ⟨rfl,by first | rfl | (simp [win];done) | exact (decide_eq_false (ZhP hh (oy))).symm⟩ t10 rfl
 try simp only [sQ,ne_eq] at g1
 refine xP (h:=xP (h:=xP (h:=xP (h:=xP (h:=xF (h:=?_))))))
 exact ZX _ [] ⟨rfl,by first | rfl | (simp [win];done) | exact (decide_eq_false (ZhP hh (oy))).symm⟩ t10 rfl
 obtain ⟨rfl,hbb⟩:=hF
 refine Zz [(0,_),(1,_),(4,_),(5,_),(6,_),(7,_),(8,_),(9,_),(20,_),(39,_)] [] t10 rfl (Zb rfl (fun g3=>?_) (fun g3=>?_))
 try simp only [sQ,ne_eq] at g3
 refine Za (xA (h:=Zf (Zj ?_)))
 exact eN [] rfl t1 ⟨rfl,rfl,_,rfl,oz,oz,⟨fun _=>ZnZ (by rw [hbb] at g3;exact of_decide_eq_true g3) hn,fun _=>oz⟩⟩
 try simp only [sQ,ne_eq] at g3
 have hw0:win s 0 p.length≠p:=fun e=>by rw [hbb,decide_eq_true e] at g3;first | cases g3 | exact g3 rfl
 refine wSk (Ze (Za (xM (h:=xA (h:=Zg (Zv (α:=Nat × Nat × UInt32) [0,1,5,6,7,9,20,39] (fun t=>[(8,.int .u32 t.2.2.toNat),(10,.int .i64 t.1)]) [] (fun t=>[]) (fun t Bx=>Bx=B4∧t.1=t.2.1+p.length∧t.1≤s.length∧t.2.2=hsh (win s t.2.1 p.length)∧ZcT s p (t.2.1+1)=false) (fun t=>s.length - t.1) (p.length,0,g.2) t2 rfl (⟨rfl,by simp,hn,hh,Zfe Zux hw0⟩) (fun t B5 hle5 hI=>?_)))))))
 obtain ⟨rfl,hi,hil,hh2,hpr⟩:=hI
 refine Zz [(0,_),(1,_),(5,_),(6,_),(7,_),(8,_),(9,_),(10,_),(20,_),(39,_)] [] t10 rfl (Ze (Za (xM (h:=xM (h:=xVs Tryz.underlying9 (h:=ZC (h:=Zb rfl (fun g4=>?_) (fun g4=>?_))))))))
 try simp only [sQ,ne_eq] at g4
 refine wSk (Zg (Za (xM (h:=Zh (ZjF rfl rfl rfl rfl (ZjI _) (xA (h:=Za (xM (h:=xM (h:=xM (h:=?_)))))))))))
 obtain ⟨cb,hcb⟩:=ZM (xs:=s) (i:=t.1) om
 refine Zh (Zba rfl rfl Tryz.underlying9 rfl rfl om hcb ?_)
 refine Zh (ZhS rfl rfl Tryz.underlying5 Tryz.underlying157 rfl (Zt7 cb) (Zh (ZeM rfl rfl rfl rfl (ZmQ _ _) (xA (h:=Za (xM (h:=xM (h:=xM (h:=xM (h:=xM (h:=xU (h:=?_))))))))))))
 obtain ⟨ca,hca⟩:=Zvq (xs:=s) (i:=(↑t.1 - ↑p.length)) om om
 refine Zh (Zba rfl rfl Tryz.underlying9 rfl rfl om hca ?_)
 refine Zh (ZhS rfl rfl Tryz.underlying5 Tryz.underlying157 rfl (Zt7 ca) (Zh (ZjF rfl rfl rfl rfl (ZhX _ _) (Zh (ZiO rfl rfl rfl rfl (Zw8 _ _) ?_)))))
 have hnx:=Zsi h0 hi hh2 hcb (by rw [show t.1 - p.length=((t.1:Int) - p.length).toNat from by omega];exact hca)
 refine xA (h:=Za (xM (h:=xD (h:=xA (h:=Za (xM (h:=xM (h:=Z2 (h:=xM (h:=Zq (d:=68) rfl (fun g5=>?_) (fun g5=>?_)))))))))))
 try simp only [sQ,ne_eq] at g5
 refine xM (h:=xM (h:=xM (h:=xU (h:=xM (h:=Zh (ZbX (a:=((t.1+1) - p.length)) (b:=(t.1+1)) rfl rfl Tryz.underlying9 rfl ⟨_,_,rfl,by first | omega | (simp;done) | (simp;omega)⟩ ⟨_,_,rfl,by first | omega | (simp;done) | (simp;omega)⟩ om om ?_))))))
 refine xM (h:=Zcj (h:=xT (h:=Zb rfl (fun g6=>?_) (fun g6=>?_))))
 try simp only [sQ,ne_eq] at g6
 refine Za (xM (h:=xM (h:=xU (h:=xA (h:=Zf (Zt (ZJ (Zt (Zj ?_)))))))))
 exact eN [] rfl t1 ⟨rfl,rfl,_,rfl,oz,oz,⟨fun _=>ZmG (i:=t.2.1+1) (by rw [← Zn0 hi];exact g6) oz,fun _=>oz⟩⟩
 try simp only [sQ,ne_eq] at g6
 refine ZK (ZD ?_)
 exact Zx (t.1+1,t.2.1+1,t.2.2*rkP+cb.toUInt32 - Zhi rkP p.length*ca.toUInt32) [] so2 ⟨rfl,so2,so2,hnx,Zfe hpr (by rw [← Zn0 hi];exact g6)⟩ t10 rfl
 try simp only [sQ,ne_eq] at g5
 refine xP (h:=xP (h:=xP (h:=xP (h:=xP (h:=xP (h:=xP (h:=xP (h:=xF (h:=Zb (t:=false) rfl (fun h=>Bool.noConfusion h) (fun _=>ZK (ZD ?_)))))))))))
 exact Zx (t.1+1,t.2.1+1,t.2.2*rkP+cb.toUInt32 - Zhi rkP p.length*ca.toUInt32) [] so2 ⟨rfl,so2,so2,hnx,Zfe hpr (ZhP hnx g5)⟩ t10 rfl
 try simp only [sQ,ne_eq] at g4
 refine ZA (ZQ (ZB (Zs (Zm (Za (xA (h:=Zf ?_)))))))
 exact eN [] rfl t1 ⟨rfl,rfl,_,rfl,oz,oz,⟨fun h=>absurd h oz,fun h=>by rw [Zop hpr oz] at h;cases h⟩⟩

theorem ZAb:Extern.find Tryz.f289=some Extern.BytealgIndexByte.indexByte:=by kernel_rfl
theorem ZFe:Extern.findNext Tryz.f289=none:=by kernel_rfl
theorem Zz9:Extern.find Tryz.f278=some Extern.BytealgIndex.index:=by kernel_rfl
theorem ZFd:Extern.findNext Tryz.f278=none:=by kernel_rfl
theorem ZzU:Tryz.prog.globals.findIdx? (·.name == "internal/bytealg.MaxLen")=some 5:=by kernel_rfl

theorem Zl1 (s:Str) (ch:UInt8) (B:Kn):Z1 (pj J) 277 [str s,.int .u8 ch.toNat] B (.int .i64 (Zny s ch)):=by
 refine cB 8 Tryz.func277 (h:=?_)
 refine Za (xA (h:=Za (xM (h:=xM (h:=Zh (ZqE (xs:=[_,_]) (fn:=Tryz.f289) rfl rfl Tryz.func289 rfl rfl ZFe ZAb rfl (fun Q F q=>Zx1 q) (xA (h:=Zf ?_))))))))
 exact eR t1 ⟨rfl,rfl,rfl⟩

theorem ZCg (s p:Str) (h0:0<p.length) (hs:s.length≤60) (hp:p.length≤60) (M:Int) (B:Kn) (hG:GlobB 4 5 B M):Zu (pj J) 248 [str s,str p] B [] (fun v B' Ls=>B'=B∧Ls=[]∧∃z:Int,v = .int .i64 z∧-1≤z∧z≤(s.length:Int)∧(0≤z↔ZaK s p=true)):=by
 refine cB 143 Tryz.func248 (h:=?_)
 refine Za (xA (h:=Za (xM (h:=xVs Tryz.underlying9 (h:=xA (h:=Ze (Zg (Za (xM (h:=Z2 (h:=xM (h:=Zq (d:=19) rfl (fun g1=>by first | omega | (simp at g1;rw [g1] at h0;simp at h0)) (fun g1=>?_)))))))))))))
 try simp only [sQ,ne_eq] at g1
 refine xM (h:=xM (h:=Zcj (h:=xF (h:=xA (h:=Zb rfl (fun g2=>?_) (fun g2=>?_))))))
 try simp only [sQ,ne_eq] at g2
 refine Za (xA (h:=Zf (Zt (Zj ?_))))
 exact eN [] rfl t1 ⟨rfl,rfl,_,rfl,oz,oz,⟨fun _=>by rw [g2];exact ZnZ (by simp [win]) (Nat.le_refl _),fun _=>oz⟩⟩
 try simp only [sQ,ne_eq] at g2
 refine Za (xM (h:=Z2 (h:=xA (h:=Zb rfl (fun g3=>?_) (fun g3=>?_)))))
 try simp only [sQ,ne_eq] at g3
 refine Za (xM (h:=xM (h:=?_)))
 obtain ⟨c0,hc0⟩:=ZM (xs:=p) (i:=0) om
 refine Zh (Zba rfl rfl Tryz.underlying9 rfl rfl om hc0 ?_)
 have hbd:=ZxX (s:=s) (c:=c0)
 refine xR ZAt rfl (Zl1 s c0 _) (h:=xA (h:=Zf (Zt (Zj ?_))))
 exact eN [] rfl t1 ⟨rfl,rfl,_,rfl,oz,oz,ZuE oz hc0⟩
 try simp only [sQ,ne_eq] at g3
 refine Za (xM (h:=xM (h:=xVs Tryz.underlying9 (h:=Zc9 (h:=xA (h:=Zb rfl (fun g4=>?_) (fun g4=>?_)))))))
 try simp only [sQ,ne_eq] at g4
 refine Za (xA (h:=Zf (Zt (Zj ?_))))
 exact eN [] rfl t1 ⟨rfl,rfl,_,rfl,oz,oz,⟨fun h=>absurd h oz,fun h=>by rw [Zpq oz g2] at h;cases h⟩⟩
 try simp only [sQ,ne_eq] at g4
 refine Za (xM (h:=Zh (Zn rfl rfl lk3 rfl (hG.most _ 0 _ rfl) (Zbd (h:=xM (h:=Zq (d:=40) rfl (fun g5=>?_) (fun g5=>?_)))))))
 try simp only [sQ,ne_eq] at g5
 refine xM (h:=xVs Tryz.underlying9 (h:=Zbd (h:=xT (h:=xA (h:=Zb rfl (fun g6=>?_) (fun g6=>by simp at g6;omega))))))
 try simp only [sQ,ne_eq] at g6
 refine Za (xM (h:=xM (h:=Zh (ZqE (xs:=[_,_]) (fn:=Tryz.f278) rfl rfl Tryz.func278 rfl rfl ZFd Zz9 rfl (fun Q F q=>Zx0 ZzU (fun L=>hG.most L 0 _ rfl) oz oz oz q) ?_))))
 have hbd:=ZxW (s:=s) (p:=p)
 refine xA (h:=Zf (Zt (Zj ?_)))
 exact eN [] rfl t1 ⟨rfl,rfl,_,rfl,oz,oz,ZzK⟩
 try simp only [sQ,ne_eq] at g5
 have hM : ¬ (p.length:Int)≤M:=by simpa using g5
 refine xP (h:=xP (h:=xP (h:=xF (h:=xA (h:=Zb (t:=false) rfl (fun h=>Bool.noConfusion h) (fun _=>ZK (ZD (Zm (Za (xM (h:=?_)))))))))))
 obtain ⟨c0,hc0⟩:=ZM (xs:=p) (i:=0) om
 refine Zh (Zba rfl rfl Tryz.underlying9 rfl rfl om hc0 ?_)
 refine xA (h:=Za (xM (h:=?_)))
 obtain ⟨c1,hc1⟩:=ZM (xs:=p) (i:=1) om
 refine Zh (Zba rfl rfl Tryz.underlying9 rfl rfl om hc1 ?_)
 refine xA (h:=Za (xA (h:=Za (xM (h:=xVs Tryz.underlying9 (h:=xM (h:=xU (h:=xD (h:=xA (h:=Za (xA (h:=Ze (Zg (Zv (α:=Nat × Nat) [0,1,5,6,7,9,16,24,31,36] (fun g=>[(8,.int .i64 g.1),(10,.int .i64 g.2)]) [] (fun g=>[]) (fun g Bx=>Bx=B∧g.1≤s.length - p.length+1∧g.2≤g.1∧ZcT s p g.1=false) (fun g=>s.length - p.length+1 - g.1) (0,0) t2 rfl (⟨rfl,Nat.zero_le _,Nat.le_refl _,rfl⟩) (fun g B5 hle5 hI=>?_)))))))))))))))
 obtain ⟨rfl,hi,hf,hpr⟩:=hI
 refine Zz [(0,_),(1,_),(5,_),(6,_),(7,_),(8,_),(9,_),(10,_),(16,_),(24,_),(31,_),(36,_)] [] t12 rfl (Ze (Za (xM (h:=xM (h:=ZC (h:=Zb rfl (fun g7=>?_) (fun g7=>?_)))))))
 try simp only [sQ,ne_eq] at g7
 refine wSk (Zg (ZeQ (α:=Nat) [0,1,5,6,7,9,10,16,24,31,36,59] (fun j=>[(8,.int .i64 j)]) [] (fun j=>[]) (fun j=>[]) (fun j Bx=>Bx=B5∧g.1≤j∧j<s.length - p.length+1∧ZcT s p j=false) ?_ (fun j B6 hle6 hF=>?_)))
 refine Za (xM (h:=xM (h:=?_)))
 obtain ⟨ca,hca⟩:=ZM (xs:=s) (i:=g.1) om
 refine Zh (Zba rfl rfl Tryz.underlying9 rfl rfl om hca ?_)
 refine xM (h:=Zaa (h:=Zb rfl (fun g8=>?_) (fun g8=>?_)))
 try simp only [sQ,ne_eq] at g8
 have hT:s.length - p.length+1=s.length+1 - p.length:=by omega
 refine Za (xM (h:=xM (h:=xD (h:=xM (h:=Zh (ZbX (a:=(g.1+1)) (b:=((s.length - p.length)+1)) rfl rfl Tryz.underlying9 rfl ⟨_,_,rfl,by first | omega | (simp;done) | (simp;omega)⟩ ⟨_,_,rfl,by first | omega | (simp;done) | (simp;omega)⟩ om om ?_))))))
 refine xM (h:=xR ZAt rfl (Zl1 ((s.take ((s.length - p.length)+1)).drop (g.1+1)) c0 _) (h:=xA (h:=Ze (Za (xM (h:=ZC (h:=Zb rfl (fun g9=>?_) (fun g9=>?_))))))))
 try simp only [sQ,ne_eq] at g9
 refine Za (xA (h:=Zf (Zj (Zj (Zt (ZJ (Zt (Zj ?_))))))))
 exact eN [] rfl t1 ⟨rfl,rfl,_,rfl,oz,oz,⟨fun h=>absurd h oz,fun h=>by rw [Zxl hpr h0 hc0 (ZoO hca g8) hT g9] at h;cases h⟩⟩
 try simp only [sQ,ne_eq] at g9
 obtain ⟨k0,hk0,hk1,hk2⟩:=Zkg oz
 obtain ⟨hlt,hpk⟩:=Zuo hpr h0 hc0 (ZoO hca g8) hk1 hk2
 rw [hk0]
 refine wSk (Zd (xM (h:=xM (h:=xD (h:=xD (h:=xA (h:=?_)))))))
 exact ZX (g.1+(k0+1)) [] ⟨rfl,oz,hlt,hpk⟩ t13 rfl
 try simp only [sQ,ne_eq] at g8
 refine ZK ?_
 exact ZX g.1 [] ⟨rfl,Nat.le_refl _,oz,hpr⟩ t13 rfl
 obtain ⟨rfl,hgj,hj,hpr⟩:=hF
 refine Zz [(0,_),(1,_),(5,_),(6,_),(7,_),(8,_),(9,_),(10,_),(16,_),(24,_),(31,_),(36,_),(59,_)] [] t13 rfl (ZeQ (α:=Unit) [0,1,5,6,7,8,9,10,16,24,31,36,59] (fun u=>[]) [] (fun u=>[]) (fun u=>[]) (fun u Bx=>Bx=B6∧win s j p.length≠p) ?_ (fun u B9 hle9 hF=>?_))
 refine Za (xM (h:=xM (h:=xD (h:=?_))))
 obtain ⟨cd,hcd⟩:=ZM (xs:=s) (i:=(j+1)) om
 refine Zh (Zba rfl rfl Tryz.underlying9 rfl rfl om hcd ?_)
 refine xM (h:=Z2 (h:=xM (h:=Zq (d:=84) rfl (fun h1=>?_) (fun h1=>?_))))
 try simp only [sQ,ne_eq] at h1
 refine xM (h:=xM (h:=xM (h:=xM (h:=xD (h:=Zh (ZbX (a:=j) (b:=(j+p.length)) rfl rfl Tryz.underlying9 rfl ⟨_,_,rfl,by first | omega | (simp;done) | (simp;omega)⟩ ⟨_,_,rfl,by first | omega | (simp;done) | (simp;omega)⟩ om om ?_))))))
 refine xM (h:=Zcj (h:=xT (h:=Zb rfl (fun h2=>?_) (fun h2=>?_))))
 try simp only [sQ,ne_eq] at h2
 refine Za (xM (h:=xA (h:=Zf (Zj (Zt (ZJ (Zt (Zj ?_))))))))
 exact eN [] rfl t1 ⟨rfl,rfl,_,rfl,oz,oz,⟨fun _=>ZmG (i:=j) (by rw [← ZmH];exact h2) oz,fun _=>oz⟩⟩
 try simp only [sQ,ne_eq] at h2
 refine ZK ?_
 exact ZX () [] ⟨rfl,by rw [← ZmH];exact h2⟩ t13 rfl
 try simp only [sQ,ne_eq] at h1
 refine xP (h:=xP (h:=xP (h:=xP (h:=xP (h:=xP (h:=xP (h:=xP (h:=xF (h:=Zb (t:=false) rfl (fun h=>Bool.noConfusion h) (fun _=>ZK ?_))))))))))
 exact ZX () [] ⟨rfl,Zri oz hc1 hcd h1⟩ t13 rfl
 obtain ⟨rfl,hnw⟩:=hF
 refine Zz [(0,_),(1,_),(5,_),(6,_),(7,_),(8,_),(9,_),(10,_),(16,_),(24,_),(31,_),(36,_),(59,_)] [] t13 rfl (Za (xM (h:=xD (h:=xA (h:=Za (xM (h:=xD (h:=xA (h:=Za (xM (h:=Zh (Zn rfl rfl lk3 rfl (hG.most _ 0 _ rfl) (Zbd (h:=xM (h:=Zq (d:=102) rfl (fun k1=>by first | exact hM k1 | (simp at k1;omega)) (fun k1=>?_))))))))))))))))
 try simp only [sQ,ne_eq] at k1
 refine xP (h:=xP (h:=xP (h:=xP (h:=xF (h:=Zb (t:=false) rfl (fun h=>Bool.noConfusion h) (fun _=>Za (xM (h:=Zh (Zn rfl rfl lk3 rfl (hG.most _ 0 _ rfl) (Zc8 (h:=xM (h:=Zq (d:=121) rfl (fun k2=>?_) (fun k2=>by simp at k2;omega)))))))))))))
 try simp only [sQ,ne_eq] at k2
 refine xM (h:=xM (h:=Zh (ZwX rfl rfl rfl rfl oz (Zuq (j+1)) ?_)))
 refine xD (h:=Zc9 (h:=xT (h:=xM (h:=Zq (d:=128) rfl (fun k3=>?_) (fun k3=>?_)))))
 try simp only [sQ,ne_eq] at k3
 refine xM (h:=xM (h:=ZC (h:=xT (h:=Zb rfl (fun k4=>?_) (fun k4=>?_)))))
 try simp only [sQ,ne_eq] at k4
 have hpj:=Zfe hpr hnw
 refine Za (xM (h:=xM (h:=Zh (ZbX (a:=(j+1)) (b:=s.length) rfl rfl Tryz.underlying9 rfl ⟨_,_,rfl,by first | omega | (simp;done) | (simp;omega)⟩ rfl om om ?_))))
 refine xM (h:=xC ZCB rfl (Zxq ((s.take s.length).drop (j+1)) p om2 om2 om2 _) (h:=?_))
 rintro _ B9 _ hle9 ⟨rfl,rfl,z9,rfl,hz9a,hz9b,hz9⟩
 simp only [List.length_drop,List.length_take] at hz9b
 have hpd:=Zry hpj oz
 refine xA (h:=tL0 (Ze (Za (xM (h:=ZC (h:=Zb rfl (fun k5=>?_) (fun k5=>?_)))))))
 try simp only [sQ,ne_eq] at k5
 refine Za (xA (h:=Zf (Zj (Zt (ZJ (Zt (Zj ?_)))))))
 exact eN [] rfl t1 ⟨rfl,rfl,_,rfl,oz,oz,⟨fun h=>absurd h oz,fun h=>absurd (hz9.2 (hpd.2 h)) oz⟩⟩
 try simp only [sQ,ne_eq] at k5
 refine wSk (Za (xM (h:=xM (h:=xD (h:=xA (h:=Zf (Zt (ZJ (Zt (Zj ?_))))))))))
 exact eN [] rfl t1 ⟨rfl,rfl,_,rfl,oz,oz,⟨fun h=>hpd.1 (hz9.1 oz),fun h=>oz⟩⟩
 try simp only [sQ,ne_eq] at k4
 refine ZK (ZD ?_)
 exact Zx (j+1,g.2+1) [] so2 ⟨rfl,so2,so2,Zfe hpr hnw⟩ t12 rfl
 try simp only [sQ,ne_eq] at k3
 refine xP (h:=xP (h:=xP (h:=xF (h:=Zb (t:=false) rfl (fun h=>Bool.noConfusion h) (fun _=>ZK (ZD ?_))))))
 exact Zx (j+1,g.2+1) [] so2 ⟨rfl,so2,so2,Zfe hpr hnw⟩ t12 rfl
 try simp only [sQ,ne_eq] at g7
 refine ZA (ZQ (ZB (Zs (Zm (Za (xA (h:=Zf ?_)))))))
 exact eN [] rfl t1 ⟨rfl,rfl,_,rfl,oz,oz,⟨fun h=>absurd h oz,fun h=>by rw [Zop hpr oz] at h;cases h⟩⟩

theorem ZzB (s p:Str) (h0:0<p.length) (hs:s.length≤60) (hp:p.length≤60) (M:Int) (B:Kn) (hG:GlobB 4 5 B M):Zu (pj J) 202 [str s,str p] B [] (fun v B' Ls=>B'=B∧Ls=[]∧∃z:Int,v = .int .i64 z∧-1≤z∧z≤(s.length:Int)∧(0≤z↔ZaK s p=true)):=by
 refine cB 8 Tryz.func202 (h:=?_)
 refine Za (xA (h:=Za (xM (h:=xM (h:=xC ZCO rfl (ZCg s p om2 om2 om2 _ _ hG) (h:=?_))))))
 rintro _ B9 _ hle9 ⟨rfl,rfl,z9,rfl,hz9a,hz9b,hz9⟩
 refine xA (h:=tL0 (Zf ?_))
 exact eN [] rfl t1 ⟨rfl,rfl,_,rfl,oz,oz,hz9⟩

theorem ZCi (s p:Str) (h0:0<p.length) (hs:s.length≤60) (hp:p.length≤60) (M:Int) (B:Kn) (hG:GlobB 4 5 B M):Z1 (pj J) 159 [str s,str p] B (.bool (ZaK s p)):=by
 refine cB 9 Tryz.func159 (h:=?_)
 refine Za (xA (h:=Za (xM (h:=xM (h:=xC ZC9 rfl (ZzB s p om2 om2 om2 _ _ hG) (h:=?_))))))
 rintro _ B9 _ hle9 ⟨rfl,rfl,z9,rfl,hz9a,hz9b,hz9⟩
 refine Zc9 (h:=xA (h:=tL0 (Zf ?_)))
 exact eR t1 ⟨Zc (by rw [Bool.eq_iff_iff,decide_eq_true_eq];exact hz9),rfl,rfl⟩

def kt : KT := ⟨228, 230, 233, 235, 236, 238, 240⟩

theorem Zji (k fl:Int) (t:Str) (q q':Option Addr) (m cp m' cp':Nat) (B:Kn):Z1 (pj J) 201 [.agg #[.int .i64 k,.int .i64 fl,str t,.slice q m cp,.slice q' m' cp']] B (.bool (Zc5 fl t m)):=by
 refine cB 17 Tryz.func201 (h:=?_)
 refine Za (xBx [_,_,_,_,_] (h:=fun b1=>xA (h:=tL1 (Za (xW Ze3 (h:=x1 lk3 0 (h:=Z2 (h:=xM (h:=Zq (d:=6) rfl (fun g1=>?_) (fun g1=>?_))))))))))
 refine xW ZeK (h:=x1 lk9 0 (h:=Zcj (h:=xT (h:=xM (h:=Zq (d:=11) rfl (fun g2=>?_) (fun g2=>?_))))))
 refine xW Zcf (h:=x1 Zj6 0 (h:=xV Tryz.underlying47 (h:=Z2 (h:=xT (h:=xA (h:=Zf ?_))))))
 exact eR t1 ⟨Zc (by simp [Zc5, *]),rfl,rfl⟩
 refine xP (h:=xP (h:=xP (h:=xP (h:=xF (h:=xA (h:=Zf ?_))))))
 exact eR t1 ⟨Zc (by simp [Zc5, *]),rfl,rfl⟩
 refine xP (h:=xP (h:=xP (h:=xF (h:=xM (h:=xP (h:=xP (h:=xP (h:=xP (h:=xF (h:=xA (h:=Zf ?_)))))))))))
 exact eR t1 ⟨Zc (by simp [Zc5, *]),rfl,rfl⟩

def BrL (J : JoinT) (n : Nat) : Prop := ∀ (q q' : Option Addr) (c c' : Nat) (x : DKey) (h1 : x.text.length ≤ 2000000) (r : Int) (hr0 : 0 ≤ r) (hr1 : r ≤ 9) (h5 : 5 ≤ x.kind) (b : Nat) (M : Int) (B : Kn) (hG : GlobB 4 5 B M) (hs : SlK B q c 2 ZN x.set) (hk : SlK B q' c' 5 (Zbw n) x.keys), Zu (pj J) 199 [.agg #[.int .i64 x.kind, .int .i64 x.flag, str x.text, .slice q x.set.length c, .slice q' x.keys.length c'], ptr ⟨b, 0, none⟩] B [ZP b [.int .i64 r] 3] (fun v B' Ls => B' = B ∧ ∃ nv, v = .tuple #[nv, .bool (x.brn r).1] ∧ Ls = [ZP b [.int .i64 (x.brn r).2] 3] ∧ ((x.brn r).1 = true → Zcu kt B (n + 1) nv x))
def BdK (J : JoinT) (n : Nat) : Prop := ∀ (q q' : Option Addr) (c c' : Nat) (x : DKey) (h1 : x.text.length ≤ 2000000) (r : Int) (hr0 : 0 ≤ r) (hr1 : r ≤ 9) (b : Nat) (M : Int) (B : Kn) (hG : GlobB 4 5 B M) (hs : SlK B q c 2 ZN x.set) (hk : SlK B q' c' 5 (Zbw n) x.keys), Zu (pj J) 157 [.agg #[.int .i64 x.kind, .int .i64 x.flag, str x.text, .slice q x.set.length c, .slice q' x.keys.length c'], ptr ⟨b, 0, none⟩] B [ZP b [.int .i64 r] 3] (fun v B' Ls => B' = B ∧ ∃ nv, v = .tuple #[nv, .bool (x.bld r).1] ∧ Ls = [ZP b [.int .i64 (x.bld r).2] 3] ∧ ((x.bld r).1 = true → Zcu kt B (n + 1) nv x))
theorem Zns (n:Nat) (hK :∀m,n=m+1→BdK J m) (q q':Option Addr) (c c':Nat) (x:DKey) (h1:x.text.length≤2000000) (r:Int) (hr0:0≤r) (hr1:r≤9) (h5:5≤x.kind) (b:Nat) (M:Int) (B:Kn) (hG:GlobB 4 5 B M) (hs:SlK B q c 2 ZN x.set) (hk:SlK B q' c' 5 (Zbw n) x.keys):Zu (pj J) 199 [.agg #[.int .i64 x.kind,.int .i64 x.flag,str x.text,.slice q x.set.length c,.slice q' x.keys.length c'],ptr ⟨b,0,none⟩] B [ZP b [.int .i64 r] 3] (fun v B' Ls=>B'=B∧∃nv,v = .tuple #[nv,.bool (x.brn r).1]∧Ls=[ZP b [.int .i64 (x.brn r).2] 3]∧((x.brn r).1=true→Zcu kt B (n+1) nv x)):=by
 refine cB 66 Tryz.func199 (h:=?_)
 have hkn:=hk.len
 have hsn:=hs.len
 have hnb:=ZxE h5
 refine Za (xBx [_,_,_,_,_] (h:=fun b1=>xA (h:=xA (h:=tL2 (Za (xA (h:=ZeQ (α:=Nat) [0,1,2,4,5] (fun w=>[(6,.int .i64 w)]) [] (fun w=>[]) (fun w=>[]) (fun w Bx=>Bx=B∧w=(if x.kind=5 then 1 else 2)) ?_ (fun w B2 hle2 hF=>?_))))))))
 refine Za (xW ZbD (h:=x1 lk3 1 (h:=Z2 (h:=Zb rfl (fun g1=>?_) (fun g1=>?_)))))
 try simp only [sQ,ne_eq] at g1
 refine Zd (xA (h:=?_))
 exact ZX 1 [0,1] ⟨rfl,by rw [if_pos g1]⟩ t6 rfl
 try simp only [sQ,ne_eq] at g1
 refine ZK ?_
 exact ZX 2 [0,1] ⟨rfl,by rw [if_neg g1]⟩ t6 rfl
 obtain ⟨rfl,hw⟩:=hF
 refine Zz [(0,_),(1,_),(2,_),(4,_),(5,_),(6,_)] [_,_] t6 rfl (Ze (ZeQ (α:=Bool) [0,1,2,4,5,6] (fun bb=>[(28,.bool bb)]) [] (fun bb=>[]) (fun bb=>[]) (fun bb Bx=>Bx=B2∧bb = !x.nodeOk) ?_ (fun bb B3 hle3 hF=>?_)))
 refine Zd (xW ZbD (h:=x1 lk3 1 (h:=Zc8 (h:=xM (h:=Zq (d:=17) rfl (fun g1=>?_) (fun g1=>?_))))))
 try simp only [sQ,ne_eq] at g1
 refine xP (h:=xP (h:=xP (h:=xP (h:=xP (h:=xT (h:=xM (h:=xP (h:=xP (h:=xP (h:=xT (h:=?_)))))))))))
 exact ZX _ [0,1] ⟨rfl,by rw [hnb,← hw];first | (simp_all;done) | (simp_all;omega)⟩ t7 rfl
 try simp only [sQ,ne_eq] at g1
 refine xW Zbk (h:=x1 ZhF 1 (h:=xV Tryz.underlying61 (h:=xM (h:=Zaa (h:=xF (h:=xM (h:=Zq (d:=24) rfl (fun g2=>?_) (fun g2=>?_))))))))
 try simp only [sQ,ne_eq] at g2
 refine xP (h:=xP (h:=xP (h:=xT (h:=?_))))
 exact ZX _ [0,1] ⟨rfl,by rw [hnb,← hw];first | (simp_all;done) | (simp_all;omega)⟩ t7 rfl
 try simp only [sQ,ne_eq] at g2
 refine xL [_,_,_,_,_] ZfW 1 (h:=xR ZAx rfl (Zji _ _ _ _ _ _ _ _ _ _ ) (h:=xN (h:=xF (h:=?_))))
 exact ZX _ [0,1] ⟨rfl,by rw [hnb,← hw];first | (simp_all;done) | (simp_all;omega)⟩ t7 rfl
 obtain ⟨rfl,hbb⟩:=hF
 refine Zz [(0,_),(1,_),(2,_),(4,_),(5,_),(6,_),(28,_)] [_,_] t7 rfl (Zb rfl (fun g2=>?_) (fun g2=>?_))
 try simp only [sQ,ne_eq] at g2
 have hbr:=Ztk (x:=x) (r:=r) (by rw [hbb] at g2;simpa using g2)
 rw [hbr]
 refine Za (xA (h:=xA (h:=Zf (Zj ?_))))
 exact Zdh .ret (.inl rfl) [_,_] [0] rfl t2 ⟨rfl,_,rfl,rfl,fun h=>by cases h⟩
 try simp only [sQ,ne_eq] at g2
 have hok:x.nodeOk=true:=by rw [hbb] at g2;simpa using g2
 have hxk:=Zdr hok
 have hw2:x.keys.length=w:=by rw [hok] at hnb;simp at hnb;omega
 have hwle:w≤2:=by rw [hw];split <;> omega
 refine wSk (Za (Zh (ZqI [.nilIface,.nilIface] rfl rfl Tryz.underlying337 Zpc ZyW rfl (xAl [_,_] ZyW (h:=fun b5=>xS [_,_] 2 [_,_] ZBx (h:=tL3 (Ze (Za (xM (h:=xM (h:=Zg (Zv (α:=Nat × Int × List Value) [0,1,2,6,7,28,30] (fun g=>[(31,.int .i64 g.1)]) [0,2] (fun g=>[ZP b [.int .i64 g.2.1] 3,ZP b5 g.2.2 337]) (fun g Bx=>Bx=B3∧g.1≤w∧0≤g.2.1∧g.2.1≤9∧g.2.2.length=2∧DKey.bldL x.keys r=DKey.bldL (x.keys.drop g.1) g.2.1∧∀i z u,i<g.1→x.keys[i]? = some z→g.2.2[i]? = some u→Zcu kt Bx n u z) (fun g=>w - g.1) (0,r,[.nilIface,.nilIface]) t1 rfl (⟨rfl,Nat.zero_le _,hr0,hr1,rfl,rfl,fun i z u h=>absurd h (Nat.not_lt_zero i)⟩) (fun g B6 hle6 hI=>?_)))))))))))))
 obtain ⟨rfl,hkw,hq0,hq1,hvl,hbl,hnd⟩:=hI
 refine Zz [(0,_),(1,_),(2,_),(6,_),(7,_),(28,_),(30,_),(31,_)] [_,_,_] t8 rfl (Za (ZC (h:=Ze (Zb rfl (fun g3=>?_) (fun g3=>?_)))))
 try simp only [sQ,ne_eq] at g3
 obtain ⟨m,rfl⟩:=hk.succ oz
 refine wSk (Ze (Zg (Za (xM (h:=xA (h:=Za (xW Zbk (h:=x1 ZhF 1 (h:=xM (h:=?_))))))))))
 obtain ⟨y,hy⟩:=ZM (xs:=x.keys) (i:=g.1) om
 obtain ⟨bb8,oo8,rfl⟩:=hk.base hy
 obtain ⟨_,⟨qs9,cs9,qk9,ck9,rfl,hs9,hk9,hb9⟩,hc9⟩:=hk.elem hy
 have hs9n:=hs9.len
 have hk9n:=hk9.len
 refine xIx Tryz.underlying61 Zi1 (h:=?_)
 have hbl2:=ZyL (r:=g.2.1) hy
 have hrm:=ZvM (k:=y) hq0
 refine yL [_,_,_,_,_] ZfW hc9 0 (h:=xM (h:=xK [0] rfl ZAC rfl (hK m rfl _ _ _ _ y om2 g.2.1 om2 om2 _ _ _ hG hs9 hk9) (h:=?_)))
 rintro _ B9 _ hle9 ⟨rfl,nv9,rfl,rfl,hv9⟩
 refine xM (h:=xE (h:=xE (h:=xA (h:=xA (h:=tL3 (Ze (Za (xM (h:=xN (h:=Zb rfl (fun g4=>?_) (fun g4=>?_)))))))))))
 try simp only [sQ,ne_eq] at g4
 have hbr:=show x.brn r=(false,(y.bld g.2.1).2) from (ZnQ hok).trans (by rw [hbl,hbl2,if_neg (by rw [g4];simp)])
 rw [hbr]
 refine Za (xA (h:=xA (h:=Zf (Zj (Zt (Zj (ZJ (Zt (Zj ?_)))))))))
 exact Zdh .ret (.inl rfl) [_,_] [0] rfl t2 ⟨rfl,_,rfl,rfl,fun h=>by cases h⟩
 try simp only [sQ,ne_eq] at g4
 have hnv:=hv9 (by simpa using g4)
 obtain ⟨tu,au,rfl⟩:=hnv.iface
 refine wSk (Zd (xM (h:=xM (h:=Zh (ZgJ rfl rfl Tryz.underlying337 Zpc rfl rfl oz oz ?_)))))
 refine Zh (Zy2 (k:=g.1) 2 rfl rfl Zpc rfl rfl hnv.one rfl oz ?_)
 refine ZD (Zm (Zd (xD (h:=xM (h:=?_)))))
 exact Zx (g.1+1,(y.bld g.2.1).2,g.2.2.set g.1 (.iface tu au)) [0,1,2] so2 ⟨rfl,so2,hrm.2.2 (by simpa using g4),so2,by simp only [List.length_set];exact hvl,by rw [hbl,hbl2,if_pos (by simpa using g4)],ZuN hnd hy hnv⟩ t8 rfl
 try simp only [sQ,ne_eq] at g3
 have hge:x.keys.length≤g.1:=by omega
 have hbr:x.brn r=(true,g.2.1):=by rw [ZnQ hok,hbl,List.drop_eq_nil_of_le hge,ZkI]
 obtain ⟨v0,v1,hvs⟩:=Zt8 hvl
 rw [hvs,hbr]
 rw [hvs] at hnd
 rw [DKey.brn] at hbr
 refine ZA (ZQ (ZB (Zs (Zm (Ze (Za (xW ZbD (h:=x1 lk3 1 (h:=Z2 (h:=Zb rfl (fun g5=>?_) (fun g5=>?_)))))))))))
 try simp only [sQ,ne_eq] at g5
 obtain ⟨y,hy⟩:=ZrF (hxk.2.1 g5)
 have hn0:=hnd 0 y v0 (by rw [hy] at hge;simp at hge;omega) (by rw [hy];rfl) rfl
 obtain ⟨t0,a0,rfl⟩:=hn0.iface
 refine Za (Zh (ZgJ rfl rfl Tryz.underlying337 Zpc rfl rfl oz oz ?_))
 refine x1 ZpF 2 (h:=xB [(0,_)] [_] [_] ZBN ZwP (h:=Zh (ZaU rfl rfl Tryz.underlying238 rfl rfl (xA (h:=xA (h:=Zf (Zj ?_)))))))
 exact Zdh .ret (.inl rfl) [_,_] [0] rfl t2 ⟨rfl,_,rfl,rfl,fun _=>ZuO g5 hy hn0⟩
 try simp only [sQ,ne_eq] at g5
 have h67:x.kind=6∨x.kind=7:=by omega
 obtain ⟨y,z,hyz⟩:=ZjJ (hxk.2.2.1 oz).1
 have hg2:2≤g.1:=by rw [hyz] at hge;simpa using hge
 have hn0:=hnd 0 y v0 oz (by rw [hyz];rfl) rfl
 have hn1:=hnd 1 z v1 oz (by rw [hyz];rfl) rfl
 obtain ⟨t0,a0,rfl⟩:=hn0.iface
 obtain ⟨t1,a1,rfl⟩:=hn1.iface
 refine wSk (Za (xW ZbD (h:=x1 lk3 1 (h:=Z2 (h:=Zh (ZgJ rfl rfl Tryz.underlying337 Zpc rfl rfl oz oz ?_))))))
 refine x1 ZpF 2 (h:=Zh (ZgJ rfl rfl Tryz.underlying337 Zpc rfl rfl oz oz ?_))
 refine x1 ZpF 2 (h:=xB [(0,_),(1,_),(2,_)] [_,_,_] [_,_,_] ZBM ZyX (h:=Zh (ZaU rfl rfl Tryz.underlying240 rfl rfl (xA (h:=xA (h:=Zf ?_))))))
 exact Zdh .ret (.inl rfl) [_,_] [0] rfl t2 ⟨rfl,_,rfl,rfl,fun _=>ZrG h67 hyz hn0 hn1⟩

theorem ZpR (n:Nat) (hL:BrL J n) (q q':Option Addr) (c c':Nat) (x:DKey) (h1:x.text.length≤2000000) (r:Int) (hr0:0≤r) (hr1:r≤9) (b:Nat) (M:Int) (B:Kn) (hG:GlobB 4 5 B M) (hs:SlK B q c 2 ZN x.set) (hk:SlK B q' c' 5 (Zbw n) x.keys):Zu (pj J) 157 [.agg #[.int .i64 x.kind,.int .i64 x.flag,str x.text,.slice q x.set.length c,.slice q' x.keys.length c'],ptr ⟨b,0,none⟩] B [ZP b [.int .i64 r] 3] (fun v B' Ls=>B'=B∧∃nv,v = .tuple #[nv,.bool (x.bld r).1]∧Ls=[ZP b [.int .i64 (x.bld r).2] 3]∧((x.bld r).1=true→Zcu kt B (n+1) nv x)):=by
 refine cB 88 Tryz.func157 (h:=?_)
 have hkn:=hk.len
 have hsn:=hs.len
 refine Za (xBx [_,_,_,_,_] (h:=fun b1=>xA (h:=xA (h:=tL2 (Za (xM (h:=xNc (h:=x1 lk3 0 (h:=xU (h:=xNc (h:=xS [_] 0 [_] sz3 (h:=tL2 (Ze (Za (xM (h:=xNc (h:=x1 lk3 0 (h:=ZC (h:=Zb rfl (fun g1=>?_) (fun g1=>?_))))))))))))))))))))
 try simp only [sQ,ne_eq] at g1
 have hbr:=show x.bld r=(false,r - 1) from ZAO g1
 rw [hbr]
 refine Za (xA (h:=xA (h:=Zf (Zj ?_))))
 exact Zdh .ret (.inl rfl) [_,_] [0] rfl t2 ⟨rfl,_,rfl,rfl,fun h=>by cases h⟩
 try simp only [sQ,ne_eq] at g1
 rw [ZAP oz]
 refine wSk (Ze (Za (xW ZbD (h:=x1 lk3 1 (h:=Zc9 (h:=Zb rfl (fun g2=>?_) (fun g2=>?_)))))))
 try simp only [sQ,ne_eq] at g2
 refine Za (xL [_,_,_,_,_] ZfW 1 (h:=xM (h:=xK [0] rfl ZDb rfl (hL _ _ _ _ x om2 (r - 1) om2 om2 om2 _ _ _ hG hs hk) (h:=?_))))
 rintro _ B9 _ hle9 ⟨rfl,nv9,rfl,rfl,hv9⟩
 refine xE (h:=xE (h:=xA (h:=xA (h:=tL2 (Zf (Zj ?_))))))
 exact Zdh .ret (.inl rfl) [_,_] [0] rfl t2 ⟨rfl,_,rfl,rfl,hv9⟩
 try simp only [sQ,ne_eq] at g2
 refine wSk (Za (xL [_,_,_,_,_] ZfW 1 (h:=xAl [_,_,_,_,_] ZyV (h:=fun b3=>xS [_,_,_,_,_] 2 [_,_,_,_,_] Zi1 (h:=tL3 (Za (xA (h:=Za (xA (h:=ZeQ (α:=Value × Bool × Int × Str × Option Addr × Nat × Nat) [0,1,2,6,17,20] (fun g=>[(7,g.1),(8,.bool g.2.1)]) [2] (fun g=>[ZP b3 [.int .i64 x.kind,.int .i64 g.2.2.1,str g.2.2.2.1,.slice g.2.2.2.2.1 g.2.2.2.2.2.1 g.2.2.2.2.2.2,.slice q' x.keys.length c'] 63]) (fun g=>[]) (fun g Bx=>Bx=B∧(g.2.1 && Zc5 g.2.2.1 g.2.2.2.1 g.2.2.2.2.2.1 && decide (x.keys.length=0))=x.nodeOk∧Zcu kt Bx (n+1) g.1 x) ?_ (fun g B4 hle4 hF=>?_)))))))))))
 refine Za (xW ZbD (h:=x1 lk3 1 (h:=Zg (Za (Z2 (h:=xA (h:=Zb rfl (fun k0=>?_) (fun k0=>?_))))))))
 try simp only [sQ,ne_eq] at k0
 refine Zd (xB [] [] [] ZBS ZkQ (h:=Zh (ZaU rfl rfl Tryz.underlying228 rfl rfl (xA (h:=ZD ?_)))))
 exact ZX (_,_,_,_,_,_,_) [0,1,2] ⟨rfl,ZzR k0,.inl ⟨k0,rfl⟩⟩ t8 rfl
 try simp only [sQ,ne_eq] at k0
 refine Za (Z2 (h:=xA (h:=Zb rfl (fun k1=>?_) (fun k1=>?_))))
 try simp only [sQ,ne_eq] at k1
 have hno1:=fun b hb=>ZzQ (x:=x) (b:=b) k1 hb
 refine ZW (keeps _ [1,2] _) mo kr ⟨Kn.le.refl _,ZaH.refl _ _⟩ (fun _ _=>?_)
 refine aW 0 rfl Ze3 (h:=aT 1 rfl (ZO fun D B L hI=>Zn rfl rfl lk3 rfl (atL 1 (hI.2.1.trans rfl) rfl rfl) r4) (h:=aT 2 rfl (ZO fun D B L hI=>Zcl (parts:=[(0,_)]) [_] [_] rfl rfl ZBR ZmF rfl rfl rfl r4) (h:=aT 3 rfl (ZO fun D B L hI=>ZaU rfl rfl Tryz.underlying230 rfl rfl r4) (h:=aW 4 rfl Ze3 (h:=aT 5 rfl (ZO fun D B L hI=>Zn rfl rfl lk3 rfl (atL 1 (hI.2.1.trans rfl) rfl rfl) r4) (h:=ZV 6 kr rfl kr (Zb9 rfl rfl ZDa rfl (Zp3 x.flag _ _ hG) ?_)))))))
 rintro _ B8 _ hle8 ⟨rfl,rfl,s8,rfl,hs8⟩
 refine ⟨⟨Kn.le.refl _,t2⟩,(ZwL 7 rfl (h:=aA 8 rfl (h:=aA 9 rfl (h:=aW 10 rfl Ze3 (h:=Zb8 11 kr rfl kr kr kr (Zav [_] 2 [_,_,_,_,_] rfl rfl sz3 rfl rfl rfl rfl rfl rfl rfl rfl ?_))))))⟩
 refine ZD ?_
 exact ZX (_,_,_,_,_,_,_) [0,1,2] ⟨rfl,hno1 (decide (s8≠[])) (by cases h:ZbB x.flag <;> simp [hs8,h]),.inr (.inl ⟨k1,rfl⟩)⟩ t8 rfl
 try simp only [sQ,ne_eq] at k1
 refine Za (Z2 (h:=xA (h:=Zb rfl (fun k2=>?_) (fun k2=>?_))))
 try simp only [sQ,ne_eq] at k2
 refine ZW (keeps _ [1,2] _) mo kr ⟨Kn.le.refl _,ZaH.refl _ _⟩ (fun _ _=>?_)
 refine aW 0 rfl ZeK (h:=aT 1 rfl (ZO fun D B L hI=>Zn rfl rfl lk9 rfl (atL 1 (hI.2.1.trans rfl) rfl rfl) r4) (h:=aT 2 rfl (ZO fun D B L hI=>Zcl (parts:=[(0,_)]) [_] [_] rfl rfl ZBQ ZoY rfl rfl rfl r4) (h:=aT 3 rfl (ZO fun D B L hI=>ZaU rfl rfl Tryz.underlying233 rfl rfl r4) (h:=aW 4 rfl ZeK (h:=aT 5 rfl (ZO fun D B L hI=>Zn rfl rfl lk9 rfl (atL 1 (hI.2.1.trans rfl) rfl rfl) r4) (h:=aT 6 rfl (ZO fun D B L hI=>Z5 rfl rfl Zkz rfl (ZbI _ om2 _) r4) (h:=?_)))))))
 refine aA 7 rfl (h:=aA 8 rfl (h:=aW 9 rfl ZeK (h:=Zb8 10 kr rfl kr kr kr (Zav [_] 2 [_,_,_,_,_] rfl rfl sz9 rfl rfl rfl rfl rfl rfl rfl rfl ?_))))
 refine ZD ?_
 exact ZX (_,_,_,_,_,_,_) [0,1,2] ⟨rfl,ZzP k2,.inr (.inr (.inl ⟨k2,h1,rfl⟩))⟩ t8 rfl
 try simp only [sQ,ne_eq] at k2
 refine Za (Z2 (h:=xA (h:=Zb rfl (fun k3=>?_) (fun k3=>?_))))
 try simp only [sQ,ne_eq] at k3
 refine ZW (keeps _ [1,2] _) mo kr ⟨Kn.le.refl _,ZaH.refl _ _⟩ (fun _ _=>?_)
 refine aW 0 rfl Zcf (h:=aT 1 rfl (ZO fun D B L hI=>Zn rfl rfl Zj6 rfl (atL 1 (hI.2.1.trans rfl) rfl rfl) r4) (h:=aT 2 rfl (ZO fun D B L hI=>Zcl (parts:=[(0,_)]) [_] [_] rfl rfl ZBP Zqr rfl rfl rfl r4) (h:=aT 3 rfl (ZO fun D B L hI=>ZaU rfl rfl Tryz.underlying235 rfl rfl r4) (h:=aW 4 rfl Zcf (h:=aT 5 rfl (ZO fun D B L hI=>Zn rfl rfl Zj6 rfl (atL 1 (hI.2.1.trans rfl) rfl rfl) r4) (h:=aT 6 rfl (ZO fun D B L hI=>Z5 rfl rfl ZCv rfl (Zig _ _ x.set _ (hs.mono ZN.mono hI.1)) r4) (h:=aA 7 rfl (h:=aA 8 rfl (h:=aW 9 rfl Zcf (h:=Zb8 10 kr rfl kr kr kr (Zav [_] 2 [_,_,_,_,_] rfl rfl ZBv rfl rfl rfl rfl rfl rfl rfl rfl ?_)))))))))))
 refine ZD ?_
 exact ZX (_,_,_,_,_,_,_) [0,1,2] ⟨rfl,Zwq (.inl k3),.inr (.inr (.inr (.inl ⟨k3,_,_,rfl,hs⟩)))⟩ t8 rfl
 try simp only [sQ,ne_eq] at k3
 refine Za (Z2 (h:=xA (h:=Zb rfl (fun k4=>?_) (fun k4=>?_))))
 try simp only [sQ,ne_eq] at k4
 refine ZW (keeps _ [1,2] _) mo kr ⟨Kn.le.refl _,ZaH.refl _ _⟩ (fun _ _=>?_)
 refine aW 0 rfl Zcf (h:=aT 1 rfl (ZO fun D B L hI=>Zn rfl rfl Zj6 rfl (atL 1 (hI.2.1.trans rfl) rfl rfl) r4) (h:=aT 2 rfl (ZO fun D B L hI=>Zcl (parts:=[(0,_)]) [_] [_] rfl rfl ZBO ZtI rfl rfl rfl r4) (h:=aT 3 rfl (ZO fun D B L hI=>ZaU rfl rfl Tryz.underlying236 rfl rfl r4) (h:=aW 4 rfl Zcf (h:=aT 5 rfl (ZO fun D B L hI=>Zn rfl rfl Zj6 rfl (atL 1 (hI.2.1.trans rfl) rfl rfl) r4) (h:=aT 6 rfl (ZO fun D B L hI=>Z5 rfl rfl ZCv rfl (Zig _ _ x.set _ (hs.mono ZN.mono hI.1)) r4) (h:=aA 7 rfl (h:=aA 8 rfl (h:=aW 9 rfl Zcf (h:=Zb8 10 kr rfl kr kr kr (Zav [_] 2 [_,_,_,_,_] rfl rfl ZBv rfl rfl rfl rfl rfl rfl rfl rfl ?_)))))))))))
 refine ZD ?_
 exact ZX (_,_,_,_,_,_,_) [0,1,2] ⟨rfl,Zwq (.inr k4),.inr (.inr (.inr (.inr (.inl ⟨k4,_,_,rfl,hs⟩))))⟩ t8 rfl
 try simp only [sQ,ne_eq] at k4
 have hbr:=Ztk (x:=x) (r:=r - 1) (ZuP oz)
 rw [hbr]
 refine Za (xA (h:=xA (h:=Zf (Zt (Zj ?_)))))
 exact Zdh .ret (.inl rfl) [_,_] [0] rfl t2 ⟨rfl,_,rfl,rfl,fun h=>by cases h⟩
 obtain ⟨rfl,hno,hnv⟩:=hF
 refine Zz [(0,_),(1,_),(2,_),(6,_),(7,_),(8,_),(17,_),(20,_)] [_,_,_] t8 rfl (Ze (ZeQ (α:=Bool) [0,1,2,6,7,8,17,20] (fun bb=>[(86,.bool bb)]) [] (fun bb=>[]) (fun bb=>[]) (fun bb Bx=>Bx=B4∧bb = !x.nodeOk) ?_ (fun bb B9 hle9 hF=>?_)))
 refine Zd (xM (h:=xN (h:=xM (h:=Zq (d:=76) rfl (fun g1=>?_) (fun g1=>?_)))))
 try simp only [sQ,ne_eq] at g1
 refine xP (h:=xP (h:=xP (h:=xP (h:=xT (h:=xM (h:=xP (h:=xP (h:=xP (h:=xT (h:=?_))))))))))
 exact ZX _ [0,1,2] ⟨rfl,by rw [← hno];simp_all⟩ t9 rfl
 try simp only [sQ,ne_eq] at g1
 refine xW Zbk (h:=x1 ZhF 1 (h:=xV Tryz.underlying61 (h:=Zaa (h:=xF (h:=xM (h:=Zq (d:=82) rfl (fun g2=>?_) (fun g2=>?_)))))))
 try simp only [sQ,ne_eq] at g2
 refine xP (h:=xP (h:=xP (h:=xT (h:=?_))))
 exact ZX _ [0,1,2] ⟨rfl,by rw [← hno];simp_all⟩ t9 rfl
 try simp only [sQ,ne_eq] at g2
 refine xL [_,_,_,_,_] ZfW 2 (h:=xR ZAx rfl (Zji _ _ _ _ _ _ _ _ _ _ ) (h:=xN (h:=xF (h:=?_))))
 exact ZX _ [0,1,2] ⟨rfl,by rw [← hno];simp_all⟩ t9 rfl
 obtain ⟨rfl,hbb⟩:=hF
 refine Zz [(0,_),(1,_),(2,_),(6,_),(7,_),(8,_),(17,_),(20,_),(86,_)] [_,_,_] t9 rfl (Zb rfl (fun g3=>?_) (fun g3=>?_))
 try simp only [sQ,ne_eq] at g3
 have hbr:=Ztk (x:=x) (r:=r - 1) (by rw [hbb] at g3;simpa using g3)
 rw [hbr]
 refine Za (xA (h:=xA (h:=Zf (Zj ?_))))
 exact Zdh .ret (.inl rfl) [_,_] [0] rfl t2 ⟨rfl,_,rfl,rfl,fun h=>by cases h⟩
 try simp only [sQ,ne_eq] at g3
 have hbr:=ZvL (x:=x) (r:=r - 1) (by rw [hbb] at g3;simpa using g3) oz
 rw [hbr]
 refine wSk (Za (xM (h:=xA (h:=xA (h:=Zf ?_)))))
 exact Zdh .ret (.inl rfl) [_,_] [0] rfl t2 ⟨rfl,_,rfl,rfl,fun _=>hnv⟩

theorem ZlY (n:Nat):BrL J n∧BdK J n:=ZdR (L:=BrL J) (K:=BdK J) (fun n h=>Zns n h) (fun n h=>ZpR n h) n

theorem ZlW (n:Nat) (q q':Option Addr) (c c':Nat) (x:DKey) (h1:x.text.length≤2000000) (M:Int) (B:Kn) (hG:GlobB 4 5 B M) (hs:SlK B q c 2 ZN x.set) (hk:SlK B q' c' 5 (Zbw n) x.keys):Zu (pj J) 114 [.agg #[.int .i64 x.kind,.int .i64 x.flag,str x.text,.slice q x.set.length c,.slice q' x.keys.length c']] B [] (fun v B' Ls=>B'=B∧Ls=[]∧∃nv,v = .tuple #[nv,.bool (ZdE x)]∧((ZdE x)=true→Zcu kt B (n+1) nv x)):=by
 refine cB 9 Tryz.func114 (h:=?_)
 have hkn:=hk.len
 have hsn:=hs.len
 refine Za (xBx [_,_,_,_,_] (h:=fun b1=>xA (h:=xA (h:=tL1 (Za (xAl [_] zo3 (h:=fun b2=>xS [_] 1 [_] sz3 (h:=tL2 (Za (xL [_,_,_,_,_] ZfW 0 (h:=xK [1] rfl ZAC rfl ((ZlY _).2 _ _ _ _ x om2 9 om2 om2 _ _ _ hG hs hk) (h:=?_))))))))))))
 rintro _ B9 _ hle9 ⟨rfl,nv9,rfl,rfl,hv9⟩
 rw [← ZvN]
 refine xE (h:=xE (h:=xA (h:=xA (h:=tL2 (Zf ?_)))))
 exact Zdh .ret (.inl rfl) [_,_] [] rfl t2 ⟨rfl,rfl,_,rfl,hv9⟩

theorem ZpP (n:Nat) (q q':Option Addr) (c c':Nat) (x:DKey) (h1:x.text.length≤2000000) (M:Int) (B:Kn) (hG:GlobB 4 5 B M) (hs:SlK B q c 2 ZN x.set) (hk:SlK B q' c' 5 (Zbw n) x.keys):Z1 (pj J) 62 [.agg #[.int .i64 x.kind,.int .i64 x.flag,str x.text,.slice q x.set.length c,.slice q' x.keys.length c']] B (.bool (ZdE x)):=by
 refine cB 11 Tryz.func62 (h:=?_)
 have hkn:=hk.len
 have hsn:=hs.len
 refine Za (xBx [_,_,_,_,_] (h:=fun b1=>xA (h:=tL1 (Za (xL [_,_,_,_,_] ZfW 0 (h:=xC ZAH rfl (ZlW _ _ _ _ _ x om2 _ _ hG hs hk) (h:=?_)))))))
 rintro _ B2 _ hle2 ⟨rfl,rfl,nv2,rfl,hv2⟩
 refine xM (h:=xE (h:=xE (h:=xA (h:=xA (h:=tL1 (Za (xM (h:=xA (h:=Zf ?_)))))))))
 exact eR t1 ⟨rfl,rfl,rfl⟩

theorem ZrZ (qm:Option Addr) (cm:Nat) (b:DBox) (B:Kn) (hb:SlK B qm cm 3 Zah b.mail):Z1 (pj J) 160 [.agg #[.int .i64 b.next,.slice qm b.mail.length cm]] B (.int .i64 ((b.mail.getLast?.map DMail.uid).getD 0)):=by
 refine cB 16 Tryz.func160 (h:=?_)
 have hbn:=hb.len
 refine Za (xBx [_,_] (h:=fun b1=>xA (h:=tL1 (Ze (Za (xW ZaI (h:=x1 Zfs 0 (h:=xV Tryz.underlying80 (h:=Z2 (h:=Zb rfl (fun g1=>?_) (fun g1=>?_)))))))))))
 try simp only [sQ,ne_eq] at g1
 refine Za (xA (h:=Zf (Zj ?_)))
 exact eR t1 ⟨ZH (by have:b.mail=[]:=List.eq_nil_of_length_eq_zero oz;rw [this];rfl),rfl,rfl⟩
 try simp only [sQ,ne_eq] at g1
 refine wSk (Za (xW ZaI (h:=x1 Zfs 0 (h:=xW ZaI (h:=x1 Zfs 0 (h:=xV Tryz.underlying80 (h:=xU (h:=?_))))))))
 obtain ⟨l,hl⟩:=Zvq (xs:=b.mail) (i:=(↑b.mail.length - 1)) om om
 obtain ⟨bb3,oo3,rfl⟩:=hb.base hl
 obtain ⟨_,⟨rfl,hb4⟩,hc4⟩:=hb.elem hl
 refine xIx Tryz.underlying80 ZcB (h:=xW Zb7 (h:=y1 lk3 hc4 0 (h:=xA (h:=Zf ?_))))
 exact eR t1 ⟨ZH (ZoC (i:=(b.mail.length:Int) - 1) hl rfl).symm,rfl,rfl⟩

theorem Zu4 (q:Option Addr) (cp:Nat) (xs:List Int) (v:Int) (B:Kn) (hx:SlK B q cp 1 Z9 xs):Z1 (pj J) 203 [.slice q xs.length cp,.int .i64 v] B (.int .i64 (Zb5 (fun y=>decide (v=y)) xs)):=by
 refine cB 19 Tryz.func203 (h:=?_)
 have hbn:=hx.len
 refine Za (xA (h:=Ze (Za (xM (h:=xV Tryz.underlying58 (h:=xM (h:=Zg (Zv (α:=Nat) [0,1,7] (fun k=>[(8,.int .i64 k)]) [] (fun k=>[]) (fun k Bx=>Bx=B∧k≤xs.length∧∀y,y∈xs.take k→decide (v=y)=false) (fun k=>xs.length - k) 0 t1 rfl (⟨rfl,Nat.zero_le _,by simp⟩) (fun k B1 hle1 hI=>?_)))))))))
 obtain ⟨rfl,hk,ha⟩:=hI
 refine Zz [(0,_),(1,_),(7,_),(8,_)] [] t4 rfl (Za (ZC (h:=Ze (Zb rfl (fun g1=>?_) (fun g1=>?_)))))
 try simp only [sQ,ne_eq] at g1
 refine wSk (Ze (Zg (Za (xM (h:=xA (h:=Za (xM (h:=xM (h:=xM (h:=?_))))))))))
 obtain ⟨y,hy⟩:=ZM (xs:=xs) (i:=k) om
 obtain ⟨bb3,oo3,rfl⟩:=hx.base hy
 obtain ⟨_,rfl,hc4⟩:=hx.elem hy
 refine xIx Tryz.underlying58 sz3 (h:=y1 lk3 hc4 0 (h:=Z2 (h:=Zb rfl (fun g2=>?_) (fun g2=>?_))))
 try simp only [sQ,ne_eq] at g2
 refine Za (xM (h:=xA (h:=Zf (Zt (Zj (ZJ (Zt (Zj ?_))))))))
 exact eR t1 ⟨ZH (Zgs hy (decide_eq_true g2) ha).symm,rfl,rfl⟩
 try simp only [sQ,ne_eq] at g2
 refine ZK (ZD (Zm (Zd (xD (h:=xM (h:=?_))))))
 exact Zx (k+1) [] so2 ⟨rfl,oz,ZaW hy ha (decide_eq_false g2)⟩ t4 rfl
 try simp only [sQ,ne_eq] at g1
 refine ZA (ZQ (ZB (Zs (Zm (Za (xA (h:=Zf ?_)))))))
 exact eR t1 ⟨ZH (Zec (Za0 oz ha)).symm,rfl,rfl⟩

theorem ZnM (q:Option Addr) (cp:Nat) (xs:List Int) (v:Int) (B:Kn) (hx:SlK B q cp 1 Z9 xs):Z1 (pj J) 161 [.slice q xs.length cp,.int .i64 v] B (.bool (decide (v∈xs))):=by
 refine cB 9 Tryz.func161 (h:=?_)
 refine Za (xA (h:=Za (xM (h:=xM (h:=xR ZC8 rfl (Zu4 _ _ _ _ _ hx) (h:=Zc9 (h:=xA (h:=Zf ?_))))))))
 exact eR t1 ⟨Zc ZxV,rfl,rfl⟩

def KfK (J : JoinT) (n : Nat) : Prop := ∀ (qm : Option Addr) (cm : Nat) (b : DBox) (x : DKey) (hbo : Zbq b = true) (hok : x.allOk = true) (M : Int) (B : Kn) (hb : SlK B qm cm 3 Zah b.mail) (hG : GlobB 4 5 B M) (nv : Value) (hn : Zcu kt B n nv x), Zu (pj J) 115 [.agg #[.int .i64 b.next, .slice qm b.mail.length cm], nv] B [] (fun v B' Ls => ∃ a l, v = .slice a b.mail.length b.mail.length ∧ Ls = [l] ∧ ZR Kn.none l a b.mail.length 4 1 Za8 (fnds b x))
theorem ZCb (qm:Option Addr) (cm:Nat) (b:DBox) (x:DKey) (hbo:Zbq b=true) (hok:x.allOk=true) (M:Int) (B:Kn) (hb:SlK B qm cm 3 Zah b.mail) (hG:GlobB 4 5 B M) (h0:x.kind=0):Zu (pj J) 115 [.agg #[.int .i64 b.next,.slice qm b.mail.length cm],.iface 228 (.agg #[])] B [] (fun v B' Ls=>∃a l,v = .slice a b.mail.length b.mail.length∧Ls=[l]∧ZR Kn.none l a b.mail.length 4 1 Za8 (fnds b x)):=by
 refine cB 193 Tryz.func115 (h:=?_)
 have hbn:=hb.len
 obtain ⟨hmo,hmn⟩:=ZaL hbo
 have hfn:=Zat b x
 have hkd:=ZeV hok
 refine Za (xBx [_,_] (h:=fun b1=>xA (h:=tL1 (Za (xW ZaI (h:=x1 Zfs 0 (h:=xV Tryz.underlying80 (h:=Zh (Zab (m:=b.mail.length) (c:=b.mail.length) (by_:=1) [.bool false] rfl rfl Zmb zo4 rfl rfl ⟨_,_,rfl,by first | omega | (simp;done) | (simp;omega)⟩ ⟨_,_,rfl,by first | omega | (simp;done) | (simp;omega)⟩ om om (fun b2=>?_))))))))))
 have hv2:=ZR.zeros (B:=Kn.none) (b:=b2) (T:=4) (R:=Za8) (d:=false) (m:=b.mail.length) (c:=b.mail.length) (zs:=[.bool false]) rfl (rfl) om
 refine xA (h:=tL2 (Ze (Za (xM (h:=Zg (Za (Zh (Zdm rfl rfl Tryz.underlying228 rfl rfl (xE (h:=xE (h:=Zb (t:=true) rfl (fun _=>Za (xAl [] ZkQ (h:=fun b3=>xS [] 2 [] ZBF (h:=tL3 (Za (xM (h:=xV Tryz.underlying192 (h:=xM (h:=Zg (Zv (α:=Nat × Cells) [0,1,2,4,32,34,35,37] (fun g=>[(5,.slice (some ⟨b2,0,none⟩) b.mail.length b.mail.length),(38,.int .i64 g.1)]) [1] (fun g=>[g.2]) (fun g Bx=>Bx=B∧g.1≤b.mail.length∧ZR Kn.none g.2 (some ⟨b2,0,none⟩) b.mail.length 4 1 Za8 (fill (fnds b x) false g.1)) (fun g=>b.mail.length - g.1) (0,_) t2 rfl (⟨rfl,Nat.zero_le _,by rw [Za6,Zat];exact hv2⟩) (fun g B4 hle4 hI=>?_))))))))))) (fun h=>Bool.noConfusion h))))))))))))
 obtain ⟨rfl,hk,hv⟩:=hI
 have hfl:=(Zbu (d:=false) (xs:=fnds b x) (k:=g.1) oz).trans hfn
 refine Zz [(0,_),(1,_),(2,_),(4,_),(5,_),(32,_),(34,_),(35,_),(37,_),(38,_)] [_,_,_] t10 rfl (Za (ZC (h:=Ze (Zb rfl (fun g1=>?_) (fun g1=>?_)))))
 try simp only [sQ,ne_eq] at g1
 obtain ⟨w,hw⟩:=ZM (xs:=b.mail) (i:=g.1) oz
 have hz:(fnds b x)[g.1]? = some true:=by rw [ZdW hw,Zyq h0]
 refine wSk (Ze (Zg (Za (xM (h:=xA (h:=Zd (xM (h:=xM (h:=xIp rfl Tryz.underlying192 sz4 (h:=Zh (ZfH (R:=Za8) (k:=g.1) (true) 1 rfl hv rfl om rfl rfl sz4 rfl rfl rfl rfl rfl (rfl) (fun l6 hv6=>?_))))))))))))
 refine ZD (Zm (Zd (xD (h:=xM (h:=?_)))))
 exact Zx (g.1+1,l6) [0,1,2] so2 ⟨rfl,so2,by simp only [];rw [← ZaC hz];exact hv6⟩ t10 rfl
 try simp only [sQ,ne_eq] at g1
 refine ZA (ZQ (ZB (Zs (ZD (Zm (Za (xM (h:=xA (h:=Zf ?_)))))))))
 exact eN [1] rfl t1 ⟨_,_,rfl,rfl,by have e:=hv;rw [Zbv oz] at e;exact e⟩

theorem ZCa (qm:Option Addr) (cm:Nat) (b:DBox) (x:DKey) (hbo:Zbq b=true) (hok:x.allOk=true) (M:Int) (B:Kn) (hb:SlK B qm cm 3 Zah b.mail) (hG:GlobB 4 5 B M) (h0:x.kind=1):Zu (pj J) 115 [.agg #[.int .i64 b.next,.slice qm b.mail.length cm],.iface 230 (.agg #[.int .i64 x.flag])] B [] (fun v B' Ls=>∃a l,v = .slice a b.mail.length b.mail.length∧Ls=[l]∧ZR Kn.none l a b.mail.length 4 1 Za8 (fnds b x)):=by
 refine cB 193 Tryz.func115 (h:=?_)
 have hbn:=hb.len
 obtain ⟨hmo,hmn⟩:=ZaL hbo
 have hfn:=Zat b x
 have hkd:=ZeV hok
 refine Za (xBx [_,_] (h:=fun b1=>xA (h:=tL1 (Za (xW ZaI (h:=x1 Zfs 0 (h:=xV Tryz.underlying80 (h:=Zh (Zab (m:=b.mail.length) (c:=b.mail.length) (by_:=1) [.bool false] rfl rfl Zmb zo4 rfl rfl ⟨_,_,rfl,by first | omega | (simp;done) | (simp;omega)⟩ ⟨_,_,rfl,by first | omega | (simp;done) | (simp;omega)⟩ om om (fun b2=>?_))))))))))
 have hv2:=ZR.zeros (B:=Kn.none) (b:=b2) (T:=4) (R:=Za8) (d:=false) (m:=b.mail.length) (c:=b.mail.length) (zs:=[.bool false]) rfl (rfl) om
 refine xA (h:=tL2 (Ze (Za (xM (h:=Zg (Za (Zh (Zak rfl rfl Tryz.underlying228 rfl ZkQ rfl rfl (xE (h:=xE (h:=Zb (t:=false) rfl (fun h=>Bool.noConfusion h) (fun _=>Za (Zh (Zdm rfl rfl Tryz.underlying230 rfl rfl (xE (h:=xE (h:=Zb (t:=true) rfl (fun _=>Za (xAl [_] ZmF (h:=fun b3=>xS [_] 2 [_] ZBE (h:=tL3 (Za (xW ZaI (h:=x1 Zfs 0 (h:=xV Tryz.underlying80 (h:=xM (h:=Zg (Zv (α:=Nat × Cells) [0,1,2,4,8,32,34,35,46,47,49,50] (fun g=>[(5,.slice (some ⟨b2,0,none⟩) b.mail.length b.mail.length),(51,.int .i64 g.1)]) [1] (fun g=>[g.2]) (fun g Bx=>Bx=B∧g.1≤b.mail.length∧ZR Kn.none g.2 (some ⟨b2,0,none⟩) b.mail.length 4 1 Za8 (fill (fnds b x) false g.1)) (fun g=>b.mail.length - g.1) (0,_) t2 rfl (⟨rfl,Nat.zero_le _,by rw [Za6,Zat];exact hv2⟩) (fun g B4 hle4 hI=>?_)))))))))))) (fun h=>Bool.noConfusion h))))))))))))))))))
 obtain ⟨rfl,hk,hv⟩:=hI
 have hfl:=(Zbu (d:=false) (xs:=fnds b x) (k:=g.1) oz).trans hfn
 refine Zz [(0,_),(1,_),(2,_),(4,_),(5,_),(8,_),(32,_),(34,_),(35,_),(46,_),(47,_),(49,_),(50,_),(51,_)] [_,_,_] t14 rfl (Za (ZC (h:=Ze (Zb rfl (fun g1=>?_) (fun g1=>?_)))))
 try simp only [sQ,ne_eq] at g1
 refine wSk (Ze (Zg (Za (xM (h:=?_)))))
 obtain ⟨w,hw⟩:=ZM (xs:=b.mail) (i:=g.1) om
 obtain ⟨bb6,oo6,rfl⟩:=hb.base hw
 obtain ⟨_,⟨rfl,hb7⟩,hc7⟩:=hb.elem hw
 refine xIx Tryz.underlying80 ZcB (h:=?_)
 have hmw:=hmo w (List.mem_of_getElem? hw)
 simp only [ZbU,Bool.and_eq_true,decide_eq_true_eq] at hmw
 have hz:(fnds b x)[g.1]? = some ((ZbO w.flags && ZbO x.flag) && decide (Ztw w.flags x.flag=x.flag)):=by rw [ZdW hw,Zyp h0,Zvk (by simp [ZbO];omega) (Zot hok h0)]
 refine yL [_,_,_] ZhA hc7 0 (h:=xAl [_,_,_] ZiN (h:=fun b8=>xA (h:=xS [_,_,_] 3 [_,_,_] ZcB (h:=tL4 (Zd (xM (h:=xM (h:=xW Ze5 (h:=x1 lk3 3 (h:=xW Zyi (h:=x1 lk3 2 (h:=xR ZDG rfl (ZnF w.flags x.flag _) (h:=xIp rfl Tryz.underlying192 sz4 (h:=Zh (ZfH (R:=Za8) (k:=g.1) (((ZbO w.flags && ZbO x.flag) && decide (Ztw w.flags x.flag=x.flag))) 1 rfl hv rfl om rfl rfl sz4 rfl rfl rfl rfl rfl (rfl) (fun l11 hv11=>?_))))))))))))))))
 refine ZD (Zm (Zd (xD (h:=xM (h:=?_)))))
 exact Zx (g.1+1,l11) [0,1,2] so2 ⟨rfl,so2,by simp only [];rw [← ZaC hz];exact hv11⟩ t14 rfl
 try simp only [sQ,ne_eq] at g1
 refine ZA (ZQ (ZB (Zs (ZD (Zm (Za (xM (h:=xA (h:=Zf ?_)))))))))
 exact eN [1] rfl t1 ⟨_,_,rfl,rfl,by have e:=hv;rw [Zbv oz] at e;exact e⟩

theorem ZB9 (qm:Option Addr) (cm:Nat) (b:DBox) (x:DKey) (hbo:Zbq b=true) (hok:x.allOk=true) (M:Int) (B:Kn) (hb:SlK B qm cm 3 Zah b.mail) (hG:GlobB 4 5 B M) (h0:x.kind=2):Zu (pj J) 115 [.agg #[.int .i64 b.next,.slice qm b.mail.length cm],.iface 233 (.agg #[str x.text])] B [] (fun v B' Ls=>∃a l,v = .slice a b.mail.length b.mail.length∧Ls=[l]∧ZR Kn.none l a b.mail.length 4 1 Za8 (fnds b x)):=by
 refine cB 193 Tryz.func115 (h:=?_)
 have hbn:=hb.len
 obtain ⟨hmo,hmn⟩:=ZaL hbo
 have hfn:=Zat b x
 have hkd:=ZeV hok
 have hnm:=hkd.1 h0
 simp only [Zaj,Bool.and_eq_true,decide_eq_true_eq] at hnm
 have hpl0:0<x.text.length:=by omega
 have hpl1:x.text.length≤60:=by omega
 refine Za (xBx [_,_] (h:=fun b1=>xA (h:=tL1 (Za (xW ZaI (h:=x1 Zfs 0 (h:=xV Tryz.underlying80 (h:=Zh (Zab (m:=b.mail.length) (c:=b.mail.length) (by_:=1) [.bool false] rfl rfl Zmb zo4 rfl rfl ⟨_,_,rfl,by first | omega | (simp;done) | (simp;omega)⟩ ⟨_,_,rfl,by first | omega | (simp;done) | (simp;omega)⟩ om om (fun b2=>?_))))))))))
 have hv2:=ZR.zeros (B:=Kn.none) (b:=b2) (T:=4) (R:=Za8) (d:=false) (m:=b.mail.length) (c:=b.mail.length) (zs:=[.bool false]) rfl (rfl) om
 refine xA (h:=tL2 (Ze (Za (xM (h:=Zg (Za (Zh (Zak rfl rfl Tryz.underlying228 rfl ZkQ rfl rfl (xE (h:=xE (h:=Zb (t:=false) rfl (fun h=>Bool.noConfusion h) (fun _=>Za (Zh (Zak rfl rfl Tryz.underlying230 rfl ZmF rfl rfl (xE (h:=xE (h:=Zb (t:=false) rfl (fun h=>Bool.noConfusion h) (fun _=>Za (Zh (Zdm rfl rfl Tryz.underlying233 rfl rfl (xE (h:=xE (h:=Zb (t:=true) rfl (fun _=>Za (xAl [_] ZoY (h:=fun b3=>xS [_] 2 [_] ZBD (h:=tL3 (Za (xW ZaI (h:=x1 Zfs 0 (h:=xV Tryz.underlying80 (h:=xM (h:=Zg (Zv (α:=Nat × Cells) [0,1,2,4,11,32,34,35,46,47,66,67,69,70] (fun g=>[(5,.slice (some ⟨b2,0,none⟩) b.mail.length b.mail.length),(71,.int .i64 g.1)]) [1] (fun g=>[g.2]) (fun g Bx=>Bx=B∧g.1≤b.mail.length∧ZR Kn.none g.2 (some ⟨b2,0,none⟩) b.mail.length 4 1 Za8 (fill (fnds b x) false g.1)) (fun g=>b.mail.length - g.1) (0,_) t2 rfl (⟨rfl,Nat.zero_le _,by rw [Za6,Zat];exact hv2⟩) (fun g B4 hle4 hI=>?_)))))))))))) (fun h=>Bool.noConfusion h))))))))))))))))))))))))
 obtain ⟨rfl,hk,hv⟩:=hI
 have hfl:=(Zbu (d:=false) (xs:=fnds b x) (k:=g.1) oz).trans hfn
 refine Zz [(0,_),(1,_),(2,_),(4,_),(5,_),(11,_),(32,_),(34,_),(35,_),(46,_),(47,_),(66,_),(67,_),(69,_),(70,_),(71,_)] [_,_,_] t16 rfl (Za (ZC (h:=Ze (Zb rfl (fun g1=>?_) (fun g1=>?_)))))
 try simp only [sQ,ne_eq] at g1
 refine wSk (Ze (Zg (Za (xM (h:=?_)))))
 obtain ⟨w,hw⟩:=ZM (xs:=b.mail) (i:=g.1) om
 obtain ⟨bb6,oo6,rfl⟩:=hb.base hw
 obtain ⟨_,⟨rfl,hb7⟩,hc7⟩:=hb.elem hw
 refine xIx Tryz.underlying80 ZcB (h:=?_)
 have hmw:=hmo w (List.mem_of_getElem? hw)
 simp only [ZbU,Bool.and_eq_true,decide_eq_true_eq] at hmw
 have hwl:w.text.length≤60:=by omega
 have hz:(fnds b x)[g.1]? = some (ZaK w.text x.text):=by rw [ZdW hw,Zyo h0]
 refine yL [_,_,_] ZhA hc7 0 (h:=xAl [_,_,_] ZiN (h:=fun b8=>xA (h:=xS [_,_,_] 3 [_,_,_] ZcB (h:=tL4 (Zd (xM (h:=xM (h:=xW ZdU (h:=x1 lk9 3 (h:=xW Zyh (h:=x1 lk9 2 (h:=xR ZDF rfl (ZCi w.text x.text om2 om2 om2 _ _ hG) (h:=?_)))))))))))))
 refine xIp rfl Tryz.underlying192 sz4 (h:=Zh (ZfH (R:=Za8) (k:=g.1) ((ZaK w.text x.text)) 1 rfl hv rfl om rfl rfl sz4 rfl rfl rfl rfl rfl (rfl) (fun l11 hv11=>?_)))
 refine ZD (Zm (Zd (xD (h:=xM (h:=?_)))))
 exact Zx (g.1+1,l11) [0,1,2] so2 ⟨rfl,so2,by simp only [];rw [← ZaC hz];exact hv11⟩ t16 rfl
 try simp only [sQ,ne_eq] at g1
 refine ZA (ZQ (ZB (Zs (ZD (Zm (Za (xM (h:=xA (h:=Zf ?_)))))))))
 exact eN [1] rfl t1 ⟨_,_,rfl,rfl,by have e:=hv;rw [Zbv oz] at e;exact e⟩

theorem ZB8 (q:Option Addr) (cp:Nat) (qm:Option Addr) (cm:Nat) (b:DBox) (x:DKey) (hbo:Zbq b=true) (hok:x.allOk=true) (M:Int) (B:Kn) (hb:SlK B qm cm 3 Zah b.mail) (hG:GlobB 4 5 B M) (h0:x.kind=3) (hs:SlK B q cp 2 ZN x.set):Zu (pj J) 115 [.agg #[.int .i64 b.next,.slice qm b.mail.length cm],.iface 235 (.agg #[.slice q x.set.length cp])] B [] (fun v B' Ls=>∃a l,v = .slice a b.mail.length b.mail.length∧Ls=[l]∧ZR Kn.none l a b.mail.length 4 1 Za8 (fnds b x)):=by
 refine cB 193 Tryz.func115 (h:=?_)
 have hbn:=hb.len
 obtain ⟨hmo,hmn⟩:=ZaL hbo
 have hfn:=Zat b x
 have hkd:=ZeV hok
 have hsn:=hs.len
 have hse:=hkd.2.1 (.inl h0)
 refine Za (xBx [_,_] (h:=fun b1=>xA (h:=tL1 (Za (xW ZaI (h:=x1 Zfs 0 (h:=xV Tryz.underlying80 (h:=Zh (Zab (m:=b.mail.length) (c:=b.mail.length) (by_:=1) [.bool false] rfl rfl Zmb zo4 rfl rfl ⟨_,_,rfl,by first | omega | (simp;done) | (simp;omega)⟩ ⟨_,_,rfl,by first | omega | (simp;done) | (simp;omega)⟩ om om (fun b2=>?_))))))))))
 have hv2:=ZR.zeros (B:=Kn.none) (b:=b2) (T:=4) (R:=Za8) (d:=false) (m:=b.mail.length) (c:=b.mail.length) (zs:=[.bool false]) rfl (rfl) om
 refine xA (h:=tL2 (Ze (Za (xM (h:=Zg (Za (Zh (Zak rfl rfl Tryz.underlying228 rfl ZkQ rfl rfl (xE (h:=xE (h:=Zb (t:=false) rfl (fun h=>Bool.noConfusion h) (fun _=>Za (Zh (Zak rfl rfl Tryz.underlying230 rfl ZmF rfl rfl (xE (h:=xE (h:=Zb (t:=false) rfl (fun h=>Bool.noConfusion h) (fun _=>Za (Zh (Zak rfl rfl Tryz.underlying233 rfl ZoY rfl rfl (xE (h:=xE (h:=Zb (t:=false) rfl (fun h=>Bool.noConfusion h) (fun _=>Za (Zh (Zdm rfl rfl Tryz.underlying235 rfl rfl (xE (h:=xE (h:=Zb (t:=true) rfl (fun _=>Za (xAl [_] Zqr (h:=fun b3=>xS [_] 2 [_] ZBC (h:=tL3 (Za (xW Zyg (h:=x1 Zj6 2 (h:=xW ZaI (h:=x1 Zfs 0 (h:=xV Tryz.underlying80 (h:=xQ ZEE rfl (Zjl _ _ x.set ↑b.mail.length _ hs) (h:=?_)))))))))))) (fun h=>Bool.noConfusion h))))))))))))))))))))))))))))))
 intro v4 B4 hle4
 rintro ⟨a4,c4,rfl,hs4⟩
 replace hv2:=hv2.mono Za8.mono hle4
 have hs4n:=hs4.len
 refine xV Tryz.underlying58 (h:=xM (h:=Zg (Zv (α:=Nat × Cells) [0,1,2,4,14,32,34,35,46,47,66,67,86,87,93,94] (fun g=>[(5,.slice (some ⟨b2,0,none⟩) b.mail.length b.mail.length),(95,.int .i64 g.1)]) [1] (fun g=>[g.2]) (fun g Bx=>Bx=B4∧g.1≤(Zco x.set (b.mail.length:Int)).length∧ZR Kn.none g.2 (some ⟨b2,0,none⟩) b.mail.length 4 1 Za8 (Zqm (Zco x.set (b.mail.length:Int)) b.mail.length g.1)) (fun g=>(Zco x.set (b.mail.length:Int)).length - g.1) (0,_) t2 rfl (⟨rfl,Nat.zero_le _,by rw [Zru];exact hv2⟩) (fun g B5 hle5 hI=>?_))))
 obtain ⟨rfl,hk,hv⟩:=hI
 have hfl:=Zgm (ys:=(Zco x.set (b.mail.length:Int))) (n:=b.mail.length) (j:=g.1)
 refine Zz [(0,_),(1,_),(2,_),(4,_),(5,_),(14,_),(32,_),(34,_),(35,_),(46,_),(47,_),(66,_),(67,_),(86,_),(87,_),(93,_),(94,_),(95,_)] [_,_,_] t18 rfl (Za (ZC (h:=Ze (Zb rfl (fun g1=>?_) (fun g1=>?_)))))
 try simp only [sQ,ne_eq] at g1
 refine wSk (Ze (Zg (Za ?_)))
 obtain ⟨y,hy⟩:=ZM (xs:=(Zco x.set ↑b.mail.length)) (i:=g.1) om
 obtain ⟨bb7,oo7,rfl⟩:=hs4.base hy
 obtain ⟨_,rfl,hc8⟩:=hs4.elem hy
 refine xIx Tryz.underlying58 sz3 (h:=?_)
 obtain ⟨hy1,hy2,_⟩:=(ZgP hse oz).1 (List.mem_of_getElem? hy)
 refine y1 lk3 hc8 0 (h:=xA (h:=Zd (xM (h:=xM (h:=xU (h:=xIp rfl Tryz.underlying192 sz4 (h:=Zh (ZfH (R:=Za8) (k:=((y - 1)).toNat) (true) 1 rfl hv rfl om rfl rfl sz4 rfl rfl rfl rfl rfl (rfl) (fun l10 hv10=>?_)))))))))
 refine ZD (Zm (Zd (xD (h:=xM (h:=?_)))))
 exact Zx (g.1+1,l10) [0,1,2] so2 ⟨rfl,so2,by simp only [];rw [← Zrv hy hy1 hy2];exact hv10⟩ t18 rfl
 try simp only [sQ,ne_eq] at g1
 refine ZA (ZQ (ZB (Zs (ZD (Zm (Za (xM (h:=xA (h:=Zf ?_)))))))))
 exact eN [1] rfl t1 ⟨_,_,rfl,rfl,by have e:=hv;rw [ZuB hbo hok h0 oz] at e;exact e⟩

theorem ZB7 (q:Option Addr) (cp:Nat) (qm:Option Addr) (cm:Nat) (b:DBox) (x:DKey) (hbo:Zbq b=true) (hok:x.allOk=true) (M:Int) (B:Kn) (hb:SlK B qm cm 3 Zah b.mail) (hG:GlobB 4 5 B M) (h0:x.kind=4) (hs:SlK B q cp 2 ZN x.set):Zu (pj J) 115 [.agg #[.int .i64 b.next,.slice qm b.mail.length cm],.iface 236 (.agg #[.slice q x.set.length cp])] B [] (fun v B' Ls=>∃a l,v = .slice a b.mail.length b.mail.length∧Ls=[l]∧ZR Kn.none l a b.mail.length 4 1 Za8 (fnds b x)):=by
 refine cB 193 Tryz.func115 (h:=?_)
 have hbn:=hb.len
 obtain ⟨hmo,hmn⟩:=ZaL hbo
 have hfn:=Zat b x
 have hkd:=ZeV hok
 have hsn:=hs.len
 have hse:=hkd.2.1 (.inr h0)
 refine Za (xBx [_,_] (h:=fun b1=>xA (h:=tL1 (Za (xW ZaI (h:=x1 Zfs 0 (h:=xV Tryz.underlying80 (h:=Zh (Zab (m:=b.mail.length) (c:=b.mail.length) (by_:=1) [.bool false] rfl rfl Zmb zo4 rfl rfl ⟨_,_,rfl,by first | omega | (simp;done) | (simp;omega)⟩ ⟨_,_,rfl,by first | omega | (simp;done) | (simp;omega)⟩ om om (fun b2=>?_))))))))))
 have hv2:=ZR.zeros (B:=Kn.none) (b:=b2) (T:=4) (R:=Za8) (d:=false) (m:=b.mail.length) (c:=b.mail.length) (zs:=[.bool false]) rfl (rfl) om
 refine xA (h:=tL2 (Ze (Za (xM (h:=Zg (Za (Zh (Zak rfl rfl Tryz.underlying228 rfl ZkQ rfl rfl (xE (h:=xE (h:=Zb (t:=false) rfl (fun h=>Bool.noConfusion h) (fun _=>Za (Zh (Zak rfl rfl Tryz.underlying230 rfl ZmF rfl rfl (xE (h:=xE (h:=Zb (t:=false) rfl (fun h=>Bool.noConfusion h) (fun _=>Za (Zh (Zak rfl rfl Tryz.underlying233 rfl ZoY rfl rfl (xE (h:=xE (h:=Zb (t:=false) rfl (fun h=>Bool.noConfusion h) (fun _=>Za (Zh (Zak rfl rfl Tryz.underlying235 rfl Zqr rfl rfl (xE (h:=xE (h:=Zb (t:=false) rfl (fun h=>Bool.noConfusion h) (fun _=>Za (Zh (Zdm rfl rfl Tryz.underlying236 rfl rfl (xE (h:=xE (h:=Zb (t:=true) rfl (fun _=>Za (xAl [_] ZtI (h:=fun b3=>xS [_] 2 [_] ZBB (h:=tL3 (Ze (ZW (keeps _ [0,2] _) mo kr ⟨Kn.le.refl _,ZaH.refl _ _⟩ (fun _ _=>?_))))))) (fun h=>Bool.noConfusion h))))))))))))))))))))))))))))))))))))
 refine aW 0 rfl Zyf (h:=aT 1 rfl (ZO fun D B L hI=>Zn rfl rfl Zj6 rfl (atL 2 (hI.2.2.1.trans rfl) rfl rfl) r4) (h:=aT 2 rfl (ZO fun D B L hI=>ZI [_,_] rfl rfl Zhm rfl (ZbZ 0 (hI.2.1.trans rfl) rfl rfl) r4) (h:=aT 3 rfl (ZO fun D B L hI=>Z5 rfl rfl ZDE rfl (ZrZ _ _ b _ (hb.mono Zah.mono hI.1)) r4) (h:=ZV 4 kr rfl kr (ZjG rfl rfl ZEE rfl (Zjl _ _ x.set _ _ hs) ?_)))))
 intro v5 B5 hle5
 rintro ⟨a5,c5,rfl,hs5⟩
 replace hb:=up1 hle5 hb
 replace hv2:=hv2.mono Za8.mono hle5
 have hs5n:=hs5.len
 refine ⟨⟨hle5,t2⟩,(aA 5 rfl (h:=Zy kr kr ?_))⟩
 refine Zm (Za (xW ZaI (h:=x1 Zfs 0 (h:=xV Tryz.underlying80 (h:=xM (h:=Zg (Zv (α:=Nat × Cells) [0,1,2,4,17,18,32,34,35,46,47,66,67,86,87,105,106,113,114] (fun g=>[(5,.slice (some ⟨b2,0,none⟩) b.mail.length b.mail.length),(115,.int .i64 g.1)]) [1] (fun g=>[g.2]) (fun g Bx=>Bx=B5∧g.1≤b.mail.length∧ZR Kn.none g.2 (some ⟨b2,0,none⟩) b.mail.length 4 1 Za8 (fill (fnds b x) false g.1)) (fun g=>b.mail.length - g.1) (0,_) t2 rfl (⟨rfl,Nat.zero_le _,by rw [Za6,Zat];exact hv2⟩) (fun g B6 hle6 hI=>?_))))))))
 obtain ⟨rfl,hk,hv⟩:=hI
 have hfl:=(Zbu (d:=false) (xs:=fnds b x) (k:=g.1) oz).trans hfn
 refine Zz [(0,_),(1,_),(2,_),(4,_),(5,_),(17,_),(18,_),(32,_),(34,_),(35,_),(46,_),(47,_),(66,_),(67,_),(86,_),(87,_),(105,_),(106,_),(113,_),(114,_),(115,_)] [_,_,_] t21 rfl (Za (ZC (h:=Ze (Zb rfl (fun g1=>?_) (fun g1=>?_)))))
 try simp only [sQ,ne_eq] at g1
 refine wSk (Ze (Zg (Za (xM (h:=?_)))))
 obtain ⟨w,hw⟩:=ZM (xs:=b.mail) (i:=g.1) om
 obtain ⟨bb8,oo8,rfl⟩:=hb.base hw
 obtain ⟨_,⟨rfl,hb9⟩,hc9⟩:=hb.elem hw
 refine xIx Tryz.underlying80 ZcB (h:=?_)
 have hmw:=hmo w (List.mem_of_getElem? hw)
 simp only [ZbU,Bool.and_eq_true,decide_eq_true_eq] at hmw
 have hz:(fnds b x)[g.1]? = some (decide (w.uid∈Zco x.set ((b.mail.getLast?.map DMail.uid).getD 0))):=by rw [ZdW hw,Zym h0,Zw7 hbo hse (List.mem_of_getElem? hw)]
 refine yL [_,_,_] ZhA hc9 0 (h:=xAl [_,_,_] ZiN (h:=fun b10=>xA (h:=xS [_,_,_] 3 [_,_,_] ZcB (h:=tL4 (Zd (xM (h:=xM (h:=xM (h:=xW Zb7 (h:=x1 lk3 3 (h:=xR ZDD rfl (ZnM _ _ _ _ _ hs5) (h:=xIp rfl Tryz.underlying192 sz4 (h:=Zh (ZfH (R:=Za8) (k:=g.1) ((decide (w.uid∈Zco x.set ((b.mail.getLast?.map DMail.uid).getD 0)))) 1 rfl hv rfl om rfl rfl sz4 rfl rfl rfl rfl rfl (rfl) (fun l13 hv13=>?_)))))))))))))))
 refine ZD (Zm (Zd (xD (h:=xM (h:=?_)))))
 exact Zx (g.1+1,l13) [0,1,2] so2 ⟨rfl,so2,by simp only [];rw [← ZaC hz];exact hv13⟩ t21 rfl
 try simp only [sQ,ne_eq] at g1
 refine ZA (ZQ (ZB (Zs (ZD (Zm (Za (xM (h:=xA (h:=Zf ?_)))))))))
 exact eN [1] rfl t1 ⟨_,_,rfl,rfl,by have e:=hv;rw [Zbv oz] at e;exact e⟩

theorem ZB6 (n:Nat) (hK :∀m,n+1=m+1→KfK J m) (y:DKey) (u:Value) (qm:Option Addr) (cm:Nat) (b:DBox) (x:DKey) (hbo:Zbq b=true) (hok:x.allOk=true) (M:Int) (B:Kn) (hb:SlK B qm cm 3 Zah b.mail) (hG:GlobB 4 5 B M) (h0:x.kind=5) (hkeys:x.keys=[y]) (hu:Zcu kt B n u y):Zu (pj J) 115 [.agg #[.int .i64 b.next,.slice qm b.mail.length cm],.iface 238 (.agg #[u])] B [] (fun v B' Ls=>∃a l,v = .slice a b.mail.length b.mail.length∧Ls=[l]∧ZR Kn.none l a b.mail.length 4 1 Za8 (fnds b x)):=by
 refine cB 193 Tryz.func115 (h:=?_)
 have hbn:=hb.len
 obtain ⟨hmo,hmn⟩:=ZaL hbo
 have hfn:=Zat b x
 have hkd:=ZeV hok
 have hfy:=Zat b y
 obtain ⟨tu,au,rfl⟩:=hu.iface
 refine Za (xBx [_,_] (h:=fun b1=>xA (h:=tL1 (Za (xW ZaI (h:=x1 Zfs 0 (h:=xV Tryz.underlying80 (h:=Zh (Zab (m:=b.mail.length) (c:=b.mail.length) (by_:=1) [.bool false] rfl rfl Zmb zo4 rfl rfl ⟨_,_,rfl,by first | omega | (simp;done) | (simp;omega)⟩ ⟨_,_,rfl,by first | omega | (simp;done) | (simp;omega)⟩ om om (fun b2=>?_))))))))))
 have hv2:=ZR.zeros (B:=Kn.none) (b:=b2) (T:=4) (R:=Za8) (d:=false) (m:=b.mail.length) (c:=b.mail.length) (zs:=[.bool false]) rfl (rfl) om
 refine xA (h:=tL2 (Ze (Za (xM (h:=Zg (Za (Zh (Zak rfl rfl Tryz.underlying228 rfl ZkQ rfl rfl (xE (h:=xE (h:=Zb (t:=false) rfl (fun h=>Bool.noConfusion h) (fun _=>Za (Zh (Zak rfl rfl Tryz.underlying230 rfl ZmF rfl rfl (xE (h:=xE (h:=Zb (t:=false) rfl (fun h=>Bool.noConfusion h) (fun _=>Za (Zh (Zak rfl rfl Tryz.underlying233 rfl ZoY rfl rfl (xE (h:=xE (h:=Zb (t:=false) rfl (fun h=>Bool.noConfusion h) (fun _=>Za (Zh (Zak rfl rfl Tryz.underlying235 rfl Zqr rfl rfl (xE (h:=xE (h:=Zb (t:=false) rfl (fun h=>Bool.noConfusion h) (fun _=>Za (Zh (Zak rfl rfl Tryz.underlying236 rfl ZtI rfl rfl (xE (h:=xE (h:=Zb (t:=false) rfl (fun h=>Bool.noConfusion h) (fun _=>Za (Zh (Zdm rfl rfl Tryz.underlying238 rfl rfl (xE (h:=xE (h:=Zb (t:=true) rfl (fun _=>Za (xAl [_] ZwP (h:=fun b3=>xS [_] 2 [_] ZBA (h:=tL3 (Za ?_))))) (fun h=>Bool.noConfusion h))))))))))))))))))))))))))))))))))))))))))
 refine xL [_,_] Zhm 0 (h:=xW Zye (h:=x1 ZpF 2 (h:=xC ZvE rfl (hK _ rfl _ _ b y hbo (hkd.2.2 y (by rw [hkeys];simp)) _ _ hb hG _ hu) (h:=?_))))
 rintro _ B4 _ hle4 ⟨a4,l4,rfl,rfl,hv4⟩
 replace hv2:=hv2.mono Za8.mono hle4
 refine xV Tryz.underlying192 (h:=xM (h:=tL4 (Zg (Zv (α:=Nat × Cells) [0,1,2,4,21,32,34,35,46,47,66,67,86,87,105,106,129,130,134,135] (fun g=>[(5,.slice (some ⟨b2,0,none⟩) b.mail.length b.mail.length),(136,.int .i64 g.1)]) [1] (fun g=>[g.2]) (fun g Bx=>Bx=B4∧g.1≤b.mail.length∧ZR Kn.none g.2 (some ⟨b2,0,none⟩) b.mail.length 4 1 Za8 (fill (fnds b x) false g.1)) (fun g=>b.mail.length - g.1) (0,_) t2 rfl (⟨rfl,Nat.zero_le _,by rw [Za6,Zat];exact hv2⟩) (fun g B5 hle5 hI=>?_)))))
 obtain ⟨rfl,hk,hv⟩:=hI
 have hfl:=(Zbu (d:=false) (xs:=fnds b x) (k:=g.1) oz).trans hfn
 refine Zz [(0,_),(1,_),(2,_),(4,_),(5,_),(21,_),(32,_),(34,_),(35,_),(46,_),(47,_),(66,_),(67,_),(86,_),(87,_),(105,_),(106,_),(129,_),(130,_),(134,_),(135,_),(136,_)] [_,_,_,_] t22 rfl (Za (ZC (h:=Ze (Zb rfl (fun g1=>?_) (fun g1=>?_)))))
 try simp only [sQ,ne_eq] at g1
 refine wSk (Ze (Zg (Za (xM (h:=?_)))))
 obtain ⟨bz,hbz⟩:=ZM (xs:=(fnds b y)) (i:=g.1) om
 obtain ⟨bb7,_,hp7,rfl,hw7,hc7⟩:=hv4.row hbz
 refine xIp hp7 Tryz.underlying192 sz4 (h:=?_)
 have hz:=Zvs h0 hkeys hbz
 refine Zh (Zn rfl rfl lk4 rfl (hc7 _ 3 rfl 0 _ rfl) (xA (h:=xA (h:=Zd (xM (h:=xM (h:=xM (h:=xN (h:=xIp rfl Tryz.underlying192 sz4 (h:=Zh (ZfH (R:=Za8) (k:=g.1) ((!bz)) 1 rfl hv rfl om rfl rfl sz4 rfl rfl rfl rfl rfl (rfl) (fun l9 hv9=>?_))))))))))))
 refine ZD (Zm (Zd (xD (h:=xM (h:=?_)))))
 exact Zx (g.1+1,l9) [0,1,2,3] so2 ⟨rfl,so2,by simp only [];rw [← ZaC hz];exact hv9⟩ t22 rfl
 try simp only [sQ,ne_eq] at g1
 refine ZA (ZQ (ZB (Zs (ZD (Zm (Za (xM (h:=xA (h:=Zf ?_)))))))))
 exact eN [1] rfl t1 ⟨_,_,rfl,rfl,by have e:=hv;rw [Zbv oz] at e;exact e⟩

theorem ZB5 (n:Nat) (hK :∀m,n+1=m+1→KfK J m) (y z:DKey) (u v:Value) (qm:Option Addr) (cm:Nat) (b:DBox) (x:DKey) (hbo:Zbq b=true) (hok:x.allOk=true) (M:Int) (B:Kn) (hb:SlK B qm cm 3 Zah b.mail) (hG:GlobB 4 5 B M) (h0:x.kind=6∨x.kind=7) (hkeys:x.keys=[y,z]) (hu:Zcu kt B n u y) (hw:Zcu kt B n v z):Zu (pj J) 115 [.agg #[.int .i64 b.next,.slice qm b.mail.length cm],.iface 240 (.agg #[.bool (decide (x.kind=6)),u,v])] B [] (fun v B' Ls=>∃a l,v = .slice a b.mail.length b.mail.length∧Ls=[l]∧ZR Kn.none l a b.mail.length 4 1 Za8 (fnds b x)):=by
 refine cB 193 Tryz.func115 (h:=?_)
 have hbn:=hb.len
 obtain ⟨hmo,hmn⟩:=ZaL hbo
 have hfn:=Zat b x
 have hkd:=ZeV hok
 have hfy:=Zat b y
 have hfz:=Zat b z
 obtain ⟨tu,au,rfl⟩:=hu.iface
 obtain ⟨tv,av,rfl⟩:=hw.iface
 refine Za (xBx [_,_] (h:=fun b1=>xA (h:=tL1 (Za (xW ZaI (h:=x1 Zfs 0 (h:=xV Tryz.underlying80 (h:=Zh (Zab (m:=b.mail.length) (c:=b.mail.length) (by_:=1) [.bool false] rfl rfl Zmb zo4 rfl rfl ⟨_,_,rfl,by first | omega | (simp;done) | (simp;omega)⟩ ⟨_,_,rfl,by first | omega | (simp;done) | (simp;omega)⟩ om om (fun b2=>?_))))))))))
 have hv2:=ZR.zeros (B:=Kn.none) (b:=b2) (T:=4) (R:=Za8) (d:=false) (m:=b.mail.length) (c:=b.mail.length) (zs:=[.bool false]) rfl (rfl) om
 refine xA (h:=tL2 (Ze (Za (xM (h:=Zg (Za (Zh (Zak rfl rfl Tryz.underlying228 rfl ZkQ rfl rfl (xE (h:=xE (h:=Zb (t:=false) rfl (fun h=>Bool.noConfusion h) (fun _=>Za (Zh (Zak rfl rfl Tryz.underlying230 rfl ZmF rfl rfl (xE (h:=xE (h:=Zb (t:=false) rfl (fun h=>Bool.noConfusion h) (fun _=>Za (Zh (Zak rfl rfl Tryz.underlying233 rfl ZoY rfl rfl (xE (h:=xE (h:=Zb (t:=false) rfl (fun h=>Bool.noConfusion h) (fun _=>Za (Zh (Zak rfl rfl Tryz.underlying235 rfl Zqr rfl rfl (xE (h:=xE (h:=Zb (t:=false) rfl (fun h=>Bool.noConfusion h) (fun _=>Za (Zh (Zak rfl rfl Tryz.underlying236 rfl ZtI rfl rfl (xE (h:=xE (h:=Zb (t:=false) rfl (fun h=>Bool.noConfusion h) (fun _=>Za (Zh (Zak rfl rfl Tryz.underlying238 rfl ZwP rfl rfl (xE (h:=xE (h:=Zb (t:=false) rfl (fun h=>Bool.noConfusion h) (fun _=>Za (Zh (Zdm rfl rfl Tryz.underlying240 rfl rfl (xE (h:=xE (h:=Zb (t:=true) rfl (fun _=>?_) (fun h=>Bool.noConfusion h))))))))))))))))))))))))))))))))))))))))))))))))
 refine Za (xAl [_,_,_] ZyX (h:=fun b3=>xS [_,_,_] 2 [_,_,_] ZBz (h:=tL3 (Ze (ZW (keeps _ [0,2] _) mo kr ⟨Kn.le.refl _,ZaH.refl _ _⟩ (fun _ _=>?_))))))
 refine aT 0 rfl (ZO fun D B L hI=>ZI [_,_] rfl rfl Zhm rfl (ZbZ 0 (hI.2.1.trans rfl) rfl rfl) r4) (h:=aW 1 rfl Zyc (h:=aT 2 rfl (ZO fun D B L hI=>Zn rfl rfl ZpF rfl (atL 2 (hI.2.2.1.trans rfl) rfl rfl) r4) (h:=aT 4 rfl (ZO fun D B L hI=>ZI [_,_] rfl rfl Zhm rfl (ZbZ 0 (hI.2.1.trans rfl) rfl rfl) r4) (h:=aW 5 rfl Zyb (h:=aT 6 rfl (ZO fun D B L hI=>Zn rfl rfl ZpF rfl (atL 2 (hI.2.2.1.trans rfl) rfl rfl) r4) (h:=ZV 3 kr rfl kr (Zb9 rfl rfl ZvE rfl (hK _ rfl _ _ b y hbo (hkd.2.2 y (by rw [hkeys];simp)) _ _ hb hG _ hu) ?_)))))))
 rintro _ B4 _ hle4 ⟨a4,l4,rfl,rfl,hv4⟩
 replace hb:=up1 hle4 hb
 replace hv2:=hv2.mono Za8.mono hle4
 replace hG:=hG.mono hle4
 replace hw:=hw.mono hle4
 refine ⟨⟨hle4,t2⟩,(ZV 7 kr rfl kr (Zb9 rfl rfl ZvE rfl (hK _ rfl _ _ b z hbo (hkd.2.2 z (by rw [hkeys];simp)) _ _ hb hG _ hw) ?_))⟩
 rintro _ B5 _ hle5 ⟨a5,l5,rfl,rfl,hv5⟩
 replace hv2:=hv2.mono Za8.mono hle5
 replace hv4:=hv4.mono Za8.mono hle5
 refine ⟨⟨(hle4.trans hle5),t2⟩,(aA 8 rfl (h:=aA 9 rfl (h:=Zy kr kr ?_)))⟩
 refine Zm (tL5 (Za (xM (h:=xV Tryz.underlying192 (h:=xM (h:=Zg (Zv (α:=Nat × Cells) [0,1,2,4,24,25,26,32,34,35,46,47,66,67,86,87,105,106,129,130,148,149,159] (fun g=>[(5,.slice (some ⟨b2,0,none⟩) b.mail.length b.mail.length),(160,.int .i64 g.1)]) [1] (fun g=>[g.2]) (fun g Bx=>Bx=B5∧g.1≤b.mail.length∧ZR Kn.none g.2 (some ⟨b2,0,none⟩) b.mail.length 4 1 Za8 (fill (fnds b x) false g.1)) (fun g=>b.mail.length - g.1) (0,_) t2 rfl (⟨rfl,Nat.zero_le _,by rw [Za6,Zat];exact hv2⟩) (fun g B6 hle6 hI=>?_))))))))
 obtain ⟨rfl,hk,hv⟩:=hI
 have hfl:=(Zbu (d:=false) (xs:=fnds b x) (k:=g.1) oz).trans hfn
 refine Zz [(0,_),(1,_),(2,_),(4,_),(5,_),(24,_),(25,_),(26,_),(32,_),(34,_),(35,_),(46,_),(47,_),(66,_),(67,_),(86,_),(87,_),(105,_),(106,_),(129,_),(130,_),(148,_),(149,_),(159,_),(160,_)] [_,_,_,_,_] ⟨rfl,rfl,rfl,rfl,rfl,rfl,rfl,rfl,rfl,rfl,rfl,rfl,rfl,rfl,rfl,rfl,rfl,rfl,rfl,rfl,rfl,rfl,rfl,rfl,rfl,trivial⟩ rfl (Za (ZC (h:=Ze (Zb rfl (fun g1=>?_) (fun g1=>?_)))))
 try simp only [sQ,ne_eq] at g1
 refine wSk (Ze (Zg (Za (xM (h:=xA (h:=Za (xW Zyd (h:=x1 lk4 2 (h:=Zb rfl (fun g2=>?_) (fun g2=>?_))))))))))
 try simp only [sQ,ne_eq] at g2
 refine Zd (xM (h:=xM (h:=xM (h:=xM (h:=?_)))))
 obtain ⟨b1,hb1⟩:=ZM (xs:=(fnds b y)) (i:=g.1) om
 obtain ⟨bb8,_,hp8,rfl,hw8,hc8⟩:=hv4.row hb1
 refine xIp hp8 Tryz.underlying192 sz4 (h:=Zh (Zn rfl rfl lk4 rfl (hc8 _ 3 rfl 0 _ rfl) (xM (h:=Zq (d:=171) rfl (fun g3=>?_) (fun g3=>?_)))))
 try simp only [sQ,ne_eq] at g3
 refine xM (h:=xM (h:=?_))
 obtain ⟨b2,hb2⟩:=ZM (xs:=(fnds b z)) (i:=g.1) om
 obtain ⟨bb10,_,hp10,rfl,hw10,hc10⟩:=hv5.row hb2
 refine xIp hp10 Tryz.underlying192 sz4 (h:=?_)
 have hz:=ZoN (by simpa using g2) hkeys hb1 hb2
 rw [show b1=true from by simpa using g3,Bool.true_and] at hz
 refine Zh (Zn rfl rfl lk4 rfl (hc10 _ 4 rfl 0 _ rfl) ?_)
 refine Zh (ZjD rfl rfl rfl rfl ?_)
 refine Zh (ZgI rfl rfl rfl Tryz.underlying192 sz4 rfl rfl (by first | omega | (simp;done) | (simp;omega)) (by first | omega | (simp;done) | (simp;omega)) ?_)
 refine Zh (ZfH (R:=Za8) (k:=g.1) (b2) 1 rfl hv rfl (by first | omega | (simp;done) | (simp;omega)) rfl rfl sz4 rfl rfl rfl rfl rfl (rfl) (fun l12 hv12=>?_))
 refine ZD (Zm (Zd (xD (h:=xM (h:=?_)))))
 exact Zx (g.1+1,l12) [0,1,2,3,4] so2 ⟨rfl,so2,by simp only [];rw [← ZaC hz];exact hv12⟩ ⟨rfl,rfl,rfl,rfl,rfl,rfl,rfl,rfl,rfl,rfl,rfl,rfl,rfl,rfl,rfl,rfl,rfl,rfl,rfl,rfl,rfl,rfl,rfl,rfl,rfl,trivial⟩ rfl
 try simp only [sQ,ne_eq] at g3
 have hz:=ZsO (by simpa using g2) hkeys oz hb1 (by simpa using g3)
 refine Zh (Zfx rfl rfl ?_)
 refine Zh (Zfx rfl rfl ?_)
 refine Zh (Zfx rfl rfl ?_)
 refine Zh (Zfx rfl rfl ?_)
 refine Zh (ZjE rfl rfl rfl rfl ?_)
 refine Zh (ZgI rfl rfl rfl Tryz.underlying192 sz4 rfl rfl (by first | omega | (simp;done) | (simp;omega)) (by first | omega | (simp;done) | (simp;omega)) ?_)
 refine Zh (ZfH (R:=Za8) (k:=g.1) (false) 1 rfl hv rfl (by first | omega | (simp;done) | (simp;omega)) rfl rfl sz4 rfl rfl rfl rfl rfl (rfl) (fun l14 hv14=>?_))
 refine ZD (Zm (Zd (xD (h:=xM (h:=?_)))))
 exact Zx (g.1+1,l14) [0,1,2,3,4] so2 ⟨rfl,so2,by simp only [];rw [← ZaC hz];exact hv14⟩ ⟨rfl,rfl,rfl,rfl,rfl,rfl,rfl,rfl,rfl,rfl,rfl,rfl,rfl,rfl,rfl,rfl,rfl,rfl,rfl,rfl,rfl,rfl,rfl,rfl,rfl,trivial⟩ rfl
 try simp only [sQ,ne_eq] at g2
 refine Zd (xM (h:=xM (h:=xM (h:=xM (h:=?_)))))
 obtain ⟨b1,hb1⟩:=ZM (xs:=(fnds b y)) (i:=g.1) om
 obtain ⟨bb16,_,hp16,rfl,hw16,hc16⟩:=hv4.row hb1
 refine xIp hp16 Tryz.underlying192 sz4 (h:=Zh (Zn rfl rfl lk4 rfl (hc16 _ 3 rfl 0 _ rfl) (xM (h:=Zq (d:=184) rfl (fun g3=>?_) (fun g3=>?_)))))
 try simp only [sQ,ne_eq] at g3
 have h7:x.kind=7:=by first | omega | (simp at g2;omega)
 have hz:=Zvr h7 hkeys oz hb1 (by simpa using g3)
 refine Zh (Zfx rfl rfl ?_)
 refine Zh (Zfx rfl rfl ?_)
 refine Zh (Zfx rfl rfl ?_)
 refine Zh (Zfx rfl rfl ?_)
 refine Zh (ZjD rfl rfl rfl rfl ?_)
 refine Zh (ZgI rfl rfl rfl Tryz.underlying192 sz4 rfl rfl (by first | omega | (simp;done) | (simp;omega)) (by first | omega | (simp;done) | (simp;omega)) ?_)
 refine Zh (ZfH (R:=Za8) (k:=g.1) (true) 1 rfl hv rfl (by first | omega | (simp;done) | (simp;omega)) rfl rfl sz4 rfl rfl rfl rfl rfl (rfl) (fun l18 hv18=>?_))
 refine ZD (Zm (Zd (xD (h:=xM (h:=?_)))))
 exact Zx (g.1+1,l18) [0,1,2,3,4] so2 ⟨rfl,so2,by simp only [];rw [← ZaC hz];exact hv18⟩ ⟨rfl,rfl,rfl,rfl,rfl,rfl,rfl,rfl,rfl,rfl,rfl,rfl,rfl,rfl,rfl,rfl,rfl,rfl,rfl,rfl,rfl,rfl,rfl,rfl,rfl,trivial⟩ rfl
 try simp only [sQ,ne_eq] at g3
 refine xM (h:=xM (h:=?_))
 obtain ⟨b2,hb2⟩:=ZM (xs:=(fnds b z)) (i:=g.1) om
 obtain ⟨bb20,_,hp20,rfl,hw20,hc20⟩:=hv5.row hb2
 refine xIp hp20 Tryz.underlying192 sz4 (h:=?_)
 have h7:x.kind=7:=by first | omega | (simp at g2;omega)
 have hz:=ZsM h7 hkeys hb1 hb2
 rw [show b1=false from by simpa using g3,Bool.false_or] at hz
 refine Zh (Zn rfl rfl lk4 rfl (hc20 _ 4 rfl 0 _ rfl) ?_)
 refine Zh (ZjE rfl rfl rfl rfl ?_)
 refine Zh (ZgI rfl rfl rfl Tryz.underlying192 sz4 rfl rfl (by first | omega | (simp;done) | (simp;omega)) (by first | omega | (simp;done) | (simp;omega)) ?_)
 refine Zh (ZfH (R:=Za8) (k:=g.1) (b2) 1 rfl hv rfl (by first | omega | (simp;done) | (simp;omega)) rfl rfl sz4 rfl rfl rfl rfl rfl (rfl) (fun l22 hv22=>?_))
 refine ZD (Zm (Zd (xD (h:=xM (h:=?_)))))
 exact Zx (g.1+1,l22) [0,1,2,3,4] so2 ⟨rfl,so2,by simp only [];rw [← ZaC hz];exact hv22⟩ ⟨rfl,rfl,rfl,rfl,rfl,rfl,rfl,rfl,rfl,rfl,rfl,rfl,rfl,rfl,rfl,rfl,rfl,rfl,rfl,rfl,rfl,rfl,rfl,rfl,rfl,trivial⟩ rfl
 try simp only [sQ,ne_eq] at g1
 refine ZA (ZQ (ZB (Zs (ZD (Zm (Za (xM (h:=xA (h:=Zf ?_)))))))))
 exact eN [1] rfl t1 ⟨_,_,rfl,rfl,by have e:=hv;rw [Zbv oz] at e;exact e⟩

theorem ZpQ (n:Nat) (hK :∀m,n=m+1→KfK J m):KfK J n:=fun qm cm b x hbo hok M B hb hG nv hn=>by
 cases n with
 | zero=>exact hn.elim
 | succ n=>
    rcases hn with ⟨h0,rfl⟩ | ⟨h0,rfl⟩ | ⟨h0,_,rfl⟩ | ⟨h0,q,c,rfl,hs⟩ | ⟨h0,q,c,rfl,hs⟩ | ⟨h0,k,w,hk,rfl,hw⟩ | ⟨h0,k1,k2,w1,w2,hk,rfl,h1,h2⟩
    · exact ZCb qm cm b x hbo hok M B hb hG h0
    · exact ZCa qm cm b x hbo hok M B hb hG h0
    · exact ZB9 qm cm b x hbo hok M B hb hG h0
    · exact ZB8 q c qm cm b x hbo hok M B hb hG h0 hs
    · exact ZB7 q c qm cm b x hbo hok M B hb hG h0 hs
    · exact ZB6 n hK k w qm cm b x hbo hok M B hb hG h0 hk hw
    · exact ZB5 n hK k1 k2 w1 w2 qm cm b x hbo hok M B hb hG h0 hk h1 h2

theorem ZlX (n:Nat):KfK J n:=(ZdR (L:=fun n=>∀m,n=m+1→KfK J m) (K:=KfK J) (fun n h=>h) (fun n h=>ZpQ n h) n).2

theorem Zm3 (n:Nat) (qm:Option Addr) (cm:Nat) (b:DBox) (q q':Option Addr) (c c':Nat) (x:DKey) (h1:x.text.length≤2000000) (M:Int) (B:Kn) (hb:SlK B qm cm 3 Zah b.mail) (hG:GlobB 4 5 B M) (hs:SlK B q c 2 ZN x.set) (hk:SlK B q' c' 5 (Zbw n) x.keys):Zu (pj J) 64 [.agg #[.int .i64 b.next,.slice qm b.mail.length cm],.agg #[.int .i64 x.kind,.int .i64 x.flag,str x.text,.slice q x.set.length c,.slice q' x.keys.length c']] B [] (fun v B' Ls=>∃a c l,v = .slice a (Zan b x).length c∧Ls=[l]∧ZR Kn.none l a c 3 1 Z9 (Zan b x)):=by
 refine cB 41 Tryz.func64 (h:=?_)
 have hbn:=hb.len
 have hkn:=hk.len
 have hsn:=hs.len
 refine Za (xBx [_,_] (h:=fun b1=>xBx [_,_,_,_,_] (h:=fun b2=>xA (h:=tL2 (Za (xBs [] [] Tryz.underlying58 sz3 zo3 (h:=fun b3=>xA (h:=tL3 (Za (xL [_,_,_,_,_] ZfW 1 (h:=xC ZAH rfl (ZlW _ _ _ _ _ x om2 _ _ hG hs hk) (h:=?_))))))))))))
 rintro _ B9 _ hle9 ⟨rfl,rfl,nv9,rfl,hv9⟩
 refine xM (h:=xE (h:=xE (h:=xA (h:=xA (h:=tL3 (Ze (Za (xM (h:=xN (h:=xM (h:=Zq (d:=18) rfl (fun g1=>?_) (fun g1=>?_))))))))))))
 try simp only [sQ,ne_eq] at g1
 have hse:Zan b x=[]:=Zlm (.inr (by simpa using g1))
 rw [hse]
 refine xP (h:=xP (h:=xP (h:=xT (h:=Zb (t:=true) rfl (fun _=>Za (xM (h:=xA (h:=Zf (Zj ?_))))) (fun h=>Bool.noConfusion h)))))
 exact eN [2] rfl t1 ⟨_,_,_,rfl,rfl,.lit0⟩
 try simp only [sQ,ne_eq] at g1
 refine xL [_,_] Zhm 0 (h:=xR ZCp rfl (Zih _ _ (⟨b.next,b.mail⟩:DBox) _ hb) (h:=xN (h:=xF (h:=Zb rfl (fun g2=>?_) (fun g2=>?_)))))
 try simp only [sQ,ne_eq] at g2
 have hse:Zan b x=[]:=Zlm (.inl (by simpa using g2))
 rw [hse]
 refine Za (xM (h:=xA (h:=Zf (Zj ?_))))
 exact eN [2] rfl t1 ⟨_,_,_,rfl,rfl,.lit0⟩
 try simp only [sQ,ne_eq] at g2
 have hko:ZdE x=true:=by simpa using g1
 have hbo:Zbq b=true:=by simpa using g2
 have hka:x.allOk=true:=by rw [ZdE,Bool.and_eq_true] at hko;exact hko.1
 have hnv:=hv9 hko
 have hfn:=Zat b x
 refine wSk (Ze (Za (xL [_,_] Zhm 0 (h:=xM (h:=xC ZvE rfl (ZlX _ _ _ b x hbo hka _ _ hb hG _ hnv) (h:=?_))))))
 rintro _ B6 _ hle6 ⟨a6,l6,rfl,rfl,hv6⟩
 refine xV Tryz.underlying192 (h:=xM (h:=tL4 (Zg (Zv (α:=Gh Int) [0,1,2,3,4,6,7,22,26,27] (fun g=>[(5,.slice g.a g.xs.length g.c),(28,.int .i64 g.k)]) [2] (fun g=>[g.l]) (fun g Bx=>Bx=B6∧g.k≤b.mail.length∧g.xs.length≤g.k∧g.xs=plc 0 ((fnds b x).take g.k)∧ZR Bx g.l g.a g.c 3 1 Z9 g.xs) (fun g=>b.mail.length - g.k) ⟨0,0,_,_,_,[]⟩ t2 rfl (⟨rfl,Nat.zero_le _,Nat.le_refl _,rfl,.lit0⟩) (fun g B7 hle7 hI=>?_)))))
 obtain ⟨rfl,hk0,hgl,hxs,hv⟩:=hI
 have hmn:=(ZaL hbo).2
 refine Zz [(0,_),(1,_),(2,_),(3,_),(4,_),(5,_),(6,_),(7,_),(22,_),(26,_),(27,_),(28,_)] [_,_,_,_] t12 rfl (Za (ZC (h:=Ze (Zb rfl (fun g3=>?_) (fun g3=>?_)))))
 try simp only [sQ,ne_eq] at g3
 refine wSk (Ze (Zg (Za (xM (h:=?_)))))
 obtain ⟨bz,hbz⟩:=ZM (xs:=(fnds b x)) (i:=g.k) om
 obtain ⟨bb9,_,hp9,rfl,hw9,hc9⟩:=hv6.row hbz
 refine xIp hp9 Tryz.underlying192 sz4 (h:=Zh (Zn rfl rfl lk4 rfl (hc9 _ 3 rfl 0 _ rfl) (xA (h:=xA (h:=Za (xM (h:=Zb rfl (fun g4=>?_) (fun g4=>?_))))))))
 try simp only [sQ,ne_eq] at g4
 refine Zd (xM (h:=xM (h:=xD (h:=xBs [(0,_)] [_] Tryz.underlying58 sz3 zo3 (h:=fun b10=>Zh (ZkZ (z:=((g.k+1:Nat):Int)) (R:=Z9) 2 rfl hv rfl rfl rfl ZCl ZBH rfl rfl (ZcX.box 4 rfl) rfl rfl (rfl) om (fun l11 p11 c11 hv11=>?_)))))))
 refine xA (h:=ZD (Zm (Zd (xD (h:=xM (h:=?_))))))
 exact Zx ⟨g.k+1,0,l11,p11,c11,(g.xs ++ [((g.k+1:Nat):Int)])⟩ [0,1,2,3] so2 ⟨rfl,so2,by simp;omega,by simp only [];rw [Zrs (by rw [hbz];simpa using g4),hxs],hv11⟩ t12 rfl
 try simp only [sQ,ne_eq] at g4
 refine ZK (ZD (Zm (Zd (xD (h:=xM (h:=?_))))))
 exact Zx ⟨g.k+1,0,g.l,g.a,g.c,g.xs⟩ [0,1,2,3] so2 ⟨rfl,so2,so2,by simp only [];rw [Zwo (by rw [hbz];simpa using g4),hxs],hv⟩ t12 rfl
 try simp only [sQ,ne_eq] at g3
 have hse:Zan b x=g.xs:=Zev hxs (fun _=>⟨hbo,hko⟩) (.inl oz)
 rw [hse]
 refine ZA (ZQ (ZB (Zs (Zm (Za (xM (h:=xA (h:=Zf ?_))))))))
 exact eN [2] rfl t1 ⟨_,_,_,rfl,rfl,hv.anyK Z9.any⟩

theorem Zrc (n b be bk:Nat) (q1 q2 q3:Option Addr) (c1 c2 c3:Nat) (x:DHost) (l1 l2 l3:Cells) (k:Nat) (f:DFolder) (hfx:x.folders[k]? = some f) (hn1:x.users.length≤2000000) (hn2:x.folders.length≤2000000) (qe:Option Addr) (ce:Nat) (le:Cells) (hml:f.mail.length≤10) (qs qk:Option Addr) (cs ck:Nat) (y:DKey) (hyt:y.text.length≤2000000) (a:Nat→Addr) (M:Int) (B:Kn) (hG:GlobB 4 5 B M) (hu:ZR Kn.none l1 q1 c1 132 3 ZL x.users) (hf:ZaM l2 q2 c2 87 5 (Zai 223 146) x.folders) (hi:ZaM l3 q3 c3 136 4 (ZbE 9) x.queue.items) (hy:ZR Kn.none le qe ce 3 1 Z9 ([]:List Int)) (hc77:Zam B bk 0 [.int .i64 y.kind,.int .i64 y.flag,str y.text,.slice qs y.set.length cs,.slice qk y.keys.length ck]) (hys:SlK B qs cs 2 ZN y.set) (hyk:SlK B qk ck 5 (Zbw n) y.keys):Zu (pj J) 63 [ptr ⟨b,2,none⟩,.int .i64 k,ptr ⟨bk,0,none⟩,ptr ⟨be,0,none⟩] B [ZP b [.int .i32 1,.int .u32 0,str x.domain,.slice q1 x.users.length c1,.slice q2 x.folders.length c2,.int .i64 x.queue.next,.slice q3 x.queue.items.length c3] 163,l1,l2,l3,ZP be [.slice qe ([]:List Int).length ce] 58,le] (fun v B' Ls=>∃q1' c1' q2' c2' q3' c3' l1' l2' l3' qe' ce' le',Ls=[ZP b [.int .i32 1,.int .u32 0,str x.domain,.slice q1' x.users.length c1',.slice q2' x.folders.length c2',.int .i64 x.queue.next,.slice q3' x.queue.items.length c3'] 163,l1',l2',l3',ZP be [.slice qe' ((Zan (⟨f.next,f.mail⟩:DBox) y)).length ce'] 58,le']∧v=errv 392 a (0)∧ZR Kn.none l1' q1' c1' 132 3 ZL x.users∧ZaM l2' q2' c2' 87 5 (Zai 223 146) x.folders∧ZaM l3' q3' c3' 136 4 (ZbE 9) x.queue.items∧ZR Kn.none le' qe' ce' 3 1 Z9 ((Zan (⟨f.next,f.mail⟩:DBox) y))):=by
 refine cB 17 Tryz.func63 (h:=?_)
 have hfk:=(List.getElem?_eq_some_iff.1 hfx).1
 obtain ⟨bq,_,_,lre,hpq,⟨qg,cg,qm,cm,ia,ib,rfl,rfl,hvg,hvm,ho9,hn9,hx9,hy9⟩,hwq,hqq,hcl,hcr,hkk⟩:=hf.cellA hfx
 refine Za (xA (h:=Ze (ZW (keeps _ [0,2] _) mo kr ⟨Kn.le.refl _,ZaH.refl _ _⟩ (fun _ _=>?_))))
 refine aM 0 rfl (h:=aNc 1 rfl (h:=aW 2 rfl Za5 (h:=aT 3 rfl (ZO fun D B L hI=>Zn rfl rfl ZgE rfl (atL 0 (hI.2.1.trans rfl) rfl rfl) r4) (h:=aM 4 rfl (h:=aT 5 rfl (ZO fun D B L hI=>ZgI hpq rfl rfl Tryz.underlying36 ZeO rfl rfl oz oz r4) (h:=?_))))))
 refine aW 6 rfl Zed (h:=aT 7 rfl (ZO fun D B L hI=>ZI [_,_] rfl rfl Zhm rfl (ZE3 (hcl _ _ 2 (hI.2.2.1.trans rfl)) 3 rfl rfl) r4) (h:=aT 8 rfl (ZO fun D B L hI=>ZI [_,_,_,_,_] rfl rfl ZfW rfl (Zhh (hc77.mono hI.1) 0 rfl rfl) r4) (h:=ZV 9 kr rfl kr (Zbx [2] rfl rfl rfl rfl ZFw rfl (Zu.borrow fun hm9=>Zm3 _ _ _ (⟨f.next,f.mail⟩:DBox) _ _ _ _ y hyt _ _ (hvm.knownF oz fun p hp=>hm9 p (hqq.mem_iff.2 (by simp [hp]))) (hG.mono (Kn.le_add _ _)) (hys.mono ZN.mono (Kn.le_add _ _)) (hyk.mono Zbw.mono (Kn.le_add _ _))) ?_))))
 rintro _ B1 _ hle1 ⟨BB1,_,rfl,hB1,_,hm1,_,a1,c1,l1,rfl,rfl,hs1⟩
 replace hu:=hu.mono ZL.mono hle1
 refine ⟨⟨hle1,t2⟩,(Zb8 10 kr rfl kr kr kr (Zav [_] 4 [_] rfl rfl ZEk rfl rfl rfl rfl rfl rfl rfl rfl ?_))⟩
 refine Zm (tL7 (Za (xA (h:=Zf ?_))))
 exact eN [0,1,2,3,4,6] rfl t1 ⟨_,_,_,_,_,_,_,_,_,_,_,_,rfl,rfl,hu,hf,hi,hs1⟩

theorem Zjk (hJ:Joins Tryz.prog J) (nk:Nat) (q1 q2 q3:Option Addr) (c1 c2 c3:Nat) (x:DHost) (u o n:Str) (hul:u.length≤2000000) (hol:o.length≤2000000) (hnl:n.length≤2000000) (qs qk:Option Addr) (cs ck:Nat) (y:DKey) (hyt:y.text.length≤2000000) (M:Int) (hd:x.domain.length≤2000000) (a:Nat→Addr) (B:Kn) (hE:ErrsB 392 [0,1,2,3] B a) (hu:SlK B q1 c1 3 ZL x.users) (hf:SlK B q2 c2 5 ZF x.folders) (hi:SlK B q3 c3 4 Zar x.queue.items) (hG:GlobB 4 5 B M) (hys:SlK B qs cs 2 ZN y.set) (hyk:SlK B qk ck 5 (Zbw nk) y.keys):Zu (pj J) 21 [.agg #[str x.domain,.slice q1 x.users.length c1,.slice q2 x.folders.length c2,.int .i64 x.queue.next,.slice q3 x.queue.items.length c3],.agg #[str u,str o,str n],.agg #[.int .i64 y.kind,.int .i64 y.flag,str y.text,.slice qs y.set.length cs,.slice qk y.keys.length ck]] B [] (fun v B' Ls=>∃qe ce le,Ls=[le]∧v = .tuple #[.slice qe (Zaq x ⟨u,o,n⟩ y).1.length ce,.int .i64 (Zaq x ⟨u,o,n⟩ y).2]∧ZR Kn.none le qe ce 3 1 Z9 (Zaq x ⟨u,o,n⟩ y).1):=by
 refine cB 23 Tryz.func21 (h:=?_)
 have hun:=hu.len
 have hfn:=hf.len
 have hin:=hi.len
 have hysn:=hys.len
 have hykn:=hyk.len
 refine Za (xBx [_,_,_,_,_] (h:=fun b1=>xBx [_,_,_] (h:=fun b2=>xBx [_,_,_,_,_] (h:=fun b3=>xA (h:=xA (h:=tL3 (ZqB 2 rfl (fun B4 hle4 hpm4=>?_))))))))
 have hc4:=ZbA hpm4
 replace hu:=hu.mono ZL.mono hle4
 replace hf:=hf.mono ZF.mono hle4
 replace hi:=hi.mono Zar.mono hle4
 replace hys:=hys.mono ZN.mono hle4
 replace hyk:=hyk.mono Zbw.mono hle4
 replace hE:=hE.mono hle4
 replace hG:=hG.mono hle4
 refine Za (xBs [] [] Tryz.underlying58 sz3 zo3 (h:=fun b5=>xAl [_] ZEP (h:=fun b6=>xS [_] 4 [_] ZEk (h:=tL5 (Ze (ZW (keeps _ [0,1] _) mo kr ⟨Kn.le.refl _,ZaH.refl _ _⟩ (fun _ _=>?_)))))))
 refine aT 0 rfl (ZO fun D B L hI=>ZI [_,_,_,_,_] rfl rfl ZgD rfl (ZbZ 0 (hI.2.1.trans rfl) rfl rfl) r4) (h:=aT 1 rfl (ZO fun D B L hI=>ZI [_,_,_] rfl rfl ZA3 rfl (ZbZ 1 (hI.2.2.1.trans rfl) rfl rfl) r4) (h:=aT 2 rfl (ZO fun D B L hI=>ZI [_,_,_,_,_] rfl rfl ZfW rfl (Zhh (hc4.mono hI.1) 0 rfl rfl) r4) (h:=aT 3 rfl (ZO fun D B L hI=>Z5 rfl rfl ZFx rfl (ZpP _ _ _ _ _ y om2 _ _ (hG.mono hI.1) (hys.mono ZN.mono hI.1) (hyk.mono Zbw.mono hI.1)) r4) (h:=?_))))
 refine ZkL [4,9] kr kr kr ⟨?_,?_⟩
 refine (Zdj (xs:=[]) (ys:=[_,_]) rfl rfl rfl rfl (⟨⟨Kn.le.refl _,t2⟩,(ZkL [5,9] kr kr kr ⟨?_,?_⟩)⟩))
 refine (Zbx [4,3] rfl rfl rfl rfl ZCu rfl (ZmY _ _ _ _ _ _ x u o n hul hol hnl _ 2 63 _ x 0 (by decide) ZCt hJ _ _ _ _ [] (Zan (ZiU x (Zb5 (inF o n) x.folders).toNat) y) (by simp) hd a _ hE hu hf hi ZR.lit0 (fun har hok h2 hr B2 b q1 q2 q3 c1 c2 c3 l1 l2 l3 hle k1 k2 k3=>by (obtain ⟨k,f,hk,hfx⟩:=ZiE hr;have hat:(if ZdO x.users x.folders u o n 2=0 then Zb5 (inF o n) x.folders else -1)=(k:Int):=(by rw [if_pos hr,hk]);have hYS:(Zan (ZiU x (Zb5 (inF o n) x.folders).toNat) y)=(Zan (⟨f.next,f.mail⟩:DBox) y):=(by rw [hk,Int.toNat_natCast,Zfo hfx];rfl);have hml:f.mail.length≤10:=(Zfn (ZgX (Zit hok hfx))).2.2;rw [hat,hYS];exact Zrc _ b _ _ _ _ _ _ _ _ x l1 l2 l3 k f hfx oz oz _ _ _ hml _ _ _ _ y hyt a _ B2 (hG.mono hle) k1 k2 k3 ZR.lit0 (hc4.mono hle) (hys.mono ZN.mono hle) (hyk.mono Zbw.mono hle)))) ?_)
 rintro _ B8 _ hle8 ⟨Y8,d8,YY8,q18,c18,q28,c28,q38,c38,l18,l28,l38,qe8,ce8,le8,hYd8,rfl,rfl,hu8,hf8,hi8,hy8⟩
 replace hu:=hu.mono ZL.mono hle8
 replace hf:=hf.mono ZF.mono hle8
 replace hi:=hi.mono Zar.mono hle8
 replace hys:=hys.mono ZN.mono hle8
 replace hyk:=hyk.mono Zbw.mono hle8
 replace hc4:=hc4.mono hle8
 replace hE:=hE.mono hle8
 replace hG:=hG.mono hle8
 obtain ⟨rfl,rfl⟩:=Zh3 rfl hYd8
 refine ⟨⟨hle8,t2⟩,(aM 6 rfl (h:=aE 7 rfl (h:=aE 8 rfl (h:=ZV 9 kr rfl kr (ZeR (l:=[_,_,_,_,_]) rfl rfl Zqq rfl (fun b9=>?_))))))⟩
 refine ⟨⟨hle8,t2⟩,(Zf4 10 kr rfl kr kr (Zav [_,_,_,_,_] 8 [_,_,_,_,_] rfl rfl Zq6 rfl rfl rfl rfl rfl rfl rfl rfl ?_))⟩
 refine aA 11 rfl (h:=Zy kr kr ?_)
 refine Zm (tL9 (Za (x1 ZB0 4 (h:=xM (h:=xA (h:=xA (h:=Zf ?_)))))))
 exact Zdh .ret (.inl rfl) [_,_] [3] rfl t2 ⟨_,_,_,rfl,rfl,hy8⟩
 refine (ZeR (l:=[_,_,_,_,_]) rfl rfl Zqq rfl (fun b10=>⟨⟨Kn.le.refl _,t2⟩,(ZV 5 kr rfl kr (Zbx [4,3] rfl rfl rfl rfl ZCu rfl (ZmY _ _ _ _ _ _ x u o n hul hol hnl _ 2 63 _ x 0 (by decide) ZCt hJ _ _ _ _ [] (Zan (ZiU x (Zb5 (inF o n) x.folders).toNat) y) (by simp) hd a _ hE hu hf hi ZR.lit0 (fun har hok h2 hr B2 b q1 q2 q3 c1 c2 c3 l1 l2 l3 hle k1 k2 k3=>by (obtain ⟨k,f,hk,hfx⟩:=ZiE hr;have hat:(if ZdO x.users x.folders u o n 2=0 then Zb5 (inF o n) x.folders else -1)=(k:Int):=(by rw [if_pos hr,hk]);have hYS:(Zan (ZiU x (Zb5 (inF o n) x.folders).toNat) y)=(Zan (⟨f.next,f.mail⟩:DBox) y):=(by rw [hk,Int.toNat_natCast,Zfo hfx];rfl);have hml:f.mail.length≤10:=(Zfn (ZgX (Zit hok hfx))).2.2;rw [hat,hYS];exact Zrc _ b _ _ _ _ _ _ _ _ x l1 l2 l3 k f hfx oz oz _ _ _ hml _ _ _ _ y hyt a _ B2 (hG.mono hle) k1 k2 k3 ZR.lit0 (hc4.mono hle) (hys.mono ZN.mono hle) (hyk.mono Zbw.mono hle)))) ?_))⟩))
 rintro _ B11 _ hle11 ⟨Y11,d11,YY11,q111,c111,q211,c211,q311,c311,l111,l211,l311,qe11,ce11,le11,hYd11,rfl,rfl,hu11,hf11,hi11,hy11⟩
 replace hu:=hu.mono ZL.mono hle11
 replace hf:=hf.mono ZF.mono hle11
 replace hi:=hi.mono Zar.mono hle11
 replace hys:=hys.mono ZN.mono hle11
 replace hyk:=hyk.mono Zbw.mono hle11
 replace hc4:=hc4.mono hle11
 replace hE:=hE.mono hle11
 replace hG:=hG.mono hle11
 obtain ⟨rfl,rfl⟩:=Zh3 rfl hYd11
 refine ⟨⟨hle11,t2⟩,(aM 6 rfl (h:=aE 7 rfl (h:=aE 8 rfl (h:=Zf4 10 kr rfl kr kr (Zav [_,_,_,_,_] 5 [_,_,_,_,_] rfl rfl Zq6 rfl rfl rfl rfl rfl rfl rfl rfl ?_)))))⟩
 refine aA 11 rfl (h:=Zy kr kr ?_)
 refine Zm (tL9 (Za (x1 ZB0 4 (h:=xM (h:=xA (h:=xA (h:=Zf ?_)))))))
 exact Zdh .ret (.inl rfl) [_,_] [3] rfl t2 ⟨_,_,_,rfl,rfl,hy11⟩
 refine (ZeR (l:=[_,_,_,_,_]) rfl rfl Zqq rfl (fun b12=>⟨⟨Kn.le.refl _,t2⟩,(ZV 4 kr rfl kr (Zdj (xs:=[]) (ys:=[_,_]) rfl rfl rfl rfl ?_))⟩))
 refine ⟨⟨Kn.le.refl _,t2⟩,(ZV 5 kr rfl kr (Zbx [4,3] rfl rfl rfl rfl ZCu rfl (ZmY _ _ _ _ _ _ x u o n hul hol hnl _ 2 63 _ x 0 (by decide) ZCt hJ _ _ _ _ [] (Zan (ZiU x (Zb5 (inF o n) x.folders).toNat) y) (by simp) hd a _ hE hu hf hi ZR.lit0 (fun har hok h2 hr B2 b q1 q2 q3 c1 c2 c3 l1 l2 l3 hle k1 k2 k3=>by (obtain ⟨k,f,hk,hfx⟩:=ZiE hr;have hat:(if ZdO x.users x.folders u o n 2=0 then Zb5 (inF o n) x.folders else -1)=(k:Int):=(by rw [if_pos hr,hk]);have hYS:(Zan (ZiU x (Zb5 (inF o n) x.folders).toNat) y)=(Zan (⟨f.next,f.mail⟩:DBox) y):=(by rw [hk,Int.toNat_natCast,Zfo hfx];rfl);have hml:f.mail.length≤10:=(Zfn (ZgX (Zit hok hfx))).2.2;rw [hat,hYS];exact Zrc _ b _ _ _ _ _ _ _ _ x l1 l2 l3 k f hfx oz oz _ _ _ hml _ _ _ _ y hyt a _ B2 (hG.mono hle) k1 k2 k3 ZR.lit0 (hc4.mono hle) (hys.mono ZN.mono hle) (hyk.mono Zbw.mono hle)))) ?_))⟩
 rintro _ B13 _ hle13 ⟨Y13,d13,YY13,q113,c113,q213,c213,q313,c313,l113,l213,l313,qe13,ce13,le13,hYd13,rfl,rfl,hu13,hf13,hi13,hy13⟩
 obtain ⟨rfl,rfl⟩:=Zh3 rfl hYd13
 refine ⟨⟨hle13,t2⟩,(aM 6 rfl (h:=aE 7 rfl (h:=aE 8 rfl (h:=Zf4 10 kr rfl kr kr (Zav [_,_,_,_,_] 5 [_,_,_,_,_] rfl rfl Zq6 rfl rfl rfl rfl rfl rfl rfl rfl ?_)))))⟩
 refine aA 11 rfl (h:=Zy kr kr ?_)
 refine Zm (tL9 (Za (x1 ZB0 4 (h:=xM (h:=xA (h:=xA (h:=Zf ?_)))))))
 exact Zdh .ret (.inl rfl) [_,_] [3] rfl t2 ⟨_,_,_,rfl,rfl,hy13⟩

theorem ZrU (n:Nat) (q q':Option Addr) (c c':Nat) (x:DKey) (l1 l2:Cells) (k:Nat) (hk:(kL Zer (k+2*x.set.length) x.keys)≤800000000000000) (hn1:x.set.length≤2000000) (hn2:x.keys.length≤2000000) (B:Kn) (hs:ZR Kn.none l1 q c 93 2 ZN x.set) (hv:ZaM l2 q' c' 63 5 (Zhz 93 63 n) x.keys):Zu (pj J) 24 [.agg #[.int .i64 x.kind,.int .i64 x.flag,str x.text,.slice q x.set.length c,.slice q' x.keys.length c'],.int .i64 k] B [l1,l2] (fun v B' Ls=>B'=B∧∃l1' l2',Ls=[l1',l2']∧v = .int .i64 (((kL Zer (k+2*x.set.length) x.keys):Nat):Int)):=by
 refine cB 14 Tryz.func24 (h:=?_)
 have hke:k+2*x.set.length≤800000000000000:=by unfold kL at hk;omega
 refine Za (xBx [_,_,_,_,_] (h:=fun b1=>xA (h:=tL3 (Za (xW Zcf (h:=x1 Zj6 2 (h:=xM (h:=xK [0] rfl ZEK rfl (Zib _ _ x.set _ k oz oz _ (hs.anyK ZN.any)) (h:=?_)))))))))
 rintro _ B2 _ hle2 ⟨rfl,l2,rfl,rfl,hs2⟩
 refine xA (h:=tL3 (Za (xW Zbk (h:=x1 ZhF 2 (h:=xM (h:=xK [1] rfl ZEC rfl (ZlK _ _ _ x.keys _ (k+2*x.set.length) oa oz _ hv) (h:=?_)))))))
 rintro _ B3 _ hle3 ⟨rfl,l3,ys3,rfl,rfl,hl3,hs3⟩
 refine xA (h:=tL3 (Za (xM (h:=xA (h:=Zf ?_)))))
 exact eN [0,1] rfl t1 ⟨rfl,_,_,rfl,rfl⟩

end Go.Proofs.YtonfijmgahdgeaaGreatDoor
