/-
  WHAT THE FUNCTIONS THAT THE LAWS REACH COMPUTE: each function's contract, proved off its printed body (the text is written by program). No condition beyond those that each theorem states.
-/
import Derived.Test.YtgbaglnnkikkgaaGreatDoorC2
namespace Go.Proofs.YtgbaglnnkikkgaaGreatDoor
open Go Go.BL
set_option linter.unusedVariables false
set_option linter.unusedSimpArgs false
set_option maxRecDepth 4000
set_option maxHeartbeats 6400000
variable {J : JoinT}
theorem ZkE (b:Nat) (kvs:KV) (lm:Cells) (hm:Zjs lm b kvs) (hkl :∀k,k∈kvs.map (·.1)→k.length≤2000000) (hk5:kvs.length≤5) (B:Kn):Zv (pj J) 73 [.map (some b)] B [lm] (fun v B' Ls=>∃(l:Cells) (a:Option Addr) (c:Nat) (ks:List Str),Ls=[l]∧v = .slice a (ks.map (Zfr kvs)).length c∧ZP Kn.none l a c 109 2 ZD (ks.map (Zfr kvs))∧ks.Pairwise Zeh∧∀k,k∈ks↔k∈kvs.map (·.1)):=by
 refine cB 27 Tryz.func73 (h:=?_)
 refine Za (xA (h:=Za (xM (h:=Zk (Zsb 0 rfl hm rfl rfl Tryz.underlying117 rfl (Zk (ZaX (m:=0) (c:=kvs.length) (by_:=24) [.string ⟨#[]⟩,.int .i64 0] rfl rfl ZnC ZcI rfl rfl ⟨_,_,rfl,by first | omega | (simp;done) | (simp;omega)⟩ ⟨_,_,rfl,by first | omega | (simp;done) | (simp;omega)⟩ om om (fun b1=>?_))))))))
 have hv1:=ZP.zeros (B:=Kn.none) (b:=b1) (T:=109) (R:=ZD) (d:=(⟨[],0⟩:DGrant)) (m:=0) (c:=kvs.length) (zs:=[.string ⟨#[]⟩,.int .i64 0]) rfl (⟨rfl,by simp⟩) om
 refine xA (h:=tL2 (Zc (Za (xM (h:=xC Zxp rfl (ZuV _ _) (h:=?_))))))
 rintro _ By _ hley ⟨rfl,bcy,rfl,hccy⟩
 replace hv1:=hv1.mono ZD.mono hley
 refine xK [0] rfl Zxq rfl (ZqL _ _ kvs _ hm hkl hk5 _ hccy) (h:=?_)
 rintro _ Bz _ hlez ⟨lz,az,cz,ksz,rfl,rfl,hvz,hpwz,hmemz⟩
 replace hv1:=hv1.mono ZD.mono hlez
 have hk9:ksz.length≤5:=by have:=ZiA (ZqO hpwz) (fun k hk=>(hmemz k).1 hk);simp at this;omega
 refine xV Tryz.underlying99 (h:=xM (h:=tL3 (Zi (Zw (α:=Gh DGrant) [0,2,11,12] (fun g=>[(3,.slice g.a g.xs.length g.c),(13,.int .i64 g.k)]) [1] (fun g=>[g.l]) (fun g Bx=>Bx=Bz∧g.k≤ksz.length∧g.xs=(ksz.take g.k).map (Zfr kvs)∧g.xs.length≤g.k∧ZP Kn.none g.l g.a g.c 109 2 ZD g.xs) (fun g=>ksz.length - g.k) ⟨0,0,(Zar b1 (zrow [.string ⟨#[]⟩,.int .i64 0] kvs.length) 109),(some ⟨b1,0,none⟩),kvs.length,[]⟩ t2 rfl (⟨rfl,Nat.zero_le _,by simp,Nat.le_refl _,hv1⟩) (fun g B4 hle4 hI=>?_)))))
 obtain ⟨rfl,hk,hxs,hxl,hv⟩:=hI
 refine ZB [(0,_),(2,_),(3,_),(11,_),(12,_),(13,_)] [_,_,_] t6 rfl (Za (ZE (h:=Zc (Zb rfl (fun g1=>?_) (fun g1=>?_)))))
 try simp only [sQ,ne_eq] at g1
 refine wSk (Zc (Zi (Za ?_)))
 obtain ⟨w,hw⟩:=ZU (xs:=ksz) (i:=g.k) om
 obtain ⟨bb6,_,hp6,⟨rfl,hb6⟩,hw6,hc6⟩:=hvz.row hw
 refine xIp hp6 Tryz.underlying99 sz9 (h:=Zk (Zn rfl rfl lk9 rfl (hc6 _ 2 rfl 0 _ rfl) (xA (h:=Zf (xM (h:=xM (h:=xM (h:=xM (h:=Zk (Zix (k:=w) 0 rfl hm rfl rfl Tryz.underlying117 Tryz.underlying9 zo3 rfl rfl (xB [(0,_),(1,_)] [_,_] [_,_] Zs3 ZcI (h:=xBs [(0,_)] [_,_] Tryz.underlying54 ZaQ ZcI (h:=fun b7=>Zk (Ze0 (z:=⟨w,((mget kvs w).getD 0)⟩) (R:=ZD) 1 rfl hv rfl rfl rfl ZnC Zow rfl rfl (Zb6.box 3 rfl) rfl rfl (⟨rfl,by first | assumption | omega | (simp;done) | (simp;omega)⟩) om (fun l8 p8 c8 hv8=>?_)))))))))))))))
 refine xA (h:=ZM (Zo (Zf (xD (h:=xM (h:=?_))))))
 exact ZA ⟨g.k+1,0,l8,p8,c8,(g.xs ++ [⟨w,((mget kvs w).getD 0)⟩])⟩ [0,1,2] (by first | omega | (simp only [];omega)) ⟨rfl,by simp only [];omega,by simp only [];rw [Zbe hw,List.map_append,hxs];rfl,by simp;omega,hv8⟩ ⟨rfl,rfl,rfl,rfl,rfl,rfl,trivial⟩ rfl
 try simp only [sQ,ne_eq] at g1
 have hxe:g.xs=ksz.map (Zfr kvs):=by rw [hxs,List.take_of_length_le oz]
 refine ZC (ZV (ZG (Zu (Zo (Za (xM (h:=xA (h:=Zd ?_))))))))
 exact Zdl .ret (.inl rfl) [_] [1] rfl ⟨rfl,trivial⟩ ⟨_,_,_,ksz,rfl,by rw [← hxe];rfl,by rw [← hxe];exact hv,hpwz,hmemz⟩

theorem ZmP (q:Option Addr) (cp:Nat) (gs:List DGrant) (u:Str) (r:Int) (hul:u.length≤2000000) (hok:ZaF gs=true) (hro:ZaC r=true) (B:Kn) (hg:SlK B q cp 2 ZD gs):Zv (pj J) 32 [.slice q gs.length cp,str u,.int .i64 r] B [] (fun v B' Ls=>∃l a c,Ls=[l]∧v = .tuple #[.slice a (Zap gs u r).1.length c,.bool (Zap gs u r).2]∧ZP Kn.none l a c 109 2 ZD (Zap gs u r).1):=by
 refine cB 45 Tryz.func32 (h:=?_)
 have hgn:=hg.len
 have hs:=ZcX hok
 have hg4:=ZbE hok
 refine Za (xA (h:=xA (h:=Za (xM (h:=xC Zwk rfl (Zjn _ _ _ _ hg) (h:=?_))))))
 rintro _ B1 _ hle1 ⟨m1,l1,rfl,rfl,rfl,hl1⟩
 replace hl1:=hl1 hok
 obtain ⟨b1,rfl,hl1⟩:=hl1
 refine xM (h:=xE (h:=xE (h:=xA (h:=xA (h:=tL1 (Zc (Za (xM (h:=xN (h:=xM (h:=Zt (d:=17) rfl (fun g0=>by simp [hok] at g0) (fun g0=>?_))))))))))))
 try simp only [sQ,ne_eq] at g0
 refine xM (h:=xR ZrE rfl (Zbo _ om2 _) (h:=?_))
 refine xN (h:=xF (h:=xM (h:=Zt (d:=22) rfl (fun g1=>?_) (fun g1=>?_))))
 try simp only [sQ,ne_eq] at g1
 refine xP (h:=xP (h:=xP (h:=xT (h:=Zb (t:=true) rfl (fun _=>Za (xBs [] [] Tryz.underlying54 ZaQ ZcI (h:=fun b3=>xA (h:=xA (h:=tL2 (Zd (Zl ?_))))))) (fun h=>Bool.noConfusion h)))))
 rw [ZeU (gs:=gs) (u:=u) (r:=r) (fun h=>by simp [h.2.1] at g1)]
 exact Zdl .ret (.inl rfl) [_,_] [1] rfl t2 ⟨_,_,_,rfl,rfl,ZP.lit0⟩
 try simp only [sQ,ne_eq] at g1
 refine xM (h:=xR Zwl rfl (ZiI _ _) (h:=xN (h:=xF (h:=Zb rfl (fun g2=>by have hro2:=hro;simp only [ZaC,Bool.and_eq_true,decide_eq_true_eq] at hro2;simp at g2;omega) (fun g2=>?_)))))
 try simp only [sQ,ne_eq] at g2
 have hno:ZZ u=true:=by simpa using g1
 refine wSk (Zc (Za (xM (h:=Zju (h:=Zb rfl (fun g3=>?_) (fun g3=>?_))))))
 try simp only [sQ,ne_eq] at g3
 subst g3
 obtain ⟨hkl,hk5⟩:=Zhi (r:=0) hok hul
 refine Za (xM (h:=xM (h:=Zk (Zus 0 rfl hl1 rfl rfl Tryz.underlying117 Tryz.underlying9 rfl rfl (fun l9 hl9=>?_)))))
 rw [← (show Zcv gs u 0=mdel (ZcB gs) u from if_pos rfl)] at hl9
 refine tL1 (Za (xM (h:=xK [0] rfl Zx3 rfl (ZkE _ (Zcv gs u 0) _ hl9 hkl hk5 _) (h:=?_))))
 rintro _ B5 _ hle5 ⟨l5,a5,c5,ks5,rfl,rfl,hv5,hpw5,hmem5⟩
 replace hg:=up1 hle5 hg
 refine xA (h:=xA (h:=tL1 (Zd (Zl ?_))))
 obtain e:=ZmO hs hpw5 hmem5
 rw [ZnO hok hno,← e]
 exact Zdl .ret (.inl rfl) [_,_] [0] rfl t2 ⟨_,_,_,rfl,rfl,hv5⟩
 try simp only [sQ,ne_eq] at g3
 obtain ⟨hkl,hk5⟩:=Zhi (r:=r) hok hul
 refine wSk (Za (xM (h:=xM (h:=xM (h:=Zk (Zg0 (k:=u) (v:=r) 0 rfl hl1 rfl rfl Tryz.underlying117 Tryz.underlying9 rfl rfl rfl (fun l6 hl6=>tL1 (Zc (Za (xM (h:=?_)))))))))))
 rw [← (show Zcv gs u r=mput (ZcB gs) u r from if_neg g3)] at hl6
 have hnk:=hl6.keys
 refine Zk (Zsb 0 rfl hl6 rfl rfl Tryz.underlying117 rfl (Zdx (h:=Zb rfl (fun g4=>?_) (fun g4=>?_))))
 try simp only [sQ,ne_eq] at g4
 refine Za (xBs [] [] Tryz.underlying54 ZaQ ZcI (h:=fun b7=>xM (h:=Zk (Zbu (R:=ZD) 1 rfl (ZP.lit0 (R:=ZD)) rfl rfl rfl ZnC Zow rfl rfl rfl hg.rows ZD.one rfl om (fun l8 p8 c8 hv8=>?_)))))
 refine xA (h:=xA (h:=tL2 (Zd (Zl ?_))))
 rw [ZlT hok hno hro hnk oz]
 exact Zdl .ret (.inl rfl) [_,_] [1] rfl t2 ⟨_,_,_,rfl,rfl,hv8.anyK ZD.any⟩
 try simp only [sQ,ne_eq] at g4
 refine wSk (Za (xM (h:=xK [0] rfl Zx3 rfl (ZkE _ (Zcv gs u r) _ hl6 hkl hk5 _) (h:=?_))))
 rintro _ B9 _ hle9 ⟨l9,a9,c9,ks9,rfl,rfl,hv9,hpw9,hmem9⟩
 refine xA (h:=xA (h:=tL1 (Zd ?_)))
 obtain e:=ZmO hs hpw9 hmem9
 rw [ZnN hok hno hro hnk oz,← e]
 exact Zdl .ret (.inl rfl) [_,_] [0] rfl t2 ⟨_,_,_,rfl,rfl,hv9⟩

theorem Zu1 (b1 b2 b3 b4 b5:Nat) (w o n u:Str) (r:Int) (b:Nat) (q1 q2 q3:Option Addr) (c1 c2 c3:Nat) (x:DHost) (l1 l2 l3:Cells) (hwl:w.length≤2000000) (hol:o.length≤2000000) (hnl:n.length≤2000000) (hul:u.length≤2000000) (hn1:x.users.length≤2000000) (hn2:x.folders.length≤2000000) (hok:Z7 x=true) (hro:ZaC r=true) (a:Nat→Addr) (B:Kn) (hE:ErrsB 288 [0,2,3,1] B a) (hc1:Zae B b1 0 [str w]) (hc2:Zae B b2 0 [str o]) (hc3:Zae B b3 0 [str n]) (hc4:Zae B b4 0 [str u]) (hc5:Zae B b5 0 [.int .i64 r]) (hu:ZP Kn.none l1 q1 c1 97 3 Zr x.users) (hf:ZaV l2 q2 c2 61 5 (Z1 109 164) x.folders) (hi:ZaV l3 q3 c3 101 4 (Za8 9) x.queue.items):Zv (pj J) 29 [ptr ⟨b,0,none⟩,ptr ⟨b1,0,none⟩,ptr ⟨b2,0,none⟩,ptr ⟨b3,0,none⟩,ptr ⟨b4,0,none⟩,ptr ⟨b5,0,none⟩] B [Zar b [str x.domain,.slice q1 x.users.length c1,.slice q2 x.folders.length c2,.int .i64 x.queue.next,.slice q3 x.queue.items.length c3] 36,l1,l2,l3] (fun v B' Ls=>∃q1' c1' q2' c2' q3' c3' l1' l2' l3',Ls=[Zar b [str (Zjp x w o n u r).domain,.slice q1' (Zjp x w o n u r).users.length c1',.slice q2' (Zjp x w o n u r).folders.length c2',.int .i64 (Zjp x w o n u r).queue.next,.slice q3' (Zjp x w o n u r).queue.items.length c3'] 36,l1',l2',l3']∧v=errv 288 a (Zjq x w o n u r)∧ZP Kn.none l1' q1' c1' 97 3 Zr (Zjp x w o n u r).users∧ZaV l2' q2' c2' 61 5 (Z1 109 164) (Zjp x w o n u r).folders∧ZaV l3' q3' c3' 101 4 (Za8 9) (Zjp x w o n u r).queue.items):=by
 refine cB 57 Tryz.func29 (h:=?_)
 have hix:=Zhm (inF o n) x.folders
 have hck:=Zp1 x.users x.folders w o n 32
 refine Za (xA (h:=Za (xM (h:=y1 lk9 hc1 0 (h:=y1 lk9 hc2 0 (h:=y1 lk9 hc3 0 (h:=Zk (Zgx [0,1,2,3] rfl rfl rfl rfl rfl Zzg rfl (Z6.borrowL fun hm1=>ZtV _ _ _ _ _ _ _ _ x w o n 32 om2 om2 om2 a _ (hE.mono (Kn.le_add _ _)) (Zyf 0 rfl hm1) (hu.lendK Zr.any 1 rfl hm1 om) (hf.lendK Z1.known Zs.mono 2 rfl hm1 om)) ?_))))))))
 refine xM (h:=xE (h:=xE (h:=xA (h:=xA (h:=Zc (Za (xM (h:=Zk (Zue (tE:=288) (a:=a) (c:=(ZfZ x.users x.folders w o n 32)) rfl rfl Tryz.underlying68 rfl (Zb rfl (fun g1=>?_) (fun g1=>?_)))))))))))
 try simp only [sQ,ne_eq] at g1
 refine Za (xM (h:=xA (h:=Zd (Zl ?_))))
 obtain ⟨e1,e2⟩:=Zpq (u:=u) (r:=r) (show ZfZ x.users x.folders w o n 32≠0 by omega)
 exact eN [0,1,2,3] rfl t1 (by rw [e1,e2];exact ⟨_,_,_,_,_,_,_,_,_,rfl,rfl,hu.anyK Zr.any,hf,hi⟩)
 try simp only [sQ,ne_eq] at g1
 have hce:ZfZ x.users x.folders w o n 32=0:=by omega
 have hk0:=ZmL hce
 obtain ⟨k,hke⟩ :∃k:Nat,Zb8 (inF o n) x.folders=(k:Int):=⟨_,(Int.toNat_of_nonneg hk0).symm⟩
 obtain ⟨f,hfx⟩:=ZU (xs:=x.folders) (i:=k) oz
 have hg4:=ZbE (Zc9 hok hfx |> ZeM)
 have hzl:(Zap f.grants u r).1.length≤2000000:=Nat.le_trans (ZlS (Zc9 hok hfx |> ZeM)) (by decide)
 obtain ⟨bq,_,_,lre,hpq,⟨qg,cg,qm,cm,ia,ib,rfl,rfl,hvg,hvm,ho9,hn9,hx9,hy9⟩,hwq,hqq,hcl,hcr,hkk⟩:=hf.cellA hfx
 rw [if_pos hce,hke]
 refine wSk (Zc (Za (y1 lk9 hc4 0 (h:=ZcD (h:=xM (h:=Zt (d:=25) rfl (fun g2=>?_) (fun g2=>?_)))))))
 try simp only [sQ,ne_eq] at g2
 refine xM (h:=y1 lk9 hc4 0 (h:=Zk (Zgx [0,1,2,3] rfl rfl rfl rfl rfl Zvc rfl (Z6.borrowL fun hm2=>ZfR _ _ _ _ _ _ _ _ x u om2 _ (Zyf 0 rfl hm2) (hu.lendK Zr.any 1 rfl hm2 om)) ?_)))
 refine xN (h:=xT (h:=Zb rfl (fun g3=>?_) (fun g3=>?_)))
 try simp only [sQ,ne_eq] at g3
 refine Za (Zk (Zn rfl rfl Zql rfl ((hE.row 0 (by decide)) _ 0 _ rfl) ?_))
 refine xA (h:=Zd (Zl ?_))
 obtain ⟨e1,e2⟩:=ZmA (r:=r) hce (by simpa [anyone] using g2) (by simpa using g3)
 exact eN [0,1,2,3] rfl t1 (by rw [e1,e2];exact ⟨_,_,_,_,_,_,_,_,_,rfl,rfl,hu.anyK Zr.any,hf,hi⟩)
 try simp only [sQ,ne_eq] at g3
 have hnu : ¬ (u≠anyone∧(Z9 x.users u).2=false):=fun h=>by simp [h.2] at g3
 refine wSk (Zc (Z2 (keeps _ [0,2] _) mo kr ⟨Kn.le.refl _,Zbr.refl _ _⟩ (fun _ _=>?_)))
 refine aM 0 rfl (h:=aNc 1 rfl (h:=aW 2 rfl Zal (h:=aT 3 rfl (ZR fun D B L hI=>Zn rfl rfl Zec rfl (atL 0 (hI.2.1.trans rfl) rfl rfl) r4) (h:=aM 4 rfl (h:=aT 5 rfl (ZR fun D B L hI=>Zef hpq rfl rfl Tryz.underlying31 Zbw rfl rfl oz oz r4) (h:=?_))))))
 refine aW 6 rfl ZbB (h:=aT 7 rfl (ZR fun D B L hI=>Zn rfl rfl Zms rfl (hcl _ _ 2 (hI.2.2.1.trans rfl) 2 _ rfl) r4) (h:=aT 8 rfl (ZR fun D B L hI=>Zn rfl rfl lk9 rfl ((hc4.mono hI.1) _ 0 _ rfl) r4) (h:=aT 9 rfl (ZR fun D B L hI=>Zn rfl rfl lk3 rfl ((hc5.mono hI.1) _ 0 _ rfl) r4) (h:=ZL 10 kr rfl kr (ZdQ [2] rfl rfl rfl rfl Zx8 rfl (Zv.borrow fun hm9=>ZmP _ _ f.grants u r hul (Zc9 hok hfx |> ZeM) hro _ ⟨hvg.rowsF ZD.any (fun p hp=>hm9 p (hqq.mem_iff.2 (by simp [hp]))),hvg.cap,oz⟩) ?_)))))
 rintro _ B3 _ hle3 ⟨BB3,_,rfl,hB3,_,hm3,_,l3,a3,c3,rfl,rfl,hs3⟩
 replace hc4:=hc4.mono hle3
 replace hc5:=hc5.mono hle3
 replace hu:=hu.mono Zr.mono hle3
 replace hE:=hE.mono hle3
 refine ⟨⟨hle3,t2⟩,(aM 11 rfl (h:=aE 12 rfl (h:=aE 13 rfl (h:=aA 14 rfl (h:=aA 15 rfl (h:=Zx kr kr ?_))))))⟩
 refine Zo (tL5 (Zc (Za (xM (h:=xN (h:=Zb rfl (fun g4=>?_) (fun g4=>?_)))))))
 try simp only [sQ,ne_eq] at g4
 refine Za (Zk (Zn rfl rfl Zql rfl ((hE.row 3 (by decide)) _ 0 _ rfl) ?_))
 refine xA (h:=Zd (Zl ?_))
 obtain ⟨e1,e2⟩:=Zi5 hce hnu hke hfx (by simpa using g4)
 exact eN [0,1,2,3] rfl t1 (by rw [e1,e2];exact ⟨_,_,_,_,_,_,_,_,_,rfl,rfl,hu.anyK Zr.any,hf,hi⟩)
 try simp only [sQ,ne_eq] at g4
 refine wSk (Za (xM (h:=xNc (h:=xW Zal (h:=x1 Zec 0 (h:=xM (h:=xM (h:=Zk (Zef hpq rfl rfl Tryz.underlying31 Zbw rfl rfl oz oz ?_)))))))))
 refine xW ZbB (h:=Zk (Zr3 (R:=(Z1 109 164)) (x0:=f) (f.withGrants (Zap f.grants u r).1) (us:=[_]) (sz:=5) (k:=k) 2 2 [4] rfl rfl hf hpq hfx rfl rfl ZsU rfl rfl rfl rfl (Nat.le_of_ble_eq_true rfl) (by rintro _ _ ⟨_,_,_,_,i8,i9,rfl,rfl,k1,k2,k3,k4,k5,k6⟩;exact ⟨_,i8,⟨_,_,_,_,_,_,rfl,rfl,hs3,k2,k3,k4,hzl,k6⟩,ZoK fun f g h0 ha hc=>by simp only [ha,List.flatten_cons,List.flatten_nil,List.append_nil];omega⟩) (fun l4 hd4=>?_)))
 refine tL5 (Za (xA (h:=Zd ?_)))
 obtain ⟨e1,e2⟩:=Zi6 hce hnu hke hfx (by simpa using g4)
 rw [e1,e2]
 simp only [DHost.withFolders,List.length_set]
 exact eN [0,1,2,3] rfl t1 ⟨_,_,_,_,_,_,_,_,_,rfl,rfl,hu,hd4,hi⟩
 try simp only [sQ,ne_eq] at g2
 have hnu : ¬ (u≠anyone∧(Z9 x.users u).2=false):=fun h=>h.1 (by simpa [anyone] using g2)
 refine xP (h:=xP (h:=xP (h:=xP (h:=xF (h:=Zb (t:=false) rfl (fun h=>Bool.noConfusion h) (fun _=>wSk (Zc (Z2 (keeps _ [0,2] _) mo kr ⟨Kn.le.refl _,Zbr.refl _ _⟩ (fun _ _=>?_)))))))))
 refine aM 0 rfl (h:=aNc 1 rfl (h:=aW 2 rfl Zal (h:=aT 3 rfl (ZR fun D B L hI=>Zn rfl rfl Zec rfl (atL 0 (hI.2.1.trans rfl) rfl rfl) r4) (h:=aM 4 rfl (h:=aT 5 rfl (ZR fun D B L hI=>Zef hpq rfl rfl Tryz.underlying31 Zbw rfl rfl oz oz r4) (h:=?_))))))
 refine aW 6 rfl ZbB (h:=aT 7 rfl (ZR fun D B L hI=>Zn rfl rfl Zms rfl (hcl _ _ 2 (hI.2.2.1.trans rfl) 2 _ rfl) r4) (h:=aT 8 rfl (ZR fun D B L hI=>Zn rfl rfl lk9 rfl ((hc4.mono hI.1) _ 0 _ rfl) r4) (h:=aT 9 rfl (ZR fun D B L hI=>Zn rfl rfl lk3 rfl ((hc5.mono hI.1) _ 0 _ rfl) r4) (h:=ZL 10 kr rfl kr (ZdQ [2] rfl rfl rfl rfl Zx8 rfl (Zv.borrow fun hm9=>ZmP _ _ f.grants u r hul (Zc9 hok hfx |> ZeM) hro _ ⟨hvg.rowsF ZD.any (fun p hp=>hm9 p (hqq.mem_iff.2 (by simp [hp]))),hvg.cap,oz⟩) ?_)))))
 rintro _ B5 _ hle5 ⟨BB5,_,rfl,hB5,_,hm5,_,l5,a5,c5,rfl,rfl,hs5⟩
 replace hu:=hu.mono Zr.mono hle5
 replace hE:=hE.mono hle5
 refine ⟨⟨hle5,t2⟩,(aM 11 rfl (h:=aE 12 rfl (h:=aE 13 rfl (h:=aA 14 rfl (h:=aA 15 rfl (h:=Zx kr kr ?_))))))⟩
 refine Zo (tL5 (Zc (Za (xM (h:=xN (h:=Zb rfl (fun g4=>?_) (fun g4=>?_)))))))
 try simp only [sQ,ne_eq] at g4
 refine Za (Zk (Zn rfl rfl Zql rfl ((hE.row 3 (by decide)) _ 0 _ rfl) ?_))
 refine xA (h:=Zd (Zl ?_))
 obtain ⟨e1,e2⟩:=Zi5 hce hnu hke hfx (by simpa using g4)
 exact eN [0,1,2,3] rfl t1 (by rw [e1,e2];exact ⟨_,_,_,_,_,_,_,_,_,rfl,rfl,hu.anyK Zr.any,hf,hi⟩)
 try simp only [sQ,ne_eq] at g4
 refine wSk (Za (xM (h:=xNc (h:=xW Zal (h:=x1 Zec 0 (h:=xM (h:=xM (h:=Zk (Zef hpq rfl rfl Tryz.underlying31 Zbw rfl rfl oz oz ?_)))))))))
 refine xW ZbB (h:=Zk (Zr3 (R:=(Z1 109 164)) (x0:=f) (f.withGrants (Zap f.grants u r).1) (us:=[_]) (sz:=5) (k:=k) 2 2 [4] rfl rfl hf hpq hfx rfl rfl ZsU rfl rfl rfl rfl (Nat.le_of_ble_eq_true rfl) (by rintro _ _ ⟨_,_,_,_,i8,i9,rfl,rfl,k1,k2,k3,k4,k5,k6⟩;exact ⟨_,i8,⟨_,_,_,_,_,_,rfl,rfl,hs5,k2,k3,k4,hzl,k6⟩,ZoK fun f g h0 ha hc=>by simp only [ha,List.flatten_cons,List.flatten_nil,List.append_nil];omega⟩) (fun l6 hd6=>?_)))
 refine tL5 (Za (xA (h:=Zd ?_)))
 obtain ⟨e1,e2⟩:=Zi6 hce hnu hke hfx (by simpa using g4)
 rw [e1,e2]
 simp only [DHost.withFolders,List.length_set]
 exact eN [0,1,2,3] rfl t1 ⟨_,_,_,_,_,_,_,_,_,rfl,rfl,hu,hd6,hi⟩

theorem Zid (hJ:Joins Tryz.prog J) (q1 q2 q3:Option Addr) (c1 c2 c3:Nat) (x:DHost) (w o n u:Str) (r:Int) (hwl:w.length≤2000000) (hol:o.length≤2000000) (hnl:n.length≤2000000) (hul:u.length≤2000000) (hd:x.domain.length≤2000000) (a:Nat→Addr) (B:Kn) (hE:ErrsB 288 [0,2,3,1] B a) (hu:SlK B q1 c1 3 Zr x.users) (hf:SlK B q2 c2 5 Zs x.folders) (hi:SlK B q3 c3 4 ZK x.queue.items):Zv (pj J) 8 [.agg #[str x.domain,.slice q1 x.users.length c1,.slice q2 x.folders.length c2,.int .i64 x.queue.next,.slice q3 x.queue.items.length c3],str w,str o,str n,str u,.int .i64 r] B [] (fun v B' Ls=>∃q1 c1 q2 c2 q3 c3 l1 l2 l3,Ls=[l1,l2,l3]∧v = .tuple #[.agg #[str (Z3 x w o n u r).1.domain,.slice q1 (Z3 x w o n u r).1.users.length c1,.slice q2 (Z3 x w o n u r).1.folders.length c2,.int .i64 (Z3 x w o n u r).1.queue.next,.slice q3 (Z3 x w o n u r).1.queue.items.length c3],.int .i64 (Z3 x w o n u r).2]∧ZP Kn.none l1 q1 c1 97 3 Zr (Z3 x w o n u r).1.users∧ZaV l2 q2 c2 61 5 (Z1 109 164) (Z3 x w o n u r).1.folders∧ZaV l3 q3 c3 101 4 (Za8 9) (Z3 x w o n u r).1.queue.items):=by
 refine cB 21 Tryz.func8 (h:=?_)
 have hun:=hu.len
 have hfn:=hf.len
 have hin:=hi.len
 refine Za (xBx [_,_,_,_,_] (h:=fun b1=>xBx [_] (h:=fun b2=>xBx [_] (h:=fun b3=>xBx [_] (h:=fun b4=>xBx [_] (h:=fun b5=>xBx [_] (h:=fun b6=>xAl [_,_,_,_,_] Zcx (h:=fun b7=>xA (h:=tL7 (Zjv 1 rfl (fun B8 hle8 hpm8=>?_)))))))))))
 have hc8:=ZaT hpm8
 obtain ⟨hu,hf,hi⟩:=up3 hle8 hu hf hi
 replace hE:=hE.mono hle8
 refine Zjv 2 rfl (fun B9 hle9 hpm9=>?_)
 have hc9:=ZaT hpm9
 obtain ⟨hu,hf,hi⟩:=up3 hle9 hu hf hi
 replace hc8:=hc8.mono hle9
 replace hE:=hE.mono hle9
 refine Zjv 3 rfl (fun B10 hle10 hpm10=>?_)
 have hc10:=ZaT hpm10
 obtain ⟨hu,hf,hi⟩:=up3 hle10 hu hf hi
 replace hc8:=hc8.mono hle10
 replace hc9:=hc9.mono hle10
 replace hE:=hE.mono hle10
 refine Zjv 4 rfl (fun B11 hle11 hpm11=>?_)
 have hc11:=ZaT hpm11
 obtain ⟨hu,hf,hi⟩:=up3 hle11 hu hf hi
 replace hc8:=hc8.mono hle11
 replace hc9:=hc9.mono hle11
 replace hc10:=hc10.mono hle11
 replace hE:=hE.mono hle11
 refine Zjv 5 rfl (fun B12 hle12 hpm12=>?_)
 have hc12:=ZaT hpm12
 obtain ⟨hu,hf,hi⟩:=up3 hle12 hu hf hi
 replace hc8:=hc8.mono hle12
 replace hc9:=hc9.mono hle12
 replace hc10:=hc10.mono hle12
 replace hc11:=hc11.mono hle12
 replace hE:=hE.mono hle12
 refine Zc (Z2 (keeps _ [0] _) mo kr ⟨Kn.le.refl _,Zbr.refl _ _⟩ (fun _ _=>?_))
 refine aT 0 rfl (ZR fun D B L hI=>Zaj [_,_,_,_,_] rfl rfl ZcN rfl (ZcF 0 (hI.2.1.trans rfl) rfl rfl) r4) (h:=aT 1 rfl (ZR fun D B L hI=>Zn rfl rfl lk3 rfl ((hc12.mono hI.1) _ 0 _ rfl) r4) (h:=aT 2 rfl (ZR fun D B L hI=>Zaf rfl rfl Zwl rfl (ZiI _ _) r4) (h:=ZL 3 kr rfl kr (ZcQ (xs:=[]) (ys:=[_,_,_,_,_]) rfl rfl rfl rfl ?_))))
 refine ⟨⟨Kn.le.refl _,t1⟩,(ZL 4 kr rfl kr (ZaK rfl rfl Zzi rfl (Zpi _ _ _ _ _ _ x (ZaC r) 29 _ (Zjp x w o n u r) (Zjq x w o n u r) (Zpr x w o n u r) Zzh hJ hd a _ hE hu hf hi (fun har hok B2 b q1 q2 q3 c1 c2 c3 l1 l2 l3 hle k1 k2 k3=>Zu1 _ _ _ _ _ w o n u r b q1 q2 q3 c1 c2 c3 x l1 l2 l3 hwl hol hnl hul oz oz hok har a B2 (hE.mono hle) (hc8.mono hle) (hc9.mono hle) (hc10.mono hle) (hc11.mono hle) (hc12.mono hle) k1 k2 k3)) ?_))⟩
 rintro _ B14 _ hle14 ⟨Y14,d14,q114,c114,q214,c214,q314,c314,l114,l214,l314,hYd14,rfl,rfl,hu14,hf14,hi14⟩
 rw [Zmz] at hYd14
 obtain ⟨rfl,rfl⟩:=Prod.mk.inj hYd14
 refine ⟨⟨hle14,t1⟩,(aE 5 rfl (h:=aE 6 rfl (h:=ZlR 7 kr rfl kr kr (Z0 [_,_,_,_,_] 6 [_,_,_,_,_] rfl rfl ZdA rfl rfl rfl rfl rfl rfl rfl rfl ?_))))⟩
 refine aA 8 rfl (h:=Zx kr kr ?_)
 refine Zo (Zyk (Zd ?_))
 exact Zdl .ret (.inl rfl) [_,_] [7,8,9] rfl ⟨⟨_,rfl,.inr ⟨[_,_,_,_,_],ZcN,ZcF 6 rfl rfl rfl,rfl⟩⟩,rfl,trivial⟩ ⟨_,_,_,_,_,_,_,_,_,rfl,rfl,hu14.anyK Zr.any,hf14,hi14⟩

theorem ZlC (q1 q2 q3:Option Addr) (c1 c2 c3:Nat) (x:DHost) (hd:x.domain.length≤140737488355328) (w o n u:Str) (r:Int) (hw1:w.length≤140737488355328) (hw2:o.length≤140737488355328) (hw3:n.length≤140737488355328) (hw4:u.length≤140737488355328) (a:Nat→Addr) (B:Kn) (hE:ErrsB 288 [0,2,3,1] B a) (hu:SlB B q1 c1 3 ZkG x.users) (hf:SlB B q2 c2 5 ZeD x.folders) (hi:SlB B q3 c3 4 ZhO x.queue.items) :∃code,Tryz.f3.body=some code∧wpS (pj (ZnT Tryz.prog)) 133 code (Zfy (pj (ZnT Tryz.prog)) [.tmp 12] (fun v B' Ls=>v = .bool true)) (Zdf [.agg #[str x.domain,.slice q1 x.users.length c1,.slice q2 x.folders.length c2,.int .i64 x.queue.next,.slice q3 x.queue.items.length c3],str w,str o,str n,str u,.int .i64 r] 0) [] B []:=by
 have hJ:=Zln Tryz.prog
 refine ⟨_,rfl,(Za (xBx [_,_,_,_,_] (h:=fun b1=>xA (h:=tL1 (Zc (Za (xM (h:=xVs Tryz.underlying9 (h:=Zdx (h:=Zb rfl (fun g1=>?_) (fun g1=>?_)))))))))))⟩
 try simp only [sQ,ne_eq] at g1
 refine Za (xA (h:=Zd (Zl ?_)))
 exact eR t1 rfl
 try simp only [sQ,ne_eq] at g1
 refine wSk (Zc (Za (xM (h:=xVs Tryz.underlying9 (h:=Zdx (h:=Zb rfl (fun g2=>?_) (fun g2=>?_)))))))
 try simp only [sQ,ne_eq] at g2
 refine Za (xA (h:=Zd (Zl ?_)))
 exact eR t1 rfl
 try simp only [sQ,ne_eq] at g2
 refine wSk (Zc (Za (xM (h:=xVs Tryz.underlying9 (h:=Zdx (h:=Zb rfl (fun g3=>?_) (fun g3=>?_)))))))
 try simp only [sQ,ne_eq] at g3
 refine Za (xA (h:=Zd (Zl ?_)))
 exact eR t1 rfl
 try simp only [sQ,ne_eq] at g3
 refine wSk (Zc (Za (xM (h:=xVs Tryz.underlying9 (h:=Zdx (h:=Zb rfl (fun g4=>?_) (fun g4=>?_)))))))
 try simp only [sQ,ne_eq] at g4
 refine Za (xA (h:=Zd (Zl ?_)))
 exact eR t1 rfl
 try simp only [sQ,ne_eq] at g4
 refine wSk (Za (xA (h:=Za (xL [_,_,_,_,_] ZuP 0 (h:=xM (h:=xR en5 rfl (ZqI _ _ _ _ _ _ x om 1048576 om om _ hu hf hi) (h:=?_)))))))
 refine xA (h:=Zc (Za (xM (h:=ZE (h:=Zb rfl (fun g5=>?_) (fun g5=>?_))))))
 try simp only [sQ,ne_eq] at g5
 refine Za (xA (h:=Zd (Zl ?_)))
 exact eR t1 rfl
 try simp only [sQ,ne_eq] at g5
 have hsz:=(Zcy oz g5).2
 replace hsz:Zdp x≤1048576:=by omega
 have hsz2:=Zph hsz
 have hkh:=Zwa hsz
 replace hu:=ZkQ hu hsz2.2.1
 replace hf:=Zi8 hf hsz2.2.2.1
 replace hi:=Zlo hi hsz2.2.2.2
 have hun:=hu.len
 have hfn:=hf.len
 have hin:=hi.len
 obtain ⟨hka,hkb,hkc,hkd⟩:=Zto (x:=x) (b:=w) (o:=o) (n:=n) (u:=u) (r:=r)
 refine wSk (Za (xL [_,_,_,_,_] ZuP 0 (h:=xC en7 rfl (ZgM _ _ _ _ _ _ x _ hu hf hi om2) (h:=?_))))
 rintro _ B3 _ hle3 ⟨q3,c3,l3,q3b,c3b,l3b,q3c,c3c,l3c,rfl,rfl,rfl,hv3,hv3b,hv3c⟩
 refine Zsh 1 rfl hv3 Zr.any om (fun B4 hle4 hr4=>?_)
 replace hu:=hu.mono Zr.mono hle4
 replace hf:=hf.mono Zs.mono hle4
 replace hi:=hi.mono ZK.mono hle4
 replace hE:=hE.mono hle4
 have hr4n:=hr4.len
 refine Zmh 2 rfl hv3b Z1.known Zs.mono om (fun B5 hle5 hr5=>?_)
 replace hu:=hu.mono Zr.mono hle5
 replace hf:=hf.mono Zs.mono hle5
 replace hi:=hi.mono ZK.mono hle5
 replace hr4:=hr4.mono Zr.mono hle5
 replace hE:=hE.mono hle5
 have hr5n:=hr5.len
 refine Zmh 3 rfl hv3c Za8.known ZK.mono om (fun B6 hle6 hr6=>?_)
 replace hu:=hu.mono Zr.mono hle6
 replace hf:=hf.mono Zs.mono hle6
 replace hi:=hi.mono ZK.mono hle6
 replace hr4:=hr4.mono Zr.mono hle6
 replace hr5:=hr5.mono Zs.mono hle6
 replace hE:=hE.mono hle6
 have hr6n:=hr6.len
 refine xM (h:=xM (h:=xM (h:=xM (h:=xM (h:=xQ en6 rfl (Zk2 _ _ _ _ _ _ x w o n u r om2 om2 om2 om2 om2 _ hr4 hr5 hr6) (h:=?_))))))
 intro v7 B7 hle7
 rintro ⟨p17,d17,p27,d27,p37,d37,rfl,hu7,hf7,hi7,hd7⟩
 replace hu:=hu.mono Zr.mono hle7
 replace hf:=hf.mono Zs.mono hle7
 replace hi:=hi.mono ZK.mono hle7
 replace hE:=hE.mono hle7
 have hu7n:=hu7.len
 have hf7n:=hf7.len
 have hi7n:=hi7.len
 refine xM (h:=xE (h:=xE (h:=xAl [_,_,_,_,_] Zcx (h:=fun b8=>xS [_,_,_,_,_] 4 [_,_,_,_,_] ZdA (h:=xA (h:=tL5 (Za (xL [_,_,_,_,_] ZuP 0 (h:=xC en7 rfl (ZgM _ _ _ _ _ _ x _ hu hf hi om2) (h:=?_))))))))))
 rintro _ B9 _ hle9 ⟨q9,c9,l9,q9b,c9b,l9b,q9c,c9c,l9c,rfl,rfl,rfl,hv9,hv9b,hv9c⟩
 refine xAl [_,_,_,_,_] Zcx (h:=fun b10=>xS [_,_,_,_,_] 8 [_,_,_,_,_] ZdA (h:=tL9 (Za (xL [_,_,_,_,_] ZcN 8 (h:=xM (h:=xM (h:=xM (h:=xM (h:=xM (h:=xK [5,6,7] rfl en8 rfl (Zv.borrowK 3 fun hm11=>Zid hJ _ _ _ _ _ _ x w o n u r om2 om2 om2 om2 om2 a _ (hE.mono (Kn.le_add _ _)) (hv9.lendK Zr.any 0 rfl hm11 om) (hv9b.lendK Z1.known Zs.mono 1 rfl hm11 om) (hv9c.lendK Za8.known ZK.mono 2 rfl hm11 om)) (h:=?_)))))))))))
 rintro _ B11 _ hle11 ⟨BB11,_,rfl,hB11,_,hm11,_,q111,c111,q211,c211,q311,c311,l111,l211,l311,rfl,rfl,hu11,hf11,hi11⟩
 replace hu:=hu.mono Zr.mono hle11
 replace hf:=hf.mono Zs.mono hle11
 replace hi:=hi.mono ZK.mono hle11
 replace hu7:=hu7.mono Zr.mono hle11
 replace hf7:=hf7.mono Zs.mono hle11
 replace hi7:=hi7.mono ZK.mono hle11
 replace hv9:=hv9.mono Zr.mono hle11
 replace hE:=hE.mono hle11
 refine xM (h:=xE (h:=xE (h:=xAl [_,_,_,_,_] Zcx (h:=fun b12=>xS [_,_,_,_,_] 12 [_,_,_,_,_] ZdA (h:=xA (h:=Zyj (Zc (Za (xL [_,_,_,_,_] ZcN 12 (h:=xL [_,_,_,_,_] ZcN 4 (h:=Zk (Zgx [9,10,11] rfl rfl rfl rfl rfl en9 rfl (Z6.borrowL fun hm13=>ZgT _ _ _ _ _ _ _ _ _ _ _ _ ((Z3 x w o n u r).1) ((Z3 x w o n u r).1) _ (hu11.lendK Zr.any 0 rfl hm13 om) (hf11.lendK Z1.known Zs.mono 1 rfl hm13 om) (hi11.lendK Za8.known ZK.mono 2 rfl hm13 om) (hu7.mono Zr.mono (Kn.le_add _ _)) (hf7.mono Zs.mono (Kn.le_add _ _)) (hi7.mono ZK.mono (Kn.le_add _ _))) ?_))))))))))))
 refine xN (h:=xM (h:=Zt (d:=68) rfl (fun g6=>by simp at g6) (fun g6=>?_)))
 try simp only [sQ,ne_eq] at g6
 refine xM (h:=xM (h:=ZaO (h:=xF (h:=Zb rfl (fun g7=>by simp at g7) (fun g7=>?_)))))
 try simp only [sQ,ne_eq] at g7
 refine wSk (Zc (Zc (Z2 (keeps _ [0,8] _) mo kr ⟨Kn.le.refl _,Zbr.refl _ _⟩ (fun _ _=>?_))))
 refine aT 0 rfl (ZR fun D B L hI=>Zaj [_,_,_,_,_] rfl rfl ZcN rfl (ZcF 8 (hI.2.2.1.trans rfl) rfl rfl) r4) (h:=aT 1 rfl (ZR fun D B L hI=>Zaj [_,_,_,_,_] rfl rfl ZuP rfl (ZcF 0 (hI.2.1.trans rfl) rfl rfl) r4) (h:=ZL 2 kr rfl kr (ZaK rfl rfl en7 rfl (ZgM _ _ _ _ _ _ x _ hu hf hi om2) ?_)))
 rintro _ B14 _ hle14 ⟨q14,c14,l14,q14b,c14b,l14b,q14c,c14c,l14c,rfl,rfl,rfl,hv14,hv14b,hv14c⟩
 refine ⟨⟨Kn.le.refl _,t2⟩,(Zvt 13 rfl hv14 Zr.any om (fun B' hle'=>⟨hle',t2⟩) (fun B15 hle15 hr15=>?_))⟩
 replace hu:=hu.mono Zr.mono hle15
 replace hf:=hf.mono Zs.mono hle15
 replace hi:=hi.mono ZK.mono hle15
 replace hu7:=hu7.mono Zr.mono hle15
 replace hf7:=hf7.mono Zs.mono hle15
 replace hi7:=hi7.mono ZK.mono hle15
 replace hv9:=hv9.mono Zr.mono hle15
 replace hu11:=hu11.mono Zr.mono hle15
 replace hE:=hE.mono hle15
 have hr15n:=hr15.len
 refine ZsC 14 rfl hv14b Z1.known Zs.mono om (fun B' hle'=>⟨hle15.trans hle',t2⟩) (fun B16 hle16 hr16=>?_)
 replace hu:=hu.mono Zr.mono hle16
 replace hf:=hf.mono Zs.mono hle16
 replace hi:=hi.mono ZK.mono hle16
 replace hr15:=hr15.mono Zr.mono hle16
 replace hu7:=hu7.mono Zr.mono hle16
 replace hf7:=hf7.mono Zs.mono hle16
 replace hi7:=hi7.mono ZK.mono hle16
 replace hv9:=hv9.mono Zr.mono hle16
 replace hu11:=hu11.mono Zr.mono hle16
 replace hE:=hE.mono hle16
 have hr16n:=hr16.len
 refine ZsC 15 rfl hv14c Za8.known ZK.mono om (fun B' hle'=>⟨(hle15.trans hle16).trans hle',t2⟩) (fun B17 hle17 hr17=>?_)
 replace hu:=hu.mono Zr.mono hle17
 replace hf:=hf.mono Zs.mono hle17
 replace hi:=hi.mono ZK.mono hle17
 replace hr15:=hr15.mono Zr.mono hle17
 replace hr16:=hr16.mono Zs.mono hle17
 replace hu7:=hu7.mono Zr.mono hle17
 replace hf7:=hf7.mono Zs.mono hle17
 replace hi7:=hi7.mono ZK.mono hle17
 replace hv9:=hv9.mono Zr.mono hle17
 replace hu11:=hu11.mono Zr.mono hle17
 replace hE:=hE.mono hle17
 have hr17n:=hr17.len
 refine ZL 3 kr rfl kr (Zgx [5,6,7] rfl rfl rfl rfl rfl en9 rfl (Z6.borrowL fun hm18=>ZgT _ _ _ _ _ _ _ _ _ _ _ _ x x _ (hv9.lendK Zr.any 0 rfl hm18 om) (hv9b.lendK Z1.known Zs.mono 1 rfl hm18 om) (hv9c.lendK Za8.known ZK.mono 2 rfl hm18 om) (hr15.mono Zr.mono (Kn.le_add _ _)) (hr16.mono Zs.mono (Kn.le_add _ _)) (hr17.mono ZK.mono (Kn.le_add _ _))) ?_)
 refine ⟨⟨((hle15.trans hle16).trans hle17),t2⟩,(aN 4 rfl (h:=Zx kr kr ?_))⟩
 refine Zo (ZnU [_,_,_,_,_,_,_,_,_,_,_,_,_,_,_,_] rfl (Zb rfl (fun g8=>by simp at g8) (fun g8=>?_)))
 try simp only [sQ,ne_eq] at g8
 refine wSk (Za (xA (h:=Za (xL [_,_,_,_,_] ZcN 8 (h:=xM (h:=xK [5,6,7] rfl Zyd rfl (Zh8 _ _ _ _ _ _ x _ _ _ 1 oa oz oz oz _ (hv9.anyK Zr.any) hv9b hv9c) (h:=?_)))))))
 rintro _ B19 _ hle19 ⟨rfl,l19a,l19b,l19c,rfl,rfl,hs19a,hs19b,hs19c⟩
 refine xA (h:=ZnU [_,_,_,_,_,_,_,_,_,_,_,_,_,_,_,_] rfl (Zc (Za (xM (h:=ZE (h:=xM (h:=Zt (d:=83) rfl (fun g9=>by first | omega | (simp at g9;done) | (simp at g9;omega)) (fun g9=>?_))))))))
 try simp only [sQ,ne_eq] at g9
 refine xL [_,_,_,_,_] ZcN 12 (h:=xL [_,_,_,_,_] ZcN 4 (h:=Zk (Zgx [9,10,11] rfl rfl rfl rfl rfl en9 rfl (Z6.borrowL fun hm20=>ZgT _ _ _ _ _ _ _ _ _ _ _ _ ((Z3 x w o n u r).1) ((Z3 x w o n u r).1) _ (hu11.lendK Zr.any 0 rfl hm20 om) (hf11.lendK Z1.known Zs.mono 1 rfl hm20 om) (hi11.lendK Za8.known ZK.mono 2 rfl hm20 om) (hu7.mono Zr.mono (Kn.le_add _ _)) (hf7.mono Zs.mono (Kn.le_add _ _)) (hi7.mono ZK.mono (Kn.le_add _ _))) ?_)))
 refine xN (h:=xF (h:=xM (h:=Zt (d:=89) rfl (fun ga=>by simp at ga) (fun ga=>?_))))
 try simp only [sQ,ne_eq] at ga
 refine xM (h:=xM (h:=ZaO (h:=xF (h:=Zb rfl (fun gb=>by simp at gb) (fun gb=>?_)))))
 try simp only [sQ,ne_eq] at gb
 refine wSk (Za (xA (h:=Za (xL [_,_,_,_,_] ZcN 12 (h:=xM (h:=xK [9,10,11] rfl Zyd rfl (Zh8 _ _ _ _ _ _ ((Z3 x w o n u r).1) _ _ _ 1 oa oz oz oz _ (hu11.anyK Zr.any) hf11 hi11) (h:=?_)))))))
 rintro _ B21 _ hle21 ⟨rfl,l21a,l21b,l21c,rfl,rfl,hs21a,hs21b,hs21c⟩
 refine xA (h:=ZnU [_,_,_,_,_,_,_,_,_,_,_,_,_,_,_,_] rfl (Za (xA (h:=Za (xL [_,_,_,_,_] ZcN 12 (h:=xM (h:=Zk (Zgx [9,10,11] rfl rfl rfl rfl rfl Zyc rfl (Z6.borrowL fun hm22=>Zie _ _ _ _ _ _ (Z3 x w o n u r).1 1 oa _ (hs21a.lendK Zr.any 0 rfl hm22 (by simp only [Zao,Zaz,Zbf,Za5,ZdZ];omega)) (hs21b.lendK Z1.known Zs.mono 1 rfl hm22 (by simp only [Zao,Zaz,Zbf,Za5,ZdZ];omega)) (hs21c.lendK Za8.known ZK.mono 2 rfl hm22 (by simp only [Zao,Zaz,Zbf,Za5,ZdZ];omega))) ?_))))))))
 refine xA (h:=Zc (Za (xM (h:=ZE (h:=Zb rfl (fun gc=>by first | omega | (simp at gc;done) | (simp at gc;omega)) (fun gc=>?_))))))
 try simp only [sQ,ne_eq] at gc
 refine wSk (Zc (Za (xM (h:=xM (h:=ZaO (h:=Zb rfl (fun gd=>by simp at gd) (fun gd=>?_)))))))
 try simp only [sQ,ne_eq] at gd
 refine wSk (Za (xL [_,_,_,_,_] ZuP 0 (h:=xC en7 rfl (ZgM _ _ _ _ _ _ x _ hu hf hi om2) (h:=?_))))
 rintro _ B23 _ hle23 ⟨q23,c23,l23,q23b,c23b,l23b,q23c,c23c,l23c,rfl,rfl,rfl,hv23,hv23b,hv23c⟩
 refine Zsh 16 rfl hv23 Zr.any om (fun B24 hle24 hr24=>?_)
 replace hu7:=hu7.mono Zr.mono hle24
 replace hf7:=hf7.mono Zs.mono hle24
 replace hi7:=hi7.mono ZK.mono hle24
 replace hs21a:=hs21a.mono Zr.mono hle24
 replace hE:=hE.mono hle24
 have hr24n:=hr24.len
 refine Zmh 17 rfl hv23b Z1.known Zs.mono om (fun B25 hle25 hr25=>?_)
 replace hr24:=hr24.mono Zr.mono hle25
 replace hu7:=hu7.mono Zr.mono hle25
 replace hf7:=hf7.mono Zs.mono hle25
 replace hi7:=hi7.mono ZK.mono hle25
 replace hs21a:=hs21a.mono Zr.mono hle25
 replace hE:=hE.mono hle25
 have hr25n:=hr25.len
 refine Zmh 18 rfl hv23c Za8.known ZK.mono om (fun B26 hle26 hr26=>?_)
 replace hr24:=hr24.mono Zr.mono hle26
 replace hr25:=hr25.mono Zs.mono hle26
 replace hu7:=hu7.mono Zr.mono hle26
 replace hf7:=hf7.mono Zs.mono hle26
 replace hi7:=hi7.mono ZK.mono hle26
 replace hs21a:=hs21a.mono Zr.mono hle26
 replace hE:=hE.mono hle26
 have hr26n:=hr26.len
 refine xM (h:=xM (h:=xM (h:=xM (h:=xM (h:=xC en8 rfl (Zid hJ _ _ _ _ _ _ x w o n u r om2 om2 om2 om2 om2 a _ hE hr24 hr25 hr26) (h:=?_))))))
 rintro _ B27 _ hle27 ⟨q127,c127,q227,c227,q327,c327,l127,l227,l327,rfl,rfl,hu27,hf27,hi27⟩
 replace hu7:=hu7.mono Zr.mono hle27
 replace hf7:=hf7.mono Zs.mono hle27
 replace hi7:=hi7.mono ZK.mono hle27
 replace hs21a:=hs21a.mono Zr.mono hle27
 refine xM (h:=xE (h:=xE (h:=xAl [_,_,_,_,_] Zcx (h:=fun b28=>xS [_,_,_,_,_] 22 [_,_,_,_,_] ZdA (h:=xA (h:=ZnU [_,_,_,_,_,_,_,_,_,_,_,_,_,_,_,_,_,_,_,_,_,_,_] rfl (Zc (Za (xL [_,_,_,_,_] ZcN 22 (h:=xL [_,_,_,_,_] ZcN 4 (h:=Zk (Zgx [19,20,21] rfl rfl rfl rfl rfl en9 rfl (Z6.borrowL fun hm29=>ZgT _ _ _ _ _ _ _ _ _ _ _ _ ((Z3 x w o n u r).1) ((Z3 x w o n u r).1) _ (hu27.lendK Zr.any 0 rfl hm29 om) (hf27.lendK Z1.known Zs.mono 1 rfl hm29 om) (hi27.lendK Za8.known ZK.mono 2 rfl hm29 om) (hu7.mono Zr.mono (Kn.le_add _ _)) (hf7.mono Zs.mono (Kn.le_add _ _)) (hi7.mono ZK.mono (Kn.le_add _ _))) ?_))))))))))))
 refine xN (h:=xM (h:=Zt (d:=120) rfl (fun ge=>by simp at ge) (fun ge=>?_)))
 try simp only [sQ,ne_eq] at ge
 refine xM (h:=xM (h:=ZaO (h:=xF (h:=Zb rfl (fun gf=>by simp at gf) (fun gf=>?_)))))
 try simp only [sQ,ne_eq] at gf
 refine wSk (Za (xA (h:=Za (xL [_,_,_,_,_] ZcN 12 (h:=xM (h:=Zk (Zgx [9,10,11] rfl rfl rfl rfl rfl Zyc rfl (Z6.borrowL fun hm30=>Zie _ _ _ _ _ _ (Z3 x w o n u r).1 1 oa _ (hs21a.lendK Zr.any 0 rfl hm30 (by simp only [Zao,Zaz,Zbf,Za5,ZdZ];omega)) (hs21b.lendK Z1.known Zs.mono 1 rfl hm30 (by simp only [Zao,Zaz,Zbf,Za5,ZdZ];omega)) (hs21c.lendK Za8.known ZK.mono 2 rfl hm30 (by simp only [Zao,Zaz,Zbf,Za5,ZdZ];omega))) ?_)))))))
 refine xA (h:=Zc (Za (xM (h:=ZE (h:=Zb rfl (fun gg=>by first | omega | (simp at gg;done) | (simp at gg;omega)) (fun gg=>?_))))))
 try simp only [sQ,ne_eq] at gg
 refine wSk (Zc (Za (xM (h:=xM (h:=ZaO (h:=Zb rfl (fun gh=>by simp at gh) (fun gh=>?_)))))))
 try simp only [sQ,ne_eq] at gh
 refine wSk (Za (xA (h:=Zd ?_)))
 exact eR t1 rfl

end Go.Proofs.YtgbaglnnkikkgaaGreatDoor
