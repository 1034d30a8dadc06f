/-
  WHAT THE FUNCTIONS THAT THE LAWS REACH COMPUTE: each function's contract, proved off its printed body (the text is written by program). No condition beyond those that each theorem states.
-/
import Derived.Test.YtikanaeckjcelaaGreatDoorC1
namespace Go.Proofs.YtikanaeckjcelaaGreatDoor
open Go Go.BL
set_option linter.unusedVariables false
set_option linter.unusedSimpArgs false
set_option maxRecDepth 4000
set_option maxHeartbeats 6400000
variable {J : JoinT}
theorem ZgM (q q':Option Addr) (cp cp':Nat) (xs ys:List DFolder) (B:Kn) (ha:SlK B q cp 5 Ze xs) (hb:SlK B q' cp' 5 Ze ys):ZaM (pj J) 19 [.slice q xs.length cp,.slice q' ys.length cp'] B (.bool (decide (xs=ys))):=by
 refine cB 27 Tryz.func19 (h:=?_)
 have han:=ha.len
 have hbn:=hb.len
 refine Za (xA (h:=Zg (Za (xM (h:=xV Tryz.underlying24 (h:=xM (h:=xV Tryz.underlying24 (h:=Zbm (h:=Zb rfl (fun g1=>?_) (fun g1=>?_))))))))))
 try simp only [sQ,ne_eq] at g1
 refine Za (xA (h:=Zd (Zp ?_)))
 exact eR t1 ⟨Zh (ZjE g1),rfl,rfl⟩
 try simp only [sQ,ne_eq] at g1
 refine wSk (Zg (Za (xA (h:=Zl (ZO (α:=Nat) [0,1,10] (fun k=>[(5,.int .i64 k)]) [] (fun k=>[]) (fun k Bx=>Bx=B∧k≤xs.length∧xs.take k=ys.take k) (fun k=>xs.length - k) 0 t1 rfl (⟨rfl,Nat.zero_le _,by simp⟩) (fun k B1 hle1 hI=>?_))))))
 obtain ⟨rfl,hk,he⟩:=hI
 refine ZM [(0,_),(1,_),(5,_),(10,_)] [] t4 rfl (Zg (Za (xM (h:=xM (h:=xV Tryz.underlying24 (h:=Zaf (h:=Zb rfl (fun g2=>?_) (fun g2=>?_))))))))
 try simp only [sQ,ne_eq] at g2
 refine wSk (Zg (Zl (Zg (Z0 (same _ _) mo kr ⟨rfl,rfl⟩ (fun _ _=>?_)))))
 refine aM 0 rfl (h:=aM 1 rfl (h:=?_))
 obtain ⟨x,hx⟩:=Zag (xs:=xs) (i:=k) om
 obtain ⟨bb3,oo3,rfl⟩:=ha.base hx
 obtain ⟨_,⟨qg4,cg4,qm4,cm4,rfl,hg4,hm4,hb4,hb4b⟩,hc4⟩:=ha.elem hx
 have hg4n:=hg4.len
 have hm4n:=hm4.len
 have hm4s:=Z7 hm4
 refine aIx 2 rfl Tryz.underlying24 Zbq (h:=aT 3 rfl (Zar fun D=>ZT [_,_,_,_,_] rfl rfl ZhQ rfl (ZiO hc4 0 rfl rfl) r4) (h:=aM 4 rfl (h:=aM 5 rfl (h:=?_))))
 obtain ⟨y,hy⟩:=Zag (xs:=ys) (i:=k) om
 obtain ⟨bb6,oo6,rfl⟩:=hb.base hy
 obtain ⟨_,⟨qg7,cg7,qm7,cm7,rfl,hg7,hm7,hb7,hb7b⟩,hc7⟩:=hb.elem hy
 have hg7n:=hg7.len
 have hm7n:=hm7.len
 have hm7s:=Z7 hm7
 refine aIx 6 rfl Tryz.underlying24 Zbq (h:=aT 7 rfl (Zar fun D=>ZT [_,_,_,_,_] rfl rfl ZhQ rfl (ZiO hc7 0 rfl rfl) r4) (h:=aT 8 rfl (Zar fun D=>Zbc rfl rfl ZzU rfl (Zl7 _ _ _ _ _ _ _ _ x y _ hg4 hm4 hg7 hm7) r4) (h:=aN 9 rfl (h:=Zz kr kr ?_))))
 refine Zj (Zb rfl (fun g3=>?_) (fun g3=>?_))
 try simp only [sQ,ne_eq] at g3
 refine Za (xA (h:=Zd (ZH (Zp (Z3 (ZH (Zp ?_)))))))
 exact eR t1 ⟨Zh (Zg5 hx hy g3),rfl,rfl⟩
 try simp only [sQ,ne_eq] at g3
 refine ZL (ZA (Zj (Zc (xM (h:=xD (h:=xA (h:=?_)))))))
 exact ZD (k+1) [] so2 ⟨rfl,oz,Zcw hx hy g3 he⟩ t4 rfl
 try simp only [sQ,ne_eq] at g2
 refine ZS (Zae (ZX (ZI (Zj (Za (xA (h:=Zd ?_)))))))
 exact eR t1 ⟨Zh (eqT oz oz he),rfl,rfl⟩

theorem Zcx (qa1 qb1 qc1:Option Addr) (ca1 cb1 cc1:Nat) (qa2 qb2 qc2:Option Addr) (ca2 cb2 cc2:Nat) (a b:DHost) (B:Kn) (hu1:SlK B qa1 ca1 3 Zs a.users) (hf1:SlK B qb1 cb1 5 Ze a.folders) (hi1:SlK B qc1 cc1 4 Zw a.queue.items) (hu2:SlK B qa2 ca2 3 Zs b.users) (hf2:SlK B qb2 cb2 5 Ze b.folders) (hi2:SlK B qc2 cc2 4 Zw b.queue.items):ZaM (pj J) 10 [.agg #[str a.domain,.slice qa1 a.users.length ca1,.slice qb1 a.folders.length cb1,.int .i64 a.queue.next,.slice qc1 a.queue.items.length cc1],.agg #[str b.domain,.slice qa2 b.users.length ca2,.slice qb2 b.folders.length cb2,.int .i64 b.queue.next,.slice qc2 b.queue.items.length cc2]] B (.bool (decide (a=b))):=by
 refine cB 31 Tryz.func10 (h:=?_)
 refine Za (xBx [_,_,_,_,_] (h:=fun b1=>xBx [_,_,_,_,_] (h:=fun b2=>xA (h:=tL2 (Za (xW Zju (h:=x1 lk9 0 (h:=xW Zju (h:=x1 lk9 1 (h:=ZdG (h:=xM (h:=Zo (d:=10) rfl (fun g1=>?_) (fun g1=>?_)))))))))))))
 refine xW ZbS (h:=x1 Zi1 0 (h:=xW ZbS (h:=x1 Zi1 1 (h:=xR ZzZ rfl (Zni _ _ _ _ _ _ _ hu1 hu2) (h:=xT (h:=xM (h:=Zo (d:=17) rfl (fun g2=>?_) (fun g2=>?_))))))))
 refine xW Z4 (h:=x1 ZcJ 0 (h:=xW Z4 (h:=x1 ZcJ 1 (h:=xR Zze rfl (ZgM _ _ _ _ _ _ _ hf1 hf2) (h:=xT (h:=xM (h:=Zo (d:=24) rfl (fun g3=>?_) (fun g3=>?_))))))))
 refine xW ZaU (h:=xL [_,_] Zb4 0 (h:=xW ZaU (h:=xL [_,_] Zb4 1 (h:=xR Zyk rfl (Zge _ _ a.queue _ _ b.queue _ hi1 hi2) (h:=xT (h:=xA (h:=Zd ?_)))))))
 exact eR t1 ⟨Zh (by cases a;cases b;simp_all),rfl,rfl⟩
 refine xP (h:=xP (h:=xP (h:=xP (h:=xP (h:=xF (h:=xA (h:=Zd ?_)))))))
 exact eR t1 ⟨Zh (by cases a;cases b;simp_all),rfl,rfl⟩
 refine xP (h:=xP (h:=xP (h:=xP (h:=xP (h:=xF (h:=xM (h:=xP (h:=xP (h:=xP (h:=xP (h:=xP (h:=xF (h:=xA (h:=Zd ?_))))))))))))))
 exact eR t1 ⟨Zh (by cases a;cases b;simp_all),rfl,rfl⟩
 refine xP (h:=xP (h:=xP (h:=xP (h:=xP (h:=xF (h:=xM (h:=xP (h:=xP (h:=xP (h:=xP (h:=xP (h:=xF (h:=xM (h:=xP (h:=xP (h:=xP (h:=xP (h:=xP (h:=xF (h:=xA (h:=Zd ?_)))))))))))))))))))))
 exact eR t1 ⟨Zh (by cases a;cases b;simp_all),rfl,rfl⟩

theorem Zpt (b:Nat) (q:Option Addr) (m cp p:Nat) (hp:p≤850000000000) (hm:m≤2000) (B:Kn) (hbm:Zap B q m):Zv (pj J) 104 [ptr ⟨b,0,none⟩] B [rd b q m cp p] (fun v B' Ls=>∃q' cp' us p',v = .slice q' us.length cp'∧SlK B' q' cp' 3 Zs us∧us.length≤5∧p'≤p+10∧Ls=[rd b q m cp p']):=by
 refine cB 61 Tryz.func104 (h:=?_)
 refine Za (xA (h:=Za (xB [(0,_),(1,_),(2,_)] [_,_,_] [_,_,_] ZsO Zgy (h:=xM (h:=xX 0 rfl Za7 rfl (ZK _ _ _ _ _ _ oz oz oz hm _ hbm) (h:=?_))))))
 rintro _ _ ⟨ru,rfl,rua,rub,rfl⟩
 refine xD (h:=xB [(0,_),(1,_),(2,_)] [_,_,_] [_,_,_] ZsO Zgy (h:=xM (h:=xX 0 rfl Za7 rfl (ZK _ _ _ _ _ _ oz oz oz hm _ hbm) (h:=?_))))
 rintro _ _ ⟨ro,rfl,roa,rob,rfl⟩
 refine xD (h:=xB [(0,_),(1,_),(2,_)] [_,_,_] [_,_,_] ZsO Zgy (h:=xBs [(0,_),(1,_),(2,_)] [_,_,_,_,_,_,_,_,_] Tryz.underlying23 Ze3 Zgy (h:=fun b3=>xA (h:=tL2 ?_))))
 obtain ⟨us0,hn0,hv0⟩ :∃us0:List DUser,us0.length=3∧ZY B (Zah b3 [str [97,109,121],str [97,49],int 60,str [98,111,98],str [98,50],int (20+ru),str [99,121,100],str [99,51],int (100+ro)] 53) (some ⟨b3,0,none⟩) 3 53 3 Zs us0:=⟨[⟨[97,109,121],[97,49],60⟩,⟨[98,111,98],[98,50],20+ru⟩,⟨[99,121,100],[99,51],100+ro⟩],rfl,ZY.lit (rows:=[[str [97,109,121],str [97,49],int 60],[str [98,111,98],str [98,50],int (20+ru)],[str [99,121,100],str [99,51],int (100+ro)]]) (.cons ⟨rfl,by simp,by simp⟩ (.cons ⟨rfl,by simp,by simp⟩ (.cons ⟨rfl,by simp,by simp⟩ .nil))) (by intro row hr;simp only [List.mem_cons,List.not_mem_nil,or_false] at hr;rcases hr with rfl | rfl | rfl <;> rfl)⟩
 refine Za (xM (h:=xM (h:=xX 0 rfl Za7 rfl (ZK _ _ _ _ _ _ oz oz oz hm _ hbm) (h:=?_))))
 rintro _ _ ⟨ry,rfl,rya,ryb,rfl⟩
 refine xD (h:=Zn (ZeK rfl rfl Tryz.underlying23 Ze3 rfl (a:=0) (b:=(1+ry).toNat) rfl ⟨_,_,rfl,oz⟩ oz oz ?_))
 refine xA (h:=tL2 ?_)
 obtain ⟨us1,hn1,hv1⟩ :∃us1:List DUser,us1.length=(1+ry).toNat∧ZY B _ _ 3 53 3 Zs us1:=⟨us0.take (1+ry).toNat,by rw [List.length_take];omega,hv0.take oz⟩
 rw [hv0.slice0 (sz:=3),show (1+ry).toNat - 0=us1.length from by omega]
 refine Za (xM (h:=xM (h:=xV Tryz.underlying23 (h:=xX 0 rfl Za7 rfl (ZK _ _ _ _ _ _ oz oz oz hm _ hbm) (h:=?_)))))
 rintro _ _ ⟨rk,rfl,rka,rkb,rfl⟩
 refine xA (h:=tL2 (Zqi (α:=Gh DUser) [0,2,4] (fun g=>[(3,.slice g.a g.xs.length g.c)]) (fun g=>[rd b q m cp g.p,g.l]) (fun g Bx=>g.p≤p+10∧g.xs.length≤5∧ZY Bx g.l g.a g.c 53 3 Zs g.xs) ?_ (fun g B6 hle6 hF=>?_)))
 refine Za (xM (h:=xX 0 rfl Za7 rfl (ZK _ _ _ _ _ _ oz oz oz hm _ hbm) (h:=?_)))
 rintro _ _ ⟨rj,rfl,rja,rjb,rfl⟩
 refine tL2 (Zl (Za (ZE (h:=xA (h:=Zb rfl (fun g1=>?_) (fun g1=>?_))))))
 try simp only [sQ,ne_eq] at g1
 refine Zc (xM (h:=xM (h:=xM (h:=xX 0 rfl Zvm rfl (ZdN _ _ _ _ _ oz hm _ hbm) (h:=?_)))))
 rintro _ _ ⟨xs,rfl,hxs,rfl⟩
 obtain ⟨z,hz⟩:=ZeB (xs:=us1) (i:=rk) om om
 obtain ⟨bb10,_,hp10,⟨rfl,hb10,hb10b⟩,hw10,hc10⟩:=hv1.row hz
 refine xIp hp10 Tryz.underlying23 Ze3 (h:=xW Zdj (h:=Zn (ZeJ (k:=(rk).toNat) (off:=0) (⟨xs,z.pass,z.quota⟩) [_] 1 hv1 hp10 hz rfl rfl sz9 rfl rfl rfl rfl rfl rfl (by rintro _ ⟨rfl,e1,e2⟩;exact ⟨rfl,show xs.length≤2000000 by omega,e2⟩) (fun l11 hv11=>?_))))
 refine ZA ?_
 obtain ⟨us12,hn12,hv12⟩ :∃us12:List DUser,us12.length=us1.length∧ZY B l11 _ _ 53 3 Zs us12:=⟨_,by rw [List.length_set],hv11⟩
 rw [← hn12]
 exact ZJ ⟨0,((((((p+1)+1)+1)+1)+1)+2),l11,(some ⟨b3,0,none⟩),3,us12⟩ [0,1] ⟨so,by first | (simp only [];omega) | (simp;omega),hv12⟩ t4 rfl
 try simp only [sQ,ne_eq] at g1
 refine Za (ZE (h:=xA (h:=Zb rfl (fun g2=>?_) (fun g2=>?_))))
 try simp only [sQ,ne_eq] at g2
 refine Zc (xM (h:=xM (h:=xM (h:=xX 0 rfl Zvm rfl (ZdN _ _ _ _ _ oz hm _ hbm) (h:=?_)))))
 rintro _ _ ⟨xs,rfl,hxs,rfl⟩
 obtain ⟨z,hz⟩:=ZeB (xs:=us1) (i:=rk) om om
 obtain ⟨bb15,_,hp15,⟨rfl,hb15,hb15b⟩,hw15,hc15⟩:=hv1.row hz
 refine xIp hp15 Tryz.underlying23 Ze3 (h:=xW ZrA (h:=Zn (ZeJ (k:=(rk).toNat) (off:=1) (⟨z.name,xs,z.quota⟩) [_] 1 hv1 hp15 hz rfl rfl sz9 rfl rfl rfl rfl rfl rfl (by rintro _ ⟨rfl,e1,e2⟩;exact ⟨rfl,e1,show xs.length≤2000000 by omega⟩) (fun l16 hv16=>?_))))
 refine ZA ?_
 obtain ⟨us17,hn17,hv17⟩ :∃us17:List DUser,us17.length=us1.length∧ZY B l16 _ _ 53 3 Zs us17:=⟨_,by rw [List.length_set],hv16⟩
 rw [← hn17]
 exact ZJ ⟨0,((((((p+1)+1)+1)+1)+1)+2),l16,(some ⟨b3,0,none⟩),3,us17⟩ [0,1] ⟨so,by first | (simp only [];omega) | (simp;omega),hv17⟩ t4 rfl
 try simp only [sQ,ne_eq] at g2
 refine Za (ZE (h:=xA (h:=Zb rfl (fun g3=>?_) (fun g3=>?_))))
 try simp only [sQ,ne_eq] at g3
 refine Zc (xM (h:=xM (h:=xBs [(0,_),(1,_),(2,_),(3,_)] [_,_,_,_] Tryz.underlying185 sz3 zo3 (h:=fun b18=>Z1 2 rfl (ZY.ints (ls:=([(-1),0,200,201]:List Int))) Zcf.mono om3 (fun B19 hle19 hr19=>?_)))))
 replace hv1:=hv1.mono Zs.mono hle19
 replace hbm:=hbm.mono hle19
 have hr19n:=hr19.len
 refine xM (h:=xX 0 rfl Za7 rfl (ZK _ _ _ _ _ _ oz oz oz hm _ hbm) (h:=?_))
 rintro _ _ ⟨rs,rfl,rsa,rsb,rfl⟩
 obtain ⟨e,he⟩:=ZeB (xs:=([(-1),0,200,201]:List Int)) (i:=rs) om om
 obtain ⟨_,rfl,hc22⟩:=hr19.elem he
 refine xIx Tryz.underlying185 sz3 (h:=y1 lk3 hc22 0 (h:=?_))
 obtain ⟨z,hz⟩:=ZeB (xs:=us1) (i:=rk) om om
 obtain ⟨bb24,_,hp24,⟨rfl,hb24,hb24b⟩,hw24,hc24⟩:=hv1.row hz
 refine xIp hp24 Tryz.underlying23 Ze3 (h:=xW ZhZ (h:=Zn (ZeJ (k:=(rk).toNat) (off:=2) (⟨z.name,z.pass,e⟩) [_] 1 hv1 hp24 hz rfl rfl sz3 rfl rfl rfl rfl rfl rfl (by rintro _ ⟨rfl,e1,e2⟩;exact ⟨rfl,e1,e2⟩) (fun l25 hv25=>?_))))
 refine ZA ?_
 obtain ⟨us26,hn26,hv26⟩ :∃us26:List DUser,us26.length=us1.length∧ZY B19 l25 _ _ 53 3 Zs us26:=⟨_,by rw [List.length_set],hv25⟩
 rw [← hn26]
 exact ZJ ⟨0,((((((p+1)+1)+1)+1)+1)+1),l25,(some ⟨b3,0,none⟩),3,us26⟩ [0,1] ⟨so,by first | (simp only [];omega) | (simp;omega),hv26⟩ t4 rfl
 try simp only [sQ,ne_eq] at g3
 refine Za (ZE (h:=xA (h:=Zb rfl (fun g4=>?_) (fun g4=>?_))))
 try simp only [sQ,ne_eq] at g4
 refine Zc (xM (h:=xB [(0,_),(1,_),(2,_)] [_,_,_] [_,_,_] ZsO Zgy (h:=xB [(0,_),(1,_),(2,_)] [_,_,_] [_,_,_] ZsO Zgy (h:=xBs [(0,_),(1,_)] [_,_,_,_,_,_] Tryz.underlying23 Ze3 Zgy (h:=fun b27=>Zn (Zn8 (rows:=[[str [100,97,110],str [100,52],.int .i64 9],[str [101,118,101],str [101,53],.int .i64 9]]) (ys:=[⟨[100,97,110],[100,52],9⟩,⟨[101,118,101],[101,53],9⟩]) (R:=Zs) 1 rfl hv1 rfl rfl rfl ZoJ Zod rfl rfl rfl (ZaQ.box 2 rfl) rfl (by intro row hr;simp only [List.mem_cons,List.not_mem_nil,or_false] at hr;rcases hr with rfl | rfl <;> rfl) (.cons (⟨rfl,by first | assumption | omega | (simp;done) | (simp;done) | (simp;omega),by first | assumption | omega | (simp;done) | (simp;done) | (simp;omega)⟩) (.cons (⟨rfl,by first | assumption | omega | (simp;done) | (simp;done) | (simp;done) | (simp;omega),by first | assumption | omega | (simp;done) | (simp;done) | (simp;done) | (simp;omega)⟩) .nil)) om (fun l28 p28 c28 hv28=>?_)))))))
 refine xA (h:=ZA ?_)
 exact ZJ ⟨0,(((((p+1)+1)+1)+1)+1),l28,p28,c28,(us1 ++ [⟨[100,97,110],[100,52],9⟩,⟨[101,118,101],[101,53],9⟩])⟩ [0,1] ⟨by simp only [];omega,by first | (simp only [];omega) | (simp;omega),hv28⟩ ⟨rfl,rfl,rfl,rfl,trivial⟩ rfl
 try simp only [sQ,ne_eq] at g4
 refine ZL (ZA ?_)
 exact ZJ ⟨0,(((((p+1)+1)+1)+1)+1),_,(some ⟨b3,0,none⟩),3,us1⟩ [0,1] ⟨so,by first | (simp only [];omega) | (simp;omega),hv1⟩ t4 rfl
 obtain ⟨hgp,hgn,hw⟩:=hF
 refine ZM [(0,_),(2,_),(3,_),(4,_)] [_,_] t4 rfl (Zd0 1 rfl hw Zs.mono om3 (fun B29 hle29 hr29=>?_))
 have hr29n:=hr29.len
 refine Za (xM (h:=xA (h:=tL2 (Zd ?_))))
 exact eN [0] rfl t1 ⟨_,_,_,_,rfl,hr29,oz,oz,rfl⟩

theorem Zhy (q:Option Addr) (cp:Nat) (x:DBox) (B:Kn) (hm:SlK B q cp 3 ZN x.mail):Zv (pj J) 45 [.agg #[.int .i64 x.next,.slice q x.mail.length cp]] B [] (fun v B' Ls=>B'=B∧∃l a c,Ls=[l]∧v = .agg #[.int .i64 x.next,.slice a x.mail.length c]∧ZY B l a c 97 3 ZN x.mail):=by
 refine cB 10 Tryz.func45 (h:=?_)
 have hxn:=hm.len
 refine Za (xBx [_,_] (h:=fun b1=>xAl [_,_] Ze6 (h:=fun b2=>tL2 (Zg (Z0 (keeps _ [0] _) mo kr ⟨Kn.le.refl _,Zad.refl _ _⟩ (fun _ _=>?_))))))
 refine aW 0 rfl ZbR (h:=aT 1 rfl (ZB fun D B L hI=>Zf rfl rfl lk3 rfl (atL 0 (hI.2.1.trans rfl) rfl rfl) r4) (h:=aW 3 rfl ZaP (h:=aT 4 rfl (ZB fun D B L hI=>Zf rfl rfl Zfl rfl (atL 0 (hI.2.1.trans rfl) rfl rfl) r4) (h:=Zq 2 kr rfl kr (Zu (parts:=[]) [] rfl rfl Tryz.underlying38 Zgx ZlB rfl rfl rfl rfl rfl (fun b3=>?_))))))
 refine ⟨⟨Kn.le.refl _,t1⟩,(Zq 5 kr rfl kr (ZaY (R:=ZN) 2 rfl (ZY.lit0 (R:=ZN)) rfl rfl rfl ZvO Zwn rfl rfl rfl hm.rows ZN.one rfl om (fun l4 p4 c4 hv4=>?_)))⟩
 refine ⟨⟨Kn.le.refl _,t1⟩,(aT 6 rfl (ZB fun D B L hI=>ZaG (parts:=[(0,_),(1,_)]) [_,_] [_,_] rfl rfl Zns Ze6 rfl rfl rfl r4) (h:=ZU 7 kr rfl kr kr kr (ZF [_,_] 1 [_,_] rfl rfl ZcE rfl rfl rfl rfl rfl rfl rfl rfl ?_)))⟩
 refine Zj (tL3 (Zd ?_))
 exact eN [2] rfl ⟨⟨_,rfl,.inr ⟨[_,_],ZbA,Z9 1 rfl rfl rfl,rfl⟩⟩,trivial⟩ ⟨rfl,_,_,_,rfl,rfl,hv4⟩

theorem Zg0 (qa qb:Option Addr) (ca cb:Nat) (x:DFolder) (B:Kn) (hg:SlK B qa ca 2 ZZ x.grants) (hm:SlK B qb cb 3 ZN x.mail):Zv (pj J) 42 [.agg #[str x.owner,str x.name,.slice qa x.grants.length ca,.int .i64 x.next,.slice qb x.mail.length cb]] B [] (fun v B' Ls=>B'=B∧∃l a c l' a' c',Ls=[l,l']∧v = .agg #[str x.owner,str x.name,.slice a x.grants.length c,.int .i64 x.next,.slice a' x.mail.length c']∧ZY B l a c 191 2 ZZ x.grants∧ZY B l' a' c' 97 3 ZN x.mail):=by
 refine cB 13 Tryz.func42 (h:=?_)
 have hgn:=hg.len
 have hmn:=hm.len
 refine Za (xBx [_,_,_,_,_] (h:=fun b1=>xAl [_,_,_,_,_] ZdF (h:=fun b2=>tL2 (Za (xBs [] [] Tryz.underlying37 ZbM ZdX (h:=fun b3=>xW Zea (h:=x1 Zs1 0 (h:=Zn (ZaY (R:=ZZ) 2 rfl (ZY.lit0 (R:=ZZ)) rfl rfl rfl ZrL ZqB rfl rfl rfl hg.rows ZZ.one rfl om (fun l4 p4 c4 hv4=>?_))))))))))
 refine xW Zea (h:=xS [_] 0 [_,_,_,_,_] Zwi (h:=tL3 (Za (xW ZbC (h:=xL [_,_] ZbA 0 (h:=xC ZxY rfl (Zhy _ _ (⟨x.next,x.mail⟩:DBox) _ hm) (h:=?_)))))))
 rintro _ B5 _ hle5 ⟨rfl,l5,a5,c5,rfl,rfl,hs5⟩
 refine xW ZbC (h:=xS [_,_] 0 [_,_,_,_,_] ZcE (h:=tL4 (Za (xL [_,_,_,_,_] ZhQ 0 (h:=xS [_,_,_,_,_] 1 [_,_,_,_,_] Zbq (h:=tL4 (Zd ?_)))))))
 exact eN [2,3] rfl ⟨⟨_,rfl,.inr ⟨[_,_,_,_,_],ZhQ,Z9 1 rfl rfl rfl,rfl⟩⟩,trivial⟩ ⟨rfl,_,_,_,_,_,_,rfl,rfl,hv4,hs5⟩

theorem ZhU (hJ:Joins Tryz.prog J) (q1 q2 q3:Option Addr) (c1 c2 c3:Nat) (x:DHost) (o n:Str) (ho:o.length≤2000000) (hn:n.length≤2000000) (hd:x.domain.length≤2000000) (B:Kn) (hu:SlK B q1 c1 3 Zs x.users) (hf:SlK B q2 c2 5 Ze x.folders) (hi:SlK B q3 c3 4 Zw x.queue.items):Zv (pj J) 12 [.agg #[str x.domain,.slice q1 x.users.length c1,.slice q2 x.folders.length c2,.int .i64 x.queue.next,.slice q3 x.queue.items.length c3],str o,str n] B [] (fun v B' Ls=>Ls=[]∧∃qa ca qb cb,v = .tuple #[.agg #[str (Zaw x o n).1.owner,str (Zaw x o n).1.name,.slice qa (Zaw x o n).1.grants.length ca,.int .i64 (Zaw x o n).1.next,.slice qb (Zaw x o n).1.mail.length cb],.bool (Zaw x o n).2]∧SlK B' qa ca 2 ZZ (Zaw x o n).1.grants∧SlK B' qb cb 3 ZN (Zaw x o n).1.mail):=by
 refine cB 25 Tryz.func12 (h:=?_)
 have hfn:=hf.len
 have hix:=ZcY (inF o n) x.folders
 refine Za (xBx [_,_,_,_,_] (h:=fun b1=>xAl [_,_,_,_,_] ZdF (h:=fun b2=>xA (h:=tL2 (Zm6 0 rfl (fun B3 hle3 hpm3=>?_))))))
 have hc3:=ZbY hpm3
 obtain ⟨hu,hf,hi⟩:=up3 hle3 hu hf hi
 refine Zg (Za (yL [_,_,_,_,_] ZW hc3 0 (h:=xQ Zyp rfl (Zgi hJ _ _ _ _ _ _ x om2 _ hu hf hi) (h:=?_))))
 intro v4 B4 hle4
 rintro rfl
 replace hf:=up1 hle4 hf
 replace hc3:=hc3.mono hle4
 refine xN (h:=tL2 (Zb rfl (fun g1=>?_) (fun g1=>?_)))
 try simp only [sQ,ne_eq] at g1
 rw [Zj2 (x:=x) (o:=o) (n:=n) (by simpa using g1)]
 refine Za (xB [] [_,_,_,_,_] [_,_,_,_,_] Zws ZdF (h:=xS [_,_,_,_,_] 1 [_,_,_,_,_] Zbq (h:=xA (h:=tL2 (Zd (Zp ?_))))))
 exact Zas .ret (.inl rfl) [_,_] [] rfl ⟨⟨_,rfl,.inr ⟨[_,_,_,_,_],ZhQ,Z9 1 rfl rfl rfl,rfl⟩⟩,rfl,trivial⟩ ⟨rfl,none,0,none,0,rfl,SlK.nil,SlK.nil⟩
 try simp only [sQ,ne_eq] at g1
 refine wSk (Za (xM (h:=xM (h:=xR ZwN rfl (ZmG _ _ _ _ _ _ _ _ x o n om2 om2 _ hc3 hf) (h:=?_)))))
 refine xA (h:=Zg (Za (xM (h:=Zaf (h:=Zb rfl (fun g2=>?_) (fun g2=>?_))))))
 try simp only [sQ,ne_eq] at g2
 rw [Zjl (x:=x) (o:=o) (n:=n) oz]
 refine Za (xB [] [_,_,_,_,_] [_,_,_,_,_] Zws ZdF (h:=xS [_,_,_,_,_] 1 [_,_,_,_,_] Zbq (h:=xA (h:=tL2 (Zd (Zp ?_))))))
 exact Zas .ret (.inl rfl) [_,_] [] rfl ⟨⟨_,rfl,.inr ⟨[_,_,_,_,_],ZhQ,Z9 1 rfl rfl rfl,rfl⟩⟩,rfl,trivial⟩ ⟨rfl,none,0,none,0,rfl,SlK.nil,SlK.nil⟩
 try simp only [sQ,ne_eq] at g2
 refine wSk (Za (xW Z4 (h:=y1 ZcJ hc3 2 (h:=xM (h:=?_)))))
 obtain ⟨w,hw⟩:=ZeB (xs:=x.folders) (i:=(ZaI (inF o n) x.folders)) om om
 obtain ⟨bb7,oo7,rfl⟩:=hf.base hw
 obtain ⟨_,⟨qg8,cg8,qm8,cm8,rfl,hg8,hm8,hb8,hb8b⟩,hc8⟩:=hf.elem hw
 have hg8n:=hg8.len
 have hm8n:=hm8.len
 have hm8s:=Z7 hm8
 refine xIx Tryz.underlying24 Zbq (h:=yL [_,_,_,_,_] ZhQ hc8 0 (h:=xC Zy9 rfl (Zg0 _ _ _ _ w _ hg8 hm8) (h:=?_)))
 rintro _ B9 _ hle9 ⟨rfl,l9,a9,c9,l9b,a9b,c9b,rfl,rfl,hs9,hs9b⟩
 refine Z1 2 rfl hs9 ZZ.mono om3 (fun B10 hle10 hr10=>?_)
 replace hs9b:=hs9b.mono ZN.mono hle10
 have hr10n:=hr10.len
 refine Z1 3 rfl hs9b ZN.mono om3 (fun B11 hle11 hr11=>?_)
 replace hr10:=up1 hle11 hr10
 have hr11n:=hr11.len
 refine xS [_,_,_,_,_] 1 [_,_,_,_,_] Zbq (h:=xA (h:=tL4 (Zd ?_)))
 exact Zas .ret (.inl rfl) [_,_] [] rfl ⟨⟨_,rfl,.inr ⟨[_,_,_,_,_],ZhQ,Z9 1 rfl rfl rfl,rfl⟩⟩,rfl,trivial⟩ (by rw [Zjk (x:=x) (o:=o) (n:=n) (by simpa using g1) oz hw];exact ⟨rfl,_,_,_,_,rfl,hr10,hr11⟩)

theorem ZqG (q:Option Addr) (cp:Nat) (d:Str) (us:List DUser) (hd:d.length≤2000000) (hl:us.length≤1100000) (B:Kn) (hu:SlK B q cp 3 Zs us):Zv (pj J) 108 [str d,.slice q us.length cp] B [] (fun v B' Ls=>Ls=[]∧∃q1 c1 q2 c2 q3 c3,v = .tuple #[.agg #[str (Zcu d us).1.domain,.slice q1 (Zcu d us).1.users.length c1,.slice q2 (Zcu d us).1.folders.length c2,.int .i64 (Zcu d us).1.queue.next,.slice q3 (Zcu d us).1.queue.items.length c3],.bool (Zcu d us).2]∧SlK B' q1 c1 3 Zs (Zcu d us).1.users∧SlK B' q2 c2 5 Ze (Zcu d us).1.folders∧SlK B' q3 c3 4 Zw (Zcu d us).1.queue.items):=by
 refine cB 41 Tryz.func108 (h:=?_)
 have hun:=hu.len
 refine Za (xAl [_,_,_,_,_] Za2 (h:=fun b1=>xA (h:=tL1 (Za (xM (h:=xBs [] [] Tryz.underlying23 Ze3 Zgy (h:=fun b2=>xM (h:=Zn (ZaY (R:=Zs) 1 rfl (ZY.lit0 (R:=Zs)) rfl rfl rfl ZoJ Zod rfl rfl rfl hu.rows Zs.one rfl om (fun l3 p3 c3 hv3=>?_))))))))))
 refine xBs [] [] Tryz.underlying24 Zbq ZdF (h:=fun b4=>xBs [] [] Tryz.underlying25 Zdf Zgw (h:=fun b5=>xB [(0,_),(1,_)] [_,_] [_,_] ZsP ZfL (h:=xB [(0,_),(1,_),(2,_),(3,_)] [_,_,_,_,_] [_,_,_,_,_] Zd6 Za2 (h:=xAl [_,_,_,_,_] Za2 (h:=fun b6=>xS [_,_,_,_,_] 4 [_,_,_,_,_] Zaq (h:=tL5 (Zg (Za (xA (h:=Zl (ZO (α:=Gh DFolder) [0,1,4,5,6] (fun g=>[(7,.int .i64 g.k)]) [2,4] (fun g=>[g.l,Zah b6 [str d,.slice p3 us.length c3,.slice g.a g.xs.length g.c,.int .i64 1,.slice (some ⟨b5,0,none⟩) 0 0] 29]) (fun g Bx=>g.k≤us.length∧g.xs=(us.take g.k).map (fun u=>Zk6 u.name)∧ZY Bx g.l g.a g.c 42 5 Ze g.xs) (fun g=>us.length - g.k) ⟨0,0,_,_,_,[]⟩ t1 rfl (⟨Nat.zero_le _,by simp,ZY.lit0⟩) (fun g B7 hle7 hI=>?_))))))))))))
 obtain ⟨hk,hx,hv⟩:=hI
 have hgl:g.xs.length≤us.length:=by rw [hx,List.length_map,List.length_take];omega
 replace hu:=up1 hle7 hu
 replace hv3:=hv3.mono Zs.mono hle7
 refine ZM [(0,_),(1,_),(4,_),(5,_),(6,_),(7,_)] [_,_,_,_,_] t6 rfl (Zg (Za (xM (h:=xM (h:=xV Tryz.underlying23 (h:=Zaf (h:=Zb rfl (fun g3=>?_) (fun g3=>?_))))))))
 try simp only [sQ,ne_eq] at g3
 refine wSk (Zg (Zl (Z0 (keeps _ [4] _) mo kr ⟨Kn.le.refl _,Zad.refl _ _⟩ (fun _ _=>?_))))
 refine aW 0 rfl Z4 (h:=aT 1 rfl (ZB fun D B L hI=>Zf rfl rfl ZcJ rfl (atL 4 (hI.2.1.trans rfl) rfl rfl) r4) (h:=aM 2 rfl (h:=aM 3 rfl (h:=?_))))
 obtain ⟨w,hw⟩:=Zag (xs:=us) (i:=g.k) om
 obtain ⟨bb9,oo9,rfl⟩:=hu.base hw
 obtain ⟨_,⟨rfl,hb10,hb10b⟩,hc10⟩:=hu.elem hw
 refine aIx 4 rfl Tryz.underlying23 Ze3 (h:=aW 5 rfl Zdj (h:=aT 6 rfl (ZB fun D B L hI=>Zf rfl rfl lk9 rfl ((hc10.mono hI.1) _ 0 _ rfl) r4) (h:=Zak [7,8] kr kr kr ⟨?_,?_⟩)))
 refine (Zu (parts:=[]) [] rfl rfl Tryz.underlying37 ZbM ZdX rfl rfl rfl rfl rfl (fun b11=>⟨⟨Kn.le.refl _,t1⟩,(ZaV 5 rfl (ZY.lit0 (R:=ZZ) (w:=2)) ZZ.mono om3 (fun B' hle'=>⟨hle',t1⟩) (fun B12 hle12 hr12=>?_))⟩))
 replace hv3:=hv3.mono Zs.mono hle12
 replace hv:=hv.mono Ze.mono hle12
 have hr12n:=hr12.len
 refine Zq 8 kr rfl kr (Zu (parts:=[]) [] rfl rfl Tryz.underlying38 Zgx ZlB rfl rfl rfl rfl rfl (fun b13=>?_))
 refine ⟨⟨hle12,t1⟩,(ZaV 6 rfl (ZY.lit0 (R:=ZN) (w:=3)) ZN.mono om3 (fun B' hle'=>⟨hle12.trans hle',t1⟩) (fun B14 hle14 hr14=>?_))⟩
 replace hr12:=up1 hle14 hr12
 replace hv3:=hv3.mono Zs.mono hle14
 replace hv:=hv.mono Ze.mono hle14
 have hr14n:=hr14.len
 refine aT 9 rfl (ZB fun D B L hI=>ZaG (parts:=[(0,_),(1,_)]) [_,_] [_,_] rfl rfl Zns Ze6 rfl rfl rfl r4) (h:=aT 10 rfl (ZB fun D B L hI=>ZaG (parts:=[(0,_),(1,_),(2,_),(3,_)]) [_,_,_,_,_] [_,_,_,_,_] rfl rfl Zws ZdF rfl rfl rfl r4) (h:=Zq 11 kr rfl kr (Zu (parts:=[(0,_)]) [_,_,_,_,_] rfl rfl Tryz.underlying24 Zbq ZdF rfl rfl rfl rfl rfl (fun b15=>?_))))
 refine ⟨⟨(hle12.trans hle14),t1⟩,(Zq 12 kr rfl kr (Zbg (z:=⟨w.name,[105,110,98,111,120],[],1,[]⟩) (R:=Ze) 2 rfl hv rfl rfl rfl ZjF ZjV rfl rfl (ZaQ.box 7 rfl) rfl rfl (⟨_,_,_,_,rfl,hr12,hr14,by first | assumption | omega | (simp;done) | (simp;omega),by first | assumption | omega | (simp;done) | (simp;omega)⟩) om (fun l16 p16 c16 hv16=>?_)))⟩
 refine ⟨⟨(hle12.trans hle14),t1⟩,(aW 13 rfl Z4 (h:=ZU 14 kr rfl kr kr kr (ZF [_] 4 [_,_,_,_,_] rfl rfl Zsl rfl rfl rfl rfl rfl rfl rfl rfl ?_)))⟩
 refine ZA (Zj (Zc (xM (h:=xD (h:=xA (h:=?_))))))
 exact ZD ⟨g.k+1,0,l16,p16,c16,(g.xs ++ [⟨w.name,[105,110,98,111,120],[],1,[]⟩])⟩ [0,1,2,3,4] so2 ⟨so,by rw [List.take_add_one,hw];simp [hx,Zk6,inbox],hv16⟩ t6 rfl
 refine (Zu (parts:=[]) [] rfl rfl Tryz.underlying38 Zgx ZlB rfl rfl rfl rfl rfl (fun b17=>⟨⟨Kn.le.refl _,t1⟩,(aT 9 rfl (ZB fun D B L hI=>ZaG (parts:=[(0,_),(1,_)]) [_,_] [_,_] rfl rfl Zns Ze6 rfl rfl rfl r4) (h:=Zq 7 kr rfl kr (Zu (parts:=[]) [] rfl rfl Tryz.underlying37 ZbM ZdX rfl rfl rfl rfl rfl (fun b18=>?_))))⟩))
 refine ⟨⟨Kn.le.refl _,t1⟩,(ZaV 6 rfl (ZY.lit0 (R:=ZZ) (w:=2)) ZZ.mono om3 (fun B' hle'=>⟨hle',t1⟩) (fun B19 hle19 hr19=>?_))⟩
 replace hv3:=hv3.mono Zs.mono hle19
 replace hv:=hv.mono Ze.mono hle19
 have hr19n:=hr19.len
 refine ZaV 5 rfl (ZY.lit0 (R:=ZN) (w:=3)) ZN.mono om3 (fun B' hle'=>⟨hle19.trans hle',t1⟩) (fun B20 hle20 hr20=>?_)
 replace hr19:=up1 hle20 hr19
 replace hv3:=hv3.mono Zs.mono hle20
 replace hv:=hv.mono Ze.mono hle20
 have hr20n:=hr20.len
 refine aT 10 rfl (ZB fun D B L hI=>ZaG (parts:=[(0,_),(1,_),(2,_),(3,_)]) [_,_,_,_,_] [_,_,_,_,_] rfl rfl Zws ZdF rfl rfl rfl r4) (h:=Zq 11 kr rfl kr (Zu (parts:=[(0,_)]) [_,_,_,_,_] rfl rfl Tryz.underlying24 Zbq ZdF rfl rfl rfl rfl rfl (fun b21=>?_)))
 refine ⟨⟨(hle19.trans hle20),t1⟩,(Zq 12 kr rfl kr (Zbg (z:=⟨w.name,[105,110,98,111,120],[],1,[]⟩) (R:=Ze) 2 rfl hv rfl rfl rfl ZjF ZjV rfl rfl (ZaQ.box 7 rfl) rfl rfl (⟨_,_,_,_,rfl,hr19,hr20,by first | assumption | omega | (simp;done) | (simp;omega),by first | assumption | omega | (simp;done) | (simp;omega)⟩) om (fun l22 p22 c22 hv22=>?_)))⟩
 refine ⟨⟨(hle19.trans hle20),t1⟩,(aW 13 rfl Z4 (h:=ZU 14 kr rfl kr kr kr (ZF [_] 4 [_,_,_,_,_] rfl rfl Zsl rfl rfl rfl rfl rfl rfl rfl rfl ?_)))⟩
 refine ZA (Zj (Zc (xM (h:=xD (h:=xA (h:=?_))))))
 exact ZD ⟨g.k+1,0,l22,p22,c22,(g.xs ++ [⟨w.name,[105,110,98,111,120],[],1,[]⟩])⟩ [0,1,2,3,4] so2 ⟨so,by rw [List.take_add_one,hw];simp [hx,Zk6,inbox],hv22⟩ t6 rfl
 try simp only [sQ,ne_eq] at g3
 have he:(us.map fun u=>Zk6 u.name)=g.xs:=by rw [hx,List.take_of_length_le oz]
 have hne:(⟨d,us,g.xs,⟨1,[]⟩⟩:DHost)=ZqY d us:=by rw [ZqY,he]
 refine ZS (Zae (ZX (ZI (Zj (Zg (Za (xL [_,_,_,_,_] ZW 4 (h:=Z1 1 rfl hv3 Zs.mono om3 (fun B23 hle23 hr23=>?_)))))))))
 replace hv:=hv.mono Ze.mono hle23
 have hr23n:=hr23.len
 refine Z1 2 rfl hv Ze.mono om3 (fun B24 hle24 hr24=>?_)
 replace hr23:=up1 hle24 hr23
 have hr24n:=hr24.len
 refine Z1 3 rfl (ZY.lit0 (R:=Zw) (w:=4)) Zw.mono om3 (fun B25 hle25 hr25=>?_)
 obtain ⟨hr23,hr24⟩:=up2 hle25 hr23 hr24
 have hr25n:=hr25.len
 refine xR Zsn rfl (ZbK _ _ _ _ _ _ (⟨d,us,g.xs,⟨1,[]⟩⟩:DHost) om2 _ hr23 hr24 hr25) (h:=?_)
 refine xN (h:=tL5 (Zb rfl (fun g4=>?_) (fun g4=>?_)))
 try simp only [sQ,ne_eq] at g4
 rw [ZpE (by rw [← hne];simpa using g4)]
 refine Za (xB [] [_,_,_,_,_] [_,_,_,_,_] Zd6 Za2 (h:=xS [_,_,_,_,_] 0 [_,_,_,_,_] Zaq (h:=xA (h:=tL5 (Zd (Zp ?_))))))
 exact Zas .ret (.inl rfl) [_,_] [] rfl ⟨⟨_,rfl,.inr ⟨[_,_,_,_,_],ZW,Z9 0 rfl rfl rfl,rfl⟩⟩,rfl,trivial⟩ ⟨rfl,none,0,none,0,none,0,rfl,SlK.nil,SlK.nil,SlK.nil⟩
 try simp only [sQ,ne_eq] at g4
 refine wSk (Za (xL [_,_,_,_,_] ZW 4 (h:=xS [_,_,_,_,_] 0 [_,_,_,_,_] Zaq (h:=xA (h:=tL5 (Zd ?_))))))
 exact Zas .ret (.inl rfl) [_,_] [] rfl ⟨⟨_,rfl,.inr ⟨[_,_,_,_,_],ZW,Z9 0 rfl rfl rfl,rfl⟩⟩,rfl,trivial⟩ (by rw [Zjj (by rw [← hne];simpa using g4),← hne];exact ⟨rfl,_,_,_,_,_,_,rfl,hr23,hr24,hr25⟩)

theorem Zlb (k:Nat) (hk:k<6) (B:Kn):ZaM (pj J) 193 [.int .i64 k] B (.int .i64 (Zdx k)):=by
 refine cB 7 Tryz.func193 (h:=?_)
 refine Za (xA (h:=Za (xBs [(0,_),(1,_),(2,_),(3,_),(4,_),(5,_)] [_,_,_,_,_,_] Tryz.underlying185 sz3 zo3 (h:=fun b1=>?_))))
 have hvq:ZY B (Zah b1 (([1,2,4,8,16,32]:List Int).map fun x=>.int .i64 x) 3) (some ⟨b1,0,none⟩) 6 3 1 Zcf ([1,2,4,8,16,32]:List Int):=ZY.ints
 refine xM (h:=?_)
 obtain ⟨e,he⟩:=Zag (xs:=([1,2,4,8,16,32]:List Int)) (i:=k) om
 obtain ⟨bb3,_,hp3,rfl,hw3,hc3⟩:=hvq.row he
 refine xIp hp3 Tryz.underlying185 sz3 (h:=Zn (Zf rfl rfl lk3 rfl (hc3 _ 0 rfl 0 _ rfl) (xA (h:=tL1 (Zd ?_)))))
 exact eR t1 ⟨Za1 (ZsM he),rfl,rfl⟩

theorem Znz (k:Nat) (hk:k<5) (B:Kn):ZaM (pj J) 191 [.int .i64 k] B (.int .i64 (Zdx k)):=by
 refine cB 7 Tryz.func191 (h:=?_)
 refine Za (xA (h:=Za (xBs [(0,_),(1,_),(2,_),(3,_),(4,_)] [_,_,_,_,_] Tryz.underlying185 sz3 zo3 (h:=fun b1=>?_))))
 have hvq:ZY B (Zah b1 (([1,2,4,8,16]:List Int).map fun x=>.int .i64 x) 3) (some ⟨b1,0,none⟩) 5 3 1 Zcf ([1,2,4,8,16]:List Int):=ZY.ints
 refine xM (h:=?_)
 obtain ⟨e,he⟩:=Zag (xs:=([1,2,4,8,16]:List Int)) (i:=k) om
 obtain ⟨bb3,_,hp3,rfl,hw3,hc3⟩:=hvq.row he
 refine xIp hp3 Tryz.underlying185 sz3 (h:=Zn (Zf rfl rfl lk3 rfl (hc3 _ 0 rfl 0 _ rfl) (xA (h:=tL1 (Zd ?_)))))
 exact eR t1 ⟨Za1 (ZqQ he),rfl,rfl⟩

theorem ZuV (q:Option Addr) (cp:Nat) (gs:List DGrant) (u:Str) (hr :∀y,y∈gs→0≤y.rights∧y.rights≤63) (B:Kn) (hg:SlK B q cp 2 ZZ gs):ZaM (pj J) 190 [.slice q gs.length cp,str u] B (.int .i64 (Zd5 gs u)):=by
 refine cB 55 Tryz.func190 (h:=?_)
 have hgn:=hg.len
 refine Za (xA (h:=Za (xA (h:=Zg (Za (xA (h:=Zl (ZO (α:=Nat × Int) [0,1,4] (fun g=>[(5,.int .i64 g.2),(6,.int .i64 g.1)]) [] (fun g=>[]) (fun g Bx=>Bx=B∧g.1≤6∧g.2=ZfX gs u g.1) (fun g=>6 - g.1) (0,0) t2 rfl (⟨rfl,oz,rfl⟩) (fun g B1 hle1 hI=>?_)))))))))
 obtain ⟨rfl,hk,hs⟩:=hI
 have hbd:=ZjR gs u g.1 hk
 refine ZM [(0,_),(1,_),(4,_),(5,_),(6,_)] [] t5 rfl (Zg (Za (xM (h:=Zaf (h:=Zb rfl (fun g1=>?_) (fun g1=>?_))))))
 try simp only [sQ,ne_eq] at g1
 have hp:=Zlw (k:=g.1) oz
 refine wSk (Zg (Zl (Za (xA (h:=Zg (Za (xA (h:=Zl (ZO (α:=Nat × Bool) [0,1,4,5,6,10] (fun o=>[(7,.bool o.2),(8,.int .i64 o.1)]) [] (fun o=>[]) (fun o Bx=>Bx=B1∧o.1≤gs.length∧o.2=(gs.take o.1).any (onB u (Zdx g.1))) (fun o=>gs.length - o.1) (0,false) t2 rfl (⟨rfl,Nat.zero_le _,rfl⟩) (fun o B2 hle2 hI=>?_))))))))))
 obtain ⟨rfl,ho,hon⟩:=hI
 refine ZM [(0,_),(1,_),(4,_),(5,_),(6,_),(7,_),(8,_),(10,_)] [] t8 rfl (Zg (Za (xM (h:=xM (h:=xV Tryz.underlying37 (h:=Zaf (h:=Zb rfl (fun g2=>?_) (fun g2=>?_))))))))
 try simp only [sQ,ne_eq] at g2
 obtain ⟨x,hx⟩:=Zag (xs:=gs) (i:=o.1) oz
 have hrx:=hr x (List.mem_of_getElem? hx)
 refine wSk (Zg (Zl (Z0 (same _ _) mo kr ⟨rfl,rfl⟩ (fun _ _=>?_))))
 refine aM 0 rfl (h:=aM 1 rfl (h:=ZaH (d:=20) rfl (fun g3=>?_) (fun g3=>?_)))
 try simp only [sQ,ne_eq] at g3
 refine aZ 2 rfl (h:=aZ 3 rfl (h:=aZ 4 rfl (h:=aZ 5 rfl (h:=aZ 6 rfl (h:=aZ 7 rfl (h:=aZ 8 rfl (h:=aZ 9 rfl (h:=aZ 10 rfl (h:=aZ 11 rfl (h:=aZ 12 rfl (h:=aZ 13 rfl (h:=aZ 14 rfl (h:=aZ 15 rfl (h:=aZ 16 rfl (h:=aZ 17 rfl (h:=aZ 18 rfl (h:=aZ 19 rfl (h:=aZ 20 rfl (h:=aZ 21 rfl (h:=aZ 22 rfl (h:=aZ 23 rfl (h:=aZ 24 rfl (h:=aZ 25 rfl (h:=aZ 26 rfl (h:=aZ 27 rfl (h:=aZ 28 rfl (h:=aPT 29 rfl (h:=aA 30 rfl (h:=Zz kr kr ?_)))))))))))))))))))))))))))))
 refine ZA (Zj (Zc (xM (h:=xD (h:=xA (h:=?_))))))
 exact ZD (o.1+1,true) [] so2 ⟨rfl,so,by rw [Zee hx,← hon,g3];rfl⟩ t8 rfl
 try simp only [sQ,ne_eq] at g3
 refine aM 2 rfl (h:=aM 3 rfl (h:=?_))
 obtain ⟨bb3,oo3,rfl⟩:=hg.base hx
 obtain ⟨_,⟨rfl,hb4⟩,hc4⟩:=hg.elem hx
 refine aIx 4 rfl Tryz.underlying37 ZbM (h:=aW 5 rfl ZcZ (h:=aT 6 rfl (Zar fun D=>Zf rfl rfl lk9 rfl (hc4 _ 0 _ rfl) r4) (h:=aM 7 rfl (h:=Zsf 8 rfl (h:=aM 9 rfl (h:=ZaH (d:=28) rfl (fun g4=>?_) (fun g4=>?_)))))))
 try simp only [sQ,ne_eq] at g4
 refine aZ 10 rfl (h:=aZ 11 rfl (h:=aZ 12 rfl (h:=aZ 13 rfl (h:=aZ 14 rfl (h:=aZ 15 rfl (h:=aPT 16 rfl (h:=aM 17 rfl (h:=aM 18 rfl (h:=aM 19 rfl (h:=aIx 20 rfl Tryz.underlying37 ZbM (h:=aW 21 rfl Zhr (h:=aT 22 rfl (Zar fun D=>Zf rfl rfl lk3 rfl (hc4 _ 1 _ rfl) r4) (h:=aM 23 rfl (h:=aT 24 rfl (Zar fun D=>Zbc rfl rfl Zvp rfl (Zlb g.1 om2 _) r4) (h:=?_)))))))))))))))
 refine aT 25 rfl (Zar fun D=>Ziw (a:=x.rights) (b:=(Zdx g.1)) (r:=Int.tdiv x.rights (Zdx g.1)) rfl rfl rfl rfl oz (Zko oz oz oz) r4) (h:=?_)
 refine aT 26 rfl (Zar fun D=>Zh2 (a:=(Int.tdiv x.rights (Zdx g.1))) (b:=2) (r:=Int.tmod (Int.tdiv x.rights (Zdx g.1)) 2) rfl rfl rfl rfl (by decide) rfl r4) (h:=?_)
 refine Zsg 27 rfl (h:=aPT 28 rfl (h:=aPF 29 rfl (h:=aA 30 rfl (h:=Zz kr kr ?_))))
 refine ZA (Zj (Zc (xM (h:=xD (h:=xA (h:=?_))))))
 exact ZD (o.1+1,decide (Int.tmod (Int.tdiv x.rights (Zdx g.1)) 2=1)) [] so2 ⟨rfl,so,by rw [Zee hx,← hon,g3,onB];simp [g4]⟩ t8 rfl
 try simp only [sQ,ne_eq] at g4
 refine aM 10 rfl (h:=aM 11 rfl (h:=aIx 12 rfl Tryz.underlying37 ZbM (h:=aW 13 rfl ZcZ (h:=aT 14 rfl (Zar fun D=>Zf rfl rfl lk9 rfl (hc4 _ 0 _ rfl) r4) (h:=Zsf 15 rfl (h:=aPF 16 rfl (h:=aM 17 rfl (h:=ZaH (d:=36) rfl (fun g5=>?_) (fun g5=>?_)))))))))
 try simp only [sQ,ne_eq] at g5
 refine aM 18 rfl (h:=aM 19 rfl (h:=aIx 20 rfl Tryz.underlying37 ZbM (h:=aW 21 rfl Zhr (h:=aT 22 rfl (Zar fun D=>Zf rfl rfl lk3 rfl (hc4 _ 1 _ rfl) r4) (h:=aM 23 rfl (h:=aT 24 rfl (Zar fun D=>Zbc rfl rfl Zvp rfl (Zlb g.1 om2 _) r4) (h:=?_)))))))
 refine aT 25 rfl (Zar fun D=>Ziw (a:=x.rights) (b:=(Zdx g.1)) (r:=Int.tdiv x.rights (Zdx g.1)) rfl rfl rfl rfl oz (Zko oz oz oz) r4) (h:=?_)
 refine aT 26 rfl (Zar fun D=>Zh2 (a:=(Int.tdiv x.rights (Zdx g.1))) (b:=2) (r:=Int.tmod (Int.tdiv x.rights (Zdx g.1)) 2) rfl rfl rfl rfl (by decide) rfl r4) (h:=?_)
 refine Zsg 27 rfl (h:=aPT 28 rfl (h:=aPF 29 rfl (h:=aA 30 rfl (h:=Zz kr kr ?_))))
 refine ZA (Zj (Zc (xM (h:=xD (h:=xA (h:=?_))))))
 exact ZD (o.1+1,decide (Int.tmod (Int.tdiv x.rights (Zdx g.1)) 2=1)) [] so2 ⟨rfl,so,by rw [Zee hx,← hon,g3,onB];simp [g5,anyone]⟩ t8 rfl
 try simp only [sQ,ne_eq] at g5
 refine aZ 18 rfl (h:=aZ 19 rfl (h:=aZ 20 rfl (h:=aZ 21 rfl (h:=aZ 22 rfl (h:=aZ 23 rfl (h:=aZ 24 rfl (h:=aZ 25 rfl (h:=aZ 26 rfl (h:=aZ 27 rfl (h:=aPF 28 rfl (h:=aPF 29 rfl (h:=aA 30 rfl (h:=Zz kr kr ?_)))))))))))))
 refine ZA (Zj (Zc (xM (h:=xD (h:=xA (h:=?_))))))
 exact ZD (o.1+1,false) [] so2 ⟨rfl,so,by rw [Zee hx,← hon,g3,onB];simp [g4,g5,anyone]⟩ t8 rfl
 try simp only [sQ,ne_eq] at g2
 have hae:=Zr8 hon oz
 refine ZS (Zae (ZX (ZI (Zj (Za (xM (h:=Zb rfl (fun g6=>?_) (fun g6=>?_))))))))
 try simp only [sQ,ne_eq] at g6
 refine Zc (xM (h:=xM (h:=xR Zvp rfl (Zlb g.1 om2 _) (h:=?_))))
 refine xD (h:=xA (h:=ZA (Zj (Zc (xM (h:=xD (h:=xA (h:=?_))))))))
 exact ZD (g.1+1,g.2+Zdx g.1) [] so2 ⟨rfl,so,by simp only [ZfX];rw [← hae,if_pos g6,hs]⟩ t5 rfl
 try simp only [sQ,ne_eq] at g6
 refine ZL (ZA (Zj (Zc (xM (h:=xD (h:=xA (h:=?_)))))))
 exact ZD (g.1+1,g.2) [] so2 ⟨rfl,so,by simp only [ZfX];rw [← hae,if_neg (by simp [g6]),hs]⟩ t5 rfl
 try simp only [sQ,ne_eq] at g1
 refine ZS (Zae (ZX (ZI (Zj (Za (xM (h:=xA (h:=Zd ?_))))))))
 exact eR t1 ⟨Za1 (by rw [hs,show g.1=6 from by omega];rfl),rfl,rfl⟩

theorem Zi5 (n:Int) (B:Kn):ZaM (pj J) 170 [.int .i64 n] B (.bool (Zd4 n)):=by
 refine cB 5 Tryz.func170 (h:=?_)
 refine Za (xA (h:=Za (xM (h:=xR ZeF rfl (ZcA _ _ _ _) (h:=xA (h:=Zd ?_))))))
 exact eR t1 ⟨rfl,rfl,rfl⟩

theorem Zox (q1 q2 q3:Option Addr) (c1 c2 c3:Nat) (x:DHost) (k:Int) (u:Str) (r:Int) (f:DFolder) (hk0:0≤k) (hk:x.folders[k.toNat]? = some f) (hrr:Zir x.folders) (h1:0<r) (B:Kn) (hf:SlK B q2 c2 5 Ze x.folders):ZaM (pj J) 186 [.agg #[str x.domain,.slice q1 x.users.length c1,.slice q2 x.folders.length c2,.int .i64 x.queue.next,.slice q3 x.queue.items.length c3],.int .i64 k,str u,.int .i64 r] B (.bool (Zp7 f u r)):=by
 refine cB 31 Tryz.func186 (h:=?_)
 have hfn:=hf.len
 have hkl:=(List.getElem?_eq_some_iff.1 hk).1
 have hrb:=Znl f.grants u
 refine Za (xBx [_,_,_,_,_] (h:=fun b1=>xA (h:=tL1 (Za (xM (h:=xW Z4 (h:=x1 ZcJ 0 (h:=xM (h:=?_)))))))))
 obtain ⟨bb2,oo2,rfl⟩:=hf.base hk
 obtain ⟨_,⟨qg3,cg3,qm3,cm3,rfl,hg3,hm3,hb3,hb3b⟩,hc3⟩:=hf.elem hk
 have hg3n:=hg3.len
 have hm3n:=hm3.len
 have hm3s:=Z7 hm3
 refine xIx Tryz.underlying24 Zbq (h:=xW Zdc (h:=y1 lk9 hc3 0 (h:=ZdG (h:=xM (h:=Zo (d:=17) rfl (fun g1=>?_) (fun g1=>?_))))))
 refine xP (h:=xP (h:=xP (h:=xP (h:=xP (h:=xP (h:=xP (h:=xP (h:=xP (h:=xP (h:=xP (h:=xP (h:=xT (h:=xA (h:=Zd ?_))))))))))))))
 exact eR t1 ⟨Zh (by simp [Zp7,g1]),rfl,rfl⟩
 refine xW Z4 (h:=x1 ZcJ 0 (h:=xM (h:=xIx Tryz.underlying24 Zbq (h:=xW Zea (h:=y1 Zs1 hc3 2 (h:=xM (h:=xR Zx6 rfl (ZuV _ _ f.grants u (by first | assumption | exact hrr _ (List.mem_of_getElem? (oy))) _ hg3) (h:=?_))))))))
 refine xM (h:=Zn (Ziw (a:=(Zd5 f.grants u)) (b:=r) (r:=Int.tdiv (Zd5 f.grants u) r) rfl rfl rfl rfl oz (Zko oz oz oz) ?_))
 refine Zn (Zh2 (a:=(Int.tdiv (Zd5 f.grants u) r)) (b:=2) (r:=Int.tmod (Int.tdiv (Zd5 f.grants u) r) 2) rfl rfl rfl rfl (by decide) rfl ?_)
 refine ZE (h:=xF (h:=xA (h:=Zd ?_)))
 exact eR t1 ⟨Zh (by simp [Zp7,g1]),rfl,rfl⟩

theorem Zey (q1 q2 q3:Option Addr) (c1 c2 c3:Nat) (x:DHost) (u:Str) (k r:Int) (hk:k<x.folders.length) (hrr:Zir x.folders) (h1:0<r) (B:Kn) (hu:SlK B q1 c1 3 Zs x.users) (hf:SlK B q2 c2 5 Ze x.folders):ZaM (pj J) 181 [.agg #[str x.domain,.slice q1 x.users.length c1,.slice q2 x.folders.length c2,.int .i64 x.queue.next,.slice q3 x.queue.items.length c3],str u,.int .i64 k,.int .i64 r] B (.int .i64 (Zj5 x.users x.folders u k r)):=by
 refine cB 32 Tryz.func181 (h:=?_)
 refine Za (xBx [_,_,_,_,_] (h:=fun b1=>xA (h:=tL1 (Zg (Zl (Za (xW ZbS (h:=x1 Zi1 0 (h:=xM (h:=xR Zt9 rfl (Zdb _ _ _ _ _ hu) (h:=Zaf (h:=xM (h:=Zo (d:=15) rfl (fun g1=>?_) (fun g1=>?_))))))))))))))
 try simp only [sQ,ne_eq] at g1
 refine xP (h:=xP (h:=xT (h:=xA (h:=Zb (t:=true) rfl (fun _=>Za (xA (h:=Zd (ZH (Zp ?_))))) (fun h=>Bool.noConfusion h)))))
 exact eR t1 ⟨Za1 (Zr1 (.inl g1)).symm,rfl,rfl⟩
 try simp only [sQ,ne_eq] at g1
 refine xM (h:=Zaf (h:=xF (h:=xA (h:=Zb rfl (fun g2=>?_) (fun g2=>?_)))))
 try simp only [sQ,ne_eq] at g2
 refine Za (xA (h:=Zd (ZH (Zp ?_))))
 exact eR t1 ⟨Za1 (Zr1 (.inr g2)).symm,rfl,rfl⟩
 try simp only [sQ,ne_eq] at g2
 have hfn:=hf.len
 obtain ⟨f,hf0⟩ :∃f,x.folders[k.toNat]? = some f:=⟨_,List.getElem?_eq_getElem oz⟩
 have hce:=ZvD (us:=x.users) (u:=u) (r:=r) oz hf0
 refine Za (xL [_,_,_,_,_] ZW 0 (h:=xM (h:=xM (h:=xR ZwP rfl (Zox _ _ _ _ _ _ x k u 1 _ oz (oy) hrr oz _ hf) (h:=?_)))))
 refine xN (h:=xA (h:=Zb rfl (fun g3=>?_) (fun g3=>?_)))
 try simp only [sQ,ne_eq] at g3
 refine Za (xA (h:=Zd (ZH (Zp ?_))))
 exact eR t1 ⟨Za1 (by rw [hce,if_pos g3]),rfl,rfl⟩
 try simp only [sQ,ne_eq] at g3
 refine Za (xL [_,_,_,_,_] ZW 0 (h:=xM (h:=xM (h:=xM (h:=xR ZwP rfl (Zox _ _ _ _ _ _ x k u r _ oz (oy) hrr oz _ hf) (h:=?_))))))
 refine xN (h:=xA (h:=Zb rfl (fun g4=>?_) (fun g4=>?_)))
 try simp only [sQ,ne_eq] at g4
 refine Za (xA (h:=Zd (ZH (Zp ?_))))
 exact eR t1 ⟨Za1 (by rw [hce,if_neg (by simp [g3]),if_pos g4]),rfl,rfl⟩
 try simp only [sQ,ne_eq] at g4
 refine ZL (ZA (Zj (Za (xA (h:=Zd ?_)))))
 exact eR t1 ⟨Za1 (by rw [hce,if_neg (by simp [g3]),if_neg (by simp [g4])]),rfl,rfl⟩

theorem Zi6 (q:Option Addr) (cp:Nat) (x:DBox) (B:Kn) (hm:SlK B q cp 3 ZN x.mail):Zv (pj J) 120 [.agg #[.int .i64 x.next,.slice q x.mail.length cp]] B [] (fun v B' Ls=>B'=B∧∃l a c,Ls=[l]∧v = .agg #[.int .i64 x.next,.slice a x.mail.length c]∧ZY B l a c 97 3 ZN x.mail):=by
 refine cB 9 Tryz.func120 (h:=?_)
 have hxn:=hm.len
 refine Za (xBx [_,_] (h:=fun b1=>xAl [_,_] Ze6 (h:=fun b2=>tL2 (Za (xBs [] [] Tryz.underlying38 Zgx ZlB (h:=fun b3=>xW ZaP (h:=x1 Zfl 0 (h:=Zn (ZaY (R:=ZN) 2 rfl (ZY.lit0 (R:=ZN)) rfl rfl rfl ZvO Zwn rfl rfl rfl hm.rows ZN.one rfl om (fun l4 p4 c4 hv4=>?_))))))))))
 refine xW ZaP (h:=xS [_] 0 [_,_] ZxG (h:=tL3 (Za (xL [_,_] ZbA 0 (h:=xS [_,_] 1 [_,_] ZcE (h:=tL3 (Zd ?_)))))))
 exact eN [2] rfl ⟨⟨_,rfl,.inr ⟨[_,_],ZbA,Z9 1 rfl rfl rfl,rfl⟩⟩,trivial⟩ ⟨rfl,_,_,_,rfl,rfl,hv4⟩

theorem ZnB (qa qb:Option Addr) (ca cb:Nat) (x:DFolder) (B:Kn) (hg:SlK B qa ca 2 ZZ x.grants) (hm:SlK B qb cb 3 ZN x.mail):Zv (pj J) 83 [.agg #[str x.owner,str x.name,.slice qa x.grants.length ca,.int .i64 x.next,.slice qb x.mail.length cb]] B [] (fun v B' Ls=>B'=B∧∃l a c l' a' c',Ls=[l,l']∧v = .agg #[str x.owner,str x.name,.slice a x.grants.length c,.int .i64 x.next,.slice a' x.mail.length c']∧ZY B l a c 191 2 ZZ x.grants∧ZY B l' a' c' 97 3 ZN x.mail):=by
 refine cB 13 Tryz.func83 (h:=?_)
 have hgn:=hg.len
 have hmn:=hm.len
 refine Za (xBx [_,_,_,_,_] (h:=fun b1=>xAl [_,_,_,_,_] ZdF (h:=fun b2=>tL2 (Za (xBs [] [] Tryz.underlying37 ZbM ZdX (h:=fun b3=>xW Zea (h:=x1 Zs1 0 (h:=Zn (ZaY (R:=ZZ) 2 rfl (ZY.lit0 (R:=ZZ)) rfl rfl rfl ZrL ZqB rfl rfl rfl hg.rows ZZ.one rfl om (fun l4 p4 c4 hv4=>?_))))))))))
 refine xW Zea (h:=xS [_] 0 [_,_,_,_,_] Zwi (h:=tL3 (Za (xW ZbC (h:=xL [_,_] ZbA 0 (h:=xC Zvx rfl (Zi6 _ _ (⟨x.next,x.mail⟩:DBox) _ hm) (h:=?_)))))))
 rintro _ B5 _ hle5 ⟨hB5,l5,a5,c5,rfl,rfl,hs5⟩
 have hB5:=hB5.symm
 subst hB5
 refine xW ZbC (h:=xS [_,_] 0 [_,_,_,_,_] ZcE (h:=tL4 (Za (xL [_,_,_,_,_] ZhQ 0 (h:=xS [_,_,_,_,_] 1 [_,_,_,_,_] Zbq (h:=tL4 (Zd ?_)))))))
 exact eN [2,3] rfl ⟨⟨_,rfl,.inr ⟨[_,_,_,_,_],ZhQ,Z9 1 rfl rfl rfl,rfl⟩⟩,trivial⟩ ⟨rfl,_,_,_,_,_,_,rfl,rfl,hv4,hs5⟩

theorem Zbn (q1 q2 q3:Option Addr) (c1 c2 c3:Nat) (x:DHost) (B:Kn) (hu:SlK B q1 c1 3 Zs x.users) (hf:SlK B q2 c2 5 Ze x.folders) (hi:SlK B q3 c3 4 Zw x.queue.items):Zv (pj J) 32 [.agg #[str x.domain,.slice q1 x.users.length c1,.slice q2 x.folders.length c2,.int .i64 x.queue.next,.slice q3 x.queue.items.length c3]] B [] (fun v B' Ls=>∃l a c p1 d1 p3 d3,Ls=[l]∧v = .agg #[str x.domain,.slice p1 x.users.length d1,.slice a x.folders.length c,.int .i64 x.queue.next,.slice p3 x.queue.items.length d3]∧SlK B' p1 d1 3 Zs x.users∧ZY B' l a c 42 5 Ze x.folders∧SlK B' p3 d3 4 Zw x.queue.items):=by
 refine cB 35 Tryz.func32 (h:=?_)
 have hun:=hu.len
 have hfn:=hf.len
 have hin:=hi.len
 refine Za (xBx [_,_,_,_,_] (h:=fun b1=>xAl [_,_,_,_,_] Za2 (h:=fun b2=>tL2 (Zqi (α:=GHC × Gh DFolder) [0,1,2] (fun o=>[(3,ptr ⟨o.1.b,0,none⟩)]) (fun o=>[Zah b1 [str x.domain,.slice q1 x.users.length c1,.slice q2 x.folders.length c2,.int .i64 x.queue.next,.slice q3 x.queue.items.length c3] 29,Zah b2 [str [],.slice none 0 0,.slice none 0 0,.int .i64 0,.slice none 0 0] 29,o.2.l,Zah o.1.b [str x.domain,.slice o.1.q1 x.users.length o.1.c1,.slice o.2.a o.2.xs.length o.2.c,.int .i64 x.queue.next,.slice o.1.q3 x.queue.items.length o.1.c3] 29]) (fun o Bx=>SlK Bx o.1.q1 o.1.c1 3 Zs x.users∧o.2.xs=[]∧ZY Bx o.2.l o.2.a o.2.c 42 5 Ze o.2.xs∧SlK Bx o.1.q3 o.1.c3 4 Zw x.queue.items) ?_ (fun o B3 hle3 hF=>?_)))))
 refine Z0 (keeps _ [0] _) mo kr ⟨Kn.le.refl _,Zad.refl _ _⟩ (fun _ _=>?_)
 refine aW 0 rfl Zju (h:=aT 1 rfl (ZB fun D B L hI=>Zf rfl rfl lk9 rfl (atL 0 (hI.2.1.trans rfl) rfl rfl) r4) (h:=aW 3 rfl ZbS (h:=aT 4 rfl (ZB fun D B L hI=>Zf rfl rfl Zi1 rfl (atL 0 (hI.2.1.trans rfl) rfl rfl) r4) (h:=aW 7 rfl ZaU (h:=aT 8 rfl (ZB fun D B L hI=>ZT [_,_] rfl rfl Zb4 rfl (Z9 0 (hI.2.1.trans rfl) rfl rfl) r4) (h:=Zak [2,6,11] kr kr kr ⟨?_,?_,?_⟩))))))
 refine (Zu (parts:=[]) [] rfl rfl Tryz.underlying23 Ze3 Zgy rfl rfl rfl rfl rfl (fun b4=>⟨⟨Kn.le.refl _,t1⟩,(Zak [5,6,11] kr kr kr ⟨?_,?_,?_⟩)⟩))
 refine (ZaY (R:=Zs) 2 rfl (ZY.lit0 (R:=Zs)) rfl rfl rfl ZoJ Zod rfl rfl rfl hu.rows Zs.one rfl om (fun l5 p5 c5 hv5=>?_))
 refine ⟨⟨Kn.le.refl _,t1⟩,(ZaV 2 rfl hv5 Zs.mono om3 (fun B' hle'=>⟨hle',t1⟩) (fun B6 hle6 hr6=>?_))⟩
 obtain ⟨hu,hf,hi⟩:=up3 hle6 hu hf hi
 have hr6n:=hr6.len
 refine Zak [6,9,11] kr kr kr ⟨?_,?_,?_⟩
 refine (Zu (parts:=[]) [] rfl rfl Tryz.underlying24 Zbq ZdF rfl rfl rfl rfl rfl (fun b7=>⟨⟨hle6,t1⟩,(Zak [9,11] kr kr kr ⟨?_,?_⟩)⟩))
 refine (Zbs rfl rfl ZkK rfl (ZaE _ _ x.queue _ hi) ?_)
 rintro _ B8 _ hle8 ⟨l8,a8,c8,rfl,rfl,hv8⟩
 obtain ⟨hu,hf,hi,hr6⟩:=up4 hle8 hu hf hi hr6
 replace hv8:=hv8.mono Zw.mono Kn.less_le
 refine ⟨⟨(hle6.trans hle8),t1⟩,(ZaV 4 rfl hv8 Zw.mono om3 (fun B' hle'=>⟨(hle6.trans hle8).trans hle',t1⟩) (fun B9 hle9 hr9=>?_))⟩
 obtain ⟨hu,hf,hi,hr6⟩:=up4 hle9 hu hf hi hr6
 have hr9n:=hr9.len
 refine aT 10 rfl (ZB fun D B L hI=>ZaG (parts:=[(0,_),(1,_),(2,_),(3,_)]) [_,_,_,_,_] [_,_,_,_,_] rfl rfl Zd6 Za2 rfl rfl rfl r4) (h:=Zq 11 kr rfl kr (Zai (l:=[_,_,_,_,_]) rfl rfl Za2 rfl (fun b10=>?_)))
 refine ⟨⟨((hle6.trans hle8).trans hle9),t1⟩,(ZU 12 kr rfl kr kr kr (ZF [_,_,_,_,_] 5 [_,_,_,_,_] rfl rfl Zaq rfl rfl rfl rfl rfl rfl rfl rfl ?_))⟩
 exact ZJ ⟨⟨_,_,_,_,_⟩,⟨0,0,_,_,_,[]⟩⟩ [0,1,3,5] ⟨hr6,rfl,ZY.lit0,hr9⟩ t4 rfl
 refine (Zai (l:=[_,_,_,_,_]) rfl rfl Za2 rfl (fun b11=>⟨⟨hle6,t1⟩,(Zq 9 kr rfl kr (Zbs rfl rfl ZkK rfl (ZaE _ _ x.queue _ hi) ?_))⟩))
 rintro _ B12 _ hle12 ⟨l12,a12,c12,rfl,rfl,hv12⟩
 obtain ⟨hu,hf,hi,hr6⟩:=up4 hle12 hu hf hi hr6
 replace hv12:=hv12.mono Zw.mono Kn.less_le
 refine ⟨⟨(hle6.trans hle12),t1⟩,(ZaV 5 rfl hv12 Zw.mono om3 (fun B' hle'=>⟨(hle6.trans hle12).trans hle',t1⟩) (fun B13 hle13 hr13=>?_))⟩
 obtain ⟨hu,hf,hi,hr6⟩:=up4 hle13 hu hf hi hr6
 have hr13n:=hr13.len
 refine aT 10 rfl (ZB fun D B L hI=>ZaG (parts:=[(0,_),(1,_),(2,_),(3,_)]) [_,_,_,_,_] [_,_,_,_,_] rfl rfl Zd6 Za2 rfl rfl rfl r4) (h:=ZU 12 kr rfl kr kr kr (ZF [_,_,_,_,_] 4 [_,_,_,_,_] rfl rfl Zaq rfl rfl rfl rfl rfl rfl rfl rfl ?_))
 exact ZJ ⟨⟨_,_,_,_,_⟩,⟨0,0,_,_,_,[]⟩⟩ [0,1,3,4] ⟨hr6,rfl,ZY.lit0,hr13⟩ t4 rfl
 refine (Zbs rfl rfl ZkK rfl (ZaE _ _ x.queue _ hi) ?_)
 rintro _ B14 _ hle14 ⟨l14,a14,c14,rfl,rfl,hv14⟩
 obtain ⟨hu,hf,hi,hr6⟩:=up4 hle14 hu hf hi hr6
 replace hv14:=hv14.mono Zw.mono Kn.less_le
 refine ⟨⟨(hle6.trans hle14),t1⟩,(ZaV 3 rfl hv14 Zw.mono om3 (fun B' hle'=>⟨(hle6.trans hle14).trans hle',t1⟩) (fun B15 hle15 hr15=>?_))⟩
 obtain ⟨hu,hf,hi,hr6⟩:=up4 hle15 hu hf hi hr6
 have hr15n:=hr15.len
 refine Zak [6,11] kr kr kr ⟨?_,?_⟩
 refine (Zu (parts:=[]) [] rfl rfl Tryz.underlying24 Zbq ZdF rfl rfl rfl rfl rfl (fun b16=>⟨⟨((hle6.trans hle14).trans hle15),t1⟩,(aT 10 rfl (ZB fun D B L hI=>ZaG (parts:=[(0,_),(1,_),(2,_),(3,_)]) [_,_,_,_,_] [_,_,_,_,_] rfl rfl Zd6 Za2 rfl rfl rfl r4) (h:=Zq 11 kr rfl kr (Zai (l:=[_,_,_,_,_]) rfl rfl Za2 rfl (fun b17=>?_))))⟩))
 refine ⟨⟨((hle6.trans hle14).trans hle15),t1⟩,(ZU 12 kr rfl kr kr kr (ZF [_,_,_,_,_] 5 [_,_,_,_,_] rfl rfl Zaq rfl rfl rfl rfl rfl rfl rfl rfl ?_))⟩
 exact ZJ ⟨⟨_,_,_,_,_⟩,⟨0,0,_,_,_,[]⟩⟩ [0,1,4,5] ⟨hr6,rfl,ZY.lit0,hr15⟩ t4 rfl
 refine (Zai (l:=[_,_,_,_,_]) rfl rfl Za2 rfl (fun b18=>⟨⟨((hle6.trans hle14).trans hle15),t1⟩,(Zq 6 kr rfl kr (Zu (parts:=[]) [] rfl rfl Tryz.underlying24 Zbq ZdF rfl rfl rfl rfl rfl (fun b19=>?_)))⟩))
 refine ⟨⟨((hle6.trans hle14).trans hle15),t1⟩,(aT 10 rfl (ZB fun D B L hI=>ZaG (parts:=[(0,_),(1,_),(2,_),(3,_)]) [_,_,_,_,_] [_,_,_,_,_] rfl rfl Zd6 Za2 rfl rfl rfl r4) (h:=ZU 12 kr rfl kr kr kr (ZF [_,_,_,_,_] 4 [_,_,_,_,_] rfl rfl Zaq rfl rfl rfl rfl rfl rfl rfl rfl ?_)))⟩
 exact ZJ ⟨⟨_,_,_,_,_⟩,⟨0,0,_,_,_,[]⟩⟩ [0,1,5,4] ⟨hr6,rfl,ZY.lit0,hr15⟩ t4 rfl
 refine (Zai (l:=[_,_,_,_,_]) rfl rfl Za2 rfl (fun b20=>⟨⟨hle6,t1⟩,(Zak [6,9] kr kr kr ⟨?_,?_⟩)⟩))
 refine (Zu (parts:=[]) [] rfl rfl Tryz.underlying24 Zbq ZdF rfl rfl rfl rfl rfl (fun b21=>⟨⟨hle6,t1⟩,(Zq 9 kr rfl kr (Zbs rfl rfl ZkK rfl (ZaE _ _ x.queue _ hi) ?_))⟩))
 rintro _ B22 _ hle22 ⟨l22,a22,c22,rfl,rfl,hv22⟩
 obtain ⟨hu,hf,hi,hr6⟩:=up4 hle22 hu hf hi hr6
 replace hv22:=hv22.mono Zw.mono Kn.less_le
 refine ⟨⟨(hle6.trans hle22),t1⟩,(ZaV 5 rfl hv22 Zw.mono om3 (fun B' hle'=>⟨(hle6.trans hle22).trans hle',t1⟩) (fun B23 hle23 hr23=>?_))⟩
 obtain ⟨hu,hf,hi,hr6⟩:=up4 hle23 hu hf hi hr6
 have hr23n:=hr23.len
 refine aT 10 rfl (ZB fun D B L hI=>ZaG (parts:=[(0,_),(1,_),(2,_),(3,_)]) [_,_,_,_,_] [_,_,_,_,_] rfl rfl Zd6 Za2 rfl rfl rfl r4) (h:=ZU 12 kr rfl kr kr kr (ZF [_,_,_,_,_] 3 [_,_,_,_,_] rfl rfl Zaq rfl rfl rfl rfl rfl rfl rfl rfl ?_))
 exact ZJ ⟨⟨_,_,_,_,_⟩,⟨0,0,_,_,_,[]⟩⟩ [0,1,4,3] ⟨hr6,rfl,ZY.lit0,hr23⟩ t4 rfl
 refine (Zbs rfl rfl ZkK rfl (ZaE _ _ x.queue _ hi) ?_)
 rintro _ B24 _ hle24 ⟨l24,a24,c24,rfl,rfl,hv24⟩
 obtain ⟨hu,hf,hi,hr6⟩:=up4 hle24 hu hf hi hr6
 replace hv24:=hv24.mono Zw.mono Kn.less_le
 refine ⟨⟨(hle6.trans hle24),t1⟩,(ZaV 4 rfl hv24 Zw.mono om3 (fun B' hle'=>⟨(hle6.trans hle24).trans hle',t1⟩) (fun B25 hle25 hr25=>?_))⟩
 obtain ⟨hu,hf,hi,hr6⟩:=up4 hle25 hu hf hi hr6
 have hr25n:=hr25.len
 refine Zq 6 kr rfl kr (Zu (parts:=[]) [] rfl rfl Tryz.underlying24 Zbq ZdF rfl rfl rfl rfl rfl (fun b26=>?_))
 refine ⟨⟨((hle6.trans hle24).trans hle25),t1⟩,(aT 10 rfl (ZB fun D B L hI=>ZaG (parts:=[(0,_),(1,_),(2,_),(3,_)]) [_,_,_,_,_] [_,_,_,_,_] rfl rfl Zd6 Za2 rfl rfl rfl r4) (h:=ZU 12 kr rfl kr kr kr (ZF [_,_,_,_,_] 3 [_,_,_,_,_] rfl rfl Zaq rfl rfl rfl rfl rfl rfl rfl rfl ?_)))⟩
 exact ZJ ⟨⟨_,_,_,_,_⟩,⟨0,0,_,_,_,[]⟩⟩ [0,1,5,3] ⟨hr6,rfl,ZY.lit0,hr25⟩ t4 rfl
 refine (Zu (parts:=[]) [] rfl rfl Tryz.underlying24 Zbq ZdF rfl rfl rfl rfl rfl (fun b27=>⟨⟨Kn.le.refl _,t1⟩,(Zak [5,11] kr kr kr ⟨?_,?_⟩)⟩))
 refine (ZaY (R:=Zs) 2 rfl (ZY.lit0 (R:=Zs)) rfl rfl rfl ZoJ Zod rfl rfl rfl hu.rows Zs.one rfl om (fun l28 p28 c28 hv28=>?_))
 refine ⟨⟨Kn.le.refl _,t1⟩,(ZaV 2 rfl hv28 Zs.mono om3 (fun B' hle'=>⟨hle',t1⟩) (fun B29 hle29 hr29=>?_))⟩
 obtain ⟨hu,hf,hi⟩:=up3 hle29 hu hf hi
 have hr29n:=hr29.len
 refine Zak [9,11] kr kr kr ⟨?_,?_⟩
 refine (Zbs rfl rfl ZkK rfl (ZaE _ _ x.queue _ hi) ?_)
 rintro _ B30 _ hle30 ⟨l30,a30,c30,rfl,rfl,hv30⟩
 obtain ⟨hu,hf,hi,hr29⟩:=up4 hle30 hu hf hi hr29
 replace hv30:=hv30.mono Zw.mono Kn.less_le
 refine ⟨⟨(hle29.trans hle30),t1⟩,(ZaV 4 rfl hv30 Zw.mono om3 (fun B' hle'=>⟨(hle29.trans hle30).trans hle',t1⟩) (fun B31 hle31 hr31=>?_))⟩
 obtain ⟨hu,hf,hi,hr29⟩:=up4 hle31 hu hf hi hr29
 have hr31n:=hr31.len
 refine aT 10 rfl (ZB fun D B L hI=>ZaG (parts:=[(0,_),(1,_),(2,_),(3,_)]) [_,_,_,_,_] [_,_,_,_,_] rfl rfl Zd6 Za2 rfl rfl rfl r4) (h:=Zq 11 kr rfl kr (Zai (l:=[_,_,_,_,_]) rfl rfl Za2 rfl (fun b32=>?_)))
 refine ⟨⟨((hle29.trans hle30).trans hle31),t1⟩,(ZU 12 kr rfl kr kr kr (ZF [_,_,_,_,_] 5 [_,_,_,_,_] rfl rfl Zaq rfl rfl rfl rfl rfl rfl rfl rfl ?_))⟩
 exact ZJ ⟨⟨_,_,_,_,_⟩,⟨0,0,_,_,_,[]⟩⟩ [0,1,3,5] ⟨hr29,rfl,ZY.lit0,hr31⟩ t4 rfl
 refine (Zai (l:=[_,_,_,_,_]) rfl rfl Za2 rfl (fun b33=>⟨⟨hle29,t1⟩,(Zq 9 kr rfl kr (Zbs rfl rfl ZkK rfl (ZaE _ _ x.queue _ hi) ?_))⟩))
 rintro _ B34 _ hle34 ⟨l34,a34,c34,rfl,rfl,hv34⟩
 obtain ⟨hu,hf,hi,hr29⟩:=up4 hle34 hu hf hi hr29
 replace hv34:=hv34.mono Zw.mono Kn.less_le
 refine ⟨⟨(hle29.trans hle34),t1⟩,(ZaV 5 rfl hv34 Zw.mono om3 (fun B' hle'=>⟨(hle29.trans hle34).trans hle',t1⟩) (fun B35 hle35 hr35=>?_))⟩
 obtain ⟨hu,hf,hi,hr29⟩:=up4 hle35 hu hf hi hr29
 have hr35n:=hr35.len
 refine aT 10 rfl (ZB fun D B L hI=>ZaG (parts:=[(0,_),(1,_),(2,_),(3,_)]) [_,_,_,_,_] [_,_,_,_,_] rfl rfl Zd6 Za2 rfl rfl rfl r4) (h:=ZU 12 kr rfl kr kr kr (ZF [_,_,_,_,_] 4 [_,_,_,_,_] rfl rfl Zaq rfl rfl rfl rfl rfl rfl rfl rfl ?_))
 exact ZJ ⟨⟨_,_,_,_,_⟩,⟨0,0,_,_,_,[]⟩⟩ [0,1,3,4] ⟨hr29,rfl,ZY.lit0,hr35⟩ t4 rfl
 refine (Zai (l:=[_,_,_,_,_]) rfl rfl Za2 rfl (fun b36=>⟨⟨Kn.le.refl _,t1⟩,(Zq 5 kr rfl kr (ZaY (R:=Zs) 2 rfl (ZY.lit0 (R:=Zs)) rfl rfl rfl ZoJ Zod rfl rfl rfl hu.rows Zs.one rfl om (fun l37 p37 c37 hv37=>?_)))⟩))
 refine ⟨⟨Kn.le.refl _,t1⟩,(ZaV 2 rfl hv37 Zs.mono om3 (fun B' hle'=>⟨hle',t1⟩) (fun B38 hle38 hr38=>?_))⟩
 obtain ⟨hu,hf,hi⟩:=up3 hle38 hu hf hi
 have hr38n:=hr38.len
 refine Zq 9 kr rfl kr (Zbs rfl rfl ZkK rfl (ZaE _ _ x.queue _ hi) ?_)
 rintro _ B39 _ hle39 ⟨l39,a39,c39,rfl,rfl,hv39⟩
 obtain ⟨hu,hf,hi,hr38⟩:=up4 hle39 hu hf hi hr38
 replace hv39:=hv39.mono Zw.mono Kn.less_le
 refine ⟨⟨(hle38.trans hle39),t1⟩,(ZaV 5 rfl hv39 Zw.mono om3 (fun B' hle'=>⟨(hle38.trans hle39).trans hle',t1⟩) (fun B40 hle40 hr40=>?_))⟩
 obtain ⟨hu,hf,hi,hr38⟩:=up4 hle40 hu hf hi hr38
 have hr40n:=hr40.len
 refine aT 10 rfl (ZB fun D B L hI=>ZaG (parts:=[(0,_),(1,_),(2,_),(3,_)]) [_,_,_,_,_] [_,_,_,_,_] rfl rfl Zd6 Za2 rfl rfl rfl r4) (h:=ZU 12 kr rfl kr kr kr (ZF [_,_,_,_,_] 4 [_,_,_,_,_] rfl rfl Zaq rfl rfl rfl rfl rfl rfl rfl rfl ?_))
 exact ZJ ⟨⟨_,_,_,_,_⟩,⟨0,0,_,_,_,[]⟩⟩ [0,1,3,4] ⟨hr38,rfl,ZY.lit0,hr40⟩ t4 rfl
 refine (Zai (l:=[_,_,_,_,_]) rfl rfl Za2 rfl (fun b41=>⟨⟨Kn.le.refl _,t1⟩,(Zak [5,6] kr kr kr ⟨?_,?_⟩)⟩))
 refine (ZaY (R:=Zs) 2 rfl (ZY.lit0 (R:=Zs)) rfl rfl rfl ZoJ Zod rfl rfl rfl hu.rows Zs.one rfl om (fun l42 p42 c42 hv42=>?_))
 refine ⟨⟨Kn.le.refl _,t1⟩,(ZaV 2 rfl hv42 Zs.mono om3 (fun B' hle'=>⟨hle',t1⟩) (fun B43 hle43 hr43=>?_))⟩
 obtain ⟨hu,hf,hi⟩:=up3 hle43 hu hf hi
 have hr43n:=hr43.len
 refine Zak [6,9] kr kr kr ⟨?_,?_⟩
 refine (Zu (parts:=[]) [] rfl rfl Tryz.underlying24 Zbq ZdF rfl rfl rfl rfl rfl (fun b44=>⟨⟨hle43,t1⟩,(Zq 9 kr rfl kr (Zbs rfl rfl ZkK rfl (ZaE _ _ x.queue _ hi) ?_))⟩))
 rintro _ B45 _ hle45 ⟨l45,a45,c45,rfl,rfl,hv45⟩
 obtain ⟨hu,hf,hi,hr43⟩:=up4 hle45 hu hf hi hr43
 replace hv45:=hv45.mono Zw.mono Kn.less_le
 refine ⟨⟨(hle43.trans hle45),t1⟩,(ZaV 5 rfl hv45 Zw.mono om3 (fun B' hle'=>⟨(hle43.trans hle45).trans hle',t1⟩) (fun B46 hle46 hr46=>?_))⟩
 obtain ⟨hu,hf,hi,hr43⟩:=up4 hle46 hu hf hi hr43
 have hr46n:=hr46.len
 refine aT 10 rfl (ZB fun D B L hI=>ZaG (parts:=[(0,_),(1,_),(2,_),(3,_)]) [_,_,_,_,_] [_,_,_,_,_] rfl rfl Zd6 Za2 rfl rfl rfl r4) (h:=ZU 12 kr rfl kr kr kr (ZF [_,_,_,_,_] 3 [_,_,_,_,_] rfl rfl Zaq rfl rfl rfl rfl rfl rfl rfl rfl ?_))
 exact ZJ ⟨⟨_,_,_,_,_⟩,⟨0,0,_,_,_,[]⟩⟩ [0,1,4,3] ⟨hr43,rfl,ZY.lit0,hr46⟩ t4 rfl
 refine (Zbs rfl rfl ZkK rfl (ZaE _ _ x.queue _ hi) ?_)
 rintro _ B47 _ hle47 ⟨l47,a47,c47,rfl,rfl,hv47⟩
 obtain ⟨hu,hf,hi,hr43⟩:=up4 hle47 hu hf hi hr43
 replace hv47:=hv47.mono Zw.mono Kn.less_le
 refine ⟨⟨(hle43.trans hle47),t1⟩,(ZaV 4 rfl hv47 Zw.mono om3 (fun B' hle'=>⟨(hle43.trans hle47).trans hle',t1⟩) (fun B48 hle48 hr48=>?_))⟩
 obtain ⟨hu,hf,hi,hr43⟩:=up4 hle48 hu hf hi hr43
 have hr48n:=hr48.len
 refine Zq 6 kr rfl kr (Zu (parts:=[]) [] rfl rfl Tryz.underlying24 Zbq ZdF rfl rfl rfl rfl rfl (fun b49=>?_))
 refine ⟨⟨((hle43.trans hle47).trans hle48),t1⟩,(aT 10 rfl (ZB fun D B L hI=>ZaG (parts:=[(0,_),(1,_),(2,_),(3,_)]) [_,_,_,_,_] [_,_,_,_,_] rfl rfl Zd6 Za2 rfl rfl rfl r4) (h:=ZU 12 kr rfl kr kr kr (ZF [_,_,_,_,_] 3 [_,_,_,_,_] rfl rfl Zaq rfl rfl rfl rfl rfl rfl rfl rfl ?_)))⟩
 exact ZJ ⟨⟨_,_,_,_,_⟩,⟨0,0,_,_,_,[]⟩⟩ [0,1,5,3] ⟨hr43,rfl,ZY.lit0,hr48⟩ t4 rfl
 refine (Zu (parts:=[]) [] rfl rfl Tryz.underlying24 Zbq ZdF rfl rfl rfl rfl rfl (fun b50=>⟨⟨Kn.le.refl _,t1⟩,(Zq 5 kr rfl kr (ZaY (R:=Zs) 2 rfl (ZY.lit0 (R:=Zs)) rfl rfl rfl ZoJ Zod rfl rfl rfl hu.rows Zs.one rfl om (fun l51 p51 c51 hv51=>?_)))⟩))
 refine ⟨⟨Kn.le.refl _,t1⟩,(ZaV 2 rfl hv51 Zs.mono om3 (fun B' hle'=>⟨hle',t1⟩) (fun B52 hle52 hr52=>?_))⟩
 obtain ⟨hu,hf,hi⟩:=up3 hle52 hu hf hi
 have hr52n:=hr52.len
 refine Zq 9 kr rfl kr (Zbs rfl rfl ZkK rfl (ZaE _ _ x.queue _ hi) ?_)
 rintro _ B53 _ hle53 ⟨l53,a53,c53,rfl,rfl,hv53⟩
 obtain ⟨hu,hf,hi,hr52⟩:=up4 hle53 hu hf hi hr52
 replace hv53:=hv53.mono Zw.mono Kn.less_le
 refine ⟨⟨(hle52.trans hle53),t1⟩,(ZaV 5 rfl hv53 Zw.mono om3 (fun B' hle'=>⟨(hle52.trans hle53).trans hle',t1⟩) (fun B54 hle54 hr54=>?_))⟩
 obtain ⟨hu,hf,hi,hr52⟩:=up4 hle54 hu hf hi hr52
 have hr54n:=hr54.len
 refine aT 10 rfl (ZB fun D B L hI=>ZaG (parts:=[(0,_),(1,_),(2,_),(3,_)]) [_,_,_,_,_] [_,_,_,_,_] rfl rfl Zd6 Za2 rfl rfl rfl r4) (h:=ZU 12 kr rfl kr kr kr (ZF [_,_,_,_,_] 3 [_,_,_,_,_] rfl rfl Zaq rfl rfl rfl rfl rfl rfl rfl rfl ?_))
 exact ZJ ⟨⟨_,_,_,_,_⟩,⟨0,0,_,_,_,[]⟩⟩ [0,1,4,3] ⟨hr52,rfl,ZY.lit0,hr54⟩ t4 rfl
 refine (Zu (parts:=[]) [] rfl rfl Tryz.underlying24 Zbq ZdF rfl rfl rfl rfl rfl (fun b55=>⟨⟨Kn.le.refl _,t1⟩,(Zak [2,11] kr kr kr ⟨?_,?_⟩)⟩))
 refine (Zu (parts:=[]) [] rfl rfl Tryz.underlying23 Ze3 Zgy rfl rfl rfl rfl rfl (fun b56=>⟨⟨Kn.le.refl _,t1⟩,(Zak [5,11] kr kr kr ⟨?_,?_⟩)⟩))
 refine (ZaY (R:=Zs) 3 rfl (ZY.lit0 (R:=Zs)) rfl rfl rfl ZoJ Zod rfl rfl rfl hu.rows Zs.one rfl om (fun l57 p57 c57 hv57=>?_))
 refine ⟨⟨Kn.le.refl _,t1⟩,(ZaV 3 rfl hv57 Zs.mono om3 (fun B' hle'=>⟨hle',t1⟩) (fun B58 hle58 hr58=>?_))⟩
 obtain ⟨hu,hf,hi⟩:=up3 hle58 hu hf hi
 have hr58n:=hr58.len
 refine Zak [9,11] kr kr kr ⟨?_,?_⟩
 refine (Zbs rfl rfl ZkK rfl (ZaE _ _ x.queue _ hi) ?_)
 rintro _ B59 _ hle59 ⟨l59,a59,c59,rfl,rfl,hv59⟩
 obtain ⟨hu,hf,hi,hr58⟩:=up4 hle59 hu hf hi hr58
 replace hv59:=hv59.mono Zw.mono Kn.less_le
 refine ⟨⟨(hle58.trans hle59),t1⟩,(ZaV 4 rfl hv59 Zw.mono om3 (fun B' hle'=>⟨(hle58.trans hle59).trans hle',t1⟩) (fun B60 hle60 hr60=>?_))⟩
 obtain ⟨hu,hf,hi,hr58⟩:=up4 hle60 hu hf hi hr58
 have hr60n:=hr60.len
 refine aT 10 rfl (ZB fun D B L hI=>ZaG (parts:=[(0,_),(1,_),(2,_),(3,_)]) [_,_,_,_,_] [_,_,_,_,_] rfl rfl Zd6 Za2 rfl rfl rfl r4) (h:=Zq 11 kr rfl kr (Zai (l:=[_,_,_,_,_]) rfl rfl Za2 rfl (fun b61=>?_)))
 refine ⟨⟨((hle58.trans hle59).trans hle60),t1⟩,(ZU 12 kr rfl kr kr kr (ZF [_,_,_,_,_] 5 [_,_,_,_,_] rfl rfl Zaq rfl rfl rfl rfl rfl rfl rfl rfl ?_))⟩
 exact ZJ ⟨⟨_,_,_,_,_⟩,⟨0,0,_,_,_,[]⟩⟩ [0,1,2,5] ⟨hr58,rfl,ZY.lit0,hr60⟩ t4 rfl
 refine (Zai (l:=[_,_,_,_,_]) rfl rfl Za2 rfl (fun b62=>⟨⟨hle58,t1⟩,(Zq 9 kr rfl kr (Zbs rfl rfl ZkK rfl (ZaE _ _ x.queue _ hi) ?_))⟩))
 rintro _ B63 _ hle63 ⟨l63,a63,c63,rfl,rfl,hv63⟩
 obtain ⟨hu,hf,hi,hr58⟩:=up4 hle63 hu hf hi hr58
 replace hv63:=hv63.mono Zw.mono Kn.less_le
 refine ⟨⟨(hle58.trans hle63),t1⟩,(ZaV 5 rfl hv63 Zw.mono om3 (fun B' hle'=>⟨(hle58.trans hle63).trans hle',t1⟩) (fun B64 hle64 hr64=>?_))⟩
 obtain ⟨hu,hf,hi,hr58⟩:=up4 hle64 hu hf hi hr58
 have hr64n:=hr64.len
 refine aT 10 rfl (ZB fun D B L hI=>ZaG (parts:=[(0,_),(1,_),(2,_),(3,_)]) [_,_,_,_,_] [_,_,_,_,_] rfl rfl Zd6 Za2 rfl rfl rfl r4) (h:=ZU 12 kr rfl kr kr kr (ZF [_,_,_,_,_] 4 [_,_,_,_,_] rfl rfl Zaq rfl rfl rfl rfl rfl rfl rfl rfl ?_))
 exact ZJ ⟨⟨_,_,_,_,_⟩,⟨0,0,_,_,_,[]⟩⟩ [0,1,2,4] ⟨hr58,rfl,ZY.lit0,hr64⟩ t4 rfl
 refine (Zai (l:=[_,_,_,_,_]) rfl rfl Za2 rfl (fun b65=>⟨⟨Kn.le.refl _,t1⟩,(Zq 5 kr rfl kr (ZaY (R:=Zs) 3 rfl (ZY.lit0 (R:=Zs)) rfl rfl rfl ZoJ Zod rfl rfl rfl hu.rows Zs.one rfl om (fun l66 p66 c66 hv66=>?_)))⟩))
 refine ⟨⟨Kn.le.refl _,t1⟩,(ZaV 3 rfl hv66 Zs.mono om3 (fun B' hle'=>⟨hle',t1⟩) (fun B67 hle67 hr67=>?_))⟩
 obtain ⟨hu,hf,hi⟩:=up3 hle67 hu hf hi
 have hr67n:=hr67.len
 refine Zq 9 kr rfl kr (Zbs rfl rfl ZkK rfl (ZaE _ _ x.queue _ hi) ?_)
 rintro _ B68 _ hle68 ⟨l68,a68,c68,rfl,rfl,hv68⟩
 obtain ⟨hu,hf,hi,hr67⟩:=up4 hle68 hu hf hi hr67
 replace hv68:=hv68.mono Zw.mono Kn.less_le
 refine ⟨⟨(hle67.trans hle68),t1⟩,(ZaV 5 rfl hv68 Zw.mono om3 (fun B' hle'=>⟨(hle67.trans hle68).trans hle',t1⟩) (fun B69 hle69 hr69=>?_))⟩
 obtain ⟨hu,hf,hi,hr67⟩:=up4 hle69 hu hf hi hr67
 have hr69n:=hr69.len
 refine aT 10 rfl (ZB fun D B L hI=>ZaG (parts:=[(0,_),(1,_),(2,_),(3,_)]) [_,_,_,_,_] [_,_,_,_,_] rfl rfl Zd6 Za2 rfl rfl rfl r4) (h:=ZU 12 kr rfl kr kr kr (ZF [_,_,_,_,_] 4 [_,_,_,_,_] rfl rfl Zaq rfl rfl rfl rfl rfl rfl rfl rfl ?_))
 exact ZJ ⟨⟨_,_,_,_,_⟩,⟨0,0,_,_,_,[]⟩⟩ [0,1,2,4] ⟨hr67,rfl,ZY.lit0,hr69⟩ t4 rfl
 refine (Zai (l:=[_,_,_,_,_]) rfl rfl Za2 rfl (fun b70=>⟨⟨Kn.le.refl _,t1⟩,(Zq 2 kr rfl kr (Zu (parts:=[]) [] rfl rfl Tryz.underlying23 Ze3 Zgy rfl rfl rfl rfl rfl (fun b71=>?_)))⟩))
 refine ⟨⟨Kn.le.refl _,t1⟩,(Zq 5 kr rfl kr (ZaY (R:=Zs) 4 rfl (ZY.lit0 (R:=Zs)) rfl rfl rfl ZoJ Zod rfl rfl rfl hu.rows Zs.one rfl om (fun l72 p72 c72 hv72=>?_)))⟩
 refine ⟨⟨Kn.le.refl _,t1⟩,(ZaV 4 rfl hv72 Zs.mono om3 (fun B' hle'=>⟨hle',t1⟩) (fun B73 hle73 hr73=>?_))⟩
 obtain ⟨hu,hf,hi⟩:=up3 hle73 hu hf hi
 have hr73n:=hr73.len
 refine Zq 9 kr rfl kr (Zbs rfl rfl ZkK rfl (ZaE _ _ x.queue _ hi) ?_)
 rintro _ B74 _ hle74 ⟨l74,a74,c74,rfl,rfl,hv74⟩
 obtain ⟨hu,hf,hi,hr73⟩:=up4 hle74 hu hf hi hr73
 replace hv74:=hv74.mono Zw.mono Kn.less_le
 refine ⟨⟨(hle73.trans hle74),t1⟩,(ZaV 5 rfl hv74 Zw.mono om3 (fun B' hle'=>⟨(hle73.trans hle74).trans hle',t1⟩) (fun B75 hle75 hr75=>?_))⟩
 obtain ⟨hu,hf,hi,hr73⟩:=up4 hle75 hu hf hi hr73
 have hr75n:=hr75.len
 refine aT 10 rfl (ZB fun D B L hI=>ZaG (parts:=[(0,_),(1,_),(2,_),(3,_)]) [_,_,_,_,_] [_,_,_,_,_] rfl rfl Zd6 Za2 rfl rfl rfl r4) (h:=ZU 12 kr rfl kr kr kr (ZF [_,_,_,_,_] 3 [_,_,_,_,_] rfl rfl Zaq rfl rfl rfl rfl rfl rfl rfl rfl ?_))
 exact ZJ ⟨⟨_,_,_,_,_⟩,⟨0,0,_,_,_,[]⟩⟩ [0,1,2,3] ⟨hr73,rfl,ZY.lit0,hr75⟩ t4 rfl
 refine (Zai (l:=[_,_,_,_,_]) rfl rfl Za2 rfl (fun b76=>⟨⟨Kn.le.refl _,t1⟩,(Zak [2,6] kr kr kr ⟨?_,?_⟩)⟩))
 refine (Zu (parts:=[]) [] rfl rfl Tryz.underlying23 Ze3 Zgy rfl rfl rfl rfl rfl (fun b77=>⟨⟨Kn.le.refl _,t1⟩,(Zak [5,6] kr kr kr ⟨?_,?_⟩)⟩))
 refine (ZaY (R:=Zs) 3 rfl (ZY.lit0 (R:=Zs)) rfl rfl rfl ZoJ Zod rfl rfl rfl hu.rows Zs.one rfl om (fun l78 p78 c78 hv78=>?_))
 refine ⟨⟨Kn.le.refl _,t1⟩,(ZaV 3 rfl hv78 Zs.mono om3 (fun B' hle'=>⟨hle',t1⟩) (fun B79 hle79 hr79=>?_))⟩
 obtain ⟨hu,hf,hi⟩:=up3 hle79 hu hf hi
 have hr79n:=hr79.len
 refine Zak [6,9] kr kr kr ⟨?_,?_⟩
 refine (Zu (parts:=[]) [] rfl rfl Tryz.underlying24 Zbq ZdF rfl rfl rfl rfl rfl (fun b80=>⟨⟨hle79,t1⟩,(Zq 9 kr rfl kr (Zbs rfl rfl ZkK rfl (ZaE _ _ x.queue _ hi) ?_))⟩))
 rintro _ B81 _ hle81 ⟨l81,a81,c81,rfl,rfl,hv81⟩
 obtain ⟨hu,hf,hi,hr79⟩:=up4 hle81 hu hf hi hr79
 replace hv81:=hv81.mono Zw.mono Kn.less_le
 refine ⟨⟨(hle79.trans hle81),t1⟩,(ZaV 5 rfl hv81 Zw.mono om3 (fun B' hle'=>⟨(hle79.trans hle81).trans hle',t1⟩) (fun B82 hle82 hr82=>?_))⟩
 obtain ⟨hu,hf,hi,hr79⟩:=up4 hle82 hu hf hi hr79
 have hr82n:=hr82.len
 refine aT 10 rfl (ZB fun D B L hI=>ZaG (parts:=[(0,_),(1,_),(2,_),(3,_)]) [_,_,_,_,_] [_,_,_,_,_] rfl rfl Zd6 Za2 rfl rfl rfl r4) (h:=ZU 12 kr rfl kr kr kr (ZF [_,_,_,_,_] 2 [_,_,_,_,_] rfl rfl Zaq rfl rfl rfl rfl rfl rfl rfl rfl ?_))
 exact ZJ ⟨⟨_,_,_,_,_⟩,⟨0,0,_,_,_,[]⟩⟩ [0,1,4,2] ⟨hr79,rfl,ZY.lit0,hr82⟩ t4 rfl
 refine (Zbs rfl rfl ZkK rfl (ZaE _ _ x.queue _ hi) ?_)
 rintro _ B83 _ hle83 ⟨l83,a83,c83,rfl,rfl,hv83⟩
 obtain ⟨hu,hf,hi,hr79⟩:=up4 hle83 hu hf hi hr79
 replace hv83:=hv83.mono Zw.mono Kn.less_le
 refine ⟨⟨(hle79.trans hle83),t1⟩,(ZaV 4 rfl hv83 Zw.mono om3 (fun B' hle'=>⟨(hle79.trans hle83).trans hle',t1⟩) (fun B84 hle84 hr84=>?_))⟩
 obtain ⟨hu,hf,hi,hr79⟩:=up4 hle84 hu hf hi hr79
 have hr84n:=hr84.len
 refine Zq 6 kr rfl kr (Zu (parts:=[]) [] rfl rfl Tryz.underlying24 Zbq ZdF rfl rfl rfl rfl rfl (fun b85=>?_))
 refine ⟨⟨((hle79.trans hle83).trans hle84),t1⟩,(aT 10 rfl (ZB fun D B L hI=>ZaG (parts:=[(0,_),(1,_),(2,_),(3,_)]) [_,_,_,_,_] [_,_,_,_,_] rfl rfl Zd6 Za2 rfl rfl rfl r4) (h:=ZU 12 kr rfl kr kr kr (ZF [_,_,_,_,_] 2 [_,_,_,_,_] rfl rfl Zaq rfl rfl rfl rfl rfl rfl rfl rfl ?_)))⟩
 exact ZJ ⟨⟨_,_,_,_,_⟩,⟨0,0,_,_,_,[]⟩⟩ [0,1,5,2] ⟨hr79,rfl,ZY.lit0,hr84⟩ t4 rfl
 refine (Zu (parts:=[]) [] rfl rfl Tryz.underlying24 Zbq ZdF rfl rfl rfl rfl rfl (fun b86=>⟨⟨Kn.le.refl _,t1⟩,(Zq 5 kr rfl kr (ZaY (R:=Zs) 3 rfl (ZY.lit0 (R:=Zs)) rfl rfl rfl ZoJ Zod rfl rfl rfl hu.rows Zs.one rfl om (fun l87 p87 c87 hv87=>?_)))⟩))
 refine ⟨⟨Kn.le.refl _,t1⟩,(ZaV 3 rfl hv87 Zs.mono om3 (fun B' hle'=>⟨hle',t1⟩) (fun B88 hle88 hr88=>?_))⟩
 obtain ⟨hu,hf,hi⟩:=up3 hle88 hu hf hi
 have hr88n:=hr88.len
 refine Zq 9 kr rfl kr (Zbs rfl rfl ZkK rfl (ZaE _ _ x.queue _ hi) ?_)
 rintro _ B89 _ hle89 ⟨l89,a89,c89,rfl,rfl,hv89⟩
 obtain ⟨hu,hf,hi,hr88⟩:=up4 hle89 hu hf hi hr88
 replace hv89:=hv89.mono Zw.mono Kn.less_le
 refine ⟨⟨(hle88.trans hle89),t1⟩,(ZaV 5 rfl hv89 Zw.mono om3 (fun B' hle'=>⟨(hle88.trans hle89).trans hle',t1⟩) (fun B90 hle90 hr90=>?_))⟩
 obtain ⟨hu,hf,hi,hr88⟩:=up4 hle90 hu hf hi hr88
 have hr90n:=hr90.len
 refine aT 10 rfl (ZB fun D B L hI=>ZaG (parts:=[(0,_),(1,_),(2,_),(3,_)]) [_,_,_,_,_] [_,_,_,_,_] rfl rfl Zd6 Za2 rfl rfl rfl r4) (h:=ZU 12 kr rfl kr kr kr (ZF [_,_,_,_,_] 2 [_,_,_,_,_] rfl rfl Zaq rfl rfl rfl rfl rfl rfl rfl rfl ?_))
 exact ZJ ⟨⟨_,_,_,_,_⟩,⟨0,0,_,_,_,[]⟩⟩ [0,1,4,2] ⟨hr88,rfl,ZY.lit0,hr90⟩ t4 rfl
 refine (Zu (parts:=[]) [] rfl rfl Tryz.underlying24 Zbq ZdF rfl rfl rfl rfl rfl (fun b91=>⟨⟨Kn.le.refl _,t1⟩,(Zq 2 kr rfl kr (Zu (parts:=[]) [] rfl rfl Tryz.underlying23 Ze3 Zgy rfl rfl rfl rfl rfl (fun b92=>?_)))⟩))
 refine ⟨⟨Kn.le.refl _,t1⟩,(Zq 5 kr rfl kr (ZaY (R:=Zs) 4 rfl (ZY.lit0 (R:=Zs)) rfl rfl rfl ZoJ Zod rfl rfl rfl hu.rows Zs.one rfl om (fun l93 p93 c93 hv93=>?_)))⟩
 refine ⟨⟨Kn.le.refl _,t1⟩,(ZaV 4 rfl hv93 Zs.mono om3 (fun B' hle'=>⟨hle',t1⟩) (fun B94 hle94 hr94=>?_))⟩
 obtain ⟨hf,hi⟩:=up2 hle94 hf hi
 have hr94n:=hr94.len
 refine Zq 9 kr rfl kr (Zbs rfl rfl ZkK rfl (ZaE _ _ x.queue _ hi) ?_)
 rintro _ B95 _ hle95 ⟨l95,a95,c95,rfl,rfl,hv95⟩
 obtain ⟨hf,hr94⟩:=up2 hle95 hf hr94
 replace hv95:=hv95.mono Zw.mono Kn.less_le
 refine ⟨⟨(hle94.trans hle95),t1⟩,(ZaV 5 rfl hv95 Zw.mono om3 (fun B' hle'=>⟨(hle94.trans hle95).trans hle',t1⟩) (fun B96 hle96 hr96=>?_))⟩
 obtain ⟨hf,hr94⟩:=up2 hle96 hf hr94
 have hr96n:=hr96.len
 refine aT 10 rfl (ZB fun D B L hI=>ZaG (parts:=[(0,_),(1,_),(2,_),(3,_)]) [_,_,_,_,_] [_,_,_,_,_] rfl rfl Zd6 Za2 rfl rfl rfl r4) (h:=ZU 12 kr rfl kr kr kr (ZF [_,_,_,_,_] 2 [_,_,_,_,_] rfl rfl Zaq rfl rfl rfl rfl rfl rfl rfl rfl ?_))
 exact ZJ ⟨⟨_,_,_,_,_⟩,⟨0,0,_,_,_,[]⟩⟩ [0,1,3,2] ⟨hr94,rfl,ZY.lit0,hr96⟩ t4 rfl
 obtain ⟨hou,hoe,hv0,hoi⟩:=hF
 replace hf:=up1 hle3 hf
 refine ZM [(0,_),(1,_),(2,_),(3,_)] [_,_,_,_] t4 rfl (Zg (Za (xA (h:=Zl (ZO (α:=Gh DFolder) [0,1,2,3] (fun g=>[(4,.int .i64 g.k)]) [2,3] (fun g=>[g.l,Zah o.1.b [str x.domain,.slice o.1.q1 x.users.length o.1.c1,.slice g.a g.xs.length g.c,.int .i64 x.queue.next,.slice o.1.q3 x.queue.items.length o.1.c3] 29]) (fun g Bx=>g.k≤x.folders.length∧g.xs=x.folders.take g.k∧ZY Bx g.l g.a g.c 42 5 Ze g.xs) (fun g=>x.folders.length - g.k) ⟨0,0,_,_,_,_⟩ t1 rfl (⟨Nat.zero_le _,by rw [hoe];rfl,hv0⟩) (fun g B97 hle97 hI=>?_))))))
 obtain ⟨hk,hxs,hv⟩:=hI
 have hxn:=congrArg List.length hxs
 rw [List.length_take] at hxn
 obtain ⟨hf,hou,hoi⟩:=up3 hle97 hf hou hoi
 refine ZM [(0,_),(1,_),(2,_),(3,_),(4,_)] [_,_,_,_] t5 rfl (Zg (Za (xM (h:=xW Z4 (h:=x1 ZcJ 0 (h:=xV Tryz.underlying24 (h:=Zaf (h:=Zb rfl (fun g1=>?_) (fun g1=>?_)))))))))
 try simp only [sQ,ne_eq] at g1
 refine wSk (Zg (Zl (Z0 (keeps _ [0,3] _) mo kr ⟨Kn.le.refl _,Zad.refl _ _⟩ (fun _ _=>?_))))
 refine aW 0 rfl Z4 (h:=aT 1 rfl (ZB fun D B L hI=>Zf rfl rfl ZcJ rfl (atL 3 (hI.2.2.1.trans rfl) rfl rfl) r4) (h:=aW 2 rfl Z4 (h:=aT 3 rfl (ZB fun D B L hI=>Zf rfl rfl ZcJ rfl (atL 0 (hI.2.1.trans rfl) rfl rfl) r4) (h:=aM 4 rfl (h:=?_)))))
 obtain ⟨w,hw⟩:=Zag (xs:=x.folders) (i:=g.k) om
 obtain ⟨bb99,oo99,rfl⟩:=hf.base hw
 obtain ⟨_,⟨qg100,cg100,qm100,cm100,rfl,hg100,hm100,hb100,hb100b⟩,hc100⟩:=hf.elem hw
 have hg100n:=hg100.len
 have hm100n:=hm100.len
 have hm100s:=Z7 hm100
 refine aIx 5 rfl Tryz.underlying24 Zbq (h:=aT 6 rfl (ZB fun D B L hI=>ZT [_,_,_,_,_] rfl rfl ZhQ rfl (ZiO (hc100.mono hI.1) 0 rfl rfl) r4) (h:=Zq 7 kr rfl kr (Zbs rfl rfl ZzB rfl (ZnB _ _ _ _ w _ hg100 hm100) ?_)))
 rintro _ B101 _ hle101 ⟨rfl,l101,a101,c101,l101b,a101b,c101b,rfl,rfl,hs101,hs101b⟩
 refine ⟨⟨Kn.le.refl _,t2⟩,(ZaV 4 rfl hs101 ZZ.mono om3 (fun B' hle'=>⟨hle',t2⟩) (fun B102 hle102 hr102=>?_))⟩
 replace hv:=hv.mono Ze.mono hle102
 replace hou:=hou.mono Zs.mono hle102
 replace hoi:=hoi.mono Zw.mono hle102
 replace hs101b:=hs101b.mono ZN.mono hle102
 have hr102n:=hr102.len
 refine ZaV 5 rfl hs101b ZN.mono (by first | omega | decide | (simp;done) | (simp;omega)) (fun B' hle'=>⟨hle102.trans hle',⟨rfl,rfl,trivial⟩⟩) (fun B103 hle103 hr103=>?_)
 replace hr102:=up1 hle103 hr102
 replace hv:=hv.mono Ze.mono hle103
 obtain ⟨hou,hoi⟩:=up2 hle103 hou hoi
 have hr103n:=hr103.len
 refine Zq 8 kr rfl kr (Zu (parts:=[(0,_)]) [_,_,_,_,_] rfl rfl Tryz.underlying24 Zbq ZdF rfl rfl rfl rfl rfl (fun b104=>?_))
 refine ⟨⟨(hle102.trans hle103),t2⟩,(Zq 9 kr rfl kr (Zbg (z:=⟨w.owner,w.name,w.grants,w.next,w.mail⟩) (R:=Ze) 2 rfl hv rfl rfl rfl ZjF ZjV rfl rfl (ZaQ.box 6 rfl) rfl rfl (⟨_,_,_,_,rfl,hr102,hr103,by first | assumption | omega | (simp;done) | (simp;omega),by first | assumption | omega | (simp;done) | (simp;omega)⟩) om (fun l105 p105 c105 hv105=>?_)))⟩
 refine ⟨⟨(hle102.trans hle103),t2⟩,(aW 10 rfl Z4 (h:=ZU 11 kr rfl kr kr kr (ZF [_] 3 [_,_,_,_,_] rfl rfl Zsl rfl rfl rfl rfl rfl rfl rfl rfl ?_)))⟩
 refine ZA (Zj (Zc (xM (h:=xD (h:=xA (h:=?_))))))
 exact ZD ⟨g.k+1,0,l105,p105,c105,(g.xs ++ [⟨w.owner,w.name,w.grants,w.next,w.mail⟩])⟩ [0,1,2,3] so2 ⟨so,by simp only [];rw [Zay hw,hxs],hv105⟩ t5 rfl
 try simp only [sQ,ne_eq] at g1
 have hxe:g.xs=x.folders:=by rw [hxs];exact List.take_of_length_le oz
 refine ZS (Zae (ZX (ZI (Zj (Za (xL [_,_,_,_,_] ZW 3 (h:=xS [_,_,_,_,_] 1 [_,_,_,_,_] Zaq (h:=tL4 (Zd ?_)))))))))
 exact Zas .ret (.inl rfl) [_] [2] rfl ⟨⟨_,rfl,.inr ⟨[_,_,_,_,_],ZW,Z9 1 rfl rfl rfl,rfl⟩⟩,trivial⟩ ⟨_,_,_,_,_,_,_,rfl,by rw [← hxe];rfl,hou,hxe ▸ hv,hoi⟩

theorem Zi7 (q:Option Addr) (cp:Nat) (x:DBox) (fl:Int) (t:Str) (ht:t.length≤2000000) (hb:Zbk x=true) (B:Kn) (hm:SlK B q cp 3 ZN x.mail):Zv (pj J) 84 [.agg #[.int .i64 x.next,.slice q x.mail.length cp],.int .i64 fl,str t] B [] (fun v B' Ls=>∃l a c,Ls=[l]∧v = .tuple #[.agg #[.int .i64 (ZeI x fl t).1.next,.slice a (ZeI x fl t).1.mail.length c],.bool (ZeI x fl t).2]∧ZY B' l a c 97 3 ZN (ZeI x fl t).1.mail):=by
 refine cB 36 Tryz.func84 (h:=?_)
 have hxn:=hm.len
 have hbn:=Zca hb
 refine Za (xBx [_,_] (h:=fun b1=>xAl [_,_] Ze6 (h:=fun b2=>xA (h:=tL2 (Za (xL [_,_] ZbA 0 (h:=xC Zvx rfl (Zi6 _ _ (⟨x.next,x.mail⟩:DBox) _ hm) (h:=?_))))))))
 rintro _ B3 _ hle3 ⟨hB3,l3,a3,c3,rfl,rfl,hs3⟩
 have hB3:=hB3.symm
 subst hB3
 refine xAl [_,_] Ze6 (h:=fun b4=>xS [_,_] 3 [_,_] ZcE (h:=tL4 (Zg (Za (xW ZaP (h:=x1 Zfl 0 (h:=xV Tryz.underlying38 (h:=Zeo (h:=xM (h:=Zo (d:=15) rfl (fun g1=>?_) (fun g1=>?_)))))))))))
 try simp only [sQ,ne_eq] at g1
 have hae:=Zg9 (fl:=fl) (t:=t) (b:=x) (.inl oz)
 rw [hae]
 refine xP (h:=xP (h:=xP (h:=xT (h:=Zb (t:=true) rfl (fun _=>Za (xL [_,_] ZbA 3 (h:=xS [_,_] 1 [_,_] ZcE (h:=xA (h:=tL4 (Zd (Zp ?_))))))) (fun h=>Bool.noConfusion h)))))
 exact Zas .ret (.inl rfl) [_,_] [2] rfl ⟨⟨_,rfl,.inr ⟨[_,_],ZbA,Z9 1 rfl rfl rfl,rfl⟩⟩,rfl,trivial⟩ ⟨_,_,_,rfl,rfl,hs3⟩
 try simp only [sQ,ne_eq] at g1
 refine xW ZbR (h:=x1 lk3 0 (h:=Zbp (h:=xF (h:=Zb rfl (fun g2=>?_) (fun g2=>?_)))))
 try simp only [sQ,ne_eq] at g2
 have hae:=Zg9 (fl:=fl) (t:=t) (b:=x) (.inr oz)
 rw [hae]
 refine Za (xL [_,_] ZbA 3 (h:=xS [_,_] 1 [_,_] ZcE (h:=xA (h:=tL4 (Zd (Zp ?_))))))
 exact Zas .ret (.inl rfl) [_,_] [2] rfl ⟨⟨_,rfl,.inr ⟨[_,_],ZbA,Z9 1 rfl rfl rfl,rfl⟩⟩,rfl,trivial⟩ ⟨_,_,_,rfl,rfl,hs3⟩
 try simp only [sQ,ne_eq] at g2
 have hae:=Zsc (fl:=fl) (t:=t) (b:=x) oz
 rw [hae]
 refine wSk (Za (xW ZaP (h:=x1 Zfl 3 (h:=xW ZbR (h:=x1 lk3 0 (h:=xM (h:=xM (h:=xB [(0,_),(1,_),(2,_)] [_,_,_] [_,_,_] ZyW ZlB (h:=xBs [(0,_)] [_,_,_] Tryz.underlying38 Zgx ZlB (h:=fun b5=>Zn (Zbg (z:=⟨x.next,fl,t⟩) (R:=ZN) 2 rfl hs3 rfl rfl rfl ZvO Zwn rfl rfl (ZaQ.box 4 rfl) rfl rfl (⟨rfl,by first | assumption | omega | (simp;done) | (simp;omega)⟩) om (fun l6 p6 c6 hv6=>?_))))))))))))
 refine xW ZaP (h:=xS [_] 3 [_,_] ZxG (h:=tL5 (Za (xW ZbR (h:=x1 lk3 0 (h:=xD (h:=xW ZbR (h:=xS [_] 3 [_,_] sz3 (h:=tL5 (Za (xL [_,_] ZbA 3 (h:=xS [_,_] 1 [_,_] ZcE (h:=xA (h:=tL5 (Zd ?_)))))))))))))))
 exact Zas .ret (.inl rfl) [_,_] [2] rfl ⟨⟨_,rfl,.inr ⟨[_,_],ZbA,Z9 1 rfl rfl rfl,rfl⟩⟩,rfl,trivial⟩ ⟨_,_,_,rfl,rfl,hv6⟩

theorem Zig (q1 q2 q3:Option Addr) (c1 c2 c3:Nat) (x:DHost) (k fl:Int) (t:Str) (ht:t.length≤20) (hok:Zx x=true) (hk0:0≤k) (hk1:k<x.folders.length) (hd:x.domain.length≤2000000) (B:Kn) (hu:SlK B q1 c1 3 Zs x.users) (hf:SlK B q2 c2 5 Ze x.folders) (hi:SlK B q3 c3 4 Zw x.queue.items):Zv (pj J) 33 [.agg #[str x.domain,.slice q1 x.users.length c1,.slice q2 x.folders.length c2,.int .i64 x.queue.next,.slice q3 x.queue.items.length c3],.int .i64 k,.int .i64 fl,str t] B [] (fun v B' Ls=>Ls=[]∧∃p1 d1 p2 d2 p3 d3,v = .tuple #[.agg #[str (Zam x k.toNat fl t).1.domain,.slice p1 (Zam x k.toNat fl t).1.users.length d1,.slice p2 (Zam x k.toNat fl t).1.folders.length d2,.int .i64 (Zam x k.toNat fl t).1.queue.next,.slice p3 (Zam x k.toNat fl t).1.queue.items.length d3],.int .i64 (Zam x k.toNat fl t).2]∧SlK B' p1 d1 3 Zs (Zam x k.toNat fl t).1.users∧SlK B' p2 d2 5 Ze (Zam x k.toNat fl t).1.folders∧SlK B' p3 d3 4 Zw (Zam x k.toNat fl t).1.queue.items∧(Zam x k.toNat fl t).1.domain.length≤2000000):=by
 refine cB 61 Tryz.func33 (h:=?_)
 have hun:=hu.len
 have hfn:=hf.len
 have hin:=hi.len
 obtain ⟨f,hf0⟩ :∃f,x.folders[k.toNat]? = some f:=⟨_,List.getElem?_eq_getElem oz⟩
 have hfo:=ZaK hok hf0
 have hbo:=Zby hfo
 have hub:=Zjg hok f.owner
 have hoi:0≤Zds x.users f.owner:=Za6.2 (ZgS hfo)
 have hol:=Zrj x.users f.owner
 refine Za (xBx [_,_,_,_,_] (h:=fun b1=>xAl [_,_,_,_,_] Za2 (h:=fun b2=>xA (h:=tL2 (Za (xL [_,_,_,_,_] ZW 0 (h:=xC ZoL rfl (Zbn _ _ _ _ _ _ x _ hu hf hi) (h:=?_))))))))
 rintro _ B3 _ hle3 ⟨l3,a3,c3,q13,c13,q33,c33,rfl,rfl,hu3,hs3,hi3⟩
 obtain ⟨hu,hf⟩:=up2 hle3 hu hf
 have hu3n:=hu3.len
 have hi3n:=hi3.len
 refine xAl [_,_,_,_,_] Za2 (h:=fun b4=>xS [_,_,_,_,_] 3 [_,_,_,_,_] Zaq (h:=tL4 (Za (xW Z4 (h:=x1 ZcJ 0 (h:=xM (h:=?_)))))))
 obtain ⟨bb5,oo5,rfl⟩:=hf.base hf0
 obtain ⟨_,⟨qg6,cg6,qm6,cm6,rfl,hg6,hm6,hb6,hb6b⟩,hc6⟩:=hf.elem hf0
 have hg6n:=hg6.len
 have hm6n:=hm6.len
 have hm6s:=Z7 hm6
 refine xIx Tryz.underlying24 Zbq (h:=xW Zdc (h:=y1 lk9 hc6 0 (h:=xA (h:=Zg (Zg (Z0 (same _ _) mo kr ⟨rfl,rfl⟩ (fun _ _=>?_)))))))
 refine aT 0 rfl (Zar fun D=>ZT [_,_,_,_,_] rfl rfl ZW rfl (Z9 0 rfl rfl rfl) r4) (h:=aM 1 rfl (h:=aT 2 rfl (Zar fun D=>Zbc rfl rfl Zy2 rfl (Zml _ _ _ _ _ _ x _ _ hf) r4) (h:=aM 3 rfl (h:=aT 4 rfl (Zar fun D=>Zn6 rfl rfl Tryz.underlying9 rfl r4) (h:=aD 5 rfl (h:=aW 6 rfl ZbS (h:=aT 7 rfl (Zar fun D=>Zf rfl rfl Zi1 rfl (atL 0 rfl rfl rfl) r4) (h:=aW 8 rfl ZbS (h:=aT 9 rfl (Zar fun D=>Zf rfl rfl Zi1 rfl (atL 0 rfl rfl rfl) r4) (h:=aM 10 rfl (h:=aT 11 rfl (Zar fun D=>Zbc rfl rfl Zt9 rfl (Zdb _ _ _ _ _ hu) r4) (h:=?_))))))))))))
 obtain ⟨w,hw⟩:=ZeB (xs:=x.users) (i:=(Zds x.users f.owner)) om om
 obtain ⟨bb10,oo10,rfl⟩:=hu.base hw
 obtain ⟨_,⟨rfl,hb11,hb11b⟩,hc11⟩:=hu.elem hw
 refine aIx 12 rfl Tryz.underlying23 Ze3 (h:=?_)
 have hqe:Zcq x.users f.owner=w.quota:=by simp only [Zcq,hw]
 refine aW 13 rfl ZhZ (h:=aT 14 rfl (Zar fun D=>Zf rfl rfl lk3 rfl (hc11 _ 2 _ rfl) r4) (h:=Zm3 15 rfl (h:=Zz kr kr ?_)))
 refine Zj (Zb rfl (fun g1=>?_) (fun g1=>?_))
 try simp only [sQ,ne_eq] at g1
 refine Za (xL [_,_,_,_,_] ZW 3 (h:=Z1 2 rfl hs3 Ze.mono om3 (fun B12 hle12 hr12=>?_)))
 obtain ⟨hu3,hi3⟩:=up2 hle12 hu3 hi3
 have hr12n:=hr12.len
 refine xS [_,_,_,_,_] 1 [_,_,_,_,_] Zaq (h:=?_)
 rw [ZeS hf0 oz]
 refine xA (h:=tL4 (Zd (Zp ?_)))
 exact Zas .ret (.inl rfl) [_,_] [] rfl ⟨⟨_,rfl,.inr ⟨[_,_,_,_,_],ZW,Z9 1 rfl rfl rfl,rfl⟩⟩,rfl,trivial⟩ ⟨rfl,_,_,_,_,_,_,(by first | rfl | (simp only [DHost.withFolders,List.length_set];rfl)),hu3,hr12,hi3,by first | assumption | (rw [ZR.2.2.1];assumption)⟩
 try simp only [sQ,ne_eq] at g1
 have hal:=ZoR (⟨f.next,f.mail⟩:DBox) fl t
 have hfl:=hbo
 have hfm:f.mail.length≤10:=(Zca hbo).2.2
 replace hal:(ZeI (⟨f.next,f.mail⟩:DBox) fl t).1.mail.length≤f.mail.length+1:=hal
 refine wSk (Za (xW Z4 (h:=x1 ZcJ 0 (h:=xM (h:=xIx Tryz.underlying24 Zbq (h:=xW ZbC (h:=yL [_,_] ZbA hc6 3 (h:=xM (h:=xM (h:=xC ZyZ rfl (Zi7 _ _ (⟨f.next,f.mail⟩:DBox) fl t oz (oy) _ hm6) (h:=?_)))))))))))
 rintro _ B13 _ hle13 ⟨l13,a13,c13,rfl,rfl,hs13⟩
 replace hs3:=hs3.mono Ze.mono hle13
 replace hu3:=hu3.mono Zs.mono hle13
 replace hi3:=hi3.mono Zw.mono hle13
 replace hs13:=hs13.anyK (B':=B13) ZN.any
 refine xM (h:=xE (h:=Z1 4 rfl hs13 ZN.mono om3 (fun B14 hle14 hr14=>?_)))
 replace hs3:=hs3.mono Ze.mono hle14
 replace hu3:=hu3.mono Zs.mono hle14
 replace hi3:=hi3.mono Zw.mono hle14
 have hr14n:=hr14.len
 refine xE (h:=xAl [_,_] Ze6 (h:=fun b15=>xS [_,_] 5 [_,_] ZcE (h:=xA (h:=tL6 (Zg (Za (xM (h:=xN (h:=Zb rfl (fun g2=>?_) (fun g2=>?_))))))))))
 try simp only [sQ,ne_eq] at g2
 refine Za ?_
 refine Zn (ZT [_,_,_,_,_] rfl rfl ZW rfl (Z9 3 rfl rfl rfl) ?_)
 refine Z1 2 rfl hs3 Ze.mono (by first | omega | decide | (simp;done) | (simp;omega)) (fun B16 hle16 hr16=>?_)
 obtain ⟨hu3,hi3,hr14⟩:=up3 hle16 hu3 hi3 hr14
 have hr16n:=hr16.len
 refine xS [_,_,_,_,_] 1 [_,_,_,_,_] Zaq (h:=?_)
 rw [Zhj hf0 oz g2]
 refine xA (h:=tL6 (Zd (Zp ?_)))
 exact Zas .ret (.inl rfl) [_,_] [] rfl ⟨⟨_,rfl,.inr ⟨[_,_,_,_,_],ZW,Z9 1 rfl rfl rfl,rfl⟩⟩,rfl,trivial⟩ ⟨rfl,_,_,_,_,_,_,(by first | rfl | (simp only [DHost.withFolders,List.length_set];rfl)),hu3,hr16,hi3,by first | assumption | (rw [ZR.2.2.1];assumption)⟩
 try simp only [sQ,ne_eq] at g2
 refine wSk (Za (xW Z4 (h:=x1 ZcJ 3 (h:=xM (h:=xL [_,_] ZbA 5 (h:=?_))))))
 obtain ⟨bb17,_,hp17,⟨qg17,cg17,qm17,cm17,rfl,hg17,hm17,hb17,hb17b⟩,hw17,hc17⟩:=hs3.row hf0
 have hg17n:=hg17.len
 have hm17n:=hm17.len
 have hm17s:=Z7 hm17
 refine xIp hp17 Tryz.underlying24 Zbq (h:=xW ZbC (h:=Zn (ZeJ (k:=(k).toNat) (off:=3) (⟨f.owner,f.name,f.grants,(ZeI f.box fl t).1.next,(ZeI f.box fl t).1.mail⟩) [_,_] 2 hs3 hp17 hf0 rfl rfl ZcE rfl rfl rfl rfl rfl rfl (by rintro _ ⟨_,_,_,_,rfl,e1,_,e3,e4⟩;exact ⟨_,_,_,_,rfl,e1,hr14,e3,e4⟩) (fun l18 hv18=>?_))))
 refine tL6 (Za (xL [_,_,_,_,_] ZW 3 (h:=Z1 2 rfl hv18 Ze.mono om3 (fun B19 hle19 hr19=>?_))))
 obtain ⟨hu3,hi3⟩:=up2 hle19 hu3 hi3
 have hr19n:=hr19.len
 refine xS [_,_,_,_,_] 1 [_,_,_,_,_] Zaq (h:=?_)
 rw [ZfE hf0 oz (show (ZeI (⟨f.next,f.mail⟩:DBox) fl t).2=true by simpa using g2)]
 refine xA (h:=tL6 (Zd ?_))
 exact Zas .ret (.inl rfl) [_,_] [] rfl ⟨⟨_,rfl,.inr ⟨[_,_,_,_,_],ZW,Z9 1 rfl rfl rfl,rfl⟩⟩,rfl,trivial⟩ ⟨rfl,_,_,_,_,_,_,(by first | rfl | (simp only [DHost.withFolders,List.length_set];rfl)),hu3,hr19,hi3,by first | assumption | (rw [ZR.2.2.1];assumption)⟩

theorem ZqF (q1 q2 q3:Option Addr) (c1 c2 c3:Nat) (x:DHost) (by_ o n:Str) (fl:Int) (t:Str) (hb:by_.length≤2000000) (ho:o.length≤2000000) (hn:n.length≤2000000) (ht:t.length≤2000000) (hd:x.domain.length≤2000000) (B:Kn) (hu:SlK B q1 c1 3 Zs x.users) (hf:SlK B q2 c2 5 Ze x.folders) (hi:SlK B q3 c3 4 Zw x.queue.items):Zv (pj J) 176 [.agg #[str x.domain,.slice q1 x.users.length c1,.slice q2 x.folders.length c2,.int .i64 x.queue.next,.slice q3 x.queue.items.length c3],str by_,str o,str n,.int .i64 fl,str t] B [] (fun v B' Ls=>Ls=[]∧∃p1 d1 p2 d2 p3 d3,v = .tuple #[.agg #[str (Zlj x by_ o n fl t).1.domain,.slice p1 (Zlj x by_ o n fl t).1.users.length d1,.slice p2 (Zlj x by_ o n fl t).1.folders.length d2,.int .i64 (Zlj x by_ o n fl t).1.queue.next,.slice p3 (Zlj x by_ o n fl t).1.queue.items.length d3],.int .i64 (Zlj x by_ o n fl t).2]∧SlK B' p1 d1 3 Zs (Zlj x by_ o n fl t).1.users∧SlK B' p2 d2 5 Ze (Zlj x by_ o n fl t).1.folders∧SlK B' p3 d3 4 Zw (Zlj x by_ o n fl t).1.queue.items∧(Zlj x by_ o n fl t).1.domain.length≤2000000):=by
 refine cB 50 Tryz.func176 (h:=?_)
 have hun:=hu.len
 have hfn:=hf.len
 have hin:=hi.len
 have hix:=ZcY (inF o n) x.folders
 refine Za (xBx [_,_,_,_,_] (h:=fun b1=>xAl [_,_,_,_,_] Za2 (h:=fun b2=>xA (h:=tL2 (Zg (Za (xL [_,_,_,_,_] ZW 0 (h:=xR Zsn rfl (ZbK _ _ _ _ _ _ x om2 _ hu hf hi) (h:=?_)))))))))
 refine xN (h:=xM (h:=Zo (d:=19) rfl (fun g1=>?_) (fun g1=>?_)))
 try simp only [sQ,ne_eq] at g1
 rw [Zlj,if_pos (by simp [g1])]
 refine xP (h:=xP (h:=xP (h:=xT (h:=xM (h:=xP (h:=xP (h:=xP (h:=xT (h:=Zb (t:=true) rfl (fun _=>Za (xB [] [_,_,_,_,_] [_,_,_,_,_] Zd6 Za2 (h:=xS [_,_,_,_,_] 1 [_,_,_,_,_] Zaq (h:=xA (h:=tL2 (Zd (Zp ?_))))))) (fun h=>Bool.noConfusion h))))))))))
 exact Zas .ret (.inl rfl) [_,_] [] rfl ⟨⟨_,rfl,.inr ⟨[_,_,_,_,_],ZW,Z9 1 rfl rfl rfl,rfl⟩⟩,rfl,trivial⟩ ⟨rfl,none,0,none,0,none,0,rfl,SlK.nil,SlK.nil,SlK.nil,by simp [ZaT]⟩
 try simp only [sQ,ne_eq] at g1
 refine xM (h:=xR ZrP rfl (Zfo _ _) (h:=xN (h:=xF (h:=xM (h:=Zo (d:=24) rfl (fun g2=>?_) (fun g2=>?_))))))
 try simp only [sQ,ne_eq] at g2
 rw [Zlj,if_pos (by simp [ZaL,g2])]
 refine xP (h:=xP (h:=xP (h:=xT (h:=Zb (t:=true) rfl (fun _=>Za (xB [] [_,_,_,_,_] [_,_,_,_,_] Zd6 Za2 (h:=xS [_,_,_,_,_] 1 [_,_,_,_,_] Zaq (h:=xA (h:=tL2 (Zd (Zp ?_))))))) (fun h=>Bool.noConfusion h)))))
 exact Zas .ret (.inl rfl) [_,_] [] rfl ⟨⟨_,rfl,.inr ⟨[_,_,_,_,_],ZW,Z9 1 rfl rfl rfl,rfl⟩⟩,rfl,trivial⟩ ⟨rfl,none,0,none,0,none,0,rfl,SlK.nil,SlK.nil,SlK.nil,by simp [ZaT]⟩
 try simp only [sQ,ne_eq] at g2
 refine xM (h:=xVs Tryz.underlying9 (h:=Zbp (h:=xF (h:=Zb rfl (fun g3=>?_) (fun g3=>?_)))))
 try simp only [sQ,ne_eq] at g3
 rw [Zlj,if_pos (by simp;omega)]
 refine Za (xB [] [_,_,_,_,_] [_,_,_,_,_] Zd6 Za2 (h:=xS [_,_,_,_,_] 1 [_,_,_,_,_] Zaq (h:=xA (h:=tL2 (Zd (Zp ?_))))))
 exact Zas .ret (.inl rfl) [_,_] [] rfl ⟨⟨_,rfl,.inr ⟨[_,_,_,_,_],ZW,Z9 1 rfl rfl rfl,rfl⟩⟩,rfl,trivial⟩ ⟨rfl,none,0,none,0,none,0,rfl,SlK.nil,SlK.nil,SlK.nil,by simp [ZaT]⟩
 try simp only [sQ,ne_eq] at g3
 have hnn : ¬ ¬ (Zx x=true∧ZaL fl=true∧t.length≤20):=fun h=>h ⟨by simpa using g1,by simpa [ZaL] using g2,oz⟩
 have hrr:=ZcM (x:=x) (by simpa using g1)
 have hok:Zx x=true:=by simpa using g1
 refine wSk (Za (xL [_,_,_,_,_] ZW 0 (h:=xM (h:=xM (h:=xR Zvn rfl (ZdO _ _ _ _ _ _ x o n om2 om2 _ hf) (h:=?_))))))
 refine xA (h:=Za (xL [_,_,_,_,_] ZW 0 (h:=xM (h:=xM (h:=xR ZrO rfl (Zey _ _ _ _ _ _ x by_ (ZaI (inF o n) x.folders) 8 oz hrr oz _ hu hf) (h:=?_))))))
 refine xA (h:=Zg (Za (xM (h:=Zbm (h:=Zb rfl (fun g4=>?_) (fun g4=>?_))))))
 try simp only [sQ,ne_eq] at g4
 refine Za (xL [_,_,_,_,_] ZW 0 (h:=xC ZoL rfl (Zbn _ _ _ _ _ _ x _ hu hf hi) (h:=?_)))
 rintro _ B7 _ hle7 ⟨l7,a7,c7,q17,c17,q37,c37,rfl,rfl,hu7,hs7,hi7⟩
 obtain ⟨hu,hf,hi⟩:=up3 hle7 hu hf hi
 have hu7n:=hu7.len
 have hi7n:=hi7.len
 refine Z1 2 rfl hs7 Ze.mono om3 (fun B8 hle8 hr8=>?_)
 obtain ⟨hu,hf,hi,hu7,hi7⟩:=up5 hle8 hu hf hi hu7 hi7
 have hr8n:=hr8.len
 refine xM (h:=?_)
 rw [Zlj,if_neg hnn,if_pos g4]
 refine xS [_,_,_,_,_] 1 [_,_,_,_,_] Zaq (h:=xA (h:=tL3 (Zd (Zp ?_))))
 exact Zas .ret (.inl rfl) [_,_] [] rfl ⟨⟨_,rfl,.inr ⟨[_,_,_,_,_],ZW,Z9 1 rfl rfl rfl,rfl⟩⟩,rfl,trivial⟩ ⟨rfl,_,_,_,_,_,_,(by first | rfl | (simp only [DHost.withFolders,List.length_set];rfl)),hu7,hr8,hi7,by first | assumption | (rw [ZR.2.2.1];assumption)⟩
 try simp only [sQ,ne_eq] at g4
 obtain ⟨_,hk0,_,_,_⟩:=ZeH g4
 refine wSk (Za (xL [_,_,_,_,_] ZW 0 (h:=xM (h:=xM (h:=xM (h:=xQ Zxh rfl (Zig _ _ _ _ _ _ x (ZaI (inF o n) x.folders) fl t om2 (oy) oz oz om2 _ hu hf hi) (h:=?_)))))))
 intro v9 B9 hle9
 rintro ⟨p19,d19,p29,d29,p39,d39,rfl,hu9,hf9,hi9,hd9⟩
 have hu9n:=hu9.len
 have hf9n:=hf9.len
 have hi9n:=hi9.len
 refine xE (h:=xE (h:=xS [_,_,_,_,_] 1 [_,_,_,_,_] Zaq (h:=xA (h:=tL2 (Zd ?_)))))
 rw [Zlj,if_neg hnn,if_neg (fun h=>h g4)]
 exact Zas .ret (.inl rfl) [_,_] [] rfl ⟨⟨_,rfl,.inr ⟨[_,_,_,_,_],ZW,Z9 1 rfl rfl rfl,rfl⟩⟩,rfl,trivial⟩ ⟨rfl,_,_,_,_,_,_,rfl,hu9,hf9,hi9,oy⟩

theorem Zl1 (q1 q2 q3:Option Addr) (c1 c2 c3:Nat) (x:DHost) (u n:Str) (hul:u.length≤2000000) (hnl:n.length≤2000000) (hd:x.domain.length≤2000000) (B:Kn) (hu:SlK B q1 c1 3 Zs x.users) (hf:SlK B q2 c2 5 Ze x.folders) (hi:SlK B q3 c3 4 Zw x.queue.items):Zv (pj J) 174 [.agg #[str x.domain,.slice q1 x.users.length c1,.slice q2 x.folders.length c2,.int .i64 x.queue.next,.slice q3 x.queue.items.length c3],str u,str n] B [] (fun v B' Ls=>Ls=[]∧∃p1 d1 p2 d2 p3 d3,v = .tuple #[.agg #[str (Zbr x u n).1.domain,.slice p1 (Zbr x u n).1.users.length d1,.slice p2 (Zbr x u n).1.folders.length d2,.int .i64 (Zbr x u n).1.queue.next,.slice p3 (Zbr x u n).1.queue.items.length d3],.int .i64 (Zbr x u n).2]∧SlK B' p1 d1 3 Zs (Zbr x u n).1.users∧SlK B' p2 d2 5 Ze (Zbr x u n).1.folders∧SlK B' p3 d3 4 Zw (Zbr x u n).1.queue.items∧(Zbr x u n).1.domain.length≤2000000):=by
 refine cB 80 Tryz.func174 (h:=?_)
 have hun:=hu.len
 have hfn:=hf.len
 have hin:=hi.len
 have hix:=ZcY (inF u n) x.folders
 refine Za (xBx [_,_,_,_,_] (h:=fun b1=>xAl [_,_,_,_,_] Za2 (h:=fun b2=>xA (h:=tL2 (Zg (Za (xL [_,_,_,_,_] ZW 0 (h:=xR Zsn rfl (ZbK _ _ _ _ _ _ x om2 _ hu hf hi) (h:=?_)))))))))
 refine xN (h:=xM (h:=Zo (d:=14) rfl (fun g1=>?_) (fun g1=>?_)))
 try simp only [sQ,ne_eq] at g1
 rw [Zbr,if_pos (by simp [g1])]
 refine xP (h:=xP (h:=xP (h:=xT (h:=Zb (t:=true) rfl (fun _=>Za (xB [] [_,_,_,_,_] [_,_,_,_,_] Zd6 Za2 (h:=xS [_,_,_,_,_] 1 [_,_,_,_,_] Zaq (h:=xA (h:=tL2 (Zd (Zp ?_))))))) (fun h=>Bool.noConfusion h)))))
 exact Zas .ret (.inl rfl) [_,_] [] rfl ⟨⟨_,rfl,.inr ⟨[_,_,_,_,_],ZW,Z9 1 rfl rfl rfl,rfl⟩⟩,rfl,trivial⟩ ⟨rfl,none,0,none,0,none,0,rfl,SlK.nil,SlK.nil,SlK.nil,by simp [ZaT]⟩
 try simp only [sQ,ne_eq] at g1
 refine xM (h:=xR Zlq rfl (Zb6 _ om2 _) (h:=?_))
 refine xN (h:=xF (h:=Zb rfl (fun g2=>?_) (fun g2=>?_)))
 try simp only [sQ,ne_eq] at g2
 rw [Zbr,if_pos (by simp [g2])]
 refine Za (xB [] [_,_,_,_,_] [_,_,_,_,_] Zd6 Za2 (h:=xS [_,_,_,_,_] 1 [_,_,_,_,_] Zaq (h:=xA (h:=tL2 (Zd (Zp ?_))))))
 exact Zas .ret (.inl rfl) [_,_] [] rfl ⟨⟨_,rfl,.inr ⟨[_,_,_,_,_],ZW,Z9 1 rfl rfl rfl,rfl⟩⟩,rfl,trivial⟩ ⟨rfl,none,0,none,0,none,0,rfl,SlK.nil,SlK.nil,SlK.nil,by simp [ZaT]⟩
 try simp only [sQ,ne_eq] at g2
 have hok:Zx x=true:=by simpa using g1
 have hnk:Zaz n=true:=by simpa using g2
 refine wSk (Za (xL [_,_,_,_,_] ZW 0 (h:=xC ZoL rfl (Zbn _ _ _ _ _ _ x _ hu hf hi) (h:=?_))))
 rintro _ B5 _ hle5 ⟨l5,a5,c5,q15,c15,q35,c35,rfl,rfl,hu5,hs5,hi5⟩
 obtain ⟨hu,hf⟩:=up2 hle5 hu hf
 have hu5n:=hu5.len
 have hi5n:=hi5.len
 refine Z1 2 rfl hs5 Ze.mono om3 (fun B6 hle6 hr6=>?_)
 obtain ⟨hu,hf,hu5,hi5⟩:=up4 hle6 hu hf hu5 hi5
 have hr6n:=hr6.len
 refine xAl [_,_,_,_,_] Za2 (h:=fun b7=>xS [_,_,_,_,_] 3 [_,_,_,_,_] Zaq (h:=tL4 (Zg (Zl (Za (xW ZbS (h:=x1 Zi1 0 (h:=xM (h:=xR Zt9 rfl (Zdb _ _ _ _ _ hu) (h:=Zaf (h:=xA (h:=Zb rfl (fun g3=>?_) (fun g3=>?_)))))))))))))
 try simp only [sQ,ne_eq] at g3
 rw [Zbr,if_neg (fun h=>h ⟨hok,hnk⟩),if_pos g3]
 refine Za (xL [_,_,_,_,_] ZW 3 (h:=xS [_,_,_,_,_] 1 [_,_,_,_,_] Zaq (h:=xA (h:=tL4 (Zd (ZH (Zp ?_)))))))
 exact Zas .ret (.inl rfl) [_,_] [] rfl ⟨⟨_,rfl,.inr ⟨[_,_,_,_,_],ZW,Z9 1 rfl rfl rfl,rfl⟩⟩,rfl,trivial⟩ ⟨rfl,_,_,_,_,_,_,(by first | rfl | (simp only [DHost.withFolders,List.length_set];rfl)),hu5,hr6,hi5,by first | assumption | (rw [ZR.2.2.1];assumption)⟩
 try simp only [sQ,ne_eq] at g3
 refine Za (xL [_,_,_,_,_] ZW 0 (h:=xM (h:=xM (h:=xR Zvn rfl (ZdO _ _ _ _ _ _ x u n om2 om2 _ hf) (h:=?_)))))
 refine Zeo (h:=xM (h:=Zo (d:=35) rfl (fun g4=>?_) (fun g4=>?_)))
 try simp only [sQ,ne_eq] at g4
 rw [Zbr,if_neg (fun h=>h ⟨hok,hnk⟩),if_neg oz,if_pos (.inl g4)]
 refine xP (h:=xP (h:=xP (h:=xP (h:=xT (h:=xA (h:=Zb (t:=true) rfl (fun _=>Za (xL [_,_,_,_,_] ZW 3 (h:=xS [_,_,_,_,_] 1 [_,_,_,_,_] Zaq (h:=xA (h:=tL4 (Zd (ZH (Zp ?_)))))))) (fun h=>Bool.noConfusion h)))))))
 exact Zas .ret (.inl rfl) [_,_] [] rfl ⟨⟨_,rfl,.inr ⟨[_,_,_,_,_],ZW,Z9 1 rfl rfl rfl,rfl⟩⟩,rfl,trivial⟩ ⟨rfl,_,_,_,_,_,_,(by first | rfl | (simp only [DHost.withFolders,List.length_set];rfl)),hu5,hr6,hi5,by first | assumption | (rw [ZR.2.2.1];assumption)⟩
 try simp only [sQ,ne_eq] at g4
 refine xW Z4 (h:=x1 ZcJ 0 (h:=xV Tryz.underlying24 (h:=Zeo (h:=xF (h:=xA (h:=Zb rfl (fun g5=>?_) (fun g5=>?_)))))))
 try simp only [sQ,ne_eq] at g5
 rw [Zbr,if_neg (fun h=>h ⟨hok,hnk⟩),if_neg oz,if_pos (.inr oz)]
 refine Za (xL [_,_,_,_,_] ZW 3 (h:=xS [_,_,_,_,_] 1 [_,_,_,_,_] Zaq (h:=xA (h:=tL4 (Zd (ZH (Zp ?_)))))))
 exact Zas .ret (.inl rfl) [_,_] [] rfl ⟨⟨_,rfl,.inr ⟨[_,_,_,_,_],ZW,Z9 1 rfl rfl rfl,rfl⟩⟩,rfl,trivial⟩ ⟨rfl,_,_,_,_,_,_,(by first | rfl | (simp only [DHost.withFolders,List.length_set];rfl)),hu5,hr6,hi5,by first | assumption | (rw [ZR.2.2.1];assumption)⟩
 try simp only [sQ,ne_eq] at g5
 refine ZL (ZA (Zj (Za (xM (h:=xM (h:=xBs [] [] Tryz.underlying37 ZbM ZdX (h:=fun b10=>xBs [] [] Tryz.underlying38 Zgx ZlB (h:=fun b11=>xB [(0,_),(1,_)] [_,_] [_,_] Zns Ze6 (h:=xB [(0,_),(1,_),(2,_),(3,_)] [_,_,_,_,_] [_,_,_,_,_] Zws ZdF (h:=Z1 4 rfl (ZY.lit0 (R:=ZZ) (w:=2)) ZZ.mono om3 (fun B12 hle12 hr12=>?_)))))))))))
 obtain ⟨hu5,hr6,hi5⟩:=up3 hle12 hu5 hr6 hi5
 have hr12n:=hr12.len
 refine Z1 5 rfl (ZY.lit0 (R:=ZN) (w:=3)) ZN.mono om3 (fun B13 hle13 hr13=>?_)
 obtain ⟨hr12,hu5,hr6,hi5⟩:=up4 hle13 hr12 hu5 hr6 hi5
 have hr13n:=hr13.len
 refine xAl [_,_,_,_,_] ZdF (h:=fun b14=>xS [_,_,_,_,_] 6 [_,_,_,_,_] Zbq (h:=tL7 (Za (xA (h:=Zg (Zl (ZO (α:=Nat) [0,1,2,3,6,7,8,9,18,22,29] (fun k=>[(10,.int .i64 k)]) [] (fun k=>[]) (fun k Bx=>Bx=B13∧k≤x.folders.length∧∀y,y∈x.folders.take k→Zb7 y (Zfk u n)=true) (fun k=>x.folders.length - k) 0 t1 rfl (⟨rfl,Nat.zero_le _,by simp⟩) (fun k B15 hle15 hI=>?_))))))))
 obtain ⟨rfl,hk,hak⟩:=hI
 refine ZM [(0,_),(1,_),(2,_),(3,_),(6,_),(7,_),(8,_),(9,_),(10,_),(18,_),(22,_),(29,_)] [_,_,_,_,_,_,_] t12 rfl (Zg (Zg (Z0 (same _ _) mo kr ⟨rfl,rfl⟩ (fun _ _=>?_))))
 refine aM 0 rfl (h:=aW 1 rfl Z4 (h:=aT 2 rfl (Zar fun D=>Zf rfl rfl ZcJ rfl (atL 3 rfl rfl rfl) r4) (h:=aV 3 rfl Tryz.underlying24 (h:=Zse 4 rfl (h:=aM 5 rfl (h:=ZaH (d:=53) rfl (fun g6=>?_) (fun g6=>?_)))))))
 try simp only [sQ,ne_eq] at g6
 refine aW 6 rfl Z4 (h:=aT 7 rfl (Zar fun D=>Zf rfl rfl ZcJ rfl (atL 3 rfl rfl rfl) r4) (h:=aM 8 rfl (h:=?_)))
 obtain ⟨w,hw⟩:=Zag (xs:=x.folders) (i:=k) om
 obtain ⟨bb17,oo17,rfl⟩:=hr6.base hw
 obtain ⟨_,⟨qg18,cg18,qm18,cm18,rfl,hg18,hm18,hb18,hb18b⟩,hc18⟩:=hr6.elem hw
 have hg18n:=hg18.len
 have hm18n:=hm18.len
 have hm18s:=Z7 hm18
 refine aIx 9 rfl Tryz.underlying24 Zbq (h:=aT 10 rfl (Zar fun D=>ZT [_,_,_,_,_] rfl rfl ZhQ rfl (ZiO hc18 0 rfl rfl) r4) (h:=aT 11 rfl (Zar fun D=>ZT [_,_,_,_,_] rfl rfl ZhQ rfl (Z9 6 rfl rfl rfl) r4) (h:=aT 12 rfl (Zar fun D=>Zbc rfl rfl ZwU rfl (Zmm w ⟨u,n,[],1,[]⟩ _ _ _ _ _ _ _ _ _) r4) (h:=aPT 13 rfl (h:=Zz kr kr ?_)))))
 refine Zj (Zb rfl (fun g7=>?_) (fun g7=>?_))
 try simp only [sQ,ne_eq] at g7
 refine wSk (Zl (Zc (xM (h:=xD (h:=xA (h:=ZA ?_))))))
 exact ZD (k+1) [0,1,2,3,4,5,6] so2 ⟨rfl,oz,Zbu hw hak g7⟩ t12 rfl
 try simp only [sQ,ne_eq] at g7
 refine ZS (Zae (ZX (ZI (Zj (Zg (Z0 (keeps _ [3,6] _) mo kr ⟨Kn.le.refl _,Zad.refl _ _⟩ (fun _ _=>?_)))))))
 refine aW 1 rfl Z4 (h:=aT 2 rfl (ZB fun D B L hI=>Zf rfl rfl ZcJ rfl (atL 3 (hI.2.1.trans rfl) rfl rfl) r4) (h:=aM 3 rfl (h:=?_)))
 obtain ⟨hq20,q20,cp20,hv20,hr20⟩:=hr6.cutE 0 k om om
 have hr20n:=hr20.len
 refine aT 4 rfl (ZB fun D B L hI=>ZfQ (a:=0) (b:=k) hv20 om hq20 rfl rfl Tryz.underlying24 Zbq rfl rfl ⟨_,_,rfl,by first | omega | (simp;done) | (simp;omega)⟩ r4) (h:=?_)
 refine aT 6 rfl (ZB fun D B L hI=>ZT [_,_,_,_,_] rfl rfl ZhQ rfl (Z9 6 (hI.2.2.1.trans rfl) rfl rfl) r4) (h:=aW 9 rfl Z4 (h:=aT 10 rfl (ZB fun D B L hI=>Zf rfl rfl ZcJ rfl (atL 3 (hI.2.1.trans rfl) rfl rfl) r4) (h:=aM 11 rfl (h:=?_))))
 obtain ⟨hq21,q21,cp21,hv21,hr21⟩:=hr6.cutE k x.folders.length om om
 have hr21n:=hr21.len
 refine aT 12 rfl (ZB fun D B L hI=>ZfQ (a:=k) (b:=x.folders.length) hv21 om hq21 rfl rfl Tryz.underlying24 Zbq rfl ⟨_,_,rfl,by first | omega | (simp;done) | (simp;omega)⟩ rfl r4) (h:=?_)
 refine Zak [0,7] kr kr kr ⟨?_,?_⟩
 refine (Zu (parts:=[]) [] rfl rfl Tryz.underlying24 Zbq ZdF rfl rfl rfl rfl rfl (fun b22=>⟨⟨Kn.le.refl _,t2⟩,(Zak [5,7] kr kr kr ⟨?_,?_⟩)⟩))
 refine (ZaY (R:=Ze) 7 rfl (ZY.lit0 (R:=Ze)) rfl rfl rfl ZjF ZjV rfl rfl rfl hr20.rows Ze.one rfl om (fun l23 p23 c23 hv23=>?_))
 refine ⟨⟨Kn.le.refl _,t2⟩,(Zq 7 kr rfl kr (Zu (parts:=[(0,_)]) [_,_,_,_,_] rfl rfl Tryz.underlying24 Zbq ZdF rfl rfl rfl rfl rfl (fun b24=>?_)))⟩
 refine ⟨⟨Kn.le.refl _,t2⟩,(Zq 8 kr rfl kr (Zbg (z:=⟨u,n,[],1,[]⟩) (R:=Ze) 7 rfl hv23 rfl rfl rfl ZjF ZjV rfl rfl (ZaQ.box 8 rfl) rfl rfl (⟨_,_,_,_,rfl,hr12,hr13,by first | assumption | omega | (simp;done) | (simp;omega),by first | assumption | omega | (simp;done) | (simp;omega)⟩) om (fun l25 p25 c25 hv25=>?_)))⟩
 refine ⟨⟨Kn.le.refl _,t2⟩,(Zq 13 kr rfl kr (ZaY (R:=Ze) 7 rfl hv25 rfl rfl rfl ZjF ZjV rfl rfl rfl hr21.rows Ze.one rfl om (fun l26 p26 c26 hv26=>?_)))⟩
 refine ⟨⟨Kn.le.refl _,t2⟩,(aW 14 rfl Z4 (h:=ZU 15 kr rfl kr kr kr (ZF [_] 3 [_,_,_,_,_] rfl rfl Zsl rfl rfl rfl rfl rfl rfl rfl rfl ?_)))⟩
 refine Zj (tL9 (Za (xL [_,_,_,_,_] ZW 3 (h:=Z1 7 rfl hv26 Ze.mono om3 (fun B27 hle27 hr27=>?_)))))
 obtain ⟨hu5,hi5,hr12,hr13⟩:=up4 hle27 hu5 hi5 hr12 hr13
 have hr27n:=hr27.len
 refine xS [_,_,_,_,_] 1 [_,_,_,_,_] Zaq (h:=?_)
 rw [ZcB (k:=k) hok hnk oz oz oz hk hak (.inr ⟨_,hw,g7⟩)]
 refine xA (h:=tL9 (Zd ?_))
 exact Zas .ret (.inl rfl) [_,_] [] rfl ⟨⟨_,rfl,.inr ⟨[_,_,_,_,_],ZW,Z9 1 rfl rfl rfl,rfl⟩⟩,rfl,trivial⟩ ⟨rfl,_,_,_,_,_,_,(by first | rfl | (simp only [DHost.withFolders,List.length_set];rfl)),hu5,hr27,hi5,oy⟩
 refine (Zu (parts:=[(0,_)]) [_,_,_,_,_] rfl rfl Tryz.underlying24 Zbq ZdF rfl rfl rfl rfl rfl (fun b28=>⟨⟨Kn.le.refl _,t2⟩,(Zq 5 kr rfl kr (ZaY (R:=Ze) 7 rfl (ZY.lit0 (R:=Ze)) rfl rfl rfl ZjF ZjV rfl rfl rfl hr20.rows Ze.one rfl om (fun l29 p29 c29 hv29=>?_)))⟩))
 refine ⟨⟨Kn.le.refl _,t2⟩,(Zq 8 kr rfl kr (Zbg (z:=⟨u,n,[],1,[]⟩) (R:=Ze) 7 rfl hv29 rfl rfl rfl ZjF ZjV rfl rfl (ZaQ.box 8 rfl) rfl rfl (⟨_,_,_,_,rfl,hr12,hr13,by first | assumption | omega | (simp;done) | (simp;omega),by first | assumption | omega | (simp;done) | (simp;omega)⟩) om (fun l30 p30 c30 hv30=>?_)))⟩
 refine ⟨⟨Kn.le.refl _,t2⟩,(Zq 13 kr rfl kr (ZaY (R:=Ze) 7 rfl hv30 rfl rfl rfl ZjF ZjV rfl rfl rfl hr21.rows Ze.one rfl om (fun l31 p31 c31 hv31=>?_)))⟩
 refine ⟨⟨Kn.le.refl _,t2⟩,(aW 14 rfl Z4 (h:=ZU 15 kr rfl kr kr kr (ZF [_] 3 [_,_,_,_,_] rfl rfl Zsl rfl rfl rfl rfl rfl rfl rfl rfl ?_)))⟩
 refine Zj (tL9 (Za (xL [_,_,_,_,_] ZW 3 (h:=Z1 7 rfl hv31 Ze.mono om3 (fun B32 hle32 hr32=>?_)))))
 obtain ⟨hu5,hi5,hr12,hr13⟩:=up4 hle32 hu5 hi5 hr12 hr13
 have hr32n:=hr32.len
 refine xS [_,_,_,_,_] 1 [_,_,_,_,_] Zaq (h:=?_)
 rw [ZcB (k:=k) hok hnk oz oz oz hk hak (.inr ⟨_,hw,g7⟩)]
 refine xA (h:=tL9 (Zd ?_))
 exact Zas .ret (.inl rfl) [_,_] [] rfl ⟨⟨_,rfl,.inr ⟨[_,_,_,_,_],ZW,Z9 1 rfl rfl rfl,rfl⟩⟩,rfl,trivial⟩ ⟨rfl,_,_,_,_,_,_,(by first | rfl | (simp only [DHost.withFolders,List.length_set];rfl)),hu5,hr32,hi5,oy⟩
 refine (Zu (parts:=[(0,_)]) [_,_,_,_,_] rfl rfl Tryz.underlying24 Zbq ZdF rfl rfl rfl rfl rfl (fun b33=>⟨⟨Kn.le.refl _,t2⟩,(Zq 0 kr rfl kr (Zu (parts:=[]) [] rfl rfl Tryz.underlying24 Zbq ZdF rfl rfl rfl rfl rfl (fun b34=>?_)))⟩))
 refine ⟨⟨Kn.le.refl _,t2⟩,(Zq 5 kr rfl kr (ZaY (R:=Ze) 8 rfl (ZY.lit0 (R:=Ze)) rfl rfl rfl ZjF ZjV rfl rfl rfl hr20.rows Ze.one rfl om (fun l35 p35 c35 hv35=>?_)))⟩
 refine ⟨⟨Kn.le.refl _,t2⟩,(Zq 8 kr rfl kr (Zbg (z:=⟨u,n,[],1,[]⟩) (R:=Ze) 8 rfl hv35 rfl rfl rfl ZjF ZjV rfl rfl (ZaQ.box 7 rfl) rfl rfl (⟨_,_,_,_,rfl,hr12,hr13,by first | assumption | omega | (simp;done) | (simp;omega),by first | assumption | omega | (simp;done) | (simp;omega)⟩) om (fun l36 p36 c36 hv36=>?_)))⟩
 refine ⟨⟨Kn.le.refl _,t2⟩,(Zq 13 kr rfl kr (ZaY (R:=Ze) 8 rfl hv36 rfl rfl rfl ZjF ZjV rfl rfl rfl hr21.rows Ze.one rfl om (fun l37 p37 c37 hv37=>?_)))⟩
 refine ⟨⟨Kn.le.refl _,t2⟩,(aW 14 rfl Z4 (h:=ZU 15 kr rfl kr kr kr (ZF [_] 3 [_,_,_,_,_] rfl rfl Zsl rfl rfl rfl rfl rfl rfl rfl rfl ?_)))⟩
 refine Zj (tL9 (Za (xL [_,_,_,_,_] ZW 3 (h:=Z1 8 rfl hv37 Ze.mono om3 (fun B38 hle38 hr38=>?_)))))
 obtain ⟨hu5,hi5,hr12,hr13⟩:=up4 hle38 hu5 hi5 hr12 hr13
 have hr38n:=hr38.len
 refine xS [_,_,_,_,_] 1 [_,_,_,_,_] Zaq (h:=?_)
 rw [ZcB (k:=k) hok hnk oz oz oz hk hak (.inr ⟨_,hw,g7⟩)]
 refine xA (h:=tL9 (Zd ?_))
 exact Zas .ret (.inl rfl) [_,_] [] rfl ⟨⟨_,rfl,.inr ⟨[_,_,_,_,_],ZW,Z9 1 rfl rfl rfl,rfl⟩⟩,rfl,trivial⟩ ⟨rfl,_,_,_,_,_,_,(by first | rfl | (simp only [DHost.withFolders,List.length_set];rfl)),hu5,hr38,hi5,oy⟩
 try simp only [sQ,ne_eq] at g6
 refine aZ 6 rfl (h:=aZ 7 rfl (h:=aZ 8 rfl (h:=aZ 9 rfl (h:=aZ 10 rfl (h:=aZ 11 rfl (h:=aZ 12 rfl (h:=aPF 13 rfl (h:=Zz kr kr ?_))))))))
 refine Zj (Zb (t:=false) rfl (fun h=>Bool.noConfusion h) (fun _=>ZS (Zae (ZX (ZI (Zj (Zg (Z0 (keeps _ [3,6] _) mo kr ⟨Kn.le.refl _,Zad.refl _ _⟩ (fun _ _=>?_)))))))))
 refine aW 1 rfl Z4 (h:=aT 2 rfl (ZB fun D B L hI=>Zf rfl rfl ZcJ rfl (atL 3 (hI.2.1.trans rfl) rfl rfl) r4) (h:=aM 3 rfl (h:=?_)))
 obtain ⟨hq39,q39,cp39,hv39,hr39⟩:=hr6.cutE 0 k om om
 have hr39n:=hr39.len
 refine aT 4 rfl (ZB fun D B L hI=>ZfQ (a:=0) (b:=k) hv39 om hq39 rfl rfl Tryz.underlying24 Zbq rfl rfl ⟨_,_,rfl,by first | omega | (simp;done) | (simp;omega)⟩ r4) (h:=?_)
 refine aT 6 rfl (ZB fun D B L hI=>ZT [_,_,_,_,_] rfl rfl ZhQ rfl (Z9 6 (hI.2.2.1.trans rfl) rfl rfl) r4) (h:=aW 9 rfl Z4 (h:=aT 10 rfl (ZB fun D B L hI=>Zf rfl rfl ZcJ rfl (atL 3 (hI.2.1.trans rfl) rfl rfl) r4) (h:=aM 11 rfl (h:=?_))))
 obtain ⟨hq40,q40,cp40,hv40,hr40⟩:=hr6.cutE k x.folders.length om om
 have hr40n:=hr40.len
 refine aT 12 rfl (ZB fun D B L hI=>ZfQ (a:=k) (b:=x.folders.length) hv40 om hq40 rfl rfl Tryz.underlying24 Zbq rfl ⟨_,_,rfl,by first | omega | (simp;done) | (simp;omega)⟩ rfl r4) (h:=?_)
 refine Zak [0,7] kr kr kr ⟨?_,?_⟩
 refine (Zu (parts:=[]) [] rfl rfl Tryz.underlying24 Zbq ZdF rfl rfl rfl rfl rfl (fun b41=>⟨⟨Kn.le.refl _,t2⟩,(Zak [5,7] kr kr kr ⟨?_,?_⟩)⟩))
 refine (ZaY (R:=Ze) 7 rfl (ZY.lit0 (R:=Ze)) rfl rfl rfl ZjF ZjV rfl rfl rfl hr39.rows Ze.one rfl om (fun l42 p42 c42 hv42=>?_))
 refine ⟨⟨Kn.le.refl _,t2⟩,(Zq 7 kr rfl kr (Zu (parts:=[(0,_)]) [_,_,_,_,_] rfl rfl Tryz.underlying24 Zbq ZdF rfl rfl rfl rfl rfl (fun b43=>?_)))⟩
 refine ⟨⟨Kn.le.refl _,t2⟩,(Zq 8 kr rfl kr (Zbg (z:=⟨u,n,[],1,[]⟩) (R:=Ze) 7 rfl hv42 rfl rfl rfl ZjF ZjV rfl rfl (ZaQ.box 8 rfl) rfl rfl (⟨_,_,_,_,rfl,hr12,hr13,by first | assumption | omega | (simp;done) | (simp;omega),by first | assumption | omega | (simp;done) | (simp;omega)⟩) om (fun l44 p44 c44 hv44=>?_)))⟩
 refine ⟨⟨Kn.le.refl _,t2⟩,(Zq 13 kr rfl kr (ZaY (R:=Ze) 7 rfl hv44 rfl rfl rfl ZjF ZjV rfl rfl rfl hr40.rows Ze.one rfl om (fun l45 p45 c45 hv45=>?_)))⟩
 refine ⟨⟨Kn.le.refl _,t2⟩,(aW 14 rfl Z4 (h:=ZU 15 kr rfl kr kr kr (ZF [_] 3 [_,_,_,_,_] rfl rfl Zsl rfl rfl rfl rfl rfl rfl rfl rfl ?_)))⟩
 refine Zj (tL9 (Za (xL [_,_,_,_,_] ZW 3 (h:=Z1 7 rfl hv45 Ze.mono om3 (fun B46 hle46 hr46=>?_)))))
 obtain ⟨hu5,hi5,hr12,hr13⟩:=up4 hle46 hu5 hi5 hr12 hr13
 have hr46n:=hr46.len
 refine xS [_,_,_,_,_] 1 [_,_,_,_,_] Zaq (h:=?_)
 rw [ZcB (k:=k) hok hnk oz oz oz hk hak (.inl oz)]
 refine xA (h:=tL9 (Zd ?_))
 exact Zas .ret (.inl rfl) [_,_] [] rfl ⟨⟨_,rfl,.inr ⟨[_,_,_,_,_],ZW,Z9 1 rfl rfl rfl,rfl⟩⟩,rfl,trivial⟩ ⟨rfl,_,_,_,_,_,_,(by first | rfl | (simp only [DHost.withFolders,List.length_set];rfl)),hu5,hr46,hi5,oy⟩
 refine (Zu (parts:=[(0,_)]) [_,_,_,_,_] rfl rfl Tryz.underlying24 Zbq ZdF rfl rfl rfl rfl rfl (fun b47=>⟨⟨Kn.le.refl _,t2⟩,(Zq 5 kr rfl kr (ZaY (R:=Ze) 7 rfl (ZY.lit0 (R:=Ze)) rfl rfl rfl ZjF ZjV rfl rfl rfl hr39.rows Ze.one rfl om (fun l48 p48 c48 hv48=>?_)))⟩))
 refine ⟨⟨Kn.le.refl _,t2⟩,(Zq 8 kr rfl kr (Zbg (z:=⟨u,n,[],1,[]⟩) (R:=Ze) 7 rfl hv48 rfl rfl rfl ZjF ZjV rfl rfl (ZaQ.box 8 rfl) rfl rfl (⟨_,_,_,_,rfl,hr12,hr13,by first | assumption | omega | (simp;done) | (simp;omega),by first | assumption | omega | (simp;done) | (simp;omega)⟩) om (fun l49 p49 c49 hv49=>?_)))⟩
 refine ⟨⟨Kn.le.refl _,t2⟩,(Zq 13 kr rfl kr (ZaY (R:=Ze) 7 rfl hv49 rfl rfl rfl ZjF ZjV rfl rfl rfl hr40.rows Ze.one rfl om (fun l50 p50 c50 hv50=>?_)))⟩
 refine ⟨⟨Kn.le.refl _,t2⟩,(aW 14 rfl Z4 (h:=ZU 15 kr rfl kr kr kr (ZF [_] 3 [_,_,_,_,_] rfl rfl Zsl rfl rfl rfl rfl rfl rfl rfl rfl ?_)))⟩
 refine Zj (tL9 (Za (xL [_,_,_,_,_] ZW 3 (h:=Z1 7 rfl hv50 Ze.mono om3 (fun B51 hle51 hr51=>?_)))))
 obtain ⟨hu5,hi5,hr12,hr13⟩:=up4 hle51 hu5 hi5 hr12 hr13
 have hr51n:=hr51.len
 refine xS [_,_,_,_,_] 1 [_,_,_,_,_] Zaq (h:=?_)
 rw [ZcB (k:=k) hok hnk oz oz oz hk hak (.inl oz)]
 refine xA (h:=tL9 (Zd ?_))
 exact Zas .ret (.inl rfl) [_,_] [] rfl ⟨⟨_,rfl,.inr ⟨[_,_,_,_,_],ZW,Z9 1 rfl rfl rfl,rfl⟩⟩,rfl,trivial⟩ ⟨rfl,_,_,_,_,_,_,(by first | rfl | (simp only [DHost.withFolders,List.length_set];rfl)),hu5,hr51,hi5,oy⟩
 refine (Zu (parts:=[(0,_)]) [_,_,_,_,_] rfl rfl Tryz.underlying24 Zbq ZdF rfl rfl rfl rfl rfl (fun b52=>⟨⟨Kn.le.refl _,t2⟩,(Zq 0 kr rfl kr (Zu (parts:=[]) [] rfl rfl Tryz.underlying24 Zbq ZdF rfl rfl rfl rfl rfl (fun b53=>?_)))⟩))
 refine ⟨⟨Kn.le.refl _,t2⟩,(Zq 5 kr rfl kr (ZaY (R:=Ze) 8 rfl (ZY.lit0 (R:=Ze)) rfl rfl rfl ZjF ZjV rfl rfl rfl hr39.rows Ze.one rfl om (fun l54 p54 c54 hv54=>?_)))⟩
 refine ⟨⟨Kn.le.refl _,t2⟩,(Zq 8 kr rfl kr (Zbg (z:=⟨u,n,[],1,[]⟩) (R:=Ze) 8 rfl hv54 rfl rfl rfl ZjF ZjV rfl rfl (ZaQ.box 7 rfl) rfl rfl (⟨_,_,_,_,rfl,hr12,hr13,by first | assumption | omega | (simp;done) | (simp;omega),by first | assumption | omega | (simp;done) | (simp;omega)⟩) om (fun l55 p55 c55 hv55=>?_)))⟩
 refine ⟨⟨Kn.le.refl _,t2⟩,(Zq 13 kr rfl kr (ZaY (R:=Ze) 8 rfl hv55 rfl rfl rfl ZjF ZjV rfl rfl rfl hr40.rows Ze.one rfl om (fun l56 p56 c56 hv56=>?_)))⟩
 refine ⟨⟨Kn.le.refl _,t2⟩,(aW 14 rfl Z4 (h:=ZU 15 kr rfl kr kr kr (ZF [_] 3 [_,_,_,_,_] rfl rfl Zsl rfl rfl rfl rfl rfl rfl rfl rfl ?_)))⟩
 refine Zj (tL9 (Za (xL [_,_,_,_,_] ZW 3 (h:=Z1 8 rfl hv56 Ze.mono om3 (fun B57 hle57 hr57=>?_)))))
 obtain ⟨hu5,hi5⟩:=up2 hle57 hu5 hi5
 have hr57n:=hr57.len
 refine xS [_,_,_,_,_] 1 [_,_,_,_,_] Zaq (h:=?_)
 rw [ZcB (k:=k) hok hnk oz oz oz hk hak (.inl oz)]
 refine xA (h:=tL9 (Zd ?_))
 exact Zas .ret (.inl rfl) [_,_] [] rfl ⟨⟨_,rfl,.inr ⟨[_,_,_,_,_],ZW,Z9 1 rfl rfl rfl,rfl⟩⟩,rfl,trivial⟩ ⟨rfl,_,_,_,_,_,_,(by first | rfl | (simp only [DHost.withFolders,List.length_set];rfl)),hu5,hr57,hi5,oy⟩

theorem Zfe (q:Option Addr) (cp:Nat) (gs:List DGrant) (u:Str) (r:Int) (hul:u.length≤2000000) (B:Kn) (hg:SlK B q cp 2 ZZ gs):Zv (pj J) 148 [.slice q gs.length cp,str u,.int .i64 r] B [] (fun v B' Ls=>∃l a c,Ls=[l]∧v = .tuple #[.slice a (Zcc gs u r).1.length c,.bool (Zcc gs u r).2]∧ZY B' l a c 191 2 ZZ (Zcc gs u r).1):=by
 refine cB 80 Tryz.func148 (h:=?_)
 have hgn:=hg.len
 refine Za (xA (h:=xA (h:=Zg (Za (xM (h:=xR Zty rfl (ZgI _ _ _ _ hg) (h:=xN (h:=xM (h:=Zo (d:=14) rfl (fun g1=>?_) (fun g1=>?_))))))))))
 try simp only [sQ,ne_eq] at g1
 rw [ZhB (by simp [g1])]
 refine xP (h:=xP (h:=xP (h:=xT (h:=xM (h:=xP (h:=xP (h:=xP (h:=xT (h:=Zb (t:=true) rfl (fun _=>Za (xBs [] [] Tryz.underlying37 ZbM ZdX (h:=fun b2=>xA (h:=xA (h:=tL1 (Zd (Zp ?_))))))) (fun h=>Bool.noConfusion h))))))))))
 exact Zas .ret (.inl rfl) [_,_] [0] rfl t2 ⟨_,_,_,rfl,rfl,ZY.lit0⟩
 try simp only [sQ,ne_eq] at g1
 refine xM (h:=xR Zlq rfl (Zb6 _ om2 _) (h:=?_))
 refine xN (h:=xF (h:=xM (h:=Zo (d:=19) rfl (fun g2=>?_) (fun g2=>?_))))
 try simp only [sQ,ne_eq] at g2
 rw [ZhB (by simp [g2])]
 refine xP (h:=xP (h:=xP (h:=xT (h:=Zb (t:=true) rfl (fun _=>Za (xBs [] [] Tryz.underlying37 ZbM ZdX (h:=fun b4=>xA (h:=xA (h:=tL1 (Zd (Zp ?_))))))) (fun h=>Bool.noConfusion h)))))
 exact Zas .ret (.inl rfl) [_,_] [0] rfl t2 ⟨_,_,_,rfl,rfl,ZY.lit0⟩
 try simp only [sQ,ne_eq] at g2
 refine xM (h:=xR ZwQ rfl (Zi5 _ _) (h:=xN (h:=xF (h:=Zb rfl (fun g3=>?_) (fun g3=>?_)))))
 try simp only [sQ,ne_eq] at g3
 rw [ZhB (by simp [g3])]
 refine Za (xBs [] [] Tryz.underlying37 ZbM ZdX (h:=fun b6=>xA (h:=xA (h:=tL1 (Zd (Zp ?_))))))
 exact Zas .ret (.inl rfl) [_,_] [0] rfl t2 ⟨_,_,_,rfl,rfl,ZY.lit0⟩
 try simp only [sQ,ne_eq] at g3
 have hok:ZcR gs=true:=by simpa using g1
 have hin:ZcR gs=true∧Zaz u=true∧Zd4 r=true:=⟨hok,by simpa using g2,by simpa using g3⟩
 have hg4:=ZjT hok
 refine wSk (Za (xBs [] [] Tryz.underlying37 ZbM ZdX (h:=fun b7=>xA (h:=tL1 (Za (xM (h:=ZE (h:=xA (h:=Zg (Za (xA (h:=Zl (ZO (α:=Gh2 DGrant Bool) [0,1,2,6,7,23] (fun g=>[(8,.slice g.a g.xs.length g.c),(9,.bool g.e),(10,.int .i64 g.k)]) [0] (fun g=>[g.l]) (fun g Bx=>Bx=B∧g.k≤gs.length∧(g.e,g.xs)=Ze1 u r (gs.take g.k)∧g.xs.length≤2*g.k∧ZY Bx g.l g.a g.c 191 2 ZZ g.xs) (fun g=>gs.length - g.k) ⟨0,0,_,_,_,[],decide (r=0)⟩ t3 rfl (⟨rfl,Nat.zero_le _,rfl,Nat.le_refl _,.lit0⟩) (fun g B8 hle8 hI=>?_))))))))))))))
 obtain ⟨rfl,hk,hs,hgl,hv⟩:=hI
 refine ZM [(0,_),(1,_),(2,_),(6,_),(7,_),(8,_),(9,_),(10,_),(23,_)] [_] t9 rfl (Zg (Za (xM (h:=xM (h:=xV Tryz.underlying37 (h:=Zaf (h:=Zb rfl (fun g4=>?_) (fun g4=>?_))))))))
 try simp only [sQ,ne_eq] at g4
 refine wSk (Zg (Zl (Zg (Za (xM (h:=xN (h:=xM (h:=Zo (d:=36) rfl (fun g5=>?_) (fun g5=>?_)))))))))
 try simp only [sQ,ne_eq] at g5
 refine xM (h:=xM (h:=?_))
 obtain ⟨x,hx⟩:=Zag (xs:=gs) (i:=g.k) om
 obtain ⟨bb10,oo10,rfl⟩:=hg.base hx
 obtain ⟨_,⟨rfl,hb11⟩,hc11⟩:=hg.elem hx
 refine xIx Tryz.underlying37 ZbM (h:=xW ZcZ (h:=y1 lk9 hc11 0 (h:=xM (h:=ZvX (h:=xT (h:=Zb rfl (fun g6=>?_) (fun g6=>?_)))))))
 try simp only [sQ,ne_eq] at g6
 refine Za (xM (h:=xM (h:=xM (h:=xB [(0,_),(1,_)] [_,_] [_,_] ZuG ZdX (h:=xBs [(0,_)] [_,_] Tryz.underlying37 ZbM ZdX (h:=fun b12=>Zn (Zbg (z:=⟨u,r⟩) (R:=ZZ) 0 rfl hv rfl rfl rfl ZrL ZqB rfl rfl (ZaQ.box 1 rfl) rfl rfl (⟨rfl,by first | assumption | omega | (simp;done) | (simp;omega)⟩) om (fun l13 p13 c13 hv13=>?_))))))))
 refine xA (h:=tL2 (Zc (xA (h:=Zj (Za (xM (h:=xM (h:=xIx Tryz.underlying37 ZbM (h:=xW ZcZ (h:=y1 lk9 hc11 0 (h:=xM (h:=ZhE (h:=Zb rfl (fun g8=>?_) (fun g8=>?_))))))))))))))
 try simp only [sQ,ne_eq] at g8
 refine Zc (xM (h:=xM (h:=xM (h:=xIx Tryz.underlying37 ZbM (h:=yL [_,_] Zpq hc11 0 (h:=xBs [(0,_)] [_,_] Tryz.underlying37 ZbM ZdX (h:=fun b14=>Zn (Zbg (z:=⟨x.user,x.rights⟩) (R:=ZZ) 0 rfl hv13 rfl rfl rfl ZrL ZqB rfl rfl (ZaQ.box 2 rfl) rfl rfl (⟨rfl,by first | assumption | omega | (simp;done) | (simp;omega)⟩) om (fun l15 p15 c15 hv15=>?_)))))))))
 refine xA (h:=ZA (Zj (Zc (xM (h:=xD (h:=xA (h:=?_)))))))
 exact ZD ⟨g.k+1,0,l15,p15,c15,((g.xs ++ [⟨u,r⟩]) ++ [⟨x.user,x.rights⟩]),true⟩ [0] (by first | omega | (simp only [];omega)) ⟨rfl,by simp only [];omega,by simp only [];rw [ZcC hx,← hs];simp [ZfB,g5,g6,g8],by first | (simp only [];omega) | (simp;omega),hv15⟩ ⟨rfl,rfl,rfl,rfl,rfl,rfl,rfl,rfl,rfl,trivial⟩ rfl
 try simp only [sQ,ne_eq] at g8
 refine ZL (ZA (Zj (Zc (xM (h:=xD (h:=xA (h:=?_)))))))
 exact ZD ⟨g.k+1,0,l13,p13,c13,(g.xs ++ [⟨u,r⟩]),true⟩ [0] (by first | omega | (simp only [];omega)) ⟨rfl,by simp only [];omega,by simp only [];rw [ZcC hx,← hs];simp [ZfB,g5,g8 ▸ g6,g8],by first | (simp only [];omega) | (simp;omega),hv13⟩ ⟨rfl,rfl,rfl,rfl,rfl,rfl,rfl,rfl,rfl,trivial⟩ rfl
 try simp only [sQ,ne_eq] at g6
 refine wSk (Za (xM (h:=xM (h:=xIx Tryz.underlying37 ZbM (h:=xW ZcZ (h:=y1 lk9 hc11 0 (h:=xM (h:=ZhE (h:=Zb rfl (fun g8=>?_) (fun g8=>?_))))))))))
 try simp only [sQ,ne_eq] at g8
 refine Zc (xM (h:=xM (h:=xM (h:=xIx Tryz.underlying37 ZbM (h:=yL [_,_] Zpq hc11 0 (h:=xBs [(0,_)] [_,_] Tryz.underlying37 ZbM ZdX (h:=fun b16=>Zn (Zbg (z:=⟨x.user,x.rights⟩) (R:=ZZ) 0 rfl hv rfl rfl rfl ZrL ZqB rfl rfl (ZaQ.box 1 rfl) rfl rfl (⟨rfl,by first | assumption | omega | (simp;done) | (simp;omega)⟩) om (fun l17 p17 c17 hv17=>?_)))))))))
 refine xA (h:=ZA (Zj (Zc (xM (h:=xD (h:=xA (h:=?_)))))))
 exact ZD ⟨g.k+1,0,l17,p17,c17,(g.xs ++ [⟨x.user,x.rights⟩]),g.e⟩ [0] (by first | omega | (simp only [];omega)) ⟨rfl,by simp only [];omega,by simp only [];rw [ZcC hx,← hs];simp [ZfB,g5,g6,g8],by first | (simp only [];omega) | (simp;omega),hv17⟩ ⟨rfl,rfl,rfl,rfl,rfl,rfl,rfl,rfl,rfl,trivial⟩ rfl
 try simp only [sQ,ne_eq] at g8
 refine ZL (ZA (Zj (Zc (xM (h:=xD (h:=xA (h:=?_)))))))
 exact ZD ⟨g.k+1,0,g.l,g.a,g.c,g.xs,g.e⟩ [0] so2 ⟨rfl,so,by simp only [];rw [ZcC hx,← hs];simp [ZfB,g5,g8 ▸ g6,g8],by first | (simp only [];omega) | (simp;omega),hv⟩ t9 rfl
 try simp only [sQ,ne_eq] at g5
 refine xP (h:=xP (h:=xP (h:=xP (h:=xP (h:=xP (h:=xP (h:=xF (h:=Zb (t:=false) rfl (fun h=>Bool.noConfusion h) (fun _=>wSk (Za (xM (h:=xM (h:=?_)))))))))))))
 obtain ⟨x,hx⟩:=Zag (xs:=gs) (i:=g.k) om
 obtain ⟨bb19,oo19,rfl⟩:=hg.base hx
 obtain ⟨_,⟨rfl,hb20⟩,hc20⟩:=hg.elem hx
 refine xIx Tryz.underlying37 ZbM (h:=xW ZcZ (h:=y1 lk9 hc20 0 (h:=xM (h:=ZhE (h:=Zb rfl (fun g8=>?_) (fun g8=>?_))))))
 try simp only [sQ,ne_eq] at g8
 refine Zc (xM (h:=xM (h:=xM (h:=xIx Tryz.underlying37 ZbM (h:=yL [_,_] Zpq hc20 0 (h:=xBs [(0,_)] [_,_] Tryz.underlying37 ZbM ZdX (h:=fun b21=>Zn (Zbg (z:=⟨x.user,x.rights⟩) (R:=ZZ) 0 rfl hv rfl rfl rfl ZrL ZqB rfl rfl (ZaQ.box 1 rfl) rfl rfl (⟨rfl,by first | assumption | omega | (simp;done) | (simp;omega)⟩) om (fun l22 p22 c22 hv22=>?_)))))))))
 refine xA (h:=ZA (Zj (Zc (xM (h:=xD (h:=xA (h:=?_)))))))
 exact ZD ⟨g.k+1,0,l22,p22,c22,(g.xs ++ [⟨x.user,x.rights⟩]),g.e⟩ [0] (by first | omega | (simp only [];omega)) ⟨rfl,by simp only [];omega,by simp only [];rw [ZcC hx,← hs];simp [ZfB,g5,g8],by first | (simp only [];omega) | (simp;omega),hv22⟩ ⟨rfl,rfl,rfl,rfl,rfl,rfl,rfl,rfl,rfl,trivial⟩ rfl
 try simp only [sQ,ne_eq] at g8
 refine ZL (ZA (Zj (Zc (xM (h:=xD (h:=xA (h:=?_)))))))
 exact ZD ⟨g.k+1,0,g.l,g.a,g.c,g.xs,g.e⟩ [0] so2 ⟨rfl,so,by simp only [];rw [ZcC hx,← hs];simp [ZfB,g5,g8],by first | (simp only [];omega) | (simp;omega),hv⟩ t9 rfl
 try simp only [sQ,ne_eq] at g4
 rw [List.take_of_length_le oz] at hs
 refine ZS (Zae (ZX (ZI (Zj (Zg (Za (xM (h:=xN (h:=Zb rfl (fun g9=>?_) (fun g9=>?_))))))))))
 try simp only [sQ,ne_eq] at g9
 rw [g9] at hs
 refine Zc (xM (h:=xM (h:=xM (h:=xB [(0,_),(1,_)] [_,_] [_,_] ZuG ZdX (h:=xBs [(0,_)] [_,_] Tryz.underlying37 ZbM ZdX (h:=fun b23=>Zn (Zbg (z:=⟨u,r⟩) (R:=ZZ) 0 rfl hv rfl rfl rfl ZrL ZqB rfl rfl (ZaQ.box 1 rfl) rfl rfl (⟨rfl,by first | assumption | omega | (simp;done) | (simp;omega)⟩) om (fun l24 p24 c24 hv24=>?_))))))))
 refine xA (h:=Zj (Zg (Za (xM (h:=Zn (ZhH 0 rfl rfl rfl Zty rfl (ZaM.borrow fun hm25=>ZgI _ _ _ _ (hv24.lend ZZ.mono hm25 om)) ?_))))))
 refine xN (h:=tL2 (Zb rfl (fun g7=>?_) (fun g7=>?_)))
 try simp only [sQ,ne_eq] at g7
 rw [Zm0 hin (by rw [ZhD hs];exact g7)]
 refine Za (xBs [] [] Tryz.underlying37 ZbM ZdX (h:=fun b26=>xM (h:=Zn (ZaY (R:=ZZ) 2 rfl (ZY.lit0 (R:=ZZ)) rfl rfl rfl ZrL ZqB rfl rfl rfl hg.rows ZZ.one rfl om (fun l27 p27 c27 hv27=>?_)))))
 refine xA (h:=xA (h:=tL3 (Zd (Zp ?_))))
 exact Zas .ret (.inl rfl) [_,_] [2] rfl t2 ⟨_,_,_,rfl,rfl,hv27⟩
 try simp only [sQ,ne_eq] at g7
 rw [ZkR hin (by rw [ZhD hs];simpa using g7),ZhD hs]
 refine wSk (Za (xM (h:=xA (h:=xA (h:=Zd ?_)))))
 exact Zas .ret (.inl rfl) [_,_] [0] rfl t2 ⟨_,_,_,rfl,rfl,hv24⟩
 try simp only [sQ,ne_eq] at g9
 rw [show g.e=true by simpa using g9] at hs
 refine wSk (Zg (Za (xM (h:=Zn (ZhH 0 rfl rfl rfl Zty rfl (ZaM.borrow fun hm28=>ZgI _ _ _ _ (hv.lend ZZ.mono hm28 om)) ?_)))))
 refine xN (h:=Zb rfl (fun g7=>?_) (fun g7=>?_))
 try simp only [sQ,ne_eq] at g7
 rw [Zm0 hin (by rw [ZhC hs];exact g7)]
 refine Za (xBs [] [] Tryz.underlying37 ZbM ZdX (h:=fun b29=>xM (h:=Zn (ZaY (R:=ZZ) 1 rfl (ZY.lit0 (R:=ZZ)) rfl rfl rfl ZrL ZqB rfl rfl rfl hg.rows ZZ.one rfl om (fun l30 p30 c30 hv30=>?_)))))
 refine xA (h:=xA (h:=tL2 (Zd (Zp ?_))))
 exact Zas .ret (.inl rfl) [_,_] [1] rfl t2 ⟨_,_,_,rfl,rfl,hv30⟩
 try simp only [sQ,ne_eq] at g7
 rw [ZkR hin (by rw [ZhC hs];simpa using g7),ZhC hs]
 refine wSk (Za (xM (h:=xA (h:=xA (h:=Zd ?_)))))
 exact Zas .ret (.inl rfl) [_,_] [0] rfl t2 ⟨_,_,_,rfl,rfl,hv⟩

theorem Znh (q1 q2 q3:Option Addr) (c1 c2 c3:Nat) (x:DHost) (by_ o n u:Str) (r:Int) (hbl:by_.length≤2000000) (hol:o.length≤2000000) (hnl:n.length≤2000000) (hul:u.length≤2000000) (hd:x.domain.length≤2000000) (B:Kn) (hu:SlK B q1 c1 3 Zs x.users) (hf:SlK B q2 c2 5 Ze x.folders) (hi:SlK B q3 c3 4 Zw x.queue.items):Zv (pj J) 175 [.agg #[str x.domain,.slice q1 x.users.length c1,.slice q2 x.folders.length c2,.int .i64 x.queue.next,.slice q3 x.queue.items.length c3],str by_,str o,str n,str u,.int .i64 r] B [] (fun v B' Ls=>Ls=[]∧∃p1 d1 p2 d2 p3 d3,v = .tuple #[.agg #[str (Zcb x by_ o n u r).1.domain,.slice p1 (Zcb x by_ o n u r).1.users.length d1,.slice p2 (Zcb x by_ o n u r).1.folders.length d2,.int .i64 (Zcb x by_ o n u r).1.queue.next,.slice p3 (Zcb x by_ o n u r).1.queue.items.length d3],.int .i64 (Zcb x by_ o n u r).2]∧SlK B' p1 d1 3 Zs (Zcb x by_ o n u r).1.users∧SlK B' p2 d2 5 Ze (Zcb x by_ o n u r).1.folders∧SlK B' p3 d3 4 Zw (Zcb x by_ o n u r).1.queue.items∧(Zcb x by_ o n u r).1.domain.length≤2000000):=by
 refine cB 76 Tryz.func175 (h:=?_)
 have hun:=hu.len
 have hfn:=hf.len
 have hin:=hi.len
 have hix:=ZcY (inF o n) x.folders
 refine Za (xBx [_,_,_,_,_] (h:=fun b1=>xAl [_,_,_,_,_] Za2 (h:=fun b2=>xA (h:=tL2 (Zg (Za (xL [_,_,_,_,_] ZW 0 (h:=xR Zsn rfl (ZbK _ _ _ _ _ _ x om2 _ hu hf hi) (h:=?_)))))))))
 refine xN (h:=xM (h:=Zo (d:=22) rfl (fun g1=>?_) (fun g1=>?_)))
 try simp only [sQ,ne_eq] at g1
 rw [Zcb,if_pos (by simp [g1])]
 refine xP (h:=xP (h:=xP (h:=xT (h:=Zb (t:=true) rfl (fun _=>Za (xB [] [_,_,_,_,_] [_,_,_,_,_] Zd6 Za2 (h:=xS [_,_,_,_,_] 1 [_,_,_,_,_] Zaq (h:=xA (h:=tL2 (Zd (Zp ?_))))))) (fun h=>Bool.noConfusion h)))))
 exact Zas .ret (.inl rfl) [_,_] [] rfl ⟨⟨_,rfl,.inr ⟨[_,_,_,_,_],ZW,Z9 1 rfl rfl rfl,rfl⟩⟩,rfl,trivial⟩ ⟨rfl,none,0,none,0,none,0,rfl,SlK.nil,SlK.nil,SlK.nil,by simp [ZaT]⟩
 try simp only [sQ,ne_eq] at g1
 refine xM (h:=xR ZwQ rfl (Zi5 _ _) (h:=xN (h:=xF (h:=Zb rfl (fun g2=>?_) (fun g2=>?_)))))
 try simp only [sQ,ne_eq] at g2
 rw [Zcb,if_pos (by simp [g2])]
 refine Za (xB [] [_,_,_,_,_] [_,_,_,_,_] Zd6 Za2 (h:=xS [_,_,_,_,_] 1 [_,_,_,_,_] Zaq (h:=xA (h:=tL2 (Zd (Zp ?_))))))
 exact Zas .ret (.inl rfl) [_,_] [] rfl ⟨⟨_,rfl,.inr ⟨[_,_,_,_,_],ZW,Z9 1 rfl rfl rfl,rfl⟩⟩,rfl,trivial⟩ ⟨rfl,none,0,none,0,none,0,rfl,SlK.nil,SlK.nil,SlK.nil,by simp [ZaT]⟩
 try simp only [sQ,ne_eq] at g2
 have hok:Zx x=true:=by simpa using g1
 have hrr:=ZcM hok
 have hnn : ¬ ¬ (Zx x=true∧Zd4 r=true):=fun h=>h ⟨hok,by simpa using g2⟩
 refine wSk (Za (xL [_,_,_,_,_] ZW 0 (h:=xC ZoL rfl (Zbn _ _ _ _ _ _ x _ hu hf hi) (h:=?_))))
 rintro _ B5 _ hle5 ⟨l5,a5,c5,q15,c15,q35,c35,rfl,rfl,hu5,hs5,hi5⟩
 obtain ⟨hu,hf⟩:=up2 hle5 hu hf
 have hu5n:=hu5.len
 have hi5n:=hi5.len
 refine xAl [_,_,_,_,_] Za2 (h:=fun b6=>xS [_,_,_,_,_] 3 [_,_,_,_,_] Zaq (h:=tL4 (Za (xL [_,_,_,_,_] ZW 0 (h:=xM (h:=xM (h:=xR Zvn rfl (ZdO _ _ _ _ _ _ x o n om2 om2 _ hf) (h:=?_))))))))
 refine xA (h:=Za (xL [_,_,_,_,_] ZW 0 (h:=xM (h:=xM (h:=xR ZrO rfl (Zey _ _ _ _ _ _ x by_ (ZaI (inF o n) x.folders) 32 oz hrr oz _ hu hf) (h:=?_))))))
 refine xA (h:=Zg (Zl (Za (xM (h:=Zbm (h:=xA (h:=Zb rfl (fun g3=>?_) (fun g3=>?_))))))))
 try simp only [sQ,ne_eq] at g3
 refine Za (xL [_,_,_,_,_] ZW 3 (h:=Z1 2 rfl hs5 Ze.mono om3 (fun B9 hle9 hr9=>?_)))
 obtain ⟨hu,hf,hu5,hi5⟩:=up4 hle9 hu hf hu5 hi5
 have hr9n:=hr9.len
 refine xM (h:=?_)
 rw [Zcb,if_neg hnn,if_pos g3]
 refine xS [_,_,_,_,_] 1 [_,_,_,_,_] Zaq (h:=xA (h:=tL4 (Zd (ZH (Zp ?_)))))
 exact Zas .ret (.inl rfl) [_,_] [] rfl ⟨⟨_,rfl,.inr ⟨[_,_,_,_,_],ZW,Z9 1 rfl rfl rfl,rfl⟩⟩,rfl,trivial⟩ ⟨rfl,_,_,_,_,_,_,(by first | rfl | (simp only [DHost.withFolders,List.length_set];rfl)),hu5,hr9,hi5,by first | assumption | (rw [ZR.2.2.1];assumption)⟩
 try simp only [sQ,ne_eq] at g3
 refine Za (xM (h:=ZhE (h:=xM (h:=Zo (d:=46) rfl (fun g4=>?_) (fun g4=>?_)))))
 try simp only [sQ,ne_eq] at g4
 refine xW ZbS (h:=x1 Zi1 0 (h:=xM (h:=xR Zt9 rfl (Zdb _ _ _ _ _ hu) (h:=Zaf (h:=xT (h:=xA (h:=Zb rfl (fun g5=>?_) (fun g5=>?_))))))))
 try simp only [sQ,ne_eq] at g5
 refine Za (xL [_,_,_,_,_] ZW 3 (h:=Z1 2 rfl hs5 Ze.mono om3 (fun B11 hle11 hr11=>?_)))
 obtain ⟨hf,hu5,hi5⟩:=up3 hle11 hf hu5 hi5
 have hr11n:=hr11.len
 refine xS [_,_,_,_,_] 1 [_,_,_,_,_] Zaq (h:=?_)
 rw [Zcb,if_neg hnn,if_neg (fun h=>h g3),if_pos ⟨g4,g5⟩]
 refine xA (h:=tL4 (Zd (ZH (Zp ?_))))
 exact Zas .ret (.inl rfl) [_,_] [] rfl ⟨⟨_,rfl,.inr ⟨[_,_,_,_,_],ZW,Z9 1 rfl rfl rfl,rfl⟩⟩,rfl,trivial⟩ ⟨rfl,_,_,_,_,_,_,(by first | rfl | (simp only [DHost.withFolders,List.length_set];rfl)),hu5,hr11,hi5,by first | assumption | (rw [ZR.2.2.1];assumption)⟩
 try simp only [sQ,ne_eq] at g5
 have hne : ¬ (u≠anyone∧Zds x.users u<0):=fun h=>absurd h.2 oz
 obtain ⟨_,hk0,_,_,_⟩:=ZeH g3
 have hge:Zcb x by_ o n u r=Zfr x (ZaI (inF o n) x.folders).toNat u r:=by rw [Zcb,if_neg hnn,if_neg (fun h=>h g3),if_neg hne]
 refine ZL (ZA (Zj (Za (xW Z4 (h:=x1 ZcJ 0 (h:=xM (h:=?_)))))))
 obtain ⟨fd,hfd⟩:=ZeB (xs:=x.folders) (i:=(ZaI (inF o n) x.folders)) om om
 obtain ⟨bb13,oo13,rfl⟩:=hf.base hfd
 obtain ⟨_,⟨qg14,cg14,qm14,cm14,rfl,hg14,hm14,hb14,hb14b⟩,hc14⟩:=hf.elem hfd
 have hg14n:=hg14.len
 have hm14n:=hm14.len
 have hm14s:=Z7 hm14
 refine xIx Tryz.underlying24 Zbq (h:=?_)
 have hacl:=ZfK fd.grants u r
 have hfg:=ZgZ (ZaK hok hfd)
 refine xW Zea (h:=y1 Zs1 hc14 2 (h:=xM (h:=xM (h:=xC Zvv rfl (Zfe _ _ fd.grants u r om2 _ hg14) (h:=?_)))))
 rintro _ B15 _ hle15 ⟨l15,a15,c15,rfl,rfl,hs15⟩
 replace hf:=hf.mono Ze.mono hle15
 replace hs5:=hs5.mono Ze.mono hle15
 replace hu5:=hu5.mono Zs.mono hle15
 replace hi5:=hi5.mono Zw.mono hle15
 have hs15n:=hs15.cap
 replace hs15:=hs15.anyK (B':=B15) ZZ.any
 refine xM (h:=xE (h:=xE (h:=xA (h:=Z1 4 rfl hs15 ZZ.mono om3 (fun B16 hle16 hr16=>?_)))))
 replace hf:=hf.mono Ze.mono hle16
 replace hs5:=hs5.mono Ze.mono hle16
 replace hu5:=hu5.mono Zs.mono hle16
 replace hi5:=hi5.mono Zw.mono hle16
 have hr16n:=hr16.len
 refine xA (h:=tL5 (Zg (Za (xM (h:=xN (h:=Zb rfl (fun g6=>?_) (fun g6=>?_)))))))
 try simp only [sQ,ne_eq] at g6
 refine Za ?_
 refine Zn (ZT [_,_,_,_,_] rfl rfl ZW rfl (Z9 3 rfl rfl rfl) ?_)
 refine Z1 2 rfl hs5 Ze.mono (by first | omega | decide | (simp;done) | (simp;omega)) (fun B17 hle17 hr17=>?_)
 obtain ⟨hf,hr16,hu5,hi5⟩:=up4 hle17 hf hr16 hu5 hi5
 have hr17n:=hr17.len
 refine xS [_,_,_,_,_] 1 [_,_,_,_,_] Zaq (h:=?_)
 rw [hge,ZkC hfd g6]
 refine xA (h:=tL5 (Zd (Zp ?_)))
 exact Zas .ret (.inl rfl) [_,_] [] rfl ⟨⟨_,rfl,.inr ⟨[_,_,_,_,_],ZW,Z9 1 rfl rfl rfl,rfl⟩⟩,rfl,trivial⟩ ⟨rfl,_,_,_,_,_,_,(by first | rfl | (simp only [DHost.withFolders,List.length_set];rfl)),hu5,hr17,hi5,by first | assumption | (rw [ZR.2.2.1];assumption)⟩
 try simp only [sQ,ne_eq] at g6
 refine wSk (Za (xW Z4 (h:=x1 ZcJ 3 (h:=xM (h:=xM (h:=?_))))))
 obtain ⟨bb18,_,hp18,⟨qg18,cg18,qm18,cm18,rfl,hg18,hm18,hb18,hb18b⟩,hw18,hc18⟩:=hs5.row hfd
 have hg18n:=hg18.len
 have hm18n:=hm18.len
 have hm18s:=Z7 hm18
 refine xIp hp18 Tryz.underlying24 Zbq (h:=xW Zea (h:=Zn (ZeJ (k:=((ZaI (inF o n) x.folders)).toNat) (off:=2) (⟨fd.owner,fd.name,(Zcc fd.grants u r).1,fd.next,fd.mail⟩) [_] 2 hs5 hp18 hfd rfl rfl Zwi rfl rfl rfl rfl rfl rfl (by rintro _ ⟨_,_,_,_,rfl,_,e2,e3,e4⟩;exact ⟨_,_,_,_,rfl,hr16,e2,e3,e4⟩) (fun l19 hv19=>?_))))
 refine tL5 (Za (xL [_,_,_,_,_] ZW 3 (h:=Z1 2 rfl hv19 Ze.mono om3 (fun B20 hle20 hr20=>?_))))
 obtain ⟨hf,hu5,hi5⟩:=up3 hle20 hf hu5 hi5
 have hr20n:=hr20.len
 refine xS [_,_,_,_,_] 1 [_,_,_,_,_] Zaq (h:=?_)
 rw [hge,Zjp hfd (by simpa using g6)]
 refine xA (h:=tL5 (Zd ?_))
 exact Zas .ret (.inl rfl) [_,_] [] rfl ⟨⟨_,rfl,.inr ⟨[_,_,_,_,_],ZW,Z9 1 rfl rfl rfl,rfl⟩⟩,rfl,trivial⟩ ⟨rfl,_,_,_,_,_,_,(by first | rfl | (simp only [DHost.withFolders,List.length_set];rfl)),hu5,hr20,hi5,by first | assumption | (rw [ZR.2.2.1];assumption)⟩
 try simp only [sQ,ne_eq] at g4
 have hne : ¬ (u≠anyone∧Zds x.users u<0):=fun h=>h.1 g4
 obtain ⟨_,hk0,_,_,_⟩:=ZeH g3
 have hge:Zcb x by_ o n u r=Zfr x (ZaI (inF o n) x.folders).toNat u r:=by rw [Zcb,if_neg hnn,if_neg (fun h=>h g3),if_neg hne]
 refine xP (h:=xP (h:=xP (h:=xP (h:=xP (h:=xF (h:=xA (h:=Zb (t:=false) rfl (fun h=>Bool.noConfusion h) (fun _=>ZL (ZA (Zj (Za (xW Z4 (h:=x1 ZcJ 0 (h:=xM (h:=?_)))))))))))))))
 obtain ⟨fd,hfd⟩:=ZeB (xs:=x.folders) (i:=(ZaI (inF o n) x.folders)) om om
 obtain ⟨bb22,oo22,rfl⟩:=hf.base hfd
 obtain ⟨_,⟨qg23,cg23,qm23,cm23,rfl,hg23,hm23,hb23,hb23b⟩,hc23⟩:=hf.elem hfd
 have hg23n:=hg23.len
 have hm23n:=hm23.len
 have hm23s:=Z7 hm23
 refine xIx Tryz.underlying24 Zbq (h:=?_)
 have hacl:=ZfK fd.grants u r
 have hfg:=ZgZ (ZaK hok hfd)
 refine xW Zea (h:=y1 Zs1 hc23 2 (h:=xM (h:=xM (h:=xC Zvv rfl (Zfe _ _ fd.grants u r om2 _ hg23) (h:=?_)))))
 rintro _ B24 _ hle24 ⟨l24,a24,c24,rfl,rfl,hs24⟩
 replace hs5:=hs5.mono Ze.mono hle24
 replace hu5:=hu5.mono Zs.mono hle24
 replace hi5:=hi5.mono Zw.mono hle24
 have hs24n:=hs24.cap
 replace hs24:=hs24.anyK (B':=B24) ZZ.any
 refine xM (h:=xE (h:=xE (h:=xA (h:=Z1 4 rfl hs24 ZZ.mono om3 (fun B25 hle25 hr25=>?_)))))
 replace hs5:=hs5.mono Ze.mono hle25
 replace hu5:=hu5.mono Zs.mono hle25
 replace hi5:=hi5.mono Zw.mono hle25
 have hr25n:=hr25.len
 refine xA (h:=tL5 (Zg (Za (xM (h:=xN (h:=Zb rfl (fun g6=>?_) (fun g6=>?_)))))))
 try simp only [sQ,ne_eq] at g6
 refine Za ?_
 refine Zn (ZT [_,_,_,_,_] rfl rfl ZW rfl (Z9 3 rfl rfl rfl) ?_)
 refine Z1 2 rfl hs5 Ze.mono (by first | omega | decide | (simp;done) | (simp;omega)) (fun B26 hle26 hr26=>?_)
 obtain ⟨hr25,hu5,hi5⟩:=up3 hle26 hr25 hu5 hi5
 have hr26n:=hr26.len
 refine xS [_,_,_,_,_] 1 [_,_,_,_,_] Zaq (h:=?_)
 rw [hge,ZkC hfd g6]
 refine xA (h:=tL5 (Zd (Zp ?_)))
 exact Zas .ret (.inl rfl) [_,_] [] rfl ⟨⟨_,rfl,.inr ⟨[_,_,_,_,_],ZW,Z9 1 rfl rfl rfl,rfl⟩⟩,rfl,trivial⟩ ⟨rfl,_,_,_,_,_,_,(by first | rfl | (simp only [DHost.withFolders,List.length_set];rfl)),hu5,hr26,hi5,by first | assumption | (rw [ZR.2.2.1];assumption)⟩
 try simp only [sQ,ne_eq] at g6
 refine wSk (Za (xW Z4 (h:=x1 ZcJ 3 (h:=xM (h:=xM (h:=?_))))))
 obtain ⟨bb27,_,hp27,⟨qg27,cg27,qm27,cm27,rfl,hg27,hm27,hb27,hb27b⟩,hw27,hc27⟩:=hs5.row hfd
 have hg27n:=hg27.len
 have hm27n:=hm27.len
 have hm27s:=Z7 hm27
 refine xIp hp27 Tryz.underlying24 Zbq (h:=xW Zea (h:=Zn (ZeJ (k:=((ZaI (inF o n) x.folders)).toNat) (off:=2) (⟨fd.owner,fd.name,(Zcc fd.grants u r).1,fd.next,fd.mail⟩) [_] 2 hs5 hp27 hfd rfl rfl Zwi rfl rfl rfl rfl rfl rfl (by rintro _ ⟨_,_,_,_,rfl,_,e2,e3,e4⟩;exact ⟨_,_,_,_,rfl,hr25,e2,e3,e4⟩) (fun l28 hv28=>?_))))
 refine tL5 (Za (xL [_,_,_,_,_] ZW 3 (h:=Z1 2 rfl hv28 Ze.mono om3 (fun B29 hle29 hr29=>?_))))
 obtain ⟨hu5,hi5⟩:=up2 hle29 hu5 hi5
 have hr29n:=hr29.len
 refine xS [_,_,_,_,_] 1 [_,_,_,_,_] Zaq (h:=?_)
 rw [hge,Zjp hfd (by simpa using g6)]
 refine xA (h:=tL5 (Zd ?_))
 exact Zas .ret (.inl rfl) [_,_] [] rfl ⟨⟨_,rfl,.inr ⟨[_,_,_,_,_],ZW,Z9 1 rfl rfl rfl,rfl⟩⟩,rfl,trivial⟩ ⟨rfl,_,_,_,_,_,_,(by first | rfl | (simp only [DHost.withFolders,List.length_set];rfl)),hu5,hr29,hi5,by first | assumption | (rw [ZR.2.2.1];assumption)⟩

theorem ZlZ (q1 q2 q3:Option Addr) (c1 c2 c3:Nat) (x:DHost) (qx:Option Addr) (cx:Nat) (l:DLetter) (hd:x.domain.length≤2000000) (B:Kn) (hu:SlK B q1 c1 3 Zs x.users) (hf:SlK B q2 c2 5 Ze x.folders) (hi:SlK B q3 c3 4 Zw x.queue.items) (hx:SlK B qx cx 1 Zbv l.to_) (h1:l.fr.length≤2000000) (h2:l.text.length≤2000000):Zv (pj J) 177 [.agg #[str x.domain,.slice q1 x.users.length c1,.slice q2 x.folders.length c2,.int .i64 x.queue.next,.slice q3 x.queue.items.length c3],.agg #[str l.fr,.slice qx l.to_.length cx,str l.text]] B [] (fun v B' Ls=>Ls=[]∧∃p1 d1 p2 d2 p3 d3,v = .tuple #[.agg #[str (Zbx x l).1.domain,.slice p1 (Zbx x l).1.users.length d1,.slice p2 (Zbx x l).1.folders.length d2,.int .i64 (Zbx x l).1.queue.next,.slice p3 (Zbx x l).1.queue.items.length d3],.int .i64 (Zbx x l).2]∧SlK B' p1 d1 3 Zs (Zbx x l).1.users∧SlK B' p2 d2 5 Ze (Zbx x l).1.folders∧SlK B' p3 d3 4 Zw (Zbx x l).1.queue.items∧(Zbx x l).1.domain.length≤2000000):=by
 refine cB 47 Tryz.func177 (h:=?_)
 have hun:=hu.len
 have hfn:=hf.len
 have hin:=hi.len
 have hxn:=hx.len
 refine Za (xBx [_,_,_,_,_] (h:=fun b1=>xBx [_,_,_] (h:=fun b2=>xAl [_,_,_,_,_] Za2 (h:=fun b3=>xA (h:=tL3 (Zg (Za (xL [_,_,_,_,_] ZW 0 (h:=xR Zsn rfl (ZbK _ _ _ _ _ _ x om2 _ hu hf hi) (h:=?_))))))))))
 refine xN (h:=xM (h:=Zo (d:=12) rfl (fun g1=>?_) (fun g1=>?_)))
 try simp only [sQ,ne_eq] at g1
 rw [Zbx,if_pos (by simp [g1])]
 refine xP (h:=xP (h:=xP (h:=xT (h:=Zb (t:=true) rfl (fun _=>Za (xB [] [_,_,_,_,_] [_,_,_,_,_] Zd6 Za2 (h:=xS [_,_,_,_,_] 2 [_,_,_,_,_] Zaq (h:=xA (h:=tL3 (Zd (Zp ?_))))))) (fun h=>Bool.noConfusion h)))))
 exact Zas .ret (.inl rfl) [_,_] [] rfl ⟨⟨_,rfl,.inr ⟨[_,_,_,_,_],ZW,Z9 2 rfl rfl rfl,rfl⟩⟩,rfl,trivial⟩ ⟨rfl,none,0,none,0,none,0,rfl,SlK.nil,SlK.nil,SlK.nil,by simp [ZaT]⟩
 try simp only [sQ,ne_eq] at g1
 refine xL [_,_,_] Znw 1 (h:=xR Zvy rfl (Zfd _ _ l _ hx oa oa) (h:=?_))
 refine xN (h:=xF (h:=Zb rfl (fun g2=>?_) (fun g2=>?_)))
 try simp only [sQ,ne_eq] at g2
 rw [Zbx,if_pos (by simp [g2])]
 refine Za (xB [] [_,_,_,_,_] [_,_,_,_,_] Zd6 Za2 (h:=xS [_,_,_,_,_] 2 [_,_,_,_,_] Zaq (h:=xA (h:=tL3 (Zd (Zp ?_))))))
 exact Zas .ret (.inl rfl) [_,_] [] rfl ⟨⟨_,rfl,.inr ⟨[_,_,_,_,_],ZW,Z9 2 rfl rfl rfl,rfl⟩⟩,rfl,trivial⟩ ⟨rfl,none,0,none,0,none,0,rfl,SlK.nil,SlK.nil,SlK.nil,by simp [ZaT]⟩
 try simp only [sQ,ne_eq] at g2
 have hok:Zx x=true:=by simpa using g1
 have hnn : ¬ ¬ (Zx x=true∧ZaW l=true):=fun h=>h ⟨hok,by simpa using g2⟩
 have hql:=Zcy (Zbt hok)
 have hal:=Zio x.queue l
 refine wSk (Za (xL [_,_,_,_,_] ZW 0 (h:=xC ZoL rfl (Zbn _ _ _ _ _ _ x _ hu hf hi) (h:=?_))))
 rintro _ B6 _ hle6 ⟨l6,a6,c6,q16,c16,q36,c36,rfl,rfl,hu6,hs6,hi6⟩
 obtain ⟨hu,hi,hx⟩:=up3 hle6 hu hi hx
 have hu6n:=hu6.len
 have hi6n:=hi6.len
 refine Z1 3 rfl hs6 Ze.mono om3 (fun B7 hle7 hr7=>?_)
 obtain ⟨hu,hi,hx,hu6,hi6⟩:=up5 hle7 hu hi hx hu6 hi6
 have hr7n:=hr7.len
 refine xAl [_,_,_,_,_] Za2 (h:=fun b8=>xS [_,_,_,_,_] 4 [_,_,_,_,_] Zaq (h:=tL5 (Zg (Za (xW ZbS (h:=x1 Zi1 0 (h:=xW Zjz (h:=x1 lk9 1 (h:=xR Zt9 rfl (Zdb _ _ _ _ _ hu) (h:=Zaf (h:=xM (h:=Zo (d:=26) rfl (fun g3=>?_) (fun g3=>?_)))))))))))))
 try simp only [sQ,ne_eq] at g3
 rw [Zbx,if_neg hnn,if_pos (.inl g3)]
 refine xP (h:=xP (h:=xP (h:=xP (h:=xP (h:=xT (h:=Zb (t:=true) rfl (fun _=>Za (xL [_,_,_,_,_] ZW 4 (h:=xS [_,_,_,_,_] 2 [_,_,_,_,_] Zaq (h:=xA (h:=tL5 (Zd (Zp ?_))))))) (fun h=>Bool.noConfusion h)))))))
 exact Zas .ret (.inl rfl) [_,_] [] rfl ⟨⟨_,rfl,.inr ⟨[_,_,_,_,_],ZW,Z9 2 rfl rfl rfl,rfl⟩⟩,rfl,trivial⟩ ⟨rfl,_,_,_,_,_,_,(by first | rfl | (simp only [DHost.withFolders,List.length_set];rfl)),hu6,hr7,hi6,by first | assumption | (rw [ZR.2.2.1];assumption)⟩
 try simp only [sQ,ne_eq] at g3
 refine xL [_,_,_,_,_] ZW 0 (h:=xW Zjy (h:=x1 Ze9 1 (h:=xR Zy1 rfl (Zkx _ _ _ _ _ _ x _ _ l.to_ _ hu hx) (h:=xN (h:=xF (h:=Zb rfl (fun g4=>?_) (fun g4=>?_)))))))
 try simp only [sQ,ne_eq] at g4
 rw [Zbx,if_neg hnn,if_pos (.inr g4)]
 refine Za (xL [_,_,_,_,_] ZW 4 (h:=xS [_,_,_,_,_] 2 [_,_,_,_,_] Zaq (h:=xA (h:=tL5 (Zd (Zp ?_))))))
 exact Zas .ret (.inl rfl) [_,_] [] rfl ⟨⟨_,rfl,.inr ⟨[_,_,_,_,_],ZW,Z9 2 rfl rfl rfl,rfl⟩⟩,rfl,trivial⟩ ⟨rfl,_,_,_,_,_,_,(by first | rfl | (simp only [DHost.withFolders,List.length_set];rfl)),hu6,hr7,hi6,by first | assumption | (rw [ZR.2.2.1];assumption)⟩
 try simp only [sQ,ne_eq] at g4
 have hn2 : ¬ (Zds x.users l.fr<0∨ZgV x.users l.to_=false):=fun h=>h.elim oz (by simpa using g4)
 refine wSk (Za (xW ZaU (h:=xL [_,_] Zb4 0 (h:=xL [_,_,_] Znw 1 (h:=xC Ztv rfl (ZgH _ _ x.queue _ _ l _ hi hx (by first | assumption | omega | (simp;omega)) (by first | assumption | omega | (simp;omega))) (h:=?_))))))
 rintro _ B11 _ hle11 ⟨l11,a11,c11,rfl,rfl,hv11⟩
 obtain ⟨hu6,hr7,hi6⟩:=up3 hle11 hu6 hr7 hi6
 replace hv11:=hv11.mono Zw.mono Kn.less_le
 refine xM (h:=xE (h:=Z1 5 rfl hv11 Zw.mono om3 (fun B12 hle12 hr12=>?_)))
 obtain ⟨hu6,hr7,hi6⟩:=up3 hle12 hu6 hr7 hi6
 have hr12n:=hr12.len
 refine xE (h:=xAl [_,_] ZfL (h:=fun b13=>xS [_,_] 6 [_,_] Zdg (h:=xA (h:=tL7 (Zg (Za (xM (h:=xN (h:=Zb rfl (fun g5=>?_) (fun g5=>?_))))))))))
 try simp only [sQ,ne_eq] at g5
 rw [Zbx,if_neg hnn,if_neg hn2,if_neg (by rw [g5];exact Bool.false_ne_true)]
 refine Za (xL [_,_,_,_,_] ZW 4 (h:=xS [_,_,_,_,_] 2 [_,_,_,_,_] Zaq (h:=xA (h:=tL7 (Zd (Zp ?_))))))
 exact Zas .ret (.inl rfl) [_,_] [] rfl ⟨⟨_,rfl,.inr ⟨[_,_,_,_,_],ZW,Z9 2 rfl rfl rfl,rfl⟩⟩,rfl,trivial⟩ ⟨rfl,_,_,_,_,_,_,(by first | rfl | (simp only [DHost.withFolders,List.length_set];rfl)),hu6,hr7,hi6,by first | assumption | (rw [ZR.2.2.1];assumption)⟩
 try simp only [sQ,ne_eq] at g5
 rw [Zbx,if_neg hnn,if_neg hn2,if_pos (by simpa using g5)]
 refine wSk (Za (xL [_,_] Zb4 6 (h:=xW ZaU (h:=xS [_,_] 4 [_,_,_,_,_] Zdg (h:=tL7 (Za (xL [_,_,_,_,_] ZW 4 (h:=xS [_,_,_,_,_] 2 [_,_,_,_,_] Zaq (h:=xA (h:=tL7 (Zd ?_)))))))))))
 exact Zas .ret (.inl rfl) [_,_] [] rfl ⟨⟨_,rfl,.inr ⟨[_,_,_,_,_],ZW,Z9 2 rfl rfl rfl,rfl⟩⟩,rfl,trivial⟩ ⟨rfl,_,_,_,_,_,_,(by first | rfl | (simp only [DHost.withFolders,List.length_set];rfl)),hu6,hr7,hr12,by first | assumption | (rw [ZR.2.2.1];assumption)⟩

theorem Zdn (q1 q2 q3:Option Addr) (c1 c2 c3:Nat) (x:DHost) (id:Int) (u:Str) (hul:u.length≤2000000) (hd:x.domain.length≤2000000) (B:Kn) (hu:SlK B q1 c1 3 Zs x.users) (hf:SlK B q2 c2 5 Ze x.folders) (hi:SlK B q3 c3 4 Zw x.queue.items):Zv (pj J) 9 [.agg #[str x.domain,.slice q1 x.users.length c1,.slice q2 x.folders.length c2,.int .i64 x.queue.next,.slice q3 x.queue.items.length c3],.int .i64 id,str u] B [] (fun v B' Ls=>Ls=[]∧∃p1 d1 p2 d2 p3 d3,v = .tuple #[.agg #[str (Zy x id u).1.domain,.slice p1 (Zy x id u).1.users.length d1,.slice p2 (Zy x id u).1.folders.length d2,.int .i64 (Zy x id u).1.queue.next,.slice p3 (Zy x id u).1.queue.items.length d3],.int .i64 (Zy x id u).2]∧SlK B' p1 d1 3 Zs (Zy x id u).1.users∧SlK B' p2 d2 5 Ze (Zy x id u).1.folders∧SlK B' p3 d3 4 Zw (Zy x id u).1.queue.items∧(Zy x id u).1.domain.length≤2000000):=by
 refine cB 45 Tryz.func9 (h:=?_)
 have hun:=hu.len
 have hfn:=hf.len
 have hin:=hi.len
 have hix:=ZcY (inF u inbox) x.folders
 refine Za (xBx [_,_,_,_,_] (h:=fun b1=>xAl [_,_,_,_,_] Za2 (h:=fun b2=>xA (h:=tL2 (Zg (Za (xL [_,_,_,_,_] ZW 0 (h:=xR Zsn rfl (ZbK _ _ _ _ _ _ x om2 _ hu hf hi) (h:=?_)))))))))
 refine xN (h:=Zb rfl (fun g1=>?_) (fun g1=>?_))
 try simp only [sQ,ne_eq] at g1
 rw [Zy,if_pos g1]
 refine Za (xB [] [_,_,_,_,_] [_,_,_,_,_] Zd6 Za2 (h:=xS [_,_,_,_,_] 1 [_,_,_,_,_] Zaq (h:=xA (h:=tL2 (Zd (Zp ?_))))))
 exact Zas .ret (.inl rfl) [_,_] [] rfl ⟨⟨_,rfl,.inr ⟨[_,_,_,_,_],ZW,Z9 1 rfl rfl rfl,rfl⟩⟩,rfl,trivial⟩ ⟨rfl,none,0,none,0,none,0,rfl,SlK.nil,SlK.nil,SlK.nil,by simp [ZaT]⟩
 try simp only [sQ,ne_eq] at g1
 have hok:Zx x=true:=by simpa using g1
 have hnn : ¬ Zx x=false:=by simp [hok]
 have htl:(Zba x.queue id u).1.items.length≤x.queue.items.length:=ZiE id u x.queue.items
 refine wSk (Za (xW ZaU (h:=xL [_,_] Zb4 0 (h:=xM (h:=xM (h:=xC Zzd rfl (Zmp _ _ x.queue id u _ hi) (h:=?_)))))))
 rintro _ B4 _ hle4 ⟨l4,a4,c4,rfl,rfl,hv4,ht4⟩
 obtain ⟨hu,hf,hi⟩:=up3 hle4 hu hf hi
 replace hv4:=hv4.mono Zw.mono Kn.less_le
 refine xM (h:=xE (h:=Z1 2 rfl hv4 Zw.mono om3 (fun B5 hle5 hr5=>?_)))
 obtain ⟨hu,hf,hi⟩:=up3 hle5 hu hf hi
 have hr5n:=hr5.len
 refine xE (h:=xE (h:=xAl [_,_] ZfL (h:=fun b6=>xS [_,_] 3 [_,_] Zdg (h:=xA (h:=xA (h:=tL4 (Zg (Za (xM (h:=xN (h:=Zb rfl (fun g2=>?_) (fun g2=>?_))))))))))))
 try simp only [sQ,ne_eq] at g2
 refine Za (xL [_,_,_,_,_] ZW 0 (h:=xC ZoL rfl (Zbn _ _ _ _ _ _ x _ hu hf hi) (h:=?_)))
 rintro _ B7 _ hle7 ⟨l7,a7,c7,q17,c17,q37,c37,rfl,rfl,hu7,hs7,hi7⟩
 obtain ⟨hu,hf,hi,hr5⟩:=up4 hle7 hu hf hi hr5
 have hu7n:=hu7.len
 have hi7n:=hi7.len
 refine Z1 4 rfl hs7 Ze.mono om3 (fun B8 hle8 hr8=>?_)
 obtain ⟨hu,hf,hi,hu7,hi7,hr5⟩:=up6 hle8 hu hf hi hu7 hi7 hr5
 have hr8n:=hr8.len
 refine xS [_,_,_,_,_] 1 [_,_,_,_,_] Zaq (h:=?_)
 rw [Zy,if_neg hnn,if_pos g2]
 refine xA (h:=tL5 (Zd (Zp ?_)))
 exact Zas .ret (.inl rfl) [_,_] [] rfl ⟨⟨_,rfl,.inr ⟨[_,_,_,_,_],ZW,Z9 1 rfl rfl rfl,rfl⟩⟩,rfl,trivial⟩ ⟨rfl,_,_,_,_,_,_,(by first | rfl | (simp only [DHost.withFolders,List.length_set];rfl)),hu7,hr8,hi7,by first | assumption | (rw [ZR.2.2.1];assumption)⟩
 try simp only [sQ,ne_eq] at g2
 have hn2 : ¬ (Zba x.queue id u).2.2=false:=by simpa using g2
 have hdt:=Zec (id:=id) (u:=u) hok
 have hda:0≤ZaI (inF u inbox) x.folders:=ZdC hok (by simpa using g2)
 have hda2:0≤ZaI (inF u [105,110,98,111,120]) x.folders:=hda
 have hix2:ZaI (inF u [105,110,98,111,120]) x.folders<x.folders.length:=hix.1
 refine wSk (Zg (Z0 (keeps _ [0] _) mo kr ⟨Kn.le.refl _,Zad.refl _ _⟩ (fun _ _=>?_)))
 refine aT 0 rfl (ZB fun D B L hI=>ZT [_,_,_,_,_] rfl rfl ZW rfl (Z9 0 (hI.2.1.trans rfl) rfl rfl) r4) (h:=aT 1 rfl (ZB fun D B L hI=>ZT [_,_,_,_,_] rfl rfl ZW rfl (Z9 0 (hI.2.1.trans rfl) rfl rfl) r4) (h:=aM 2 rfl (h:=aT 3 rfl (ZB fun D B L hI=>Zbc rfl rfl Zvn rfl (ZdO _ _ _ _ _ _ x u [105,110,98,111,120] om2 om2 _ (hf.mono Ze.mono hI.1)) r4) (h:=?_))))
 refine aM 4 rfl (h:=Zak [5,9] kr kr kr ⟨?_,?_⟩)
 refine (Zef rfl rfl Zxh rfl (Zig _ _ _ _ _ _ x (ZaI (inF u [105,110,98,111,120]) x.folders) 0 ((Zba x.queue id u).2.1) om2 (oy) oz oz om2 _ hu hf hi) ?_)
 intro v10 B10 hle10
 rintro ⟨p110,d110,p210,d210,p310,d310,rfl,hu10,hf10,hi10,hd10⟩
 obtain ⟨hu,hf,hi,hr5⟩:=up4 hle10 hu hf hi hr5
 have hu10n:=hu10.len
 have hf10n:=hf10.len
 have hi10n:=hi10.len
 refine ⟨⟨hle10,t1⟩,(aM 6 rfl (h:=aE 7 rfl (h:=aE 8 rfl (h:=Zq 9 kr rfl kr (Zai (l:=[_,_,_,_,_]) rfl rfl Za2 rfl (fun b11=>?_))))))⟩
 refine ⟨⟨hle10,t1⟩,(Za8 10 kr rfl kr kr (ZF [_,_,_,_,_] 4 [_,_,_,_,_] rfl rfl Zaq rfl rfl rfl rfl rfl rfl rfl rfl ?_))⟩
 refine aA 11 rfl (h:=Zz kr kr ?_)
 refine Zj (tL5 (Zg (Za (xM (h:=Zbm (h:=Zb rfl (fun g3=>?_) (fun g3=>?_)))))))
 try simp only [sQ,ne_eq] at g3
 rw [Zy,if_neg hnn,if_neg hn2,if_pos (show (Zam x (ZaI (inF u inbox) x.folders).toNat 0 (Zba x.queue id u).2.1).2≠4 from g3)]
 refine Zc (xL [_,_] Zb4 3 (h:=xW ZaU (h:=xS [_,_] 4 [_,_,_,_,_] Zdg (h:=Zj (Za (xL [_,_,_,_,_] ZW 4 (h:=xM (h:=xS [_,_,_,_,_] 1 [_,_,_,_,_] Zaq (h:=xA (h:=tL5 (Zd ?_)))))))))))
 exact Zas .ret (.inl rfl) [_,_] [] rfl ⟨⟨_,rfl,.inr ⟨[_,_,_,_,_],ZW,Z9 1 rfl rfl rfl,rfl⟩⟩,rfl,trivial⟩ ⟨rfl,_,_,_,_,_,_,(by first | rfl | (simp only [DHost.withFolders,List.length_set];rfl)),hu10,hf10,hr5,by first | assumption | (rw [ZR.2.2.1];assumption)⟩
 try simp only [sQ,ne_eq] at g3
 rw [Zy,if_neg hnn,if_neg hn2,if_neg (show ¬ (Zam x (ZaI (inF u inbox) x.folders).toNat 0 (Zba x.queue id u).2.1).2≠4 from fun h=>h g3)]
 refine wSk (Za (xL [_,_,_,_,_] ZW 4 (h:=xM (h:=xS [_,_,_,_,_] 1 [_,_,_,_,_] Zaq (h:=xA (h:=tL5 (Zd ?_)))))))
 exact Zas .ret (.inl rfl) [_,_] [] rfl ⟨⟨_,rfl,.inr ⟨[_,_,_,_,_],ZW,Z9 1 rfl rfl rfl,rfl⟩⟩,rfl,trivial⟩ ⟨rfl,_,_,_,_,_,_,(by first | rfl | (simp only [DHost.withFolders,List.length_set];rfl)),hu10,hf10,hi10,by first | assumption | (rw [ZR.2.2.1];assumption)⟩
 refine (Zai (l:=[_,_,_,_,_]) rfl rfl Za2 rfl (fun b12=>⟨⟨Kn.le.refl _,t1⟩,(Zq 5 kr rfl kr (Zef rfl rfl Zxh rfl (Zig _ _ _ _ _ _ x (ZaI (inF u [105,110,98,111,120]) x.folders) 0 ((Zba x.queue id u).2.1) om2 (oy) oz oz om2 _ hu hf hi) ?_))⟩))
 intro v13 B13 hle13
 rintro ⟨p113,d113,p213,d213,p313,d313,rfl,hu13,hf13,hi13,hd13⟩
 replace hr5:=up1 hle13 hr5
 have hu13n:=hu13.len
 have hf13n:=hf13.len
 have hi13n:=hi13.len
 refine ⟨⟨hle13,t1⟩,(aM 6 rfl (h:=aE 7 rfl (h:=aE 8 rfl (h:=Za8 10 kr rfl kr kr (ZF [_,_,_,_,_] 4 [_,_,_,_,_] rfl rfl Zaq rfl rfl rfl rfl rfl rfl rfl rfl ?_)))))⟩
 refine aA 11 rfl (h:=Zz kr kr ?_)
 refine Zj (tL5 (Zg (Za (xM (h:=Zbm (h:=Zb rfl (fun g3=>?_) (fun g3=>?_)))))))
 try simp only [sQ,ne_eq] at g3
 rw [Zy,if_neg hnn,if_neg hn2,if_pos (show (Zam x (ZaI (inF u inbox) x.folders).toNat 0 (Zba x.queue id u).2.1).2≠4 from g3)]
 refine Zc (xL [_,_] Zb4 3 (h:=xW ZaU (h:=xS [_,_] 4 [_,_,_,_,_] Zdg (h:=Zj (Za (xL [_,_,_,_,_] ZW 4 (h:=xM (h:=xS [_,_,_,_,_] 1 [_,_,_,_,_] Zaq (h:=xA (h:=tL5 (Zd ?_)))))))))))
 exact Zas .ret (.inl rfl) [_,_] [] rfl ⟨⟨_,rfl,.inr ⟨[_,_,_,_,_],ZW,Z9 1 rfl rfl rfl,rfl⟩⟩,rfl,trivial⟩ ⟨rfl,_,_,_,_,_,_,(by first | rfl | (simp only [DHost.withFolders,List.length_set];rfl)),hu13,hf13,hr5,by first | assumption | (rw [ZR.2.2.1];assumption)⟩
 try simp only [sQ,ne_eq] at g3
 rw [Zy,if_neg hnn,if_neg hn2,if_neg (show ¬ (Zam x (ZaI (inF u inbox) x.folders).toNat 0 (Zba x.queue id u).2.1).2≠4 from fun h=>h g3)]
 refine wSk (Za (xL [_,_,_,_,_] ZW 4 (h:=xM (h:=xS [_,_,_,_,_] 1 [_,_,_,_,_] Zaq (h:=xA (h:=tL5 (Zd ?_)))))))
 exact Zas .ret (.inl rfl) [_,_] [] rfl ⟨⟨_,rfl,.inr ⟨[_,_,_,_,_],ZW,Z9 1 rfl rfl rfl,rfl⟩⟩,rfl,trivial⟩ ⟨rfl,_,_,_,_,_,_,(by first | rfl | (simp only [DHost.withFolders,List.length_set];rfl)),hu13,hf13,hi13,by first | assumption | (rw [ZR.2.2.1];assumption)⟩

end Go.Proofs.YtikanaeckjcelaaGreatDoor
