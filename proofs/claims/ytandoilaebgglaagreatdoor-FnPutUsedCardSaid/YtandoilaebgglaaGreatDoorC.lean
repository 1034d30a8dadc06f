/-
  WHAT THE FUNCTIONS THAT THE LAWS REACH COMPUTE: each function's contract, proved off its printed body (the text is written by program). No condition beyond those that each theorem states.
-/
import Derived.Test.YtandoilaebgglaaGreatDoorC3
namespace Go.Proofs.YtandoilaebgglaaGreatDoor
open Go Go.BL
set_option linter.unusedVariables false
set_option linter.unusedSimpArgs false
set_option maxRecDepth 4000
set_option maxHeartbeats 6400000
variable {J : JoinT}
theorem Zl4 (b:Nat) (q:Option Addr) (m cp p:Nat) (hp:p≤700000000000) (hm:m≤2000) (B:Kn) (hbm:Zah B q m):Zv (pj J) 66 [ptr ⟨b,0,none⟩] B [rd b q m cp p] (fun v B' Ls=>∃(x:DHost) (p1 p2 p3:Option Addr) (d1 d2 d3 k:Nat),v = .agg #[str x.domain,.slice p1 x.users.length d1,.slice p2 x.folders.length d2,.int .i64 x.queue.next,.slice p3 x.queue.items.length d3]∧SlK B' p1 d1 3 Zu x.users∧SlK B' p2 d2 5 Ze x.folders∧SlK B' p3 d3 4 Zy x.queue.items∧x.domain.length≤2000000∧Zw x=true∧k≤p+6000∧Ls=[rd b q m cp k]):=by
 refine cB 37 Tryz.func66 (h:=?_)
 refine Za (xAl [_,_,_,_,_] ZaY (h:=fun b1=>tL2 (Za (xB [(0,_),(1,_),(2,_)] [_,_,_] [_,_,_] Zsy Zgl (h:=xM (h:=xX 0 rfl Za7 rfl (ZK _ _ _ _ _ _ oz oz oz hm _ hbm) (h:=?_)))))))
 rintro _ _ ⟨ra,rfl,raa,rab,rfl⟩
 refine xD (h:=xB [(0,_),(1,_),(2,_)] [_,_,_] [_,_,_] Zsy Zgl (h:=xM (h:=xX 0 rfl Za7 rfl (ZK _ _ _ _ _ _ oz oz oz hm _ hbm) (h:=?_))))
 rintro _ _ ⟨rb,rfl,rba,rbb,rfl⟩
 refine xD (h:=xB [(0,_),(1,_),(2,_)] [_,_,_] [_,_,_] Zsy Zgl (h:=xBs [(0,_),(1,_),(2,_)] [_,_,_,_,_,_,_,_,_] Tryz.underlying23 ZeC Zgl (h:=fun b4=>?_)))
 have hdl:(ZfL ra rb).length=3:=rfl
 have hvq:ZY B (Zar b4 [str [97,109,121],str [97,49],int 60,str [98,111,98],str [98,50],int (20+ra),str [99,121,100],str [99,51],int (100+rb)] 50) (some ⟨b4,0,none⟩) 3 50 3 Zu (ZfL ra rb):=ZY.lit (rows:=[[str [97,109,121],str [97,49],int 60],[str [98,111,98],str [98,50],int (20+ra)],[str [99,121,100],str [99,51],int (100+rb)]]) (.cons ⟨rfl,by simp,by simp⟩ (.cons ⟨rfl,by simp,by simp⟩ (.cons ⟨rfl,by simp,by simp⟩ .nil))) (by intro row hr;simp only [List.mem_cons,List.not_mem_nil,or_false] at hr;rcases hr with rfl | rfl | rfl <;> rfl)
 have hdu:=ZrC (a:=ra) (b:=rb) oz oz oz oz
 refine Z5 2 rfl hvq Zu.mono om3 (fun B5 hle5 hr5=>?_)
 replace hbm:=hbm.mono hle5
 have hr5n:=hr5.len
 refine xQ ZyJ rfl (Zqo _ _ [104,111,115,116,46,111,114,103] (ZfL ra rb) om2 om2 _ hr5) (h:=?_)
 intro vh Bh hleh
 rintro ⟨q1h,c1h,q2h,c2h,q3h,c3h,rfl,huh,hfh,hih⟩
 replace hbm:=hbm.mono hleh
 have huhn:=huh.len
 have hfhn:=hfh.len
 have hihn:=hih.len
 refine xM (h:=xE (h:=xE (h:=xAl [_,_,_,_,_] ZaY (h:=fun b7=>xS [_,_,_,_,_] 3 [_,_,_,_,_] Zan (h:=xA (h:=tL4 (Za (xM (h:=xX 0 rfl Za7 rfl (ZK _ _ _ _ _ _ oz oz oz hm _ hbm) (h:=?_))))))))))
 rintro _ _ ⟨rn,rfl,rna,rnb,rfl⟩
 refine xA (h:=tL4 (Zf (Za (xA (h:=Zl (ZM (α:=GHo) [0,2,3,5] (fun g=>[(6,.int .i64 g.k)]) [0,3] (fun g=>[rd b q m cp g.p,Zar b7 [str g.x.domain,.slice g.q1 g.x.users.length g.c1,.slice g.q2 g.x.folders.length g.c2,.int .i64 g.x.queue.next,.slice g.q3 g.x.queue.items.length g.c3] 29]) (fun g Bx=>g.k≤40∧g.p≤p+4+60*g.k∧Zw g.x=true∧g.x.domain.length≤2000000∧SlK Bx g.q1 g.c1 3 Zu g.x.users∧SlK Bx g.q2 g.c2 5 Ze g.x.folders∧SlK Bx g.q3 g.c3 4 Zy g.x.queue.items) (fun g=>40 - g.k) ⟨0,_,(Zcn [104,111,115,116,46,111,114,103] (ZfL ra rb)).1,_,_,_,_,_,_⟩ t1 rfl (⟨Nat.zero_le _,(so),(by rw [hdu.1];exact hdu.2),(by rw [hdu.1];exact (by decide:(8:Nat)≤2000000)),huh,hfh,hih⟩) (fun g B9 hle9 hI=>?_)))))))
 obtain ⟨hk,hgp,hgo,hgd,hgu,hgf,hgi⟩:=hI
 have hgin:=hgi.len
 have hleft:=Znt hgo
 replace hbm:=hbm.mono hle9
 refine ZL [(0,_),(2,_),(3,_),(5,_),(6,_)] [_,_,_,_] t5 rfl (Zf (Za (xM (h:=xM (h:=Z9 (h:=Zb rfl (fun g1=>?_) (fun g1=>?_)))))))
 try simp only [sQ,ne_eq] at g1
 refine wSk (Zf (Zl (ZZ (keeps _ [3] _) mo kr ⟨Kn.le.refl _,Zag.refl _ _⟩ (fun _ _=>?_))))
 refine aT 0 rfl (ZC fun D B L hI=>ZS [_,_,_,_,_] rfl rfl ZV rfl (Z8 3 (hI.2.1.trans rfl) rfl rfl) r4) (h:=aM 1 rfl (h:=aT 2 rfl (ZC fun D B L hI=>ZS [_,_,_,_,_] rfl rfl ZV rfl (Z8 3 (hI.2.1.trans rfl) rfl rfl) r4) (h:=Zq 3 kr rfl kr (ZaB [0] rfl rfl rfl rfl ZyH rfl (Zph _ _ _ _ _ oz hm _ _ _ _ _ _ g.x (oy) _ hbm hgi) ?_))))
 rintro _ Be _ hlee ⟨ee,ke,rfl,hee1,hee2,hee3,hee4,hee5,hke,rfl⟩
 obtain ⟨hgu,hgf,hgi⟩:=up3 hlee hgu hgf hgi
 refine ⟨⟨hlee,t1⟩,(Zq 4 kr rfl kr (Zd7 rfl rfl ZyI rfl (Zsl _ _ _ _ _ _ g.x ee om2 om2 om2 om2 om2 om2 _ hgu hgf hgi) ?_))⟩
 intro vy By hley
 rintro ⟨p1y,d1y,p2y,d2y,p3y,d3y,rfl,huy,hfy,hiy,hdy⟩
 obtain ⟨hgu,hgf,hgi⟩:=up3 hley hgu hgf hgi
 have huyn:=huy.len
 have hfyn:=hfy.len
 have hiyn:=hiy.len
 refine ⟨⟨(hlee.trans hley),t1⟩,(aM 5 rfl (h:=aE 6 rfl (h:=aE 7 rfl (h:=Zbh 8 kr rfl kr kr (ZH [_,_,_,_,_] 3 [_,_,_,_,_] rfl rfl Zan rfl rfl rfl rfl rfl rfl rfl rfl ?_)))))⟩
 refine Zz kr kr ?_
 refine Zx (Zj (Zc (xM (h:=xD (h:=xA (h:=?_))))))
 exact ZB ⟨g.k+1,ke,(hDo g.x ee).1,_,_,_,_,_,_⟩ [0,1,2,3] so2 ⟨so,so,Zwr hgo,hdy,huy,hfy,hiy⟩ t5 rfl
 try simp only [sQ,ne_eq] at g1
 refine ZT (Zaa (ZW (ZG (Zj (Za (xL [_,_,_,_,_] ZV 3 (h:=xS [_,_,_,_,_] 1 [_,_,_,_,_] Zan (h:=tL4 (Zd ?_)))))))))
 exact eN [0] rfl ⟨⟨_,rfl,.inr ⟨[_,_,_,_,_],ZV,Z8 1 rfl rfl rfl,rfl⟩⟩,trivial⟩ ⟨_,_,_,_,_,_,_,_,rfl,hgu,hgf,hgi,oy,hgo,so2,rfl⟩

theorem Zpe (b:Nat) (q:Option Addr) (m cp p:Nat) (hp:p≤650000000000) (hm:m≤2000) (B:Kn) (hbm:Zah B q m):Zv (pj J) 65 [ptr ⟨b,0,none⟩] B [rd b q m cp p] (fun v B' Ls=>∃(x:DHost) (p1 p2 p3:Option Addr) (d1 d2 d3 k:Nat),v = .agg #[str x.domain,.slice p1 x.users.length d1,.slice p2 x.folders.length d2,.int .i64 x.queue.next,.slice p3 x.queue.items.length d3]∧SlK B' p1 d1 3 Zu x.users∧SlK B' p2 d2 5 Ze x.folders∧SlK B' p3 d3 4 Zy x.queue.items∧x.domain.length≤2000000∧k≤p+8000∧Ls=[rd b q m cp k]):=by
 refine cB 57 Tryz.func65 (h:=?_)
 refine Za (xAl [_,_,_,_,_] ZaY (h:=fun b1=>tL2 (Za (xM (h:=xK [0] rfl Zy6 rfl (Zl4 _ _ _ _ _ oz hm _ hbm) (h:=?_))))))
 rintro _ Bh _ hleh ⟨xh,p1h,p2h,p3h,d1h,d2h,d3h,kh,rfl,huh,hfh,hih,hdh,hoh,hkh,rfl⟩
 replace hbm:=hbm.mono hleh
 have huhn:=huh.len
 have hfhn:=hfh.len
 have hihn:=hih.len
 have hpos:=Zpn hoh
 refine xC Zox rfl (Zbj _ _ _ _ _ _ xh _ huh hfh hih) (h:=?_)
 rintro _ B3 _ hle3 ⟨l3,a3,c3,q13,c13,q33,c33,rfl,rfl,hu3,hs3,hi3⟩
 replace hbm:=hbm.mono hle3
 have hu3n:=hu3.len
 have hi3n:=hi3.len
 refine xAl [_,_,_,_,_] ZaY (h:=fun b4=>xS [_,_,_,_,_] 3 [_,_,_,_,_] Zan (h:=tL4 (Zf (Za (xM (h:=xX 0 rfl Za7 rfl (ZK _ _ _ _ _ _ oz oz oz hm _ hbm) (h:=?_)))))))
 rintro _ _ ⟨rk,rfl,rka,rkb,rfl⟩
 refine tL4 (Zl (Za (ZF (h:=xA (h:=Zb rfl (fun g0=>?_) (fun g0=>?_))))))
 try simp only [sQ,ne_eq] at g0
 refine Zc (xM (h:=xX 0 rfl ZyO rfl (Znl _ _ _ _ _ oz hm _ hbm) (h:=?_)))
 rintro _ _ ⟨x6,rfl,hx6,rfl⟩
 refine xW Zi7 (h:=xS [_] 3 [_,_,_,_,_] sz9 (h:=Zx (Zj (Za (xL [_,_,_,_,_] ZV 3 (h:=Z5 2 rfl hs3 Ze.mono om3 (fun B7 hle7 hr7=>?_)))))))
 obtain ⟨hu3,hi3⟩:=up2 hle7 hu3 hi3
 replace hbm:=hbm.mono hle7
 have hr7n:=hr7.len
 refine xS [_,_,_,_,_] 1 [_,_,_,_,_] Zan (h:=tL4 (Zd ?_))
 exact eN [0] rfl ⟨⟨_,rfl,.inr ⟨[_,_,_,_,_],ZV,Z8 1 rfl rfl rfl,rfl⟩⟩,trivial⟩ ⟨⟨x6,xh.users,xh.folders,⟨xh.queue.next,xh.queue.items⟩⟩,_,_,_,_,_,_,_,(ol),hu3,hr7,hi3,by first | assumption | omega | (simp only [];omega),so2,rfl⟩
 try simp only [sQ,ne_eq] at g0
 refine Za (ZF (h:=xA (h:=Zb rfl (fun g1=>?_) (fun g1=>?_))))
 try simp only [sQ,ne_eq] at g1
 refine Zc (xM (h:=xK [0] rfl ZyN rfl (Zpf _ _ _ _ _ oz hm _ hbm) (h:=?_)))
 rintro _ B8 _ hle8 ⟨q8,cp8,us8,p8,rfl,hu8,hun8,hp8,rfl⟩
 replace hs3:=hs3.mono Ze.mono hle8
 replace hu3:=hu3.mono Zu.mono hle8
 replace hi3:=hi3.mono Zy.mono hle8
 replace hbm:=hbm.mono hle8
 have hu8n:=hu8.len
 refine Zo (Zez rfl rfl Zby rfl ?_)
 refine Zo (ZH [_] 3 [_,_,_,_,_] rfl rfl Zzi rfl rfl rfl rfl rfl rfl rfl rfl ?_)
 refine Zx (Zj ?_)
 refine Za ?_
 refine Zo (ZS [_,_,_,_,_] rfl rfl ZV rfl (Z8 3 rfl rfl rfl) ?_)
 refine Z5 2 rfl hs3 Ze.mono (by first | omega | decide | (simp;done) | (simp;omega)) (fun B9 hle9 hr9=>?_)
 obtain ⟨hu8,hi3⟩:=up2 hle9 hu8 hi3
 replace hbm:=hbm.mono hle9
 have hr9n:=hr9.len
 refine xS [_,_,_,_,_] 1 [_,_,_,_,_] Zan (h:=tL4 (Zd ?_))
 exact eN [0] rfl ⟨⟨_,rfl,.inr ⟨[_,_,_,_,_],ZV,Z8 1 rfl rfl rfl,rfl⟩⟩,trivial⟩ ⟨⟨xh.domain,us8,xh.folders,⟨xh.queue.next,xh.queue.items⟩⟩,_,_,_,_,_,_,_,(ol),hu8,hr9,hi3,by first | assumption | omega | (simp only [];omega),so2,rfl⟩
 try simp only [sQ,ne_eq] at g1
 refine Za (ZF (h:=xA (h:=Zb rfl (fun g2=>?_) (fun g2=>?_))))
 try simp only [sQ,ne_eq] at g2
 refine Zc (xW Z0 (h:=x1 Zcy 3 (h:=Z5 2 rfl hs3 Ze.mono om3 (fun B10 hle10 hr10=>?_))))
 obtain ⟨hu3,hi3⟩:=up2 hle10 hu3 hi3
 replace hbm:=hbm.mono hle10
 have hr10n:=hr10.len
 obtain ⟨hq11,q11,cp11,hv11,hr11⟩:=hr10.cutE 1 xh.folders.length om om
 have hr11n:=hr11.len
 refine Zo (Zhq (a:=1) (b:=xh.folders.length) hv11 om hq11 rfl rfl Tryz.underlying24 Zbm rfl ⟨_,_,rfl,by first | omega | (simp;done) | (simp;omega)⟩ rfl ?_)
 refine xW Z0 (h:=xS [_] 3 [_,_,_,_,_] Zr5 (h:=Zx (Zj (Za (xL [_,_,_,_,_] ZV 3 (h:=xS [_,_,_,_,_] 1 [_,_,_,_,_] Zan (h:=tL4 (Zd ?_))))))))
 exact eN [0] rfl ⟨⟨_,rfl,.inr ⟨[_,_,_,_,_],ZV,Z8 1 rfl rfl rfl,rfl⟩⟩,trivial⟩ ⟨⟨xh.domain,xh.users,((xh.folders.take xh.folders.length).drop 1),⟨xh.queue.next,xh.queue.items⟩⟩,_,_,_,_,_,_,_,(ol),hu3,hr11,hi3,by first | assumption | omega | (simp only [];omega),so2,rfl⟩
 try simp only [sQ,ne_eq] at g2
 refine Za (ZF (h:=xA (h:=Zb rfl (fun g3=>?_) (fun g3=>?_))))
 try simp only [sQ,ne_eq] at g3
 refine ZZ (keeps _ [2,3] _) mo kr ⟨Kn.le.refl _,Zag.refl _ _⟩ (fun _ _=>?_)
 refine aW 0 rfl Z0 (h:=aT 1 rfl (ZC fun D B L hI=>Zh rfl rfl Zcy rfl (atL 3 (hI.2.2.1.trans rfl) rfl rfl) r4) (h:=aM 2 rfl (h:=aW 3 rfl Z0 (h:=aT 4 rfl (ZC fun D B L hI=>Zh rfl rfl Zcy rfl (atL 3 (hI.2.2.1.trans rfl) rfl rfl) r4) (h:=aV 5 rfl Tryz.underlying24 (h:=aM 7 rfl (h:=Zq 6 kr rfl kr (Zck 0 rfl rfl rfl Za7 rfl (ZK _ _ _ _ _ _ oz oz oz hm _ hbm) ?_))))))))
 rintro _ _ ⟨rw,rfl,rwa,rwb,rfl⟩
 refine ⟨⟨Kn.le.refl _,t2⟩,(Zq 8 kr rfl kr (ZaB [0] rfl rfl rfl rfl ZyM rfl (ZsN _ _ _ _ _ oz hm _ hbm) ?_))⟩
 rintro _ Ba _ hlea ⟨qa,cpa,gsa,ka,rfl,hga,hka,rfl⟩
 replace hs3:=hs3.mono Ze.mono hlea
 replace hu3:=hu3.mono Zu.mono hlea
 replace hi3:=hi3.mono Zy.mono hlea
 replace hbm:=hbm.mono hlea
 have hgan:=hga.len
 refine ⟨⟨hlea,t2⟩,?_⟩
 obtain ⟨z,hz⟩:=Zep (xs:=xh.folders) (i:=rw) om om
 obtain ⟨bb15,_,hp15,⟨qg15,cg15,qm15,cm15,rfl,hg15,hm15,hb15,hb15b⟩,hw15,hc15⟩:=hs3.row hz
 have hg15n:=hg15.len
 have hm15n:=hm15.len
 have hm15s:=Z4 hm15
 refine aT 9 rfl (ZC fun D B L hI=>ZfQ hp15 rfl rfl Tryz.underlying24 Zbm rfl rfl om om r4) (h:=?_)
 refine aW 10 rfl ZdJ (h:=ZU 11 kr rfl kr kr kr (Zew (k:=(rw).toNat) (off:=2) (⟨z.owner,z.name,gsa,z.next,z.mail⟩) [_] 2 hs3 hp15 hz rfl rfl Zv5 rfl rfl rfl rfl rfl rfl (by rintro _ ⟨_,_,_,_,rfl,_,e2,e3,e4⟩;exact ⟨_,_,_,_,rfl,hga,e2,e3,e4⟩) (fun l16 hv16=>?_)))
 refine Zx (Zj (Za (xL [_,_,_,_,_] ZV 3 (h:=Z5 2 rfl hv16 Ze.mono om3 (fun B17 hle17 hr17=>?_)))))
 obtain ⟨hga,hu3,hi3⟩:=up3 hle17 hga hu3 hi3
 replace hbm:=hbm.mono hle17
 have hr17n:=hr17.len
 refine xS [_,_,_,_,_] 1 [_,_,_,_,_] Zan (h:=tL4 (Zd ?_))
 exact Zav .ret (.inl rfl) [_] [0] rfl ⟨⟨_,rfl,.inr ⟨[_,_,_,_,_],ZV,Z8 1 rfl rfl rfl,rfl⟩⟩,trivial⟩ ⟨⟨xh.domain,xh.users,(xh.folders.set ((rw).toNat) (⟨z.owner,z.name,gsa,z.next,z.mail⟩)),⟨xh.queue.next,xh.queue.items⟩⟩,_,_,_,_,_,_,_,(by first | rfl | (simp only [List.length_set];rfl)),hu3,hr17,hi3,by first | assumption | omega | (simp only [];omega),by first | omega | (simp only [];omega),rfl⟩
 try simp only [sQ,ne_eq] at g3
 refine Za (ZF (h:=xA (h:=Zb rfl (fun g4=>?_) (fun g4=>?_))))
 try simp only [sQ,ne_eq] at g4
 refine ZZ (keeps _ [2,3] _) mo kr ⟨Kn.le.refl _,Zag.refl _ _⟩ (fun _ _=>?_)
 refine aW 0 rfl Z0 (h:=aT 1 rfl (ZC fun D B L hI=>Zh rfl rfl Zcy rfl (atL 3 (hI.2.2.1.trans rfl) rfl rfl) r4) (h:=aM 2 rfl (h:=aW 3 rfl Z0 (h:=aT 4 rfl (ZC fun D B L hI=>Zh rfl rfl Zcy rfl (atL 3 (hI.2.2.1.trans rfl) rfl rfl) r4) (h:=aV 5 rfl Tryz.underlying24 (h:=aM 7 rfl (h:=Zq 6 kr rfl kr (Zck 0 rfl rfl rfl Za7 rfl (ZK _ _ _ _ _ _ oz oz oz hm _ hbm) ?_))))))))
 rintro _ _ ⟨rw,rfl,rwa,rwb,rfl⟩
 refine ⟨⟨Kn.le.refl _,t2⟩,(Zq 8 kr rfl kr (ZaB [0] rfl rfl rfl rfl ZyL rfl (ZsO _ _ _ _ _ oz hm _ hbm) ?_))⟩
 rintro _ Ba _ hlea ⟨qa,cpa,xa,ka,rfl,hga,hka,rfl⟩
 replace hs3:=hs3.mono Ze.mono hlea
 replace hu3:=hu3.mono Zu.mono hlea
 replace hi3:=hi3.mono Zy.mono hlea
 replace hbm:=hbm.mono hlea
 have hgan:=hga.len
 refine ⟨⟨hlea,t2⟩,?_⟩
 obtain ⟨z,hz⟩:=Zep (xs:=xh.folders) (i:=rw) om om
 obtain ⟨bb21,_,hp21,⟨qg21,cg21,qm21,cm21,rfl,hg21,hm21,hb21,hb21b⟩,hw21,hc21⟩:=hs3.row hz
 have hg21n:=hg21.len
 have hm21n:=hm21.len
 have hm21s:=Z4 hm21
 refine aT 9 rfl (ZC fun D B L hI=>ZfQ hp21 rfl rfl Tryz.underlying24 Zbm rfl rfl om om r4) (h:=?_)
 refine aW 10 rfl ZbN (h:=ZU 11 kr rfl kr kr kr (Zew (k:=(rw).toNat) (off:=3) (⟨z.owner,z.name,z.grants,xa.next,xa.mail⟩) [_,_] 2 hs3 hp21 hz rfl rfl Zcz rfl rfl rfl rfl rfl rfl (by rintro _ ⟨_,_,_,_,rfl,e1,_,e3,e4⟩;exact ⟨_,_,_,_,rfl,e1,hga,e3,e4⟩) (fun l22 hv22=>?_)))
 refine Zx (Zj (Za (xL [_,_,_,_,_] ZV 3 (h:=Z5 2 rfl hv22 Ze.mono om3 (fun B23 hle23 hr23=>?_)))))
 obtain ⟨hu3,hi3⟩:=up2 hle23 hu3 hi3
 replace hbm:=hbm.mono hle23
 have hr23n:=hr23.len
 refine xS [_,_,_,_,_] 1 [_,_,_,_,_] Zan (h:=tL4 (Zd ?_))
 exact Zav .ret (.inl rfl) [_] [0] rfl ⟨⟨_,rfl,.inr ⟨[_,_,_,_,_],ZV,Z8 1 rfl rfl rfl,rfl⟩⟩,trivial⟩ ⟨⟨xh.domain,xh.users,(xh.folders.set ((rw).toNat) (⟨z.owner,z.name,z.grants,xa.next,xa.mail⟩)),⟨xh.queue.next,xh.queue.items⟩⟩,_,_,_,_,_,_,_,(by first | rfl | (simp only [List.length_set];rfl)),hu3,hr23,hi3,by first | assumption | omega | (simp only [];omega),by first | omega | (simp only [];omega),rfl⟩
 try simp only [sQ,ne_eq] at g4
 refine Za (ZF (h:=xA (h:=Zb rfl (fun g5=>?_) (fun g5=>?_))))
 try simp only [sQ,ne_eq] at g5
 refine Zc (xM (h:=xK [0] rfl ZyK rfl (Zpg _ _ _ _ _ oz hm _ hbm) (h:=?_)))
 rintro _ B24 _ hle24 ⟨aq24,cq24,qq24,p24,rfl,hq24,hp24,rfl⟩
 replace hs3:=hs3.mono Ze.mono hle24
 replace hu3:=hu3.mono Zu.mono hle24
 replace hi3:=hi3.mono Zy.mono hle24
 have hq24n:=hq24.len
 refine Zo (Zez rfl rfl Zcf rfl ?_)
 refine Zo (ZH [_,_] 3 [_,_,_,_,_] rfl rfl ZfG rfl rfl rfl rfl rfl rfl rfl rfl ?_)
 refine Zx (Zj ?_)
 refine Za ?_
 refine Zo (ZS [_,_,_,_,_] rfl rfl ZV rfl (Z8 3 rfl rfl rfl) ?_)
 refine Z5 2 rfl hs3 Ze.mono (by first | omega | decide | (simp;done) | (simp;omega)) (fun B25 hle25 hr25=>?_)
 obtain ⟨hq24,hu3⟩:=up2 hle25 hq24 hu3
 have hr25n:=hr25.len
 refine xS [_,_,_,_,_] 1 [_,_,_,_,_] Zan (h:=tL4 (Zd ?_))
 exact eN [0] rfl ⟨⟨_,rfl,.inr ⟨[_,_,_,_,_],ZV,Z8 1 rfl rfl rfl,rfl⟩⟩,trivial⟩ ⟨⟨xh.domain,xh.users,xh.folders,⟨qq24.next,qq24.items⟩⟩,_,_,_,_,_,_,_,(ol),hu3,hr25,hq24,by first | assumption | omega | (simp only [];omega),so2,rfl⟩
 try simp only [sQ,ne_eq] at g5
 refine ZJ (Zx (Zj (Za (xL [_,_,_,_,_] ZV 3 (h:=Z5 2 rfl hs3 Ze.mono om3 (fun B26 hle26 hr26=>?_))))))
 obtain ⟨hu3,hi3⟩:=up2 hle26 hu3 hi3
 have hr26n:=hr26.len
 refine xS [_,_,_,_,_] 1 [_,_,_,_,_] Zan (h:=tL4 (Zd ?_))
 exact eN [0] rfl ⟨⟨_,rfl,.inr ⟨[_,_,_,_,_],ZV,Z8 1 rfl rfl rfl,rfl⟩⟩,trivial⟩ ⟨⟨xh.domain,xh.users,xh.folders,⟨xh.queue.next,xh.queue.items⟩⟩,_,_,_,_,_,_,_,(ol),hu3,hr26,hi3,by first | assumption | omega | (simp only [];omega),so2,rfl⟩

theorem ZsM (b:Nat) (q:Option Addr) (m cp p:Nat) (hp:p≤600000000000) (hm:m≤2000) (B:Kn) (hbm:Zah B q m):Zv (pj J) 23 [ptr ⟨b,0,none⟩] B [rd b q m cp p] (fun v B' Ls=>∃(x:DHost) (p1 p2 p3:Option Addr) (d1 d2 d3 k:Nat),v = .agg #[str x.domain,.slice p1 x.users.length d1,.slice p2 x.folders.length d2,.int .i64 x.queue.next,.slice p3 x.queue.items.length d3]∧SlK B' p1 d1 3 Zu x.users∧SlK B' p2 d2 5 Ze x.folders∧SlK B' p3 d3 4 Zy x.queue.items∧x.domain.length≤2000000∧k≤p+9000∧Ls=[rd b q m cp k]):=by
 refine cB 10 Tryz.func23 (h:=?_)
 refine Za (xAl [_,_,_,_,_] ZaY (h:=fun b1=>tL2 (Zf (Za (xM (h:=xX 0 rfl Za7 rfl (ZK _ _ _ _ _ _ oz oz oz hm _ hbm) (h:=?_)))))))
 rintro _ _ ⟨r2,rfl,r2a,r2b,rfl⟩
 refine ZF (h:=tL2 (Zb rfl (fun g0=>?_) (fun g0=>?_)))
 refine Za (xM (h:=xK [0] rfl ZzG rfl (Zpe _ _ _ _ _ oz hm _ hbm) (h:=?_)))
 rintro _ Bh _ hleh ⟨xh,p1h,p2h,p3h,d1h,d2h,d3h,kh,rfl,huh,hfh,hih,hdh,hkh,rfl⟩
 replace hbm:=hbm.mono hleh
 have huhn:=huh.len
 have hfhn:=hfh.len
 have hihn:=hih.len
 refine xS [_,_,_,_,_] 1 [_,_,_,_,_] Zan (h:=tL2 (Zd (Zn ?_)))
 exact eN [0] rfl ⟨⟨_,rfl,.inr ⟨[_,_,_,_,_],ZV,Z8 1 rfl rfl rfl,rfl⟩⟩,trivial⟩ ⟨_,_,_,_,_,_,_,_,rfl,huh,hfh,hih,oy,so2,rfl⟩
 refine wSk (Za (xM (h:=xK [0] rfl Zy6 rfl (Zl4 _ _ _ _ _ oz hm _ hbm) (h:=?_))))
 rintro _ Bh _ hleh ⟨xh,p1h,p2h,p3h,d1h,d2h,d3h,kh,rfl,huh,hfh,hih,hdh,hoh,hkh,rfl⟩
 have huhn:=huh.len
 have hfhn:=hfh.len
 have hihn:=hih.len
 refine xS [_,_,_,_,_] 1 [_,_,_,_,_] Zan (h:=tL2 (Zd ?_))
 exact eN [0] rfl ⟨⟨_,rfl,.inr ⟨[_,_,_,_,_],ZV,Z8 1 rfl rfl rfl,rfl⟩⟩,trivial⟩ ⟨_,_,_,_,_,_,_,_,rfl,huh,hfh,hih,oy,so2,rfl⟩

theorem ZnQ (q:Option Addr) (cp:Nat) (gs:List DGrant) (o u:Str) (ho:o.length≤2000000) (hn:u.length≤2000000) (B:Kn) (hg:SlK B q cp 2 ZX gs):ZaE (pj J) 20 [.slice q gs.length cp,str o,str u] B (.int .i64 (Zll gs o u)):=by
 refine cB 35 Tryz.func20 (h:=?_)
 refine Za (xA (h:=Za (xM (h:=xC Zy7 rfl (ZoE _ _ _ _ hg) (h:=?_)))))
 rintro _ Bm _ hlem ⟨mm,lm,rfl,rfl,rfl,hlm⟩
 refine xM (h:=xE (h:=xE (h:=xA (h:=xA (h:=tL1 (Zf (Za (xM (h:=xN (h:=xM (h:=Zp (d:=16) rfl (fun g1=>?_) (fun g1=>?_))))))))))))
 try simp only [sQ,ne_eq] at g1
 refine xP (h:=xP (h:=xP (h:=xT (h:=xM (h:=xP (h:=xP (h:=xP (h:=xT (h:=Zb (t:=true) rfl (fun _=>Za (xA (h:=Zd (Zn ?_)))) (fun h=>Bool.noConfusion h))))))))))
 exact eR t1 ⟨ZaA (Zlk (by simp [g1])).symm,rfl,rfl⟩
 try simp only [sQ,ne_eq] at g1
 refine xM (h:=xR Zt1 rfl (Zcs _ om2 _) (h:=?_))
 refine xN (h:=xF (h:=xM (h:=Zp (d:=21) rfl (fun g2=>?_) (fun g2=>?_))))
 try simp only [sQ,ne_eq] at g2
 refine xP (h:=xP (h:=xP (h:=xT (h:=Zb (t:=true) rfl (fun _=>Za (xA (h:=Zd (Zn ?_)))) (fun h=>Bool.noConfusion h)))))
 exact eR t1 ⟨ZaA (Zlk (by simp [g2])).symm,rfl,rfl⟩
 try simp only [sQ,ne_eq] at g2
 refine xM (h:=xR Zt1 rfl (Zcs _ om2 _) (h:=?_))
 refine xN (h:=xF (h:=Zb rfl (fun g3=>?_) (fun g3=>?_)))
 try simp only [sQ,ne_eq] at g3
 refine Za (xA (h:=Zd (Zn ?_)))
 exact eR t1 ⟨ZaA (Zlk (by simp [g3])).symm,rfl,rfl⟩
 try simp only [sQ,ne_eq] at g3
 have hce:=ZtA (gs:=gs) (o:=o) (u:=u) g1 g2 (by simpa using g3)
 obtain ⟨bm,hmb,hml⟩:=hlm g1
 subst hmb
 clear hlm
 have hlm:=hml
 refine wSk (Zf (Za (xM (h:=xM (h:=Zc3 (h:=Zb rfl (fun g4=>?_) (fun g4=>?_)))))))
 try simp only [sQ,ne_eq] at g4
 refine Za (xA (h:=Zd (Zn ?_)))
 exact eR t1 ⟨ZaA (by rw [hce,if_pos g4]),rfl,rfl⟩
 try simp only [sQ,ne_eq] at g4
 refine wSk (Za (xM (h:=xM (h:=Zo (ZnV (k:=u) 0 rfl hlm rfl rfl Tryz.underlying103 Tryz.underlying9 zo3 rfl rfl (xM (h:=Zo (ZnV (k:=[97,110,121,111,110,101]) 0 rfl hlm rfl rfl Tryz.underlying103 Tryz.underlying9 zo3 rfl rfl (Zo (Zxp rfl rfl rfl rfl (xA (h:=Zd ?_))))))))))))
 exact eR t1 ⟨ZaA (by rw [hce,if_neg g4];rfl),rfl,rfl⟩

theorem Zwm (b o:Nat) (q1 q2 q3:Option Addr) (c1 c2 c3:Nat) (x:DHost) (qa qb:Option Addr) (ca cb:Nat) (u:Str) (f:DFolder) (rr:Int) (hn:u.length≤2000000) (ho:f.owner.length≤2000000) (B:Kn) (hh:ZaS B b o [str x.domain,.slice q1 x.users.length c1,.slice q2 x.folders.length c2,.int .i64 x.queue.next,.slice q3 x.queue.items.length c3]) (hu:SlK B q1 c1 3 Zu x.users) (hg:SlK B qa ca 2 ZX f.grants):ZaE (pj J) 72 [ptr ⟨b,o,none⟩,str u,.agg #[str f.owner,str f.name,.slice qa f.grants.length ca,.int .i64 f.next,.slice qb f.mail.length cb],.int .i64 rr] B (.bool (ZqR x.users f u rr)):=by
 refine cB 29 Tryz.func72 (h:=?_)
 refine Za (xBx [_,_,_,_,_] (h:=fun b1=>xA (h:=tL1 (Za (xW ZdJ (h:=x1 Zr6 0 (h:=xW Zcv (h:=x1 lk9 0 (h:=xM (h:=xR Zz2 rfl (ZnQ _ _ f.grants f.owner u om2 om2 _ hg) (h:=?_)))))))))))
 refine xA (h:=Za (xM (h:=xM (h:=xR ZwD rfl (ZgE _ _ _ _ _ _ _ _ x u om2 _ hh hu) (h:=?_)))))
 refine xM (h:=Zp (d:=19) rfl (fun g1=>?_) (fun g1=>?_))
 refine xM (h:=Zd6 (h:=xT (h:=xM (h:=Zp (d:=23) rfl (fun g2=>?_) (fun g2=>?_)))))
 refine xM (h:=xM (h:=Zo (Zv1 rfl rfl rfl rfl (Zbo (h:=xT (h:=xA (h:=Zd ?_)))))))
 exact eR t1 ⟨Zg (by simp [ZqR,g1,g2]),rfl,rfl⟩
 refine xP (h:=xP (h:=xP (h:=xP (h:=xF (h:=xA (h:=Zd ?_))))))
 exact eR t1 ⟨Zg (by simp [ZqR,g1,g2];try omega),rfl,rfl⟩
 refine xP (h:=xP (h:=xF (h:=xM (h:=xP (h:=xP (h:=xP (h:=xP (h:=xF (h:=xA (h:=Zd ?_))))))))))
 exact eR t1 ⟨Zg (by simp [ZqR,g1]),rfl,rfl⟩

theorem Zwy (v:Value) (Q:Value→Kn→Cells→Prop) (B:Kn) (L:Cells):hb Tryz.prog (Extern.ReflectliteType.typeOf #[.iface 267 v]) Q B L=Q (.iface 245 (.agg #[.pointer (some ⟨5,267,none⟩)])) B L:=by kernel_rfl

theorem Zwz (v:Value) (k:Nat) (Q:FuncId × Value→Kn→Cells→Prop) (B:Kn) (L:Cells):hb Tryz.prog (Go.method (k+1) 245 v "Comparable") Q B L=Q (226,v) B L:=by kernel_rfl

theorem ZwA (Q:Value→Kn→Cells→Prop) (B:Kn) (L:Cells):hb Tryz.prog ((Extern.ReflectliteType.method fun t=>do Extern.Rtype.noPackHeld "Comparable" t;pure (.bool (← typeInfo t).comparable)) #[(.agg #[.pointer (some ⟨5,267,none⟩)])]) Q B L=Q (.bool true) B L:=by kernel_rfl

theorem Zu7:Extern.find Tryz.f226=some (Extern.ReflectliteType.method fun t=>do Extern.Rtype.noPackHeld "Comparable" t;pure (.bool (← typeInfo t).comparable)):=by kernel_rfl
theorem Zu6:Extern.find Tryz.f160=some Extern.ReflectliteType.typeOf:=by kernel_rfl

theorem ZxS:Extern.findNext Tryz.f160=none:=by kernel_rfl
theorem ZxT:Extern.findNext Tryz.f226=none:=by kernel_rfl

theorem Zu4 (c k:Nat) (hc:c<4) (hk:k<4) (a:Nat→Addr)  (B:Kn) (hE:ErrsB 267 [0,1,2,3] B a):ZaE (pj J) 161 [errv 267 a (c+1),errv 267 a (k+1),.bool true] B (.bool (decide (c+1=k+1))):=by
 refine cB 54 Tryz.func161 (h:=?_)
 refine Za (xA (h:=Zl (ZM (α:=Unit) [1,2] (fun u=>[(0,errv 267 a (c+1))]) [] (fun u=>[]) (fun u Bx=>Bx=B) (fun u=>0) () t1 rfl (rfl) (fun u B1 hle1 hI=>?_))))
 subst hI
 refine ZL [(0,_),(1,_),(2,_)] [] t3 rfl (Zl (Zf (Za (xM (h:=xM (h:=Zp (d:=15) rfl (fun g1=>?_) (fun g1=>by cases g1)))))))
 try simp only [sQ,ne_eq] at g1
 refine xM (h:=xM (h:=Zo (Zp3 (a:=a) (c:=(c+1)) (k:=k) hE oz oz rfl rfl Tryz.underlying69 Tryz.underlying267 Zzf Zv6 rfl rfl ?_)))
 refine xT (h:=Zb rfl (fun g2=>?_) (fun g2=>?_))
 try simp only [sQ,ne_eq] at g2
 refine Za (xA (h:=Zd (Zn (ZE (Z3 (ZE ?_))))))
 exact eR t1 ⟨Zg (decide_eq_true g2).symm,rfl,rfl⟩
 try simp only [sQ,ne_eq] at g2
 refine wSk (Zf (Za (xM (h:=Zo (Zil rfl rfl Tryz.underlying247 kr Zxf rfl ?_)))))
 refine xM (h:=xE (h:=xE (h:=xA (h:=xA (h:=Za (xM (h:=xM (h:=Zp (d:=26) rfl (fun g3=>by cases g3) (fun g3=>?_)))))))))
 try simp only [sQ,ne_eq] at g3
 refine xP (h:=xP (h:=xP (h:=xF (h:=Zb (t:=false) rfl (fun h=>Bool.noConfusion h) (fun _=>wSk (Za (xM (h:=Zl (Za (Zo (Zil rfl rfl Tryz.underlying250 kr Zxe rfl ?_)))))))))))
 refine xE (h:=xE (h:=Zb rfl (fun g5=>by cases g5) (fun g5=>?_)))
 try simp only [sQ,ne_eq] at g5
 refine Za (Zo (Zil rfl rfl Tryz.underlying252 kr Zxd rfl ?_))
 refine xE (h:=xE (h:=Zb rfl (fun g6=>by cases g6) (fun g6=>?_)))
 try simp only [sQ,ne_eq] at g6
 refine Za (xA (h:=Za (xA (h:=Zd (ZE (ZE (Z3 (ZE ?_))))))))
 exact eR t1 ⟨Zg (decide_eq_false g2).symm,rfl,rfl⟩

theorem Zu3 (c k:Nat) (hc:c<4) (hk:k<4) (a:Nat→Addr)  (B:Kn) (hE:ErrsB 267 [0,1,2,3] B a):ZaE (pj J) 115 [errv 267 a (c+1),errv 267 a (k+1)] B (.bool (decide (c+1=k+1))):=by
 refine cB 22 Tryz.func115 (h:=?_)
 refine Za (xA (h:=Zf (Za (xM (h:=Zo (ZnW (tE:=267) (a:=a) (c:=(c+1)) rfl rfl Tryz.underlying69 rfl (xM (h:=Zp (d:=8) rfl (fun g1=>by simp at g1) (fun g1=>?_)))))))))
 refine xM (h:=Zo (ZnW (tE:=267) (a:=a) (c:=(k+1)) rfl rfl Tryz.underlying69 rfl (xF (h:=Zb rfl (fun g2=>by simp at g2) (fun g2=>?_)))))
 refine wSk (Za (xM (h:=Zo (ZvW (fn:=Tryz.f160) rfl rfl Tryz.func160 rfl rfl ZxS Zu6 rfl (Zwy _) (Zo (ZvT (f:=226) (fn:=Tryz.f226) rfl rfl Tryz.func226 rfl rfl ZxT Zu7 rfl (Zwz _) ZwA (xA (h:=Za (xM (h:=xM (h:=xM (h:=xR Zyr rfl (Zu4 c k oz oz a _ hE) (h:=?_)))))))))))))
 refine xA (h:=Zd ?_)
 exact eR t1 ⟨rfl,rfl,rfl⟩

theorem Zu5 (k:Nat) (hk:k<4) (a:Nat→Addr)  (B:Kn) (hE:ErrsB 267 [0,1,2,3] B a):ZaE (pj J) 115 [.nilIface,errv 267 a (k+1)] B (.bool (decide (0=k+1))):=by
 refine cB 22 Tryz.func115 (h:=?_)
 refine Za (xA (h:=Zf (Za (xM (h:=Zo (ZnW (tE:=267) (a:=a) (c:=0) rfl rfl Tryz.underlying69 rfl (xM (h:=Zp (d:=8) rfl (fun g1=>?_) (fun g1=>by simp at g1)))))))))
 refine xP (h:=xP (h:=xT (h:=Zb (t:=true) rfl (fun _=>Za (xM (h:=xM (h:=Zo (Zp3 (a:=a) (c:=0) (k:=k) hE oz oz rfl rfl Tryz.underlying69 Tryz.underlying267 Zzf Zv6 rfl rfl ?_))))) (fun h=>Bool.noConfusion h))))
 refine xA (h:=Zd (Zn ?_))
 exact eR t1 ⟨rfl,rfl,rfl⟩

theorem Zot (c k:Nat) (hc:c<5) (hk:k<4) (a:Nat→Addr)  (B:Kn) (hE:ErrsB 267 [0,1,2,3] B a):ZaE (pj J) 115 [errv 267 a c,errv 267 a (k+1)] B (.bool (decide (c=k+1))):=by
 cases c with
 | zero=>exact Zu5 k hk a B hE
 | succ c=>exact Zu3 c k oz hk a B hE

theorem Zpr (c:Nat) (hc:c<5) (a:Nat→Addr)  (B:Kn) (hE:ErrsB 267 [0,1,2,3] B a):ZaE (pj J) 71 [errv 267 a (c)] B (.int .i64 c):=by
 refine cB 22 Tryz.func71 (h:=?_)
 refine Za (xA (h:=Zf (Zl (Za (xM (h:=Zo (ZnW (tE:=267) (a:=a) (c:=c) rfl rfl Tryz.underlying69 rfl (xA (h:=Zb rfl (fun g0=>?_) (fun g0=>?_))))))))))
 try simp only [sQ,ne_eq] at g0
 refine Za (xA (h:=Zd (ZE (Zn ?_))))
 exact eR t1 ⟨ZaA oz,rfl,rfl⟩
 try simp only [sQ,ne_eq] at g0
 refine Za (xM (h:=Zo (Zh rfl rfl ZsJ rfl ((hE.row 0 (by decide)) _ 0 _ rfl) ?_)))
 refine xR Ztj rfl (Zot c 0 om2 om2 a _ hE) (h:=?_)
 refine xA (h:=Zb rfl (fun g1=>?_) (fun g1=>?_))
 try simp only [sQ,ne_eq] at g1
 refine Za (xA (h:=Zd (ZE (Zn ?_))))
 exact eR t1 ⟨ZaA oz,rfl,rfl⟩
 try simp only [sQ,ne_eq] at g1
 refine Za (xM (h:=Zo (Zh rfl rfl ZsJ rfl ((hE.row 1 (by decide)) _ 0 _ rfl) ?_)))
 refine xR Ztj rfl (Zot c 1 om2 om2 a _ hE) (h:=?_)
 refine xA (h:=Zb rfl (fun g2=>?_) (fun g2=>?_))
 try simp only [sQ,ne_eq] at g2
 refine Za (xA (h:=Zd (ZE (Zn ?_))))
 exact eR t1 ⟨ZaA oz,rfl,rfl⟩
 try simp only [sQ,ne_eq] at g2
 refine Za (xM (h:=Zo (Zh rfl rfl ZsJ rfl ((hE.row 2 (by decide)) _ 0 _ rfl) ?_)))
 refine xR Ztj rfl (Zot c 2 om2 om2 a _ hE) (h:=?_)
 refine xA (h:=Zb rfl (fun g3=>?_) (fun g3=>?_))
 try simp only [sQ,ne_eq] at g3
 refine Za (xA (h:=Zd (ZE (Zn ?_))))
 exact eR t1 ⟨ZaA oz,rfl,rfl⟩
 try simp only [sQ,ne_eq] at g3
 refine Za (xM (h:=Zo (Zh rfl rfl ZsJ rfl ((hE.row 3 (by decide)) _ 0 _ rfl) ?_)))
 refine xR Ztj rfl (Zot c 3 om2 om2 a _ hE) (h:=?_)
 refine xA (h:=Zb rfl (fun g4=>?_) (fun g4=>?_))
 try simp only [sQ,ne_eq] at g4
 refine Za (xA (h:=Zd (ZE (Zn ?_))))
 exact eR t1 ⟨ZaA oz,rfl,rfl⟩
 try simp only [sQ,ne_eq] at g4
 refine ZJ (Zx (Zj (Za (xA (h:=Zd ?_)))))
 exact eR t1 ⟨ZaA oz,rfl,rfl⟩

theorem Zvr (b o:Nat) (q1 q2 q3:Option Addr) (c1 c2 c3:Nat) (x:DHost) (u ow nm:Str) (rr:Int) (hn:u.length≤2000000) (ho:ow.length≤2000000) (hm:nm.length≤2000000) (a:Nat→Addr)  (B:Kn) (hE:ErrsB 267 [0,1,2,3] B a) (hh:ZaS B b o [str x.domain,.slice q1 x.users.length c1,.slice q2 x.folders.length c2,.int .i64 x.queue.next,.slice q3 x.queue.items.length c3]) (hu:SlK B q1 c1 3 Zu x.users) (hf:SlK B q2 c2 5 Ze x.folders):ZaE (pj J) 32 [ptr ⟨b,o,none⟩,str u,str ow,str nm,.int .i64 rr] B (.tuple #[.int .i64 (if Zjr x.users x.folders u ow nm rr=0 then ZaM (inF ow nm) x.folders else -1),errv 267 a (Zjr x.users x.folders u ow nm rr)]):=by
 refine cB 47 Tryz.func32 (h:=?_)
 have hfn:=hf.len
 have hix:=Zdi (inF ow nm) x.folders
 refine Za (xA (h:=xA (h:=Za (xM (h:=xM (h:=xM (h:=xR Zzb rfl (ZtZ _ _ _ _ _ _ _ _ x ow nm om2 om2 _ hh hf) (h:=?_))))))))
 refine xA (h:=Zf (Za (xM (h:=Z9 (h:=xM (h:=Zp (d:=19) rfl (fun g1=>?_) (fun g1=>?_)))))))
 try simp only [sQ,ne_eq] at g1
 refine xP (h:=xP (h:=xP (h:=xP (h:=xP (h:=xP (h:=xP (h:=xP (h:=xP (h:=xP (h:=xP (h:=xT (h:=Zb (t:=true) rfl (fun _=>Zf (ZZ (same _ _) mo kr ⟨rfl,rfl⟩ (fun _ _=>?_))) (fun h=>Bool.noConfusion h)))))))))))))
 refine aT 0 rfl (Zaj fun D=>Zh rfl rfl ZsJ rfl ((hE.row 0 (by decide)) _ 0 _ rfl) r4) (h:=?_)
 refine aA 1 rfl (h:=aA 2 rfl (h:=Zz kr kr ?_))
 refine Zj (Zd (Zn ?_))
 exact Zrw .ret (.inl rfl) [_,_] t2 ⟨(by rw [show Zjr x.users x.folders u ow nm rr=1 from ZrI (by simpa using g1)];rfl),rfl,rfl⟩
 try simp only [sQ,ne_eq] at g1
 refine xM (h:=xM (h:=xM (h:=xNc (h:=xW Z0 (h:=Zo (Zh rfl rfl Zcy rfl (hh _ 2 _ rfl) (xM (h:=?_))))))))
 obtain ⟨w,hw⟩:=Zep (xs:=x.folders) (i:=(ZaM (inF ow nm) x.folders)) om om
 obtain ⟨bb3,oo3,rfl⟩:=hf.base hw
 obtain ⟨_,⟨qg4,cg4,qm4,cm4,rfl,hg4,hm4,hb4,hb4b⟩,hc4⟩:=hf.elem hw
 have hg4n:=hg4.len
 have hm4n:=hm4.len
 have hm4s:=Z4 hm4
 refine xIx Tryz.underlying24 Zbm (h:=yL [_,_,_,_,_] ZhA hc4 0 (h:=xR Zy5 rfl (Zwm _ _ _ _ _ _ _ _ x _ _ _ _ u w _ om2 om2 _ hh hu hg4) (h:=?_)))
 refine xN (h:=xF (h:=Zb rfl (fun g3=>?_) (fun g3=>?_)))
 try simp only [sQ,ne_eq] at g3
 refine Zf (ZZ (same _ _) mo kr ⟨rfl,rfl⟩ (fun _ _=>?_))
 refine aT 0 rfl (Zaj fun D=>Zh rfl rfl ZsJ rfl ((hE.row 0 (by decide)) _ 0 _ rfl) r4) (h:=?_)
 refine aA 1 rfl (h:=aA 2 rfl (h:=Zz kr kr ?_))
 refine Zj (Zd (Zn ?_))
 exact Zrw .ret (.inl rfl) [_,_] t2 ⟨(by rw [show Zjr x.users x.folders u ow nm rr=1 from by rw [Zle oz hw,if_pos (by simpa using g3)]];rfl),rfl,rfl⟩
 try simp only [sQ,ne_eq] at g3
 refine wSk (Zf (Za (xM (h:=xM (h:=xM (h:=xNc (h:=xW Z0 (h:=Zo (Zh rfl rfl Zcy rfl (hh _ 2 _ rfl) (xM (h:=xIx Tryz.underlying24 Zbm (h:=yL [_,_,_,_,_] ZhA hc4 0 (h:=xM (h:=xR Zy5 rfl (Zwm _ _ _ _ _ _ _ _ x _ _ _ _ u w _ om2 om2 _ hh hu hg4) (h:=?_)))))))))))))))
 refine xN (h:=Zb rfl (fun g4=>?_) (fun g4=>?_))
 try simp only [sQ,ne_eq] at g4
 refine Zf (ZZ (same _ _) mo kr ⟨rfl,rfl⟩ (fun _ _=>?_))
 refine aT 0 rfl (Zaj fun D=>Zh rfl rfl ZsJ rfl ((hE.row 1 (by decide)) _ 0 _ rfl) r4) (h:=?_)
 refine aA 1 rfl (h:=aA 2 rfl (h:=Zz kr kr ?_))
 refine Zj (Zd (Zn ?_))
 exact Zrw .ret (.inl rfl) [_,_] t2 ⟨(by rw [show Zjr x.users x.folders u ow nm rr=2 from by rw [Zle oz hw,if_neg (by simp [g3]),if_pos (by simpa using g4)]];rfl),rfl,rfl⟩
 try simp only [sQ,ne_eq] at g4
 refine wSk (Za (xM (h:=xA (h:=xA (h:=Zd ?_)))))
 exact Zrw .ret (.inl rfl) [_,_] t2 ⟨(by rw [show Zjr x.users x.folders u ow nm rr=0 from by rw [Zle oz hw,if_neg (by simp [g3]),if_neg (by simp [g4])]];rfl),rfl,rfl⟩

theorem Zi5 (q:Option Addr) (cp:Nat) (xs:List DFolder) (B:Kn) (hx:SlK B q cp 5 Ze xs):Zv (pj J) 113 [.slice q xs.length cp] B [] (fun v B' Ls=>B'=B∧∃l a c,Ls=[l]∧v = .slice a xs.length c∧ZcO l a c 40 5 (ZaJ 93 89) xs):=by
 refine cB 22 Tryz.func113 (h:=?_)
 have hxn:=hx.len
 refine Za (xA (h:=Za (xM (h:=xV Tryz.underlying24 (h:=Zo (ZfP (m:=0) (c:=xs.length) (by_:=88) [.string ⟨#[]⟩,.string ⟨#[]⟩,.slice none 0 0,.int .i64 0,.slice none 0 0] rfl rfl Zjj ZdT rfl rfl ⟨_,_,rfl,by first | omega | (simp;done) | (simp;omega)⟩ ⟨_,_,rfl,by first | omega | (simp;done) | (simp;omega)⟩ om om (fun b1=>?_)))))))
 have hd1:=ZcO.zeros (b:=b1) (T:=40) (R:=(ZaJ 93 89)) (d:=(⟨[],[],[],0,[]⟩:DFolder)) (m:=0) (c:=xs.length) (zs:=[.string ⟨#[]⟩,.string ⟨#[]⟩,.slice none 0 0,.int .i64 0,.slice none 0 0]) rfl (⟨_,_,_,_,[],[],rfl,rfl,ZY.nil,ZY.nil,by simp,by simp,by simp,by simp⟩) om
 refine xA (h:=tL1 (Zf (Za (xM (h:=xV Tryz.underlying24 (h:=xM (h:=Zl (ZM (α:=Gh DFolder) [0,2,9,10] (fun g=>[(3,.slice g.a g.xs.length g.c),(11,.int .i64 g.k)]) [0] (fun g=>[g.l]) (fun g Bx=>Bx=B∧g.k≤xs.length∧g.xs=xs.take g.k∧g.xs.length≤g.k∧ZcO g.l g.a g.c 40 5 (ZaJ 93 89) g.xs) (fun g=>xs.length - g.k) ⟨0,0,(Zar b1 (zrow [.string ⟨#[]⟩,.string ⟨#[]⟩,.slice none 0 0,.int .i64 0,.slice none 0 0] xs.length) 40),(some ⟨b1,0,none⟩),xs.length,[]⟩ t2 rfl (⟨rfl,Nat.zero_le _,by simp,Nat.le_refl _,hd1⟩) (fun g B2 hle2 hI=>?_)))))))))
 obtain ⟨rfl,hk,hxs,hxl,hv⟩:=hI
 refine ZL [(0,_),(2,_),(3,_),(9,_),(10,_),(11,_)] [_] t6 rfl (Za (Z9 (h:=Zf (Zb rfl (fun g1=>?_) (fun g1=>?_)))))
 try simp only [sQ,ne_eq] at g1
 refine wSk (Zf (Zl (Za ?_)))
 obtain ⟨w,hw⟩:=Zaf (xs:=xs) (i:=g.k) om
 obtain ⟨bb4,oo4,rfl⟩:=hx.base hw
 obtain ⟨_,⟨qg5,cg5,qm5,cm5,rfl,hg5,hm5,hb5,hb5b⟩,hc5⟩:=hx.elem hw
 have hg5n:=hg5.len
 have hm5n:=hm5.len
 have hm5s:=Z4 hm5
 refine xIx Tryz.underlying24 Zbm (h:=yL [_,_,_,_,_] ZhA hc5 0 (h:=xAl [_,_,_,_,_] ZdT (h:=fun b6=>xS [_,_,_,_,_] 1 [_,_,_,_,_] Zbm (h:=tL2 (Zc (xM (h:=xL [_,_,_,_,_] ZhA 1 (h:=xC ZzT rfl (Zk6 _ _ _ _ w _ hg5 hm5) (h:=?_)))))))))
 rintro _ B7 _ hle7 ⟨rfl,l7,a7,c7,l7b,a7b,c7b,rfl,rfl,hs7,hs7b⟩
 refine xBs [(0,_)] [_,_,_,_,_] Tryz.underlying24 Zbm ZdT (h:=fun b8=>Zo (Zug (R:=(ZaJ 93 89)) (⟨w.owner,w.name,w.grants,w.next,w.mail⟩) 0 [2,3] rfl rfl hv rfl rfl rfl Zjj ZjC rfl rfl (ZaP.box 4 rfl) rfl rfl (l7 ++ l7b) (by simp) (⟨_,_,_,_,_,_,rfl,rfl,(hs7.anyK ZX.any),(hs7b.anyK ZO.any),by first | assumption | omega | (simp;done) | (simp;omega),by first | assumption | omega | (simp;done) | (simp;omega),by first | assumption | omega | (simp;done) | (simp;omega),by first | assumption | omega | (simp;done) | (simp;omega)⟩) om (fun l9 p9 c9 hd9=>?_)))
 refine xA (h:=Zx (Zj (Zc (xD (h:=xM (h:=?_))))))
 exact ZB ⟨g.k+1,0,l9,p9,c9,(g.xs ++ [⟨w.owner,w.name,w.grants,w.next,w.mail⟩])⟩ [0] (by first | omega | (simp only [];omega)) ⟨rfl,by simp only [];omega,by simp only [];rw [Zas hw,hxs],by simp;omega,hd9⟩ ⟨rfl,rfl,rfl,rfl,rfl,rfl,trivial⟩ rfl
 try simp only [sQ,ne_eq] at g1
 have hxe:g.xs=xs:=by rw [hxs];exact List.take_of_length_le oz
 refine ZT (Zaa (ZW (ZG (Zj (Za (xM (h:=xA (h:=Zd ?_))))))))
 exact Zav .ret (.inl rfl) [_] [0] rfl ⟨rfl,trivial⟩ ⟨rfl,_,_,_,rfl,by rw [← hxe];rfl,hxe ▸ hv⟩

theorem Zmh (q1 q2 q3:Option Addr) (c1 c2 c3:Nat) (x:DHost) (B:Kn) (hu:SlK B q1 c1 3 Zu x.users) (hf:SlK B q2 c2 5 Ze x.folders) (hi:SlK B q3 c3 4 Zy x.queue.items):Zv (pj J) 70 [.agg #[str x.domain,.slice q1 x.users.length c1,.slice q2 x.folders.length c2,.int .i64 x.queue.next,.slice q3 x.queue.items.length c3]] B [] (fun v B' Ls=>∃q1 c1 q2 c2 q3 c3 l1 l2 l3,Ls=[l1,l2,l3]∧v = .agg #[str x.domain,.slice q1 x.users.length c1,.slice q2 x.folders.length c2,.int .i64 x.queue.next,.slice q3 x.queue.items.length c3]∧ZY Kn.none l1 q1 c1 50 3 Zu x.users∧ZcO l2 q2 c2 40 5 (ZaJ 93 89) x.folders∧ZcO l3 q3 c3 117 4 (Zdf 9) x.queue.items):=by
 refine cB 16 Tryz.func70 (h:=?_)
 have hun:=hu.len
 have hfn:=hf.len
 have hin:=hi.len
 refine Za (xBx [_,_,_,_,_] (h:=fun b1=>xAl [_,_,_,_,_] ZaY (h:=fun b2=>tL2 (Zf (ZZ (keeps _ [0] _) mo kr ⟨Kn.le.refl _,Zag.refl _ _⟩ (fun _ _=>?_))))))
 refine aW 0 rfl Zi7 (h:=aT 1 rfl (ZC fun D B L hI=>Zh rfl rfl lk9 rfl (atL 0 (hI.2.1.trans rfl) rfl rfl) r4) (h:=aW 3 rfl Zby (h:=aT 4 rfl (ZC fun D B L hI=>Zh rfl rfl ZhP rfl (atL 0 (hI.2.1.trans rfl) rfl rfl) r4) (h:=aW 6 rfl Z0 (h:=aT 7 rfl (ZC fun D B L hI=>Zh rfl rfl Zcy rfl (atL 0 (hI.2.1.trans rfl) rfl rfl) r4) (h:=aW 9 rfl Zcf (h:=aT 10 rfl (ZC fun D B L hI=>ZS [_,_] rfl rfl ZdR rfl (Z8 0 (hI.2.1.trans rfl) rfl rfl) r4) (h:=Zq 2 kr rfl kr (Zt (parts:=[]) [] rfl rfl Tryz.underlying23 ZeC Zgl rfl rfl rfl rfl rfl (fun b3=>?_))))))))))
 refine ⟨⟨Kn.le.refl _,t1⟩,(Zq 5 kr rfl kr (ZaW (R:=Zu) 2 rfl (ZY.lit0 (R:=Zu)) rfl rfl rfl Zou Zn2 rfl rfl rfl hu.rows Zu.one rfl om (fun l4 p4 c4 hv4=>?_)))⟩
 refine ⟨⟨Kn.le.refl _,t1⟩,(Zq 8 kr rfl kr (Zbe rfl rfl ZyG rfl (Zi5 _ _ x.folders _ hf) ?_))⟩
 rintro _ B5 _ hle5 ⟨rfl,l5,a5,c5,rfl,rfl,hs5⟩
 refine ⟨⟨Kn.le.refl _,t1⟩,(Zq 11 kr rfl kr (Zbe rfl rfl ZyF rfl (ZlT _ _ x.queue _ hi) ?_))⟩
 rintro _ B6 _ hle6 ⟨l6,q6,c6,rfl,rfl,hd6⟩
 replace hv4:=hv4.mono Zu.mono hle6
 refine ⟨⟨hle6,t1⟩,(aT 12 rfl (ZC fun D B L hI=>Zaz (parts:=[(0,_),(1,_),(2,_),(3,_)]) [_,_,_,_,_] [_,_,_,_,_] rfl rfl Zd0 ZaY rfl rfl rfl r4) (h:=ZU 13 kr rfl kr kr kr (ZH [_,_,_,_,_] 1 [_,_,_,_,_] rfl rfl Zan rfl rfl rfl rfl rfl rfl rfl rfl ?_)))⟩
 refine Zj (tL5 (Zd ?_))
 exact eN [2,3,4] rfl ⟨⟨_,rfl,.inr ⟨[_,_,_,_,_],ZV,Z8 1 rfl rfl rfl,rfl⟩⟩,trivial⟩ ⟨_,_,_,_,_,_,_,_,_,rfl,rfl,hv4.anyK Zu.any,hs5,hd6⟩

theorem Zmg (q1 q2 q3:Option Addr) (c1 c2 c3:Nat) (x:DHost) (ar:Bool) (f:FuncId) (cap:Array Value) (R:DHost) (k:Nat) (hk:k<5) (he:enters Tryz.prog f=true) (hJ:Joins Tryz.prog J) (hd:x.domain.length≤2000000) (a:Nat→Addr) (B:Kn) (hE:ErrsB 267 [0,1,2,3] B a) (hu:SlK B q1 c1 3 Zu x.users) (hf:SlK B q2 c2 5 Ze x.folders) (hi:SlK B q3 c3 4 Zy x.queue.items) (hw:ar=true→Zw x=true→∀(B2:Kn) (b:Nat) (q1 q2 q3:Option Addr) (c1 c2 c3:Nat) (l1 l2 l3:Cells),B.le B2→ZY Kn.none l1 q1 c1 50 3 Zu x.users→ZcO l2 q2 c2 40 5 (ZaJ 93 89) x.folders→ZcO l3 q3 c3 117 4 (Zdf 9) x.queue.items→Zv (pj J) f (ptr ⟨b,0,none⟩ :: cap.toList) B2 [Zar b [str x.domain,.slice q1 x.users.length c1,.slice q2 x.folders.length c2,.int .i64 x.queue.next,.slice q3 x.queue.items.length c3] 29,l1,l2,l3] (fun v B' Ls=>∃q1' c1' q2' c2' q3' c3' l1' l2' l3',Ls=[Zar b [str R.domain,.slice q1' R.users.length c1',.slice q2' R.folders.length c2',.int .i64 R.queue.next,.slice q3' R.queue.items.length c3'] 29,l1',l2',l3']∧v=errv 267 a (k)∧ZY Kn.none l1' q1' c1' 50 3 Zu R.users∧ZcO l2' q2' c2' 40 5 (ZaJ 93 89) R.folders∧ZcO l3' q3' c3' 117 4 (Zdf 9) R.queue.items)):Zv (pj J) 29 [.agg #[str x.domain,.slice q1 x.users.length c1,.slice q2 x.folders.length c2,.int .i64 x.queue.next,.slice q3 x.queue.items.length c3],.bool ar,.func (.func f) #[] cap] B [] (fun v B' Ls=>∃(Y:DHost) (d:Int),∃q1 c1 q2 c2 q3 c3 l1 l2 l3,(Y,d)=(if ar=true∧Zw x=true then (R,(k:Int)) else (ZaQ,5))∧Ls=[l1,l2,l3]∧v = .tuple #[.agg #[str Y.domain,.slice q1 Y.users.length c1,.slice q2 Y.folders.length c2,.int .i64 Y.queue.next,.slice q3 Y.queue.items.length c3],.int .i64 d]∧ZY Kn.none l1 q1 c1 50 3 Zu Y.users∧ZcO l2 q2 c2 40 5 (ZaJ 93 89) Y.folders∧ZcO l3 q3 c3 117 4 (Zdf 9) Y.queue.items):=by
 refine cB 25 Tryz.func29 (h:=?_)
 have hun:=hu.len
 have hfn:=hf.len
 have hin:=hi.len
 refine Za (xBx [_,_,_,_,_] (h:=fun b1=>xAl [_,_,_,_,_] ZaY (h:=fun b2=>xA (h:=tL2 (Zf (Za (xM (h:=xN (h:=xM (h:=Zp (d:=12) rfl (fun g1=>?_) (fun g1=>?_)))))))))))
 try simp only [sQ,ne_eq] at g1
 refine xP (h:=xP (h:=xP (h:=xT (h:=ZvX [[],[],[]] rfl (Zb (t:=true) rfl (fun _=>Za (xB [] [_,_,_,_,_] [_,_,_,_,_] Zd0 ZaY (h:=xS [_,_,_,_,_] 1 [_,_,_,_,_] Zan (h:=xA (h:=tL5 (Zd (Zn ?_))))))) (fun h=>Bool.noConfusion h))))))
 exact Zav .ret (.inl rfl) [_,_] [2,3,4] rfl ⟨⟨_,rfl,.inr ⟨[_,_,_,_,_],ZV,Z8 1 rfl rfl rfl,rfl⟩⟩,rfl,trivial⟩ ⟨ZaQ,5,none,0,none,0,none,0,[],[],[],by rw [if_neg (by simp [g1])],rfl,rfl,ZY.nil,ZcO.nil,ZcO.nil⟩
 try simp only [sQ,ne_eq] at g1
 refine xL [_,_,_,_,_] ZV 0 (h:=xQ Zx8 rfl (Zf7 hJ _ _ _ _ _ _ x om2 _ hu hf hi) (h:=?_))
 intro vv Bv hlev
 rintro rfl
 obtain ⟨hu,hf,hi⟩:=up3 hlev hu hf hi
 replace hE:=hE.mono hlev
 refine xN (h:=xF (h:=Zb rfl (fun g2=>?_) (fun g2=>?_)))
 try simp only [sQ,ne_eq] at g2
 refine ZvX [[],[],[]] rfl (Za (xB [] [_,_,_,_,_] [_,_,_,_,_] Zd0 ZaY (h:=xS [_,_,_,_,_] 1 [_,_,_,_,_] Zan (h:=xA (h:=tL5 (Zd (Zn ?_)))))))
 exact Zav .ret (.inl rfl) [_,_] [2,3,4] rfl ⟨⟨_,rfl,.inr ⟨[_,_,_,_,_],ZV,Z8 1 rfl rfl rfl,rfl⟩⟩,rfl,trivial⟩ ⟨ZaQ,5,none,0,none,0,none,0,[],[],[],by rw [if_neg (by simp [g2])],rfl,rfl,ZY.nil,ZcO.nil,ZcO.nil⟩
 try simp only [sQ,ne_eq] at g2
 refine wSk (Za (xL [_,_,_,_,_] ZV 0 (h:=xC ZzE rfl (Zmh _ _ _ _ _ _ x _ hu hf hi) (h:=?_))))
 rintro _ Bc _ hlec ⟨q1c,c1c,q2c,c2c,q3c,c3c,l1c,l2c,l3c,rfl,rfl,huc,hfc,hic⟩
 replace hE:=hE.mono hlec
 refine Zo (Zak (l:=[_,_,_,_,_]) rfl rfl ZaY rfl (fun b5=>?_))
 refine Zo (ZH [_,_,_,_,_] 5 [_,_,_,_,_] rfl rfl Zan rfl rfl rfl rfl rfl rfl rfl rfl ?_)
 refine ZgP [_,_,_,_,_,_] rfl ?_
 refine Za ?_
 refine Zo (ZpZ rfl rfl rfl ?_)
 refine Zo (Zuf [5,2,3,4] rfl rfl rfl rfl he rfl rfl (hw (by simpa using g1) (by simpa using g2) _ _ _ _ _ _ _ _ _ _ _ (hlev.trans hlec) huc hfc hic) ?_)
 rintro _ B6 _ hle6 ⟨q16,c16,q26,c26,q36,c36,l16,l26,l36,rfl,rfl,hu6,hf6,hi6⟩
 replace hE:=hE.mono hle6
 refine xA (h:=tL6 (Zf (ZZ (keeps _ [5] _) mo kr ⟨Kn.le.refl _,Zag.refl _ _⟩ (fun _ _=>?_))))
 refine aT 0 rfl (ZC fun D B L hI=>ZS [_,_,_,_,_] rfl rfl ZV rfl (Z8 5 (hI.2.1.trans rfl) rfl rfl) r4) (h:=aM 1 rfl (h:=aT 2 rfl (ZC fun D B L hI=>Za5 rfl rfl ZzD rfl (Zpr k om2 a _ (hE.mono hI.1)) r4) (h:=?_)))
 refine Zbh 3 kr rfl kr kr (ZH [_,_,_,_,_] 1 [_,_,_,_,_] rfl rfl Zan rfl rfl rfl rfl rfl rfl rfl rfl ?_)
 refine aA 4 rfl (h:=Zz kr kr ?_)
 refine Zj (tL6 (Zd ?_))
 exact Zav .ret (.inl rfl) [_,_] [2,3,4] rfl ⟨⟨_,rfl,.inr ⟨[_,_,_,_,_],ZV,Z8 1 rfl rfl rfl,rfl⟩⟩,rfl,trivial⟩ ⟨R,k,_,_,_,_,_,_,_,_,_,by rw [if_pos ⟨by simpa using g1,by simpa using g2⟩],rfl,rfl,hu6.anyK Zu.any,hf6,hi6⟩

theorem Zpa (b:Nat) (m:DMail) (hm:m.text.length≤2000000) (B:Kn):Zv (pj J) 48 [ptr ⟨b,0,none⟩,.agg #[.int .i64 m.uid,.int .i64 m.flags,str m.text]] B [Zar b [.pointer none,.pointer none,.int .i64 0] 129] (fun v B' Ls=>B'=B∧∃s,Ls=[s]∧MLst 129 131 b ([] ++ [m]) s):=by
 refine cB 35 Tryz.func48 (h:=?_)
 refine Za (xBx [_,_,_] (h:=fun b1=>tL2 (Za (xL [_,_,_] Zpb 1 (h:=xB [(0,_)] [_,_,_,_] [_,_,_,_] Zwg ZvG (h:=xBx [_,_,_,_] (h:=fun b2=>xA (h:=tL3 (Zf (Za (xM (h:=xNc (h:=xW Zjc (h:=x1 ZqV 0 (h:=Zo (Zp4 rfl rfl rfl rfl rfl (Zh6 Tryz.underlying127) (Zb rfl (fun g1=>?_) (fun g1=>by cases g1))))))))))))))))))
 refine Zc (xM (h:=xM (h:=xNc (h:=xW Zrp (h:=xS [_] 0 [_,_,_] Zsj (h:=Zj (Za (xM (h:=xM (h:=xNc (h:=xW Zjc (h:=xS [_] 0 [_,_,_] Zsj (h:=tL3 (Zc (xM (h:=xNc (h:=xW Zjb (h:=x1 lk3 0 (h:=xD (h:=xNc (h:=xW Zjb (h:=xS [_] 0 [_,_,_] sz3 (h:=?_)))))))))))))))))))))))
 exact ZyY .normal (.inr rfl) [] [0,2] rfl trivial ⟨rfl,_,rfl,MLst.one (bn:=b2) hm (List.Perm.refl _)⟩

theorem Zo9 (b bl:Nat) (v0:Value) (x:DMail) (rest:Cells) (xs:List DMail) (m:DMail) (hm:m.text.length≤2000000) (hn:xs.length≤2000000) (B:Kn) (hh:Zlm 131 v0 bl x rest xs):Zv (pj J) 48 [ptr ⟨b,0,none⟩,.agg #[.int .i64 m.uid,.int .i64 m.flags,str m.text]] B [Zar b [v0,ptr ⟨bl,0,none⟩,.int .i64 xs.length] 129,Zar bl (ZhO x (.pointer none)) 131,rest] (fun v B' Ls=>B'=B∧∃s,Ls=[s]∧MLst 129 131 b (xs ++ [m]) s):=by
 refine cB 35 Tryz.func48 (h:=?_)
 refine Za (xBx [_,_,_] (h:=fun b1=>tL4 (Za (xL [_,_,_] Zpb 3 (h:=xB [(0,_)] [_,_,_,_] [_,_,_,_] Zwg ZvG (h:=xBx [_,_,_,_] (h:=fun b2=>xA (h:=tL5 (Zf (Za (xM (h:=xNc (h:=xW Zjc (h:=x1 ZqV 0 (h:=Zo (Zp4 rfl rfl rfl rfl rfl (Zh6 Tryz.underlying127) (Zb rfl (fun g1=>by cases g1) (fun g1=>?_))))))))))))))))))
 refine Zc (xM (h:=xNc (h:=xW Zjc (h:=x1 ZqV 0 (h:=xM (h:=xNc (h:=xW Zro (h:=xS [_] 1 [_,_,_,_] Zsj (h:=Zj (Za (xM (h:=xM (h:=xNc (h:=xW Zjc (h:=xS [_] 0 [_,_,_] Zsj (h:=tL5 (Zc (xM (h:=xNc (h:=xW Zjb (h:=x1 lk3 0 (h:=xD (h:=xNc (h:=xW Zjb (h:=xS [_] 0 [_,_,_] sz3 (h:=?_))))))))))))))))))))))))))
 exact ZyY .normal (.inr rfl) [] [0,4,2,1] rfl trivial ⟨rfl,_,rfl,MLst.add (bn:=b2) hh hm rfl (List.Perm.refl _)⟩

theorem Zl1 (b:Nat) (xs:List DMail) (m:DMail) (s:Cells) (hm:m.text.length≤2000000) (hn:xs.length≤2000000) (B:Kn) (hs:MLst 129 131 b xs s):Zv (pj J) 48 [ptr ⟨b,0,none⟩,.agg #[.int .i64 m.uid,.int .i64 m.flags,str m.text]] B [s] (fun v B' Ls=>B'=B∧∃s',Ls=[s']∧MLst 129 131 b (xs ++ [m]) s'):=by
 rcases hs with ⟨rfl,hp⟩ | ⟨v0,bl,x,rest,hp,hh⟩
 · exact Zv.perm (by simpa using hp) (Zpa b m hm B)
 · exact Zv.perm (by simpa using hp) (Zo9 b bl v0 x rest xs m hm hn B hh)

theorem Zo8 (q:Option Addr) (cp:Nat) (xs:List DMail) (B:Kn) (hx:SlK B q cp 3 ZO xs):Zv (pj J) 47 [.slice q xs.length cp] B [] (fun v B' Ls=>∃b s,Ls=[s]∧v=ptr ⟨b,0,none⟩∧MLst 129 131 b xs s):=by
 refine cB 19 Tryz.func47 (h:=?_)
 have hxn:=hx.len
 refine Za (xA (h:=Za (xB [] [_,_,_] [_,_,_] ZxK Zxk (h:=xBx [_,_,_] (h:=fun b1=>xA (h:=tL1 (Zf (Za (xM (h:=xV Tryz.underlying36 (h:=xM (h:=Zl (ZM (α:=Gh DMail) [0,2,3,8,9] (fun g=>[(10,.int .i64 g.k)]) [0] (fun g=>[g.l]) (fun g Bx=>Bx=B∧g.k≤xs.length∧g.xs=xs.take g.k∧g.xs.length≤g.k∧MLst 129 131 b1 g.xs g.l) (fun g=>xs.length - g.k) ⟨0,0,_,none,0,[]⟩ t1 rfl (⟨rfl,Nat.zero_le _,by simp,Nat.le_refl _,MLst.nil⟩) (fun g B2 hle2 hI=>?_))))))))))))))
 obtain ⟨rfl,hk,hxs,hxl,hv⟩:=hI
 refine ZL [(0,_),(2,_),(3,_),(8,_),(9,_),(10,_)] [_] t6 rfl (Za (Z9 (h:=Zf (Zb rfl (fun g1=>?_) (fun g1=>?_)))))
 try simp only [sQ,ne_eq] at g1
 refine wSk (Zf (Zl (Za ?_)))
 obtain ⟨w,hw⟩:=Zaf (xs:=xs) (i:=g.k) om
 obtain ⟨bb4,oo4,rfl⟩:=hx.base hw
 obtain ⟨_,⟨rfl,hb5⟩,hc5⟩:=hx.elem hw
 refine xIx Tryz.underlying36 Zgj (h:=yL [_,_,_] Zpb hc5 0 (h:=xAl [_,_,_] Zln (h:=fun b6=>xS [_,_,_] 1 [_,_,_] Zgj (h:=tL2 (Zc (xM (h:=xL [_,_,_] Zpb 1 (h:=xK [0] rfl Zza rfl (Zl1 _ g.xs w _ om2 om2 _ hv) (h:=?_)))))))))
 rintro _ B7 _ hle7 ⟨rfl,s7,rfl,hs7⟩
 refine Zx (Zj (Zc (xD (h:=xM (h:=?_)))))
 exact ZB ⟨g.k+1,0,s7,none,0,(g.xs ++ [w])⟩ [0] so2 ⟨rfl,so,by simp only [];rw [Zas hw,hxs],by simp;omega,hs7⟩ t6 rfl
 try simp only [sQ,ne_eq] at g1
 have hxe:g.xs=xs:=by rw [hxs];exact List.take_of_length_le oz
 refine ZT (Zaa (ZW (ZG (Zj (Za (xM (h:=xA (h:=Zd ?_))))))))
 exact eN [0] rfl t1 ⟨_,_,rfl,rfl,hxe ▸ hv⟩

theorem Zni (b:Nat) (xs:List DMail) (s:Cells) (hn:xs.length≤2000000) (B:Kn) (hs:MLst 129 131 b xs s):Zv (pj J) 49 [ptr ⟨b,0,none⟩] B [s] (fun v B' Ls=>B'=B∧∃l a c,Ls=[l]∧v = .slice a xs.length c∧ZY Kn.none l a c 89 3 ZO xs):=by
 refine cB 28 Tryz.func49 (h:=?_)
 obtain ⟨p,vl,s0,hp,hl⟩:=hs.chain
 refine Zkz 0 rfl hp (tL2 (Za (xA (h:=Za (xM (h:=xNc (h:=xW Zjb (h:=x1 lk3 0 (h:=Zo (ZfP (m:=0) (c:=xs.length) (by_:=32) [.int .i64 0,.int .i64 0,.string ⟨#[]⟩] rfl rfl ZvC Zln rfl rfl ⟨_,_,rfl,by first | omega | (simp;done) | (simp;omega)⟩ ⟨_,_,rfl,by first | omega | (simp;done) | (simp;omega)⟩ om om (fun b1=>?_)))))))))))
 have hv1:=ZY.zeros (B:=Kn.none) (b:=b1) (T:=89) (R:=ZO) (d:=(⟨0,0,[]⟩:DMail)) (m:=0) (c:=xs.length) (zs:=[.int .i64 0,.int .i64 0,.string ⟨#[]⟩]) rfl (⟨rfl,by simp⟩) om
 refine xA (h:=tL3 (Zf (Za (xM (h:=xNc (h:=xW Zrp (h:=x1 ZqV 0 (h:=xA (h:=Zl (ZM (α:=MOf) [0,2] (fun g=>[(3,.slice g.q g.ys.length g.c),(4,.pointer g.p)]) [1,2] (fun g=>[g.cells,g.l]) (fun g Bx=>Bx=B∧g.ys ++ g.xs=xs∧ZhT 131 (.pointer g.p) g.xs g.cells∧ZY Kn.none g.l g.q g.c 89 3 ZO g.ys) (fun g=>g.xs.length) ⟨p,[],xs,_,_,_,_⟩ t2 rfl (⟨rfl,rfl,hl,hv1⟩) (fun g B2 hle2 hI=>?_)))))))))))
 obtain ⟨rfl,hxs,hl,hv⟩:=hI
 refine ZL [(0,_),(2,_),(3,_),(4,_)] [_,_,_] t4 rfl (Zf (Za (xM (h:=Zo (ZtO rfl rfl rfl rfl rfl (Zh6 Tryz.underlying127) (Zb rfl (fun g1=>?_) (fun g1=>?_)))))))
 obtain ⟨y,ys,b8,np,rest8,hp8,hrest,hperm,hy8,hl8⟩:=hl.more (by simpa using g1)
 rw [hp8]
 have hlen:=congrArg List.length hxs
 rw [List.length_append,hrest,List.length_cons] at hlen
 replace hlen:g.ys.length+1≤2000000:=by omega
 refine Zkz 1 rfl hperm (tL4 (wSk (Zf (Zl (Zc (xM (h:=xM (h:=xNc (h:=xW ZuZ (h:=xL [_,_,_] Zpb 1 (h:=xBs [(0,_)] [_,_,_] Tryz.underlying36 Zgj Zln (h:=fun b3=>Zo (Zbb (z:=⟨y.uid,y.flags,y.text⟩) (R:=ZO) 2 rfl hv rfl rfl rfl ZvC Zwa rfl rfl (ZaP.box 4 rfl) rfl rfl (⟨rfl,by first | assumption | omega | (simp;done) | (simp;omega)⟩) om (fun l4 p4 c4 hv4=>?_))))))))))))))
 refine xA (h:=Zx (Zj (Zc (xM (h:=xNc (h:=xW Zro (h:=x1 ZqV 1 (h:=xA (h:=?_)))))))))
 exact ZB ⟨np,g.ys ++ [y],ys,l4,p4,c4,rest8⟩ [0,3,2] (by rw [hrest];simp) ⟨rfl,by rw [← hxs,hrest];simp,hl8,hv4⟩ t4 rfl
 rw [hl.done (by simpa using g1),List.append_nil] at hxs
 subst hxs
 refine ZT (Zaa (ZW (ZG (Zj (Za (xM (h:=xA (h:=Zd ?_))))))))
 exact eN [2] rfl t1 ⟨rfl,_,_,_,rfl,rfl,hv⟩

theorem ZrN (q:Option Addr) (cp:Nat) (x:DBox) (fl:Int) (t:Str) (hb:Zbg x=true) (hfl:Zae fl=true) (ht:t.length≤20) (B:Kn) (hm:SlK B q cp 3 ZO x.mail):Zv (pj J) 13 [.agg #[.int .i64 x.next,.slice q x.mail.length cp],.int .i64 fl,str t] B [] (fun v B' Ls=>∃l a c,Ls=[l]∧v = .tuple #[.agg #[.int .i64 (ZdO x fl t).1.next,.slice a (ZdO x fl t).1.mail.length c],.bool (ZdO x fl t).2]∧ZY Kn.none l a c 89 3 ZO (ZdO x fl t).1.mail):=by
 refine cB 50 Tryz.func13 (h:=?_)
 have hxn:=hm.len
 have hbn:=Zcw hb
 have hfl2:0≤fl∧fl≤31:=by simpa [Zae] using hfl
 refine Za (xBx [_,_] (h:=fun b1=>xAl [_,_] ZeU (h:=fun b2=>xA (h:=tL2 (Zf (Za (xL [_,_] Zbw 0 (h:=xR ZxY rfl (ZiV _ _ (⟨x.next,x.mail⟩:DBox) _ hm) (h:=xN (h:=xM (h:=Zp (d:=12) rfl (fun g1=>by simp [hb] at g1) (fun g1=>?_))))))))))))
 try simp only [sQ,ne_eq] at g1
 refine xM (h:=xR ZxZ rfl (Zf6 _ _) (h:=xN (h:=xF (h:=xM (h:=Zp (d:=17) rfl (fun g2=>by first | (simp [hfl2] at g2;done) | (simp at g2;omega)) (fun g2=>?_))))))
 try simp only [sQ,ne_eq] at g2
 refine xM (h:=xVs Tryz.underlying9 (h:=Zbv (h:=xF (h:=Zb rfl (fun g3=>by first | omega | (simp at g3;omega)) (fun g3=>?_)))))
 try simp only [sQ,ne_eq] at g3
 refine wSk (Zf (Za (xW ZaL (h:=x1 Zfw 0 (h:=xV Tryz.underlying36 (h:=ZF (h:=xM (h:=Zp (d:=27) rfl (fun g4=>?_) (fun g4=>?_)))))))))
 try simp only [sQ,ne_eq] at g4
 refine xP (h:=xP (h:=xP (h:=xT (h:=Zb (t:=true) rfl (fun _=>Za (xL [_,_] Zbw 0 (h:=xC ZxX rfl (Zhf _ _ (⟨x.next,x.mail⟩:DBox) _ hm) (h:=?_)))) (fun h=>Bool.noConfusion h)))))
 rintro _ B5 _ hle5 ⟨rfl,l5,a5,c5,rfl,rfl,hs5⟩
 refine xS [_,_] 1 [_,_] Zcz (h:=xA (h:=tL3 (Zd (Zn ?_))))
 have hae:=ZgN (fl:=fl) (t:=t) (b:=x) (.inl oz)
 exact Zav .ret (.inl rfl) [_,_] [2] rfl ⟨⟨_,rfl,.inr ⟨[_,_],Zbw,Z8 1 rfl rfl rfl,rfl⟩⟩,rfl,trivial⟩ (by rw [hae];exact ⟨_,_,_,rfl,rfl,hs5.anyK ZO.any⟩)
 try simp only [sQ,ne_eq] at g4
 refine xW ZbX (h:=x1 lk3 0 (h:=Zbv (h:=xF (h:=Zb rfl (fun g5=>?_) (fun g5=>?_)))))
 try simp only [sQ,ne_eq] at g5
 refine Za (xL [_,_] Zbw 0 (h:=xC ZxX rfl (Zhf _ _ (⟨x.next,x.mail⟩:DBox) _ hm) (h:=?_)))
 rintro _ B6 _ hle6 ⟨rfl,l6,a6,c6,rfl,rfl,hs6⟩
 refine xS [_,_] 1 [_,_] Zcz (h:=xA (h:=tL3 (Zd (Zn ?_))))
 have hae:=ZgN (fl:=fl) (t:=t) (b:=x) (.inr oz)
 exact Zav .ret (.inl rfl) [_,_] [2] rfl ⟨⟨_,rfl,.inr ⟨[_,_],Zbw,Z8 1 rfl rfl rfl,rfl⟩⟩,rfl,trivial⟩ (by rw [hae];exact ⟨_,_,_,rfl,rfl,hs6.anyK ZO.any⟩)
 try simp only [sQ,ne_eq] at g5
 refine wSk (Za (xW ZaL (h:=x1 Zfw 0 (h:=xC ZzS rfl (Zo8 _ _ x.mail _ hm) (h:=?_)))))
 rintro _ B7 _ hle7 ⟨b7,s7,rfl,rfl,hs7⟩
 refine xA (h:=tL3 (Za (xM (h:=xW ZbX (h:=x1 lk3 0 (h:=xM (h:=xM (h:=xB [(0,_),(1,_),(2,_)] [_,_,_] [_,_,_] ZyX Zln (h:=xK [2] rfl Zza rfl (Zl1 _ x.mail (⟨x.next,fl,t⟩:DMail) _ om2 om2 _ hs7) (h:=?_))))))))))
 rintro _ B8 _ hle8 ⟨rfl,s8,rfl,hs8⟩
 refine tL3 (Zf (ZZ (keeps _ [0] _) mo kr ⟨Kn.le.refl _,Zag.refl _ _⟩ (fun _ _=>?_)))
 refine aW 0 rfl ZbX (h:=aT 1 rfl (ZC fun D B L hI=>Zh rfl rfl lk3 rfl (atL 0 (hI.2.1.trans rfl) rfl rfl) r4) (h:=aD 2 rfl (h:=aM 3 rfl (h:=Zq 4 kr rfl kr (ZaB [2] rfl rfl rfl rfl ZzR rfl (Zni _ (x.mail ++ [(⟨x.next,fl,t⟩:DMail)]) _ om2 _ hs8) ?_)))))
 rintro _ B9 _ hle9 ⟨rfl,l9,a9,c9,rfl,rfl,hv9⟩
 refine ⟨⟨Kn.le.refl _,t1⟩,(aT 5 rfl (ZC fun D B L hI=>Zaz (parts:=[(0,_),(1,_)]) [_,_] [_,_] rfl rfl Zne ZeU rfl rfl rfl r4) (h:=Zbh 6 kr rfl kr kr (ZH [_,_] 1 [_,_] rfl rfl Zcz rfl rfl rfl rfl rfl rfl rfl rfl ?_)))⟩
 refine aA 7 rfl (h:=Zz kr kr ?_)
 refine Zj (tL3 (Zd ?_))
 have hae:=ZrW (fl:=fl) (t:=t) (b:=x) oz
 exact Zav .ret (.inl rfl) [_,_] [2] rfl ⟨⟨_,rfl,.inr ⟨[_,_],Zbw,Z8 1 rfl rfl rfl,rfl⟩⟩,rfl,trivial⟩ (by rw [hae];exact ⟨_,_,_,rfl,rfl,hv9.anyK ZO.any⟩)

theorem ZpK (b:Nat) (q1 q2 q3:Option Addr) (c1 c2 c3:Nat) (x:DHost) (l1 l2 l3:Cells) (k:Nat) (f:DFolder) (fl:Int) (t:Str) (hfx:x.folders[k]? = some f) (hn1:x.users.length≤2000000) (hn2:x.folders.length≤2000000) (hok:Zw x=true) (hfl:Zae fl=true) (ht:t.length≤20) (a:Nat→Addr) (B:Kn) (hE:ErrsB 267 [0,1,2,3] B a) (hu:ZY Kn.none l1 q1 c1 50 3 Zu x.users) (hf:ZcO l2 q2 c2 40 5 (ZaJ 93 89) x.folders) (hi:ZcO l3 q3 c3 117 4 (Zdf 9) x.queue.items):Zv (pj J) 33 [ptr ⟨b,0,none⟩,.int .i64 k,.int .i64 fl,str t] B [Zar b [str x.domain,.slice q1 x.users.length c1,.slice q2 x.folders.length c2,.int .i64 x.queue.next,.slice q3 x.queue.items.length c3] 29,l1,l2,l3] (fun v B' Ls=>∃q1' c1' q2' c2' q3' c3' l1' l2' l3',Ls=[Zar b [str (ZaN x k fl t).1.domain,.slice q1' (ZaN x k fl t).1.users.length c1',.slice q2' (ZaN x k fl t).1.folders.length c2',.int .i64 (ZaN x k fl t).1.queue.next,.slice q3' (ZaN x k fl t).1.queue.items.length c3'] 29,l1',l2',l3']∧v=errv 267 a (ZoY x k fl t)∧ZY Kn.none l1' q1' c1' 50 3 Zu (ZaN x k fl t).1.users∧ZcO l2' q2' c2' 40 5 (ZaJ 93 89) (ZaN x k fl t).1.folders∧ZcO l3' q3' c3' 117 4 (Zdf 9) (ZaN x k fl t).1.queue.items):=by
 refine ZeM 44 Tryz.func33 rfl rfl rfl (Nat.le_of_ble_eq_true rfl) ?_
 have hfk:=(List.getElem?_eq_some_iff.1 hfx).1
 have hbo:Zbg (⟨f.next,f.mail⟩:DBox)=true:=Zbt (ZaC hok hfx)
 have hol:=ZqA hok (List.mem_of_getElem? hfx)
 have hbn:f.mail.length≤10:=(Zcw hbo).2.2
 have hml:(f.withBox (ZdO f.box fl t).1).mail.length≤2000000:=Nat.le_trans (ZoD f.box fl t) (by show f.mail.length+1≤_;omega)
 have hql:=Zc6 (ZfA hok)
 obtain ⟨bq,_,_,lre,hpq,⟨qg,cg,qm,cm,ia,ib,rfl,rfl,hg,hm,ho,hn,hx,hy⟩,hwq,hqq,hcl,hcr,hkk⟩:=hf.cellA hfx
 refine Za (xA (h:=Za (xM (h:=xNc (h:=xW Z0 (h:=x1 Zcy 0 (h:=xM (h:=Zo (ZfQ hpq rfl rfl Tryz.underlying24 Zbm rfl rfl oz oz ?_)))))))))
 refine xA (h:=Zf (Za (xM (h:=xM (h:=xNc (h:=xW Zcv (h:=Zo (Zh rfl rfl lk9 rfl (hcl _ _ 2 rfl 0 _ rfl) (xM (h:=xVs Tryz.underlying9 (h:=Zo (ZeY [0,1,2,3] rfl rfl rfl rfl rfl Zy4 rfl (ZaE.borrowL fun hm1=>Zmt _ _ _ _ _ _ _ _ x f.owner ↑t.length om2 om2 om2 _ (Zzg 0 rfl hm1) (hu.lendK Zu.any 1 rfl hm1 om) (hf.lendK ZaJ.known Ze.mono 2 rfl hm1 om)) ?_))))))))))))
 refine Zb rfl (fun g1=>?_) (fun g1=>?_)
 refine Za (Zo (Zh rfl rfl ZsJ rfl ((hE.row 2 (by decide)) _ 0 _ rfl) ?_))
 refine xA (h:=Zd (Zn ?_))
 obtain ⟨e1,e2⟩:=Zqy (fl:=fl) hok hfx g1
 exact eN [0,1,2,3] rfl t1 (by rw [e1,e2];exact ⟨_,_,_,_,_,_,_,_,_,rfl,rfl,hu,hf,hi⟩)
 refine Zkz 2 rfl (ZxN hqq) (wSk (Za (xM (h:=xNc (h:=xW ZbN (h:=Zo (ZS [_,_] rfl rfl Zbw rfl (Zzj (hcr _ _ 2 rfl) 3 rfl rfl) (xM (h:=xM (h:=xK [5] rfl Zz5 rfl (Zv.borrow fun hm2=>ZrN _ _ (⟨f.next,f.mail⟩:DBox) fl t (oy) (oy) (oy) _ ((hm.anyK ZO.any).lend ZO.mono hm2 om)) (h:=?_)))))))))))
 rintro _ B2 _ hle2 ⟨BB2,_,rfl,hB2,_,hm2,_,l2,a2,c2,rfl,rfl,hs2⟩
 replace hu:=hu.mono Zu.mono hle2
 replace hg:=hg.mono ZX.mono hle2
 replace hm:=hm.mono ZO.mono hle2
 replace hE:=hE.mono hle2
 refine xM (h:=xE (h:=xE (h:=xAl [_,_] ZeU (h:=fun b3=>xS [_,_] 7 [_,_] Zcz (h:=xA (h:=tL8 (Zp5 2 5 rfl rfl (by decide) ?_)))))))
 refine Zp5 2 4 rfl rfl (by decide) ?_
 have hf9:=hkk f _ ⟨qg,cg,qm,cm,_,_,rfl,rfl,hg,hm,ho,hn,hx,hy⟩
 rw [List.append_assoc,Zwe hfx] at hf9
 refine Zf (Za (xM (h:=xN (h:=tL8 (Zb rfl (fun g2=>?_) (fun g2=>?_))))))
 refine Za (Zo (Zh rfl rfl ZsJ rfl ((hE.row 3 (by decide)) _ 0 _ rfl) ?_))
 refine xA (h:=Zd (Zn ?_))
 obtain ⟨e1,e2⟩:=Zss hok hfx (by simpa using g1) (by simpa [DFolder.box] using g2)
 exact eN [0,1,2,3] rfl t1 (by rw [e1,e2];exact ⟨_,_,_,_,_,_,_,_,_,rfl,rfl,hu,hf9,hi⟩)
 refine wSk (Za (xM (h:=xL [_,_] Zbw 7 (h:=xNc (h:=xW ZbN (h:=Zo (ZvL (R:=(ZaJ 93 89)) (x0:=f) (f.withBox (ZdO f.box fl t).1) (us:=[_,_]) (sz:=5) (k:=k) 3 2 [6] rfl rfl hf9 hpq hfx rfl rfl Zcz rfl rfl rfl rfl (Nat.le_of_ble_eq_true rfl) (by rintro _ _ ⟨_,_,_,_,_,_,rfl,rfl,k1,k2,k3,k4,k5,k6⟩;exact ⟨_,_,⟨_,_,_,_,_,_,rfl,rfl,k1,hs2,k3,k4,k5,hml⟩,by simpa [List.append_assoc] using List.Perm.append_left _ List.perm_append_comm⟩) (fun l4 hd4=>?_))))))))
 refine tL8 (Za (xA (h:=Zd ?_)))
 obtain ⟨e1,e2⟩:=Zst hok hfx (by simpa using g1) (by simpa [DFolder.box] using g2)
 exact eN [0,1,2,3] rfl t1 (by rw [e1,e2];simp only [DHost.withFolders,List.length_set];exact ⟨_,_,_,_,_,_,_,_,_,rfl,rfl,hu,hd4,hi⟩)

theorem ZtU (b1 b2 b3 b4 b5:Nat) (u o n:Str) (fl:Int) (t:Str) (b:Nat) (q1 q2 q3:Option Addr) (c1 c2 c3:Nat) (x:DHost) (l1 l2 l3:Cells) (hul:u.length≤2000000) (hol:o.length≤2000000) (hnl:n.length≤2000000) (hn1:x.users.length≤2000000) (hn2:x.folders.length≤2000000) (hok:Zw x=true) (hfl:Zae fl=true) (ht:t.length≤20) (a:Nat→Addr) (B:Kn) (hE:ErrsB 267 [0,1,2,3] B a) (hc1:ZaS B b1 0 [str u]) (hc2:ZaS B b2 0 [str o]) (hc3:ZaS B b3 0 [str n]) (hc4:ZaS B b4 0 [.int .i64 fl]) (hc5:ZaS B b5 0 [str t]) (hu:ZY Kn.none l1 q1 c1 50 3 Zu x.users) (hf:ZcO l2 q2 c2 40 5 (ZaJ 93 89) x.folders) (hi:ZcO l3 q3 c3 117 4 (Zdf 9) x.queue.items):Zv (pj J) 31 [ptr ⟨b,0,none⟩,ptr ⟨b1,0,none⟩,ptr ⟨b2,0,none⟩,ptr ⟨b3,0,none⟩,ptr ⟨b4,0,none⟩,ptr ⟨b5,0,none⟩] B [Zar b [str x.domain,.slice q1 x.users.length c1,.slice q2 x.folders.length c2,.int .i64 x.queue.next,.slice q3 x.queue.items.length c3] 29,l1,l2,l3] (fun v B' Ls=>∃q1' c1' q2' c2' q3' c3' l1' l2' l3',Ls=[Zar b [str (Zf3 x u o n fl t).domain,.slice q1' (Zf3 x u o n fl t).users.length c1',.slice q2' (Zf3 x u o n fl t).folders.length c2',.int .i64 (Zf3 x u o n fl t).queue.next,.slice q3' (Zf3 x u o n fl t).queue.items.length c3'] 29,l1',l2',l3']∧v=errv 267 a (ZjH x u o n fl t)∧ZY Kn.none l1' q1' c1' 50 3 Zu (Zf3 x u o n fl t).users∧ZcO l2' q2' c2' 40 5 (ZaJ 93 89) (Zf3 x u o n fl t).folders∧ZcO l3' q3' c3' 117 4 (Zdf 9) (Zf3 x u o n fl t).queue.items):=by
 refine cB 26 Tryz.func31 (h:=?_)
 have hix:=Zdi (inF o n) x.folders
 have hck:=ZrJ x.users x.folders u o n 8
 have hql:=Zc6 (ZfA hok)
 refine Za (xA (h:=Za (xM (h:=y1 lk9 hc1 0 (h:=y1 lk9 hc2 0 (h:=y1 lk9 hc3 0 (h:=Zo (ZeY [0,1,2,3] rfl rfl rfl rfl rfl ZzY rfl (ZaE.borrowL fun hm1=>Zvr _ _ _ _ _ _ _ _ x u o n 8 om2 om2 om2 a _ (hE.mono (Kn.le_add _ _)) (Zzg 0 rfl hm1) (hu.lendK Zu.any 1 rfl hm1 om) (hf.lendK ZaJ.known Ze.mono 2 rfl hm1 om)) ?_))))))))
 refine xM (h:=xE (h:=xE (h:=xA (h:=xA (h:=Zf (Za (xM (h:=Zo (ZvO (tE:=267) (a:=a) (c:=(Zjr x.users x.folders u o n 8)) rfl rfl Tryz.underlying69 rfl (Zb rfl (fun g1=>?_) (fun g1=>?_)))))))))))
 try simp only [sQ,ne_eq] at g1
 refine Za (xM (h:=xA (h:=Zd (Zn ?_))))
 have hce:Zjr x.users x.folders u o n 8≠0:=by omega
 exact eN [0,1,2,3] rfl t1 (by rw [Zf3,ZjH,if_neg hce,if_neg hce];exact ⟨_,_,_,_,_,_,_,_,_,rfl,rfl,hu,hf,hi⟩)
 try simp only [sQ,ne_eq] at g1
 have hce:Zjr x.users x.folders u o n 8=0:=by omega
 have hk0:=Ztp hce
 obtain ⟨k,hke⟩ :∃k:Nat,ZaM (inF o n) x.folders=(k:Int):=⟨_,(Int.toNat_of_nonneg hk0).symm⟩
 obtain ⟨f,hfx⟩:=Zaf (xs:=x.folders) (i:=k) oz
 rw [if_pos hce,hke]
 refine wSk (Za (xM (h:=xM (h:=y1 lk3 hc4 0 (h:=y1 lk9 hc5 0 (h:=xK [0,1,2,3] rfl ZzX rfl (ZpK b q1 q2 q3 c1 c2 c3 x l1 l2 l3 k f fl t hfx hn1 hn2 hok hfl ht a _ hE hu hf hi) (h:=?_)))))))
 rintro _ B2 _ hle2 ⟨q12,c12,q22,c22,q32,c32,l12,l22,l32,rfl,rfl,hu2,hf2,hi2⟩
 refine xA (h:=tL4 (Zd ?_))
 exact eN [0,1,2,3] rfl t1 (by rw [Zf3,ZjH,if_pos hce,if_pos hce,hke];exact ⟨_,_,_,_,_,_,_,_,_,rfl,rfl,hu2,hf2,hi2⟩)

theorem Zg4 (hJ:Joins Tryz.prog J) (q1 q2 q3:Option Addr) (c1 c2 c3:Nat) (x:DHost) (u o n:Str) (fl:Int) (t:Str) (hul:u.length≤2000000) (hol:o.length≤2000000) (hnl:n.length≤2000000) (htl:t.length≤2000000) (hd:x.domain.length≤2000000) (a:Nat→Addr) (B:Kn) (hE:ErrsB 267 [0,1,2,3] B a) (hu:SlK B q1 c1 3 Zu x.users) (hf:SlK B q2 c2 5 Ze x.folders) (hi:SlK B q3 c3 4 Zy x.queue.items):Zv (pj J) 9 [.agg #[str x.domain,.slice q1 x.users.length c1,.slice q2 x.folders.length c2,.int .i64 x.queue.next,.slice q3 x.queue.items.length c3],str u,str o,str n,.int .i64 fl,str t] B [] (fun v B' Ls=>∃q1 c1 q2 c2 q3 c3 l1 l2 l3,Ls=[l1,l2,l3]∧v = .tuple #[.agg #[str (Zcc x u o n fl t).1.domain,.slice q1 (Zcc x u o n fl t).1.users.length c1,.slice q2 (Zcc x u o n fl t).1.folders.length c2,.int .i64 (Zcc x u o n fl t).1.queue.next,.slice q3 (Zcc x u o n fl t).1.queue.items.length c3],.int .i64 (Zcc x u o n fl t).2]∧ZY Kn.none l1 q1 c1 50 3 Zu (Zcc x u o n fl t).1.users∧ZcO l2 q2 c2 40 5 (ZaJ 93 89) (Zcc x u o n fl t).1.folders∧ZcO l3 q3 c3 117 4 (Zdf 9) (Zcc x u o n fl t).1.queue.items):=by
 refine cB 26 Tryz.func9 (h:=?_)
 have hun:=hu.len
 have hfn:=hf.len
 have hin:=hi.len
 refine Za (xBx [_,_,_,_,_] (h:=fun b1=>xBx [_] (h:=fun b2=>xBx [_] (h:=fun b3=>xBx [_] (h:=fun b4=>xBx [_] (h:=fun b5=>xBx [_] (h:=fun b6=>xAl [_,_,_,_,_] ZaY (h:=fun b7=>xA (h:=tL7 (ZjG 1 rfl (fun B8 hle8 hpm8=>?_)))))))))))
 have hc8:=Zbq hpm8
 obtain ⟨hu,hf,hi⟩:=up3 hle8 hu hf hi
 replace hE:=hE.mono hle8
 refine ZjG 2 rfl (fun B9 hle9 hpm9=>?_)
 have hc9:=Zbq hpm9
 obtain ⟨hu,hf,hi⟩:=up3 hle9 hu hf hi
 replace hc8:=hc8.mono hle9
 replace hE:=hE.mono hle9
 refine ZjG 3 rfl (fun B10 hle10 hpm10=>?_)
 have hc10:=Zbq hpm10
 obtain ⟨hu,hf,hi⟩:=up3 hle10 hu hf hi
 replace hc8:=hc8.mono hle10
 replace hc9:=hc9.mono hle10
 replace hE:=hE.mono hle10
 refine ZjG 4 rfl (fun B11 hle11 hpm11=>?_)
 have hc11:=Zbq hpm11
 obtain ⟨hu,hf,hi⟩:=up3 hle11 hu hf hi
 replace hc8:=hc8.mono hle11
 replace hc9:=hc9.mono hle11
 replace hc10:=hc10.mono hle11
 replace hE:=hE.mono hle11
 refine ZjG 5 rfl (fun B12 hle12 hpm12=>?_)
 have hc12:=Zbq hpm12
 obtain ⟨hu,hf,hi⟩:=up3 hle12 hu hf hi
 replace hc8:=hc8.mono hle12
 replace hc9:=hc9.mono hle12
 replace hc10:=hc10.mono hle12
 replace hc11:=hc11.mono hle12
 replace hE:=hE.mono hle12
 refine Zf (ZZ (keeps _ [0] _) mo kr ⟨Kn.le.refl _,Zag.refl _ _⟩ (fun _ _=>?_))
 refine aT 0 rfl (ZC fun D B L hI=>ZS [_,_,_,_,_] rfl rfl ZV rfl (Z8 0 (hI.2.1.trans rfl) rfl rfl) r4) (h:=aT 1 rfl (ZC fun D B L hI=>Zh rfl rfl lk3 rfl ((hc11.mono hI.1) _ 0 _ rfl) r4) (h:=aT 2 rfl (ZC fun D B L hI=>Za5 rfl rfl ZxZ rfl (Zf6 _ _) r4) (h:=aM 3 rfl (h:=Zaw (d:=17) rfl (fun g1=>?_) (fun g1=>?_)))))
 refine aT 4 rfl (ZC fun D B L hI=>Zh rfl rfl lk9 rfl ((hc12.mono hI.1) _ 0 _ rfl) r4) (h:=aT 5 rfl (ZC fun D B L hI=>Zlu rfl rfl Tryz.underlying9 rfl r4) (h:=ZtC 6 rfl (h:=aPT 7 rfl (h:=Zq 8 kr rfl kr (Zdu (xs:=[]) (ys:=[_,_,_,_,_]) rfl rfl rfl rfl ?_)))))
 refine ⟨⟨Kn.le.refl _,t1⟩,(Zq 9 kr rfl kr (Zbe rfl rfl Zzd rfl (Zmg _ _ _ _ _ _ x _ 31 _ (Zf3 x u o n fl t) (ZjH x u o n fl t) (Zoc x u o n fl t) Zzc hJ hd a _ hE hu hf hi (fun har hok B2 b q1 q2 q3 c1 c2 c3 l1 l2 l3 hle k1 k2 k3=>ZtU _ _ _ _ _ u o n fl t b q1 q2 q3 c1 c2 c3 x l1 l2 l3 hul hol hnl oz oz hok (by simpa [Zae] using g1) (by simp at har;omega) a B2 (hE.mono hle) (hc8.mono hle) (hc9.mono hle) (hc10.mono hle) (hc11.mono hle) (hc12.mono hle) k1 k2 k3)) ?_))⟩
 rintro _ B14 _ hle14 ⟨Y14,d14,q114,c114,q214,c214,q314,c314,l114,l214,l314,hYd14,rfl,rfl,hu14,hf14,hi14⟩
 obtain ⟨hu,hf,hi⟩:=up3 hle14 hu hf hi
 replace hc8:=hc8.mono hle14
 replace hc9:=hc9.mono hle14
 replace hc10:=hc10.mono hle14
 replace hc11:=hc11.mono hle14
 replace hc12:=hc12.mono hle14
 replace hE:=hE.mono hle14
 rw [Zq6 (by simp only [Zae,decide_eq_true_eq];simp at g1;constructor <;> (intro hh;simp at hh ⊢;omega))] at hYd14
 refine ⟨⟨hle14,t1⟩,(aE 10 rfl (h:=aE 11 rfl (h:=Zbh 12 kr rfl kr kr (ZH [_,_,_,_,_] 6 [_,_,_,_,_] rfl rfl Zan rfl rfl rfl rfl rfl rfl rfl rfl ?_))))⟩
 refine aA 13 rfl (h:=Zz kr kr ?_)
 refine Zj (ZyW (Zd ?_))
 have e1:=congrArg Prod.fst hYd14
 have e2:=congrArg Prod.snd hYd14
 dsimp only at e1 e2
 subst e1 e2
 exact Zav .ret (.inl rfl) [_,_] [7,8,9] rfl ⟨⟨_,rfl,.inr ⟨[_,_,_,_,_],ZV,Z8 6 rfl rfl rfl,rfl⟩⟩,rfl,trivial⟩ ⟨_,_,_,_,_,_,_,_,_,rfl,rfl,hu14.anyK Zu.any,hf14,hi14⟩
 refine aZ 4 rfl (h:=aZ 5 rfl (h:=aZ 6 rfl (h:=aPF 7 rfl (h:=Zq 8 kr rfl kr (Zdu (xs:=[]) (ys:=[_,_,_,_,_]) rfl rfl rfl rfl ?_)))))
 refine ⟨⟨Kn.le.refl _,t1⟩,(Zq 9 kr rfl kr (Zbe rfl rfl Zzd rfl (Zmg _ _ _ _ _ _ x _ 31 _ (Zf3 x u o n fl t) (ZjH x u o n fl t) (Zoc x u o n fl t) Zzc hJ hd a _ hE hu hf hi (fun har hok B2 b q1 q2 q3 c1 c2 c3 l1 l2 l3 hle k1 k2 k3=>ZtU _ _ _ _ _ u o n fl t b q1 q2 q3 c1 c2 c3 x l1 l2 l3 hul hol hnl oz oz hok (by cases har) (by cases har) a B2 (hE.mono hle) (hc8.mono hle) (hc9.mono hle) (hc10.mono hle) (hc11.mono hle) (hc12.mono hle) k1 k2 k3)) ?_))⟩
 rintro _ B15 _ hle15 ⟨Y15,d15,q115,c115,q215,c215,q315,c315,l115,l215,l315,hYd15,rfl,rfl,hu15,hf15,hi15⟩
 rw [Zq6 (by simp at g1;simp [Zae];omega)] at hYd15
 refine ⟨⟨hle15,t1⟩,(aE 10 rfl (h:=aE 11 rfl (h:=Zbh 12 kr rfl kr kr (ZH [_,_,_,_,_] 6 [_,_,_,_,_] rfl rfl Zan rfl rfl rfl rfl rfl rfl rfl rfl ?_))))⟩
 refine aA 13 rfl (h:=Zz kr kr ?_)
 refine Zj (ZyW (Zd ?_))
 have e1:=congrArg Prod.fst hYd15
 have e2:=congrArg Prod.snd hYd15
 dsimp only at e1 e2
 subst e1 e2
 exact Zav .ret (.inl rfl) [_,_] [7,8,9] rfl ⟨⟨_,rfl,.inr ⟨[_,_,_,_,_],ZV,Z8 6 rfl rfl rfl,rfl⟩⟩,rfl,trivial⟩ ⟨_,_,_,_,_,_,_,_,_,rfl,rfl,hu15.anyK Zu.any,hf15,hi15⟩

theorem Zkc (b:Nat) (q:Option Addr) (m cp p:Nat) (hp:p≤850000000000) (hm:m≤2000) (B:Kn) (hbm:Zah B q m):Ex1 (pj J) 27 [ptr ⟨b,0,none⟩] B (rd b q m cp p) (fun v s=>∃(z:Int) (k:Nat),v = .int .i64 z∧k≤p+3∧s=rd b q m cp k):=by
 refine cB 13 Tryz.func27 (h:=?_)
 refine Za (xA (h:=Zf (Za (xM (h:=xX 0 rfl Za7 rfl (ZK _ _ _ _ _ _ oz oz oz hm _ hbm) (h:=?_))))))
 rintro _ _ ⟨r1,rfl,r1a,r1b,rfl⟩
 refine ZF (h:=tL1 (Zb rfl (fun g1=>?_) (fun g1=>?_)))
 refine Za (xBs [(0,_),(1,_),(2,_)] [_,_,_] Tryz.underlying110 sz3 zo3 (h:=fun b2=>?_))
 have hvq3:ZY B (Zar b2 (([(-1),31,32]:List Int).map fun x=>.int .i64 x) 3) (some ⟨b2,0,none⟩) 3 3 1 Zb7 ([(-1),31,32]:List Int):=ZY.ints
 refine xM (h:=xX 0 rfl Za7 rfl (ZK _ _ _ _ _ _ oz oz oz hm _ hbm) (h:=?_))
 rintro _ _ ⟨r4,rfl,r4a,r4b,rfl⟩
 obtain ⟨e,he⟩:=Zep (xs:=([(-1),31,32]:List Int)) (i:=r4) om om
 obtain ⟨bb6,_,hp6,rfl,hw6,hc6⟩:=hvq3.row he
 refine xIp hp6 Tryz.underlying110 sz3 (h:=Zo (Zh rfl rfl lk3 rfl (hc6 _ 1 rfl 0 _ rfl) (xA (h:=tL2 (Zd (Zn ?_))))))
 exact e1 0 rfl t1 ⟨rfl,_,rfl,e,_,rfl,oz,rfl⟩
 refine wSk (Za (xM (h:=xX 0 rfl Za7 rfl (ZK _ _ _ _ _ _ oz oz oz hm _ hbm) (h:=?_))))
 rintro _ _ ⟨r7,rfl,r7a,r7b,rfl⟩
 refine xA (h:=tL1 (Zd ?_))
 exact e1 0 rfl t1 ⟨rfl,_,rfl,_,_,rfl,oz,rfl⟩

theorem Zhd (q:Option Addr) (m cp:Nat) (hmc:m≤cp) (B:Kn) (hb:Zah B q m):Zv (pj J) 8 [.slice q m cp] B [] (fun v B' Ls=>Ls=[]∧∃(x:DHost) (p1 p2 p3:Option Addr) (d1 d2 d3:Nat) (u o n:Str) (fl:Int) (t:Str),v = .tuple #[.agg #[str x.domain,.slice p1 x.users.length d1,.slice p2 x.folders.length d2,.int .i64 x.queue.next,.slice p3 x.queue.items.length d3],str u,str o,str n,.int .i64 fl,str t]∧SlK B' p1 d1 3 Zu x.users∧SlK B' p2 d2 5 Ze x.folders∧SlK B' p3 d3 4 Zy x.queue.items∧x.domain.length≤2000000∧u.length≤2000000∧o.length≤2000000∧n.length≤2000000∧t.length≤2000000):=by
 refine cB 39 Tryz.func8 (h:=?_)
 refine Za (xAl [_,_,_,_,_] ZaY (h:=fun b1=>xA (h:=xA (h:=xA (h:=xA (h:=xA (h:=tL1 (Za (xM (h:=Zo (ZtL rfl rfl Zz1 rfl (ZsP _ _ _ oz _ (oy)) ?_)))))))))))
 rintro _ _ ⟨bop,qop,mop,cpop,rfl,rfl,hm,hbm⟩
 refine xA (h:=tL2 (Za (xM (h:=xK [1] rfl Zz0 rfl (ZsM _ _ _ _ _ oz hm _ hbm) (h:=?_)))))
 rintro _ Bh _ hleh ⟨xh,p1h,p2h,p3h,d1h,d2h,d3h,kh,rfl,huh,hfh,hih,hdh,hkh,rfl⟩
 replace hbm:=hbm.mono hleh
 have huhn:=huh.len
 have hfhn:=hfh.len
 have hihn:=hih.len
 refine xAl [_,_,_,_,_] ZaY (h:=fun b4=>xS [_,_,_,_,_] 2 [_,_,_,_,_] Zan (h:=tL3 (Za (xM (h:=xL [_,_,_,_,_] ZV 2 (h:=xX 1 rfl ZzZ rfl (ZsL _ _ _ _ _ oz hm _ _ _ _ _ _ _ _ hbm hfh) (h:=?_)))))))
 rintro _ _ ⟨yo,zo,ko,rfl,hyo,hzo,hko,rfl⟩
 refine xM (h:=xE (h:=xE (h:=xA (h:=xA (h:=tL3 (Za (xM (h:=xA (h:=Zf (Za (xM (h:=xX 1 rfl Za7 rfl (ZK _ _ _ _ _ _ oz oz oz hm _ hbm) (h:=?_)))))))))))))
 rintro _ _ ⟨rk,rfl,rka,rkb,rfl⟩
 refine ZF (h:=tL3 (Zb rfl (fun g1=>?_) (fun g1=>?_)))
 refine Zc (xM (h:=xX 1 rfl Zx0 rfl (ZiL _ _ _ _ _ oz hm _ hbm) (h:=?_)))
 rintro _ _ ⟨xu,ku,rfl,hxu,hku,rfl⟩
 refine xA (h:=Zj (Za (xM (h:=xX 1 rfl Zze rfl (Zkc _ _ _ _ _ oz hm _ hbm) (h:=?_)))))
 rintro _ _ ⟨zf,kf,rfl,hkf,rfl⟩
 refine xA (h:=tL3 (Zf (ZZ (keeps _ [2] _) mo kr ⟨Kn.le.refl _,Zag.refl _ _⟩ (fun _ _=>?_))))
 refine aT 0 rfl (ZC fun D B L hI=>ZS [_,_,_,_,_] rfl rfl ZV rfl (Z8 2 (hI.2.1.trans rfl) rfl rfl) r4) (h:=aM 1 rfl (h:=aM 2 rfl (h:=aM 3 rfl (h:=aM 4 rfl (h:=aM 5 rfl (h:=Zq 6 kr rfl kr (Zck 1 rfl rfl rfl Zvc rfl (ZdG _ _ _ _ _ oz hm _ hbm) ?_)))))))
 rintro _ _ ⟨xt,rfl,hxt,rfl⟩
 refine ⟨⟨Kn.le.refl _,t1⟩,(Zbh 7 kr rfl kr kr (ZH [_,_,_,_,_] 0 [_,_,_,_,_] rfl rfl Zan rfl rfl rfl rfl rfl rfl rfl rfl ?_))⟩
 refine aA 8 rfl (h:=aA 9 rfl (h:=aA 10 rfl (h:=aA 11 rfl (h:=aA 12 rfl (h:=Zz kr kr ?_)))))
 refine Zj (tL3 (Zd ?_))
 exact Zav .ret (.inl rfl) [_,_,_,_,_,_] [] rfl ⟨⟨_,rfl,.inr ⟨[_,_,_,_,_],ZV,Z8 0 rfl rfl rfl,rfl⟩⟩,rfl,rfl,rfl,rfl,rfl,trivial⟩ ⟨rfl,xh,_,_,_,_,_,_,_,_,_,_,_,rfl,huh,hfh,hih,hdh,oa,oa,oa,oa⟩
 refine wSk (Za (xM (h:=xX 1 rfl Zze rfl (Zkc _ _ _ _ _ oz hm _ hbm) (h:=?_))))
 rintro _ _ ⟨zf,kf,rfl,hkf,rfl⟩
 refine xA (h:=tL3 (Zf (ZZ (keeps _ [2] _) mo kr ⟨Kn.le.refl _,Zag.refl _ _⟩ (fun _ _=>?_))))
 refine aT 0 rfl (ZC fun D B L hI=>ZS [_,_,_,_,_] rfl rfl ZV rfl (Z8 2 (hI.2.1.trans rfl) rfl rfl) r4) (h:=aM 1 rfl (h:=aM 2 rfl (h:=aM 3 rfl (h:=aM 4 rfl (h:=aM 5 rfl (h:=Zq 6 kr rfl kr (Zck 1 rfl rfl rfl Zvc rfl (ZdG _ _ _ _ _ oz hm _ hbm) ?_)))))))
 rintro _ _ ⟨xt,rfl,hxt,rfl⟩
 refine ⟨⟨Kn.le.refl _,t1⟩,(Zbh 7 kr rfl kr kr (ZH [_,_,_,_,_] 0 [_,_,_,_,_] rfl rfl Zan rfl rfl rfl rfl rfl rfl rfl rfl ?_))⟩
 refine aA 8 rfl (h:=aA 9 rfl (h:=aA 10 rfl (h:=aA 11 rfl (h:=aA 12 rfl (h:=Zz kr kr ?_)))))
 refine Zj (tL3 (Zd ?_))
 exact Zav .ret (.inl rfl) [_,_,_,_,_,_] [] rfl ⟨⟨_,rfl,.inr ⟨[_,_,_,_,_],ZV,Z8 0 rfl rfl rfl,rfl⟩⟩,rfl,rfl,rfl,rfl,rfl,trivial⟩ ⟨rfl,xh,_,_,_,_,_,_,_,_,_,_,_,rfl,huh,hfh,hih,hdh,oa,oa,oa,oa⟩

theorem ZpB (q:Option Addr) (m cp:Nat) (hmc:m≤cp) (B:Kn) (hb:Zah B q m) (a:Nat→Addr) (hE:ErrsB 267 [0,1,2,3] B a) :∃code,Tryz.f4.body=some code∧wpS (pj (ZjQ Tryz.prog)) 73 code (Zfm (pj (ZjQ Tryz.prog)) [.tmp 2] (fun v B' Ls=>v = .bool true)) (Zde [.slice q m cp] 0) [] B []:=by
 have hJ:=Zf5 Tryz.prog
 refine ⟨_,rfl,(Za (xA (h:=Zf (Za (xM (h:=xV Tryz.underlying22 (h:=Zbv (h:=Zb rfl (fun g0=>?_) (fun g0=>?_)))))))))⟩
 refine Za (xA (h:=Zd (Zn ?_)))
 exact eR t1 rfl
 refine wSk (Za (xM (h:=xQ en8 rfl (Zhd _ _ _ oz _ (oy)) (h:=?_))))
 intro vd Bd hled
 rintro ⟨xd,p1d,p2d,p3d,d1d,d2d,d3d,ud,od,nd,fld,td,rfl,hud,hfd,hid,hdd,hwd,hyd,hzd,htd⟩
 replace hE:=hE.mono hled
 have hudn:=hud.len
 have hfdn:=hfd.len
 have hidn:=hid.len
 refine xM (h:=xE (h:=xE (h:=xE (h:=xE (h:=xE (h:=xE (h:=xAl [_,_,_,_,_] ZaY (h:=fun b2=>xS [_,_,_,_,_] 0 [_,_,_,_,_] Zan (h:=xA (h:=xA (h:=xA (h:=xA (h:=xA (h:=tL1 (Za (xL [_,_,_,_,_] ZV 0 (h:=xM (h:=xM (h:=xM (h:=xM (h:=xM (h:=xC en9 rfl (Zg4 hJ _ _ _ _ _ _ xd ud od nd fld td om2 om2 om2 om2 om2 a _ hE hud hfd hid) (h:=?_)))))))))))))))))))))))
 rintro _ B3 _ hle3 ⟨q13,c13,q23,c23,q33,c33,l13,l23,l33,rfl,rfl,hu3,hf3,hi3⟩
 replace hud:=hud.mono Zu.mono hle3
 replace hfd:=hfd.mono Ze.mono hle3
 replace hid:=hid.mono Zy.mono hle3
 refine xM (h:=xE (h:=xE (h:=xAl [_,_,_,_,_] ZaY (h:=fun b4=>xS [_,_,_,_,_] 4 [_,_,_,_,_] Zan (h:=xA (h:=tL5 (Za (xL [_,_,_,_,_] ZV 0 (h:=xM (h:=xM (h:=xM (h:=xM (h:=xM (h:=xQ Zxb rfl (Zgt _ _ _ _ _ _ xd ud od nd fld td om2 om2 om2 om2 om2 _ hud hfd hid) (h:=?_)))))))))))))))
 intro v5 B5 hle5
 rintro ⟨p15,d15,p25,d25,p35,d35,rfl,hu5,hf5,hi5,hd5⟩
 replace hud:=hud.mono Zu.mono hle5
 replace hfd:=hfd.mono Ze.mono hle5
 replace hid:=hid.mono Zy.mono hle5
 replace hu3:=hu3.mono Zu.mono hle5
 have hu5n:=hu5.len
 have hf5n:=hf5.len
 have hi5n:=hi5.len
 refine xM (h:=xE (h:=xE (h:=xAl [_,_,_,_,_] ZaY (h:=fun b6=>xS [_,_,_,_,_] 5 [_,_,_,_,_] Zan (h:=xA (h:=tL6 (Zf (Za (xM (h:=xM (h:=Zbo (h:=xM (h:=Zp (d:=48) rfl (fun g1=>by simp at g1) (fun g1=>?_))))))))))))))
 refine xL [_,_,_,_,_] ZV 4 (h:=xL [_,_,_,_,_] ZV 5 (h:=Zo (ZeY [1,2,3] rfl rfl rfl rfl rfl Ztk rfl (ZaE.borrowL fun hm7=>Zb0 _ _ _ _ _ _ _ _ _ _ _ _ ((Zcc xd ud od nd fld td).1) ((Zcc xd ud od nd fld td).1) _ (hu3.lendK Zu.any 0 rfl hm7 om) (hf3.lendK ZaJ.known Ze.mono 1 rfl hm7 om) (hi3.lendK Zdf.known Zy.mono 2 rfl hm7 om) (hu5.mono Zu.mono (Kn.le_add _ _)) (hf5.mono Ze.mono (Kn.le_add _ _)) (hi5.mono Zy.mono (Kn.le_add _ _))) ?_)))
 refine xN (h:=xF (h:=xM (h:=Zp (d:=54) rfl (fun g2=>by simp at g2) (fun g2=>?_))))
 refine xM (h:=ZF (h:=xF (h:=xM (h:=Zp (d:=58) rfl (fun g3=>?_) (fun g3=>?_)))))
 refine xP (h:=xP (h:=xT (h:=Zb (t:=true) rfl (fun _=>Za (xM (h:=xM (h:=ZF (h:=xM (h:=Zp (d:=65) rfl (fun g4=>?_) (fun g4=>by simp at g4))))))) (fun h=>Bool.noConfusion h))))
 refine xL [_,_,_,_,_] ZV 4 (h:=xL [_,_,_,_,_] ZV 5 (h:=Zo (ZeY [1,2,3] rfl rfl rfl rfl rfl Ztk rfl (ZaE.borrowL fun hm8=>Zb0 _ _ _ _ _ _ _ _ _ _ _ _ ((Zcc xd ud od nd fld td).1) ((Zcc xd ud od nd fld td).1) _ (hu3.lendK Zu.any 0 rfl hm8 om) (hf3.lendK ZaJ.known Ze.mono 1 rfl hm8 om) (hi3.lendK Zdf.known Zy.mono 2 rfl hm8 om) (hu5.mono Zu.mono (Kn.le_add _ _)) (hf5.mono Ze.mono (Kn.le_add _ _)) (hi5.mono Zy.mono (Kn.le_add _ _))) ?_)))
 refine xT (h:=xA (h:=Zd (Zn ?_)))
 exact eR t1 (Zg (by simp))
 refine xM (h:=ZF (h:=xF (h:=Zb rfl (fun g5=>?_) (fun g5=>?_))))
 refine Za (xM (h:=xM (h:=ZF (h:=xM (h:=Zp (d:=65) rfl (fun g6=>?_) (fun g6=>by simp at g6))))))
 refine xL [_,_,_,_,_] ZV 4 (h:=xL [_,_,_,_,_] ZV 5 (h:=Zo (ZeY [1,2,3] rfl rfl rfl rfl rfl Ztk rfl (ZaE.borrowL fun hm9=>Zb0 _ _ _ _ _ _ _ _ _ _ _ _ ((Zcc xd ud od nd fld td).1) ((Zcc xd ud od nd fld td).1) _ (hu3.lendK Zu.any 0 rfl hm9 om) (hf3.lendK ZaJ.known Ze.mono 1 rfl hm9 om) (hi3.lendK Zdf.known Zy.mono 2 rfl hm9 om) (hu5.mono Zu.mono (Kn.le_add _ _)) (hf5.mono Ze.mono (Kn.le_add _ _)) (hi5.mono Zy.mono (Kn.le_add _ _))) ?_)))
 refine xT (h:=xA (h:=Zd (Zn ?_)))
 exact eR t1 (Zg (by simp))
 refine wSk (Za (xL [_,_,_,_,_] ZV 4 (h:=xL [_,_,_,_,_] ZV 0 (h:=Zo (ZeY [1,2,3] rfl rfl rfl rfl rfl Ztk rfl (ZaE.borrowL fun hm10=>Zb0 _ _ _ _ _ _ _ _ _ _ _ _ ((Zcc xd ud od nd fld td).1) xd _ (hu3.lendK Zu.any 0 rfl hm10 om) (hf3.lendK ZaJ.known Ze.mono 1 rfl hm10 om) (hi3.lendK Zdf.known Zy.mono 2 rfl hm10 om) (hud.mono Zu.mono (Kn.le_add _ _)) (hfd.mono Ze.mono (Kn.le_add _ _)) (hid.mono Zy.mono (Kn.le_add _ _))) ?_)))))
 refine xA (h:=Zd ?_)
 exact eR t1 (Zg (by rw [Zmd (by simpa using g3) (by simpa using g5)];simp))

theorem ZpC (q:Option Addr) (m cp:Nat) (hmc:m≤cp) (B:Kn) (hb:Zah B q m) (a:Nat→Addr) (hE:ErrsB 267 [0,1,2,3] B a) :∃code,Tryz.f5.body=some code∧wpS (pj (ZjQ Tryz.prog)) 92 code (Zfm (pj (ZjQ Tryz.prog)) [.tmp 2] (fun v B' Ls=>v = .bool true)) (Zde [.slice q m cp] 0) [] B []:=by
 have hJ:=Zf5 Tryz.prog
 refine ⟨_,rfl,(Za (xA (h:=Zf (Za (xM (h:=xV Tryz.underlying22 (h:=Zbv (h:=Zb rfl (fun g0=>?_) (fun g0=>?_)))))))))⟩
 refine Za (xA (h:=Zd (Zn ?_)))
 exact eR t1 rfl
 refine wSk (Za (xM (h:=xQ en8 rfl (Zhd _ _ _ oz _ (oy)) (h:=?_))))
 intro vd Bd hled
 rintro ⟨xd,p1d,p2d,p3d,d1d,d2d,d3d,ud,od,nd,fld,td,rfl,hud,hfd,hid,hdd,hwd,hyd,hzd,htd⟩
 replace hE:=hE.mono hled
 have hudn:=hud.len
 have hfdn:=hfd.len
 have hidn:=hid.len
 refine xM (h:=xE (h:=xE (h:=xE (h:=xE (h:=xE (h:=xE (h:=xAl [_,_,_,_,_] ZaY (h:=fun b2=>xS [_,_,_,_,_] 0 [_,_,_,_,_] Zan (h:=xA (h:=xA (h:=xA (h:=xA (h:=xA (h:=tL1 (Za (xL [_,_,_,_,_] ZV 0 (h:=xM (h:=xM (h:=xM (h:=xM (h:=xM (h:=xC en9 rfl (Zg4 hJ _ _ _ _ _ _ xd ud od nd fld td om2 om2 om2 om2 om2 a _ hE hud hfd hid) (h:=?_)))))))))))))))))))))))
 rintro _ B3 _ hle3 ⟨q13,c13,q23,c23,q33,c33,l13,l23,l33,rfl,rfl,hu3,hf3,hi3⟩
 replace hud:=hud.mono Zu.mono hle3
 replace hfd:=hfd.mono Ze.mono hle3
 replace hid:=hid.mono Zy.mono hle3
 refine xM (h:=xE (h:=xE (h:=xAl [_,_,_,_,_] ZaY (h:=fun b4=>xS [_,_,_,_,_] 4 [_,_,_,_,_] Zan (h:=xA (h:=tL5 (Za (xL [_,_,_,_,_] ZV 0 (h:=xM (h:=xM (h:=xM (h:=xM (h:=xM (h:=xQ Zxb rfl (Zgt _ _ _ _ _ _ xd ud od nd fld td om2 om2 om2 om2 om2 _ hud hfd hid) (h:=?_)))))))))))))))
 intro v5 B5 hle5
 rintro ⟨p15,d15,p25,d25,p35,d35,rfl,hu5,hf5,hi5,hd5⟩
 replace hud:=hud.mono Zu.mono hle5
 replace hfd:=hfd.mono Ze.mono hle5
 replace hid:=hid.mono Zy.mono hle5
 replace hu3:=hu3.mono Zu.mono hle5
 have hu5n:=hu5.len
 have hf5n:=hf5.len
 have hi5n:=hi5.len
 refine xM (h:=xE (h:=xE (h:=xAl [_,_,_,_,_] ZaY (h:=fun b6=>xS [_,_,_,_,_] 5 [_,_,_,_,_] Zan (h:=xA (h:=tL6 (Zf (Za (xM (h:=xM (h:=Zbo (h:=xM (h:=Zp (d:=50) rfl (fun g1=>by simp at g1) (fun g1=>?_))))))))))))))
 refine xL [_,_,_,_,_] ZV 4 (h:=xL [_,_,_,_,_] ZV 5 (h:=Zo (ZeY [1,2,3] rfl rfl rfl rfl rfl Ztk rfl (ZaE.borrowL fun hm7=>Zb0 _ _ _ _ _ _ _ _ _ _ _ _ ((Zcc xd ud od nd fld td).1) ((Zcc xd ud od nd fld td).1) _ (hu3.lendK Zu.any 0 rfl hm7 om) (hf3.lendK ZaJ.known Ze.mono 1 rfl hm7 om) (hi3.lendK Zdf.known Zy.mono 2 rfl hm7 om) (hu5.mono Zu.mono (Kn.le_add _ _)) (hf5.mono Ze.mono (Kn.le_add _ _)) (hi5.mono Zy.mono (Kn.le_add _ _))) ?_)))
 refine xN (h:=xF (h:=xM (h:=Zp (d:=56) rfl (fun g2=>by simp at g2) (fun g2=>?_))))
 refine xM (h:=Zbo (h:=xF (h:=Zb rfl (fun g3=>?_) (fun g3=>?_))))
 refine Za (xM (h:=xM (h:=ZF (h:=xM (h:=Zp (d:=63) rfl (fun g4=>?_) (fun g4=>by simp at g4))))))
 refine xL [_,_,_,_,_] ZV 4 (h:=xL [_,_,_,_,_] ZV 5 (h:=Zo (ZeY [1,2,3] rfl rfl rfl rfl rfl Ztk rfl (ZaE.borrowL fun hm8=>Zb0 _ _ _ _ _ _ _ _ _ _ _ _ ((Zcc xd ud od nd fld td).1) ((Zcc xd ud od nd fld td).1) _ (hu3.lendK Zu.any 0 rfl hm8 om) (hf3.lendK ZaJ.known Ze.mono 1 rfl hm8 om) (hi3.lendK Zdf.known Zy.mono 2 rfl hm8 om) (hu5.mono Zu.mono (Kn.le_add _ _)) (hf5.mono Ze.mono (Kn.le_add _ _)) (hi5.mono Zy.mono (Kn.le_add _ _))) ?_)))
 refine xT (h:=xA (h:=Zd (Zn ?_)))
 exact eR t1 (Zg (by simp))
 obtain ⟨hok,hf1,hf2,hsame⟩:=Zpm (x:=xd) (u:=ud) (o:=od) (n:=nd) (fl:=fld) (t:=td) (by simpa using g3)
 have huq:=Zd2 (u:=od) hok (by have:=hf1;rw [ZeH hok] at this;simpa using this)
 have hub:=Zf8 hok od
 refine wSk (Za (xW Zby (h:=x1 ZhP 0 (h:=xM (h:=xR Zyl rfl (ZfU _ _ _ od om2 _ hud) (h:=?_))))))
 refine xM (h:=xE (h:=xE (h:=xAl [_,_,_] Zgl (h:=fun b10=>xS [_,_,_] 6 [_,_,_] ZeC (h:=xA (h:=tL7 (Zf (ZZ (keeps _ [0,4,6] _) mo kr ⟨Kn.le.refl _,Zag.refl _ _⟩ (fun _ _=>?_)))))))))
 refine aM 0 rfl (h:=aM 1 rfl (h:=Zaw (d:=76) rfl (fun g5=>?_) (fun g5=>by rw [hf1] at g5;cases g5)))
 refine aT 2 rfl (ZC fun D B L hI=>ZS [_,_,_,_,_] rfl rfl ZV rfl (Z8 0 (hI.2.1.trans rfl) rfl rfl) r4) (h:=aM 3 rfl (h:=aM 5 rfl (h:=aT 6 rfl (ZC fun D B L hI=>Zlu rfl rfl Tryz.underlying9 rfl r4) (h:=aW 8 rfl ZhH (h:=aT 9 rfl (ZC fun D B L hI=>Zh rfl rfl lk3 rfl (atL 6 (hI.2.2.2.1.trans rfl) rfl rfl) r4) (h:=Zq 4 kr rfl kr (Zd7 rfl rfl Zxa rfl (Zfz hJ _ _ _ _ _ _ xd od om2 om2 _ hud hfd hid) ?_)))))))
 intro v11 B11 hle11
 rintro rfl
 replace hud:=hud.mono Zu.mono hle11
 replace hfd:=hfd.mono Ze.mono hle11
 replace hid:=hid.mono Zy.mono hle11
 replace hu3:=hu3.mono Zu.mono hle11
 refine ⟨⟨hle11,t3⟩,(aD 7 rfl (h:=ZmN 10 rfl (h:=aPT 11 rfl (h:=aM 12 rfl (h:=Zaw (d:=87) rfl (fun g6=>?_) (fun g6=>by rw [huq] at g6;simp at g6;omega))))))⟩
 refine aT 13 rfl (ZC fun D B L hI=>ZS [_,_,_,_,_] rfl rfl ZV rfl (Z8 4 (hI.2.2.1.trans rfl) rfl rfl) r4) (h:=aT 14 rfl (ZC fun D B L hI=>ZS [_,_,_,_,_] rfl rfl ZV rfl (Z8 0 (hI.2.1.trans rfl) rfl rfl) r4) (h:=Zq 15 kr rfl kr (ZeY [1,2,3] rfl rfl rfl rfl rfl Ztk rfl (ZaE.borrowL fun hm12=>Zb0 _ _ _ _ _ _ _ _ _ _ _ _ ((Zcc xd ud od nd fld td).1) xd _ (hu3.lendK Zu.any 0 rfl hm12 om) (hf3.lendK ZaJ.known Ze.mono 1 rfl hm12 om) (hi3.lendK Zdf.known Zy.mono 2 rfl hm12 om) (hud.mono Zu.mono (Kn.le_add _ _)) (hfd.mono Ze.mono (Kn.le_add _ _)) (hid.mono Zy.mono (Kn.le_add _ _))) ?_)))
 refine ⟨⟨hle11,t3⟩,(aPT 16 rfl (h:=aA 17 rfl (h:=Zz kr kr ?_)))⟩
 refine Zj (Zd ?_)
 exact eR t1 (Zg (by rw [hsame];simp))

theorem ZpA (q:Option Addr) (m cp:Nat) (hmc:m≤cp) (B:Kn) (hb:Zah B q m) (a:Nat→Addr) (hE:ErrsB 267 [0,1,2,3] B a) :∃code,Tryz.f6.body=some code∧wpS (pj (ZjQ Tryz.prog)) 99 code (Zfm (pj (ZjQ Tryz.prog)) [.tmp 2] (fun v B' Ls=>v = .bool true)) (Zde [.slice q m cp] 0) [] B []:=by
 have hJ:=Zf5 Tryz.prog
 refine ⟨_,rfl,(Za (xA (h:=Zf (Za (xM (h:=xV Tryz.underlying22 (h:=Zbv (h:=Zb rfl (fun g0=>?_) (fun g0=>?_)))))))))⟩
 try simp only [sQ,ne_eq] at g0
 refine Za (xA (h:=Zd (Zn ?_)))
 exact eR t1 rfl
 try simp only [sQ,ne_eq] at g0
 refine wSk (Za (xM (h:=xQ en8 rfl (Zhd _ _ _ oz _ (oy)) (h:=?_))))
 intro vd Bd hled
 rintro ⟨xd,p1d,p2d,p3d,d1d,d2d,d3d,ud,od,nd,fld,td,rfl,hud,hfd,hid,hdd,hwd,hyd,hzd,htd⟩
 replace hE:=hE.mono hled
 have hudn:=hud.len
 have hfdn:=hfd.len
 have hidn:=hid.len
 refine xM (h:=xE (h:=xE (h:=xE (h:=xE (h:=xE (h:=xE (h:=xAl [_,_,_,_,_] ZaY (h:=fun b2=>xS [_,_,_,_,_] 0 [_,_,_,_,_] Zan (h:=xA (h:=xA (h:=xA (h:=xA (h:=xA (h:=tL1 (Za (xL [_,_,_,_,_] ZV 0 (h:=xM (h:=xM (h:=xM (h:=xM (h:=xM (h:=xC en9 rfl (Zg4 hJ _ _ _ _ _ _ xd ud od nd fld td om2 om2 om2 om2 om2 a _ hE hud hfd hid) (h:=?_)))))))))))))))))))))))
 rintro _ B3 _ hle3 ⟨q13,c13,q23,c23,q33,c33,l13,l23,l33,rfl,rfl,hu3,hf3,hi3⟩
 obtain ⟨hud,hfd,hid⟩:=up3 hle3 hud hfd hid
 refine xM (h:=xE (h:=xE (h:=xAl [_,_,_,_,_] ZaY (h:=fun b4=>xS [_,_,_,_,_] 4 [_,_,_,_,_] Zan (h:=xA (h:=tL5 (Za (xL [_,_,_,_,_] ZV 0 (h:=xM (h:=xM (h:=xM (h:=xM (h:=xM (h:=xQ Zxb rfl (Zgt _ _ _ _ _ _ xd ud od nd fld td om2 om2 om2 om2 om2 _ hud hfd hid) (h:=?_)))))))))))))))
 intro v5 B5 hle5
 rintro ⟨p15,d15,p25,d25,p35,d35,rfl,hu5,hf5,hi5,hd5⟩
 replace hud:=hud.mono Zu.mono hle5
 replace hfd:=hfd.mono Ze.mono hle5
 replace hid:=hid.mono Zy.mono hle5
 replace hu3:=hu3.mono Zu.mono hle5
 have hu5n:=hu5.len
 have hf5n:=hf5.len
 have hi5n:=hi5.len
 refine xM (h:=xE (h:=xE (h:=xAl [_,_,_,_,_] ZaY (h:=fun b6=>xS [_,_,_,_,_] 5 [_,_,_,_,_] Zan (h:=xA (h:=tL6 (Zf (Za (xM (h:=xM (h:=Zbo (h:=xM (h:=Zp (d:=51) rfl (fun g1=>by simp at g1) (fun g1=>?_))))))))))))))
 try simp only [sQ,ne_eq] at g1
 refine Zo (ZS [_,_,_,_,_] rfl rfl ZV rfl (Z8 4 rfl rfl rfl) ?_)
 refine Zo (ZS [_,_,_,_,_] rfl rfl ZV rfl (Z8 5 rfl rfl rfl) ?_)
 refine Zo (ZeY [1,2,3] rfl rfl rfl rfl rfl Ztk rfl (ZaE.borrowL fun hm7=>Zb0 _ _ _ _ _ _ _ _ _ _ _ _ ((Zcc xd ud od nd fld td).1) ((Zcc xd ud od nd fld td).1) _ (hu3.lendK Zu.any 0 rfl hm7 (by first | omega | (simp;done) | (simp;omega))) (hf3.lendK ZaJ.known Ze.mono 1 rfl hm7 (by first | omega | (simp;done) | (simp;omega))) (hi3.lendK Zdf.known Zy.mono 2 rfl hm7 (by first | omega | (simp;done) | (simp;omega))) (hu5.mono Zu.mono (Kn.le_add _ _)) (hf5.mono Ze.mono (Kn.le_add _ _)) (hi5.mono Zy.mono (Kn.le_add _ _))) ?_)
 refine xN (h:=xF (h:=xM (h:=Zp (d:=57) rfl (fun g2=>by simp at g2) (fun g2=>?_))))
 try simp only [sQ,ne_eq] at g2
 refine xM (h:=Zbo (h:=xF (h:=Zb rfl (fun g3=>?_) (fun g3=>?_))))
 try simp only [sQ,ne_eq] at g3
 refine Za (xM (h:=xM (h:=ZF (h:=xM (h:=Zp (d:=64) rfl (fun g4=>?_) (fun g4=>by simp at g4))))))
 try simp only [sQ,ne_eq] at g4
 refine Zo (ZS [_,_,_,_,_] rfl rfl ZV rfl (Z8 4 rfl rfl rfl) ?_)
 refine Zo (ZS [_,_,_,_,_] rfl rfl ZV rfl (Z8 5 rfl rfl rfl) ?_)
 refine Zo (ZeY [1,2,3] rfl rfl rfl rfl rfl Ztk rfl (ZaE.borrowL fun hm8=>Zb0 _ _ _ _ _ _ _ _ _ _ _ _ ((Zcc xd ud od nd fld td).1) ((Zcc xd ud od nd fld td).1) _ (hu3.lendK Zu.any 0 rfl hm8 (by first | omega | (simp;done) | (simp;omega))) (hf3.lendK ZaJ.known Ze.mono 1 rfl hm8 (by first | omega | (simp;done) | (simp;omega))) (hi3.lendK Zdf.known Zy.mono 2 rfl hm8 (by first | omega | (simp;done) | (simp;omega))) (hu5.mono Zu.mono (Kn.le_add _ _)) (hf5.mono Ze.mono (Kn.le_add _ _)) (hi5.mono Zy.mono (Kn.le_add _ _))) ?_)
 refine xT (h:=xA (h:=Zd (Zn ?_)))
 exact eR t1 (Zg (by simp))
 try simp only [sQ,ne_eq] at g3
 obtain ⟨hok,hoy,htl,hall⟩:=Zq5 (x:=xd) (u:=ud) (o:=od) (n:=nd) (fl:=fld) (t:=td) (by simpa using g3)
 have hsd:=ZsZ (u:=ud) (o:=od) (n:=nd) (fl:=fld) (t:=td) hdd
 refine Zdz 1 rfl hu3 Zu.mono (by first | omega | decide | (simp;done) | (simp;omega)) (fun B9 hle9 hr9=>?_)
 obtain ⟨hud,hfd,hid⟩:=up3 hle9 hud hfd hid
 have hr9n:=hr9.len
 refine ZtI 2 rfl hf3 ZaJ.known Ze.mono om (fun B10 hle10 hr10=>?_)
 obtain ⟨hud,hfd,hid,hr9⟩:=up4 hle10 hud hfd hid hr9
 have hr10n:=hr10.len
 refine ZtI 3 rfl hi3 Zdf.known Zy.mono om (fun B11 hle11 hr11=>?_)
 obtain ⟨hud,hfd,hid,hr9,hr10⟩:=up5 hle11 hud hfd hid hr9 hr10
 have hr11n:=hr11.len
 refine wSk (Zf (Za (xA (h:=tL6 (Zl (ZM (α:=Nat) [0,3,4,5,6,7,8,9,10,11,12,18,60] (fun k=>[(13,.int .i64 k)]) [] (fun k=>[]) (fun k Bx=>k≤xd.users.length) (fun k=>xd.users.length - k) 0 t1 rfl (Nat.zero_le _) (fun k B12 hle12 hI=>?_)))))))
 have hk:=hI
 obtain ⟨hud,hfd,hid,hr9,hr10,hr11⟩:=up6 hle12 hud hfd hid hr9 hr10 hr11
 refine ZL [(0,_),(3,_),(4,_),(5,_),(6,_),(7,_),(8,_),(9,_),(10,_),(11,_),(12,_),(13,_),(18,_),(60,_)] [_,_,_,_,_,_] t14 rfl (Zf (Za (xM (h:=xW Zby (h:=x1 ZhP 0 (h:=xV Tryz.underlying23 (h:=Z9 (h:=Zb rfl (fun g5=>?_) (fun g5=>?_)))))))))
 try simp only [sQ,ne_eq] at g5
 refine wSk (Zf (Zl (Za (xW Zby (h:=x1 ZhP 0 (h:=xM (h:=?_)))))))
 obtain ⟨w,hw⟩:=Zaf (xs:=xd.users) (i:=k) om
 obtain ⟨bb14,oo14,rfl⟩:=hud.base hw
 obtain ⟨_,⟨rfl,hb15,hb15b⟩,hc15⟩:=hud.elem hw
 refine xIx Tryz.underlying23 ZeC (h:=?_)
 obtain ⟨hw1,hw2⟩:=hall w (List.mem_of_getElem? hw)
 have hub:=Zf8 hok w.name
 refine xW Zdc (h:=y1 lk9 hc15 0 (h:=xA (h:=Za (xL [_,_,_,_,_] ZV 0 (h:=xM (h:=xQ Zxa rfl (Zfz hJ _ _ _ _ _ _ xd w.name om2 om2 _ hud hfd hid) (h:=?_)))))))
 intro v16 B16 hle16
 rintro rfl
 obtain ⟨hr9,hr10,hr11⟩:=up3 hle16 hr9 hr10 hr11
 refine xA (h:=Zf (Za (xM (h:=xM (h:=Zc3 (h:=Zb rfl (fun g6=>?_) (fun g6=>?_)))))))
 try simp only [sQ,ne_eq] at g6
 refine Zc (xM (h:=xM (h:=xVs Tryz.underlying9 (h:=xD (h:=xA (h:=Zj (Za (xL [_,_,_,_,_] ZV 4 (h:=xM (h:=xQ Zxa rfl (Zfz hJ _ _ _ _ _ _ (Zcc xd ud od nd fld td).1 w.name om2 om2 _ hr9 hr10 hr11) (h:=?_)))))))))))
 intro v17 B17 hle17
 rintro rfl
 obtain ⟨hr9,hr10,hr11⟩:=up3 hle17 hr9 hr10 hr11
 refine xM (h:=Zbo (h:=Zb rfl (fun g7=>by rw [hw1,hw2,if_pos g6] at g7;simp at g7) (fun g7=>?_)))
 try simp only [sQ,ne_eq] at g7
 refine ZJ (Zx (Zj (Zc (xM (h:=xD (h:=xA (h:=?_)))))))
 exact ZB (k+1) [0,1,2,3,4,5] so2 oz t14 rfl
 try simp only [sQ,ne_eq] at g6
 refine wSk (Za (xL [_,_,_,_,_] ZV 4 (h:=xM (h:=xQ Zxa rfl (Zfz hJ _ _ _ _ _ _ (Zcc xd ud od nd fld td).1 w.name om2 om2 _ hr9 hr10 hr11) (h:=?_)))))
 intro v18 B18 hle18
 rintro rfl
 obtain ⟨hr9,hr10,hr11⟩:=up3 hle18 hr9 hr10 hr11
 refine xM (h:=Zbo (h:=Zb rfl (fun g7=>by rw [hw1,hw2,if_neg g6] at g7;simp at g7) (fun g7=>?_)))
 try simp only [sQ,ne_eq] at g7
 refine ZJ (Zx (Zj (Zc (xM (h:=xD (h:=xA (h:=?_)))))))
 exact ZB (k+1) [0,1,2,3,4,5] so2 oz t14 rfl
 try simp only [sQ,ne_eq] at g5
 refine ZT (Zaa (ZW (ZG (Zj (Za (xL [_,_,_,_,_] ZV 4 (h:=xQ Zx8 rfl (Zf7 hJ _ _ _ _ _ _ (Zcc xd ud od nd fld td).1 om2 _ hr9 hr10 hr11) (h:=?_))))))))
 intro v19 B19 hle19
 rintro rfl
 refine xA (h:=Zd ?_)
 exact eR t1 (Zg (hoy))

end Go.Proofs.YtandoilaebgglaaGreatDoor
