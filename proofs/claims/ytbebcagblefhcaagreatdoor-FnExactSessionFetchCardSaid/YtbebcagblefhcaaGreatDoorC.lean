/-
  WHAT THE FUNCTIONS THAT THE LAWS REACH COMPUTE: each function's contract, proved off its printed body (the text is written by program). No condition beyond those that each theorem states.
-/
import Derived.Test.YtbebcagblefhcaaGreatDoorC2
namespace Go.Proofs.YtbebcagblefhcaaGreatDoor
open Go Go.BL
set_option linter.unusedVariables false
set_option linter.unusedSimpArgs false
set_option maxRecDepth 4000
set_option maxHeartbeats 6400000
variable {J : JoinT}
theorem ZiV (q1 q2 q3:Option Addr) (c1 c2 c3:Nat) (x:DHost) (hd:x.domain.length≤140737488355328) (u y z:Str) (hw1:u.length≤140737488355328) (hw2:y.length≤140737488355328) (hw3:z.length≤140737488355328) (qs:Option Addr) (cs:Nat) (set:List DSpan) (B:Kn) (a:Nat→Addr) (hE:ErrsB 372 [0,1,2,3] B a) (hu:SlB B q1 c1 3 Zkw x.users) (hf:SlB B q2 c2 5 Zeo x.folders) (hi:SlB B q3 c3 4 Zhu x.queue.items) (hs:SlB B qs cs 2 Zak set) :∃code,Tryz.f3.body=some code∧wpS (pj (Znx Tryz.prog)) 132 code (ZfD (pj (Znx Tryz.prog)) [.tmp 6] (fun v B' Ls=>v = .bool true)) (ZcP [.agg #[str x.domain,.slice q1 x.users.length c1,.slice q2 x.folders.length c2,.int .i64 x.queue.next,.slice q3 x.queue.items.length c3],.agg #[str u,str y,str z],.slice qs set.length cs] 0) [] B []:=by
 have hJ:=Zli Tryz.prog
 refine ⟨_,rfl,(Za (xBx [_,_,_,_,_] (h:=fun b1=>xBx [_,_,_] (h:=fun b2=>xA (h:=tL2 (Za (xA (h:=Za (xL [_,_,_,_,_] Zvb 0 (h:=xM (h:=xR en7 rfl (ZqV _ _ _ _ _ _ x om 1048576 om om _ hu hf hi) (h:=?_))))))))))))⟩
 refine xA (h:=Zd (Za (xM (h:=ZB (h:=Zb rfl (fun g1=>?_) (fun g1=>?_))))))
 try simp only [sQ,ne_eq] at g1
 refine Za (xA (h:=Ze (Zl ?_)))
 exact eR t1 rfl
 try simp only [sQ,ne_eq] at g1
 have hsg:=ZbH (left:=1048576) oz g1
 refine wSk (Za (xL [_,_,_] Zv4 1 (h:=xM (h:=xR en8 rfl (ZkK u y z om2 om2 om2 (szI 1048576 (Zcm x)) om2 om2 _) (h:=?_)))))
 refine xA (h:=Zd (Za (xM (h:=ZB (h:=Zb rfl (fun g2=>?_) (fun g2=>?_))))))
 try simp only [sQ,ne_eq] at g2
 refine Za (xA (h:=Ze (Zl ?_)))
 exact eR t1 rfl
 try simp only [sQ,ne_eq] at g2
 have hsg2:=ZbH oz g2
 refine wSk (Za (xM (h:=xM (h:=xR en9 rfl (Zoc _ _ set (szI (szI 1048576 (Zcm x)) (u.length+y.length+z.length)) om2 om2 _ hs) (h:=?_)))))
 refine xA (h:=Zd (Za (xM (h:=ZB (h:=Zb rfl (fun g3=>?_) (fun g3=>?_))))))
 try simp only [sQ,ne_eq] at g3
 refine Za (xA (h:=Ze (Zl ?_)))
 exact eR t1 rfl
 try simp only [sQ,ne_eq] at g3
 have hsg3:=ZbH oz g3
 have hsz:Zcm x≤1048576:=by have:=hsg.2;omega
 have hsu:=hsg2.2
 have hsp:=hsg3.2
 have hset:set.length≤1048576:=by omega
 have hsz2:=Zpa hsz
 have hkh:=ZwM hsz
 replace hu:=ZkF hu hsz2.2.1
 replace hf:=ZiK hf hsz2.2.2.1
 replace hi:=Zlj hi hsz2.2.2.2
 have hs9:SlK _ qs cs 2 Zak set:=hs.small oz (fun _ _ _ hr=>hr)
 replace hs:=hs9
 have hun:=hu.len
 have hfn:=hf.len
 have hin:=hi.len
 have hsn:=hs.len
 refine wSk (Zd (ZY (keeps _ [0,1] _) mo kr ⟨Kn.le.refl _,Za3.refl _ _⟩ (fun _ _=>?_)))
 refine aT 0 rfl (ZW fun D B L hI=>ZR [_,_,_,_,_] rfl rfl Zvb rfl (Zct 0 (hI.2.1.trans rfl) rfl rfl) r4) (h:=aT 2 rfl (ZW fun D B L hI=>ZR [_,_,_] rfl rfl Zv4 rfl (Zct 1 (hI.2.2.1.trans rfl) rfl rfl) r4) (h:=aM 4 rfl (h:=ZV 1 kr rfl kr (Zck rfl rfl Zv8 rfl (Zgv _ _ _ _ _ _ x _ hu hf hi om2) ?_))))
 rintro _ B6 _ hle6 ⟨q6,c6,l6,q6b,c6b,l6b,q6c,c6c,l6c,rfl,rfl,rfl,hv6,hv6b,hv6c⟩
 refine ⟨⟨Kn.le.refl _,t2⟩,(Zku 2 rfl hv6 ZJ.any om (fun B' hle'=>⟨hle',t2⟩) (fun B7 hle7 hr7=>?_))⟩
 obtain ⟨hu,hf,hi,hs⟩:=up4 hle7 hu hf hi hs
 replace hE:=hE.mono hle7
 have hr7n:=hr7.len
 refine Zif 3 rfl hv6b Z4.known ZG.mono om (fun B' hle'=>⟨hle7.trans hle',t2⟩) (fun B8 hle8 hr8=>?_)
 obtain ⟨hu,hf,hi,hs,hr7⟩:=up5 hle8 hu hf hi hs hr7
 replace hE:=hE.mono hle8
 have hr8n:=hr8.len
 refine Zif 4 rfl hv6c Za8.known ZaA.mono om (fun B' hle'=>⟨(hle7.trans hle8).trans hle',t2⟩) (fun B9 hle9 hr9=>?_)
 obtain ⟨hu,hf,hi,hs,hr7,hr8⟩:=up6 hle9 hu hf hi hs hr7 hr8
 replace hE:=hE.mono hle9
 have hr9n:=hr9.len
 refine ZV 3 kr rfl kr (Zaa rfl rfl Zyk rfl (ZeW u y z _) ?_)
 refine ⟨⟨((hle7.trans hle8).trans hle9),t2⟩,(ZV 5 kr rfl kr (Zck rfl rfl Zv7 rfl (Zfi _ _ set om2 _ hs) ?_))⟩
 rintro _ B11 _ hle11 ⟨q11,c11,l11,rfl,rfl,rfl,hv11⟩
 refine ⟨⟨((hle7.trans hle8).trans hle9),t2⟩,(Zku 5 rfl hv11 Zak.any om (fun B' hle'=>⟨((hle7.trans hle8).trans hle9).trans hle',t2⟩) (fun B12 hle12 hr12=>?_))⟩
 obtain ⟨hu,hf,hi,hs,hr7,hr8⟩:=up6 hle12 hu hf hi hs hr7 hr8
 replace hr9:=up1 hle12 hr9
 replace hE:=hE.mono hle12
 have hr12n:=hr12.len
 refine ZV 6 kr rfl kr (ZnV rfl rfl Zz4 rfl (ZkU _ _ _ _ _ _ x (⟨u,y,z⟩:DSess) om2 om2 om2 _ _ set om2 _ hr7 hr8 hr9 hr12) ?_)
 intro v13 B13 hle13
 rintro ⟨qz13,cz13,rfl,hz13⟩
 obtain ⟨hu,hf,hi,hs⟩:=up4 hle13 hu hf hi hs
 replace hE:=hE.mono hle13
 have hz13n:=hz13.len
 refine ⟨⟨((((hle7.trans hle8).trans hle9).trans hle12).trans hle13),t2⟩,(aM 7 rfl (h:=aE 8 rfl (h:=aE 9 rfl (h:=aA 10 rfl (h:=aA 11 rfl (h:=Zw kr kr ?_))))))⟩
 refine Zm (tL6 (Za (xL [_,_,_,_,_] Zvb 0 (h:=xC Zv8 rfl (Zgv _ _ _ _ _ _ x _ hu hf hi om2) (h:=?_)))))
 rintro _ B14 _ hle14 ⟨q14,c14,l14,q14b,c14b,l14b,q14c,c14c,l14c,rfl,rfl,rfl,hv14,hv14b,hv14c⟩
 refine xAl [_,_,_,_,_] ZnE (h:=fun b15=>xS [_,_,_,_,_] 9 [_,_,_,_,_] Zoh (h:=Zqm (Za (xM (h:=xC Zv7 rfl (Zfi _ _ set om2 _ hs) (h:=?_))))))
 rintro _ B16 _ hle16 ⟨q16,c16,l16,rfl,rfl,rfl,hv16⟩
 refine xA (h:=Zy1 (Zd (ZY (keeps _ [1,9] _) mo kr ⟨Kn.le.refl _,Za3.refl _ _⟩ (fun _ _=>?_))))
 refine aT 0 rfl (ZW fun D B L hI=>ZR [_,_,_,_,_] rfl rfl ZfE rfl (Zct 9 (hI.2.2.1.trans rfl) rfl rfl) r4) (h:=aT 1 rfl (ZW fun D B L hI=>ZR [_,_,_] rfl rfl Zv4 rfl (Zct 1 (hI.2.1.trans rfl) rfl rfl) r4) (h:=aT 2 rfl (ZW fun D B L hI=>Zaa rfl rfl Zyk rfl (ZeW u y z _) r4) (h:=aM 3 rfl (h:=ZV 4 kr rfl kr (ZbG [6,7,8,10] rfl rfl rfl rfl ZyT rfl (Zx.borrowK 4 fun hm18=>Zg4 hJ _ _ _ _ _ _ x u y z om2 om2 om2 _ _ set om2 a _ (hE.mono (Kn.le_add _ _)) (hv14.lendK ZJ.any 0 rfl hm18 om) (hv14b.lendK Z4.known ZG.mono 1 rfl hm18 om) (hv14c.lendK Za8.known ZaA.mono 2 rfl hm18 om) (hv16.lendK Zak.any 3 rfl hm18 om)) ?_)))))
 rintro _ B18 _ hle18 ⟨BB18,_,rfl,hB18,_,hm18,_,qe18,ce18,le18,rfl,rfl,hy18⟩
 replace hu:=hu.mono ZJ.mono hle18
 replace hf:=hf.mono ZG.mono hle18
 replace hi:=hi.mono ZaA.mono hle18
 replace hs:=hs.mono Zak.mono hle18
 replace hz13:=hz13.mono ZX.mono hle18
 replace hv14:=hv14.mono ZJ.mono hle18
 replace hv16:=hv16.mono Zak.mono hle18
 replace hE:=hE.mono hle18
 refine ⟨⟨hle18,t2⟩,(aM 5 rfl (h:=aE 6 rfl (h:=aE 7 rfl (h:=aA 8 rfl (h:=aA 9 rfl (h:=Zw kr kr ?_))))))⟩
 refine Zm (Zy0 (Zd (Za (xM (h:=xM (h:=Zk (Zd6 11 rfl rfl rfl ZxV rfl (Z0.borrow fun hm19=>Zhi _ _ _ _ _ _ _ ((hy18.anyK ZX.any).lend ZX.mono hm19 om) (hz13.mono ZX.mono (Kn.le_add _ _))) ?_)))))))
 refine xN (h:=xM (h:=Zt (d:=60) rfl (fun g4=>by simp at g4) (fun g4=>?_)))
 try simp only [sQ,ne_eq] at g4
 refine xM (h:=xM (h:=Zar (h:=xF (h:=Zb rfl (fun g5=>by simp at g5) (fun g5=>?_)))))
 try simp only [sQ,ne_eq] at g5
 refine wSk (Zd (Zd (ZY (keeps _ [0,9] _) mo kr ⟨Kn.le.refl _,Za3.refl _ _⟩ (fun _ _=>?_))))
 refine aT 0 rfl (ZW fun D B L hI=>ZR [_,_,_,_,_] rfl rfl ZfE rfl (Zct 9 (hI.2.2.1.trans rfl) rfl rfl) r4) (h:=aT 1 rfl (ZW fun D B L hI=>ZR [_,_,_,_,_] rfl rfl Zvb rfl (Zct 0 (hI.2.1.trans rfl) rfl rfl) r4) (h:=ZV 2 kr rfl kr (Zck rfl rfl Zv8 rfl (Zgv _ _ _ _ _ _ x _ hu hf hi om2) ?_)))
 rintro _ B20 _ hle20 ⟨q20,c20,l20,q20b,c20b,l20b,q20c,c20c,l20c,rfl,rfl,rfl,hv20,hv20b,hv20c⟩
 refine ⟨⟨Kn.le.refl _,t2⟩,(Zku 12 rfl hv20 ZJ.any om (fun B' hle'=>⟨hle',t2⟩) (fun B21 hle21 hr21=>?_))⟩
 replace hu:=hu.mono ZJ.mono hle21
 replace hf:=hf.mono ZG.mono hle21
 replace hi:=hi.mono ZaA.mono hle21
 replace hs:=hs.mono Zak.mono hle21
 replace hz13:=hz13.mono ZX.mono hle21
 replace hv14:=hv14.mono ZJ.mono hle21
 replace hv16:=hv16.mono Zak.mono hle21
 replace hy18:=hy18.mono ZX.mono hle21
 replace hE:=hE.mono hle21
 have hr21n:=hr21.len
 refine Zif 13 rfl hv20b Z4.known ZG.mono om (fun B' hle'=>⟨hle21.trans hle',t2⟩) (fun B22 hle22 hr22=>?_)
 replace hu:=hu.mono ZJ.mono hle22
 replace hf:=hf.mono ZG.mono hle22
 replace hi:=hi.mono ZaA.mono hle22
 replace hs:=hs.mono Zak.mono hle22
 replace hz13:=hz13.mono ZX.mono hle22
 replace hr21:=hr21.mono ZJ.mono hle22
 replace hv14:=hv14.mono ZJ.mono hle22
 replace hv16:=hv16.mono Zak.mono hle22
 replace hy18:=hy18.mono ZX.mono hle22
 replace hE:=hE.mono hle22
 have hr22n:=hr22.len
 refine Zif 14 rfl hv20c Za8.known ZaA.mono om (fun B' hle'=>⟨(hle21.trans hle22).trans hle',t2⟩) (fun B23 hle23 hr23=>?_)
 replace hu:=hu.mono ZJ.mono hle23
 replace hf:=hf.mono ZG.mono hle23
 replace hi:=hi.mono ZaA.mono hle23
 replace hs:=hs.mono Zak.mono hle23
 replace hz13:=hz13.mono ZX.mono hle23
 replace hr21:=hr21.mono ZJ.mono hle23
 replace hr22:=up1 hle23 hr22
 replace hv14:=hv14.mono ZJ.mono hle23
 replace hv16:=hv16.mono Zak.mono hle23
 replace hy18:=hy18.mono ZX.mono hle23
 replace hE:=hE.mono hle23
 have hr23n:=hr23.len
 refine ZV 3 kr rfl kr (ZnL [6,7,8] rfl rfl rfl rfl rfl Zz3 rfl (Z0.borrowL fun hm24=>ZrR _ _ _ _ _ _ _ _ _ _ _ _ x x _ (hv14.lendK ZJ.any 0 rfl hm24 om) (hv14b.lendK Z4.known ZG.mono 1 rfl hm24 om) (hv14c.lendK Za8.known ZaA.mono 2 rfl hm24 om) (hr21.mono ZJ.mono (Kn.le_add _ _)) (hr22.mono ZG.mono (Kn.le_add _ _)) (hr23.mono ZaA.mono (Kn.le_add _ _))) ?_)
 refine ⟨⟨((hle21.trans hle22).trans hle23),t2⟩,(aN 4 rfl (h:=Zw kr kr ?_))⟩
 refine Zm (ZyZ (Zb rfl (fun g6=>by simp at g6) (fun g6=>?_)))
 try simp only [sQ,ne_eq] at g6
 refine wSk (Zd (Za (xM (h:=xM (h:=xC Zv7 rfl (Zfi _ _ set om2 _ hs) (h:=?_))))))
 rintro _ B25 _ hle25 ⟨q25,c25,l25,rfl,rfl,rfl,hv25⟩
 refine ZuZ 15 rfl hv25 Zak.any om (fun B26 hle26 hr26=>?_)
 replace hu:=hu.mono ZJ.mono hle26
 replace hf:=hf.mono ZG.mono hle26
 replace hi:=hi.mono ZaA.mono hle26
 replace hs:=hs.mono Zak.mono hle26
 replace hz13:=hz13.mono ZX.mono hle26
 replace hv14:=hv14.mono ZJ.mono hle26
 replace hv16:=hv16.mono Zak.mono hle26
 replace hy18:=hy18.mono ZX.mono hle26
 replace hE:=hE.mono hle26
 have hr26n:=hr26.len
 refine Zk (Zd6 10 rfl rfl rfl Zz2 rfl (Z0.borrow fun hm27=>ZpL _ _ _ _ _ _ _ ((hv16.anyK Zak.any).lend Zak.mono hm27 om) (hr26.mono Zak.mono (Kn.le_add _ _))) ?_)
 refine xN (h:=Znz [_,_,_,_,_,_,_,_,_,_,_,_,_,_,_,_] rfl (Zb rfl (fun g7=>by simp at g7) (fun g7=>?_)))
 try simp only [sQ,ne_eq] at g7
 refine wSk (Za (xA (h:=Za (xL [_,_,_,_,_] ZfE 9 (h:=xM (h:=xK [6,7,8] rfl Zz1 rfl (Zm3 _ _ _ _ _ _ x _ _ _ 1 oa oz oz oz _ (hv14.anyK ZJ.any) hv14b hv14c) (h:=?_)))))))
 rintro _ B28 _ hle28 ⟨rfl,l28a,l28b,l28c,rfl,rfl,hs28a,hs28b,hs28c⟩
 refine xA (h:=Znz [_,_,_,_,_,_,_,_,_,_,_,_,_,_,_,_] rfl (Za (xM (h:=xM (h:=xK [10] rfl Zz0 rfl (Zk8 _ _ set _ (kH 1 x) oz oz _ (hv16.anyK Zak.any)) (h:=?_))))))
 rintro _ B29 _ hle29 ⟨rfl,l29,rfl,rfl,hs29⟩
 refine xA (h:=Znz [_,_,_,_,_,_,_,_,_,_,_,_,_,_,_,_] rfl (Zd (Za (xM (h:=ZB (h:=xM (h:=Zt (d:=83) rfl (fun g8=>by first | omega | (simp at g8;done) | (simp at g8;omega)) (fun g8=>?_))))))))
 try simp only [sQ,ne_eq] at g8
 refine xM (h:=xM (h:=Zk (Zd6 11 rfl rfl rfl ZxV rfl (Z0.borrow fun hm30=>Zhi _ _ _ _ _ _ _ ((hy18.anyK ZX.any).lend ZX.mono hm30 om) (hz13.mono ZX.mono (Kn.le_add _ _))) ?_)))
 refine xN (h:=xF (h:=xM (h:=Zt (d:=89) rfl (fun g9=>by simp at g9) (fun g9=>?_))))
 try simp only [sQ,ne_eq] at g9
 refine xM (h:=xM (h:=Zar (h:=xF (h:=Zb rfl (fun ga=>by simp at ga) (fun ga=>?_)))))
 try simp only [sQ,ne_eq] at ga
 have hll:(Zcj 1 (ZbK x ⟨u,y,z⟩ set).1.length).length≤2000000:=by rw [ZdH];omega
 refine wSk (Za (xA (h:=Za (xM (h:=xM (h:=xK [11] rfl ZzZ rfl (Zlb _ _ ((ZbK x ⟨u,y,z⟩ set).1) _ 1 oz oz _ (hy18.anyK ZX.any)) (h:=?_)))))))
 rintro _ B31 _ hle31 ⟨rfl,l31,rfl,rfl,hs31⟩
 refine xA (h:=Znz [_,_,_,_,_,_,_,_,_,_,_,_,_,_,_,_] rfl (Za (xA (h:=Za (xM (h:=xM (h:=Zk (Zd6 11 rfl rfl rfl ZyS rfl (Z0.borrow fun hm32=>Zg9 _ _ _ 1 _ (ZbK x ⟨u,y,z⟩ set).1.length (by first | rfl | exact ZdH _ _) rfl oz _ ((hs31.anyK ZX.any).lend ZX.mono hm32 om)) ?_))))))))
 refine xA (h:=Zd (Za (xM (h:=ZB (h:=Zb rfl (fun gb=>by first | omega | (simp at gb;done) | (simp at gb;omega)) (fun gb=>?_))))))
 try simp only [sQ,ne_eq] at gb
 refine wSk (Zd (Za (xM (h:=xM (h:=Zar (h:=Zb rfl (fun gc=>by simp at gc) (fun gc=>?_)))))))
 try simp only [sQ,ne_eq] at gc
 refine wSk (Zd (ZY (keeps _ [0,1] _) mo kr ⟨Kn.le.refl _,Za3.refl _ _⟩ (fun _ _=>?_)))
 refine aT 0 rfl (ZW fun D B L hI=>ZR [_,_,_,_,_] rfl rfl Zvb rfl (Zct 0 (hI.2.1.trans rfl) rfl rfl) r4) (h:=aT 2 rfl (ZW fun D B L hI=>ZR [_,_,_] rfl rfl Zv4 rfl (Zct 1 (hI.2.2.1.trans rfl) rfl rfl) r4) (h:=aM 4 rfl (h:=ZV 1 kr rfl kr (Zck rfl rfl Zv8 rfl (Zgv _ _ _ _ _ _ x _ hu hf hi om2) ?_))))
 rintro _ B33 _ hle33 ⟨q33,c33,l33,q33b,c33b,l33b,q33c,c33c,l33c,rfl,rfl,rfl,hv33,hv33b,hv33c⟩
 refine ⟨⟨Kn.le.refl _,t2⟩,(Zku 16 rfl hv33 ZJ.any om (fun B' hle'=>⟨hle',t2⟩) (fun B34 hle34 hr34=>?_))⟩
 replace hs:=hs.mono Zak.mono hle34
 replace hz13:=hz13.mono ZX.mono hle34
 replace hs31:=hs31.mono ZX.mono hle34
 replace hE:=hE.mono hle34
 have hr34n:=hr34.len
 refine Zif 17 rfl hv33b Z4.known ZG.mono om (fun B' hle'=>⟨hle34.trans hle',t2⟩) (fun B35 hle35 hr35=>?_)
 replace hs:=hs.mono Zak.mono hle35
 replace hz13:=hz13.mono ZX.mono hle35
 replace hr34:=hr34.mono ZJ.mono hle35
 replace hs31:=hs31.mono ZX.mono hle35
 replace hE:=hE.mono hle35
 have hr35n:=hr35.len
 refine Zif 18 rfl hv33c Za8.known ZaA.mono om (fun B' hle'=>⟨(hle34.trans hle35).trans hle',t2⟩) (fun B36 hle36 hr36=>?_)
 replace hs:=hs.mono Zak.mono hle36
 replace hz13:=hz13.mono ZX.mono hle36
 replace hr34:=hr34.mono ZJ.mono hle36
 replace hr35:=hr35.mono ZG.mono hle36
 replace hs31:=hs31.mono ZX.mono hle36
 replace hE:=hE.mono hle36
 have hr36n:=hr36.len
 refine ZV 3 kr rfl kr (Zaa rfl rfl Zyk rfl (ZeW u y z _) ?_)
 refine ⟨⟨((hle34.trans hle35).trans hle36),t2⟩,(ZV 5 kr rfl kr (Zck rfl rfl Zv7 rfl (Zfi _ _ set om2 _ hs) ?_))⟩
 rintro _ B38 _ hle38 ⟨q38,c38,l38,rfl,rfl,rfl,hv38⟩
 refine ⟨⟨((hle34.trans hle35).trans hle36),t2⟩,(Zku 19 rfl hv38 Zak.any om (fun B' hle'=>⟨((hle34.trans hle35).trans hle36).trans hle',t2⟩) (fun B39 hle39 hr39=>?_))⟩
 replace hz13:=hz13.mono ZX.mono hle39
 replace hr34:=hr34.mono ZJ.mono hle39
 replace hr35:=hr35.mono ZG.mono hle39
 replace hr36:=hr36.mono ZaA.mono hle39
 replace hs31:=hs31.mono ZX.mono hle39
 replace hE:=hE.mono hle39
 have hr39n:=hr39.len
 refine ZV 6 kr rfl kr (Zck rfl rfl ZyT rfl (Zg4 hJ _ _ _ _ _ _ x u y z om2 om2 om2 _ _ set om2 a _ hE hr34 hr35 hr36 hr39) ?_)
 rintro _ B40 _ hle40 ⟨qe40,ce40,le40,rfl,rfl,hy40⟩
 replace hz13:=hz13.mono ZX.mono hle40
 replace hs31:=hs31.mono ZX.mono hle40
 refine ⟨⟨((((hle34.trans hle35).trans hle36).trans hle39).trans hle40),t2⟩,(aM 7 rfl (h:=aE 8 rfl (h:=aE 9 rfl (h:=aA 10 rfl (h:=aA 11 rfl (h:=Zw kr kr ?_))))))⟩
 refine Zm (Znz [_,_,_,_,_,_,_,_,_,_,_,_,_,_,_,_,_,_,_,_,_] rfl (Zd (Za (xM (h:=xM (h:=Zk (Zd6 20 rfl rfl rfl ZxV rfl (Z0.borrow fun hm41=>Zhi _ _ _ _ _ _ _ ((hy40.anyK ZX.any).lend ZX.mono hm41 om) (hz13.mono ZX.mono (Kn.le_add _ _))) ?_)))))))
 refine xN (h:=xM (h:=Zt (d:=119) rfl (fun gd=>by simp at gd) (fun gd=>?_)))
 try simp only [sQ,ne_eq] at gd
 refine xM (h:=xM (h:=Zar (h:=xF (h:=Zb rfl (fun ge=>by simp at ge) (fun ge=>?_)))))
 try simp only [sQ,ne_eq] at ge
 refine ZL ?_
 refine Zm ?_
 refine Za ?_
 refine Zk (Zbo rfl rfl rfl ?_)
 refine Za ?_
 refine Zk (Zbf rfl rfl rfl ?_)
 refine Zk (Zbf rfl rfl rfl ?_)
 refine Zk (Zd6 11 rfl rfl rfl ZyS rfl (Z0.borrow fun hm42=>Zg9 _ _ _ 1 _ (ZbK x ⟨u,y,z⟩ set).1.length (by first | rfl | exact ZdH _ _) rfl (by omega) _ ((hs31.anyK ZX.any).lend ZX.mono hm42 (by first | omega | (simp;done) | (simp;omega)))) ?_)
 refine xA (h:=Zd (Za (xM (h:=ZB (h:=Zb rfl (fun gf=>by first | omega | (simp at gf;done) | (simp at gf;omega)) (fun gf=>?_))))))
 try simp only [sQ,ne_eq] at gf
 refine wSk (Zd (Za (xM (h:=xM (h:=Zar (h:=Zb rfl (fun gg=>by simp at gg) (fun gg=>?_)))))))
 try simp only [sQ,ne_eq] at gg
 refine wSk (Za (xA (h:=Ze ?_)))
 exact eR t1 rfl

end Go.Proofs.YtbebcagblefhcaaGreatDoor
