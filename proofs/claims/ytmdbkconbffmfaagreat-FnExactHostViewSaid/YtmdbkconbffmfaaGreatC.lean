/-
  WHAT THE FUNCTIONS THAT THE LAWS REACH COMPUTE: each function's contract, proved off its printed body (the text is written by program). No condition beyond those that each theorem states.
-/
import Derived.Test.YtmdbkconbffmfaaGreatC2
namespace Go.Proofs.YtmdbkconbffmfaaGreat
open Go Go.BL
set_option linter.unusedVariables false
set_option linter.unusedSimpArgs false
set_option maxRecDepth 4000
variable {J : JoinT}
set_option maxHeartbeats 1600000 in
theorem ZjH (q1 q2 q3:Option Addr) (c1 c2 c3:Nat) (x:DHost) (hd:x.domain.length≤140737488355328) (u y z:Str) (hw1:u.length≤140737488355328) (hw2:y.length≤140737488355328) (hw3:z.length≤140737488355328) (B:Kn) (hu:SlB B q1 c1 3 Zdt x.users) (hf:SlB B q2 c2 5 ZaJ x.folders) (hi:SlB B q3 c3 4 Zb2 x.queue.items) :∃code,Tryz.f4.body=some code∧wpS (pj (ZhH Tryz.prog)) 82 code (Zgp (pj (ZhH Tryz.prog)) [.tmp 4] (fun v B' Ls=>v = .bool true)) (Zc0 [.agg #[str x.domain,.slice q1 x.users.length c1,.slice q2 x.folders.length c2,.int .i64 x.queue.next,.slice q3 x.queue.items.length c3],.agg #[str u,str y,str z]] 0) [] B []:=by
 have hJ:=Ze1 Tryz.prog
 refine ⟨_,rfl,(Za (xBx [_,_,_,_,_] (h:=fun b1=>xBx [_,_,_] (h:=fun b2=>xA (h:=ZH [_,_] rfl (Za (xA (h:=Za (xL [_,_,_,_,_] Zky 0 (h:=xM (h:=xR en6 rfl (Zid _ _ _ _ _ _ x om 1048576 om om _ hu hf hi) (h:=?_))))))))))))⟩
 refine xA (h:=Zg (Za (xM (h:=ZF (h:=Zc rfl (fun g1=>?_) (fun g1=>?_))))))
 try simp only [sQ,ne_eq] at g1
 refine Za (xA (h:=Zi (Zn ?_)))
 exact ZB .ret (.inl rfl) [_] t1 rfl
 try simp only [sQ,ne_eq] at g1
 have hsg:=Zba (left:=1048576) oz g1
 refine Zf (Zd (Za (xL [_,_,_] ZsT 1 (h:=xM (h:=xR ZvX rfl (Zj9 u y z om2 om2 om2 (szI 1048576 (ZbA x)) om2 om2 _) (h:=?_))))))
 refine xA (h:=Zg (Za (xM (h:=ZF (h:=Zc rfl (fun g2=>?_) (fun g2=>?_))))))
 try simp only [sQ,ne_eq] at g2
 refine Za (xA (h:=Zi (Zn ?_)))
 exact ZB .ret (.inl rfl) [_] t1 rfl
 try simp only [sQ,ne_eq] at g2
 have hsz:=(Zba oz g1).2
 replace hsz:ZbA x≤1048576:=by omega
 have hsz2:=ZfW hsz
 have hkh:=Zq6 hsz
 replace hu:=ZeP hu hsz2.2.1
 replace hf:=ZdL hf hsz2.2.2.1
 replace hi:=Ze2 hi hsz2.2.2.2
 have hun:=hu.len
 have hfn:=hf.len
 have hin:=hi.len
 have hsu:=(Zba oz g2).2
 have hkl:=Zpi (u:=u) hsz
 refine Zf (Zd (Zg (Zan (keeps _ [0,1] _) mo kr ⟨Kn.le.refl _,ZbF.refl _ _⟩ (fun _ _=>?_))))
 refine aT 0 rfl (Zah fun D B L hI=>Z8 [_,_,_,_,_] rfl rfl Zky rfl (ZcQ 0 (hI.2.1.trans rfl) rfl rfl) r4) (h:=aT 2 rfl (Zah fun D B L hI=>Z8 [_,_,_] rfl rfl ZsT rfl (ZcQ 1 (hI.2.2.1.trans rfl) rfl rfl) r4) (h:=Z4 1 kr rfl kr (Zao rfl rfl en8 rfl (Zbg _ _ _ _ _ _ x _ hu hf hi om2) ?_)))
 rintro _ B5 _ hle5 ⟨q5,c5,l5,q5b,c5b,l5b,q5c,c5c,l5c,rfl,rfl,rfl,hv5,hv5b,hv5c⟩
 refine ⟨⟨Kn.le.refl _,t2⟩,(ZjX 2 rfl hv5 Zq.any om (fun B' hle'=>⟨hle',t2⟩) (fun B6 hle6 hr6=>?_))⟩
 replace hu:=hu.mono Zq.mono hle6
 replace hf:=hf.mono Ze.mono hle6
 replace hi:=hi.mono ZG.mono hle6
 have hr6n:=hr6.len
 refine ZeM 3 rfl hv5b ZV.known Ze.mono om (fun B' hle'=>⟨hle6.trans hle',t2⟩) (fun B7 hle7 hr7=>?_)
 replace hu:=hu.mono Zq.mono hle7
 replace hf:=hf.mono Ze.mono hle7
 replace hi:=hi.mono ZG.mono hle7
 replace hr6:=hr6.mono Zq.mono hle7
 have hr7n:=hr7.len
 refine ZeM 4 rfl hv5c Zbf.known ZG.mono om (fun B' hle'=>⟨(hle6.trans hle7).trans hle',t2⟩) (fun B8 hle8 hr8=>?_)
 replace hu:=hu.mono Zq.mono hle8
 replace hf:=hf.mono Ze.mono hle8
 replace hi:=hi.mono ZG.mono hle8
 replace hr6:=hr6.mono Zq.mono hle8
 replace hr7:=hr7.mono Ze.mono hle8
 have hr8n:=hr8.len
 refine Z4 3 kr rfl kr (Zam rfl rfl ZtD rfl (ZeS u y z _) ?_)
 refine ⟨⟨((hle6.trans hle7).trans hle8),t2⟩,(Z4 4 kr rfl kr (ZbS rfl rfl ZvW rfl (ZqY _ _ _ _ _ _ x u y z om2 om2 _ hr6 hr7 hr8) ?_))⟩
 intro v10 B10 hle10
 rintro ⟨p10,cp10,rfl,hl10⟩
 replace hu:=hu.mono Zq.mono hle10
 replace hf:=hf.mono Ze.mono hle10
 replace hi:=hi.mono ZG.mono hle10
 replace hr6:=hr6.mono Zq.mono hle10
 replace hr7:=hr7.mono Ze.mono hle10
 replace hr8:=hr8.mono ZG.mono hle10
 have hl10n:=hl10.len
 refine ⟨⟨(((hle6.trans hle7).trans hle8).trans hle10),t2⟩,(aA 5 rfl (h:=Zz kr kr ?_))⟩
 refine Zd (ZH [_,_,_,_,_] rfl (Za (xL [_,_,_,_,_] Zky 0 (h:=Zo (Zao rfl rfl en8 rfl (Zbg _ _ _ _ _ _ x _ hu hf hi om2) ?_)))))
 rintro _ B11 _ hle11 ⟨q11,c11,l11,q11b,c11b,l11b,q11c,c11c,l11c,rfl,rfl,rfl,hv11,hv11b,hv11c⟩
 refine xAl [_,_,_,_,_] ZrJ (h:=fun b12=>xS [_,_,_,_,_] 8 [_,_,_,_,_] ZsQ (h:=ZH [_,_,_,_,_,_,_,_,_] rfl (Zg (Zan (keeps _ [1,8] _) mo kr ⟨Kn.le.refl _,ZbF.refl _ _⟩ (fun _ _=>?_)))))
 refine aT 0 rfl (Zah fun D B L hI=>Z8 [_,_,_,_,_] rfl rfl Ze7 rfl (ZcQ 8 (hI.2.2.1.trans rfl) rfl rfl) r4) (h:=aT 1 rfl (Zah fun D B L hI=>Z8 [_,_,_] rfl rfl ZsT rfl (ZcQ 1 (hI.2.1.trans rfl) rfl rfl) r4) (h:=aT 2 rfl (Zah fun D B L hI=>Zam rfl rfl ZtD rfl (ZeS u y z _) r4) (h:=Z4 3 kr rfl kr (Zat [5,6,7] rfl rfl rfl rfl ZuM rfl (ZJ.borrowK 3 fun hm14=>Zpf hJ _ _ _ _ _ _ x u y z om2 om2 _ (hv11.lendK Zq.any 0 rfl hm14 om) (hv11b.lendK ZV.known Ze.mono 1 rfl hm14 om) (hv11c.lendK Zbf.known ZG.mono 2 rfl hm14 om)) ?_))))
 rintro _ B14 _ hle14 ⟨BB14,_,rfl,hB14,_,hm14,_,l14,p14,cp14,rfl,rfl,hl14,hl14n⟩
 replace hu:=hu.mono Zq.mono hle14
 replace hf:=hf.mono Ze.mono hle14
 replace hi:=hi.mono ZG.mono hle14
 replace hl10:=hl10.mono Ze.mono hle14
 replace hv11:=hv11.mono Zq.mono hle14
 refine ⟨⟨hle14,t2⟩,(aA 4 rfl (h:=Zz kr kr ?_))⟩
 refine Zd (ZH [_,_,_,_,_,_,_,_,_,_] rfl (Zg (Za (xM (h:=xM (h:=Zo (Zcr [9] rfl rfl rfl rfl rfl Zrq rfl (Zaa.borrowL fun hm15=>Zbn _ _ _ _ _ _ _ (hl14.lendK ZV.known Ze.mono 0 rfl hm15 om) (hl10.mono Ze.mono (Kn.le_add _ _))) ?_)))))))
 refine xN (h:=Zc rfl (fun g3=>by simp [Zio] at g3) (fun g3=>?_))
 try simp only [sQ,ne_eq] at g3
 refine Zf (Zd (Zg (Zg (Zan (keeps _ [0,8] _) mo kr ⟨Kn.le.refl _,ZbF.refl _ _⟩ (fun _ _=>?_)))))
 refine aT 0 rfl (Zah fun D B L hI=>Z8 [_,_,_,_,_] rfl rfl Ze7 rfl (ZcQ 8 (hI.2.2.1.trans rfl) rfl rfl) r4) (h:=aT 1 rfl (Zah fun D B L hI=>Z8 [_,_,_,_,_] rfl rfl Zky rfl (ZcQ 0 (hI.2.1.trans rfl) rfl rfl) r4) (h:=Z4 2 kr rfl kr (Zao rfl rfl en8 rfl (Zbg _ _ _ _ _ _ x _ hu hf hi om2) ?_)))
 rintro _ B16 _ hle16 ⟨q16,c16,l16,q16b,c16b,l16b,q16c,c16c,l16c,rfl,rfl,rfl,hv16,hv16b,hv16c⟩
 refine ⟨⟨Kn.le.refl _,t2⟩,(ZjX 10 rfl hv16 Zq.any om (fun B' hle'=>⟨hle',t2⟩) (fun B17 hle17 hr17=>?_))⟩
 replace hu:=hu.mono Zq.mono hle17
 replace hf:=hf.mono Ze.mono hle17
 replace hi:=hi.mono ZG.mono hle17
 replace hl10:=hl10.mono Ze.mono hle17
 replace hv11:=hv11.mono Zq.mono hle17
 have hr17n:=hr17.len
 refine ZeM 11 rfl hv16b ZV.known Ze.mono om (fun B' hle'=>⟨hle17.trans hle',t2⟩) (fun B18 hle18 hr18=>?_)
 replace hu:=hu.mono Zq.mono hle18
 replace hf:=hf.mono Ze.mono hle18
 replace hi:=hi.mono ZG.mono hle18
 replace hl10:=hl10.mono Ze.mono hle18
 replace hr17:=hr17.mono Zq.mono hle18
 replace hv11:=hv11.mono Zq.mono hle18
 have hr18n:=hr18.len
 refine ZeM 12 rfl hv16c Zbf.known ZG.mono om (fun B' hle'=>⟨(hle17.trans hle18).trans hle',t2⟩) (fun B19 hle19 hr19=>?_)
 replace hu:=hu.mono Zq.mono hle19
 replace hf:=hf.mono Ze.mono hle19
 replace hi:=hi.mono ZG.mono hle19
 replace hl10:=hl10.mono Ze.mono hle19
 replace hr17:=hr17.mono Zq.mono hle19
 replace hr18:=hr18.mono Ze.mono hle19
 replace hv11:=hv11.mono Zq.mono hle19
 have hr19n:=hr19.len
 refine Z4 3 kr rfl kr (Zcr [5,6,7] rfl rfl rfl rfl rfl Zud rfl (Zaa.borrowL fun hm20=>ZiD _ _ _ _ _ _ _ _ _ _ _ _ x x _ (hv11.lendK Zq.any 0 rfl hm20 om) (hv11b.lendK ZV.known Ze.mono 1 rfl hm20 om) (hv11c.lendK Zbf.known ZG.mono 2 rfl hm20 om) (hr17.mono Zq.mono (Kn.le_add _ _)) (hr18.mono Ze.mono (Kn.le_add _ _)) (hr19.mono ZG.mono (Kn.le_add _ _))) ?_)
 refine ⟨⟨((hle17.trans hle18).trans hle19),t2⟩,(aN 4 rfl (h:=Zz kr kr ?_))⟩
 refine Zd (ZH [_,_,_,_,_,_,_,_,_,_,_,_,_] rfl (Zc rfl (fun g4=>by simp at g4) (fun g4=>?_)))
 try simp only [sQ,ne_eq] at g4
 refine Zf (Zd (Za (xA (h:=Za (xL [_,_,_,_,_] Ze7 8 (h:=xM (h:=Zo (Zat [5,6,7] rfl rfl rfl rfl Zt5 rfl (ZfU _ _ _ _ _ _ x _ _ _ 1 oa oz oz oz _ (hv11.anyK Zq.any) hv11b hv11c) ?_))))))))
 rintro _ B21 _ hle21 ⟨rfl,l21a,l21b,l21c,rfl,rfl,hs21a,hs21b,hs21c⟩
 refine xA (h:=ZH [_,_,_,_,_,_,_,_,_,_,_,_,_] rfl (Zg (Za (xM (h:=ZF (h:=xM (h:=Zw (d:=48) rfl (fun g5=>by first | omega | (simp at g5;done) | (simp at g5;omega)) (fun g5=>?_))))))))
 try simp only [sQ,ne_eq] at g5
 refine xM (h:=xM (h:=Zo (Zcr [9] rfl rfl rfl rfl rfl Zrq rfl (Zaa.borrowL fun hm22=>Zbn _ _ _ _ _ _ _ (hl14.lendK ZV.known Ze.mono 0 rfl hm22 om) (hl10.mono Ze.mono (Kn.le_add _ _))) ?_)))
 refine xN (h:=xF (h:=Zc rfl (fun g6=>by simp [Zio] at g6) (fun g6=>?_)))
 try simp only [sQ,ne_eq] at g6
 refine Zf (Zd (Za (xA (h:=Za (xM (h:=xM (h:=Zo (Zat [9] rfl rfl rfl rfl Ztx rfl (ZdH _ _ (ZdY x u) _ 1 oa oz _ hl14) ?_))))))))
 rintro _ B23 _ hle23 ⟨rfl,l23,rfl,rfl,hs23⟩
 refine xA (h:=ZH [_,_,_,_,_,_,_,_,_,_,_,_,_] rfl (Za (xA (h:=Za (xM (h:=xM (h:=Zo (Zcr [9] rfl rfl rfl rfl rfl ZsW rfl (Zaa.borrowL fun hm24=>Zck _ _ (ZdY x u) 1 _ rfl oa _ (hs23.lendK ZV.known Ze.mono 0 rfl hm24 (by simp only [Z7,Zad,Za3,ZaU,Zc4];omega))) ?_))))))))
 refine xA (h:=Zg (Za (xM (h:=ZF (h:=Zc rfl (fun g8=>by first | omega | (simp at g8;done) | (simp at g8;omega)) (fun g8=>?_))))))
 try simp only [sQ,ne_eq] at g8
 refine Zf (Zd (Zg (Za (xM (h:=xM (h:=ZaL (h:=Zc rfl (fun g9=>by simp at g9) (fun g9=>?_))))))))
 try simp only [sQ,ne_eq] at g9
 refine Zf (Zd (Zg (Zan (keeps _ [0,1] _) mo kr ⟨Kn.le.refl _,ZbF.refl _ _⟩ (fun _ _=>?_))))
 refine aT 0 rfl (Zah fun D B L hI=>Z8 [_,_,_,_,_] rfl rfl Zky rfl (ZcQ 0 (hI.2.1.trans rfl) rfl rfl) r4) (h:=aT 2 rfl (Zah fun D B L hI=>Z8 [_,_,_] rfl rfl ZsT rfl (ZcQ 1 (hI.2.2.1.trans rfl) rfl rfl) r4) (h:=Z4 1 kr rfl kr (Zao rfl rfl en8 rfl (Zbg _ _ _ _ _ _ x _ hu hf hi om2) ?_)))
 rintro _ B25 _ hle25 ⟨q25,c25,l25,q25b,c25b,l25b,q25c,c25c,l25c,rfl,rfl,rfl,hv25,hv25b,hv25c⟩
 refine ⟨⟨Kn.le.refl _,t2⟩,(ZjX 13 rfl hv25 Zq.any om (fun B' hle'=>⟨hle',t2⟩) (fun B26 hle26 hr26=>?_))⟩
 replace hu:=hu.mono Zq.mono hle26
 replace hf:=hf.mono Ze.mono hle26
 replace hi:=hi.mono ZG.mono hle26
 replace hl10:=hl10.mono Ze.mono hle26
 replace hs21a:=hs21a.mono Zq.mono hle26
 have hr26n:=hr26.len
 refine ZeM 14 rfl hv25b ZV.known Ze.mono om (fun B' hle'=>⟨hle26.trans hle',t2⟩) (fun B27 hle27 hr27=>?_)
 replace hu:=hu.mono Zq.mono hle27
 replace hf:=hf.mono Ze.mono hle27
 replace hi:=hi.mono ZG.mono hle27
 replace hl10:=hl10.mono Ze.mono hle27
 replace hr26:=hr26.mono Zq.mono hle27
 replace hs21a:=hs21a.mono Zq.mono hle27
 have hr27n:=hr27.len
 refine ZeM 15 rfl hv25c Zbf.known ZG.mono om (fun B' hle'=>⟨(hle26.trans hle27).trans hle',t2⟩) (fun B28 hle28 hr28=>?_)
 replace hu:=hu.mono Zq.mono hle28
 replace hf:=hf.mono Ze.mono hle28
 replace hi:=hi.mono ZG.mono hle28
 replace hl10:=hl10.mono Ze.mono hle28
 replace hr26:=hr26.mono Zq.mono hle28
 replace hr27:=hr27.mono Ze.mono hle28
 replace hs21a:=hs21a.mono Zq.mono hle28
 have hr28n:=hr28.len
 refine Z4 3 kr rfl kr (Zam rfl rfl ZtD rfl (ZeS u y z _) ?_)
 refine ⟨⟨((hle26.trans hle27).trans hle28),t2⟩,(Z4 4 kr rfl kr (ZbS rfl rfl ZuM rfl (ZqZ hJ _ _ _ _ _ _ x u y z om2 om2 _ hr26 hr27 hr28) ?_))⟩
 intro v30 B30 hle30
 rintro ⟨p30,cp30,rfl,hl30⟩
 replace hu:=hu.mono Zq.mono hle30
 replace hf:=hf.mono Ze.mono hle30
 replace hi:=hi.mono ZG.mono hle30
 replace hl10:=hl10.mono Ze.mono hle30
 replace hr26:=hr26.mono Zq.mono hle30
 replace hr27:=hr27.mono Ze.mono hle30
 replace hr28:=hr28.mono ZG.mono hle30
 replace hs21a:=hs21a.mono Zq.mono hle30
 have hl30n:=hl30.len
 refine ⟨⟨(((hle26.trans hle27).trans hle28).trans hle30),t2⟩,(aA 5 rfl (h:=Zz kr kr ?_))⟩
 refine Zd (ZH [_,_,_,_,_,_,_,_,_,_,_,_,_,_,_,_] rfl (Zg (Za (xM (h:=xM (h:=xR Zrq rfl (Zbn _ _ _ _ _ _ _ hl30 hl10) (h:=xN (h:=Zc rfl (fun ga=>by simp [Zio] at ga) (fun ga=>?_)))))))))
 try simp only [sQ,ne_eq] at ga
 refine Zf (Zd (Za (xA (h:=Za (xM (h:=xM (h:=Zo (Zcr [9] rfl rfl rfl rfl rfl ZsW rfl (Zaa.borrowL fun hm32=>Zck _ _ (ZdY x u) 1 _ rfl oa _ (hs23.lendK ZV.known Ze.mono 0 rfl hm32 (by simp only [Z7,Zad,Za3,ZaU,Zc4];omega))) ?_))))))))
 refine xA (h:=Zg (Za (xM (h:=ZF (h:=Zc rfl (fun gc=>by first | omega | (simp at gc;done) | (simp at gc;omega)) (fun gc=>?_))))))
 try simp only [sQ,ne_eq] at gc
 refine Zf (Zd (Zg (Za (xM (h:=xM (h:=ZaL (h:=Zc rfl (fun gd=>by simp at gd) (fun gd=>?_))))))))
 try simp only [sQ,ne_eq] at gd
 refine Zf (Zd (Za (xA (h:=Zi ?_))))
 exact ZB .ret (.inl rfl) [_] t1 rfl

set_option maxHeartbeats 1600000 in
theorem ZjI (q1 q2 q3:Option Addr) (c1 c2 c3:Nat) (x:DHost) (hd:x.domain.length≤140737488355328) (u:Str) (hw:u.length≤140737488355328) (B:Kn) (hu:SlB B q1 c1 3 Zdt x.users) (hf:SlB B q2 c2 5 ZaJ x.folders) (hi:SlB B q3 c3 4 Zb2 x.queue.items) :∃code,Tryz.f5.body=some code∧wpS (pj (ZhH Tryz.prog)) 77 code (Zgp (pj (ZhH Tryz.prog)) [.tmp 4] (fun v B' Ls=>v = .bool true)) (Zc0 [.agg #[str x.domain,.slice q1 x.users.length c1,.slice q2 x.folders.length c2,.int .i64 x.queue.next,.slice q3 x.queue.items.length c3],str u] 0) [] B []:=by
 have hJ:=Ze1 Tryz.prog
 refine ⟨_,rfl,(Za (xBx [_,_,_,_,_] (h:=fun b1=>xA (h:=ZH [_] rfl (Zg (Za (xM (h:=xVs Tryz.underlying9 (h:=ZdV (h:=Zc rfl (fun g0=>?_) (fun g0=>?_)))))))))))⟩
 try simp only [sQ,ne_eq] at g0
 refine Za (xA (h:=Zi (Zn ?_)))
 exact ZB .ret (.inl rfl) [_] t1 rfl
 try simp only [sQ,ne_eq] at g0
 refine Zf (Zd (Za (xA (h:=Za (xL [_,_,_,_,_] Zky 0 (h:=xM (h:=xR en6 rfl (Zid _ _ _ _ _ _ x om 1048576 om om _ hu hf hi) (h:=?_))))))))
 refine xA (h:=Zg (Za (xM (h:=ZF (h:=Zc rfl (fun g1=>?_) (fun g1=>?_))))))
 try simp only [sQ,ne_eq] at g1
 refine Za (xA (h:=Zi (Zn ?_)))
 exact ZB .ret (.inl rfl) [_] t1 rfl
 try simp only [sQ,ne_eq] at g1
 have hsz:=(Zba oz g1).2
 replace hsz:ZbA x≤1048576:=by omega
 have hsz2:=ZfW hsz
 have hkh:=Zq6 hsz
 replace hu:=ZeP hu hsz2.2.1
 replace hf:=ZdL hf hsz2.2.2.1
 replace hi:=Ze2 hi hsz2.2.2.2
 have hun:=hu.len
 have hfn:=hf.len
 have hin:=hi.len
 have hkl:=Zph (u:=u) hsz
 refine Zf (Zd (Za (xL [_,_,_,_,_] Zky 0 (h:=Zo (Zao rfl rfl en8 rfl (Zbg _ _ _ _ _ _ x _ hu hf hi om2) ?_)))))
 rintro _ B3 _ hle3 ⟨q3,c3,l3,q3b,c3b,l3b,q3c,c3c,l3c,rfl,rfl,rfl,hv3,hv3b,hv3c⟩
 refine Zlh 1 rfl hv3 Zq.any om (fun B4 hle4 hr4=>?_)
 replace hu:=hu.mono Zq.mono hle4
 replace hf:=hf.mono Ze.mono hle4
 replace hi:=hi.mono ZG.mono hle4
 have hr4n:=hr4.len
 refine Zga 2 rfl hv3b ZV.known Ze.mono om (fun B5 hle5 hr5=>?_)
 replace hu:=hu.mono Zq.mono hle5
 replace hf:=hf.mono Ze.mono hle5
 replace hi:=hi.mono ZG.mono hle5
 replace hr4:=hr4.mono Zq.mono hle5
 have hr5n:=hr5.len
 refine Zga 3 rfl hv3c Zbf.known ZG.mono om (fun B6 hle6 hr6=>?_)
 replace hu:=hu.mono Zq.mono hle6
 replace hf:=hf.mono Ze.mono hle6
 replace hi:=hi.mono ZG.mono hle6
 replace hr4:=hr4.mono Zq.mono hle6
 replace hr5:=hr5.mono Ze.mono hle6
 have hr6n:=hr6.len
 refine xM (h:=Zo (ZbS rfl rfl ZvV rfl (ZqB _ _ _ _ _ _ x u om2 om2 _ hr4 hr5 hr6) ?_))
 intro v7 B7 hle7
 rintro ⟨p7,cp7,rfl,hl7⟩
 replace hu:=hu.mono Zq.mono hle7
 replace hf:=hf.mono Ze.mono hle7
 replace hi:=hi.mono ZG.mono hle7
 replace hr4:=hr4.mono Zq.mono hle7
 replace hr5:=hr5.mono Ze.mono hle7
 replace hr6:=hr6.mono ZG.mono hle7
 have hl7n:=hl7.len
 refine xA (h:=ZH [_,_,_,_] rfl (Za (xL [_,_,_,_,_] Zky 0 (h:=Zo (Zao rfl rfl en8 rfl (Zbg _ _ _ _ _ _ x _ hu hf hi om2) ?_)))))
 rintro _ B8 _ hle8 ⟨q8,c8,l8,q8b,c8b,l8b,q8c,c8c,l8c,rfl,rfl,rfl,hv8,hv8b,hv8c⟩
 refine xAl [_,_,_,_,_] ZrJ (h:=fun b9=>xS [_,_,_,_,_] 7 [_,_,_,_,_] ZsQ (h:=ZH [_,_,_,_,_,_,_,_] rfl (Za (xL [_,_,_,_,_] Ze7 7 (h:=xM (h:=Zo (Zat [4,5,6] rfl rfl rfl rfl ZuL rfl (ZJ.borrowK 3 fun hm10=>ZoI hJ _ _ _ _ _ _ x u om2 om2 _ (hv8.lendK Zq.any 0 rfl hm10 om) (hv8b.lendK ZV.known Ze.mono 1 rfl hm10 om) (hv8c.lendK Zbf.known ZG.mono 2 rfl hm10 om)) ?_)))))))
 rintro _ B10 _ hle10 ⟨BB10,_,rfl,hB10,_,hm10,_,l10,p10,cp10,rfl,rfl,hl10,hl10n⟩
 replace hu:=hu.mono Zq.mono hle10
 replace hf:=hf.mono Ze.mono hle10
 replace hi:=hi.mono ZG.mono hle10
 replace hl7:=hl7.mono Ze.mono hle10
 replace hv8:=hv8.mono Zq.mono hle10
 refine xA (h:=ZH [_,_,_,_,_,_,_,_,_] rfl (Zg (Za (xM (h:=xM (h:=Zo (Zcr [8] rfl rfl rfl rfl rfl Zrq rfl (Zaa.borrowL fun hm11=>Zbn _ _ _ _ _ _ _ (hl10.lendK ZV.known Ze.mono 0 rfl hm11 om) (hl7.mono Ze.mono (Kn.le_add _ _))) ?_)))))))
 refine xN (h:=Zc rfl (fun g3=>by simp [Zib] at g3) (fun g3=>?_))
 try simp only [sQ,ne_eq] at g3
 refine Zf (Zd (Zg (Zg (Zan (keeps _ [0,7] _) mo kr ⟨Kn.le.refl _,ZbF.refl _ _⟩ (fun _ _=>?_)))))
 refine aT 0 rfl (Zah fun D B L hI=>Z8 [_,_,_,_,_] rfl rfl Ze7 rfl (ZcQ 7 (hI.2.2.1.trans rfl) rfl rfl) r4) (h:=aT 1 rfl (Zah fun D B L hI=>Z8 [_,_,_,_,_] rfl rfl Zky rfl (ZcQ 0 (hI.2.1.trans rfl) rfl rfl) r4) (h:=Z4 2 kr rfl kr (Zao rfl rfl en8 rfl (Zbg _ _ _ _ _ _ x _ hu hf hi om2) ?_)))
 rintro _ B12 _ hle12 ⟨q12,c12,l12,q12b,c12b,l12b,q12c,c12c,l12c,rfl,rfl,rfl,hv12,hv12b,hv12c⟩
 refine ⟨⟨Kn.le.refl _,t2⟩,(ZjX 9 rfl hv12 Zq.any om (fun B' hle'=>⟨hle',t2⟩) (fun B13 hle13 hr13=>?_))⟩
 replace hu:=hu.mono Zq.mono hle13
 replace hf:=hf.mono Ze.mono hle13
 replace hi:=hi.mono ZG.mono hle13
 replace hl7:=hl7.mono Ze.mono hle13
 replace hv8:=hv8.mono Zq.mono hle13
 have hr13n:=hr13.len
 refine ZeM 10 rfl hv12b ZV.known Ze.mono om (fun B' hle'=>⟨hle13.trans hle',t2⟩) (fun B14 hle14 hr14=>?_)
 replace hu:=hu.mono Zq.mono hle14
 replace hf:=hf.mono Ze.mono hle14
 replace hi:=hi.mono ZG.mono hle14
 replace hl7:=hl7.mono Ze.mono hle14
 replace hr13:=hr13.mono Zq.mono hle14
 replace hv8:=hv8.mono Zq.mono hle14
 have hr14n:=hr14.len
 refine ZeM 11 rfl hv12c Zbf.known ZG.mono om (fun B' hle'=>⟨(hle13.trans hle14).trans hle',t2⟩) (fun B15 hle15 hr15=>?_)
 replace hu:=hu.mono Zq.mono hle15
 replace hf:=hf.mono Ze.mono hle15
 replace hi:=hi.mono ZG.mono hle15
 replace hl7:=hl7.mono Ze.mono hle15
 replace hr13:=hr13.mono Zq.mono hle15
 replace hr14:=hr14.mono Ze.mono hle15
 replace hv8:=hv8.mono Zq.mono hle15
 have hr15n:=hr15.len
 refine Z4 3 kr rfl kr (Zcr [4,5,6] rfl rfl rfl rfl rfl Zud rfl (Zaa.borrowL fun hm16=>ZiD _ _ _ _ _ _ _ _ _ _ _ _ x x _ (hv8.lendK Zq.any 0 rfl hm16 om) (hv8b.lendK ZV.known Ze.mono 1 rfl hm16 om) (hv8c.lendK Zbf.known ZG.mono 2 rfl hm16 om) (hr13.mono Zq.mono (Kn.le_add _ _)) (hr14.mono Ze.mono (Kn.le_add _ _)) (hr15.mono ZG.mono (Kn.le_add _ _))) ?_)
 refine ⟨⟨((hle13.trans hle14).trans hle15),t2⟩,(aN 4 rfl (h:=Zz kr kr ?_))⟩
 refine Zd (ZH [_,_,_,_,_,_,_,_,_,_,_,_] rfl (Zc rfl (fun g4=>by simp at g4) (fun g4=>?_)))
 try simp only [sQ,ne_eq] at g4
 refine Zf (Zd (Za (xA (h:=Za (xL [_,_,_,_,_] Ze7 7 (h:=xM (h:=Zo (Zat [4,5,6] rfl rfl rfl rfl Zt5 rfl (ZfU _ _ _ _ _ _ x _ _ _ 1 oa oz oz oz _ (hv8.anyK Zq.any) hv8b hv8c) ?_))))))))
 rintro _ B17 _ hle17 ⟨rfl,l17a,l17b,l17c,rfl,rfl,hs17a,hs17b,hs17c⟩
 refine xA (h:=ZH [_,_,_,_,_,_,_,_,_,_,_,_] rfl (Zg (Za (xM (h:=ZF (h:=xM (h:=Zw (d:=44) rfl (fun g5=>by first | omega | (simp at g5;done) | (simp at g5;omega)) (fun g5=>?_))))))))
 try simp only [sQ,ne_eq] at g5
 refine xM (h:=xM (h:=Zo (Zcr [8] rfl rfl rfl rfl rfl Zrq rfl (Zaa.borrowL fun hm18=>Zbn _ _ _ _ _ _ _ (hl10.lendK ZV.known Ze.mono 0 rfl hm18 om) (hl7.mono Ze.mono (Kn.le_add _ _))) ?_)))
 refine xN (h:=xF (h:=Zc rfl (fun g6=>by simp [Zib] at g6) (fun g6=>?_)))
 try simp only [sQ,ne_eq] at g6
 refine Zf (Zd (Za (xA (h:=Za (xM (h:=xM (h:=Zo (Zat [8] rfl rfl rfl rfl Ztx rfl (ZdH _ _ (Zdw x u) _ 1 oa oz _ hl10) ?_))))))))
 rintro _ B19 _ hle19 ⟨rfl,l19,rfl,rfl,hs19⟩
 refine xA (h:=ZH [_,_,_,_,_,_,_,_,_,_,_,_] rfl (Za (xA (h:=Za (xM (h:=xM (h:=Zo (Zcr [8] rfl rfl rfl rfl rfl ZsW rfl (Zaa.borrowL fun hm20=>Zck _ _ (Zdw x u) 1 _ rfl oa _ (hs19.lendK ZV.known Ze.mono 0 rfl hm20 (by simp only [Z7,Zad,Za3,ZaU,Zc4];omega))) ?_))))))))
 refine xA (h:=Zg (Za (xM (h:=ZF (h:=Zc rfl (fun g8=>by first | omega | (simp at g8;done) | (simp at g8;omega)) (fun g8=>?_))))))
 try simp only [sQ,ne_eq] at g8
 refine Zf (Zd (Zg (Za (xM (h:=xM (h:=ZaL (h:=Zc rfl (fun g9=>by simp at g9) (fun g9=>?_))))))))
 try simp only [sQ,ne_eq] at g9
 refine Zf (Zd (Za (xL [_,_,_,_,_] Zky 0 (h:=Zo (Zao rfl rfl en8 rfl (Zbg _ _ _ _ _ _ x _ hu hf hi om2) ?_)))))
 rintro _ B21 _ hle21 ⟨q21,c21,l21,q21b,c21b,l21b,q21c,c21c,l21c,rfl,rfl,rfl,hv21,hv21b,hv21c⟩
 refine Zlh 12 rfl hv21 Zq.any om (fun B22 hle22 hr22=>?_)
 replace hu:=hu.mono Zq.mono hle22
 replace hf:=hf.mono Ze.mono hle22
 replace hi:=hi.mono ZG.mono hle22
 replace hl7:=hl7.mono Ze.mono hle22
 replace hs17a:=hs17a.mono Zq.mono hle22
 have hr22n:=hr22.len
 refine Zga 13 rfl hv21b ZV.known Ze.mono om (fun B23 hle23 hr23=>?_)
 replace hu:=hu.mono Zq.mono hle23
 replace hf:=hf.mono Ze.mono hle23
 replace hi:=hi.mono ZG.mono hle23
 replace hl7:=hl7.mono Ze.mono hle23
 replace hr22:=hr22.mono Zq.mono hle23
 replace hs17a:=hs17a.mono Zq.mono hle23
 have hr23n:=hr23.len
 refine Zga 14 rfl hv21c Zbf.known ZG.mono om (fun B24 hle24 hr24=>?_)
 replace hu:=hu.mono Zq.mono hle24
 replace hf:=hf.mono Ze.mono hle24
 replace hi:=hi.mono ZG.mono hle24
 replace hl7:=hl7.mono Ze.mono hle24
 replace hr22:=hr22.mono Zq.mono hle24
 replace hr23:=hr23.mono Ze.mono hle24
 replace hs17a:=hs17a.mono Zq.mono hle24
 have hr24n:=hr24.len
 refine xM (h:=Zo (ZbS rfl rfl ZuL rfl (ZqC hJ _ _ _ _ _ _ x u om2 om2 _ hr22 hr23 hr24) ?_))
 intro v25 B25 hle25
 rintro ⟨p25,cp25,rfl,hl25⟩
 replace hu:=hu.mono Zq.mono hle25
 replace hf:=hf.mono Ze.mono hle25
 replace hi:=hi.mono ZG.mono hle25
 replace hl7:=hl7.mono Ze.mono hle25
 replace hr22:=hr22.mono Zq.mono hle25
 replace hr23:=hr23.mono Ze.mono hle25
 replace hr24:=hr24.mono ZG.mono hle25
 replace hs17a:=hs17a.mono Zq.mono hle25
 have hl25n:=hl25.len
 refine xA (h:=ZH [_,_,_,_,_,_,_,_,_,_,_,_,_,_,_] rfl (Zg (Za (xM (h:=xM (h:=xR Zrq rfl (Zbn _ _ _ _ _ _ _ hl25 hl7) (h:=xN (h:=Zc rfl (fun ga=>by simp [Zib] at ga) (fun ga=>?_)))))))))
 try simp only [sQ,ne_eq] at ga
 refine Zf (Zd (Za (xA (h:=Za (xM (h:=xM (h:=Zo (Zcr [8] rfl rfl rfl rfl rfl ZsW rfl (Zaa.borrowL fun hm27=>Zck _ _ (Zdw x u) 1 _ rfl oa _ (hs19.lendK ZV.known Ze.mono 0 rfl hm27 (by simp only [Z7,Zad,Za3,ZaU,Zc4];omega))) ?_))))))))
 refine xA (h:=Zg (Za (xM (h:=ZF (h:=Zc rfl (fun gc=>by first | omega | (simp at gc;done) | (simp at gc;omega)) (fun gc=>?_))))))
 try simp only [sQ,ne_eq] at gc
 refine Zf (Zd (Zg (Za (xM (h:=xM (h:=ZaL (h:=Zc rfl (fun gd=>by simp at gd) (fun gd=>?_))))))))
 try simp only [sQ,ne_eq] at gd
 refine Zf (Zd (Za (xA (h:=Zi ?_))))
 exact ZB .ret (.inl rfl) [_] t1 rfl

end Go.Proofs.YtmdbkconbffmfaaGreat
