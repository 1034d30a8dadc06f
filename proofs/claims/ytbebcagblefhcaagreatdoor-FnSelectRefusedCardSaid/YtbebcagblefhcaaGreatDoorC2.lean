/-
  WHAT THE FUNCTIONS THAT THE LAWS REACH COMPUTE: each function's contract, proved off its printed body (the text is written by program). No condition beyond those that each theorem states.
-/
import Derived.Test.YtbebcagblefhcaaGreatDoorC1
namespace Go.Proofs.YtbebcagblefhcaaGreatDoor
open Go Go.BL
set_option linter.unusedVariables false
set_option linter.unusedSimpArgs false
set_option maxRecDepth 4000
set_option maxHeartbeats 6400000
variable {J : JoinT}
theorem Zbh (q1 q2 q3:Option Addr) (c1 c2 c3:Nat) (x:DHost) (B:Kn) (hu:SlK B q1 c1 3 ZA x.users) (hf:SlK B q2 c2 5 Zf x.folders) (hi:SlK B q3 c3 4 ZC x.queue.items):Zu (pj J) 57 [.agg #[str x.domain,.slice q1 x.users.length c1,.slice q2 x.folders.length c2,.int .i64 x.queue.next,.slice q3 x.queue.items.length c3]] B [] (fun v B' Ls=>∃l a c p1 d1 p3 d3,Ls=[l]∧v = .agg #[str x.domain,.slice p1 x.users.length d1,.slice a x.folders.length c,.int .i64 x.queue.next,.slice p3 x.queue.items.length d3]∧SlK B' p1 d1 3 ZA x.users∧ZT B' l a c 87 5 Zf x.folders∧SlK B' p3 d3 4 ZC x.queue.items):=by
 refine cB 35 Tryz.func57 (h:=?_)
 have hun:=hu.len
 have hfn:=hf.len
 have hin:=hi.len
 refine Za (xBx [_,_,_,_,_] (h:=fun b1=>xAl [_,_,_,_,_] Za6 (h:=fun b2=>tL2 (ZpN (α:=GHC × Gh DFolder) [0,1,2] (fun o=>[(3,ptr ⟨o.1.b,0,none⟩)]) (fun o=>[Z8 b1 [str x.domain,.slice q1 x.users.length c1,.slice q2 x.folders.length c2,.int .i64 x.queue.next,.slice q3 x.queue.items.length c3] 44,Z8 b2 [str [],.slice none 0 0,.slice none 0 0,.int .i64 0,.slice none 0 0] 44,o.2.l,Z8 o.1.b [str x.domain,.slice o.1.q1 x.users.length o.1.c1,.slice o.2.a o.2.xs.length o.2.c,.int .i64 x.queue.next,.slice o.1.q3 x.queue.items.length o.1.c3] 44]) (fun o Bx=>SlK Bx o.1.q1 o.1.c1 3 ZA x.users∧o.2.xs=[]∧ZT Bx o.2.l o.2.a o.2.c 87 5 Zf o.2.xs∧SlK Bx o.1.q3 o.1.c3 4 ZC x.queue.items) ?_ (fun o B3 hle3 hF=>?_)))))
 refine ZV (keeps _ [0] _) mo kr ⟨Kn.le.refl _,Zae.refl _ _⟩ (fun _ _=>?_)
 refine aW 0 rfl Zl0 (h:=aT 1 rfl (Zx fun D B L hI=>Ze rfl rfl lk9 rfl (atL 0 (hI.2.1.trans rfl) rfl rfl) r4) (h:=aW 3 rfl Zcg (h:=aT 4 rfl (Zx fun D B L hI=>Ze rfl rfl ZjM rfl (atL 0 (hI.2.1.trans rfl) rfl rfl) r4) (h:=aW 7 rfl ZcK (h:=aT 8 rfl (Zx fun D B L hI=>ZX [_,_] rfl rfl Zd1 rfl (Zaa 0 (hI.2.1.trans rfl) rfl rfl) r4) (h:=Zaf [2,6,11] kr kr kr ⟨?_,?_,?_⟩))))))
 refine (Zs (parts:=[]) [] rfl rfl Tryz.underlying38 ZbQ ZcN rfl rfl rfl rfl rfl (fun b4=>⟨⟨Kn.le.refl _,t1⟩,(Zaf [5,6,11] kr kr kr ⟨?_,?_,?_⟩)⟩))
 refine (ZaP (R:=ZA) 2 rfl (ZT.lit0 (R:=ZA)) rfl rfl rfl Zoi ZnR rfl rfl rfl hu.rows ZA.one rfl om (fun l5 p5 c5 hv5=>?_))
 refine ⟨⟨Kn.le.refl _,t1⟩,(ZaK 2 rfl hv5 ZA.mono om3 (fun B' hle'=>⟨hle',t1⟩) (fun B6 hle6 hr6=>?_))⟩
 obtain ⟨hu,hf,hi⟩:=up3 hle6 hu hf hi
 have hr6n:=hr6.len
 refine Zaf [6,9,11] kr kr kr ⟨?_,?_,?_⟩
 refine (Zs (parts:=[]) [] rfl rfl Tryz.underlying39 Zbo ZdQ rfl rfl rfl rfl rfl (fun b7=>⟨⟨hle6,t1⟩,(Zaf [9,11] kr kr kr ⟨?_,?_⟩)⟩))
 refine (Zbd rfl rfl Zeu rfl (Zaz _ _ x.queue _ hi) ?_)
 rintro _ B8 _ hle8 ⟨l8,a8,c8,rfl,rfl,hv8⟩
 obtain ⟨hu,hf,hi,hr6⟩:=up4 hle8 hu hf hi hr6
 replace hv8:=hv8.mono ZC.mono Kn.less_le
 refine ⟨⟨(hle6.trans hle8),t1⟩,(ZaK 4 rfl hv8 ZC.mono om3 (fun B' hle'=>⟨(hle6.trans hle8).trans hle',t1⟩) (fun B9 hle9 hr9=>?_))⟩
 obtain ⟨hu,hf,hi,hr6⟩:=up4 hle9 hu hf hi hr6
 have hr9n:=hr9.len
 refine aT 10 rfl (Zx fun D B L hI=>Zam (parts:=[(0,_),(1,_),(2,_),(3,_)]) [_,_,_,_,_] [_,_,_,_,_] rfl rfl ZdY Za6 rfl rfl rfl r4) (h:=Zo 11 kr rfl kr (Zac (l:=[_,_,_,_,_]) rfl rfl Za6 rfl (fun b10=>?_)))
 refine ⟨⟨((hle6.trans hle8).trans hle9),t1⟩,(ZO 12 kr rfl kr kr kr (ZE [_,_,_,_,_] 5 [_,_,_,_,_] rfl rfl Zau rfl rfl rfl rfl rfl rfl rfl rfl ?_))⟩
 exact ZH ⟨⟨_,_,_,_,_⟩,⟨0,0,_,_,_,[]⟩⟩ [0,1,3,5] ⟨hr6,rfl,ZT.lit0,hr9⟩ t4 rfl
 refine (Zac (l:=[_,_,_,_,_]) rfl rfl Za6 rfl (fun b11=>⟨⟨hle6,t1⟩,(Zo 9 kr rfl kr (Zbd rfl rfl Zeu rfl (Zaz _ _ x.queue _ hi) ?_))⟩))
 rintro _ B12 _ hle12 ⟨l12,a12,c12,rfl,rfl,hv12⟩
 obtain ⟨hu,hf,hi,hr6⟩:=up4 hle12 hu hf hi hr6
 replace hv12:=hv12.mono ZC.mono Kn.less_le
 refine ⟨⟨(hle6.trans hle12),t1⟩,(ZaK 5 rfl hv12 ZC.mono om3 (fun B' hle'=>⟨(hle6.trans hle12).trans hle',t1⟩) (fun B13 hle13 hr13=>?_))⟩
 obtain ⟨hu,hf,hi,hr6⟩:=up4 hle13 hu hf hi hr6
 have hr13n:=hr13.len
 refine aT 10 rfl (Zx fun D B L hI=>Zam (parts:=[(0,_),(1,_),(2,_),(3,_)]) [_,_,_,_,_] [_,_,_,_,_] rfl rfl ZdY Za6 rfl rfl rfl r4) (h:=ZO 12 kr rfl kr kr kr (ZE [_,_,_,_,_] 4 [_,_,_,_,_] rfl rfl Zau rfl rfl rfl rfl rfl rfl rfl rfl ?_))
 exact ZH ⟨⟨_,_,_,_,_⟩,⟨0,0,_,_,_,[]⟩⟩ [0,1,3,4] ⟨hr6,rfl,ZT.lit0,hr13⟩ t4 rfl
 refine (Zbd rfl rfl Zeu rfl (Zaz _ _ x.queue _ hi) ?_)
 rintro _ B14 _ hle14 ⟨l14,a14,c14,rfl,rfl,hv14⟩
 obtain ⟨hu,hf,hi,hr6⟩:=up4 hle14 hu hf hi hr6
 replace hv14:=hv14.mono ZC.mono Kn.less_le
 refine ⟨⟨(hle6.trans hle14),t1⟩,(ZaK 3 rfl hv14 ZC.mono om3 (fun B' hle'=>⟨(hle6.trans hle14).trans hle',t1⟩) (fun B15 hle15 hr15=>?_))⟩
 obtain ⟨hu,hf,hi,hr6⟩:=up4 hle15 hu hf hi hr6
 have hr15n:=hr15.len
 refine Zaf [6,11] kr kr kr ⟨?_,?_⟩
 refine (Zs (parts:=[]) [] rfl rfl Tryz.underlying39 Zbo ZdQ rfl rfl rfl rfl rfl (fun b16=>⟨⟨((hle6.trans hle14).trans hle15),t1⟩,(aT 10 rfl (Zx fun D B L hI=>Zam (parts:=[(0,_),(1,_),(2,_),(3,_)]) [_,_,_,_,_] [_,_,_,_,_] rfl rfl ZdY Za6 rfl rfl rfl r4) (h:=Zo 11 kr rfl kr (Zac (l:=[_,_,_,_,_]) rfl rfl Za6 rfl (fun b17=>?_))))⟩))
 refine ⟨⟨((hle6.trans hle14).trans hle15),t1⟩,(ZO 12 kr rfl kr kr kr (ZE [_,_,_,_,_] 5 [_,_,_,_,_] rfl rfl Zau rfl rfl rfl rfl rfl rfl rfl rfl ?_))⟩
 exact ZH ⟨⟨_,_,_,_,_⟩,⟨0,0,_,_,_,[]⟩⟩ [0,1,4,5] ⟨hr6,rfl,ZT.lit0,hr15⟩ t4 rfl
 refine (Zac (l:=[_,_,_,_,_]) rfl rfl Za6 rfl (fun b18=>⟨⟨((hle6.trans hle14).trans hle15),t1⟩,(Zo 6 kr rfl kr (Zs (parts:=[]) [] rfl rfl Tryz.underlying39 Zbo ZdQ rfl rfl rfl rfl rfl (fun b19=>?_)))⟩))
 refine ⟨⟨((hle6.trans hle14).trans hle15),t1⟩,(aT 10 rfl (Zx fun D B L hI=>Zam (parts:=[(0,_),(1,_),(2,_),(3,_)]) [_,_,_,_,_] [_,_,_,_,_] rfl rfl ZdY Za6 rfl rfl rfl r4) (h:=ZO 12 kr rfl kr kr kr (ZE [_,_,_,_,_] 4 [_,_,_,_,_] rfl rfl Zau rfl rfl rfl rfl rfl rfl rfl rfl ?_)))⟩
 exact ZH ⟨⟨_,_,_,_,_⟩,⟨0,0,_,_,_,[]⟩⟩ [0,1,5,4] ⟨hr6,rfl,ZT.lit0,hr15⟩ t4 rfl
 refine (Zac (l:=[_,_,_,_,_]) rfl rfl Za6 rfl (fun b20=>⟨⟨hle6,t1⟩,(Zaf [6,9] kr kr kr ⟨?_,?_⟩)⟩))
 refine (Zs (parts:=[]) [] rfl rfl Tryz.underlying39 Zbo ZdQ rfl rfl rfl rfl rfl (fun b21=>⟨⟨hle6,t1⟩,(Zo 9 kr rfl kr (Zbd rfl rfl Zeu rfl (Zaz _ _ x.queue _ hi) ?_))⟩))
 rintro _ B22 _ hle22 ⟨l22,a22,c22,rfl,rfl,hv22⟩
 obtain ⟨hu,hf,hi,hr6⟩:=up4 hle22 hu hf hi hr6
 replace hv22:=hv22.mono ZC.mono Kn.less_le
 refine ⟨⟨(hle6.trans hle22),t1⟩,(ZaK 5 rfl hv22 ZC.mono om3 (fun B' hle'=>⟨(hle6.trans hle22).trans hle',t1⟩) (fun B23 hle23 hr23=>?_))⟩
 obtain ⟨hu,hf,hi,hr6⟩:=up4 hle23 hu hf hi hr6
 have hr23n:=hr23.len
 refine aT 10 rfl (Zx fun D B L hI=>Zam (parts:=[(0,_),(1,_),(2,_),(3,_)]) [_,_,_,_,_] [_,_,_,_,_] rfl rfl ZdY Za6 rfl rfl rfl r4) (h:=ZO 12 kr rfl kr kr kr (ZE [_,_,_,_,_] 3 [_,_,_,_,_] rfl rfl Zau rfl rfl rfl rfl rfl rfl rfl rfl ?_))
 exact ZH ⟨⟨_,_,_,_,_⟩,⟨0,0,_,_,_,[]⟩⟩ [0,1,4,3] ⟨hr6,rfl,ZT.lit0,hr23⟩ t4 rfl
 refine (Zbd rfl rfl Zeu rfl (Zaz _ _ x.queue _ hi) ?_)
 rintro _ B24 _ hle24 ⟨l24,a24,c24,rfl,rfl,hv24⟩
 obtain ⟨hu,hf,hi,hr6⟩:=up4 hle24 hu hf hi hr6
 replace hv24:=hv24.mono ZC.mono Kn.less_le
 refine ⟨⟨(hle6.trans hle24),t1⟩,(ZaK 4 rfl hv24 ZC.mono om3 (fun B' hle'=>⟨(hle6.trans hle24).trans hle',t1⟩) (fun B25 hle25 hr25=>?_))⟩
 obtain ⟨hu,hf,hi,hr6⟩:=up4 hle25 hu hf hi hr6
 have hr25n:=hr25.len
 refine Zo 6 kr rfl kr (Zs (parts:=[]) [] rfl rfl Tryz.underlying39 Zbo ZdQ rfl rfl rfl rfl rfl (fun b26=>?_))
 refine ⟨⟨((hle6.trans hle24).trans hle25),t1⟩,(aT 10 rfl (Zx fun D B L hI=>Zam (parts:=[(0,_),(1,_),(2,_),(3,_)]) [_,_,_,_,_] [_,_,_,_,_] rfl rfl ZdY Za6 rfl rfl rfl r4) (h:=ZO 12 kr rfl kr kr kr (ZE [_,_,_,_,_] 3 [_,_,_,_,_] rfl rfl Zau rfl rfl rfl rfl rfl rfl rfl rfl ?_)))⟩
 exact ZH ⟨⟨_,_,_,_,_⟩,⟨0,0,_,_,_,[]⟩⟩ [0,1,5,3] ⟨hr6,rfl,ZT.lit0,hr25⟩ t4 rfl
 refine (Zs (parts:=[]) [] rfl rfl Tryz.underlying39 Zbo ZdQ rfl rfl rfl rfl rfl (fun b27=>⟨⟨Kn.le.refl _,t1⟩,(Zaf [5,11] kr kr kr ⟨?_,?_⟩)⟩))
 refine (ZaP (R:=ZA) 2 rfl (ZT.lit0 (R:=ZA)) rfl rfl rfl Zoi ZnR rfl rfl rfl hu.rows ZA.one rfl om (fun l28 p28 c28 hv28=>?_))
 refine ⟨⟨Kn.le.refl _,t1⟩,(ZaK 2 rfl hv28 ZA.mono om3 (fun B' hle'=>⟨hle',t1⟩) (fun B29 hle29 hr29=>?_))⟩
 obtain ⟨hu,hf,hi⟩:=up3 hle29 hu hf hi
 have hr29n:=hr29.len
 refine Zaf [9,11] kr kr kr ⟨?_,?_⟩
 refine (Zbd rfl rfl Zeu rfl (Zaz _ _ x.queue _ hi) ?_)
 rintro _ B30 _ hle30 ⟨l30,a30,c30,rfl,rfl,hv30⟩
 obtain ⟨hu,hf,hi,hr29⟩:=up4 hle30 hu hf hi hr29
 replace hv30:=hv30.mono ZC.mono Kn.less_le
 refine ⟨⟨(hle29.trans hle30),t1⟩,(ZaK 4 rfl hv30 ZC.mono om3 (fun B' hle'=>⟨(hle29.trans hle30).trans hle',t1⟩) (fun B31 hle31 hr31=>?_))⟩
 obtain ⟨hu,hf,hi,hr29⟩:=up4 hle31 hu hf hi hr29
 have hr31n:=hr31.len
 refine aT 10 rfl (Zx fun D B L hI=>Zam (parts:=[(0,_),(1,_),(2,_),(3,_)]) [_,_,_,_,_] [_,_,_,_,_] rfl rfl ZdY Za6 rfl rfl rfl r4) (h:=Zo 11 kr rfl kr (Zac (l:=[_,_,_,_,_]) rfl rfl Za6 rfl (fun b32=>?_)))
 refine ⟨⟨((hle29.trans hle30).trans hle31),t1⟩,(ZO 12 kr rfl kr kr kr (ZE [_,_,_,_,_] 5 [_,_,_,_,_] rfl rfl Zau rfl rfl rfl rfl rfl rfl rfl rfl ?_))⟩
 exact ZH ⟨⟨_,_,_,_,_⟩,⟨0,0,_,_,_,[]⟩⟩ [0,1,3,5] ⟨hr29,rfl,ZT.lit0,hr31⟩ t4 rfl
 refine (Zac (l:=[_,_,_,_,_]) rfl rfl Za6 rfl (fun b33=>⟨⟨hle29,t1⟩,(Zo 9 kr rfl kr (Zbd rfl rfl Zeu rfl (Zaz _ _ x.queue _ hi) ?_))⟩))
 rintro _ B34 _ hle34 ⟨l34,a34,c34,rfl,rfl,hv34⟩
 obtain ⟨hu,hf,hi,hr29⟩:=up4 hle34 hu hf hi hr29
 replace hv34:=hv34.mono ZC.mono Kn.less_le
 refine ⟨⟨(hle29.trans hle34),t1⟩,(ZaK 5 rfl hv34 ZC.mono om3 (fun B' hle'=>⟨(hle29.trans hle34).trans hle',t1⟩) (fun B35 hle35 hr35=>?_))⟩
 obtain ⟨hu,hf,hi,hr29⟩:=up4 hle35 hu hf hi hr29
 have hr35n:=hr35.len
 refine aT 10 rfl (Zx fun D B L hI=>Zam (parts:=[(0,_),(1,_),(2,_),(3,_)]) [_,_,_,_,_] [_,_,_,_,_] rfl rfl ZdY Za6 rfl rfl rfl r4) (h:=ZO 12 kr rfl kr kr kr (ZE [_,_,_,_,_] 4 [_,_,_,_,_] rfl rfl Zau rfl rfl rfl rfl rfl rfl rfl rfl ?_))
 exact ZH ⟨⟨_,_,_,_,_⟩,⟨0,0,_,_,_,[]⟩⟩ [0,1,3,4] ⟨hr29,rfl,ZT.lit0,hr35⟩ t4 rfl
 refine (Zac (l:=[_,_,_,_,_]) rfl rfl Za6 rfl (fun b36=>⟨⟨Kn.le.refl _,t1⟩,(Zo 5 kr rfl kr (ZaP (R:=ZA) 2 rfl (ZT.lit0 (R:=ZA)) rfl rfl rfl Zoi ZnR rfl rfl rfl hu.rows ZA.one rfl om (fun l37 p37 c37 hv37=>?_)))⟩))
 refine ⟨⟨Kn.le.refl _,t1⟩,(ZaK 2 rfl hv37 ZA.mono om3 (fun B' hle'=>⟨hle',t1⟩) (fun B38 hle38 hr38=>?_))⟩
 obtain ⟨hu,hf,hi⟩:=up3 hle38 hu hf hi
 have hr38n:=hr38.len
 refine Zo 9 kr rfl kr (Zbd rfl rfl Zeu rfl (Zaz _ _ x.queue _ hi) ?_)
 rintro _ B39 _ hle39 ⟨l39,a39,c39,rfl,rfl,hv39⟩
 obtain ⟨hu,hf,hi,hr38⟩:=up4 hle39 hu hf hi hr38
 replace hv39:=hv39.mono ZC.mono Kn.less_le
 refine ⟨⟨(hle38.trans hle39),t1⟩,(ZaK 5 rfl hv39 ZC.mono om3 (fun B' hle'=>⟨(hle38.trans hle39).trans hle',t1⟩) (fun B40 hle40 hr40=>?_))⟩
 obtain ⟨hu,hf,hi,hr38⟩:=up4 hle40 hu hf hi hr38
 have hr40n:=hr40.len
 refine aT 10 rfl (Zx fun D B L hI=>Zam (parts:=[(0,_),(1,_),(2,_),(3,_)]) [_,_,_,_,_] [_,_,_,_,_] rfl rfl ZdY Za6 rfl rfl rfl r4) (h:=ZO 12 kr rfl kr kr kr (ZE [_,_,_,_,_] 4 [_,_,_,_,_] rfl rfl Zau rfl rfl rfl rfl rfl rfl rfl rfl ?_))
 exact ZH ⟨⟨_,_,_,_,_⟩,⟨0,0,_,_,_,[]⟩⟩ [0,1,3,4] ⟨hr38,rfl,ZT.lit0,hr40⟩ t4 rfl
 refine (Zac (l:=[_,_,_,_,_]) rfl rfl Za6 rfl (fun b41=>⟨⟨Kn.le.refl _,t1⟩,(Zaf [5,6] kr kr kr ⟨?_,?_⟩)⟩))
 refine (ZaP (R:=ZA) 2 rfl (ZT.lit0 (R:=ZA)) rfl rfl rfl Zoi ZnR rfl rfl rfl hu.rows ZA.one rfl om (fun l42 p42 c42 hv42=>?_))
 refine ⟨⟨Kn.le.refl _,t1⟩,(ZaK 2 rfl hv42 ZA.mono om3 (fun B' hle'=>⟨hle',t1⟩) (fun B43 hle43 hr43=>?_))⟩
 obtain ⟨hu,hf,hi⟩:=up3 hle43 hu hf hi
 have hr43n:=hr43.len
 refine Zaf [6,9] kr kr kr ⟨?_,?_⟩
 refine (Zs (parts:=[]) [] rfl rfl Tryz.underlying39 Zbo ZdQ rfl rfl rfl rfl rfl (fun b44=>⟨⟨hle43,t1⟩,(Zo 9 kr rfl kr (Zbd rfl rfl Zeu rfl (Zaz _ _ x.queue _ hi) ?_))⟩))
 rintro _ B45 _ hle45 ⟨l45,a45,c45,rfl,rfl,hv45⟩
 obtain ⟨hu,hf,hi,hr43⟩:=up4 hle45 hu hf hi hr43
 replace hv45:=hv45.mono ZC.mono Kn.less_le
 refine ⟨⟨(hle43.trans hle45),t1⟩,(ZaK 5 rfl hv45 ZC.mono om3 (fun B' hle'=>⟨(hle43.trans hle45).trans hle',t1⟩) (fun B46 hle46 hr46=>?_))⟩
 obtain ⟨hu,hf,hi,hr43⟩:=up4 hle46 hu hf hi hr43
 have hr46n:=hr46.len
 refine aT 10 rfl (Zx fun D B L hI=>Zam (parts:=[(0,_),(1,_),(2,_),(3,_)]) [_,_,_,_,_] [_,_,_,_,_] rfl rfl ZdY Za6 rfl rfl rfl r4) (h:=ZO 12 kr rfl kr kr kr (ZE [_,_,_,_,_] 3 [_,_,_,_,_] rfl rfl Zau rfl rfl rfl rfl rfl rfl rfl rfl ?_))
 exact ZH ⟨⟨_,_,_,_,_⟩,⟨0,0,_,_,_,[]⟩⟩ [0,1,4,3] ⟨hr43,rfl,ZT.lit0,hr46⟩ t4 rfl
 refine (Zbd rfl rfl Zeu rfl (Zaz _ _ x.queue _ hi) ?_)
 rintro _ B47 _ hle47 ⟨l47,a47,c47,rfl,rfl,hv47⟩
 obtain ⟨hu,hf,hi,hr43⟩:=up4 hle47 hu hf hi hr43
 replace hv47:=hv47.mono ZC.mono Kn.less_le
 refine ⟨⟨(hle43.trans hle47),t1⟩,(ZaK 4 rfl hv47 ZC.mono om3 (fun B' hle'=>⟨(hle43.trans hle47).trans hle',t1⟩) (fun B48 hle48 hr48=>?_))⟩
 obtain ⟨hu,hf,hi,hr43⟩:=up4 hle48 hu hf hi hr43
 have hr48n:=hr48.len
 refine Zo 6 kr rfl kr (Zs (parts:=[]) [] rfl rfl Tryz.underlying39 Zbo ZdQ rfl rfl rfl rfl rfl (fun b49=>?_))
 refine ⟨⟨((hle43.trans hle47).trans hle48),t1⟩,(aT 10 rfl (Zx fun D B L hI=>Zam (parts:=[(0,_),(1,_),(2,_),(3,_)]) [_,_,_,_,_] [_,_,_,_,_] rfl rfl ZdY Za6 rfl rfl rfl r4) (h:=ZO 12 kr rfl kr kr kr (ZE [_,_,_,_,_] 3 [_,_,_,_,_] rfl rfl Zau rfl rfl rfl rfl rfl rfl rfl rfl ?_)))⟩
 exact ZH ⟨⟨_,_,_,_,_⟩,⟨0,0,_,_,_,[]⟩⟩ [0,1,5,3] ⟨hr43,rfl,ZT.lit0,hr48⟩ t4 rfl
 refine (Zs (parts:=[]) [] rfl rfl Tryz.underlying39 Zbo ZdQ rfl rfl rfl rfl rfl (fun b50=>⟨⟨Kn.le.refl _,t1⟩,(Zo 5 kr rfl kr (ZaP (R:=ZA) 2 rfl (ZT.lit0 (R:=ZA)) rfl rfl rfl Zoi ZnR rfl rfl rfl hu.rows ZA.one rfl om (fun l51 p51 c51 hv51=>?_)))⟩))
 refine ⟨⟨Kn.le.refl _,t1⟩,(ZaK 2 rfl hv51 ZA.mono om3 (fun B' hle'=>⟨hle',t1⟩) (fun B52 hle52 hr52=>?_))⟩
 obtain ⟨hu,hf,hi⟩:=up3 hle52 hu hf hi
 have hr52n:=hr52.len
 refine Zo 9 kr rfl kr (Zbd rfl rfl Zeu rfl (Zaz _ _ x.queue _ hi) ?_)
 rintro _ B53 _ hle53 ⟨l53,a53,c53,rfl,rfl,hv53⟩
 obtain ⟨hu,hf,hi,hr52⟩:=up4 hle53 hu hf hi hr52
 replace hv53:=hv53.mono ZC.mono Kn.less_le
 refine ⟨⟨(hle52.trans hle53),t1⟩,(ZaK 5 rfl hv53 ZC.mono om3 (fun B' hle'=>⟨(hle52.trans hle53).trans hle',t1⟩) (fun B54 hle54 hr54=>?_))⟩
 obtain ⟨hu,hf,hi,hr52⟩:=up4 hle54 hu hf hi hr52
 have hr54n:=hr54.len
 refine aT 10 rfl (Zx fun D B L hI=>Zam (parts:=[(0,_),(1,_),(2,_),(3,_)]) [_,_,_,_,_] [_,_,_,_,_] rfl rfl ZdY Za6 rfl rfl rfl r4) (h:=ZO 12 kr rfl kr kr kr (ZE [_,_,_,_,_] 3 [_,_,_,_,_] rfl rfl Zau rfl rfl rfl rfl rfl rfl rfl rfl ?_))
 exact ZH ⟨⟨_,_,_,_,_⟩,⟨0,0,_,_,_,[]⟩⟩ [0,1,4,3] ⟨hr52,rfl,ZT.lit0,hr54⟩ t4 rfl
 refine (Zs (parts:=[]) [] rfl rfl Tryz.underlying39 Zbo ZdQ rfl rfl rfl rfl rfl (fun b55=>⟨⟨Kn.le.refl _,t1⟩,(Zaf [2,11] kr kr kr ⟨?_,?_⟩)⟩))
 refine (Zs (parts:=[]) [] rfl rfl Tryz.underlying38 ZbQ ZcN rfl rfl rfl rfl rfl (fun b56=>⟨⟨Kn.le.refl _,t1⟩,(Zaf [5,11] kr kr kr ⟨?_,?_⟩)⟩))
 refine (ZaP (R:=ZA) 3 rfl (ZT.lit0 (R:=ZA)) rfl rfl rfl Zoi ZnR rfl rfl rfl hu.rows ZA.one rfl om (fun l57 p57 c57 hv57=>?_))
 refine ⟨⟨Kn.le.refl _,t1⟩,(ZaK 3 rfl hv57 ZA.mono om3 (fun B' hle'=>⟨hle',t1⟩) (fun B58 hle58 hr58=>?_))⟩
 obtain ⟨hu,hf,hi⟩:=up3 hle58 hu hf hi
 have hr58n:=hr58.len
 refine Zaf [9,11] kr kr kr ⟨?_,?_⟩
 refine (Zbd rfl rfl Zeu rfl (Zaz _ _ x.queue _ hi) ?_)
 rintro _ B59 _ hle59 ⟨l59,a59,c59,rfl,rfl,hv59⟩
 obtain ⟨hu,hf,hi,hr58⟩:=up4 hle59 hu hf hi hr58
 replace hv59:=hv59.mono ZC.mono Kn.less_le
 refine ⟨⟨(hle58.trans hle59),t1⟩,(ZaK 4 rfl hv59 ZC.mono om3 (fun B' hle'=>⟨(hle58.trans hle59).trans hle',t1⟩) (fun B60 hle60 hr60=>?_))⟩
 obtain ⟨hu,hf,hi,hr58⟩:=up4 hle60 hu hf hi hr58
 have hr60n:=hr60.len
 refine aT 10 rfl (Zx fun D B L hI=>Zam (parts:=[(0,_),(1,_),(2,_),(3,_)]) [_,_,_,_,_] [_,_,_,_,_] rfl rfl ZdY Za6 rfl rfl rfl r4) (h:=Zo 11 kr rfl kr (Zac (l:=[_,_,_,_,_]) rfl rfl Za6 rfl (fun b61=>?_)))
 refine ⟨⟨((hle58.trans hle59).trans hle60),t1⟩,(ZO 12 kr rfl kr kr kr (ZE [_,_,_,_,_] 5 [_,_,_,_,_] rfl rfl Zau rfl rfl rfl rfl rfl rfl rfl rfl ?_))⟩
 exact ZH ⟨⟨_,_,_,_,_⟩,⟨0,0,_,_,_,[]⟩⟩ [0,1,2,5] ⟨hr58,rfl,ZT.lit0,hr60⟩ t4 rfl
 refine (Zac (l:=[_,_,_,_,_]) rfl rfl Za6 rfl (fun b62=>⟨⟨hle58,t1⟩,(Zo 9 kr rfl kr (Zbd rfl rfl Zeu rfl (Zaz _ _ x.queue _ hi) ?_))⟩))
 rintro _ B63 _ hle63 ⟨l63,a63,c63,rfl,rfl,hv63⟩
 obtain ⟨hu,hf,hi,hr58⟩:=up4 hle63 hu hf hi hr58
 replace hv63:=hv63.mono ZC.mono Kn.less_le
 refine ⟨⟨(hle58.trans hle63),t1⟩,(ZaK 5 rfl hv63 ZC.mono om3 (fun B' hle'=>⟨(hle58.trans hle63).trans hle',t1⟩) (fun B64 hle64 hr64=>?_))⟩
 obtain ⟨hu,hf,hi,hr58⟩:=up4 hle64 hu hf hi hr58
 have hr64n:=hr64.len
 refine aT 10 rfl (Zx fun D B L hI=>Zam (parts:=[(0,_),(1,_),(2,_),(3,_)]) [_,_,_,_,_] [_,_,_,_,_] rfl rfl ZdY Za6 rfl rfl rfl r4) (h:=ZO 12 kr rfl kr kr kr (ZE [_,_,_,_,_] 4 [_,_,_,_,_] rfl rfl Zau rfl rfl rfl rfl rfl rfl rfl rfl ?_))
 exact ZH ⟨⟨_,_,_,_,_⟩,⟨0,0,_,_,_,[]⟩⟩ [0,1,2,4] ⟨hr58,rfl,ZT.lit0,hr64⟩ t4 rfl
 refine (Zac (l:=[_,_,_,_,_]) rfl rfl Za6 rfl (fun b65=>⟨⟨Kn.le.refl _,t1⟩,(Zo 5 kr rfl kr (ZaP (R:=ZA) 3 rfl (ZT.lit0 (R:=ZA)) rfl rfl rfl Zoi ZnR rfl rfl rfl hu.rows ZA.one rfl om (fun l66 p66 c66 hv66=>?_)))⟩))
 refine ⟨⟨Kn.le.refl _,t1⟩,(ZaK 3 rfl hv66 ZA.mono om3 (fun B' hle'=>⟨hle',t1⟩) (fun B67 hle67 hr67=>?_))⟩
 obtain ⟨hu,hf,hi⟩:=up3 hle67 hu hf hi
 have hr67n:=hr67.len
 refine Zo 9 kr rfl kr (Zbd rfl rfl Zeu rfl (Zaz _ _ x.queue _ hi) ?_)
 rintro _ B68 _ hle68 ⟨l68,a68,c68,rfl,rfl,hv68⟩
 obtain ⟨hu,hf,hi,hr67⟩:=up4 hle68 hu hf hi hr67
 replace hv68:=hv68.mono ZC.mono Kn.less_le
 refine ⟨⟨(hle67.trans hle68),t1⟩,(ZaK 5 rfl hv68 ZC.mono om3 (fun B' hle'=>⟨(hle67.trans hle68).trans hle',t1⟩) (fun B69 hle69 hr69=>?_))⟩
 obtain ⟨hu,hf,hi,hr67⟩:=up4 hle69 hu hf hi hr67
 have hr69n:=hr69.len
 refine aT 10 rfl (Zx fun D B L hI=>Zam (parts:=[(0,_),(1,_),(2,_),(3,_)]) [_,_,_,_,_] [_,_,_,_,_] rfl rfl ZdY Za6 rfl rfl rfl r4) (h:=ZO 12 kr rfl kr kr kr (ZE [_,_,_,_,_] 4 [_,_,_,_,_] rfl rfl Zau rfl rfl rfl rfl rfl rfl rfl rfl ?_))
 exact ZH ⟨⟨_,_,_,_,_⟩,⟨0,0,_,_,_,[]⟩⟩ [0,1,2,4] ⟨hr67,rfl,ZT.lit0,hr69⟩ t4 rfl
 refine (Zac (l:=[_,_,_,_,_]) rfl rfl Za6 rfl (fun b70=>⟨⟨Kn.le.refl _,t1⟩,(Zo 2 kr rfl kr (Zs (parts:=[]) [] rfl rfl Tryz.underlying38 ZbQ ZcN rfl rfl rfl rfl rfl (fun b71=>?_)))⟩))
 refine ⟨⟨Kn.le.refl _,t1⟩,(Zo 5 kr rfl kr (ZaP (R:=ZA) 4 rfl (ZT.lit0 (R:=ZA)) rfl rfl rfl Zoi ZnR rfl rfl rfl hu.rows ZA.one rfl om (fun l72 p72 c72 hv72=>?_)))⟩
 refine ⟨⟨Kn.le.refl _,t1⟩,(ZaK 4 rfl hv72 ZA.mono om3 (fun B' hle'=>⟨hle',t1⟩) (fun B73 hle73 hr73=>?_))⟩
 obtain ⟨hu,hf,hi⟩:=up3 hle73 hu hf hi
 have hr73n:=hr73.len
 refine Zo 9 kr rfl kr (Zbd rfl rfl Zeu rfl (Zaz _ _ x.queue _ hi) ?_)
 rintro _ B74 _ hle74 ⟨l74,a74,c74,rfl,rfl,hv74⟩
 obtain ⟨hu,hf,hi,hr73⟩:=up4 hle74 hu hf hi hr73
 replace hv74:=hv74.mono ZC.mono Kn.less_le
 refine ⟨⟨(hle73.trans hle74),t1⟩,(ZaK 5 rfl hv74 ZC.mono om3 (fun B' hle'=>⟨(hle73.trans hle74).trans hle',t1⟩) (fun B75 hle75 hr75=>?_))⟩
 obtain ⟨hu,hf,hi,hr73⟩:=up4 hle75 hu hf hi hr73
 have hr75n:=hr75.len
 refine aT 10 rfl (Zx fun D B L hI=>Zam (parts:=[(0,_),(1,_),(2,_),(3,_)]) [_,_,_,_,_] [_,_,_,_,_] rfl rfl ZdY Za6 rfl rfl rfl r4) (h:=ZO 12 kr rfl kr kr kr (ZE [_,_,_,_,_] 3 [_,_,_,_,_] rfl rfl Zau rfl rfl rfl rfl rfl rfl rfl rfl ?_))
 exact ZH ⟨⟨_,_,_,_,_⟩,⟨0,0,_,_,_,[]⟩⟩ [0,1,2,3] ⟨hr73,rfl,ZT.lit0,hr75⟩ t4 rfl
 refine (Zac (l:=[_,_,_,_,_]) rfl rfl Za6 rfl (fun b76=>⟨⟨Kn.le.refl _,t1⟩,(Zaf [2,6] kr kr kr ⟨?_,?_⟩)⟩))
 refine (Zs (parts:=[]) [] rfl rfl Tryz.underlying38 ZbQ ZcN rfl rfl rfl rfl rfl (fun b77=>⟨⟨Kn.le.refl _,t1⟩,(Zaf [5,6] kr kr kr ⟨?_,?_⟩)⟩))
 refine (ZaP (R:=ZA) 3 rfl (ZT.lit0 (R:=ZA)) rfl rfl rfl Zoi ZnR rfl rfl rfl hu.rows ZA.one rfl om (fun l78 p78 c78 hv78=>?_))
 refine ⟨⟨Kn.le.refl _,t1⟩,(ZaK 3 rfl hv78 ZA.mono om3 (fun B' hle'=>⟨hle',t1⟩) (fun B79 hle79 hr79=>?_))⟩
 obtain ⟨hu,hf,hi⟩:=up3 hle79 hu hf hi
 have hr79n:=hr79.len
 refine Zaf [6,9] kr kr kr ⟨?_,?_⟩
 refine (Zs (parts:=[]) [] rfl rfl Tryz.underlying39 Zbo ZdQ rfl rfl rfl rfl rfl (fun b80=>⟨⟨hle79,t1⟩,(Zo 9 kr rfl kr (Zbd rfl rfl Zeu rfl (Zaz _ _ x.queue _ hi) ?_))⟩))
 rintro _ B81 _ hle81 ⟨l81,a81,c81,rfl,rfl,hv81⟩
 obtain ⟨hu,hf,hi,hr79⟩:=up4 hle81 hu hf hi hr79
 replace hv81:=hv81.mono ZC.mono Kn.less_le
 refine ⟨⟨(hle79.trans hle81),t1⟩,(ZaK 5 rfl hv81 ZC.mono om3 (fun B' hle'=>⟨(hle79.trans hle81).trans hle',t1⟩) (fun B82 hle82 hr82=>?_))⟩
 obtain ⟨hu,hf,hi,hr79⟩:=up4 hle82 hu hf hi hr79
 have hr82n:=hr82.len
 refine aT 10 rfl (Zx fun D B L hI=>Zam (parts:=[(0,_),(1,_),(2,_),(3,_)]) [_,_,_,_,_] [_,_,_,_,_] rfl rfl ZdY Za6 rfl rfl rfl r4) (h:=ZO 12 kr rfl kr kr kr (ZE [_,_,_,_,_] 2 [_,_,_,_,_] rfl rfl Zau rfl rfl rfl rfl rfl rfl rfl rfl ?_))
 exact ZH ⟨⟨_,_,_,_,_⟩,⟨0,0,_,_,_,[]⟩⟩ [0,1,4,2] ⟨hr79,rfl,ZT.lit0,hr82⟩ t4 rfl
 refine (Zbd rfl rfl Zeu rfl (Zaz _ _ x.queue _ hi) ?_)
 rintro _ B83 _ hle83 ⟨l83,a83,c83,rfl,rfl,hv83⟩
 obtain ⟨hu,hf,hi,hr79⟩:=up4 hle83 hu hf hi hr79
 replace hv83:=hv83.mono ZC.mono Kn.less_le
 refine ⟨⟨(hle79.trans hle83),t1⟩,(ZaK 4 rfl hv83 ZC.mono om3 (fun B' hle'=>⟨(hle79.trans hle83).trans hle',t1⟩) (fun B84 hle84 hr84=>?_))⟩
 obtain ⟨hu,hf,hi,hr79⟩:=up4 hle84 hu hf hi hr79
 have hr84n:=hr84.len
 refine Zo 6 kr rfl kr (Zs (parts:=[]) [] rfl rfl Tryz.underlying39 Zbo ZdQ rfl rfl rfl rfl rfl (fun b85=>?_))
 refine ⟨⟨((hle79.trans hle83).trans hle84),t1⟩,(aT 10 rfl (Zx fun D B L hI=>Zam (parts:=[(0,_),(1,_),(2,_),(3,_)]) [_,_,_,_,_] [_,_,_,_,_] rfl rfl ZdY Za6 rfl rfl rfl r4) (h:=ZO 12 kr rfl kr kr kr (ZE [_,_,_,_,_] 2 [_,_,_,_,_] rfl rfl Zau rfl rfl rfl rfl rfl rfl rfl rfl ?_)))⟩
 exact ZH ⟨⟨_,_,_,_,_⟩,⟨0,0,_,_,_,[]⟩⟩ [0,1,5,2] ⟨hr79,rfl,ZT.lit0,hr84⟩ t4 rfl
 refine (Zs (parts:=[]) [] rfl rfl Tryz.underlying39 Zbo ZdQ rfl rfl rfl rfl rfl (fun b86=>⟨⟨Kn.le.refl _,t1⟩,(Zo 5 kr rfl kr (ZaP (R:=ZA) 3 rfl (ZT.lit0 (R:=ZA)) rfl rfl rfl Zoi ZnR rfl rfl rfl hu.rows ZA.one rfl om (fun l87 p87 c87 hv87=>?_)))⟩))
 refine ⟨⟨Kn.le.refl _,t1⟩,(ZaK 3 rfl hv87 ZA.mono om3 (fun B' hle'=>⟨hle',t1⟩) (fun B88 hle88 hr88=>?_))⟩
 obtain ⟨hu,hf,hi⟩:=up3 hle88 hu hf hi
 have hr88n:=hr88.len
 refine Zo 9 kr rfl kr (Zbd rfl rfl Zeu rfl (Zaz _ _ x.queue _ hi) ?_)
 rintro _ B89 _ hle89 ⟨l89,a89,c89,rfl,rfl,hv89⟩
 obtain ⟨hu,hf,hi,hr88⟩:=up4 hle89 hu hf hi hr88
 replace hv89:=hv89.mono ZC.mono Kn.less_le
 refine ⟨⟨(hle88.trans hle89),t1⟩,(ZaK 5 rfl hv89 ZC.mono om3 (fun B' hle'=>⟨(hle88.trans hle89).trans hle',t1⟩) (fun B90 hle90 hr90=>?_))⟩
 obtain ⟨hu,hf,hi,hr88⟩:=up4 hle90 hu hf hi hr88
 have hr90n:=hr90.len
 refine aT 10 rfl (Zx fun D B L hI=>Zam (parts:=[(0,_),(1,_),(2,_),(3,_)]) [_,_,_,_,_] [_,_,_,_,_] rfl rfl ZdY Za6 rfl rfl rfl r4) (h:=ZO 12 kr rfl kr kr kr (ZE [_,_,_,_,_] 2 [_,_,_,_,_] rfl rfl Zau rfl rfl rfl rfl rfl rfl rfl rfl ?_))
 exact ZH ⟨⟨_,_,_,_,_⟩,⟨0,0,_,_,_,[]⟩⟩ [0,1,4,2] ⟨hr88,rfl,ZT.lit0,hr90⟩ t4 rfl
 refine (Zs (parts:=[]) [] rfl rfl Tryz.underlying39 Zbo ZdQ rfl rfl rfl rfl rfl (fun b91=>⟨⟨Kn.le.refl _,t1⟩,(Zo 2 kr rfl kr (Zs (parts:=[]) [] rfl rfl Tryz.underlying38 ZbQ ZcN rfl rfl rfl rfl rfl (fun b92=>?_)))⟩))
 refine ⟨⟨Kn.le.refl _,t1⟩,(Zo 5 kr rfl kr (ZaP (R:=ZA) 4 rfl (ZT.lit0 (R:=ZA)) rfl rfl rfl Zoi ZnR rfl rfl rfl hu.rows ZA.one rfl om (fun l93 p93 c93 hv93=>?_)))⟩
 refine ⟨⟨Kn.le.refl _,t1⟩,(ZaK 4 rfl hv93 ZA.mono om3 (fun B' hle'=>⟨hle',t1⟩) (fun B94 hle94 hr94=>?_))⟩
 obtain ⟨hf,hi⟩:=up2 hle94 hf hi
 have hr94n:=hr94.len
 refine Zo 9 kr rfl kr (Zbd rfl rfl Zeu rfl (Zaz _ _ x.queue _ hi) ?_)
 rintro _ B95 _ hle95 ⟨l95,a95,c95,rfl,rfl,hv95⟩
 obtain ⟨hf,hr94⟩:=up2 hle95 hf hr94
 replace hv95:=hv95.mono ZC.mono Kn.less_le
 refine ⟨⟨(hle94.trans hle95),t1⟩,(ZaK 5 rfl hv95 ZC.mono om3 (fun B' hle'=>⟨(hle94.trans hle95).trans hle',t1⟩) (fun B96 hle96 hr96=>?_))⟩
 obtain ⟨hf,hr94⟩:=up2 hle96 hf hr94
 have hr96n:=hr96.len
 refine aT 10 rfl (Zx fun D B L hI=>Zam (parts:=[(0,_),(1,_),(2,_),(3,_)]) [_,_,_,_,_] [_,_,_,_,_] rfl rfl ZdY Za6 rfl rfl rfl r4) (h:=ZO 12 kr rfl kr kr kr (ZE [_,_,_,_,_] 2 [_,_,_,_,_] rfl rfl Zau rfl rfl rfl rfl rfl rfl rfl rfl ?_))
 exact ZH ⟨⟨_,_,_,_,_⟩,⟨0,0,_,_,_,[]⟩⟩ [0,1,3,2] ⟨hr94,rfl,ZT.lit0,hr96⟩ t4 rfl
 obtain ⟨hou,hoe,hv0,hoi⟩:=hF
 replace hf:=up1 hle3 hf
 refine ZN [(0,_),(1,_),(2,_),(3,_)] [_,_,_,_] t4 rfl (Zh (Za (xA (h:=Zn (ZQ (α:=Gh DFolder) [0,1,2,3] (fun g=>[(4,.int .i64 g.k)]) [2,3] (fun g=>[g.l,Z8 o.1.b [str x.domain,.slice o.1.q1 x.users.length o.1.c1,.slice g.a g.xs.length g.c,.int .i64 x.queue.next,.slice o.1.q3 x.queue.items.length o.1.c3] 44]) (fun g Bx=>g.k≤x.folders.length∧g.xs=x.folders.take g.k∧ZT Bx g.l g.a g.c 87 5 Zf g.xs) (fun g=>x.folders.length - g.k) ⟨0,0,_,_,_,_⟩ t1 rfl (⟨Nat.zero_le _,by rw [hoe];rfl,hv0⟩) (fun g B97 hle97 hI=>?_))))))
 obtain ⟨hk,hxs,hv⟩:=hI
 have hxn:=congrArg List.length hxs
 rw [List.length_take] at hxn
 obtain ⟨hf,hou,hoi⟩:=up3 hle97 hf hou hoi
 refine ZN [(0,_),(1,_),(2,_),(3,_),(4,_)] [_,_,_,_] t5 rfl (Zh (Za (xM (h:=xW Z1 (h:=x1 ZcM 0 (h:=xV Tryz.underlying39 (h:=Zag (h:=Zb rfl (fun g1=>?_) (fun g1=>?_)))))))))
 try simp only [sQ,ne_eq] at g1
 refine wSk (Zh (Zn (ZV (keeps _ [0,3] _) mo kr ⟨Kn.le.refl _,Zae.refl _ _⟩ (fun _ _=>?_))))
 refine aW 0 rfl Z1 (h:=aT 1 rfl (Zx fun D B L hI=>Ze rfl rfl ZcM rfl (atL 3 (hI.2.2.1.trans rfl) rfl rfl) r4) (h:=aW 2 rfl Z1 (h:=aT 3 rfl (Zx fun D B L hI=>Ze rfl rfl ZcM rfl (atL 0 (hI.2.1.trans rfl) rfl rfl) r4) (h:=aM 4 rfl (h:=?_)))))
 obtain ⟨w,hw⟩:=ZaA (xs:=x.folders) (i:=g.k) om
 obtain ⟨bb99,oo99,rfl⟩:=hf.base hw
 obtain ⟨_,⟨qg100,cg100,qm100,cm100,rfl,hg100,hm100,hb100,hb100b⟩,hc100⟩:=hf.elem hw
 have hg100n:=hg100.len
 have hm100n:=hm100.len
 have hm100s:=Z5 hm100
 refine aIx 5 rfl Tryz.underlying39 Zbo (h:=aT 6 rfl (Zx fun D B L hI=>ZX [_,_,_,_,_] rfl rfl ZhP rfl (ZmN (hc100.mono hI.1) 0 rfl rfl) r4) (h:=Zo 7 kr rfl kr (Zbd rfl rfl Zzn rfl (Zm6 _ _ _ _ w _ hg100 hm100) ?_)))
 rintro _ B101 _ hle101 ⟨rfl,l101,a101,c101,l101b,a101b,c101b,rfl,rfl,hs101,hs101b⟩
 refine ⟨⟨Kn.le.refl _,t2⟩,(ZaK 4 rfl hs101 Z0.mono om3 (fun B' hle'=>⟨hle',t2⟩) (fun B102 hle102 hr102=>?_))⟩
 replace hv:=hv.mono Zf.mono hle102
 replace hou:=hou.mono ZA.mono hle102
 replace hoi:=hoi.mono ZC.mono hle102
 replace hs101b:=hs101b.mono ZS.mono hle102
 have hr102n:=hr102.len
 refine ZaK 5 rfl hs101b ZS.mono (by first | omega | decide | (simp;done) | (simp;omega)) (fun B' hle'=>⟨hle102.trans hle',⟨rfl,rfl,trivial⟩⟩) (fun B103 hle103 hr103=>?_)
 replace hr102:=up1 hle103 hr102
 replace hv:=hv.mono Zf.mono hle103
 obtain ⟨hou,hoi⟩:=up2 hle103 hou hoi
 have hr103n:=hr103.len
 refine Zo 8 kr rfl kr (Zs (parts:=[(0,_)]) [_,_,_,_,_] rfl rfl Tryz.underlying39 Zbo ZdQ rfl rfl rfl rfl rfl (fun b104=>?_))
 refine ⟨⟨(hle102.trans hle103),t2⟩,(Zo 9 kr rfl kr (Zbe (z:=⟨w.owner,w.name,w.grants,w.next,w.mail⟩) (R:=Zf) 2 rfl hv rfl rfl rfl Zi2 Zji rfl rfl (ZaO.box 6 rfl) rfl rfl (⟨_,_,_,_,rfl,hr102,hr103,by first | assumption | omega | (simp;done) | (simp;omega),by first | assumption | omega | (simp;done) | (simp;omega)⟩) om (fun l105 p105 c105 hv105=>?_)))⟩
 refine ⟨⟨(hle102.trans hle103),t2⟩,(aW 10 rfl Z1 (h:=ZO 11 kr rfl kr kr kr (ZE [_] 3 [_,_,_,_,_] rfl rfl ZrT rfl rfl rfl rfl rfl rfl rfl rfl ?_)))⟩
 refine Zw (Zj (Zc (xM (h:=xD (h:=xA (h:=?_))))))
 exact ZD ⟨g.k+1,0,l105,p105,c105,(g.xs ++ [⟨w.owner,w.name,w.grants,w.next,w.mail⟩])⟩ [0,1,2,3] so2 ⟨so,by simp only [];rw [Zaw hw,hxs],hv105⟩ t5 rfl
 try simp only [sQ,ne_eq] at g1
 have hxe:g.xs=x.folders:=by rw [hxs];exact List.take_of_length_le oz
 refine ZU (Zak (Z3 (ZK (Zj (Za (xL [_,_,_,_,_] ZY 3 (h:=xS [_,_,_,_,_] 1 [_,_,_,_,_] Zau (h:=tL4 (Zd ?_)))))))))
 exact Zat .ret (.inl rfl) [_] [2] rfl ⟨⟨_,rfl,.inr ⟨[_,_,_,_,_],ZY,Zaa 1 rfl rfl rfl,rfl⟩⟩,trivial⟩ ⟨_,_,_,_,_,_,_,rfl,by rw [← hxe];rfl,hou,hxe ▸ hv,hoi⟩

theorem ZiE (q:Option Addr) (cp:Nat) (x:DBox) (fl:Int) (t:Str) (ht:t.length≤2000000) (hb:Zbm x=true) (B:Kn) (hm:SlK B q cp 3 ZS x.mail):Zu (pj J) 112 [.agg #[.int .i64 x.next,.slice q x.mail.length cp],.int .i64 fl,str t] B [] (fun v B' Ls=>∃l a c,Ls=[l]∧v = .tuple #[.agg #[.int .i64 (Zg3 x fl t).1.next,.slice a (Zg3 x fl t).1.mail.length c],.bool (Zg3 x fl t).2]∧ZT B' l a c 89 3 ZS (Zg3 x fl t).1.mail):=by
 refine cB 36 Tryz.func112 (h:=?_)
 have hxn:=hm.len
 have hbn:=Zdq hb
 refine Za (xBx [_,_] (h:=fun b1=>xAl [_,_] Zfo (h:=fun b2=>xA (h:=tL2 (Za (xL [_,_] ZbT 0 (h:=xC Zvi rfl (ZiD _ _ (⟨x.next,x.mail⟩:DBox) _ hm) (h:=?_))))))))
 rintro _ B3 _ hle3 ⟨hB3,l3,a3,c3,rfl,rfl,hs3⟩
 have hB3:=hB3.symm
 subst hB3
 refine xAl [_,_] Zfo (h:=fun b4=>xS [_,_] 3 [_,_] ZcQ (h:=tL4 (Zh (Za (xW Za0 (h:=x1 Zgc 0 (h:=xV Tryz.underlying83 (h:=ZdN (h:=xM (h:=Zq (d:=15) rfl (fun g1=>?_) (fun g1=>?_)))))))))))
 try simp only [sQ,ne_eq] at g1
 have hae:=Zmo (fl:=fl) (t:=t) (b:=x) (.inl oz)
 rw [hae]
 refine xP (h:=xP (h:=xP (h:=xT (h:=Zb (t:=true) rfl (fun _=>Za (xL [_,_] ZbT 3 (h:=xS [_,_] 1 [_,_] ZcQ (h:=xA (h:=tL4 (Zd (Zp ?_))))))) (fun h=>Bool.noConfusion h)))))
 exact Zat .ret (.inl rfl) [_,_] [2] rfl ⟨⟨_,rfl,.inr ⟨[_,_],ZbT,Zaa 1 rfl rfl rfl,rfl⟩⟩,rfl,trivial⟩ ⟨_,_,_,rfl,rfl,hs3⟩
 try simp only [sQ,ne_eq] at g1
 refine xW ZcP (h:=x1 lk3 0 (h:=ZbG (h:=xF (h:=Zb rfl (fun g2=>?_) (fun g2=>?_)))))
 try simp only [sQ,ne_eq] at g2
 have hae:=Zmo (fl:=fl) (t:=t) (b:=x) (.inr oz)
 rw [hae]
 refine Za (xL [_,_] ZbT 3 (h:=xS [_,_] 1 [_,_] ZcQ (h:=xA (h:=tL4 (Zd (Zp ?_))))))
 exact Zat .ret (.inl rfl) [_,_] [2] rfl ⟨⟨_,rfl,.inr ⟨[_,_],ZbT,Zaa 1 rfl rfl rfl,rfl⟩⟩,rfl,trivial⟩ ⟨_,_,_,rfl,rfl,hs3⟩
 try simp only [sQ,ne_eq] at g2
 have hae:=Zvr (fl:=fl) (t:=t) (b:=x) oz
 rw [hae]
 refine wSk (Za (xW Za0 (h:=x1 Zgc 3 (h:=xW ZcP (h:=x1 lk3 0 (h:=xM (h:=xM (h:=xB [(0,_),(1,_),(2,_)] [_,_,_] [_,_,_] ZzI Zou (h:=xBs [(0,_)] [_,_,_] Tryz.underlying83 ZhC Zou (h:=fun b5=>Zm (Zbe (z:=⟨x.next,fl,t⟩) (R:=ZS) 2 rfl hs3 rfl rfl rfl Zxd Zw9 rfl rfl (ZaO.box 4 rfl) rfl rfl (⟨rfl,by first | assumption | omega | (simp;done) | (simp;omega)⟩) om (fun l6 p6 c6 hv6=>?_))))))))))))
 refine xW Za0 (h:=xS [_] 3 [_,_] ZxD (h:=tL5 (Za (xW ZcP (h:=x1 lk3 0 (h:=xD (h:=xW ZcP (h:=xS [_] 3 [_,_] sz3 (h:=tL5 (Za (xL [_,_] ZbT 3 (h:=xS [_,_] 1 [_,_] ZcQ (h:=xA (h:=tL5 (Zd ?_)))))))))))))))
 exact Zat .ret (.inl rfl) [_,_] [2] rfl ⟨⟨_,rfl,.inr ⟨[_,_],ZbT,Zaa 1 rfl rfl rfl,rfl⟩⟩,rfl,trivial⟩ ⟨_,_,_,rfl,rfl,hv6⟩

theorem ZhQ (q1 q2 q3:Option Addr) (c1 c2 c3:Nat) (x:DHost) (k fl:Int) (t:Str) (ht:t.length≤20) (hok:Zz x=true) (hk0:0≤k) (hk1:k<x.folders.length) (hd:x.domain.length≤2000000) (B:Kn) (hu:SlK B q1 c1 3 ZA x.users) (hf:SlK B q2 c2 5 Zf x.folders) (hi:SlK B q3 c3 4 ZC x.queue.items):Zu (pj J) 66 [.agg #[str x.domain,.slice q1 x.users.length c1,.slice q2 x.folders.length c2,.int .i64 x.queue.next,.slice q3 x.queue.items.length c3],.int .i64 k,.int .i64 fl,str t] B [] (fun v B' Ls=>Ls=[]∧∃p1 d1 p2 d2 p3 d3,v = .tuple #[.agg #[str (ZbL x k.toNat fl t).1.domain,.slice p1 (ZbL x k.toNat fl t).1.users.length d1,.slice p2 (ZbL x k.toNat fl t).1.folders.length d2,.int .i64 (ZbL x k.toNat fl t).1.queue.next,.slice p3 (ZbL x k.toNat fl t).1.queue.items.length d3],.int .i64 (ZbL x k.toNat fl t).2]∧SlK B' p1 d1 3 ZA (ZbL x k.toNat fl t).1.users∧SlK B' p2 d2 5 Zf (ZbL x k.toNat fl t).1.folders∧SlK B' p3 d3 4 ZC (ZbL x k.toNat fl t).1.queue.items∧(ZbL x k.toNat fl t).1.domain.length≤2000000):=by
 refine cB 61 Tryz.func66 (h:=?_)
 have hun:=hu.len
 have hfn:=hf.len
 have hin:=hi.len
 obtain ⟨f,hf0⟩ :∃f,x.folders[k.toNat]? = some f:=⟨_,List.getElem?_eq_getElem oz⟩
 have hfo:=Zbt hok hf0
 have hbo:=Zb3 hfo
 have hub:=Znd hok f.owner
 have hoi:0≤ZdO x.users f.owner:=Zcn.2 (Zsx hfo)
 have hol:=ZqS x.users f.owner
 refine Za (xBx [_,_,_,_,_] (h:=fun b1=>xAl [_,_,_,_,_] Za6 (h:=fun b2=>xA (h:=tL2 (Za (xL [_,_,_,_,_] ZY 0 (h:=xC Zol rfl (Zbh _ _ _ _ _ _ x _ hu hf hi) (h:=?_))))))))
 rintro _ B3 _ hle3 ⟨l3,a3,c3,q13,c13,q33,c33,rfl,rfl,hu3,hs3,hi3⟩
 obtain ⟨hu,hf⟩:=up2 hle3 hu hf
 have hu3n:=hu3.len
 have hi3n:=hi3.len
 refine xAl [_,_,_,_,_] Za6 (h:=fun b4=>xS [_,_,_,_,_] 3 [_,_,_,_,_] Zau (h:=tL4 (Za (xW Z1 (h:=x1 ZcM 0 (h:=xM (h:=?_)))))))
 obtain ⟨bb5,oo5,rfl⟩:=hf.base hf0
 obtain ⟨_,⟨qg6,cg6,qm6,cm6,rfl,hg6,hm6,hb6,hb6b⟩,hc6⟩:=hf.elem hf0
 have hg6n:=hg6.len
 have hm6n:=hm6.len
 have hm6s:=Z5 hm6
 refine xIx Tryz.underlying39 Zbo (h:=xW Zc8 (h:=y1 lk9 hc6 0 (h:=xA (h:=Zh (Zh (ZV (same _ _) mo kr ⟨rfl,rfl⟩ (fun _ _=>?_)))))))
 refine aT 0 rfl (Zaj fun D=>ZX [_,_,_,_,_] rfl rfl ZY rfl (Zaa 0 rfl rfl rfl) r4) (h:=aM 1 rfl (h:=aT 2 rfl (Zaj fun D=>ZaF rfl rfl Zzw rfl (ZlK _ _ _ _ _ _ x _ _ hf) r4) (h:=aM 3 rfl (h:=aT 4 rfl (Zaj fun D=>ZpP rfl rfl Tryz.underlying9 rfl r4) (h:=aD 5 rfl (h:=aW 6 rfl Zcg (h:=aT 7 rfl (Zaj fun D=>Ze rfl rfl ZjM rfl (atL 0 rfl rfl rfl) r4) (h:=aW 8 rfl Zcg (h:=aT 9 rfl (Zaj fun D=>Ze rfl rfl ZjM rfl (atL 0 rfl rfl rfl) r4) (h:=aM 10 rfl (h:=aT 11 rfl (Zaj fun D=>ZaF rfl rfl ZtZ rfl (Zc6 _ _ _ _ _ hu) r4) (h:=?_))))))))))))
 obtain ⟨w,hw⟩:=Zey (xs:=x.users) (i:=(ZdO x.users f.owner)) om om
 obtain ⟨bb10,oo10,rfl⟩:=hu.base hw
 obtain ⟨_,⟨rfl,hb11,hb11b⟩,hc11⟩:=hu.elem hw
 refine aIx 12 rfl Tryz.underlying38 ZbQ (h:=?_)
 have hqe:Zeb x.users f.owner=w.quota:=by simp only [Zeb,hw]
 refine aW 13 rfl Zf3 (h:=aT 14 rfl (Zaj fun D=>Ze rfl rfl lk3 rfl (hc11 _ 2 _ rfl) r4) (h:=ZnE 15 rfl (h:=Zv kr kr ?_)))
 refine Zj (Zb rfl (fun g1=>?_) (fun g1=>?_))
 try simp only [sQ,ne_eq] at g1
 refine Za (xL [_,_,_,_,_] ZY 3 (h:=ZZ 2 rfl hs3 Zf.mono om3 (fun B12 hle12 hr12=>?_)))
 obtain ⟨hu3,hi3⟩:=up2 hle12 hu3 hi3
 have hr12n:=hr12.len
 refine xS [_,_,_,_,_] 1 [_,_,_,_,_] Zau (h:=?_)
 rw [ZmV hf0 oz]
 refine xA (h:=tL4 (Zd (Zp ?_)))
 exact Zat .ret (.inl rfl) [_,_] [] rfl ⟨⟨_,rfl,.inr ⟨[_,_,_,_,_],ZY,Zaa 1 rfl rfl rfl,rfl⟩⟩,rfl,trivial⟩ ⟨rfl,_,_,_,_,_,_,(by first | rfl | (simp only [DHost.withFolders,List.length_set];rfl)),hu3,hr12,hi3,by first | assumption | (rw [ZR.2.2.1];assumption)⟩
 try simp only [sQ,ne_eq] at g1
 have hal:=Zty (⟨f.next,f.mail⟩:DBox) fl t
 have hfl:=hbo
 have hfm:f.mail.length≤10:=(Zdq hbo).2.2
 replace hal:(Zg3 (⟨f.next,f.mail⟩:DBox) fl t).1.mail.length≤f.mail.length+1:=hal
 refine wSk (Za (xW Z1 (h:=x1 ZcM 0 (h:=xM (h:=xIx Tryz.underlying39 Zbo (h:=xW Zcx (h:=yL [_,_] ZbT hc6 3 (h:=xM (h:=xM (h:=xC ZwQ rfl (ZiE _ _ (⟨f.next,f.mail⟩:DBox) fl t oz (oy) _ hm6) (h:=?_)))))))))))
 rintro _ B13 _ hle13 ⟨l13,a13,c13,rfl,rfl,hs13⟩
 replace hs3:=hs3.mono Zf.mono hle13
 replace hu3:=hu3.mono ZA.mono hle13
 replace hi3:=hi3.mono ZC.mono hle13
 replace hs13:=hs13.anyK (B':=B13) ZS.any
 refine xM (h:=xE (h:=ZZ 4 rfl hs13 ZS.mono om3 (fun B14 hle14 hr14=>?_)))
 replace hs3:=hs3.mono Zf.mono hle14
 replace hu3:=hu3.mono ZA.mono hle14
 replace hi3:=hi3.mono ZC.mono hle14
 have hr14n:=hr14.len
 refine xE (h:=xAl [_,_] Zfo (h:=fun b15=>xS [_,_] 5 [_,_] ZcQ (h:=xA (h:=tL6 (Zh (Za (xM (h:=xN (h:=Zb rfl (fun g2=>?_) (fun g2=>?_))))))))))
 try simp only [sQ,ne_eq] at g2
 refine Za ?_
 refine Zm (ZX [_,_,_,_,_] rfl rfl ZY rfl (Zaa 3 rfl rfl rfl) ?_)
 refine ZZ 2 rfl hs3 Zf.mono (by first | omega | decide | (simp;done) | (simp;omega)) (fun B16 hle16 hr16=>?_)
 obtain ⟨hu3,hi3,hr14⟩:=up3 hle16 hu3 hi3 hr14
 have hr16n:=hr16.len
 refine xS [_,_,_,_,_] 1 [_,_,_,_,_] Zau (h:=?_)
 rw [ZoP hf0 oz g2]
 refine xA (h:=tL6 (Zd (Zp ?_)))
 exact Zat .ret (.inl rfl) [_,_] [] rfl ⟨⟨_,rfl,.inr ⟨[_,_,_,_,_],ZY,Zaa 1 rfl rfl rfl,rfl⟩⟩,rfl,trivial⟩ ⟨rfl,_,_,_,_,_,_,(by first | rfl | (simp only [DHost.withFolders,List.length_set];rfl)),hu3,hr16,hi3,by first | assumption | (rw [ZR.2.2.1];assumption)⟩
 try simp only [sQ,ne_eq] at g2
 refine wSk (Za (xW Z1 (h:=x1 ZcM 3 (h:=xM (h:=xL [_,_] ZbT 5 (h:=?_))))))
 obtain ⟨bb17,_,hp17,⟨qg17,cg17,qm17,cm17,rfl,hg17,hm17,hb17,hb17b⟩,hw17,hc17⟩:=hs3.row hf0
 have hg17n:=hg17.len
 have hm17n:=hm17.len
 have hm17s:=Z5 hm17
 refine xIp hp17 Tryz.underlying39 Zbo (h:=xW Zcx (h:=Zm (ZeA (k:=(k).toNat) (off:=3) (⟨f.owner,f.name,f.grants,(Zg3 f.box fl t).1.next,(Zg3 f.box fl t).1.mail⟩) [_,_] 2 hs3 hp17 hf0 rfl rfl ZcQ rfl rfl rfl rfl rfl rfl (by rintro _ ⟨_,_,_,_,rfl,e1,_,e3,e4⟩;exact ⟨_,_,_,_,rfl,e1,hr14,e3,e4⟩) (fun l18 hv18=>?_))))
 refine tL6 (Za (xL [_,_,_,_,_] ZY 3 (h:=ZZ 2 rfl hv18 Zf.mono om3 (fun B19 hle19 hr19=>?_))))
 obtain ⟨hu3,hi3⟩:=up2 hle19 hu3 hi3
 have hr19n:=hr19.len
 refine xS [_,_,_,_,_] 1 [_,_,_,_,_] Zau (h:=?_)
 rw [ZoQ hf0 oz (show (Zg3 (⟨f.next,f.mail⟩:DBox) fl t).2=true by simpa using g2)]
 refine xA (h:=tL6 (Zd ?_))
 exact Zat .ret (.inl rfl) [_,_] [] rfl ⟨⟨_,rfl,.inr ⟨[_,_,_,_,_],ZY,Zaa 1 rfl rfl rfl,rfl⟩⟩,rfl,trivial⟩ ⟨rfl,_,_,_,_,_,_,(by first | rfl | (simp only [DHost.withFolders,List.length_set];rfl)),hu3,hr19,hi3,by first | assumption | (rw [ZR.2.2.1];assumption)⟩

theorem Zqd (q1 q2 q3:Option Addr) (c1 c2 c3:Nat) (x:DHost) (by_ o n:Str) (fl:Int) (t:Str) (hb:by_.length≤2000000) (ho:o.length≤2000000) (hn:n.length≤2000000) (ht:t.length≤2000000) (hd:x.domain.length≤2000000) (B:Kn) (hu:SlK B q1 c1 3 ZA x.users) (hf:SlK B q2 c2 5 Zf x.folders) (hi:SlK B q3 c3 4 ZC x.queue.items):Zu (pj J) 260 [.agg #[str x.domain,.slice q1 x.users.length c1,.slice q2 x.folders.length c2,.int .i64 x.queue.next,.slice q3 x.queue.items.length c3],str by_,str o,str n,.int .i64 fl,str t] B [] (fun v B' Ls=>Ls=[]∧∃p1 d1 p2 d2 p3 d3,v = .tuple #[.agg #[str (Zky x by_ o n fl t).1.domain,.slice p1 (Zky x by_ o n fl t).1.users.length d1,.slice p2 (Zky x by_ o n fl t).1.folders.length d2,.int .i64 (Zky x by_ o n fl t).1.queue.next,.slice p3 (Zky x by_ o n fl t).1.queue.items.length d3],.int .i64 (Zky x by_ o n fl t).2]∧SlK B' p1 d1 3 ZA (Zky x by_ o n fl t).1.users∧SlK B' p2 d2 5 Zf (Zky x by_ o n fl t).1.folders∧SlK B' p3 d3 4 ZC (Zky x by_ o n fl t).1.queue.items∧(Zky x by_ o n fl t).1.domain.length≤2000000):=by
 refine cB 50 Tryz.func260 (h:=?_)
 have hun:=hu.len
 have hfn:=hf.len
 have hin:=hi.len
 have hix:=Zdb (inF o n) x.folders
 refine Za (xBx [_,_,_,_,_] (h:=fun b1=>xAl [_,_,_,_,_] Za6 (h:=fun b2=>xA (h:=tL2 (Zh (Za (xL [_,_,_,_,_] ZY 0 (h:=xR Zrl rfl (Zbp _ _ _ _ _ _ x om2 _ hu hf hi) (h:=?_)))))))))
 refine xN (h:=xM (h:=Zq (d:=19) rfl (fun g1=>?_) (fun g1=>?_)))
 try simp only [sQ,ne_eq] at g1
 rw [Zky,if_pos (by simp [g1])]
 refine xP (h:=xP (h:=xP (h:=xT (h:=xM (h:=xP (h:=xP (h:=xP (h:=xT (h:=Zb (t:=true) rfl (fun _=>Za (xB [] [_,_,_,_,_] [_,_,_,_,_] ZdY Za6 (h:=xS [_,_,_,_,_] 1 [_,_,_,_,_] Zau (h:=xA (h:=tL2 (Zd (Zp ?_))))))) (fun h=>Bool.noConfusion h))))))))))
 exact Zat .ret (.inl rfl) [_,_] [] rfl ⟨⟨_,rfl,.inr ⟨[_,_,_,_,_],ZY,Zaa 1 rfl rfl rfl,rfl⟩⟩,rfl,trivial⟩ ⟨rfl,none,0,none,0,none,0,rfl,SlK.nil,SlK.nil,SlK.nil,by simp [ZaU]⟩
 try simp only [sQ,ne_eq] at g1
 refine xM (h:=xR Zrp rfl (Zfa _ _) (h:=xN (h:=xF (h:=xM (h:=Zq (d:=24) rfl (fun g2=>?_) (fun g2=>?_))))))
 try simp only [sQ,ne_eq] at g2
 rw [Zky,if_pos (by simp [ZaW,g2])]
 refine xP (h:=xP (h:=xP (h:=xT (h:=Zb (t:=true) rfl (fun _=>Za (xB [] [_,_,_,_,_] [_,_,_,_,_] ZdY Za6 (h:=xS [_,_,_,_,_] 1 [_,_,_,_,_] Zau (h:=xA (h:=tL2 (Zd (Zp ?_))))))) (fun h=>Bool.noConfusion h)))))
 exact Zat .ret (.inl rfl) [_,_] [] rfl ⟨⟨_,rfl,.inr ⟨[_,_,_,_,_],ZY,Zaa 1 rfl rfl rfl,rfl⟩⟩,rfl,trivial⟩ ⟨rfl,none,0,none,0,none,0,rfl,SlK.nil,SlK.nil,SlK.nil,by simp [ZaU]⟩
 try simp only [sQ,ne_eq] at g2
 refine xM (h:=xVs Tryz.underlying9 (h:=ZbG (h:=xF (h:=Zb rfl (fun g3=>?_) (fun g3=>?_)))))
 try simp only [sQ,ne_eq] at g3
 rw [Zky,if_pos (by simp;omega)]
 refine Za (xB [] [_,_,_,_,_] [_,_,_,_,_] ZdY Za6 (h:=xS [_,_,_,_,_] 1 [_,_,_,_,_] Zau (h:=xA (h:=tL2 (Zd (Zp ?_))))))
 exact Zat .ret (.inl rfl) [_,_] [] rfl ⟨⟨_,rfl,.inr ⟨[_,_,_,_,_],ZY,Zaa 1 rfl rfl rfl,rfl⟩⟩,rfl,trivial⟩ ⟨rfl,none,0,none,0,none,0,rfl,SlK.nil,SlK.nil,SlK.nil,by simp [ZaU]⟩
 try simp only [sQ,ne_eq] at g3
 have hnn : ¬ ¬ (Zz x=true∧ZaW fl=true∧t.length≤20):=fun h=>h ⟨by simpa using g1,by simpa [ZaW] using g2,oz⟩
 have hrr:=Zb0 (x:=x) (by simpa using g1)
 have hok:Zz x=true:=by simpa using g1
 refine wSk (Za (xL [_,_,_,_,_] ZY 0 (h:=xM (h:=xM (h:=xR Zt0 rfl (Zc5 _ _ _ _ _ _ x o n om2 om2 _ hf) (h:=?_))))))
 refine xA (h:=Za (xL [_,_,_,_,_] ZY 0 (h:=xM (h:=xM (h:=xR ZvB rfl (Zdo _ _ _ _ _ _ x by_ (ZaJ (inF o n) x.folders) 8 oz hrr oz _ hu hf) (h:=?_))))))
 refine xA (h:=Zh (Za (xM (h:=Zdt (h:=Zb rfl (fun g4=>?_) (fun g4=>?_))))))
 try simp only [sQ,ne_eq] at g4
 refine Za (xL [_,_,_,_,_] ZY 0 (h:=xC Zol rfl (Zbh _ _ _ _ _ _ x _ hu hf hi) (h:=?_)))
 rintro _ B7 _ hle7 ⟨l7,a7,c7,q17,c17,q37,c37,rfl,rfl,hu7,hs7,hi7⟩
 obtain ⟨hu,hf,hi⟩:=up3 hle7 hu hf hi
 have hu7n:=hu7.len
 have hi7n:=hi7.len
 refine ZZ 2 rfl hs7 Zf.mono om3 (fun B8 hle8 hr8=>?_)
 obtain ⟨hu,hf,hi,hu7,hi7⟩:=up5 hle8 hu hf hi hu7 hi7
 have hr8n:=hr8.len
 refine xM (h:=?_)
 rw [Zky,if_neg hnn,if_pos g4]
 refine xS [_,_,_,_,_] 1 [_,_,_,_,_] Zau (h:=xA (h:=tL3 (Zd (Zp ?_))))
 exact Zat .ret (.inl rfl) [_,_] [] rfl ⟨⟨_,rfl,.inr ⟨[_,_,_,_,_],ZY,Zaa 1 rfl rfl rfl,rfl⟩⟩,rfl,trivial⟩ ⟨rfl,_,_,_,_,_,_,(by first | rfl | (simp only [DHost.withFolders,List.length_set];rfl)),hu7,hr8,hi7,by first | assumption | (rw [ZR.2.2.1];assumption)⟩
 try simp only [sQ,ne_eq] at g4
 obtain ⟨_,hk0,_,_,_⟩:=Zew g4
 refine wSk (Za (xL [_,_,_,_,_] ZY 0 (h:=xM (h:=xM (h:=xM (h:=xQ Zxf rfl (ZhQ _ _ _ _ _ _ x (ZaJ (inF o n) x.folders) fl t om2 (oy) oz oz om2 _ hu hf hi) (h:=?_)))))))
 intro v9 B9 hle9
 rintro ⟨p19,d19,p29,d29,p39,d39,rfl,hu9,hf9,hi9,hd9⟩
 have hu9n:=hu9.len
 have hf9n:=hf9.len
 have hi9n:=hi9.len
 refine xE (h:=xE (h:=xS [_,_,_,_,_] 1 [_,_,_,_,_] Zau (h:=xA (h:=tL2 (Zd ?_)))))
 rw [Zky,if_neg hnn,if_neg (fun h=>h g4)]
 exact Zat .ret (.inl rfl) [_,_] [] rfl ⟨⟨_,rfl,.inr ⟨[_,_,_,_,_],ZY,Zaa 1 rfl rfl rfl,rfl⟩⟩,rfl,trivial⟩ ⟨rfl,_,_,_,_,_,_,rfl,hu9,hf9,hi9,oy⟩

theorem Zlq (q1 q2 q3:Option Addr) (c1 c2 c3:Nat) (x:DHost) (u n:Str) (hul:u.length≤2000000) (hnl:n.length≤2000000) (hd:x.domain.length≤2000000) (B:Kn) (hu:SlK B q1 c1 3 ZA x.users) (hf:SlK B q2 c2 5 Zf x.folders) (hi:SlK B q3 c3 4 ZC x.queue.items):Zu (pj J) 258 [.agg #[str x.domain,.slice q1 x.users.length c1,.slice q2 x.folders.length c2,.int .i64 x.queue.next,.slice q3 x.queue.items.length c3],str u,str n] B [] (fun v B' Ls=>Ls=[]∧∃p1 d1 p2 d2 p3 d3,v = .tuple #[.agg #[str (Zbl x u n).1.domain,.slice p1 (Zbl x u n).1.users.length d1,.slice p2 (Zbl x u n).1.folders.length d2,.int .i64 (Zbl x u n).1.queue.next,.slice p3 (Zbl x u n).1.queue.items.length d3],.int .i64 (Zbl x u n).2]∧SlK B' p1 d1 3 ZA (Zbl x u n).1.users∧SlK B' p2 d2 5 Zf (Zbl x u n).1.folders∧SlK B' p3 d3 4 ZC (Zbl x u n).1.queue.items∧(Zbl x u n).1.domain.length≤2000000):=by
 refine cB 80 Tryz.func258 (h:=?_)
 have hun:=hu.len
 have hfn:=hf.len
 have hin:=hi.len
 have hix:=Zdb (inF u n) x.folders
 refine Za (xBx [_,_,_,_,_] (h:=fun b1=>xAl [_,_,_,_,_] Za6 (h:=fun b2=>xA (h:=tL2 (Zh (Za (xL [_,_,_,_,_] ZY 0 (h:=xR Zrl rfl (Zbp _ _ _ _ _ _ x om2 _ hu hf hi) (h:=?_)))))))))
 refine xN (h:=xM (h:=Zq (d:=14) rfl (fun g1=>?_) (fun g1=>?_)))
 try simp only [sQ,ne_eq] at g1
 rw [Zbl,if_pos (by simp [g1])]
 refine xP (h:=xP (h:=xP (h:=xT (h:=Zb (t:=true) rfl (fun _=>Za (xB [] [_,_,_,_,_] [_,_,_,_,_] ZdY Za6 (h:=xS [_,_,_,_,_] 1 [_,_,_,_,_] Zau (h:=xA (h:=tL2 (Zd (Zp ?_))))))) (fun h=>Bool.noConfusion h)))))
 exact Zat .ret (.inl rfl) [_,_] [] rfl ⟨⟨_,rfl,.inr ⟨[_,_,_,_,_],ZY,Zaa 1 rfl rfl rfl,rfl⟩⟩,rfl,trivial⟩ ⟨rfl,none,0,none,0,none,0,rfl,SlK.nil,SlK.nil,SlK.nil,by simp [ZaU]⟩
 try simp only [sQ,ne_eq] at g1
 refine xM (h:=xR ZkK rfl (ZbZ _ om2 _) (h:=?_))
 refine xN (h:=xF (h:=Zb rfl (fun g2=>?_) (fun g2=>?_)))
 try simp only [sQ,ne_eq] at g2
 rw [Zbl,if_pos (by simp [g2])]
 refine Za (xB [] [_,_,_,_,_] [_,_,_,_,_] ZdY Za6 (h:=xS [_,_,_,_,_] 1 [_,_,_,_,_] Zau (h:=xA (h:=tL2 (Zd (Zp ?_))))))
 exact Zat .ret (.inl rfl) [_,_] [] rfl ⟨⟨_,rfl,.inr ⟨[_,_,_,_,_],ZY,Zaa 1 rfl rfl rfl,rfl⟩⟩,rfl,trivial⟩ ⟨rfl,none,0,none,0,none,0,rfl,SlK.nil,SlK.nil,SlK.nil,by simp [ZaU]⟩
 try simp only [sQ,ne_eq] at g2
 have hok:Zz x=true:=by simpa using g1
 have hnk:Zal n=true:=by simpa using g2
 refine wSk (Za (xL [_,_,_,_,_] ZY 0 (h:=xC Zol rfl (Zbh _ _ _ _ _ _ x _ hu hf hi) (h:=?_))))
 rintro _ B5 _ hle5 ⟨l5,a5,c5,q15,c15,q35,c35,rfl,rfl,hu5,hs5,hi5⟩
 obtain ⟨hu,hf⟩:=up2 hle5 hu hf
 have hu5n:=hu5.len
 have hi5n:=hi5.len
 refine ZZ 2 rfl hs5 Zf.mono om3 (fun B6 hle6 hr6=>?_)
 obtain ⟨hu,hf,hu5,hi5⟩:=up4 hle6 hu hf hu5 hi5
 have hr6n:=hr6.len
 refine xAl [_,_,_,_,_] Za6 (h:=fun b7=>xS [_,_,_,_,_] 3 [_,_,_,_,_] Zau (h:=tL4 (Zh (Zn (Za (xW Zcg (h:=x1 ZjM 0 (h:=xM (h:=xR ZtZ rfl (Zc6 _ _ _ _ _ hu) (h:=Zag (h:=xA (h:=Zb rfl (fun g3=>?_) (fun g3=>?_)))))))))))))
 try simp only [sQ,ne_eq] at g3
 rw [Zbl,if_neg (fun h=>h ⟨hok,hnk⟩),if_pos g3]
 refine Za (xL [_,_,_,_,_] ZY 3 (h:=xS [_,_,_,_,_] 1 [_,_,_,_,_] Zau (h:=xA (h:=tL4 (Zd (ZI (Zp ?_)))))))
 exact Zat .ret (.inl rfl) [_,_] [] rfl ⟨⟨_,rfl,.inr ⟨[_,_,_,_,_],ZY,Zaa 1 rfl rfl rfl,rfl⟩⟩,rfl,trivial⟩ ⟨rfl,_,_,_,_,_,_,(by first | rfl | (simp only [DHost.withFolders,List.length_set];rfl)),hu5,hr6,hi5,by first | assumption | (rw [ZR.2.2.1];assumption)⟩
 try simp only [sQ,ne_eq] at g3
 refine Za (xL [_,_,_,_,_] ZY 0 (h:=xM (h:=xM (h:=xR Zt0 rfl (Zc5 _ _ _ _ _ _ x u n om2 om2 _ hf) (h:=?_)))))
 refine ZdN (h:=xM (h:=Zq (d:=35) rfl (fun g4=>?_) (fun g4=>?_)))
 try simp only [sQ,ne_eq] at g4
 rw [Zbl,if_neg (fun h=>h ⟨hok,hnk⟩),if_neg oz,if_pos (.inl g4)]
 refine xP (h:=xP (h:=xP (h:=xP (h:=xT (h:=xA (h:=Zb (t:=true) rfl (fun _=>Za (xL [_,_,_,_,_] ZY 3 (h:=xS [_,_,_,_,_] 1 [_,_,_,_,_] Zau (h:=xA (h:=tL4 (Zd (ZI (Zp ?_)))))))) (fun h=>Bool.noConfusion h)))))))
 exact Zat .ret (.inl rfl) [_,_] [] rfl ⟨⟨_,rfl,.inr ⟨[_,_,_,_,_],ZY,Zaa 1 rfl rfl rfl,rfl⟩⟩,rfl,trivial⟩ ⟨rfl,_,_,_,_,_,_,(by first | rfl | (simp only [DHost.withFolders,List.length_set];rfl)),hu5,hr6,hi5,by first | assumption | (rw [ZR.2.2.1];assumption)⟩
 try simp only [sQ,ne_eq] at g4
 refine xW Z1 (h:=x1 ZcM 0 (h:=xV Tryz.underlying39 (h:=ZdN (h:=xF (h:=xA (h:=Zb rfl (fun g5=>?_) (fun g5=>?_)))))))
 try simp only [sQ,ne_eq] at g5
 rw [Zbl,if_neg (fun h=>h ⟨hok,hnk⟩),if_neg oz,if_pos (.inr oz)]
 refine Za (xL [_,_,_,_,_] ZY 3 (h:=xS [_,_,_,_,_] 1 [_,_,_,_,_] Zau (h:=xA (h:=tL4 (Zd (ZI (Zp ?_)))))))
 exact Zat .ret (.inl rfl) [_,_] [] rfl ⟨⟨_,rfl,.inr ⟨[_,_,_,_,_],ZY,Zaa 1 rfl rfl rfl,rfl⟩⟩,rfl,trivial⟩ ⟨rfl,_,_,_,_,_,_,(by first | rfl | (simp only [DHost.withFolders,List.length_set];rfl)),hu5,hr6,hi5,by first | assumption | (rw [ZR.2.2.1];assumption)⟩
 try simp only [sQ,ne_eq] at g5
 refine ZL (Zw (Zj (Za (xM (h:=xM (h:=xBs [] [] Tryz.underlying82 ZbP ZdM (h:=fun b10=>xBs [] [] Tryz.underlying83 ZhC Zou (h:=fun b11=>xB [(0,_),(1,_)] [_,_] [_,_] Zn0 Zfo (h:=xB [(0,_),(1,_),(2,_),(3,_)] [_,_,_,_,_] [_,_,_,_,_] ZxH ZdQ (h:=ZZ 4 rfl (ZT.lit0 (R:=Z0) (w:=2)) Z0.mono om3 (fun B12 hle12 hr12=>?_)))))))))))
 obtain ⟨hu5,hr6,hi5⟩:=up3 hle12 hu5 hr6 hi5
 have hr12n:=hr12.len
 refine ZZ 5 rfl (ZT.lit0 (R:=ZS) (w:=3)) ZS.mono om3 (fun B13 hle13 hr13=>?_)
 obtain ⟨hr12,hu5,hr6,hi5⟩:=up4 hle13 hr12 hu5 hr6 hi5
 have hr13n:=hr13.len
 refine xAl [_,_,_,_,_] ZdQ (h:=fun b14=>xS [_,_,_,_,_] 6 [_,_,_,_,_] Zbo (h:=tL7 (Za (xA (h:=Zh (Zn (ZQ (α:=Nat) [0,1,2,3,6,7,8,9,18,22,29] (fun k=>[(10,.int .i64 k)]) [] (fun k=>[]) (fun k Bx=>Bx=B13∧k≤x.folders.length∧∀y,y∈x.folders.take k→ZcU y (Ze6 u n)=true) (fun k=>x.folders.length - k) 0 t1 rfl (⟨rfl,Nat.zero_le _,by simp⟩) (fun k B15 hle15 hI=>?_))))))))
 obtain ⟨rfl,hk,hak⟩:=hI
 refine ZN [(0,_),(1,_),(2,_),(3,_),(6,_),(7,_),(8,_),(9,_),(10,_),(18,_),(22,_),(29,_)] [_,_,_,_,_,_,_] t12 rfl (Zh (Zh (ZV (same _ _) mo kr ⟨rfl,rfl⟩ (fun _ _=>?_))))
 refine aM 0 rfl (h:=aW 1 rfl Z1 (h:=aT 2 rfl (Zaj fun D=>Ze rfl rfl ZcM rfl (atL 3 rfl rfl rfl) r4) (h:=aV 3 rfl Tryz.underlying39 (h:=ZrM 4 rfl (h:=aM 5 rfl (h:=ZaE (d:=53) rfl (fun g6=>?_) (fun g6=>?_)))))))
 try simp only [sQ,ne_eq] at g6
 refine aW 6 rfl Z1 (h:=aT 7 rfl (Zaj fun D=>Ze rfl rfl ZcM rfl (atL 3 rfl rfl rfl) r4) (h:=aM 8 rfl (h:=?_)))
 obtain ⟨w,hw⟩:=ZaA (xs:=x.folders) (i:=k) om
 obtain ⟨bb17,oo17,rfl⟩:=hr6.base hw
 obtain ⟨_,⟨qg18,cg18,qm18,cm18,rfl,hg18,hm18,hb18,hb18b⟩,hc18⟩:=hr6.elem hw
 have hg18n:=hg18.len
 have hm18n:=hm18.len
 have hm18s:=Z5 hm18
 refine aIx 9 rfl Tryz.underlying39 Zbo (h:=aT 10 rfl (Zaj fun D=>ZX [_,_,_,_,_] rfl rfl ZhP rfl (ZmN hc18 0 rfl rfl) r4) (h:=aT 11 rfl (Zaj fun D=>ZX [_,_,_,_,_] rfl rfl ZhP rfl (Zaa 6 rfl rfl rfl) r4) (h:=aT 12 rfl (Zaj fun D=>ZaF rfl rfl ZwL rfl (ZlL w ⟨u,n,[],1,[]⟩ _ _ _ _ _ _ _ _ _) r4) (h:=aPT 13 rfl (h:=Zv kr kr ?_)))))
 refine Zj (Zb rfl (fun g7=>?_) (fun g7=>?_))
 try simp only [sQ,ne_eq] at g7
 refine wSk (Zn (Zc (xM (h:=xD (h:=xA (h:=Zw ?_))))))
 exact ZD (k+1) [0,1,2,3,4,5,6] so2 ⟨rfl,oz,Zbk hw hak g7⟩ t12 rfl
 try simp only [sQ,ne_eq] at g7
 refine ZU (Zak (Z3 (ZK (Zj (Zh (ZV (keeps _ [3,6] _) mo kr ⟨Kn.le.refl _,Zae.refl _ _⟩ (fun _ _=>?_)))))))
 refine aW 1 rfl Z1 (h:=aT 2 rfl (Zx fun D B L hI=>Ze rfl rfl ZcM rfl (atL 3 (hI.2.1.trans rfl) rfl rfl) r4) (h:=aM 3 rfl (h:=?_)))
 obtain ⟨hq20,q20,cp20,hv20,hr20⟩:=hr6.cutE 0 k om om
 have hr20n:=hr20.len
 refine aT 4 rfl (Zx fun D B L hI=>Zhg (a:=0) (b:=k) hv20 om hq20 rfl rfl Tryz.underlying39 Zbo rfl rfl ⟨_,_,rfl,by first | omega | (simp;done) | (simp;omega)⟩ r4) (h:=?_)
 refine aT 6 rfl (Zx fun D B L hI=>ZX [_,_,_,_,_] rfl rfl ZhP rfl (Zaa 6 (hI.2.2.1.trans rfl) rfl rfl) r4) (h:=aW 9 rfl Z1 (h:=aT 10 rfl (Zx fun D B L hI=>Ze rfl rfl ZcM rfl (atL 3 (hI.2.1.trans rfl) rfl rfl) r4) (h:=aM 11 rfl (h:=?_))))
 obtain ⟨hq21,q21,cp21,hv21,hr21⟩:=hr6.cutE k x.folders.length om om
 have hr21n:=hr21.len
 refine aT 12 rfl (Zx fun D B L hI=>Zhg (a:=k) (b:=x.folders.length) hv21 om hq21 rfl rfl Tryz.underlying39 Zbo rfl ⟨_,_,rfl,by first | omega | (simp;done) | (simp;omega)⟩ rfl r4) (h:=?_)
 refine Zaf [0,7] kr kr kr ⟨?_,?_⟩
 refine (Zs (parts:=[]) [] rfl rfl Tryz.underlying39 Zbo ZdQ rfl rfl rfl rfl rfl (fun b22=>⟨⟨Kn.le.refl _,t2⟩,(Zaf [5,7] kr kr kr ⟨?_,?_⟩)⟩))
 refine (ZaP (R:=Zf) 7 rfl (ZT.lit0 (R:=Zf)) rfl rfl rfl Zi2 Zji rfl rfl rfl hr20.rows Zf.one rfl om (fun l23 p23 c23 hv23=>?_))
 refine ⟨⟨Kn.le.refl _,t2⟩,(Zo 7 kr rfl kr (Zs (parts:=[(0,_)]) [_,_,_,_,_] rfl rfl Tryz.underlying39 Zbo ZdQ rfl rfl rfl rfl rfl (fun b24=>?_)))⟩
 refine ⟨⟨Kn.le.refl _,t2⟩,(Zo 8 kr rfl kr (Zbe (z:=⟨u,n,[],1,[]⟩) (R:=Zf) 7 rfl hv23 rfl rfl rfl Zi2 Zji rfl rfl (ZaO.box 8 rfl) rfl rfl (⟨_,_,_,_,rfl,hr12,hr13,by first | assumption | omega | (simp;done) | (simp;omega),by first | assumption | omega | (simp;done) | (simp;omega)⟩) om (fun l25 p25 c25 hv25=>?_)))⟩
 refine ⟨⟨Kn.le.refl _,t2⟩,(Zo 13 kr rfl kr (ZaP (R:=Zf) 7 rfl hv25 rfl rfl rfl Zi2 Zji rfl rfl rfl hr21.rows Zf.one rfl om (fun l26 p26 c26 hv26=>?_)))⟩
 refine ⟨⟨Kn.le.refl _,t2⟩,(aW 14 rfl Z1 (h:=ZO 15 kr rfl kr kr kr (ZE [_] 3 [_,_,_,_,_] rfl rfl ZrT rfl rfl rfl rfl rfl rfl rfl rfl ?_)))⟩
 refine Zj (tL9 (Za (xL [_,_,_,_,_] ZY 3 (h:=ZZ 7 rfl hv26 Zf.mono om3 (fun B27 hle27 hr27=>?_)))))
 obtain ⟨hu5,hi5,hr12,hr13⟩:=up4 hle27 hu5 hi5 hr12 hr13
 have hr27n:=hr27.len
 refine xS [_,_,_,_,_] 1 [_,_,_,_,_] Zau (h:=?_)
 rw [Zcv (k:=k) hok hnk oz oz oz hk hak (.inr ⟨_,hw,g7⟩)]
 refine xA (h:=tL9 (Zd ?_))
 exact Zat .ret (.inl rfl) [_,_] [] rfl ⟨⟨_,rfl,.inr ⟨[_,_,_,_,_],ZY,Zaa 1 rfl rfl rfl,rfl⟩⟩,rfl,trivial⟩ ⟨rfl,_,_,_,_,_,_,(by first | rfl | (simp only [DHost.withFolders,List.length_set];rfl)),hu5,hr27,hi5,oy⟩
 refine (Zs (parts:=[(0,_)]) [_,_,_,_,_] rfl rfl Tryz.underlying39 Zbo ZdQ rfl rfl rfl rfl rfl (fun b28=>⟨⟨Kn.le.refl _,t2⟩,(Zo 5 kr rfl kr (ZaP (R:=Zf) 7 rfl (ZT.lit0 (R:=Zf)) rfl rfl rfl Zi2 Zji rfl rfl rfl hr20.rows Zf.one rfl om (fun l29 p29 c29 hv29=>?_)))⟩))
 refine ⟨⟨Kn.le.refl _,t2⟩,(Zo 8 kr rfl kr (Zbe (z:=⟨u,n,[],1,[]⟩) (R:=Zf) 7 rfl hv29 rfl rfl rfl Zi2 Zji rfl rfl (ZaO.box 8 rfl) rfl rfl (⟨_,_,_,_,rfl,hr12,hr13,by first | assumption | omega | (simp;done) | (simp;omega),by first | assumption | omega | (simp;done) | (simp;omega)⟩) om (fun l30 p30 c30 hv30=>?_)))⟩
 refine ⟨⟨Kn.le.refl _,t2⟩,(Zo 13 kr rfl kr (ZaP (R:=Zf) 7 rfl hv30 rfl rfl rfl Zi2 Zji rfl rfl rfl hr21.rows Zf.one rfl om (fun l31 p31 c31 hv31=>?_)))⟩
 refine ⟨⟨Kn.le.refl _,t2⟩,(aW 14 rfl Z1 (h:=ZO 15 kr rfl kr kr kr (ZE [_] 3 [_,_,_,_,_] rfl rfl ZrT rfl rfl rfl rfl rfl rfl rfl rfl ?_)))⟩
 refine Zj (tL9 (Za (xL [_,_,_,_,_] ZY 3 (h:=ZZ 7 rfl hv31 Zf.mono om3 (fun B32 hle32 hr32=>?_)))))
 obtain ⟨hu5,hi5,hr12,hr13⟩:=up4 hle32 hu5 hi5 hr12 hr13
 have hr32n:=hr32.len
 refine xS [_,_,_,_,_] 1 [_,_,_,_,_] Zau (h:=?_)
 rw [Zcv (k:=k) hok hnk oz oz oz hk hak (.inr ⟨_,hw,g7⟩)]
 refine xA (h:=tL9 (Zd ?_))
 exact Zat .ret (.inl rfl) [_,_] [] rfl ⟨⟨_,rfl,.inr ⟨[_,_,_,_,_],ZY,Zaa 1 rfl rfl rfl,rfl⟩⟩,rfl,trivial⟩ ⟨rfl,_,_,_,_,_,_,(by first | rfl | (simp only [DHost.withFolders,List.length_set];rfl)),hu5,hr32,hi5,oy⟩
 refine (Zs (parts:=[(0,_)]) [_,_,_,_,_] rfl rfl Tryz.underlying39 Zbo ZdQ rfl rfl rfl rfl rfl (fun b33=>⟨⟨Kn.le.refl _,t2⟩,(Zo 0 kr rfl kr (Zs (parts:=[]) [] rfl rfl Tryz.underlying39 Zbo ZdQ rfl rfl rfl rfl rfl (fun b34=>?_)))⟩))
 refine ⟨⟨Kn.le.refl _,t2⟩,(Zo 5 kr rfl kr (ZaP (R:=Zf) 8 rfl (ZT.lit0 (R:=Zf)) rfl rfl rfl Zi2 Zji rfl rfl rfl hr20.rows Zf.one rfl om (fun l35 p35 c35 hv35=>?_)))⟩
 refine ⟨⟨Kn.le.refl _,t2⟩,(Zo 8 kr rfl kr (Zbe (z:=⟨u,n,[],1,[]⟩) (R:=Zf) 8 rfl hv35 rfl rfl rfl Zi2 Zji rfl rfl (ZaO.box 7 rfl) rfl rfl (⟨_,_,_,_,rfl,hr12,hr13,by first | assumption | omega | (simp;done) | (simp;omega),by first | assumption | omega | (simp;done) | (simp;omega)⟩) om (fun l36 p36 c36 hv36=>?_)))⟩
 refine ⟨⟨Kn.le.refl _,t2⟩,(Zo 13 kr rfl kr (ZaP (R:=Zf) 8 rfl hv36 rfl rfl rfl Zi2 Zji rfl rfl rfl hr21.rows Zf.one rfl om (fun l37 p37 c37 hv37=>?_)))⟩
 refine ⟨⟨Kn.le.refl _,t2⟩,(aW 14 rfl Z1 (h:=ZO 15 kr rfl kr kr kr (ZE [_] 3 [_,_,_,_,_] rfl rfl ZrT rfl rfl rfl rfl rfl rfl rfl rfl ?_)))⟩
 refine Zj (tL9 (Za (xL [_,_,_,_,_] ZY 3 (h:=ZZ 8 rfl hv37 Zf.mono om3 (fun B38 hle38 hr38=>?_)))))
 obtain ⟨hu5,hi5,hr12,hr13⟩:=up4 hle38 hu5 hi5 hr12 hr13
 have hr38n:=hr38.len
 refine xS [_,_,_,_,_] 1 [_,_,_,_,_] Zau (h:=?_)
 rw [Zcv (k:=k) hok hnk oz oz oz hk hak (.inr ⟨_,hw,g7⟩)]
 refine xA (h:=tL9 (Zd ?_))
 exact Zat .ret (.inl rfl) [_,_] [] rfl ⟨⟨_,rfl,.inr ⟨[_,_,_,_,_],ZY,Zaa 1 rfl rfl rfl,rfl⟩⟩,rfl,trivial⟩ ⟨rfl,_,_,_,_,_,_,(by first | rfl | (simp only [DHost.withFolders,List.length_set];rfl)),hu5,hr38,hi5,oy⟩
 try simp only [sQ,ne_eq] at g6
 refine aZ 6 rfl (h:=aZ 7 rfl (h:=aZ 8 rfl (h:=aZ 9 rfl (h:=aZ 10 rfl (h:=aZ 11 rfl (h:=aZ 12 rfl (h:=aPF 13 rfl (h:=Zv kr kr ?_))))))))
 refine Zj (Zb (t:=false) rfl (fun h=>Bool.noConfusion h) (fun _=>ZU (Zak (Z3 (ZK (Zj (Zh (ZV (keeps _ [3,6] _) mo kr ⟨Kn.le.refl _,Zae.refl _ _⟩ (fun _ _=>?_)))))))))
 refine aW 1 rfl Z1 (h:=aT 2 rfl (Zx fun D B L hI=>Ze rfl rfl ZcM rfl (atL 3 (hI.2.1.trans rfl) rfl rfl) r4) (h:=aM 3 rfl (h:=?_)))
 obtain ⟨hq39,q39,cp39,hv39,hr39⟩:=hr6.cutE 0 k om om
 have hr39n:=hr39.len
 refine aT 4 rfl (Zx fun D B L hI=>Zhg (a:=0) (b:=k) hv39 om hq39 rfl rfl Tryz.underlying39 Zbo rfl rfl ⟨_,_,rfl,by first | omega | (simp;done) | (simp;omega)⟩ r4) (h:=?_)
 refine aT 6 rfl (Zx fun D B L hI=>ZX [_,_,_,_,_] rfl rfl ZhP rfl (Zaa 6 (hI.2.2.1.trans rfl) rfl rfl) r4) (h:=aW 9 rfl Z1 (h:=aT 10 rfl (Zx fun D B L hI=>Ze rfl rfl ZcM rfl (atL 3 (hI.2.1.trans rfl) rfl rfl) r4) (h:=aM 11 rfl (h:=?_))))
 obtain ⟨hq40,q40,cp40,hv40,hr40⟩:=hr6.cutE k x.folders.length om om
 have hr40n:=hr40.len
 refine aT 12 rfl (Zx fun D B L hI=>Zhg (a:=k) (b:=x.folders.length) hv40 om hq40 rfl rfl Tryz.underlying39 Zbo rfl ⟨_,_,rfl,by first | omega | (simp;done) | (simp;omega)⟩ rfl r4) (h:=?_)
 refine Zaf [0,7] kr kr kr ⟨?_,?_⟩
 refine (Zs (parts:=[]) [] rfl rfl Tryz.underlying39 Zbo ZdQ rfl rfl rfl rfl rfl (fun b41=>⟨⟨Kn.le.refl _,t2⟩,(Zaf [5,7] kr kr kr ⟨?_,?_⟩)⟩))
 refine (ZaP (R:=Zf) 7 rfl (ZT.lit0 (R:=Zf)) rfl rfl rfl Zi2 Zji rfl rfl rfl hr39.rows Zf.one rfl om (fun l42 p42 c42 hv42=>?_))
 refine ⟨⟨Kn.le.refl _,t2⟩,(Zo 7 kr rfl kr (Zs (parts:=[(0,_)]) [_,_,_,_,_] rfl rfl Tryz.underlying39 Zbo ZdQ rfl rfl rfl rfl rfl (fun b43=>?_)))⟩
 refine ⟨⟨Kn.le.refl _,t2⟩,(Zo 8 kr rfl kr (Zbe (z:=⟨u,n,[],1,[]⟩) (R:=Zf) 7 rfl hv42 rfl rfl rfl Zi2 Zji rfl rfl (ZaO.box 8 rfl) rfl rfl (⟨_,_,_,_,rfl,hr12,hr13,by first | assumption | omega | (simp;done) | (simp;omega),by first | assumption | omega | (simp;done) | (simp;omega)⟩) om (fun l44 p44 c44 hv44=>?_)))⟩
 refine ⟨⟨Kn.le.refl _,t2⟩,(Zo 13 kr rfl kr (ZaP (R:=Zf) 7 rfl hv44 rfl rfl rfl Zi2 Zji rfl rfl rfl hr40.rows Zf.one rfl om (fun l45 p45 c45 hv45=>?_)))⟩
 refine ⟨⟨Kn.le.refl _,t2⟩,(aW 14 rfl Z1 (h:=ZO 15 kr rfl kr kr kr (ZE [_] 3 [_,_,_,_,_] rfl rfl ZrT rfl rfl rfl rfl rfl rfl rfl rfl ?_)))⟩
 refine Zj (tL9 (Za (xL [_,_,_,_,_] ZY 3 (h:=ZZ 7 rfl hv45 Zf.mono om3 (fun B46 hle46 hr46=>?_)))))
 obtain ⟨hu5,hi5,hr12,hr13⟩:=up4 hle46 hu5 hi5 hr12 hr13
 have hr46n:=hr46.len
 refine xS [_,_,_,_,_] 1 [_,_,_,_,_] Zau (h:=?_)
 rw [Zcv (k:=k) hok hnk oz oz oz hk hak (.inl oz)]
 refine xA (h:=tL9 (Zd ?_))
 exact Zat .ret (.inl rfl) [_,_] [] rfl ⟨⟨_,rfl,.inr ⟨[_,_,_,_,_],ZY,Zaa 1 rfl rfl rfl,rfl⟩⟩,rfl,trivial⟩ ⟨rfl,_,_,_,_,_,_,(by first | rfl | (simp only [DHost.withFolders,List.length_set];rfl)),hu5,hr46,hi5,oy⟩
 refine (Zs (parts:=[(0,_)]) [_,_,_,_,_] rfl rfl Tryz.underlying39 Zbo ZdQ rfl rfl rfl rfl rfl (fun b47=>⟨⟨Kn.le.refl _,t2⟩,(Zo 5 kr rfl kr (ZaP (R:=Zf) 7 rfl (ZT.lit0 (R:=Zf)) rfl rfl rfl Zi2 Zji rfl rfl rfl hr39.rows Zf.one rfl om (fun l48 p48 c48 hv48=>?_)))⟩))
 refine ⟨⟨Kn.le.refl _,t2⟩,(Zo 8 kr rfl kr (Zbe (z:=⟨u,n,[],1,[]⟩) (R:=Zf) 7 rfl hv48 rfl rfl rfl Zi2 Zji rfl rfl (ZaO.box 8 rfl) rfl rfl (⟨_,_,_,_,rfl,hr12,hr13,by first | assumption | omega | (simp;done) | (simp;omega),by first | assumption | omega | (simp;done) | (simp;omega)⟩) om (fun l49 p49 c49 hv49=>?_)))⟩
 refine ⟨⟨Kn.le.refl _,t2⟩,(Zo 13 kr rfl kr (ZaP (R:=Zf) 7 rfl hv49 rfl rfl rfl Zi2 Zji rfl rfl rfl hr40.rows Zf.one rfl om (fun l50 p50 c50 hv50=>?_)))⟩
 refine ⟨⟨Kn.le.refl _,t2⟩,(aW 14 rfl Z1 (h:=ZO 15 kr rfl kr kr kr (ZE [_] 3 [_,_,_,_,_] rfl rfl ZrT rfl rfl rfl rfl rfl rfl rfl rfl ?_)))⟩
 refine Zj (tL9 (Za (xL [_,_,_,_,_] ZY 3 (h:=ZZ 7 rfl hv50 Zf.mono om3 (fun B51 hle51 hr51=>?_)))))
 obtain ⟨hu5,hi5,hr12,hr13⟩:=up4 hle51 hu5 hi5 hr12 hr13
 have hr51n:=hr51.len
 refine xS [_,_,_,_,_] 1 [_,_,_,_,_] Zau (h:=?_)
 rw [Zcv (k:=k) hok hnk oz oz oz hk hak (.inl oz)]
 refine xA (h:=tL9 (Zd ?_))
 exact Zat .ret (.inl rfl) [_,_] [] rfl ⟨⟨_,rfl,.inr ⟨[_,_,_,_,_],ZY,Zaa 1 rfl rfl rfl,rfl⟩⟩,rfl,trivial⟩ ⟨rfl,_,_,_,_,_,_,(by first | rfl | (simp only [DHost.withFolders,List.length_set];rfl)),hu5,hr51,hi5,oy⟩
 refine (Zs (parts:=[(0,_)]) [_,_,_,_,_] rfl rfl Tryz.underlying39 Zbo ZdQ rfl rfl rfl rfl rfl (fun b52=>⟨⟨Kn.le.refl _,t2⟩,(Zo 0 kr rfl kr (Zs (parts:=[]) [] rfl rfl Tryz.underlying39 Zbo ZdQ rfl rfl rfl rfl rfl (fun b53=>?_)))⟩))
 refine ⟨⟨Kn.le.refl _,t2⟩,(Zo 5 kr rfl kr (ZaP (R:=Zf) 8 rfl (ZT.lit0 (R:=Zf)) rfl rfl rfl Zi2 Zji rfl rfl rfl hr39.rows Zf.one rfl om (fun l54 p54 c54 hv54=>?_)))⟩
 refine ⟨⟨Kn.le.refl _,t2⟩,(Zo 8 kr rfl kr (Zbe (z:=⟨u,n,[],1,[]⟩) (R:=Zf) 8 rfl hv54 rfl rfl rfl Zi2 Zji rfl rfl (ZaO.box 7 rfl) rfl rfl (⟨_,_,_,_,rfl,hr12,hr13,by first | assumption | omega | (simp;done) | (simp;omega),by first | assumption | omega | (simp;done) | (simp;omega)⟩) om (fun l55 p55 c55 hv55=>?_)))⟩
 refine ⟨⟨Kn.le.refl _,t2⟩,(Zo 13 kr rfl kr (ZaP (R:=Zf) 8 rfl hv55 rfl rfl rfl Zi2 Zji rfl rfl rfl hr40.rows Zf.one rfl om (fun l56 p56 c56 hv56=>?_)))⟩
 refine ⟨⟨Kn.le.refl _,t2⟩,(aW 14 rfl Z1 (h:=ZO 15 kr rfl kr kr kr (ZE [_] 3 [_,_,_,_,_] rfl rfl ZrT rfl rfl rfl rfl rfl rfl rfl rfl ?_)))⟩
 refine Zj (tL9 (Za (xL [_,_,_,_,_] ZY 3 (h:=ZZ 8 rfl hv56 Zf.mono om3 (fun B57 hle57 hr57=>?_)))))
 obtain ⟨hu5,hi5⟩:=up2 hle57 hu5 hi5
 have hr57n:=hr57.len
 refine xS [_,_,_,_,_] 1 [_,_,_,_,_] Zau (h:=?_)
 rw [Zcv (k:=k) hok hnk oz oz oz hk hak (.inl oz)]
 refine xA (h:=tL9 (Zd ?_))
 exact Zat .ret (.inl rfl) [_,_] [] rfl ⟨⟨_,rfl,.inr ⟨[_,_,_,_,_],ZY,Zaa 1 rfl rfl rfl,rfl⟩⟩,rfl,trivial⟩ ⟨rfl,_,_,_,_,_,_,(by first | rfl | (simp only [DHost.withFolders,List.length_set];rfl)),hu5,hr57,hi5,oy⟩

theorem Ze2 (q:Option Addr) (cp:Nat) (gs:List DGrant) (u:Str) (r:Int) (hul:u.length≤2000000) (B:Kn) (hg:SlK B q cp 2 Z0 gs):Zu (pj J) 210 [.slice q gs.length cp,str u,.int .i64 r] B [] (fun v B' Ls=>∃l a c,Ls=[l]∧v = .tuple #[.slice a (Zb5 gs u r).1.length c,.bool (Zb5 gs u r).2]∧ZT B' l a c 224 2 Z0 (Zb5 gs u r).1):=by
 refine cB 80 Tryz.func210 (h:=?_)
 have hgn:=hg.len
 refine Za (xA (h:=xA (h:=Zh (Za (xM (h:=xR Zti rfl (Zgm _ _ _ _ hg) (h:=xN (h:=xM (h:=Zq (d:=14) rfl (fun g1=>?_) (fun g1=>?_))))))))))
 try simp only [sQ,ne_eq] at g1
 rw [Zg4 (by simp [g1])]
 refine xP (h:=xP (h:=xP (h:=xT (h:=xM (h:=xP (h:=xP (h:=xP (h:=xT (h:=Zb (t:=true) rfl (fun _=>Za (xBs [] [] Tryz.underlying82 ZbP ZdM (h:=fun b2=>xA (h:=xA (h:=tL1 (Zd (Zp ?_))))))) (fun h=>Bool.noConfusion h))))))))))
 exact Zat .ret (.inl rfl) [_,_] [0] rfl t2 ⟨_,_,_,rfl,rfl,ZT.lit0⟩
 try simp only [sQ,ne_eq] at g1
 refine xM (h:=xR ZkK rfl (ZbZ _ om2 _) (h:=?_))
 refine xN (h:=xF (h:=xM (h:=Zq (d:=19) rfl (fun g2=>?_) (fun g2=>?_))))
 try simp only [sQ,ne_eq] at g2
 rw [Zg4 (by simp [g2])]
 refine xP (h:=xP (h:=xP (h:=xT (h:=Zb (t:=true) rfl (fun _=>Za (xBs [] [] Tryz.underlying82 ZbP ZdM (h:=fun b4=>xA (h:=xA (h:=tL1 (Zd (Zp ?_))))))) (fun h=>Bool.noConfusion h)))))
 exact Zat .ret (.inl rfl) [_,_] [0] rfl t2 ⟨_,_,_,rfl,rfl,ZT.lit0⟩
 try simp only [sQ,ne_eq] at g2
 refine xM (h:=xR ZwD rfl (ZiC _ _) (h:=xN (h:=xF (h:=Zb rfl (fun g3=>?_) (fun g3=>?_)))))
 try simp only [sQ,ne_eq] at g3
 rw [Zg4 (by simp [g3])]
 refine Za (xBs [] [] Tryz.underlying82 ZbP ZdM (h:=fun b6=>xA (h:=xA (h:=tL1 (Zd (Zp ?_))))))
 exact Zat .ret (.inl rfl) [_,_] [0] rfl t2 ⟨_,_,_,rfl,rfl,ZT.lit0⟩
 try simp only [sQ,ne_eq] at g3
 have hok:ZbN gs=true:=by simpa using g1
 have hin:ZbN gs=true∧Zal u=true∧ZdW r=true:=⟨hok,by simpa using g2,by simpa using g3⟩
 have hg4:=Zjh hok
 refine wSk (Za (xBs [] [] Tryz.underlying82 ZbP ZdM (h:=fun b7=>xA (h:=tL1 (Za (xM (h:=ZG (h:=xA (h:=Zh (Za (xA (h:=Zn (ZQ (α:=Gh2 DGrant Bool) [0,1,2,6,7,23] (fun g=>[(8,.slice g.a g.xs.length g.c),(9,.bool g.e),(10,.int .i64 g.k)]) [0] (fun g=>[g.l]) (fun g Bx=>Bx=B∧g.k≤gs.length∧(g.e,g.xs)=ZeR u r (gs.take g.k)∧g.xs.length≤2*g.k∧ZT Bx g.l g.a g.c 224 2 Z0 g.xs) (fun g=>gs.length - g.k) ⟨0,0,_,_,_,[],decide (r=0)⟩ t3 rfl (⟨rfl,Nat.zero_le _,rfl,Nat.le_refl _,.lit0⟩) (fun g B8 hle8 hI=>?_))))))))))))))
 obtain ⟨rfl,hk,hs,hgl,hv⟩:=hI
 refine ZN [(0,_),(1,_),(2,_),(6,_),(7,_),(8,_),(9,_),(10,_),(23,_)] [_] t9 rfl (Zh (Za (xM (h:=xM (h:=xV Tryz.underlying82 (h:=Zag (h:=Zb rfl (fun g4=>?_) (fun g4=>?_))))))))
 try simp only [sQ,ne_eq] at g4
 refine wSk (Zh (Zn (Zh (Za (xM (h:=xN (h:=xM (h:=Zq (d:=36) rfl (fun g5=>?_) (fun g5=>?_)))))))))
 try simp only [sQ,ne_eq] at g5
 refine xM (h:=xM (h:=?_))
 obtain ⟨x,hx⟩:=ZaA (xs:=gs) (i:=g.k) om
 obtain ⟨bb10,oo10,rfl⟩:=hg.base hx
 obtain ⟨_,⟨rfl,hb11⟩,hc11⟩:=hg.elem hx
 refine xIx Tryz.underlying82 ZbP (h:=xW ZcV (h:=y1 lk9 hc11 0 (h:=xM (h:=ZvF (h:=xT (h:=Zb rfl (fun g6=>?_) (fun g6=>?_)))))))
 try simp only [sQ,ne_eq] at g6
 refine Za (xM (h:=xM (h:=xM (h:=xB [(0,_),(1,_)] [_,_] [_,_] Zuv ZdM (h:=xBs [(0,_)] [_,_] Tryz.underlying82 ZbP ZdM (h:=fun b12=>Zm (Zbe (z:=⟨u,r⟩) (R:=Z0) 0 rfl hv rfl rfl rfl Zrk Zp8 rfl rfl (ZaO.box 1 rfl) rfl rfl (⟨rfl,by first | assumption | omega | (simp;done) | (simp;omega)⟩) om (fun l13 p13 c13 hv13=>?_))))))))
 refine xA (h:=tL2 (Zc (xA (h:=Zj (Za (xM (h:=xM (h:=xIx Tryz.underlying82 ZbP (h:=xW ZcV (h:=y1 lk9 hc11 0 (h:=xM (h:=Zjp (h:=Zb rfl (fun g8=>?_) (fun g8=>?_))))))))))))))
 try simp only [sQ,ne_eq] at g8
 refine Zc (xM (h:=xM (h:=xM (h:=xIx Tryz.underlying82 ZbP (h:=yL [_,_] ZsI hc11 0 (h:=xBs [(0,_)] [_,_] Tryz.underlying82 ZbP ZdM (h:=fun b14=>Zm (Zbe (z:=⟨x.user,x.rights⟩) (R:=Z0) 0 rfl hv13 rfl rfl rfl Zrk Zp8 rfl rfl (ZaO.box 2 rfl) rfl rfl (⟨rfl,by first | assumption | omega | (simp;done) | (simp;omega)⟩) om (fun l15 p15 c15 hv15=>?_)))))))))
 refine xA (h:=Zw (Zj (Zc (xM (h:=xD (h:=xA (h:=?_)))))))
 exact ZD ⟨g.k+1,0,l15,p15,c15,((g.xs ++ [⟨u,r⟩]) ++ [⟨x.user,x.rights⟩]),true⟩ [0] (by first | omega | (simp only [];omega)) ⟨rfl,by simp only [];omega,by simp only [];rw [Zcy hx,← hs];simp [Zfk,g5,g6,g8],by first | (simp only [];omega) | (simp;omega),hv15⟩ ⟨rfl,rfl,rfl,rfl,rfl,rfl,rfl,rfl,rfl,trivial⟩ rfl
 try simp only [sQ,ne_eq] at g8
 refine ZL (Zw (Zj (Zc (xM (h:=xD (h:=xA (h:=?_)))))))
 exact ZD ⟨g.k+1,0,l13,p13,c13,(g.xs ++ [⟨u,r⟩]),true⟩ [0] (by first | omega | (simp only [];omega)) ⟨rfl,by simp only [];omega,by simp only [];rw [Zcy hx,← hs];simp [Zfk,g5,g8 ▸ g6,g8],by first | (simp only [];omega) | (simp;omega),hv13⟩ ⟨rfl,rfl,rfl,rfl,rfl,rfl,rfl,rfl,rfl,trivial⟩ rfl
 try simp only [sQ,ne_eq] at g6
 refine wSk (Za (xM (h:=xM (h:=xIx Tryz.underlying82 ZbP (h:=xW ZcV (h:=y1 lk9 hc11 0 (h:=xM (h:=Zjp (h:=Zb rfl (fun g8=>?_) (fun g8=>?_))))))))))
 try simp only [sQ,ne_eq] at g8
 refine Zc (xM (h:=xM (h:=xM (h:=xIx Tryz.underlying82 ZbP (h:=yL [_,_] ZsI hc11 0 (h:=xBs [(0,_)] [_,_] Tryz.underlying82 ZbP ZdM (h:=fun b16=>Zm (Zbe (z:=⟨x.user,x.rights⟩) (R:=Z0) 0 rfl hv rfl rfl rfl Zrk Zp8 rfl rfl (ZaO.box 1 rfl) rfl rfl (⟨rfl,by first | assumption | omega | (simp;done) | (simp;omega)⟩) om (fun l17 p17 c17 hv17=>?_)))))))))
 refine xA (h:=Zw (Zj (Zc (xM (h:=xD (h:=xA (h:=?_)))))))
 exact ZD ⟨g.k+1,0,l17,p17,c17,(g.xs ++ [⟨x.user,x.rights⟩]),g.e⟩ [0] (by first | omega | (simp only [];omega)) ⟨rfl,by simp only [];omega,by simp only [];rw [Zcy hx,← hs];simp [Zfk,g5,g6,g8],by first | (simp only [];omega) | (simp;omega),hv17⟩ ⟨rfl,rfl,rfl,rfl,rfl,rfl,rfl,rfl,rfl,trivial⟩ rfl
 try simp only [sQ,ne_eq] at g8
 refine ZL (Zw (Zj (Zc (xM (h:=xD (h:=xA (h:=?_)))))))
 exact ZD ⟨g.k+1,0,g.l,g.a,g.c,g.xs,g.e⟩ [0] so2 ⟨rfl,so,by simp only [];rw [Zcy hx,← hs];simp [Zfk,g5,g8 ▸ g6,g8],by first | (simp only [];omega) | (simp;omega),hv⟩ t9 rfl
 try simp only [sQ,ne_eq] at g5
 refine xP (h:=xP (h:=xP (h:=xP (h:=xP (h:=xP (h:=xP (h:=xF (h:=Zb (t:=false) rfl (fun h=>Bool.noConfusion h) (fun _=>wSk (Za (xM (h:=xM (h:=?_)))))))))))))
 obtain ⟨x,hx⟩:=ZaA (xs:=gs) (i:=g.k) om
 obtain ⟨bb19,oo19,rfl⟩:=hg.base hx
 obtain ⟨_,⟨rfl,hb20⟩,hc20⟩:=hg.elem hx
 refine xIx Tryz.underlying82 ZbP (h:=xW ZcV (h:=y1 lk9 hc20 0 (h:=xM (h:=Zjp (h:=Zb rfl (fun g8=>?_) (fun g8=>?_))))))
 try simp only [sQ,ne_eq] at g8
 refine Zc (xM (h:=xM (h:=xM (h:=xIx Tryz.underlying82 ZbP (h:=yL [_,_] ZsI hc20 0 (h:=xBs [(0,_)] [_,_] Tryz.underlying82 ZbP ZdM (h:=fun b21=>Zm (Zbe (z:=⟨x.user,x.rights⟩) (R:=Z0) 0 rfl hv rfl rfl rfl Zrk Zp8 rfl rfl (ZaO.box 1 rfl) rfl rfl (⟨rfl,by first | assumption | omega | (simp;done) | (simp;omega)⟩) om (fun l22 p22 c22 hv22=>?_)))))))))
 refine xA (h:=Zw (Zj (Zc (xM (h:=xD (h:=xA (h:=?_)))))))
 exact ZD ⟨g.k+1,0,l22,p22,c22,(g.xs ++ [⟨x.user,x.rights⟩]),g.e⟩ [0] (by first | omega | (simp only [];omega)) ⟨rfl,by simp only [];omega,by simp only [];rw [Zcy hx,← hs];simp [Zfk,g5,g8],by first | (simp only [];omega) | (simp;omega),hv22⟩ ⟨rfl,rfl,rfl,rfl,rfl,rfl,rfl,rfl,rfl,trivial⟩ rfl
 try simp only [sQ,ne_eq] at g8
 refine ZL (Zw (Zj (Zc (xM (h:=xD (h:=xA (h:=?_)))))))
 exact ZD ⟨g.k+1,0,g.l,g.a,g.c,g.xs,g.e⟩ [0] so2 ⟨rfl,so,by simp only [];rw [Zcy hx,← hs];simp [Zfk,g5,g8],by first | (simp only [];omega) | (simp;omega),hv⟩ t9 rfl
 try simp only [sQ,ne_eq] at g4
 rw [List.take_of_length_le oz] at hs
 refine ZU (Zak (Z3 (ZK (Zj (Zh (Za (xM (h:=xN (h:=Zb rfl (fun g9=>?_) (fun g9=>?_))))))))))
 try simp only [sQ,ne_eq] at g9
 rw [g9] at hs
 refine Zc (xM (h:=xM (h:=xM (h:=xB [(0,_),(1,_)] [_,_] [_,_] Zuv ZdM (h:=xBs [(0,_)] [_,_] Tryz.underlying82 ZbP ZdM (h:=fun b23=>Zm (Zbe (z:=⟨u,r⟩) (R:=Z0) 0 rfl hv rfl rfl rfl Zrk Zp8 rfl rfl (ZaO.box 1 rfl) rfl rfl (⟨rfl,by first | assumption | omega | (simp;done) | (simp;omega)⟩) om (fun l24 p24 c24 hv24=>?_))))))))
 refine xA (h:=Zj (Zh (Za (xM (h:=Zm (Zh9 0 rfl rfl rfl Zti rfl (ZaX.borrow fun hm25=>Zgm _ _ _ _ (hv24.lend Z0.mono hm25 om)) ?_))))))
 refine xN (h:=tL2 (Zb rfl (fun g7=>?_) (fun g7=>?_)))
 try simp only [sQ,ne_eq] at g7
 rw [Zmp hin (by rw [Zg6 hs];exact g7)]
 refine Za (xBs [] [] Tryz.underlying82 ZbP ZdM (h:=fun b26=>xM (h:=Zm (ZaP (R:=Z0) 2 rfl (ZT.lit0 (R:=Z0)) rfl rfl rfl Zrk Zp8 rfl rfl rfl hg.rows Z0.one rfl om (fun l27 p27 c27 hv27=>?_)))))
 refine xA (h:=xA (h:=tL3 (Zd (Zp ?_))))
 exact Zat .ret (.inl rfl) [_,_] [2] rfl t2 ⟨_,_,_,rfl,rfl,hv27⟩
 try simp only [sQ,ne_eq] at g7
 rw [Zj3 hin (by rw [Zg6 hs];simpa using g7),Zg6 hs]
 refine wSk (Za (xM (h:=xA (h:=xA (h:=Zd ?_)))))
 exact Zat .ret (.inl rfl) [_,_] [0] rfl t2 ⟨_,_,_,rfl,rfl,hv24⟩
 try simp only [sQ,ne_eq] at g9
 rw [show g.e=true by simpa using g9] at hs
 refine wSk (Zh (Za (xM (h:=Zm (Zh9 0 rfl rfl rfl Zti rfl (ZaX.borrow fun hm28=>Zgm _ _ _ _ (hv.lend Z0.mono hm28 om)) ?_)))))
 refine xN (h:=Zb rfl (fun g7=>?_) (fun g7=>?_))
 try simp only [sQ,ne_eq] at g7
 rw [Zmp hin (by rw [Zg5 hs];exact g7)]
 refine Za (xBs [] [] Tryz.underlying82 ZbP ZdM (h:=fun b29=>xM (h:=Zm (ZaP (R:=Z0) 1 rfl (ZT.lit0 (R:=Z0)) rfl rfl rfl Zrk Zp8 rfl rfl rfl hg.rows Z0.one rfl om (fun l30 p30 c30 hv30=>?_)))))
 refine xA (h:=xA (h:=tL2 (Zd (Zp ?_))))
 exact Zat .ret (.inl rfl) [_,_] [1] rfl t2 ⟨_,_,_,rfl,rfl,hv30⟩
 try simp only [sQ,ne_eq] at g7
 rw [Zj3 hin (by rw [Zg5 hs];simpa using g7),Zg5 hs]
 refine wSk (Za (xM (h:=xA (h:=xA (h:=Zd ?_)))))
 exact Zat .ret (.inl rfl) [_,_] [0] rfl t2 ⟨_,_,_,rfl,rfl,hv⟩

theorem ZmK (q1 q2 q3:Option Addr) (c1 c2 c3:Nat) (x:DHost) (by_ o n u:Str) (r:Int) (hbl:by_.length≤2000000) (hol:o.length≤2000000) (hnl:n.length≤2000000) (hul:u.length≤2000000) (hd:x.domain.length≤2000000) (B:Kn) (hu:SlK B q1 c1 3 ZA x.users) (hf:SlK B q2 c2 5 Zf x.folders) (hi:SlK B q3 c3 4 ZC x.queue.items):Zu (pj J) 259 [.agg #[str x.domain,.slice q1 x.users.length c1,.slice q2 x.folders.length c2,.int .i64 x.queue.next,.slice q3 x.queue.items.length c3],str by_,str o,str n,str u,.int .i64 r] B [] (fun v B' Ls=>Ls=[]∧∃p1 d1 p2 d2 p3 d3,v = .tuple #[.agg #[str (Zb4 x by_ o n u r).1.domain,.slice p1 (Zb4 x by_ o n u r).1.users.length d1,.slice p2 (Zb4 x by_ o n u r).1.folders.length d2,.int .i64 (Zb4 x by_ o n u r).1.queue.next,.slice p3 (Zb4 x by_ o n u r).1.queue.items.length d3],.int .i64 (Zb4 x by_ o n u r).2]∧SlK B' p1 d1 3 ZA (Zb4 x by_ o n u r).1.users∧SlK B' p2 d2 5 Zf (Zb4 x by_ o n u r).1.folders∧SlK B' p3 d3 4 ZC (Zb4 x by_ o n u r).1.queue.items∧(Zb4 x by_ o n u r).1.domain.length≤2000000):=by
 refine cB 76 Tryz.func259 (h:=?_)
 have hun:=hu.len
 have hfn:=hf.len
 have hin:=hi.len
 have hix:=Zdb (inF o n) x.folders
 refine Za (xBx [_,_,_,_,_] (h:=fun b1=>xAl [_,_,_,_,_] Za6 (h:=fun b2=>xA (h:=tL2 (Zh (Za (xL [_,_,_,_,_] ZY 0 (h:=xR Zrl rfl (Zbp _ _ _ _ _ _ x om2 _ hu hf hi) (h:=?_)))))))))
 refine xN (h:=xM (h:=Zq (d:=22) rfl (fun g1=>?_) (fun g1=>?_)))
 try simp only [sQ,ne_eq] at g1
 rw [Zb4,if_pos (by simp [g1])]
 refine xP (h:=xP (h:=xP (h:=xT (h:=Zb (t:=true) rfl (fun _=>Za (xB [] [_,_,_,_,_] [_,_,_,_,_] ZdY Za6 (h:=xS [_,_,_,_,_] 1 [_,_,_,_,_] Zau (h:=xA (h:=tL2 (Zd (Zp ?_))))))) (fun h=>Bool.noConfusion h)))))
 exact Zat .ret (.inl rfl) [_,_] [] rfl ⟨⟨_,rfl,.inr ⟨[_,_,_,_,_],ZY,Zaa 1 rfl rfl rfl,rfl⟩⟩,rfl,trivial⟩ ⟨rfl,none,0,none,0,none,0,rfl,SlK.nil,SlK.nil,SlK.nil,by simp [ZaU]⟩
 try simp only [sQ,ne_eq] at g1
 refine xM (h:=xR ZwD rfl (ZiC _ _) (h:=xN (h:=xF (h:=Zb rfl (fun g2=>?_) (fun g2=>?_)))))
 try simp only [sQ,ne_eq] at g2
 rw [Zb4,if_pos (by simp [g2])]
 refine Za (xB [] [_,_,_,_,_] [_,_,_,_,_] ZdY Za6 (h:=xS [_,_,_,_,_] 1 [_,_,_,_,_] Zau (h:=xA (h:=tL2 (Zd (Zp ?_))))))
 exact Zat .ret (.inl rfl) [_,_] [] rfl ⟨⟨_,rfl,.inr ⟨[_,_,_,_,_],ZY,Zaa 1 rfl rfl rfl,rfl⟩⟩,rfl,trivial⟩ ⟨rfl,none,0,none,0,none,0,rfl,SlK.nil,SlK.nil,SlK.nil,by simp [ZaU]⟩
 try simp only [sQ,ne_eq] at g2
 have hok:Zz x=true:=by simpa using g1
 have hrr:=Zb0 hok
 have hnn : ¬ ¬ (Zz x=true∧ZdW r=true):=fun h=>h ⟨hok,by simpa using g2⟩
 refine wSk (Za (xL [_,_,_,_,_] ZY 0 (h:=xC Zol rfl (Zbh _ _ _ _ _ _ x _ hu hf hi) (h:=?_))))
 rintro _ B5 _ hle5 ⟨l5,a5,c5,q15,c15,q35,c35,rfl,rfl,hu5,hs5,hi5⟩
 obtain ⟨hu,hf⟩:=up2 hle5 hu hf
 have hu5n:=hu5.len
 have hi5n:=hi5.len
 refine xAl [_,_,_,_,_] Za6 (h:=fun b6=>xS [_,_,_,_,_] 3 [_,_,_,_,_] Zau (h:=tL4 (Za (xL [_,_,_,_,_] ZY 0 (h:=xM (h:=xM (h:=xR Zt0 rfl (Zc5 _ _ _ _ _ _ x o n om2 om2 _ hf) (h:=?_))))))))
 refine xA (h:=Za (xL [_,_,_,_,_] ZY 0 (h:=xM (h:=xM (h:=xR ZvB rfl (Zdo _ _ _ _ _ _ x by_ (ZaJ (inF o n) x.folders) 32 oz hrr oz _ hu hf) (h:=?_))))))
 refine xA (h:=Zh (Zn (Za (xM (h:=Zdt (h:=xA (h:=Zb rfl (fun g3=>?_) (fun g3=>?_))))))))
 try simp only [sQ,ne_eq] at g3
 refine Za (xL [_,_,_,_,_] ZY 3 (h:=ZZ 2 rfl hs5 Zf.mono om3 (fun B9 hle9 hr9=>?_)))
 obtain ⟨hu,hf,hu5,hi5⟩:=up4 hle9 hu hf hu5 hi5
 have hr9n:=hr9.len
 refine xM (h:=?_)
 rw [Zb4,if_neg hnn,if_pos g3]
 refine xS [_,_,_,_,_] 1 [_,_,_,_,_] Zau (h:=xA (h:=tL4 (Zd (ZI (Zp ?_)))))
 exact Zat .ret (.inl rfl) [_,_] [] rfl ⟨⟨_,rfl,.inr ⟨[_,_,_,_,_],ZY,Zaa 1 rfl rfl rfl,rfl⟩⟩,rfl,trivial⟩ ⟨rfl,_,_,_,_,_,_,(by first | rfl | (simp only [DHost.withFolders,List.length_set];rfl)),hu5,hr9,hi5,by first | assumption | (rw [ZR.2.2.1];assumption)⟩
 try simp only [sQ,ne_eq] at g3
 refine Za (xM (h:=Zjp (h:=xM (h:=Zq (d:=46) rfl (fun g4=>?_) (fun g4=>?_)))))
 try simp only [sQ,ne_eq] at g4
 refine xW Zcg (h:=x1 ZjM 0 (h:=xM (h:=xR ZtZ rfl (Zc6 _ _ _ _ _ hu) (h:=Zag (h:=xT (h:=xA (h:=Zb rfl (fun g5=>?_) (fun g5=>?_))))))))
 try simp only [sQ,ne_eq] at g5
 refine Za (xL [_,_,_,_,_] ZY 3 (h:=ZZ 2 rfl hs5 Zf.mono om3 (fun B11 hle11 hr11=>?_)))
 obtain ⟨hf,hu5,hi5⟩:=up3 hle11 hf hu5 hi5
 have hr11n:=hr11.len
 refine xS [_,_,_,_,_] 1 [_,_,_,_,_] Zau (h:=?_)
 rw [Zb4,if_neg hnn,if_neg (fun h=>h g3),if_pos ⟨g4,g5⟩]
 refine xA (h:=tL4 (Zd (ZI (Zp ?_))))
 exact Zat .ret (.inl rfl) [_,_] [] rfl ⟨⟨_,rfl,.inr ⟨[_,_,_,_,_],ZY,Zaa 1 rfl rfl rfl,rfl⟩⟩,rfl,trivial⟩ ⟨rfl,_,_,_,_,_,_,(by first | rfl | (simp only [DHost.withFolders,List.length_set];rfl)),hu5,hr11,hi5,by first | assumption | (rw [ZR.2.2.1];assumption)⟩
 try simp only [sQ,ne_eq] at g5
 have hne : ¬ (u≠anyone∧ZdO x.users u<0):=fun h=>absurd h.2 oz
 obtain ⟨_,hk0,_,_,_⟩:=Zew g3
 have hge:Zb4 x by_ o n u r=Zfe x (ZaJ (inF o n) x.folders).toNat u r:=by rw [Zb4,if_neg hnn,if_neg (fun h=>h g3),if_neg hne]
 refine ZL (Zw (Zj (Za (xW Z1 (h:=x1 ZcM 0 (h:=xM (h:=?_)))))))
 obtain ⟨fd,hfd⟩:=Zey (xs:=x.folders) (i:=(ZaJ (inF o n) x.folders)) om om
 obtain ⟨bb13,oo13,rfl⟩:=hf.base hfd
 obtain ⟨_,⟨qg14,cg14,qm14,cm14,rfl,hg14,hm14,hb14,hb14b⟩,hc14⟩:=hf.elem hfd
 have hg14n:=hg14.len
 have hm14n:=hm14.len
 have hm14s:=Z5 hm14
 refine xIx Tryz.underlying39 Zbo (h:=?_)
 have hacl:=Zfy fd.grants u r
 have hfg:=Zgw (Zbt hok hfd)
 refine xW Zeq (h:=y1 ZtU hc14 2 (h:=xM (h:=xM (h:=xC Zvf rfl (Ze2 _ _ fd.grants u r om2 _ hg14) (h:=?_)))))
 rintro _ B15 _ hle15 ⟨l15,a15,c15,rfl,rfl,hs15⟩
 replace hf:=hf.mono Zf.mono hle15
 replace hs5:=hs5.mono Zf.mono hle15
 replace hu5:=hu5.mono ZA.mono hle15
 replace hi5:=hi5.mono ZC.mono hle15
 have hs15n:=hs15.cap
 replace hs15:=hs15.anyK (B':=B15) Z0.any
 refine xM (h:=xE (h:=xE (h:=xA (h:=ZZ 4 rfl hs15 Z0.mono om3 (fun B16 hle16 hr16=>?_)))))
 replace hf:=hf.mono Zf.mono hle16
 replace hs5:=hs5.mono Zf.mono hle16
 replace hu5:=hu5.mono ZA.mono hle16
 replace hi5:=hi5.mono ZC.mono hle16
 have hr16n:=hr16.len
 refine xA (h:=tL5 (Zh (Za (xM (h:=xN (h:=Zb rfl (fun g6=>?_) (fun g6=>?_)))))))
 try simp only [sQ,ne_eq] at g6
 refine Za ?_
 refine Zm (ZX [_,_,_,_,_] rfl rfl ZY rfl (Zaa 3 rfl rfl rfl) ?_)
 refine ZZ 2 rfl hs5 Zf.mono (by first | omega | decide | (simp;done) | (simp;omega)) (fun B17 hle17 hr17=>?_)
 obtain ⟨hf,hr16,hu5,hi5⟩:=up4 hle17 hf hr16 hu5 hi5
 have hr17n:=hr17.len
 refine xS [_,_,_,_,_] 1 [_,_,_,_,_] Zau (h:=?_)
 rw [hge,ZjR hfd g6]
 refine xA (h:=tL5 (Zd (Zp ?_)))
 exact Zat .ret (.inl rfl) [_,_] [] rfl ⟨⟨_,rfl,.inr ⟨[_,_,_,_,_],ZY,Zaa 1 rfl rfl rfl,rfl⟩⟩,rfl,trivial⟩ ⟨rfl,_,_,_,_,_,_,(by first | rfl | (simp only [DHost.withFolders,List.length_set];rfl)),hu5,hr17,hi5,by first | assumption | (rw [ZR.2.2.1];assumption)⟩
 try simp only [sQ,ne_eq] at g6
 refine wSk (Za (xW Z1 (h:=x1 ZcM 3 (h:=xM (h:=xM (h:=?_))))))
 obtain ⟨bb18,_,hp18,⟨qg18,cg18,qm18,cm18,rfl,hg18,hm18,hb18,hb18b⟩,hw18,hc18⟩:=hs5.row hfd
 have hg18n:=hg18.len
 have hm18n:=hm18.len
 have hm18s:=Z5 hm18
 refine xIp hp18 Tryz.underlying39 Zbo (h:=xW Zeq (h:=Zm (ZeA (k:=((ZaJ (inF o n) x.folders)).toNat) (off:=2) (⟨fd.owner,fd.name,(Zb5 fd.grants u r).1,fd.next,fd.mail⟩) [_] 2 hs5 hp18 hfd rfl rfl Zv8 rfl rfl rfl rfl rfl rfl (by rintro _ ⟨_,_,_,_,rfl,_,e2,e3,e4⟩;exact ⟨_,_,_,_,rfl,hr16,e2,e3,e4⟩) (fun l19 hv19=>?_))))
 refine tL5 (Za (xL [_,_,_,_,_] ZY 3 (h:=ZZ 2 rfl hv19 Zf.mono om3 (fun B20 hle20 hr20=>?_))))
 obtain ⟨hf,hu5,hi5⟩:=up3 hle20 hf hu5 hi5
 have hr20n:=hr20.len
 refine xS [_,_,_,_,_] 1 [_,_,_,_,_] Zau (h:=?_)
 rw [hge,ZiR hfd (by simpa using g6)]
 refine xA (h:=tL5 (Zd ?_))
 exact Zat .ret (.inl rfl) [_,_] [] rfl ⟨⟨_,rfl,.inr ⟨[_,_,_,_,_],ZY,Zaa 1 rfl rfl rfl,rfl⟩⟩,rfl,trivial⟩ ⟨rfl,_,_,_,_,_,_,(by first | rfl | (simp only [DHost.withFolders,List.length_set];rfl)),hu5,hr20,hi5,by first | assumption | (rw [ZR.2.2.1];assumption)⟩
 try simp only [sQ,ne_eq] at g4
 have hne : ¬ (u≠anyone∧ZdO x.users u<0):=fun h=>h.1 g4
 obtain ⟨_,hk0,_,_,_⟩:=Zew g3
 have hge:Zb4 x by_ o n u r=Zfe x (ZaJ (inF o n) x.folders).toNat u r:=by rw [Zb4,if_neg hnn,if_neg (fun h=>h g3),if_neg hne]
 refine xP (h:=xP (h:=xP (h:=xP (h:=xP (h:=xF (h:=xA (h:=Zb (t:=false) rfl (fun h=>Bool.noConfusion h) (fun _=>ZL (Zw (Zj (Za (xW Z1 (h:=x1 ZcM 0 (h:=xM (h:=?_)))))))))))))))
 obtain ⟨fd,hfd⟩:=Zey (xs:=x.folders) (i:=(ZaJ (inF o n) x.folders)) om om
 obtain ⟨bb22,oo22,rfl⟩:=hf.base hfd
 obtain ⟨_,⟨qg23,cg23,qm23,cm23,rfl,hg23,hm23,hb23,hb23b⟩,hc23⟩:=hf.elem hfd
 have hg23n:=hg23.len
 have hm23n:=hm23.len
 have hm23s:=Z5 hm23
 refine xIx Tryz.underlying39 Zbo (h:=?_)
 have hacl:=Zfy fd.grants u r
 have hfg:=Zgw (Zbt hok hfd)
 refine xW Zeq (h:=y1 ZtU hc23 2 (h:=xM (h:=xM (h:=xC Zvf rfl (Ze2 _ _ fd.grants u r om2 _ hg23) (h:=?_)))))
 rintro _ B24 _ hle24 ⟨l24,a24,c24,rfl,rfl,hs24⟩
 replace hs5:=hs5.mono Zf.mono hle24
 replace hu5:=hu5.mono ZA.mono hle24
 replace hi5:=hi5.mono ZC.mono hle24
 have hs24n:=hs24.cap
 replace hs24:=hs24.anyK (B':=B24) Z0.any
 refine xM (h:=xE (h:=xE (h:=xA (h:=ZZ 4 rfl hs24 Z0.mono om3 (fun B25 hle25 hr25=>?_)))))
 replace hs5:=hs5.mono Zf.mono hle25
 replace hu5:=hu5.mono ZA.mono hle25
 replace hi5:=hi5.mono ZC.mono hle25
 have hr25n:=hr25.len
 refine xA (h:=tL5 (Zh (Za (xM (h:=xN (h:=Zb rfl (fun g6=>?_) (fun g6=>?_)))))))
 try simp only [sQ,ne_eq] at g6
 refine Za ?_
 refine Zm (ZX [_,_,_,_,_] rfl rfl ZY rfl (Zaa 3 rfl rfl rfl) ?_)
 refine ZZ 2 rfl hs5 Zf.mono (by first | omega | decide | (simp;done) | (simp;omega)) (fun B26 hle26 hr26=>?_)
 obtain ⟨hr25,hu5,hi5⟩:=up3 hle26 hr25 hu5 hi5
 have hr26n:=hr26.len
 refine xS [_,_,_,_,_] 1 [_,_,_,_,_] Zau (h:=?_)
 rw [hge,ZjR hfd g6]
 refine xA (h:=tL5 (Zd (Zp ?_)))
 exact Zat .ret (.inl rfl) [_,_] [] rfl ⟨⟨_,rfl,.inr ⟨[_,_,_,_,_],ZY,Zaa 1 rfl rfl rfl,rfl⟩⟩,rfl,trivial⟩ ⟨rfl,_,_,_,_,_,_,(by first | rfl | (simp only [DHost.withFolders,List.length_set];rfl)),hu5,hr26,hi5,by first | assumption | (rw [ZR.2.2.1];assumption)⟩
 try simp only [sQ,ne_eq] at g6
 refine wSk (Za (xW Z1 (h:=x1 ZcM 3 (h:=xM (h:=xM (h:=?_))))))
 obtain ⟨bb27,_,hp27,⟨qg27,cg27,qm27,cm27,rfl,hg27,hm27,hb27,hb27b⟩,hw27,hc27⟩:=hs5.row hfd
 have hg27n:=hg27.len
 have hm27n:=hm27.len
 have hm27s:=Z5 hm27
 refine xIp hp27 Tryz.underlying39 Zbo (h:=xW Zeq (h:=Zm (ZeA (k:=((ZaJ (inF o n) x.folders)).toNat) (off:=2) (⟨fd.owner,fd.name,(Zb5 fd.grants u r).1,fd.next,fd.mail⟩) [_] 2 hs5 hp27 hfd rfl rfl Zv8 rfl rfl rfl rfl rfl rfl (by rintro _ ⟨_,_,_,_,rfl,_,e2,e3,e4⟩;exact ⟨_,_,_,_,rfl,hr25,e2,e3,e4⟩) (fun l28 hv28=>?_))))
 refine tL5 (Za (xL [_,_,_,_,_] ZY 3 (h:=ZZ 2 rfl hv28 Zf.mono om3 (fun B29 hle29 hr29=>?_))))
 obtain ⟨hu5,hi5⟩:=up2 hle29 hu5 hi5
 have hr29n:=hr29.len
 refine xS [_,_,_,_,_] 1 [_,_,_,_,_] Zau (h:=?_)
 rw [hge,ZiR hfd (by simpa using g6)]
 refine xA (h:=tL5 (Zd ?_))
 exact Zat .ret (.inl rfl) [_,_] [] rfl ⟨⟨_,rfl,.inr ⟨[_,_,_,_,_],ZY,Zaa 1 rfl rfl rfl,rfl⟩⟩,rfl,trivial⟩ ⟨rfl,_,_,_,_,_,_,(by first | rfl | (simp only [DHost.withFolders,List.length_set];rfl)),hu5,hr29,hi5,by first | assumption | (rw [ZR.2.2.1];assumption)⟩

theorem Zlo (q1 q2 q3:Option Addr) (c1 c2 c3:Nat) (x:DHost) (qx:Option Addr) (cx:Nat) (l:DLetter) (hd:x.domain.length≤2000000) (B:Kn) (hu:SlK B q1 c1 3 ZA x.users) (hf:SlK B q2 c2 5 Zf x.folders) (hi:SlK B q3 c3 4 ZC x.queue.items) (hx:SlK B qx cx 1 ZbO l.to_) (h1:l.fr.length≤2000000) (h2:l.text.length≤2000000):Zu (pj J) 261 [.agg #[str x.domain,.slice q1 x.users.length c1,.slice q2 x.folders.length c2,.int .i64 x.queue.next,.slice q3 x.queue.items.length c3],.agg #[str l.fr,.slice qx l.to_.length cx,str l.text]] B [] (fun v B' Ls=>Ls=[]∧∃p1 d1 p2 d2 p3 d3,v = .tuple #[.agg #[str (Zbs x l).1.domain,.slice p1 (Zbs x l).1.users.length d1,.slice p2 (Zbs x l).1.folders.length d2,.int .i64 (Zbs x l).1.queue.next,.slice p3 (Zbs x l).1.queue.items.length d3],.int .i64 (Zbs x l).2]∧SlK B' p1 d1 3 ZA (Zbs x l).1.users∧SlK B' p2 d2 5 Zf (Zbs x l).1.folders∧SlK B' p3 d3 4 ZC (Zbs x l).1.queue.items∧(Zbs x l).1.domain.length≤2000000):=by
 refine cB 47 Tryz.func261 (h:=?_)
 have hun:=hu.len
 have hfn:=hf.len
 have hin:=hi.len
 have hxn:=hx.len
 refine Za (xBx [_,_,_,_,_] (h:=fun b1=>xBx [_,_,_] (h:=fun b2=>xAl [_,_,_,_,_] Za6 (h:=fun b3=>xA (h:=tL3 (Zh (Za (xL [_,_,_,_,_] ZY 0 (h:=xR Zrl rfl (Zbp _ _ _ _ _ _ x om2 _ hu hf hi) (h:=?_))))))))))
 refine xN (h:=xM (h:=Zq (d:=12) rfl (fun g1=>?_) (fun g1=>?_)))
 try simp only [sQ,ne_eq] at g1
 rw [Zbs,if_pos (by simp [g1])]
 refine xP (h:=xP (h:=xP (h:=xT (h:=Zb (t:=true) rfl (fun _=>Za (xB [] [_,_,_,_,_] [_,_,_,_,_] ZdY Za6 (h:=xS [_,_,_,_,_] 2 [_,_,_,_,_] Zau (h:=xA (h:=tL3 (Zd (Zp ?_))))))) (fun h=>Bool.noConfusion h)))))
 exact Zat .ret (.inl rfl) [_,_] [] rfl ⟨⟨_,rfl,.inr ⟨[_,_,_,_,_],ZY,Zaa 2 rfl rfl rfl,rfl⟩⟩,rfl,trivial⟩ ⟨rfl,none,0,none,0,none,0,rfl,SlK.nil,SlK.nil,SlK.nil,by simp [ZaU]⟩
 try simp only [sQ,ne_eq] at g1
 refine xL [_,_,_] Zm0 1 (h:=xR Zvj rfl (Ze1 _ _ l _ hx oa oa) (h:=?_))
 refine xN (h:=xF (h:=Zb rfl (fun g2=>?_) (fun g2=>?_)))
 try simp only [sQ,ne_eq] at g2
 rw [Zbs,if_pos (by simp [g2])]
 refine Za (xB [] [_,_,_,_,_] [_,_,_,_,_] ZdY Za6 (h:=xS [_,_,_,_,_] 2 [_,_,_,_,_] Zau (h:=xA (h:=tL3 (Zd (Zp ?_))))))
 exact Zat .ret (.inl rfl) [_,_] [] rfl ⟨⟨_,rfl,.inr ⟨[_,_,_,_,_],ZY,Zaa 2 rfl rfl rfl,rfl⟩⟩,rfl,trivial⟩ ⟨rfl,none,0,none,0,none,0,rfl,SlK.nil,SlK.nil,SlK.nil,by simp [ZaU]⟩
 try simp only [sQ,ne_eq] at g2
 have hok:Zz x=true:=by simpa using g1
 have hnn : ¬ ¬ (Zz x=true∧ZaM l=true):=fun h=>h ⟨hok,by simpa using g2⟩
 have hql:=Ze4 (ZhT hok)
 have hal:=ZhY x.queue l
 refine wSk (Za (xL [_,_,_,_,_] ZY 0 (h:=xC Zol rfl (Zbh _ _ _ _ _ _ x _ hu hf hi) (h:=?_))))
 rintro _ B6 _ hle6 ⟨l6,a6,c6,q16,c16,q36,c36,rfl,rfl,hu6,hs6,hi6⟩
 obtain ⟨hu,hi,hx⟩:=up3 hle6 hu hi hx
 have hu6n:=hu6.len
 have hi6n:=hi6.len
 refine ZZ 3 rfl hs6 Zf.mono om3 (fun B7 hle7 hr7=>?_)
 obtain ⟨hu,hi,hx,hu6,hi6⟩:=up5 hle7 hu hi hx hu6 hi6
 have hr7n:=hr7.len
 refine xAl [_,_,_,_,_] Za6 (h:=fun b8=>xS [_,_,_,_,_] 4 [_,_,_,_,_] Zau (h:=tL5 (Zh (Za (xW Zcg (h:=x1 ZjM 0 (h:=xW ZiY (h:=x1 lk9 1 (h:=xR ZtZ rfl (Zc6 _ _ _ _ _ hu) (h:=Zag (h:=xM (h:=Zq (d:=26) rfl (fun g3=>?_) (fun g3=>?_)))))))))))))
 try simp only [sQ,ne_eq] at g3
 rw [Zbs,if_neg hnn,if_pos (.inl g3)]
 refine xP (h:=xP (h:=xP (h:=xP (h:=xP (h:=xT (h:=Zb (t:=true) rfl (fun _=>Za (xL [_,_,_,_,_] ZY 4 (h:=xS [_,_,_,_,_] 2 [_,_,_,_,_] Zau (h:=xA (h:=tL5 (Zd (Zp ?_))))))) (fun h=>Bool.noConfusion h)))))))
 exact Zat .ret (.inl rfl) [_,_] [] rfl ⟨⟨_,rfl,.inr ⟨[_,_,_,_,_],ZY,Zaa 2 rfl rfl rfl,rfl⟩⟩,rfl,trivial⟩ ⟨rfl,_,_,_,_,_,_,(by first | rfl | (simp only [DHost.withFolders,List.length_set];rfl)),hu6,hr7,hi6,by first | assumption | (rw [ZR.2.2.1];assumption)⟩
 try simp only [sQ,ne_eq] at g3
 refine xL [_,_,_,_,_] ZY 0 (h:=xW ZiX (h:=x1 Zda 1 (h:=xR Zzv rfl (ZjN _ _ _ _ _ _ x _ _ l.to_ _ hu hx) (h:=xN (h:=xF (h:=Zb rfl (fun g4=>?_) (fun g4=>?_)))))))
 try simp only [sQ,ne_eq] at g4
 rw [Zbs,if_neg hnn,if_pos (.inr g4)]
 refine Za (xL [_,_,_,_,_] ZY 4 (h:=xS [_,_,_,_,_] 2 [_,_,_,_,_] Zau (h:=xA (h:=tL5 (Zd (Zp ?_))))))
 exact Zat .ret (.inl rfl) [_,_] [] rfl ⟨⟨_,rfl,.inr ⟨[_,_,_,_,_],ZY,Zaa 2 rfl rfl rfl,rfl⟩⟩,rfl,trivial⟩ ⟨rfl,_,_,_,_,_,_,(by first | rfl | (simp only [DHost.withFolders,List.length_set];rfl)),hu6,hr7,hi6,by first | assumption | (rw [ZR.2.2.1];assumption)⟩
 try simp only [sQ,ne_eq] at g4
 have hn2 : ¬ (ZdO x.users l.fr<0∨Zgt x.users l.to_=false):=fun h=>h.elim oz (by simpa using g4)
 refine wSk (Za (xW ZcK (h:=xL [_,_] Zd1 0 (h:=xL [_,_,_] Zm0 1 (h:=xC Zte rfl (Zgl _ _ x.queue _ _ l _ hi hx (by first | assumption | omega | (simp;omega)) (by first | assumption | omega | (simp;omega))) (h:=?_))))))
 rintro _ B11 _ hle11 ⟨l11,a11,c11,rfl,rfl,hv11⟩
 obtain ⟨hu6,hr7,hi6⟩:=up3 hle11 hu6 hr7 hi6
 replace hv11:=hv11.mono ZC.mono Kn.less_le
 refine xM (h:=xE (h:=ZZ 5 rfl hv11 ZC.mono om3 (fun B12 hle12 hr12=>?_)))
 obtain ⟨hu6,hr7,hi6⟩:=up3 hle12 hu6 hr7 hi6
 have hr12n:=hr12.len
 refine xE (h:=xAl [_,_] ZhA (h:=fun b13=>xS [_,_] 6 [_,_] Zfz (h:=xA (h:=tL7 (Zh (Za (xM (h:=xN (h:=Zb rfl (fun g5=>?_) (fun g5=>?_))))))))))
 try simp only [sQ,ne_eq] at g5
 rw [Zbs,if_neg hnn,if_neg hn2,if_neg (by rw [g5];exact Bool.false_ne_true)]
 refine Za (xL [_,_,_,_,_] ZY 4 (h:=xS [_,_,_,_,_] 2 [_,_,_,_,_] Zau (h:=xA (h:=tL7 (Zd (Zp ?_))))))
 exact Zat .ret (.inl rfl) [_,_] [] rfl ⟨⟨_,rfl,.inr ⟨[_,_,_,_,_],ZY,Zaa 2 rfl rfl rfl,rfl⟩⟩,rfl,trivial⟩ ⟨rfl,_,_,_,_,_,_,(by first | rfl | (simp only [DHost.withFolders,List.length_set];rfl)),hu6,hr7,hi6,by first | assumption | (rw [ZR.2.2.1];assumption)⟩
 try simp only [sQ,ne_eq] at g5
 rw [Zbs,if_neg hnn,if_neg hn2,if_pos (by simpa using g5)]
 refine wSk (Za (xL [_,_] Zd1 6 (h:=xW ZcK (h:=xS [_,_] 4 [_,_,_,_,_] Zfz (h:=tL7 (Za (xL [_,_,_,_,_] ZY 4 (h:=xS [_,_,_,_,_] 2 [_,_,_,_,_] Zau (h:=xA (h:=tL7 (Zd ?_)))))))))))
 exact Zat .ret (.inl rfl) [_,_] [] rfl ⟨⟨_,rfl,.inr ⟨[_,_,_,_,_],ZY,Zaa 2 rfl rfl rfl,rfl⟩⟩,rfl,trivial⟩ ⟨rfl,_,_,_,_,_,_,(by first | rfl | (simp only [DHost.withFolders,List.length_set];rfl)),hu6,hr7,hr12,by first | assumption | (rw [ZR.2.2.1];assumption)⟩

theorem Zj8 (q1 q2 q3:Option Addr) (c1 c2 c3:Nat) (x:DHost) (id:Int) (u:Str) (hul:u.length≤2000000) (hd:x.domain.length≤2000000) (B:Kn) (hu:SlK B q1 c1 3 ZA x.users) (hf:SlK B q2 c2 5 Zf x.folders) (hi:SlK B q3 c3 4 ZC x.queue.items):Zu (pj J) 262 [.agg #[str x.domain,.slice q1 x.users.length c1,.slice q2 x.folders.length c2,.int .i64 x.queue.next,.slice q3 x.queue.items.length c3],.int .i64 id,str u] B [] (fun v B' Ls=>Ls=[]∧∃p1 d1 p2 d2 p3 d3,v = .tuple #[.agg #[str (ZaV x id u).1.domain,.slice p1 (ZaV x id u).1.users.length d1,.slice p2 (ZaV x id u).1.folders.length d2,.int .i64 (ZaV x id u).1.queue.next,.slice p3 (ZaV x id u).1.queue.items.length d3],.int .i64 (ZaV x id u).2]∧SlK B' p1 d1 3 ZA (ZaV x id u).1.users∧SlK B' p2 d2 5 Zf (ZaV x id u).1.folders∧SlK B' p3 d3 4 ZC (ZaV x id u).1.queue.items∧(ZaV x id u).1.domain.length≤2000000):=by
 refine cB 45 Tryz.func262 (h:=?_)
 have hun:=hu.len
 have hfn:=hf.len
 have hin:=hi.len
 have hix:=Zdb (inF u inbox) x.folders
 refine Za (xBx [_,_,_,_,_] (h:=fun b1=>xAl [_,_,_,_,_] Za6 (h:=fun b2=>xA (h:=tL2 (Zh (Za (xL [_,_,_,_,_] ZY 0 (h:=xR Zrl rfl (Zbp _ _ _ _ _ _ x om2 _ hu hf hi) (h:=?_)))))))))
 refine xN (h:=Zb rfl (fun g1=>?_) (fun g1=>?_))
 try simp only [sQ,ne_eq] at g1
 rw [ZaV,if_pos g1]
 refine Za (xB [] [_,_,_,_,_] [_,_,_,_,_] ZdY Za6 (h:=xS [_,_,_,_,_] 1 [_,_,_,_,_] Zau (h:=xA (h:=tL2 (Zd (Zp ?_))))))
 exact Zat .ret (.inl rfl) [_,_] [] rfl ⟨⟨_,rfl,.inr ⟨[_,_,_,_,_],ZY,Zaa 1 rfl rfl rfl,rfl⟩⟩,rfl,trivial⟩ ⟨rfl,none,0,none,0,none,0,rfl,SlK.nil,SlK.nil,SlK.nil,by simp [ZaU]⟩
 try simp only [sQ,ne_eq] at g1
 have hok:Zz x=true:=by simpa using g1
 have hnn : ¬ Zz x=false:=by simp [hok]
 have htl:(Zca x.queue id u).1.items.length≤x.queue.items.length:=Zij id u x.queue.items
 refine wSk (Za (xW ZcK (h:=xL [_,_] Zd1 0 (h:=xM (h:=xM (h:=xC ZwC rfl (ZlO _ _ x.queue id u _ hi) (h:=?_)))))))
 rintro _ B4 _ hle4 ⟨l4,a4,c4,rfl,rfl,hv4,ht4⟩
 obtain ⟨hu,hf,hi⟩:=up3 hle4 hu hf hi
 replace hv4:=hv4.mono ZC.mono Kn.less_le
 refine xM (h:=xE (h:=ZZ 2 rfl hv4 ZC.mono om3 (fun B5 hle5 hr5=>?_)))
 obtain ⟨hu,hf,hi⟩:=up3 hle5 hu hf hi
 have hr5n:=hr5.len
 refine xE (h:=xE (h:=xAl [_,_] ZhA (h:=fun b6=>xS [_,_] 3 [_,_] Zfz (h:=xA (h:=xA (h:=tL4 (Zh (Za (xM (h:=xN (h:=Zb rfl (fun g2=>?_) (fun g2=>?_))))))))))))
 try simp only [sQ,ne_eq] at g2
 refine Za (xL [_,_,_,_,_] ZY 0 (h:=xC Zol rfl (Zbh _ _ _ _ _ _ x _ hu hf hi) (h:=?_)))
 rintro _ B7 _ hle7 ⟨l7,a7,c7,q17,c17,q37,c37,rfl,rfl,hu7,hs7,hi7⟩
 obtain ⟨hu,hf,hi,hr5⟩:=up4 hle7 hu hf hi hr5
 have hu7n:=hu7.len
 have hi7n:=hi7.len
 refine ZZ 4 rfl hs7 Zf.mono om3 (fun B8 hle8 hr8=>?_)
 obtain ⟨hu,hf,hi,hu7,hi7,hr5⟩:=up6 hle8 hu hf hi hu7 hi7 hr5
 have hr8n:=hr8.len
 refine xS [_,_,_,_,_] 1 [_,_,_,_,_] Zau (h:=?_)
 rw [ZaV,if_neg hnn,if_pos g2]
 refine xA (h:=tL5 (Zd (Zp ?_)))
 exact Zat .ret (.inl rfl) [_,_] [] rfl ⟨⟨_,rfl,.inr ⟨[_,_,_,_,_],ZY,Zaa 1 rfl rfl rfl,rfl⟩⟩,rfl,trivial⟩ ⟨rfl,_,_,_,_,_,_,(by first | rfl | (simp only [DHost.withFolders,List.length_set];rfl)),hu7,hr8,hi7,by first | assumption | (rw [ZR.2.2.1];assumption)⟩
 try simp only [sQ,ne_eq] at g2
 have hn2 : ¬ (Zca x.queue id u).2.2=false:=by simpa using g2
 have hdt:=Zhz (id:=id) (u:=u) hok
 have hda:0≤ZaJ (inF u inbox) x.folders:=Zpp hok (by simpa using g2)
 have hda2:0≤ZaJ (inF u [105,110,98,111,120]) x.folders:=hda
 have hix2:ZaJ (inF u [105,110,98,111,120]) x.folders<x.folders.length:=hix.1
 refine wSk (Zh (ZV (keeps _ [0] _) mo kr ⟨Kn.le.refl _,Zae.refl _ _⟩ (fun _ _=>?_)))
 refine aT 0 rfl (Zx fun D B L hI=>ZX [_,_,_,_,_] rfl rfl ZY rfl (Zaa 0 (hI.2.1.trans rfl) rfl rfl) r4) (h:=aT 1 rfl (Zx fun D B L hI=>ZX [_,_,_,_,_] rfl rfl ZY rfl (Zaa 0 (hI.2.1.trans rfl) rfl rfl) r4) (h:=aM 2 rfl (h:=aT 3 rfl (Zx fun D B L hI=>ZaF rfl rfl Zt0 rfl (Zc5 _ _ _ _ _ _ x u [105,110,98,111,120] om2 om2 _ (hf.mono Zf.mono hI.1)) r4) (h:=?_))))
 refine aM 4 rfl (h:=Zaf [5,9] kr kr kr ⟨?_,?_⟩)
 refine (ZeD rfl rfl Zxf rfl (ZhQ _ _ _ _ _ _ x (ZaJ (inF u [105,110,98,111,120]) x.folders) 0 ((Zca x.queue id u).2.1) om2 (oy) oz oz om2 _ hu hf hi) ?_)
 intro v10 B10 hle10
 rintro ⟨p110,d110,p210,d210,p310,d310,rfl,hu10,hf10,hi10,hd10⟩
 obtain ⟨hu,hf,hi,hr5⟩:=up4 hle10 hu hf hi hr5
 have hu10n:=hu10.len
 have hf10n:=hf10.len
 have hi10n:=hi10.len
 refine ⟨⟨hle10,t1⟩,(aM 6 rfl (h:=aE 7 rfl (h:=aE 8 rfl (h:=Zo 9 kr rfl kr (Zac (l:=[_,_,_,_,_]) rfl rfl Za6 rfl (fun b11=>?_))))))⟩
 refine ⟨⟨hle10,t1⟩,(Za4 10 kr rfl kr kr (ZE [_,_,_,_,_] 4 [_,_,_,_,_] rfl rfl Zau rfl rfl rfl rfl rfl rfl rfl rfl ?_))⟩
 refine aA 11 rfl (h:=Zv kr kr ?_)
 refine Zj (tL5 (Zh (Za (xM (h:=Zdt (h:=Zb rfl (fun g3=>?_) (fun g3=>?_)))))))
 try simp only [sQ,ne_eq] at g3
 rw [ZaV,if_neg hnn,if_neg hn2,if_pos (show (ZbL x (ZaJ (inF u inbox) x.folders).toNat 0 (Zca x.queue id u).2.1).2≠4 from g3)]
 refine Zc (xL [_,_] Zd1 3 (h:=xW ZcK (h:=xS [_,_] 4 [_,_,_,_,_] Zfz (h:=Zj (Za (xL [_,_,_,_,_] ZY 4 (h:=xM (h:=xS [_,_,_,_,_] 1 [_,_,_,_,_] Zau (h:=xA (h:=tL5 (Zd ?_)))))))))))
 exact Zat .ret (.inl rfl) [_,_] [] rfl ⟨⟨_,rfl,.inr ⟨[_,_,_,_,_],ZY,Zaa 1 rfl rfl rfl,rfl⟩⟩,rfl,trivial⟩ ⟨rfl,_,_,_,_,_,_,(by first | rfl | (simp only [DHost.withFolders,List.length_set];rfl)),hu10,hf10,hr5,by first | assumption | (rw [ZR.2.2.1];assumption)⟩
 try simp only [sQ,ne_eq] at g3
 rw [ZaV,if_neg hnn,if_neg hn2,if_neg (show ¬ (ZbL x (ZaJ (inF u inbox) x.folders).toNat 0 (Zca x.queue id u).2.1).2≠4 from fun h=>h g3)]
 refine wSk (Za (xL [_,_,_,_,_] ZY 4 (h:=xM (h:=xS [_,_,_,_,_] 1 [_,_,_,_,_] Zau (h:=xA (h:=tL5 (Zd ?_)))))))
 exact Zat .ret (.inl rfl) [_,_] [] rfl ⟨⟨_,rfl,.inr ⟨[_,_,_,_,_],ZY,Zaa 1 rfl rfl rfl,rfl⟩⟩,rfl,trivial⟩ ⟨rfl,_,_,_,_,_,_,(by first | rfl | (simp only [DHost.withFolders,List.length_set];rfl)),hu10,hf10,hi10,by first | assumption | (rw [ZR.2.2.1];assumption)⟩
 refine (Zac (l:=[_,_,_,_,_]) rfl rfl Za6 rfl (fun b12=>⟨⟨Kn.le.refl _,t1⟩,(Zo 5 kr rfl kr (ZeD rfl rfl Zxf rfl (ZhQ _ _ _ _ _ _ x (ZaJ (inF u [105,110,98,111,120]) x.folders) 0 ((Zca x.queue id u).2.1) om2 (oy) oz oz om2 _ hu hf hi) ?_))⟩))
 intro v13 B13 hle13
 rintro ⟨p113,d113,p213,d213,p313,d313,rfl,hu13,hf13,hi13,hd13⟩
 replace hr5:=up1 hle13 hr5
 have hu13n:=hu13.len
 have hf13n:=hf13.len
 have hi13n:=hi13.len
 refine ⟨⟨hle13,t1⟩,(aM 6 rfl (h:=aE 7 rfl (h:=aE 8 rfl (h:=Za4 10 kr rfl kr kr (ZE [_,_,_,_,_] 4 [_,_,_,_,_] rfl rfl Zau rfl rfl rfl rfl rfl rfl rfl rfl ?_)))))⟩
 refine aA 11 rfl (h:=Zv kr kr ?_)
 refine Zj (tL5 (Zh (Za (xM (h:=Zdt (h:=Zb rfl (fun g3=>?_) (fun g3=>?_)))))))
 try simp only [sQ,ne_eq] at g3
 rw [ZaV,if_neg hnn,if_neg hn2,if_pos (show (ZbL x (ZaJ (inF u inbox) x.folders).toNat 0 (Zca x.queue id u).2.1).2≠4 from g3)]
 refine Zc (xL [_,_] Zd1 3 (h:=xW ZcK (h:=xS [_,_] 4 [_,_,_,_,_] Zfz (h:=Zj (Za (xL [_,_,_,_,_] ZY 4 (h:=xM (h:=xS [_,_,_,_,_] 1 [_,_,_,_,_] Zau (h:=xA (h:=tL5 (Zd ?_)))))))))))
 exact Zat .ret (.inl rfl) [_,_] [] rfl ⟨⟨_,rfl,.inr ⟨[_,_,_,_,_],ZY,Zaa 1 rfl rfl rfl,rfl⟩⟩,rfl,trivial⟩ ⟨rfl,_,_,_,_,_,_,(by first | rfl | (simp only [DHost.withFolders,List.length_set];rfl)),hu13,hf13,hr5,by first | assumption | (rw [ZR.2.2.1];assumption)⟩
 try simp only [sQ,ne_eq] at g3
 rw [ZaV,if_neg hnn,if_neg hn2,if_neg (show ¬ (ZbL x (ZaJ (inF u inbox) x.folders).toNat 0 (Zca x.queue id u).2.1).2≠4 from fun h=>h g3)]
 refine wSk (Za (xL [_,_,_,_,_] ZY 4 (h:=xM (h:=xS [_,_,_,_,_] 1 [_,_,_,_,_] Zau (h:=xA (h:=tL5 (Zd ?_)))))))
 exact Zat .ret (.inl rfl) [_,_] [] rfl ⟨⟨_,rfl,.inr ⟨[_,_,_,_,_],ZY,Zaa 1 rfl rfl rfl,rfl⟩⟩,rfl,trivial⟩ ⟨rfl,_,_,_,_,_,_,(by first | rfl | (simp only [DHost.withFolders,List.length_set];rfl)),hu13,hf13,hi13,by first | assumption | (rw [ZR.2.2.1];assumption)⟩

theorem Zo6 (fl how ot:Int) (h1:0≤fl∧fl≤31) (h2:0≤ot∧ot≤31) (B:Kn):ZaX (pj J) 286 [.int .i64 fl,.int .i64 how,.int .i64 ot] B (.int .i64 (chg fl how ot)):=by
 refine cB 60 Tryz.func286 (h:=?_)
 refine Za (xA (h:=Za (xA (h:=Zh (Za (xA (h:=Zn (ZQ (α:=Nat × Int) [0,1,2,6] (fun g=>[(7,.int .i64 g.2),(8,.int .i64 g.1)]) [] (fun g=>[]) (fun g Bx=>Bx=B∧g.1≤5∧g.2=Zja fl how ot g.1) (fun g=>5 - g.1) (0,0) t2 rfl (⟨rfl,oz,rfl⟩) (fun g B1 hle1 hI=>?_)))))))))
 obtain ⟨rfl,hk,hs⟩:=hI
 have hbd:=Zoq fl how ot g.1 hk
 refine ZN [(0,_),(1,_),(2,_),(6,_),(7,_),(8,_)] [] t6 rfl (Zh (Za (xM (h:=Zag (h:=Zb rfl (fun g1=>?_) (fun g1=>?_))))))
 try simp only [sQ,ne_eq] at g1
 have hp:=ZkR (k:=g.1) oz
 have hb1 : -2<Int.tmod (Int.tdiv fl (ZbB g.1)) 2∧Int.tmod (Int.tdiv fl (ZbB g.1)) 2<2:=⟨Int.lt_tmod_of_pos _ (by decide),Int.tmod_lt_of_pos _ (by decide)⟩
 have hb2 : -2<Int.tmod (Int.tdiv ot (ZbB g.1)) 2∧Int.tmod (Int.tdiv ot (ZbB g.1)) 2<2:=⟨Int.lt_tmod_of_pos _ (by decide),Int.tmod_lt_of_pos _ (by decide)⟩
 refine wSk (Zh (Zn (Za (xM (h:=xM (h:=xR Zvc rfl (Zm4 g.1 om2 _) (h:=?_)))))))
 refine Zm (Zia (a:=fl) (b:=(ZbB g.1)) (r:=Int.tdiv fl (ZbB g.1)) rfl rfl rfl rfl oz (ZjF oz oz oz) ?_)
 refine Zm (ZhB (a:=(Int.tdiv fl (ZbB g.1))) (b:=2) (r:=Int.tmod (Int.tdiv fl (ZbB g.1)) 2) rfl rfl rfl rfl (by decide) rfl ?_)
 refine xA (h:=Za (xM (h:=xM (h:=xR Zvc rfl (Zm4 g.1 om2 _) (h:=?_)))))
 refine Zm (Zia (a:=ot) (b:=(ZbB g.1)) (r:=Int.tdiv ot (ZbB g.1)) rfl rfl rfl rfl oz (ZjF oz oz oz) ?_)
 refine Zm (ZhB (a:=(Int.tdiv ot (ZbB g.1))) (b:=2) (r:=Int.tmod (Int.tdiv ot (ZbB g.1)) 2) rfl rfl rfl rfl (by decide) rfl ?_)
 refine xA (h:=Zjs 11 (Zfh fl how ot g.1) [0,1,2,6,7,8,9,10,13] ?_ ?_)
 refine xM (h:=ZG (h:=xM (h:=Zq (d:=28) rfl (fun g1=>?_) (fun g1=>?_))))
 try simp only [sQ,ne_eq] at g1
 refine xM (h:=xM (h:=xD (h:=ZbG (h:=xT (h:=xM (h:=Zq (d:=34) rfl (fun g2=>?_) (fun g2=>?_)))))))
 try simp only [sQ,ne_eq] at g2
 refine xP (h:=xP (h:=xP (h:=xP (h:=xP (h:=xP (h:=xP (h:=xP (h:=xP (h:=xP (h:=xT (h:=xM (h:=xP (h:=xP (h:=xP (h:=xP (h:=xP (h:=xP (h:=xT (h:=xA (h:=?_))))))))))))))))))))
 exact ⟨rfl,rfl,rfl,Zdj rfl (by rw [Bool.eq_iff_iff];simp only [Zfh,decide_eq_true_eq,Bool.or_eq_true,Bool.and_eq_true,Bool.false_eq_true,true_iff,false_iff];simp only [Zj1];omega),t9⟩
 try simp only [sQ,ne_eq] at g2
 refine xM (h:=ZG (h:=xM (h:=Zq (d:=37) rfl (fun g3=>?_) (fun g3=>?_))))
 try simp only [sQ,ne_eq] at g3
 refine xM (h:=ZG (h:=xT (h:=xM (h:=Zq (d:=41) rfl (fun g4=>?_) (fun g4=>?_)))))
 try simp only [sQ,ne_eq] at g4
 refine xM (h:=ZG (h:=xT (h:=xF (h:=xM (h:=Zq (d:=46) rfl (fun g5=>?_) (fun g5=>?_))))))
 try simp only [sQ,ne_eq] at g5
 refine xP (h:=xP (h:=xP (h:=xP (h:=xP (h:=xP (h:=xT (h:=xA (h:=?_))))))))
 exact ⟨rfl,rfl,rfl,Zdj rfl (by rw [Bool.eq_iff_iff];simp only [Zfh,decide_eq_true_eq,Bool.or_eq_true,Bool.and_eq_true,Bool.false_eq_true,true_iff,false_iff];simp only [Zj1];omega),t9⟩
 try simp only [sQ,ne_eq] at g5
 refine xM (h:=ZG (h:=xM (h:=Zq (d:=49) rfl (fun g6=>?_) (fun g6=>?_))))
 try simp only [sQ,ne_eq] at g6
 refine xM (h:=ZG (h:=xT (h:=xF (h:=xA (h:=?_)))))
 exact ⟨rfl,rfl,rfl,Zdj rfl (by rw [Bool.eq_iff_iff];simp only [Zfh,decide_eq_true_eq,Bool.or_eq_true,Bool.and_eq_true,Bool.false_eq_true,true_iff,false_iff];simp only [Zj1];omega),t9⟩
 try simp only [sQ,ne_eq] at g6
 refine xP (h:=xP (h:=xF (h:=xF (h:=xA (h:=?_)))))
 exact ⟨rfl,rfl,rfl,Zdj rfl (by rw [Bool.eq_iff_iff];simp only [Zfh,decide_eq_true_eq,Bool.or_eq_true,Bool.and_eq_true,Bool.false_eq_true,true_iff,false_iff];simp only [Zj1];omega),t9⟩
 try simp only [sQ,ne_eq] at g4
 refine xP (h:=xP (h:=xF (h:=xF (h:=xM (h:=xM (h:=ZG (h:=xM (h:=Zq (d:=49) rfl (fun g7=>?_) (fun g7=>?_)))))))))
 try simp only [sQ,ne_eq] at g7
 refine xM (h:=ZG (h:=xT (h:=xF (h:=xA (h:=?_)))))
 exact ⟨rfl,rfl,rfl,Zdj rfl (by rw [Bool.eq_iff_iff];simp only [Zfh,decide_eq_true_eq,Bool.or_eq_true,Bool.and_eq_true,Bool.false_eq_true,true_iff,false_iff];simp only [Zj1];omega),t9⟩
 try simp only [sQ,ne_eq] at g7
 refine xP (h:=xP (h:=xF (h:=xF (h:=xA (h:=?_)))))
 exact ⟨rfl,rfl,rfl,Zdj rfl (by rw [Bool.eq_iff_iff];simp only [Zfh,decide_eq_true_eq,Bool.or_eq_true,Bool.and_eq_true,Bool.false_eq_true,true_iff,false_iff];simp only [Zj1];omega),t9⟩
 try simp only [sQ,ne_eq] at g3
 refine xP (h:=xP (h:=xF (h:=xM (h:=xP (h:=xP (h:=xF (h:=xF (h:=xM (h:=xM (h:=ZG (h:=xM (h:=Zq (d:=49) rfl (fun g8=>?_) (fun g8=>?_)))))))))))))
 try simp only [sQ,ne_eq] at g8
 refine xM (h:=ZG (h:=xT (h:=xF (h:=xA (h:=?_)))))
 exact ⟨rfl,rfl,rfl,Zdj rfl (by rw [Bool.eq_iff_iff];simp only [Zfh,decide_eq_true_eq,Bool.or_eq_true,Bool.and_eq_true,Bool.false_eq_true,true_iff,false_iff];simp only [Zj1];omega),t9⟩
 try simp only [sQ,ne_eq] at g8
 refine xP (h:=xP (h:=xF (h:=xF (h:=xA (h:=?_)))))
 exact ⟨rfl,rfl,rfl,Zdj rfl (by rw [Bool.eq_iff_iff];simp only [Zfh,decide_eq_true_eq,Bool.or_eq_true,Bool.and_eq_true,Bool.false_eq_true,true_iff,false_iff];simp only [Zj1];omega),t9⟩
 try simp only [sQ,ne_eq] at g1
 refine xP (h:=xP (h:=xP (h:=xP (h:=xF (h:=xM (h:=xM (h:=ZG (h:=xM (h:=Zq (d:=37) rfl (fun g9=>?_) (fun g9=>?_))))))))))
 try simp only [sQ,ne_eq] at g9
 refine xM (h:=ZG (h:=xT (h:=xM (h:=Zq (d:=41) rfl (fun g10=>?_) (fun g10=>?_)))))
 try simp only [sQ,ne_eq] at g10
 refine xM (h:=ZG (h:=xT (h:=xF (h:=xM (h:=Zq (d:=46) rfl (fun g11=>?_) (fun g11=>?_))))))
 try simp only [sQ,ne_eq] at g11
 refine xP (h:=xP (h:=xP (h:=xP (h:=xP (h:=xP (h:=xT (h:=xA (h:=?_))))))))
 exact ⟨rfl,rfl,rfl,Zdj rfl (by rw [Bool.eq_iff_iff];simp only [Zfh,decide_eq_true_eq,Bool.or_eq_true,Bool.and_eq_true,Bool.false_eq_true,true_iff,false_iff];simp only [Zj1];omega),t9⟩
 try simp only [sQ,ne_eq] at g11
 refine xM (h:=ZG (h:=xM (h:=Zq (d:=49) rfl (fun g12=>?_) (fun g12=>?_))))
 try simp only [sQ,ne_eq] at g12
 refine xM (h:=ZG (h:=xT (h:=xF (h:=xA (h:=?_)))))
 exact ⟨rfl,rfl,rfl,Zdj rfl (by rw [Bool.eq_iff_iff];simp only [Zfh,decide_eq_true_eq,Bool.or_eq_true,Bool.and_eq_true,Bool.false_eq_true,true_iff,false_iff];simp only [Zj1];omega),t9⟩
 try simp only [sQ,ne_eq] at g12
 refine xP (h:=xP (h:=xF (h:=xF (h:=xA (h:=?_)))))
 exact ⟨rfl,rfl,rfl,Zdj rfl (by rw [Bool.eq_iff_iff];simp only [Zfh,decide_eq_true_eq,Bool.or_eq_true,Bool.and_eq_true,Bool.false_eq_true,true_iff,false_iff];simp only [Zj1];omega),t9⟩
 try simp only [sQ,ne_eq] at g10
 refine xP (h:=xP (h:=xF (h:=xF (h:=xM (h:=xM (h:=ZG (h:=xM (h:=Zq (d:=49) rfl (fun g13=>?_) (fun g13=>?_)))))))))
 try simp only [sQ,ne_eq] at g13
 refine xM (h:=ZG (h:=xT (h:=xF (h:=xA (h:=?_)))))
 exact ⟨rfl,rfl,rfl,Zdj rfl (by rw [Bool.eq_iff_iff];simp only [Zfh,decide_eq_true_eq,Bool.or_eq_true,Bool.and_eq_true,Bool.false_eq_true,true_iff,false_iff];simp only [Zj1];omega),t9⟩
 try simp only [sQ,ne_eq] at g13
 refine xP (h:=xP (h:=xF (h:=xF (h:=xA (h:=?_)))))
 exact ⟨rfl,rfl,rfl,Zdj rfl (by rw [Bool.eq_iff_iff];simp only [Zfh,decide_eq_true_eq,Bool.or_eq_true,Bool.and_eq_true,Bool.false_eq_true,true_iff,false_iff];simp only [Zj1];omega),t9⟩
 try simp only [sQ,ne_eq] at g9
 refine xP (h:=xP (h:=xF (h:=xM (h:=xP (h:=xP (h:=xF (h:=xF (h:=xM (h:=xM (h:=ZG (h:=xM (h:=Zq (d:=49) rfl (fun g14=>?_) (fun g14=>?_)))))))))))))
 try simp only [sQ,ne_eq] at g14
 refine xM (h:=ZG (h:=xT (h:=xF (h:=xA (h:=?_)))))
 exact ⟨rfl,rfl,rfl,Zdj rfl (by rw [Bool.eq_iff_iff];simp only [Zfh,decide_eq_true_eq,Bool.or_eq_true,Bool.and_eq_true,Bool.false_eq_true,true_iff,false_iff];simp only [Zj1];omega),t9⟩
 try simp only [sQ,ne_eq] at g14
 refine xP (h:=xP (h:=xF (h:=xF (h:=xA (h:=?_)))))
 exact ⟨rfl,rfl,rfl,Zdj rfl (by rw [Bool.eq_iff_iff];simp only [Zfh,decide_eq_true_eq,Bool.or_eq_true,Bool.and_eq_true,Bool.false_eq_true,true_iff,false_iff];simp only [Zj1];omega),t9⟩
 refine Za (xM (h:=Zb rfl (fun g2=>?_) (fun g2=>?_)))
 try simp only [sQ,ne_eq] at g2
 refine Zc (xM (h:=xM (h:=xR Zvc rfl (Zm4 g.1 om2 _) (h:=?_))))
 refine xD (h:=xA (h:=Zw (Zj (Zc (xM (h:=xD (h:=xA (h:=?_))))))))
 exact ZD (g.1+1,g.2+ZbB g.1) [] so2 ⟨rfl,so,by simp only [Zja];rw [if_pos g2,hs]⟩ t6 rfl
 try simp only [sQ,ne_eq] at g2
 refine ZL (Zw (Zj (Zc (xM (h:=xD (h:=xA (h:=?_)))))))
 exact ZD (g.1+1,g.2) [] so2 ⟨rfl,so,by simp only [Zja];rw [if_neg (by simp [g2]),hs]⟩ t6 rfl
 try simp only [sQ,ne_eq] at g1
 refine ZU (Zak (Z3 (ZK (Zj (Za (xM (h:=xA (h:=Zd ?_))))))))
 exact eR t1 ⟨ZaH (by rw [hs,show g.1=5 from by omega];rfl),rfl,rfl⟩

theorem ZlP (q:Option Addr) (cp:Nat) (x:DBox) (q2:Option Addr) (cp2:Nat) (xs:List Int)  (B:Kn) (hx:SlK B q cp 3 ZS x.mail) (hn:SlK B q2 cp2 1 Zb9 xs):ZaX (pj J) 285 [.agg #[.int .i64 x.next,.slice q x.mail.length cp],.slice q2 xs.length cp2] B (.bool (Zel x.mail.length xs)):=by
 refine cB 37 Tryz.func285 (h:=?_)
 have hxn:=hx.len
 have hnn:=hn.len
 refine Za (xBx [_,_] (h:=fun b1=>xA (h:=tL1 (Zh (Za (xA (h:=Zn (ZQ (α:=Nat × Int) [0,1,2] (fun g=>[(5,.int .i64 g.1)]) [] (fun g=>[]) (fun g Bx=>Bx=B∧g.1≤xs.length∧Zd0 x.mail.length (xs.take g.1)=(true,g.2)∧Prev (fun y=>y) 0 xs g.1 g.2) (fun g=>xs.length - g.1) (0,0) t1 rfl (⟨rfl,Nat.zero_le _,Ze3,.zero⟩) (fun g B2 hle2 hI=>?_)))))))))
 obtain ⟨rfl,hk,hs,hp⟩:=hI
 refine ZN [(0,_),(1,_),(2,_),(5,_)] [_] t4 rfl (Zh (Za (xM (h:=xM (h:=xV Tryz.underlying57 (h:=Zag (h:=Zb rfl (fun g1=>?_) (fun g1=>?_))))))))
 try simp only [sQ,ne_eq] at g1
 refine wSk (Zh (Zn (Zh (ZV (same _ _) mo kr ⟨rfl,rfl⟩ (fun _ _=>?_)))))
 refine aM 0 rfl (h:=aM 1 rfl (h:=?_))
 obtain ⟨m,hm⟩:=ZaA (xs:=xs) (i:=g.1) om
 obtain ⟨bb4,oo4,rfl⟩:=hn.base hm
 obtain ⟨_,rfl,hc5⟩:=hn.elem hm
 refine aIx 2 rfl Tryz.underlying57 sz3 (h:=aT 3 rfl (Zaj fun D=>Ze rfl rfl lk3 rfl (hc5 _ 0 _ rfl) r4) (h:=aW 4 rfl Za0 (h:=aT 5 rfl (Zaj fun D=>Ze rfl rfl Zgc rfl (atL 0 rfl rfl rfl) r4) (h:=aV 6 rfl Tryz.underlying83 (h:=aT 7 rfl (Zaj fun D=>ZaF rfl rfl ZjW rfl (Zct _ _ _ _) r4) (h:=aN 8 rfl (h:=aM 9 rfl (h:=ZaE (d:=21) rfl (fun g2=>?_) (fun g2=>?_)))))))))
 try simp only [sQ,ne_eq] at g2
 refine aZ 10 rfl (h:=aZ 11 rfl (h:=aZ 12 rfl (h:=aZ 13 rfl (h:=aZ 14 rfl (h:=aZ 15 rfl (h:=aZ 16 rfl (h:=aZ 17 rfl (h:=aZ 18 rfl (h:=aZ 19 rfl (h:=aZ 20 rfl (h:=aZ 21 rfl (h:=aZ 22 rfl (h:=aZ 23 rfl (h:=aPT 24 rfl (h:=Zv kr kr ?_)))))))))))))))
 refine Zj (Zb (t:=true) rfl (fun _=>Za (xA (h:=Zd (ZI (Zp (Z7 (ZI (Zp ?_)))))))) (fun h=>Bool.noConfusion h))
 exact eR t1 ⟨Zk (ZjH hm hs (by simp [Zqs,g2];try omega)).symm,rfl,rfl⟩
 try simp only [sQ,ne_eq] at g2
 refine aM 10 rfl (h:=ZnE 11 rfl (h:=aM 12 rfl (h:=ZaE (d:=24) rfl (fun g6=>?_) (fun g6=>?_))))
 try simp only [sQ,ne_eq] at g6
 refine aM 13 rfl (h:=aM 14 rfl (h:=aU 15 rfl (h:=?_)))
 obtain ⟨y,hy⟩:=Zey (xs:=xs) (i:=(↑g.1 - 1)) om om
 obtain ⟨_,rfl,hc8⟩:=hn.elem hy
 refine aIx 16 rfl Tryz.underlying57 sz3 (h:=?_)
 have hpe:=hp.at hy oz
 refine aT 17 rfl (Zaj fun D=>Ze rfl rfl lk3 rfl (hc8 _ 0 _ rfl) r4) (h:=aM 18 rfl (h:=aM 19 rfl (h:=aIx 20 rfl Tryz.underlying57 sz3 (h:=aT 21 rfl (Zaj fun D=>Ze rfl rfl lk3 rfl (hc5 _ 0 _ rfl) r4) (h:=Zw7 22 rfl (h:=aPT 23 rfl (h:=aPF 24 rfl (h:=Zv kr kr ?_))))))))
 refine Zj (Zb rfl (fun g7=>?_) (fun g7=>?_))
 try simp only [sQ,ne_eq] at g7
 refine Za (xA (h:=Zd (ZI (Zp (Z7 (ZI (Zp ?_)))))))
 exact eR t1 ⟨Zk (ZjH hm hs (by simp [Zqs,g2,hpe];try omega)).symm,rfl,rfl⟩
 try simp only [sQ,ne_eq] at g7
 refine ZL (Zw (Zj (Zc (xM (h:=xD (h:=xA (h:=?_)))))))
 exact ZD (g.1+1,m) [0] so2 ⟨rfl,oz,Zci hm hs (by rw [hpe];simp [Zqs,g2];simp at g2;omega),.succ hm⟩ t4 rfl
 try simp only [sQ,ne_eq] at g6
 refine aZ 13 rfl (h:=aZ 14 rfl (h:=aZ 15 rfl (h:=aZ 16 rfl (h:=aZ 17 rfl (h:=aZ 18 rfl (h:=aZ 19 rfl (h:=aZ 20 rfl (h:=aZ 21 rfl (h:=aZ 22 rfl (h:=aPF 23 rfl (h:=aPF 24 rfl (h:=Zv kr kr ?_))))))))))))
 refine Zj (Zb (t:=false) rfl (fun h=>Bool.noConfusion h) (fun _=>ZL (Zw (Zj (Zc (xM (h:=xD (h:=xA (h:=?_)))))))))
 exact ZD (g.1+1,m) [0] so2 ⟨rfl,oz,Zci hm hs (by rw [hp.at0 oz];simp [Zqs,g2];simp at g2;omega),.succ hm⟩ t4 rfl
 try simp only [sQ,ne_eq] at g1
 refine ZU (Zak (Z3 (ZK (Zj (Za (xA (h:=Zd ?_)))))))
 exact eR t1 ⟨Zk (ZoX (Zea hs oz)).symm,rfl,rfl⟩

theorem ZfU (q:Option Addr) (cp:Nat) (x:DBox) (q2:Option Addr) (cp2:Nat) (xs:List Int) (how fl:Int) (B:Kn) (hx:SlK B q cp 3 ZS x.mail) (hn:SlK B q2 cp2 1 Zb9 xs):Zu (pj J) 283 [.agg #[.int .i64 x.next,.slice q x.mail.length cp],.slice q2 xs.length cp2,.int .i64 how,.int .i64 fl] B [] (fun v B' Ls=>Ls=[]∧∃a c,v = .tuple #[.agg #[.int .i64 (Zbj x xs how fl).1.next,.slice a (Zbj x xs how fl).1.mail.length c],.bool (Zbj x xs how fl).2]∧SlK B' a c 3 ZS (Zbj x xs how fl).1.mail):=by
 refine cB 61 Tryz.func283 (h:=?_)
 have hxn:=hx.len
 have hnn:=hn.len
 refine Za (xBx [_,_] (h:=fun b1=>xAl [_,_] Zfo (h:=fun b2=>xA (h:=tL2 (Zh (Za (xL [_,_] ZbT 0 (h:=xR Ztk rfl (Zgk _ _ (⟨x.next,x.mail⟩:DBox) _ hx) (h:=xN (h:=xM (h:=Zq (d:=16) rfl (fun g1=>?_) (fun g1=>?_))))))))))))
 try simp only [sQ,ne_eq] at g1
 rw [ZeQ (by simp [g1])]
 refine xP (h:=xP (h:=xP (h:=xP (h:=xT (h:=xM (h:=xP (h:=xP (h:=xP (h:=xT (h:=xM (h:=xP (h:=xP (h:=xP (h:=xT (h:=Zb (t:=true) rfl (fun _=>Za (xB [] [_,_] [_,_] Zn0 Zfo (h:=xS [_,_] 1 [_,_] ZcQ (h:=xA (h:=tL2 (Zd (Zp ?_))))))) (fun h=>Bool.noConfusion h))))))))))))))))
 exact Zat .ret (.inl rfl) [_,_] [] rfl ⟨⟨_,rfl,.inr ⟨[_,_],ZbT,Zaa 1 rfl rfl rfl,rfl⟩⟩,rfl,trivial⟩ ⟨rfl,none,0,rfl,SlK.nil⟩
 try simp only [sQ,ne_eq] at g1
 refine xL [_,_] ZbT 0 (h:=xM (h:=xR Zyb rfl (ZlP _ _ (⟨x.next,x.mail⟩:DBox) _ _ xs _ hx hn) (h:=xN (h:=xF (h:=xM (h:=Zq (d:=22) rfl (fun g2=>?_) (fun g2=>?_)))))))
 try simp only [sQ,ne_eq] at g2
 rw [ZeQ (by simp [g2])]
 refine xP (h:=xP (h:=xP (h:=xT (h:=xM (h:=xP (h:=xP (h:=xP (h:=xT (h:=Zb (t:=true) rfl (fun _=>Za (xB [] [_,_] [_,_] Zn0 Zfo (h:=xS [_,_] 1 [_,_] ZcQ (h:=xA (h:=tL2 (Zd (Zp ?_))))))) (fun h=>Bool.noConfusion h))))))))))
 exact Zat .ret (.inl rfl) [_,_] [] rfl ⟨⟨_,rfl,.inr ⟨[_,_],ZbT,Zaa 1 rfl rfl rfl,rfl⟩⟩,rfl,trivial⟩ ⟨rfl,none,0,rfl,SlK.nil⟩
 try simp only [sQ,ne_eq] at g2
 refine xM (h:=xR ZjW rfl (Zct _ _ _ _) (h:=xN (h:=xF (h:=xM (h:=Zq (d:=27) rfl (fun g3=>?_) (fun g3=>?_))))))
 try simp only [sQ,ne_eq] at g3
 rw [ZeQ (by simp only [Zkv,g3];simp)]
 refine xP (h:=xP (h:=xP (h:=xT (h:=Zb (t:=true) rfl (fun _=>Za (xB [] [_,_] [_,_] Zn0 Zfo (h:=xS [_,_] 1 [_,_] ZcQ (h:=xA (h:=tL2 (Zd (Zp ?_))))))) (fun h=>Bool.noConfusion h)))))
 exact Zat .ret (.inl rfl) [_,_] [] rfl ⟨⟨_,rfl,.inr ⟨[_,_],ZbT,Zaa 1 rfl rfl rfl,rfl⟩⟩,rfl,trivial⟩ ⟨rfl,none,0,rfl,SlK.nil⟩
 try simp only [sQ,ne_eq] at g3
 refine xM (h:=xR Zrp rfl (Zfa _ _) (h:=xN (h:=xF (h:=Zb rfl (fun g4=>?_) (fun g4=>?_)))))
 try simp only [sQ,ne_eq] at g4
 rw [ZeQ (by simp only [ZaW,g4];simp)]
 refine Za (xB [] [_,_] [_,_] Zn0 Zfo (h:=xS [_,_] 1 [_,_] ZcQ (h:=xA (h:=tL2 (Zd (Zp ?_))))))
 exact Zat .ret (.inl rfl) [_,_] [] rfl ⟨⟨_,rfl,.inr ⟨[_,_],ZbT,Zaa 1 rfl rfl rfl,rfl⟩⟩,rfl,trivial⟩ ⟨rfl,none,0,rfl,SlK.nil⟩
 try simp only [sQ,ne_eq] at g4
 have hok:Zbm x=true:=by simpa using g1
 have hno:Zel x.mail.length xs=true:=by simpa using g2
 have hfo:ZaW fl=true:=by simpa only [ZaW,Bool.not_eq_false] using g4
 have hall:=Zmf (how:=how) (fl:=fl) ⟨hok,hno,by simpa only [Zkv,Bool.not_eq_false] using g3,hfo⟩
 have hfl:0≤fl∧fl≤31:=by simpa [ZaW] using hfo
 refine wSk (Za (xL [_,_] ZbT 0 (h:=xC Zvi rfl (ZiD _ _ (⟨x.next,x.mail⟩:DBox) _ hx) (h:=?_))))
 rintro _ B7 _ hle7 ⟨hB7,l7,a7,c7,rfl,rfl,hs7⟩
 have hB7:=hB7.symm
 subst hB7
 refine xAl [_,_] Zfo (h:=fun b8=>xS [_,_] 3 [_,_] ZcQ (h:=tL4 (Zh (Za (xA (h:=Zn (ZQ (α:=Nat × Cells × List DMail) [0,1,2,3,4,8,9,10,31] (fun g=>[(11,.int .i64 g.1)]) [2,3] (fun g=>[g.2.1,Z8 b8 [.int .i64 x.next,.slice a7 x.mail.length c7] 85]) (fun g Bx=>Bx=B∧g.1≤xs.length∧g.2.2=Zef x.mail how fl (xs.take g.1)∧Like x.mail g.2.2∧ZT Bx g.2.1 a7 c7 89 3 ZS g.2.2) (fun g=>xs.length - g.1) (0,_,x.mail) t1 rfl (⟨rfl,Nat.zero_le _,rfl,Like.refl _,hs7⟩) (fun g B9 hle9 hI=>?_))))))))
 obtain ⟨rfl,hk,hs,hlk,hv⟩:=hI
 have hll:=hlk.1
 refine ZN [(0,_),(1,_),(2,_),(3,_),(4,_),(8,_),(9,_),(10,_),(11,_),(31,_)] [_,_,_,_] t10 rfl (Zh (Za (xM (h:=xM (h:=xV Tryz.underlying57 (h:=Zag (h:=Zb rfl (fun g5=>?_) (fun g5=>?_))))))))
 try simp only [sQ,ne_eq] at g5
 refine wSk (Zh (Zn (Za (xM (h:=xM (h:=?_))))))
 obtain ⟨y,hy⟩:=ZaA (xs:=xs) (i:=g.1) om
 obtain ⟨bb11,oo11,rfl⟩:=hn.base hy
 obtain ⟨_,rfl,hc12⟩:=hn.elem hy
 refine xIx Tryz.underlying57 sz3 (h:=?_)
 have hyb:=ZoW hno y (List.mem_of_getElem? hy)
 have hyl:(y - 1).toNat<x.mail.length:=by omega
 refine y1 lk3 hc12 0 (h:=xU (h:=xA (h:=ZV (keeps _ [0,2,3] _) mo kr ⟨Kn.le.refl _,Zae.refl _ _⟩ (fun _ _=>?_))))
 refine aW 0 rfl Za0 (h:=aT 1 rfl (Zx fun D B L hI=>Ze rfl rfl Zgc rfl (atL 3 (hI.2.2.2.1.trans rfl) rfl rfl) r4) (h:=aM 2 rfl (h:=aW 3 rfl Za0 (h:=aT 4 rfl (Zx fun D B L hI=>Ze rfl rfl Zgc rfl (atL 0 (hI.2.1.trans rfl) rfl rfl) r4) (h:=aM 5 rfl (h:=?_))))))
 obtain ⟨m,hm⟩:=Zey (xs:=x.mail) (i:=(y - 1)) om om
 obtain ⟨bb14,oo14,rfl⟩:=hx.base hm
 obtain ⟨_,⟨rfl,hb15⟩,hc15⟩:=hx.elem hm
 refine aIx 6 rfl Tryz.underlying83 ZhC (h:=?_)
 have hmf:=Zf8 hok (List.mem_of_getElem? hm)
 refine aW 7 rfl ZiV (h:=aT 8 rfl (Zx fun D B L hI=>Ze rfl rfl lk3 rfl ((hc15.mono hI.1) _ 1 _ rfl) r4) (h:=aM 9 rfl (h:=aM 10 rfl (h:=aT 11 rfl (Zx fun D B L hI=>ZaF rfl rfl Zya rfl (Zo6 m.flags how fl (oy) (oy) _) r4) (h:=?_)))))
 obtain ⟨z,hz⟩:=Zey (xs:=g.2.2) (i:=(y - 1)) om om
 obtain ⟨bb18,_,hp18,⟨rfl,hb18⟩,hw18,hc18⟩:=hv.row hz
 refine aT 12 rfl (Zx fun D B L hI=>Zgf hp18 rfl rfl Tryz.underlying83 ZhC rfl rfl om om r4) (h:=?_)
 refine aW 13 rfl ZiV (h:=ZO 14 kr rfl kr kr kr (ZeA (k:=((y - 1)).toNat) (off:=1) (⟨z.uid,chg m.flags how fl,z.text⟩) [_] 2 hv hp18 hz rfl rfl sz3 rfl rfl rfl rfl rfl rfl (by rintro _ ⟨rfl,e1⟩;exact ⟨rfl,e1⟩) (fun l19 hv19=>?_)))
 refine Zw (Zj (Zc (xM (h:=xD (h:=xA (h:=?_))))))
 exact ZD (g.1+1,l19,(g.2.2.set (((y - 1)).toNat) (⟨z.uid,chg m.flags how fl,z.text⟩))) [0,1,2,3] so2 ⟨rfl,so,by simp only [];rw [Zl1 hy (by rw [← hs];exact hz) hm,← hs],hlk.set hz (Zt2 _ _ _),hv19⟩ t10 rfl
 try simp only [sQ,ne_eq] at g5
 have hfe:g.2.2=Zef x.mail how fl xs:=by rw [hs,List.take_of_length_le oz]
 rw [hfe] at hv hll
 refine ZU (Zak (Z3 (ZK (Zj (Za (xL [_,_] ZbT 3 (h:=ZZ 2 rfl hv ZS.mono om3 (fun B20 hle20 hr20=>?_))))))))
 have hr20n:=hr20.len
 refine xS [_,_] 1 [_,_] ZcQ (h:=?_)
 rw [hall]
 refine xA (h:=tL4 (Zd ?_))
 exact Zat .ret (.inl rfl) [_,_] [] rfl ⟨⟨_,rfl,.inr ⟨[_,_],ZbT,Zaa 1 rfl rfl rfl,rfl⟩⟩,rfl,trivial⟩ ⟨rfl,_,_,by rw [← hll];rfl,hr20⟩

theorem ZcD (q:Option Addr) (cp:Nat) (x:DBox) (B:Kn) (hx:SlK B q cp 3 ZS x.mail):Zu (pj J) 58 [.agg #[.int .i64 x.next,.slice q x.mail.length cp]] B [] (fun v B' Ls=>∃l a c l' a' c',Ls=[l,l']∧v = .tuple #[.agg #[.int .i64 (expunge x).1.next,.slice a (expunge x).1.mail.length c],.slice a' (expunge x).2.length c']∧ZT B' l a c 89 3 ZS (expunge x).1.mail∧ZT B' l' a' c' 3 1 Zb9 (expunge x).2):=by
 refine cB 52 Tryz.func58 (h:=?_)
 have hxn:=hx.len
 refine Za (xBx [_,_] (h:=fun b1=>xAl [_,_] Zfo (h:=fun b2=>xA (h:=tL2 (Zh (Za (xL [_,_] ZbT 0 (h:=xR Ztk rfl (Zgk _ _ (⟨x.next,x.mail⟩:DBox) _ hx) (h:=xN (h:=Zb rfl (fun g1=>?_) (fun g1=>?_)))))))))))
 try simp only [sQ,ne_eq] at g1
 refine Za (xB [] [_,_] [_,_] Zn0 Zfo (h:=ZuA (xBs [] [] Tryz.underlying57 sz3 zo3 (h:=fun b4=>?_))))
 rw [expunge,if_neg (by simp [g1])]
 refine xS [_,_] 1 [_,_] ZcQ (h:=xA (h:=tL4 (Zd (Zp ?_))))
 exact Zat .ret (.inl rfl) [_,_] [2,3] rfl ⟨⟨_,rfl,.inr ⟨[_,_],ZbT,Zaa 1 rfl rfl rfl,rfl⟩⟩,rfl,trivial⟩ ⟨_,none,0,_,_,_,rfl,rfl,ZT.nil,ZT.lit0⟩
 try simp only [sQ,ne_eq] at g1
 have hok:Zbm x=true:=by simpa using g1
 refine wSk (Za (xW ZcP (h:=x1 lk3 0 (h:=xBs [] [] Tryz.underlying83 ZhC Zou (h:=fun b5=>xB [(0,_),(1,_)] [_,_] [_,_] Zn0 Zfo (h:=xAl [_,_] Zfo (h:=fun b6=>xS [_,_] 3 [_,_] ZcQ (h:=tL4 (Za (xBs [] [] Tryz.underlying57 sz3 zo3 (h:=fun b7=>xA (h:=tL5 (Zh (Za (xA (h:=Zn (ZQ (α:=GEx) [0,1,2,3,4,9] (fun g=>[(5,.slice g.n.a g.n.xs.length g.n.c),(6,.int .i64 g.k)]) [2,3,4] (fun g=>[g.m.l,Z8 b6 [.int .i64 x.next,.slice g.m.a g.m.xs.length g.m.c] 85,g.n.l]) (fun g Bx=>Bx=B∧g.k≤x.mail.length∧g.m.xs=ZcG (x.mail.take g.k)∧g.n.xs=(Zkz (x.mail.take g.k)).2∧g.n.xs.length≤g.k∧ZT Bx g.m.l g.m.a g.m.c 89 3 ZS g.m.xs∧ZT Bx g.n.l g.n.a g.n.c 3 1 Zb9 g.n.xs) (fun g=>x.mail.length - g.k) ⟨0,⟨0,0,_,_,_,[]⟩,⟨0,0,_,_,_,[]⟩⟩ t2 rfl (⟨rfl,Nat.zero_le _,rfl,rfl,Nat.le_refl _,.lit0,.lit0⟩) (fun g B8 hle8 hI=>?_))))))))))))))))))
 obtain ⟨rfl,hk,hm1,hn1,hnl,hv,hw⟩:=hI
 have hml:g.m.xs.length≤g.k:=by rw [hm1];exact ZsQ _ _
 refine ZN [(0,_),(1,_),(2,_),(3,_),(4,_),(5,_),(6,_),(9,_)] [_,_,_,_,_] t8 rfl (Zh (Za (xM (h:=xW Za0 (h:=x1 Zgc 0 (h:=xV Tryz.underlying83 (h:=Zag (h:=Zb rfl (fun g2=>?_) (fun g2=>?_)))))))))
 try simp only [sQ,ne_eq] at g2
 refine wSk (Zh (Zn (Za (xW Za0 (h:=x1 Zgc 0 (h:=xM (h:=?_)))))))
 obtain ⟨m,hm⟩:=ZaA (xs:=x.mail) (i:=g.k) om
 obtain ⟨bb10,oo10,rfl⟩:=hx.base hm
 obtain ⟨_,⟨rfl,hb11⟩,hc11⟩:=hx.elem hm
 refine xIx Tryz.underlying83 ZhC (h:=xW ZiV (h:=y1 lk3 hc11 1 (h:=Zm (Zia (a:=m.flags) (b:=8) (r:=Int.tdiv m.flags 8) rfl rfl rfl rfl oz (ZjF (Zf8 hok (List.mem_of_getElem? hm)).1 (Int.le_trans (Zf8 hok (List.mem_of_getElem? hm)).2 (by decide)) (by decide)) ?_))))
 refine Zm (ZhB (a:=(Int.tdiv m.flags 8)) (b:=2) (r:=Int.tmod (Int.tdiv m.flags 8) 2) rfl rfl rfl rfl (by decide) rfl ?_)
 refine ZG (h:=Zb rfl (fun g3=>?_) (fun g3=>?_))
 try simp only [sQ,ne_eq] at g3
 refine Zc (xM (h:=xW Za0 (h:=x1 Zgc 3 (h:=xV Tryz.underlying83 (h:=xD (h:=xBs [(0,_)] [_] Tryz.underlying57 sz3 zo3 (h:=fun b12=>Zm (Zbe (z:=((g.m.xs.length:Int)+1)) (R:=Zb9) 4 rfl hw rfl rfl rfl Zzs Zzq rfl rfl (ZaO.box 5 rfl) rfl rfl (rfl) om (fun l13 p13 c13 hv13=>?_)))))))))
 refine xA (h:=Zw (Zj (Zc (xM (h:=xD (h:=xA (h:=?_)))))))
 exact ZD ⟨g.k+1,⟨0,0,g.m.l,g.m.a,g.m.c,g.m.xs⟩,⟨0,0,l13,p13,c13,(g.n.xs ++ [((g.m.xs.length:Int)+1)])⟩⟩ [0,1,2,3,4] so2 ⟨rfl,so,by simp only [];rw [ZuO hm (by simpa [ZpD] using g3),hm1],by simp only [];rw [ZjS hm,Zdl,if_pos (by simpa [ZpD] using g3),← hn1,Zq3,← hm1];rfl,by simp;omega,hv,hv13⟩ t8 rfl
 try simp only [sQ,ne_eq] at g3
 refine ZV (keeps _ [0,3] _) mo kr ⟨Kn.le.refl _,Zae.refl _ _⟩ (fun _ _=>?_)
 refine aW 0 rfl Za0 (h:=aT 1 rfl (Zx fun D B L hI=>Ze rfl rfl Zgc rfl (atL 3 (hI.2.2.1.trans rfl) rfl rfl) r4) (h:=aW 2 rfl Za0 (h:=aT 3 rfl (Zx fun D B L hI=>Ze rfl rfl Zgc rfl (atL 0 (hI.2.1.trans rfl) rfl rfl) r4) (h:=aM 4 rfl (h:=aIx 5 rfl Tryz.underlying83 ZhC (h:=aT 6 rfl (Zx fun D B L hI=>ZX [_,_,_] rfl rfl Zvz rfl (ZmN (hc11.mono hI.1) 0 rfl rfl) r4) (h:=Zo 7 kr rfl kr (Zs (parts:=[(0,_)]) [_,_,_] rfl rfl Tryz.underlying83 ZhC Zou rfl rfl rfl rfl rfl (fun b14=>?_)))))))))
 refine ⟨⟨Kn.le.refl _,t2⟩,(Zo 8 kr rfl kr (Zbe (z:=⟨m.uid,m.flags,m.text⟩) (R:=ZS) 2 rfl hv rfl rfl rfl Zxd Zw9 rfl rfl (ZaO.box 5 rfl) rfl rfl (⟨rfl,by first | assumption | omega | (simp;done) | (simp;omega)⟩) om (fun l15 p15 c15 hv15=>?_)))⟩
 refine ⟨⟨Kn.le.refl _,t2⟩,(aW 9 rfl Za0 (h:=ZO 10 kr rfl kr kr kr (ZE [_] 3 [_,_] rfl rfl ZxD rfl rfl rfl rfl rfl rfl rfl rfl ?_)))⟩
 refine Zw (Zj (Zc (xM (h:=xD (h:=xA (h:=?_))))))
 exact ZD ⟨g.k+1,⟨0,0,l15,p15,c15,(g.m.xs ++ [⟨m.uid,m.flags,m.text⟩])⟩,⟨0,0,g.n.l,g.n.a,g.n.c,g.n.xs⟩⟩ [0,1,2,3,4] so2 ⟨rfl,so,by simp only [];rw [ZsP hm (by simpa [ZpD] using g3),hm1],by simp only [];rw [ZjS hm,Zdl,if_neg (by simpa [ZpD] using g3),hn1],so,hv15,hw⟩ t8 rfl
 try simp only [sQ,ne_eq] at g2
 have hmf0:g.m.xs=ZcG x.mail:=by rw [hm1,List.take_of_length_le oz]
 have hnf0:g.n.xs=(Zkz x.mail).2:=by rw [hn1,List.take_of_length_le oz]
 rw [expunge,if_pos (by simpa using g1),← hmf0,← hnf0]
 refine ZU (Zak (Z3 (ZK (Zj (Za (xL [_,_] ZbT 3 (h:=xM (h:=xS [_,_] 1 [_,_] ZcQ (h:=xA (h:=tL5 (Zd ?_)))))))))))
 exact Zat .ret (.inl rfl) [_,_] [2,4] rfl ⟨⟨_,rfl,.inr ⟨[_,_],ZbT,Zaa 1 rfl rfl rfl,rfl⟩⟩,rfl,trivial⟩ ⟨_,_,_,_,_,_,rfl,rfl,hv,hw⟩

theorem Zim (q:Option Addr) (cp:Nat) (xs:List DSpan) (B:Kn) (hs:SlK B q cp 2 ZfC xs):ZaX (pj J) 37 [.slice q xs.length cp] B (.bool (ZeI xs)):=by
 refine cB 29 Tryz.func37 (h:=?_)
 have hsn:=hs.len
 refine Za (xA (h:=Zh (Za (xA (h:=Zn (ZQ (α:=Nat) [0] (fun k=>[(3,.int .i64 k)]) [] (fun k=>[]) (fun k Bx=>Bx=B∧k≤xs.length∧∀y,y∈xs.take k→Zgn y=true) (fun k=>xs.length - k) 0 t1 rfl (⟨rfl,Nat.zero_le _,by simp⟩) (fun k B1 hle1 hI=>?_)))))))
 obtain ⟨rfl,hk,hall⟩:=hI
 refine ZN [(0,_),(3,_)] [] t2 rfl (Zh (Za (xM (h:=xM (h:=xV Tryz.underlying48 (h:=Zag (h:=Zb rfl (fun g1=>?_) (fun g1=>?_))))))))
 try simp only [sQ,ne_eq] at g1
 refine wSk (Zh (Zn (Za (xM (h:=xM (h:=?_))))))
 obtain ⟨m,hm⟩:=ZaA (xs:=xs) (i:=k) om
 obtain ⟨bb3,oo3,rfl⟩:=hs.base hm
 obtain ⟨_,rfl,hc4⟩:=hs.elem hm
 refine xIx Tryz.underlying48 ZtO (h:=xW Zq7 (h:=y1 lk3 hc4 0 (h:=xR ZjW rfl (Zct _ _ _ _) (h:=xN (h:=xM (h:=Zq (d:=17) rfl (fun g2=>?_) (fun g2=>?_)))))))
 try simp only [sQ,ne_eq] at g2
 refine xP (h:=xP (h:=xP (h:=xP (h:=xP (h:=xP (h:=xP (h:=xT (h:=Zb (t:=true) rfl (fun _=>Za (xA (h:=Zd (ZI (Zp (Z7 (ZI (Zp ?_)))))))) (fun h=>Bool.noConfusion h)))))))))
 exact eR t1 ⟨Zk (by rw [ZeI,Zcl hm (by simp only [Zgn,g2,Bool.false_and]),Bool.false_and]),rfl,rfl⟩
 try simp only [sQ,ne_eq] at g2
 refine xM (h:=xM (h:=xIx Tryz.underlying48 ZtO (h:=xW Zq6 (h:=y1 lk3 hc4 1 (h:=xR ZjW rfl (Zct _ _ _ _) (h:=xN (h:=xF (h:=Zb rfl (fun g3=>?_) (fun g3=>?_)))))))))
 try simp only [sQ,ne_eq] at g3
 refine Za (xA (h:=Zd (ZI (Zp (Z7 (ZI (Zp ?_)))))))
 exact eR t1 ⟨Zk (by rw [ZeI,Zcl hm (by simp only [Zgn,g3,Bool.and_false]),Bool.false_and]),rfl,rfl⟩
 try simp only [sQ,ne_eq] at g3
 refine ZL (Zw (Zj (Zc (xM (h:=xD (h:=xA (h:=?_)))))))
 exact ZD (k+1) [] so2 ⟨rfl,oz,Zbk hm hall (by simp only [Zgn];rw [show (decide (0≤m.low) && decide (m.low≤99))=true by simpa only [Bool.not_eq_false] using g2,show (decide (0≤m.high) && decide (m.high≤99))=true by simpa only [Bool.not_eq_false] using g3];rfl)⟩ t2 rfl
 try simp only [sQ,ne_eq] at g1
 refine ZU (Zak (Z3 (ZK (Zj (Za (xM (h:=xV Tryz.underlying48 (h:=xR ZjW rfl (Zct _ _ _ _) (h:=xA (h:=Zd ?_))))))))))
 exact eR t1 ⟨Zk (by rw [ZeI,Zd6 (Zby oz hall),Bool.true_and,Bool.eq_iff_iff];simp;try omega),rfl,rfl⟩

theorem ZuK (q:Option Addr) (cp:Nat) (xs:List DSpan) (last n:Int) (B:Kn) (hs:SlK B q cp 2 ZfC xs):ZaX (pj J) 139 [.slice q xs.length cp,.int .i64 last,.int .i64 n] B (.bool (Zgo xs last n)):=by
 refine cB 40 Tryz.func139 (h:=?_)
 have hsn:=hs.len
 refine Za (xA (h:=Zh (Za (xA (h:=Zn (ZQ (α:=Nat) [0,1,2] (fun k=>[(7,.int .i64 k)]) [] (fun k=>[]) (fun k Bx=>Bx=B∧k≤xs.length∧(xs.take k).any (Zd9 last n)=false) (fun k=>xs.length - k) 0 t1 rfl (⟨rfl,Nat.zero_le _,rfl⟩) (fun k B1 hle1 hI=>?_)))))))
 obtain ⟨rfl,hk,hna⟩:=hI
 refine ZN [(0,_),(1,_),(2,_),(7,_)] [] t4 rfl (Zh (Za (xM (h:=xM (h:=xV Tryz.underlying48 (h:=Zag (h:=Zb rfl (fun g1=>?_) (fun g1=>?_))))))))
 try simp only [sQ,ne_eq] at g1
 refine wSk (Zh (Zn (Za (xM (h:=xM (h:=?_))))))
 obtain ⟨m,hm⟩:=ZaA (xs:=xs) (i:=k) om
 obtain ⟨bb3,oo3,rfl⟩:=hs.base hm
 obtain ⟨_,rfl,hc4⟩:=hs.elem hm
 refine xIx Tryz.underlying48 ZtO (h:=xW Zq7 (h:=y1 lk3 hc4 0 (h:=xA (h:=Za (xM (h:=xM (h:=xIx Tryz.underlying48 ZtO (h:=xW Zq6 (h:=y1 lk3 hc4 1 (h:=xA (h:=Zh (Za (xM (h:=ZG (h:=Zb rfl (fun g2=>?_) (fun g2=>?_))))))))))))))))
 try simp only [sQ,ne_eq] at g2
 refine Zc (xM (h:=xA (h:=Zj (Zh (Za (xM (h:=ZG (h:=Zb rfl (fun g3=>?_) (fun g3=>?_)))))))))
 try simp only [sQ,ne_eq] at g3
 refine Zc (xM (h:=xA (h:=Zj (Za (xM (h:=xM (h:=xM (h:=Zm (Zjt rfl rfl rfl rfl (xM (h:=xM (h:=Zm (ZnJ rfl rfl rfl rfl (xR ZjW rfl (Zct _ _ _ _) (h:=Zb rfl (fun g4=>?_) (fun g4=>?_))))))))))))))))
 try simp only [sQ,ne_eq] at g4
 refine Za (xA (h:=Zd (ZI (Zp (Z7 (ZI (Zp ?_)))))))
 exact eR t1 ⟨Zk (by symm;rw [Zgo,List.any_eq_true];exact ⟨m,List.mem_of_getElem? hm,by simp only [Zd9,g2,g3,if_true,if_false];simpa using g4⟩),rfl,rfl⟩
 try simp only [sQ,ne_eq] at g4
 refine ZL (Zw (Zj (Zc (xM (h:=xD (h:=xA (h:=?_)))))))
 exact ZD (k+1) [] so2 ⟨rfl,oz,by rw [Zd5 hm,hna];simp only [Zd9,g2,g3,if_true,if_false];simpa using g4⟩ t4 rfl
 try simp only [sQ,ne_eq] at g3
 refine wSk (Za (xM (h:=xM (h:=xM (h:=Zm (Zjt rfl rfl rfl rfl (xM (h:=xM (h:=Zm (ZnJ rfl rfl rfl rfl (xR ZjW rfl (Zct _ _ _ _) (h:=Zb rfl (fun g4=>?_) (fun g4=>?_)))))))))))))
 try simp only [sQ,ne_eq] at g4
 refine Za (xA (h:=Zd (ZI (Zp (Z7 (ZI (Zp ?_)))))))
 exact eR t1 ⟨Zk (by symm;rw [Zgo,List.any_eq_true];exact ⟨m,List.mem_of_getElem? hm,by simp only [Zd9,g2,g3,if_true,if_false];simpa using g4⟩),rfl,rfl⟩
 try simp only [sQ,ne_eq] at g4
 refine ZL (Zw (Zj (Zc (xM (h:=xD (h:=xA (h:=?_)))))))
 exact ZD (k+1) [] so2 ⟨rfl,oz,by rw [Zd5 hm,hna];simp only [Zd9,g2,g3,if_true,if_false];simpa using g4⟩ t4 rfl
 try simp only [sQ,ne_eq] at g2
 refine wSk (Zh (Za (xM (h:=ZG (h:=Zb rfl (fun g3=>?_) (fun g3=>?_))))))
 try simp only [sQ,ne_eq] at g3
 refine Zc (xM (h:=xA (h:=Zj (Za (xM (h:=xM (h:=xM (h:=Zm (Zjt rfl rfl rfl rfl (xM (h:=xM (h:=Zm (ZnJ rfl rfl rfl rfl (xR ZjW rfl (Zct _ _ _ _) (h:=Zb rfl (fun g4=>?_) (fun g4=>?_))))))))))))))))
 try simp only [sQ,ne_eq] at g4
 refine Za (xA (h:=Zd (ZI (Zp (Z7 (ZI (Zp ?_)))))))
 exact eR t1 ⟨Zk (by symm;rw [Zgo,List.any_eq_true];exact ⟨m,List.mem_of_getElem? hm,by simp only [Zd9,g2,g3,if_true,if_false];simpa using g4⟩),rfl,rfl⟩
 try simp only [sQ,ne_eq] at g4
 refine ZL (Zw (Zj (Zc (xM (h:=xD (h:=xA (h:=?_)))))))
 exact ZD (k+1) [] so2 ⟨rfl,oz,by rw [Zd5 hm,hna];simp only [Zd9,g2,g3,if_true,if_false];simpa using g4⟩ t4 rfl
 try simp only [sQ,ne_eq] at g3
 refine wSk (Za (xM (h:=xM (h:=xM (h:=Zm (Zjt rfl rfl rfl rfl (xM (h:=xM (h:=Zm (ZnJ rfl rfl rfl rfl (xR ZjW rfl (Zct _ _ _ _) (h:=Zb rfl (fun g4=>?_) (fun g4=>?_)))))))))))))
 try simp only [sQ,ne_eq] at g4
 refine Za (xA (h:=Zd (ZI (Zp (Z7 (ZI (Zp ?_)))))))
 exact eR t1 ⟨Zk (by symm;rw [Zgo,List.any_eq_true];exact ⟨m,List.mem_of_getElem? hm,by simp only [Zd9,g2,g3,if_true,if_false];simpa using g4⟩),rfl,rfl⟩
 try simp only [sQ,ne_eq] at g4
 refine ZL (Zw (Zj (Zc (xM (h:=xD (h:=xA (h:=?_)))))))
 exact ZD (k+1) [] so2 ⟨rfl,oz,by rw [Zd5 hm,hna];simp only [Zd9,g2,g3,if_true,if_false];simpa using g4⟩ t4 rfl
 try simp only [sQ,ne_eq] at g1
 refine ZU (Zak (Z3 (ZK (Zj (Za (xA (h:=Zd ?_)))))))
 exact eR t1 ⟨Zk (by rw [Zgo,← ZrH (b:=false) hna.symm oz]),rfl,rfl⟩

theorem ZoI (q:Option Addr) (cp:Nat) (xs:List DSpan) (last:Int) (hl0:0≤last) (B:Kn) (hs:SlK B q cp 2 ZfC xs):Zu (pj J) 87 [.slice q xs.length cp,.int .i64 last] B [] (fun v B' Ls=>Ls=[]∧∃a c,v = .slice a (ZaD xs last).length c∧SlK B' a c 1 Zb9 (ZaD xs last)):=by
 refine cB 28 Tryz.func87 (h:=?_)
 have hsn:=hs.len
 refine Za (xA (h:=Za (xBs [] [] Tryz.underlying57 sz3 zo3 (h:=fun b1=>xA (h:=tL1 (Zh (Za (xA (h:=Zn (ZQ (α:=Gh Int) [0,1,4] (fun g=>[(5,.slice g.a g.xs.length g.c),(6,.int .i64 ((g.k+1:Nat):Int))]) [0] (fun g=>[g.l]) (fun g Bx=>Bx=B∧g.k≤(min last 99).toNat∧g.xs.length≤g.k∧(0<g.k→ZeI xs=true)∧g.xs=Zc4 xs (min last 99) g.k∧ZT Bx g.l g.a g.c 3 1 Zb9 g.xs) (fun g=>(min last 99).toNat - g.k) ⟨0,0,_,_,_,[]⟩ t2 rfl (⟨rfl,Nat.zero_le _,Nat.le_refl _,by simp,rfl,.lit0⟩) (fun g B2 hle2 hI=>?_)))))))))))
 obtain ⟨rfl,hk,hgl,hok,hnt,hv⟩:=hI
 refine ZN [(0,_),(1,_),(4,_),(5,_),(6,_)] [_] t5 rfl (Zh (Za (xM (h:=xM (h:=Zm (Zjt rfl rfl rfl rfl (ZcO (h:=xM (h:=Zq (d:=12) rfl (fun g1=>?_) (fun g1=>?_))))))))))
 try simp only [sQ,ne_eq] at g1
 refine xM (h:=xR Zx7 rfl (Zim _ _ xs _ hs) (h:=xT (h:=Zb rfl (fun g2=>?_) (fun g2=>?_))))
 try simp only [sQ,ne_eq] at g2
 refine wSk (Zh (Zn (Za (xM (h:=xM (h:=Zm (Zjt rfl rfl rfl rfl (xM (h:=xR Zzc rfl (ZuK _ _ xs (min last 99) (↑(g.k+1)) _ hs) (h:=Zb rfl (fun g3=>?_) (fun g3=>?_)))))))))))
 try simp only [sQ,ne_eq] at g3
 refine Zc (xM (h:=xM (h:=xBs [(0,_)] [_] Tryz.underlying57 sz3 zo3 (h:=fun b5=>Zm (Zbe (z:=(↑(g.k+1):Int)) (R:=Zb9) 0 rfl hv rfl rfl rfl Zzs Zzq rfl rfl (ZaO.box 1 rfl) rfl rfl (rfl) om (fun l6 p6 c6 hv6=>?_))))))
 refine xA (h:=Zw (Zj (Zc (xM (h:=xD (h:=xA (h:=?_)))))))
 exact ZD ⟨g.k+1,0,l6,p6,c6,(g.xs ++ [(↑(g.k+1):Int)])⟩ [0] so2 ⟨rfl,so,by simp;omega,fun _=>g2,by simp only [];rw [ZoV (by exact_mod_cast g3),hnt],hv6⟩ t5 rfl
 try simp only [sQ,ne_eq] at g3
 refine ZL (Zw (Zj (Zc (xM (h:=xD (h:=xA (h:=?_)))))))
 exact ZD ⟨g.k+1,0,g.l,g.a,g.c,g.xs⟩ [0] so2 ⟨rfl,so,so,fun _=>g2,by simp only [];rw [Zqq (by exact_mod_cast g3),hnt],hv⟩ t5 rfl
 try simp only [sQ,ne_eq] at g2
 refine ZU (Zak (Z3 (ZK (Zj (Za (xM (h:=ZZ 0 rfl hv Zb9.mono om3 (fun B7 hle7 hr7=>?_))))))))
 have hr7n:=hr7.len
 refine xA (h:=tL1 ?_)
 have hne:ZaD xs last=g.xs:=by
    rw [ZaD,if_neg (by simp [g2]),hnt]
    have:g.k=0:=by
      rcases Nat.eq_zero_or_pos g.k with h | h
      · exact h
      · rw [hok h] at g2;cases g2
    rw [this];rfl
 rw [hne]
 refine Zd ?_
 exact eN [] rfl t1 ⟨rfl,_,_,rfl,hr7⟩
 try simp only [sQ,ne_eq] at g1
 refine xP (h:=xP (h:=xF (h:=Zb (t:=false) rfl (fun h=>Bool.noConfusion h) (fun _=>ZU (Zak (Z3 (ZK (Zj (Za (xM (h:=ZZ 0 rfl hv Zb9.mono om3 (fun B8 hle8 hr8=>?_))))))))))))
 have hr8n:=hr8.len
 refine xA (h:=tL1 ?_)
 have hne:ZaD xs last=g.xs:=by
    have hk2:g.k=(min last 99).toNat:=by omega
    rw [ZaD]
    rcases Nat.eq_zero_or_pos g.k with h | h
    · rw [← hk2,hnt,h];split <;> rfl
    · rw [if_pos (hok h),hnt,hk2]
 rw [hne]
 refine Zd ?_
 exact eN [] rfl t1 ⟨rfl,_,_,rfl,hr8⟩

theorem Zm5 (q1 q2 q3:Option Addr) (c1 c2 c3:Nat) (x:DHost) (s:DSess) (hs1:s.user.length≤2000000) (hs2:s.owner.length≤2000000) (hs3:s.name.length≤2000000) (r:Int) (hrr:Zh1 x.folders) (h1:0<r) (B:Kn) (hu:SlK B q1 c1 3 ZA x.users) (hf:SlK B q2 c2 5 Zf x.folders):ZaX (pj J) 38 [.agg #[str x.domain,.slice q1 x.users.length c1,.slice q2 x.folders.length c2,.int .i64 x.queue.next,.slice q3 x.queue.items.length c3],.agg #[str s.user,str s.owner,str s.name],.int .i64 r] B (.tuple #[.int .i64 (atF x s r).1,.int .i64 (atF x s r).2]):=by
 refine cB 32 Tryz.func38 (h:=?_)
 have hun:=hu.len
 have hfn:=hf.len
 have hix:=Zdb (inF s.owner s.name) x.folders
 refine Za (xBx [_,_,_,_,_] (h:=fun b1=>xBx [_,_,_] (h:=fun b2=>xA (h:=xA (h:=tL2 (Za (xL [_,_,_,_,_] ZY 0 (h:=xW ZtX (h:=x1 lk9 1 (h:=xW ZtW (h:=x1 lk9 1 (h:=xR Zt0 rfl (Zc5 _ _ _ _ _ _ x s.owner s.name om2 om2 _ hf) (h:=?_)))))))))))))
 refine xA (h:=Za (xL [_,_,_,_,_] ZY 0 (h:=xW ZfI (h:=x1 lk9 1 (h:=xM (h:=xR ZvB rfl (Zdo _ _ _ _ _ _ x s.user (ZaJ (inF s.owner s.name) x.folders) 2 oz hrr oz _ hu hf) (h:=?_)))))))
 refine xA (h:=Zh (Za (xM (h:=Zdt (h:=Zb rfl (fun g1=>?_) (fun g1=>?_))))))
 try simp only [sQ,ne_eq] at g1
 refine Za (xM (h:=xM (h:=xA (h:=xA (h:=Zd (Zp ?_))))))
 exact Zok .ret (.inl rfl) [_,_] t2 ⟨by rw [atF,if_pos g1];rfl,rfl,rfl⟩
 try simp only [sQ,ne_eq] at g1
 refine wSk (Za (xM (h:=xL [_,_,_,_,_] ZY 0 (h:=xW ZfI (h:=x1 lk9 1 (h:=xM (h:=xM (h:=xR ZvB rfl (Zdo _ _ _ _ _ _ x s.user (ZaJ (inF s.owner s.name) x.folders) r oz hrr oz _ hu hf) (h:=?_)))))))))
 refine xA (h:=xA (h:=Zd ?_))
 exact Zok .ret (.inl rfl) [_,_] t2 ⟨by rw [atF,if_neg (fun h=>h g1)];rfl,rfl,rfl⟩

theorem Zkp (q:Option Addr) (cp:Nat) (x:DBox) (q2:Option Addr) (cp2:Nat) (xs:List DSpan) (B:Kn) (hx:SlK B q cp 3 ZS x.mail) (hs:SlK B q2 cp2 2 ZfC xs):Zu (pj J) 39 [.agg #[.int .i64 x.next,.slice q x.mail.length cp],.slice q2 xs.length cp2] B [] (fun v B' Ls=>Ls=[]∧∃a c,v = .slice a (ZaD xs x.mail.length).length c∧SlK B' a c 1 Zb9 (ZaD xs x.mail.length)):=by
 refine cB 10 Tryz.func39 (h:=?_)
 have hxn:=hx.len
 refine Za (xBx [_,_] (h:=fun b1=>xA (h:=tL1 (Za (xM (h:=xW Za0 (h:=x1 Zgc 0 (h:=xV Tryz.underlying83 (h:=xQ ZzP rfl (ZoI _ _ xs ↑x.mail.length om2 _ hs) (h:=?_))))))))))
 intro v2 B2 hle2
 rintro ⟨a2,c2,rfl,hs2⟩
 have hs2n:=hs2.len
 refine xA (h:=Zd ?_)
 exact eN [] rfl t1 ⟨rfl,_,_,rfl,hs2⟩

end Go.Proofs.YtbebcagblefhcaaGreatDoor
