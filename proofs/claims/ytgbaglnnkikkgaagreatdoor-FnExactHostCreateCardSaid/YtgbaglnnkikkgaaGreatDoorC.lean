/-
  WHAT THE FUNCTIONS THAT THE LAWS REACH COMPUTE: each function's contract, proved off its printed body (the text is written by program). No condition beyond those that each theorem states.
-/
import Derived.Test.YtgbaglnnkikkgaaGreatDoorC1
namespace Go.Proofs.YtgbaglnnkikkgaaGreatDoor
open Go Go.BL
set_option linter.unusedVariables false
set_option linter.unusedSimpArgs false
set_option maxRecDepth 4000
set_option maxHeartbeats 6400000
variable {J : JoinT}
theorem Zns (q1 q2 q3:Option Addr) (c1 c2 c3:Nat) (x:DHost) (B:Kn) (hu:SlK B q1 c1 3 Zt x.users) (hf:SlK B q2 c2 5 Zn x.folders) (hi:SlK B q3 c3 4 ZI x.queue.items):ZA (pj J) 19 [.agg #[str x.domain,.slice q1 x.users.length c1,.slice q2 x.folders.length c2,.int .i64 x.queue.next,.slice q3 x.queue.items.length c3]] B [] (fun v B' Ls=>∃l a c p1 d1 p3 d3,Ls=[l]∧v = .agg #[str x.domain,.slice p1 x.users.length d1,.slice a x.folders.length c,.int .i64 x.queue.next,.slice p3 x.queue.items.length d3]∧SlK B' p1 d1 3 Zt x.users∧ZU B' l a c 61 5 Zn x.folders∧SlK B' p3 d3 4 ZI x.queue.items):=by
 refine cB 35 Tryz.func19 (h:=?_)
 have hun:=hu.len
 have hfn:=hf.len
 have hin:=hi.len
 refine Za (xBx [_,_,_,_,_] (h:=fun b1=>xAl [_,_,_,_,_] Zci (h:=fun b2=>tL2 (Zr9 (α:=GHC × Gh DFolder) [0,1,2] (fun o=>[(3,ptr ⟨o.1.b,0,none⟩)]) (fun o=>[Zap b1 [str x.domain,.slice q1 x.users.length c1,.slice q2 x.folders.length c2,.int .i64 x.queue.next,.slice q3 x.queue.items.length c3] 36,Zap b2 [str [],.slice none 0 0,.slice none 0 0,.int .i64 0,.slice none 0 0] 36,o.2.l,Zap o.1.b [str x.domain,.slice o.1.q1 x.users.length o.1.c1,.slice o.2.a o.2.xs.length o.2.c,.int .i64 x.queue.next,.slice o.1.q3 x.queue.items.length o.1.c3] 36]) (fun o Bx=>SlK Bx o.1.q1 o.1.c1 3 Zt x.users∧o.2.xs=[]∧ZU Bx o.2.l o.2.a o.2.c 61 5 Zn o.2.xs∧SlK Bx o.1.q3 o.1.c3 4 ZI x.queue.items) ?_ (fun o B3 hle3 hF=>?_)))))
 refine Z2 (keeps _ [0] _) mo kr ⟨Kn.le.refl _,Zba.refl _ _⟩ (fun _ _=>?_)
 refine aW 0 rfl ZgK (h:=aT 1 rfl (ZR fun D B L hI=>Zp rfl rfl lk9 rfl (atL 0 (hI.2.1.trans rfl) rfl rfl) r4) (h:=aW 3 rfl ZbB (h:=aT 4 rfl (ZR fun D B L hI=>Zp rfl rfl ZhV rfl (atL 0 (hI.2.1.trans rfl) rfl rfl) r4) (h:=aW 7 rfl ZdL (h:=aT 8 rfl (ZR fun D B L hI=>Z6 [_,_] rfl rfl Zjz rfl (ZbX 0 (hI.2.1.trans rfl) rfl rfl) r4) (h:=ZaQ [2,6,11] kr kr kr ⟨?_,?_,?_⟩))))))
 refine (Zu (parts:=[]) [] rfl rfl Tryz.underlying30 ZdR ZhB rfl rfl rfl rfl rfl (fun b4=>⟨⟨Kn.le.refl _,t1⟩,(ZaQ [5,6,11] kr kr kr ⟨?_,?_,?_⟩)⟩))
 refine (ZaG (R:=Zt) 2 rfl (ZU.lit0 (R:=Zt)) rfl rfl rfl Zl8 Zml rfl rfl rfl hu.rows Zt.one rfl om (fun l5 p5 c5 hv5=>?_))
 refine ⟨⟨Kn.le.refl _,t1⟩,(ZaA 2 rfl hv5 Zt.mono om3 (fun B' hle'=>⟨hle',t1⟩) (fun B6 hle6 hr6=>?_))⟩
 obtain ⟨hu,hf,hi⟩:=up3 hle6 hu hf hi
 have hr6n:=hr6.len
 refine ZaQ [6,9,11] kr kr kr ⟨?_,?_,?_⟩
 refine (Zu (parts:=[]) [] rfl rfl Tryz.underlying31 ZaW Zc4 rfl rfl rfl rfl rfl (fun b7=>⟨⟨hle6,t1⟩,(ZaQ [9,11] kr kr kr ⟨?_,?_⟩)⟩))
 refine (ZaD rfl rfl Zib rfl (Zag _ _ x.queue _ hi) ?_)
 rintro _ B8 _ hle8 ⟨l8,a8,c8,rfl,rfl,hv8⟩
 obtain ⟨hu,hf,hi,hr6⟩:=up4 hle8 hu hf hi hr6
 replace hv8:=hv8.mono ZI.mono Kn.less_le
 refine ⟨⟨(hle6.trans hle8),t1⟩,(ZaA 4 rfl hv8 ZI.mono om3 (fun B' hle'=>⟨(hle6.trans hle8).trans hle',t1⟩) (fun B9 hle9 hr9=>?_))⟩
 obtain ⟨hu,hf,hi,hr6⟩:=up4 hle9 hu hf hi hr6
 have hr9n:=hr9.len
 refine aT 10 rfl (ZR fun D B L hI=>Zav (parts:=[(0,_),(1,_),(2,_),(3,_)]) [_,_,_,_,_] [_,_,_,_,_] rfl rfl Zf3 Zci rfl rfl rfl r4) (h:=Zz 11 kr rfl kr (Zbj (l:=[_,_,_,_,_]) rfl rfl Zci rfl (fun b10=>?_)))
 refine ⟨⟨((hle6.trans hle8).trans hle9),t1⟩,(Z0 12 kr rfl kr kr kr (ZV [_,_,_,_,_] 5 [_,_,_,_,_] rfl rfl Zc1 rfl rfl rfl rfl rfl rfl rfl rfl ?_))⟩
 exact Zao ⟨⟨_,_,_,_,_⟩,⟨0,0,_,_,_,[]⟩⟩ [0,1,3,5] ⟨hr6,rfl,ZU.lit0,hr9⟩ t4 rfl
 refine (Zbj (l:=[_,_,_,_,_]) rfl rfl Zci rfl (fun b11=>⟨⟨hle6,t1⟩,(Zz 9 kr rfl kr (ZaD rfl rfl Zib rfl (Zag _ _ x.queue _ hi) ?_))⟩))
 rintro _ B12 _ hle12 ⟨l12,a12,c12,rfl,rfl,hv12⟩
 obtain ⟨hu,hf,hi,hr6⟩:=up4 hle12 hu hf hi hr6
 replace hv12:=hv12.mono ZI.mono Kn.less_le
 refine ⟨⟨(hle6.trans hle12),t1⟩,(ZaA 5 rfl hv12 ZI.mono om3 (fun B' hle'=>⟨(hle6.trans hle12).trans hle',t1⟩) (fun B13 hle13 hr13=>?_))⟩
 obtain ⟨hu,hf,hi,hr6⟩:=up4 hle13 hu hf hi hr6
 have hr13n:=hr13.len
 refine aT 10 rfl (ZR fun D B L hI=>Zav (parts:=[(0,_),(1,_),(2,_),(3,_)]) [_,_,_,_,_] [_,_,_,_,_] rfl rfl Zf3 Zci rfl rfl rfl r4) (h:=Z0 12 kr rfl kr kr kr (ZV [_,_,_,_,_] 4 [_,_,_,_,_] rfl rfl Zc1 rfl rfl rfl rfl rfl rfl rfl rfl ?_))
 exact Zao ⟨⟨_,_,_,_,_⟩,⟨0,0,_,_,_,[]⟩⟩ [0,1,3,4] ⟨hr6,rfl,ZU.lit0,hr13⟩ t4 rfl
 refine (ZaD rfl rfl Zib rfl (Zag _ _ x.queue _ hi) ?_)
 rintro _ B14 _ hle14 ⟨l14,a14,c14,rfl,rfl,hv14⟩
 obtain ⟨hu,hf,hi,hr6⟩:=up4 hle14 hu hf hi hr6
 replace hv14:=hv14.mono ZI.mono Kn.less_le
 refine ⟨⟨(hle6.trans hle14),t1⟩,(ZaA 3 rfl hv14 ZI.mono om3 (fun B' hle'=>⟨(hle6.trans hle14).trans hle',t1⟩) (fun B15 hle15 hr15=>?_))⟩
 obtain ⟨hu,hf,hi,hr6⟩:=up4 hle15 hu hf hi hr6
 have hr15n:=hr15.len
 refine ZaQ [6,11] kr kr kr ⟨?_,?_⟩
 refine (Zu (parts:=[]) [] rfl rfl Tryz.underlying31 ZaW Zc4 rfl rfl rfl rfl rfl (fun b16=>⟨⟨((hle6.trans hle14).trans hle15),t1⟩,(aT 10 rfl (ZR fun D B L hI=>Zav (parts:=[(0,_),(1,_),(2,_),(3,_)]) [_,_,_,_,_] [_,_,_,_,_] rfl rfl Zf3 Zci rfl rfl rfl r4) (h:=Zz 11 kr rfl kr (Zbj (l:=[_,_,_,_,_]) rfl rfl Zci rfl (fun b17=>?_))))⟩))
 refine ⟨⟨((hle6.trans hle14).trans hle15),t1⟩,(Z0 12 kr rfl kr kr kr (ZV [_,_,_,_,_] 5 [_,_,_,_,_] rfl rfl Zc1 rfl rfl rfl rfl rfl rfl rfl rfl ?_))⟩
 exact Zao ⟨⟨_,_,_,_,_⟩,⟨0,0,_,_,_,[]⟩⟩ [0,1,4,5] ⟨hr6,rfl,ZU.lit0,hr15⟩ t4 rfl
 refine (Zbj (l:=[_,_,_,_,_]) rfl rfl Zci rfl (fun b18=>⟨⟨((hle6.trans hle14).trans hle15),t1⟩,(Zz 6 kr rfl kr (Zu (parts:=[]) [] rfl rfl Tryz.underlying31 ZaW Zc4 rfl rfl rfl rfl rfl (fun b19=>?_)))⟩))
 refine ⟨⟨((hle6.trans hle14).trans hle15),t1⟩,(aT 10 rfl (ZR fun D B L hI=>Zav (parts:=[(0,_),(1,_),(2,_),(3,_)]) [_,_,_,_,_] [_,_,_,_,_] rfl rfl Zf3 Zci rfl rfl rfl r4) (h:=Z0 12 kr rfl kr kr kr (ZV [_,_,_,_,_] 4 [_,_,_,_,_] rfl rfl Zc1 rfl rfl rfl rfl rfl rfl rfl rfl ?_)))⟩
 exact Zao ⟨⟨_,_,_,_,_⟩,⟨0,0,_,_,_,[]⟩⟩ [0,1,5,4] ⟨hr6,rfl,ZU.lit0,hr15⟩ t4 rfl
 refine (Zbj (l:=[_,_,_,_,_]) rfl rfl Zci rfl (fun b20=>⟨⟨hle6,t1⟩,(ZaQ [6,9] kr kr kr ⟨?_,?_⟩)⟩))
 refine (Zu (parts:=[]) [] rfl rfl Tryz.underlying31 ZaW Zc4 rfl rfl rfl rfl rfl (fun b21=>⟨⟨hle6,t1⟩,(Zz 9 kr rfl kr (ZaD rfl rfl Zib rfl (Zag _ _ x.queue _ hi) ?_))⟩))
 rintro _ B22 _ hle22 ⟨l22,a22,c22,rfl,rfl,hv22⟩
 obtain ⟨hu,hf,hi,hr6⟩:=up4 hle22 hu hf hi hr6
 replace hv22:=hv22.mono ZI.mono Kn.less_le
 refine ⟨⟨(hle6.trans hle22),t1⟩,(ZaA 5 rfl hv22 ZI.mono om3 (fun B' hle'=>⟨(hle6.trans hle22).trans hle',t1⟩) (fun B23 hle23 hr23=>?_))⟩
 obtain ⟨hu,hf,hi,hr6⟩:=up4 hle23 hu hf hi hr6
 have hr23n:=hr23.len
 refine aT 10 rfl (ZR fun D B L hI=>Zav (parts:=[(0,_),(1,_),(2,_),(3,_)]) [_,_,_,_,_] [_,_,_,_,_] rfl rfl Zf3 Zci rfl rfl rfl r4) (h:=Z0 12 kr rfl kr kr kr (ZV [_,_,_,_,_] 3 [_,_,_,_,_] rfl rfl Zc1 rfl rfl rfl rfl rfl rfl rfl rfl ?_))
 exact Zao ⟨⟨_,_,_,_,_⟩,⟨0,0,_,_,_,[]⟩⟩ [0,1,4,3] ⟨hr6,rfl,ZU.lit0,hr23⟩ t4 rfl
 refine (ZaD rfl rfl Zib rfl (Zag _ _ x.queue _ hi) ?_)
 rintro _ B24 _ hle24 ⟨l24,a24,c24,rfl,rfl,hv24⟩
 obtain ⟨hu,hf,hi,hr6⟩:=up4 hle24 hu hf hi hr6
 replace hv24:=hv24.mono ZI.mono Kn.less_le
 refine ⟨⟨(hle6.trans hle24),t1⟩,(ZaA 4 rfl hv24 ZI.mono om3 (fun B' hle'=>⟨(hle6.trans hle24).trans hle',t1⟩) (fun B25 hle25 hr25=>?_))⟩
 obtain ⟨hu,hf,hi,hr6⟩:=up4 hle25 hu hf hi hr6
 have hr25n:=hr25.len
 refine Zz 6 kr rfl kr (Zu (parts:=[]) [] rfl rfl Tryz.underlying31 ZaW Zc4 rfl rfl rfl rfl rfl (fun b26=>?_))
 refine ⟨⟨((hle6.trans hle24).trans hle25),t1⟩,(aT 10 rfl (ZR fun D B L hI=>Zav (parts:=[(0,_),(1,_),(2,_),(3,_)]) [_,_,_,_,_] [_,_,_,_,_] rfl rfl Zf3 Zci rfl rfl rfl r4) (h:=Z0 12 kr rfl kr kr kr (ZV [_,_,_,_,_] 3 [_,_,_,_,_] rfl rfl Zc1 rfl rfl rfl rfl rfl rfl rfl rfl ?_)))⟩
 exact Zao ⟨⟨_,_,_,_,_⟩,⟨0,0,_,_,_,[]⟩⟩ [0,1,5,3] ⟨hr6,rfl,ZU.lit0,hr25⟩ t4 rfl
 refine (Zu (parts:=[]) [] rfl rfl Tryz.underlying31 ZaW Zc4 rfl rfl rfl rfl rfl (fun b27=>⟨⟨Kn.le.refl _,t1⟩,(ZaQ [5,11] kr kr kr ⟨?_,?_⟩)⟩))
 refine (ZaG (R:=Zt) 2 rfl (ZU.lit0 (R:=Zt)) rfl rfl rfl Zl8 Zml rfl rfl rfl hu.rows Zt.one rfl om (fun l28 p28 c28 hv28=>?_))
 refine ⟨⟨Kn.le.refl _,t1⟩,(ZaA 2 rfl hv28 Zt.mono om3 (fun B' hle'=>⟨hle',t1⟩) (fun B29 hle29 hr29=>?_))⟩
 obtain ⟨hu,hf,hi⟩:=up3 hle29 hu hf hi
 have hr29n:=hr29.len
 refine ZaQ [9,11] kr kr kr ⟨?_,?_⟩
 refine (ZaD rfl rfl Zib rfl (Zag _ _ x.queue _ hi) ?_)
 rintro _ B30 _ hle30 ⟨l30,a30,c30,rfl,rfl,hv30⟩
 obtain ⟨hu,hf,hi,hr29⟩:=up4 hle30 hu hf hi hr29
 replace hv30:=hv30.mono ZI.mono Kn.less_le
 refine ⟨⟨(hle29.trans hle30),t1⟩,(ZaA 4 rfl hv30 ZI.mono om3 (fun B' hle'=>⟨(hle29.trans hle30).trans hle',t1⟩) (fun B31 hle31 hr31=>?_))⟩
 obtain ⟨hu,hf,hi,hr29⟩:=up4 hle31 hu hf hi hr29
 have hr31n:=hr31.len
 refine aT 10 rfl (ZR fun D B L hI=>Zav (parts:=[(0,_),(1,_),(2,_),(3,_)]) [_,_,_,_,_] [_,_,_,_,_] rfl rfl Zf3 Zci rfl rfl rfl r4) (h:=Zz 11 kr rfl kr (Zbj (l:=[_,_,_,_,_]) rfl rfl Zci rfl (fun b32=>?_)))
 refine ⟨⟨((hle29.trans hle30).trans hle31),t1⟩,(Z0 12 kr rfl kr kr kr (ZV [_,_,_,_,_] 5 [_,_,_,_,_] rfl rfl Zc1 rfl rfl rfl rfl rfl rfl rfl rfl ?_))⟩
 exact Zao ⟨⟨_,_,_,_,_⟩,⟨0,0,_,_,_,[]⟩⟩ [0,1,3,5] ⟨hr29,rfl,ZU.lit0,hr31⟩ t4 rfl
 refine (Zbj (l:=[_,_,_,_,_]) rfl rfl Zci rfl (fun b33=>⟨⟨hle29,t1⟩,(Zz 9 kr rfl kr (ZaD rfl rfl Zib rfl (Zag _ _ x.queue _ hi) ?_))⟩))
 rintro _ B34 _ hle34 ⟨l34,a34,c34,rfl,rfl,hv34⟩
 obtain ⟨hu,hf,hi,hr29⟩:=up4 hle34 hu hf hi hr29
 replace hv34:=hv34.mono ZI.mono Kn.less_le
 refine ⟨⟨(hle29.trans hle34),t1⟩,(ZaA 5 rfl hv34 ZI.mono om3 (fun B' hle'=>⟨(hle29.trans hle34).trans hle',t1⟩) (fun B35 hle35 hr35=>?_))⟩
 obtain ⟨hu,hf,hi,hr29⟩:=up4 hle35 hu hf hi hr29
 have hr35n:=hr35.len
 refine aT 10 rfl (ZR fun D B L hI=>Zav (parts:=[(0,_),(1,_),(2,_),(3,_)]) [_,_,_,_,_] [_,_,_,_,_] rfl rfl Zf3 Zci rfl rfl rfl r4) (h:=Z0 12 kr rfl kr kr kr (ZV [_,_,_,_,_] 4 [_,_,_,_,_] rfl rfl Zc1 rfl rfl rfl rfl rfl rfl rfl rfl ?_))
 exact Zao ⟨⟨_,_,_,_,_⟩,⟨0,0,_,_,_,[]⟩⟩ [0,1,3,4] ⟨hr29,rfl,ZU.lit0,hr35⟩ t4 rfl
 refine (Zbj (l:=[_,_,_,_,_]) rfl rfl Zci rfl (fun b36=>⟨⟨Kn.le.refl _,t1⟩,(Zz 5 kr rfl kr (ZaG (R:=Zt) 2 rfl (ZU.lit0 (R:=Zt)) rfl rfl rfl Zl8 Zml rfl rfl rfl hu.rows Zt.one rfl om (fun l37 p37 c37 hv37=>?_)))⟩))
 refine ⟨⟨Kn.le.refl _,t1⟩,(ZaA 2 rfl hv37 Zt.mono om3 (fun B' hle'=>⟨hle',t1⟩) (fun B38 hle38 hr38=>?_))⟩
 obtain ⟨hu,hf,hi⟩:=up3 hle38 hu hf hi
 have hr38n:=hr38.len
 refine Zz 9 kr rfl kr (ZaD rfl rfl Zib rfl (Zag _ _ x.queue _ hi) ?_)
 rintro _ B39 _ hle39 ⟨l39,a39,c39,rfl,rfl,hv39⟩
 obtain ⟨hu,hf,hi,hr38⟩:=up4 hle39 hu hf hi hr38
 replace hv39:=hv39.mono ZI.mono Kn.less_le
 refine ⟨⟨(hle38.trans hle39),t1⟩,(ZaA 5 rfl hv39 ZI.mono om3 (fun B' hle'=>⟨(hle38.trans hle39).trans hle',t1⟩) (fun B40 hle40 hr40=>?_))⟩
 obtain ⟨hu,hf,hi,hr38⟩:=up4 hle40 hu hf hi hr38
 have hr40n:=hr40.len
 refine aT 10 rfl (ZR fun D B L hI=>Zav (parts:=[(0,_),(1,_),(2,_),(3,_)]) [_,_,_,_,_] [_,_,_,_,_] rfl rfl Zf3 Zci rfl rfl rfl r4) (h:=Z0 12 kr rfl kr kr kr (ZV [_,_,_,_,_] 4 [_,_,_,_,_] rfl rfl Zc1 rfl rfl rfl rfl rfl rfl rfl rfl ?_))
 exact Zao ⟨⟨_,_,_,_,_⟩,⟨0,0,_,_,_,[]⟩⟩ [0,1,3,4] ⟨hr38,rfl,ZU.lit0,hr40⟩ t4 rfl
 refine (Zbj (l:=[_,_,_,_,_]) rfl rfl Zci rfl (fun b41=>⟨⟨Kn.le.refl _,t1⟩,(ZaQ [5,6] kr kr kr ⟨?_,?_⟩)⟩))
 refine (ZaG (R:=Zt) 2 rfl (ZU.lit0 (R:=Zt)) rfl rfl rfl Zl8 Zml rfl rfl rfl hu.rows Zt.one rfl om (fun l42 p42 c42 hv42=>?_))
 refine ⟨⟨Kn.le.refl _,t1⟩,(ZaA 2 rfl hv42 Zt.mono om3 (fun B' hle'=>⟨hle',t1⟩) (fun B43 hle43 hr43=>?_))⟩
 obtain ⟨hu,hf,hi⟩:=up3 hle43 hu hf hi
 have hr43n:=hr43.len
 refine ZaQ [6,9] kr kr kr ⟨?_,?_⟩
 refine (Zu (parts:=[]) [] rfl rfl Tryz.underlying31 ZaW Zc4 rfl rfl rfl rfl rfl (fun b44=>⟨⟨hle43,t1⟩,(Zz 9 kr rfl kr (ZaD rfl rfl Zib rfl (Zag _ _ x.queue _ hi) ?_))⟩))
 rintro _ B45 _ hle45 ⟨l45,a45,c45,rfl,rfl,hv45⟩
 obtain ⟨hu,hf,hi,hr43⟩:=up4 hle45 hu hf hi hr43
 replace hv45:=hv45.mono ZI.mono Kn.less_le
 refine ⟨⟨(hle43.trans hle45),t1⟩,(ZaA 5 rfl hv45 ZI.mono om3 (fun B' hle'=>⟨(hle43.trans hle45).trans hle',t1⟩) (fun B46 hle46 hr46=>?_))⟩
 obtain ⟨hu,hf,hi,hr43⟩:=up4 hle46 hu hf hi hr43
 have hr46n:=hr46.len
 refine aT 10 rfl (ZR fun D B L hI=>Zav (parts:=[(0,_),(1,_),(2,_),(3,_)]) [_,_,_,_,_] [_,_,_,_,_] rfl rfl Zf3 Zci rfl rfl rfl r4) (h:=Z0 12 kr rfl kr kr kr (ZV [_,_,_,_,_] 3 [_,_,_,_,_] rfl rfl Zc1 rfl rfl rfl rfl rfl rfl rfl rfl ?_))
 exact Zao ⟨⟨_,_,_,_,_⟩,⟨0,0,_,_,_,[]⟩⟩ [0,1,4,3] ⟨hr43,rfl,ZU.lit0,hr46⟩ t4 rfl
 refine (ZaD rfl rfl Zib rfl (Zag _ _ x.queue _ hi) ?_)
 rintro _ B47 _ hle47 ⟨l47,a47,c47,rfl,rfl,hv47⟩
 obtain ⟨hu,hf,hi,hr43⟩:=up4 hle47 hu hf hi hr43
 replace hv47:=hv47.mono ZI.mono Kn.less_le
 refine ⟨⟨(hle43.trans hle47),t1⟩,(ZaA 4 rfl hv47 ZI.mono om3 (fun B' hle'=>⟨(hle43.trans hle47).trans hle',t1⟩) (fun B48 hle48 hr48=>?_))⟩
 obtain ⟨hu,hf,hi,hr43⟩:=up4 hle48 hu hf hi hr43
 have hr48n:=hr48.len
 refine Zz 6 kr rfl kr (Zu (parts:=[]) [] rfl rfl Tryz.underlying31 ZaW Zc4 rfl rfl rfl rfl rfl (fun b49=>?_))
 refine ⟨⟨((hle43.trans hle47).trans hle48),t1⟩,(aT 10 rfl (ZR fun D B L hI=>Zav (parts:=[(0,_),(1,_),(2,_),(3,_)]) [_,_,_,_,_] [_,_,_,_,_] rfl rfl Zf3 Zci rfl rfl rfl r4) (h:=Z0 12 kr rfl kr kr kr (ZV [_,_,_,_,_] 3 [_,_,_,_,_] rfl rfl Zc1 rfl rfl rfl rfl rfl rfl rfl rfl ?_)))⟩
 exact Zao ⟨⟨_,_,_,_,_⟩,⟨0,0,_,_,_,[]⟩⟩ [0,1,5,3] ⟨hr43,rfl,ZU.lit0,hr48⟩ t4 rfl
 refine (Zu (parts:=[]) [] rfl rfl Tryz.underlying31 ZaW Zc4 rfl rfl rfl rfl rfl (fun b50=>⟨⟨Kn.le.refl _,t1⟩,(Zz 5 kr rfl kr (ZaG (R:=Zt) 2 rfl (ZU.lit0 (R:=Zt)) rfl rfl rfl Zl8 Zml rfl rfl rfl hu.rows Zt.one rfl om (fun l51 p51 c51 hv51=>?_)))⟩))
 refine ⟨⟨Kn.le.refl _,t1⟩,(ZaA 2 rfl hv51 Zt.mono om3 (fun B' hle'=>⟨hle',t1⟩) (fun B52 hle52 hr52=>?_))⟩
 obtain ⟨hu,hf,hi⟩:=up3 hle52 hu hf hi
 have hr52n:=hr52.len
 refine Zz 9 kr rfl kr (ZaD rfl rfl Zib rfl (Zag _ _ x.queue _ hi) ?_)
 rintro _ B53 _ hle53 ⟨l53,a53,c53,rfl,rfl,hv53⟩
 obtain ⟨hu,hf,hi,hr52⟩:=up4 hle53 hu hf hi hr52
 replace hv53:=hv53.mono ZI.mono Kn.less_le
 refine ⟨⟨(hle52.trans hle53),t1⟩,(ZaA 5 rfl hv53 ZI.mono om3 (fun B' hle'=>⟨(hle52.trans hle53).trans hle',t1⟩) (fun B54 hle54 hr54=>?_))⟩
 obtain ⟨hu,hf,hi,hr52⟩:=up4 hle54 hu hf hi hr52
 have hr54n:=hr54.len
 refine aT 10 rfl (ZR fun D B L hI=>Zav (parts:=[(0,_),(1,_),(2,_),(3,_)]) [_,_,_,_,_] [_,_,_,_,_] rfl rfl Zf3 Zci rfl rfl rfl r4) (h:=Z0 12 kr rfl kr kr kr (ZV [_,_,_,_,_] 3 [_,_,_,_,_] rfl rfl Zc1 rfl rfl rfl rfl rfl rfl rfl rfl ?_))
 exact Zao ⟨⟨_,_,_,_,_⟩,⟨0,0,_,_,_,[]⟩⟩ [0,1,4,3] ⟨hr52,rfl,ZU.lit0,hr54⟩ t4 rfl
 refine (Zu (parts:=[]) [] rfl rfl Tryz.underlying31 ZaW Zc4 rfl rfl rfl rfl rfl (fun b55=>⟨⟨Kn.le.refl _,t1⟩,(ZaQ [2,11] kr kr kr ⟨?_,?_⟩)⟩))
 refine (Zu (parts:=[]) [] rfl rfl Tryz.underlying30 ZdR ZhB rfl rfl rfl rfl rfl (fun b56=>⟨⟨Kn.le.refl _,t1⟩,(ZaQ [5,11] kr kr kr ⟨?_,?_⟩)⟩))
 refine (ZaG (R:=Zt) 3 rfl (ZU.lit0 (R:=Zt)) rfl rfl rfl Zl8 Zml rfl rfl rfl hu.rows Zt.one rfl om (fun l57 p57 c57 hv57=>?_))
 refine ⟨⟨Kn.le.refl _,t1⟩,(ZaA 3 rfl hv57 Zt.mono om3 (fun B' hle'=>⟨hle',t1⟩) (fun B58 hle58 hr58=>?_))⟩
 obtain ⟨hu,hf,hi⟩:=up3 hle58 hu hf hi
 have hr58n:=hr58.len
 refine ZaQ [9,11] kr kr kr ⟨?_,?_⟩
 refine (ZaD rfl rfl Zib rfl (Zag _ _ x.queue _ hi) ?_)
 rintro _ B59 _ hle59 ⟨l59,a59,c59,rfl,rfl,hv59⟩
 obtain ⟨hu,hf,hi,hr58⟩:=up4 hle59 hu hf hi hr58
 replace hv59:=hv59.mono ZI.mono Kn.less_le
 refine ⟨⟨(hle58.trans hle59),t1⟩,(ZaA 4 rfl hv59 ZI.mono om3 (fun B' hle'=>⟨(hle58.trans hle59).trans hle',t1⟩) (fun B60 hle60 hr60=>?_))⟩
 obtain ⟨hu,hf,hi,hr58⟩:=up4 hle60 hu hf hi hr58
 have hr60n:=hr60.len
 refine aT 10 rfl (ZR fun D B L hI=>Zav (parts:=[(0,_),(1,_),(2,_),(3,_)]) [_,_,_,_,_] [_,_,_,_,_] rfl rfl Zf3 Zci rfl rfl rfl r4) (h:=Zz 11 kr rfl kr (Zbj (l:=[_,_,_,_,_]) rfl rfl Zci rfl (fun b61=>?_)))
 refine ⟨⟨((hle58.trans hle59).trans hle60),t1⟩,(Z0 12 kr rfl kr kr kr (ZV [_,_,_,_,_] 5 [_,_,_,_,_] rfl rfl Zc1 rfl rfl rfl rfl rfl rfl rfl rfl ?_))⟩
 exact Zao ⟨⟨_,_,_,_,_⟩,⟨0,0,_,_,_,[]⟩⟩ [0,1,2,5] ⟨hr58,rfl,ZU.lit0,hr60⟩ t4 rfl
 refine (Zbj (l:=[_,_,_,_,_]) rfl rfl Zci rfl (fun b62=>⟨⟨hle58,t1⟩,(Zz 9 kr rfl kr (ZaD rfl rfl Zib rfl (Zag _ _ x.queue _ hi) ?_))⟩))
 rintro _ B63 _ hle63 ⟨l63,a63,c63,rfl,rfl,hv63⟩
 obtain ⟨hu,hf,hi,hr58⟩:=up4 hle63 hu hf hi hr58
 replace hv63:=hv63.mono ZI.mono Kn.less_le
 refine ⟨⟨(hle58.trans hle63),t1⟩,(ZaA 5 rfl hv63 ZI.mono om3 (fun B' hle'=>⟨(hle58.trans hle63).trans hle',t1⟩) (fun B64 hle64 hr64=>?_))⟩
 obtain ⟨hu,hf,hi,hr58⟩:=up4 hle64 hu hf hi hr58
 have hr64n:=hr64.len
 refine aT 10 rfl (ZR fun D B L hI=>Zav (parts:=[(0,_),(1,_),(2,_),(3,_)]) [_,_,_,_,_] [_,_,_,_,_] rfl rfl Zf3 Zci rfl rfl rfl r4) (h:=Z0 12 kr rfl kr kr kr (ZV [_,_,_,_,_] 4 [_,_,_,_,_] rfl rfl Zc1 rfl rfl rfl rfl rfl rfl rfl rfl ?_))
 exact Zao ⟨⟨_,_,_,_,_⟩,⟨0,0,_,_,_,[]⟩⟩ [0,1,2,4] ⟨hr58,rfl,ZU.lit0,hr64⟩ t4 rfl
 refine (Zbj (l:=[_,_,_,_,_]) rfl rfl Zci rfl (fun b65=>⟨⟨Kn.le.refl _,t1⟩,(Zz 5 kr rfl kr (ZaG (R:=Zt) 3 rfl (ZU.lit0 (R:=Zt)) rfl rfl rfl Zl8 Zml rfl rfl rfl hu.rows Zt.one rfl om (fun l66 p66 c66 hv66=>?_)))⟩))
 refine ⟨⟨Kn.le.refl _,t1⟩,(ZaA 3 rfl hv66 Zt.mono om3 (fun B' hle'=>⟨hle',t1⟩) (fun B67 hle67 hr67=>?_))⟩
 obtain ⟨hu,hf,hi⟩:=up3 hle67 hu hf hi
 have hr67n:=hr67.len
 refine Zz 9 kr rfl kr (ZaD rfl rfl Zib rfl (Zag _ _ x.queue _ hi) ?_)
 rintro _ B68 _ hle68 ⟨l68,a68,c68,rfl,rfl,hv68⟩
 obtain ⟨hu,hf,hi,hr67⟩:=up4 hle68 hu hf hi hr67
 replace hv68:=hv68.mono ZI.mono Kn.less_le
 refine ⟨⟨(hle67.trans hle68),t1⟩,(ZaA 5 rfl hv68 ZI.mono om3 (fun B' hle'=>⟨(hle67.trans hle68).trans hle',t1⟩) (fun B69 hle69 hr69=>?_))⟩
 obtain ⟨hu,hf,hi,hr67⟩:=up4 hle69 hu hf hi hr67
 have hr69n:=hr69.len
 refine aT 10 rfl (ZR fun D B L hI=>Zav (parts:=[(0,_),(1,_),(2,_),(3,_)]) [_,_,_,_,_] [_,_,_,_,_] rfl rfl Zf3 Zci rfl rfl rfl r4) (h:=Z0 12 kr rfl kr kr kr (ZV [_,_,_,_,_] 4 [_,_,_,_,_] rfl rfl Zc1 rfl rfl rfl rfl rfl rfl rfl rfl ?_))
 exact Zao ⟨⟨_,_,_,_,_⟩,⟨0,0,_,_,_,[]⟩⟩ [0,1,2,4] ⟨hr67,rfl,ZU.lit0,hr69⟩ t4 rfl
 refine (Zbj (l:=[_,_,_,_,_]) rfl rfl Zci rfl (fun b70=>⟨⟨Kn.le.refl _,t1⟩,(Zz 2 kr rfl kr (Zu (parts:=[]) [] rfl rfl Tryz.underlying30 ZdR ZhB rfl rfl rfl rfl rfl (fun b71=>?_)))⟩))
 refine ⟨⟨Kn.le.refl _,t1⟩,(Zz 5 kr rfl kr (ZaG (R:=Zt) 4 rfl (ZU.lit0 (R:=Zt)) rfl rfl rfl Zl8 Zml rfl rfl rfl hu.rows Zt.one rfl om (fun l72 p72 c72 hv72=>?_)))⟩
 refine ⟨⟨Kn.le.refl _,t1⟩,(ZaA 4 rfl hv72 Zt.mono om3 (fun B' hle'=>⟨hle',t1⟩) (fun B73 hle73 hr73=>?_))⟩
 obtain ⟨hu,hf,hi⟩:=up3 hle73 hu hf hi
 have hr73n:=hr73.len
 refine Zz 9 kr rfl kr (ZaD rfl rfl Zib rfl (Zag _ _ x.queue _ hi) ?_)
 rintro _ B74 _ hle74 ⟨l74,a74,c74,rfl,rfl,hv74⟩
 obtain ⟨hu,hf,hi,hr73⟩:=up4 hle74 hu hf hi hr73
 replace hv74:=hv74.mono ZI.mono Kn.less_le
 refine ⟨⟨(hle73.trans hle74),t1⟩,(ZaA 5 rfl hv74 ZI.mono om3 (fun B' hle'=>⟨(hle73.trans hle74).trans hle',t1⟩) (fun B75 hle75 hr75=>?_))⟩
 obtain ⟨hu,hf,hi,hr73⟩:=up4 hle75 hu hf hi hr73
 have hr75n:=hr75.len
 refine aT 10 rfl (ZR fun D B L hI=>Zav (parts:=[(0,_),(1,_),(2,_),(3,_)]) [_,_,_,_,_] [_,_,_,_,_] rfl rfl Zf3 Zci rfl rfl rfl r4) (h:=Z0 12 kr rfl kr kr kr (ZV [_,_,_,_,_] 3 [_,_,_,_,_] rfl rfl Zc1 rfl rfl rfl rfl rfl rfl rfl rfl ?_))
 exact Zao ⟨⟨_,_,_,_,_⟩,⟨0,0,_,_,_,[]⟩⟩ [0,1,2,3] ⟨hr73,rfl,ZU.lit0,hr75⟩ t4 rfl
 refine (Zbj (l:=[_,_,_,_,_]) rfl rfl Zci rfl (fun b76=>⟨⟨Kn.le.refl _,t1⟩,(ZaQ [2,6] kr kr kr ⟨?_,?_⟩)⟩))
 refine (Zu (parts:=[]) [] rfl rfl Tryz.underlying30 ZdR ZhB rfl rfl rfl rfl rfl (fun b77=>⟨⟨Kn.le.refl _,t1⟩,(ZaQ [5,6] kr kr kr ⟨?_,?_⟩)⟩))
 refine (ZaG (R:=Zt) 3 rfl (ZU.lit0 (R:=Zt)) rfl rfl rfl Zl8 Zml rfl rfl rfl hu.rows Zt.one rfl om (fun l78 p78 c78 hv78=>?_))
 refine ⟨⟨Kn.le.refl _,t1⟩,(ZaA 3 rfl hv78 Zt.mono om3 (fun B' hle'=>⟨hle',t1⟩) (fun B79 hle79 hr79=>?_))⟩
 obtain ⟨hu,hf,hi⟩:=up3 hle79 hu hf hi
 have hr79n:=hr79.len
 refine ZaQ [6,9] kr kr kr ⟨?_,?_⟩
 refine (Zu (parts:=[]) [] rfl rfl Tryz.underlying31 ZaW Zc4 rfl rfl rfl rfl rfl (fun b80=>⟨⟨hle79,t1⟩,(Zz 9 kr rfl kr (ZaD rfl rfl Zib rfl (Zag _ _ x.queue _ hi) ?_))⟩))
 rintro _ B81 _ hle81 ⟨l81,a81,c81,rfl,rfl,hv81⟩
 obtain ⟨hu,hf,hi,hr79⟩:=up4 hle81 hu hf hi hr79
 replace hv81:=hv81.mono ZI.mono Kn.less_le
 refine ⟨⟨(hle79.trans hle81),t1⟩,(ZaA 5 rfl hv81 ZI.mono om3 (fun B' hle'=>⟨(hle79.trans hle81).trans hle',t1⟩) (fun B82 hle82 hr82=>?_))⟩
 obtain ⟨hu,hf,hi,hr79⟩:=up4 hle82 hu hf hi hr79
 have hr82n:=hr82.len
 refine aT 10 rfl (ZR fun D B L hI=>Zav (parts:=[(0,_),(1,_),(2,_),(3,_)]) [_,_,_,_,_] [_,_,_,_,_] rfl rfl Zf3 Zci rfl rfl rfl r4) (h:=Z0 12 kr rfl kr kr kr (ZV [_,_,_,_,_] 2 [_,_,_,_,_] rfl rfl Zc1 rfl rfl rfl rfl rfl rfl rfl rfl ?_))
 exact Zao ⟨⟨_,_,_,_,_⟩,⟨0,0,_,_,_,[]⟩⟩ [0,1,4,2] ⟨hr79,rfl,ZU.lit0,hr82⟩ t4 rfl
 refine (ZaD rfl rfl Zib rfl (Zag _ _ x.queue _ hi) ?_)
 rintro _ B83 _ hle83 ⟨l83,a83,c83,rfl,rfl,hv83⟩
 obtain ⟨hu,hf,hi,hr79⟩:=up4 hle83 hu hf hi hr79
 replace hv83:=hv83.mono ZI.mono Kn.less_le
 refine ⟨⟨(hle79.trans hle83),t1⟩,(ZaA 4 rfl hv83 ZI.mono om3 (fun B' hle'=>⟨(hle79.trans hle83).trans hle',t1⟩) (fun B84 hle84 hr84=>?_))⟩
 obtain ⟨hu,hf,hi,hr79⟩:=up4 hle84 hu hf hi hr79
 have hr84n:=hr84.len
 refine Zz 6 kr rfl kr (Zu (parts:=[]) [] rfl rfl Tryz.underlying31 ZaW Zc4 rfl rfl rfl rfl rfl (fun b85=>?_))
 refine ⟨⟨((hle79.trans hle83).trans hle84),t1⟩,(aT 10 rfl (ZR fun D B L hI=>Zav (parts:=[(0,_),(1,_),(2,_),(3,_)]) [_,_,_,_,_] [_,_,_,_,_] rfl rfl Zf3 Zci rfl rfl rfl r4) (h:=Z0 12 kr rfl kr kr kr (ZV [_,_,_,_,_] 2 [_,_,_,_,_] rfl rfl Zc1 rfl rfl rfl rfl rfl rfl rfl rfl ?_)))⟩
 exact Zao ⟨⟨_,_,_,_,_⟩,⟨0,0,_,_,_,[]⟩⟩ [0,1,5,2] ⟨hr79,rfl,ZU.lit0,hr84⟩ t4 rfl
 refine (Zu (parts:=[]) [] rfl rfl Tryz.underlying31 ZaW Zc4 rfl rfl rfl rfl rfl (fun b86=>⟨⟨Kn.le.refl _,t1⟩,(Zz 5 kr rfl kr (ZaG (R:=Zt) 3 rfl (ZU.lit0 (R:=Zt)) rfl rfl rfl Zl8 Zml rfl rfl rfl hu.rows Zt.one rfl om (fun l87 p87 c87 hv87=>?_)))⟩))
 refine ⟨⟨Kn.le.refl _,t1⟩,(ZaA 3 rfl hv87 Zt.mono om3 (fun B' hle'=>⟨hle',t1⟩) (fun B88 hle88 hr88=>?_))⟩
 obtain ⟨hu,hf,hi⟩:=up3 hle88 hu hf hi
 have hr88n:=hr88.len
 refine Zz 9 kr rfl kr (ZaD rfl rfl Zib rfl (Zag _ _ x.queue _ hi) ?_)
 rintro _ B89 _ hle89 ⟨l89,a89,c89,rfl,rfl,hv89⟩
 obtain ⟨hu,hf,hi,hr88⟩:=up4 hle89 hu hf hi hr88
 replace hv89:=hv89.mono ZI.mono Kn.less_le
 refine ⟨⟨(hle88.trans hle89),t1⟩,(ZaA 5 rfl hv89 ZI.mono om3 (fun B' hle'=>⟨(hle88.trans hle89).trans hle',t1⟩) (fun B90 hle90 hr90=>?_))⟩
 obtain ⟨hu,hf,hi,hr88⟩:=up4 hle90 hu hf hi hr88
 have hr90n:=hr90.len
 refine aT 10 rfl (ZR fun D B L hI=>Zav (parts:=[(0,_),(1,_),(2,_),(3,_)]) [_,_,_,_,_] [_,_,_,_,_] rfl rfl Zf3 Zci rfl rfl rfl r4) (h:=Z0 12 kr rfl kr kr kr (ZV [_,_,_,_,_] 2 [_,_,_,_,_] rfl rfl Zc1 rfl rfl rfl rfl rfl rfl rfl rfl ?_))
 exact Zao ⟨⟨_,_,_,_,_⟩,⟨0,0,_,_,_,[]⟩⟩ [0,1,4,2] ⟨hr88,rfl,ZU.lit0,hr90⟩ t4 rfl
 refine (Zu (parts:=[]) [] rfl rfl Tryz.underlying31 ZaW Zc4 rfl rfl rfl rfl rfl (fun b91=>⟨⟨Kn.le.refl _,t1⟩,(Zz 2 kr rfl kr (Zu (parts:=[]) [] rfl rfl Tryz.underlying30 ZdR ZhB rfl rfl rfl rfl rfl (fun b92=>?_)))⟩))
 refine ⟨⟨Kn.le.refl _,t1⟩,(Zz 5 kr rfl kr (ZaG (R:=Zt) 4 rfl (ZU.lit0 (R:=Zt)) rfl rfl rfl Zl8 Zml rfl rfl rfl hu.rows Zt.one rfl om (fun l93 p93 c93 hv93=>?_)))⟩
 refine ⟨⟨Kn.le.refl _,t1⟩,(ZaA 4 rfl hv93 Zt.mono om3 (fun B' hle'=>⟨hle',t1⟩) (fun B94 hle94 hr94=>?_))⟩
 obtain ⟨hf,hi⟩:=up2 hle94 hf hi
 have hr94n:=hr94.len
 refine Zz 9 kr rfl kr (ZaD rfl rfl Zib rfl (Zag _ _ x.queue _ hi) ?_)
 rintro _ B95 _ hle95 ⟨l95,a95,c95,rfl,rfl,hv95⟩
 obtain ⟨hf,hr94⟩:=up2 hle95 hf hr94
 replace hv95:=hv95.mono ZI.mono Kn.less_le
 refine ⟨⟨(hle94.trans hle95),t1⟩,(ZaA 5 rfl hv95 ZI.mono om3 (fun B' hle'=>⟨(hle94.trans hle95).trans hle',t1⟩) (fun B96 hle96 hr96=>?_))⟩
 obtain ⟨hf,hr94⟩:=up2 hle96 hf hr94
 have hr96n:=hr96.len
 refine aT 10 rfl (ZR fun D B L hI=>Zav (parts:=[(0,_),(1,_),(2,_),(3,_)]) [_,_,_,_,_] [_,_,_,_,_] rfl rfl Zf3 Zci rfl rfl rfl r4) (h:=Z0 12 kr rfl kr kr kr (ZV [_,_,_,_,_] 2 [_,_,_,_,_] rfl rfl Zc1 rfl rfl rfl rfl rfl rfl rfl rfl ?_))
 exact Zao ⟨⟨_,_,_,_,_⟩,⟨0,0,_,_,_,[]⟩⟩ [0,1,3,2] ⟨hr94,rfl,ZU.lit0,hr96⟩ t4 rfl
 obtain ⟨hou,hoe,hv0,hoi⟩:=hF
 replace hf:=up1 hle3 hf
 refine ZC [(0,_),(1,_),(2,_),(3,_)] [_,_,_,_] t4 rfl (Zc (Za (xA (h:=Zh (Zx (α:=Gh DFolder) [0,1,2,3] (fun g=>[(4,.int .i64 g.k)]) [2,3] (fun g=>[g.l,Zap o.1.b [str x.domain,.slice o.1.q1 x.users.length o.1.c1,.slice g.a g.xs.length g.c,.int .i64 x.queue.next,.slice o.1.q3 x.queue.items.length o.1.c3] 36]) (fun g Bx=>g.k≤x.folders.length∧g.xs=x.folders.take g.k∧ZU Bx g.l g.a g.c 61 5 Zn g.xs) (fun g=>x.folders.length - g.k) ⟨0,0,_,_,_,_⟩ t1 rfl (⟨Nat.zero_le _,by rw [hoe];rfl,hv0⟩) (fun g B97 hle97 hI=>?_))))))
 obtain ⟨hk,hxs,hv⟩:=hI
 have hxn:=congrArg List.length hxs
 rw [List.length_take] at hxn
 obtain ⟨hf,hou,hoi⟩:=up3 hle97 hf hou hoi
 refine ZC [(0,_),(1,_),(2,_),(3,_),(4,_)] [_,_,_,_] t5 rfl (Zc (Za (xM (h:=xW Z3 (h:=x1 ZdN 0 (h:=xV Tryz.underlying31 (h:=ZF (h:=Zb rfl (fun g1=>?_) (fun g1=>?_)))))))))
 try simp only [sQ,ne_eq] at g1
 refine wSk (Zc (Zh (Z2 (keeps _ [0,3] _) mo kr ⟨Kn.le.refl _,Zba.refl _ _⟩ (fun _ _=>?_))))
 refine aW 0 rfl Z3 (h:=aT 1 rfl (ZR fun D B L hI=>Zp rfl rfl ZdN rfl (atL 3 (hI.2.2.1.trans rfl) rfl rfl) r4) (h:=aW 2 rfl Z3 (h:=aT 3 rfl (ZR fun D B L hI=>Zp rfl rfl ZdN rfl (atL 0 (hI.2.1.trans rfl) rfl rfl) r4) (h:=aM 4 rfl (h:=?_)))))
 obtain ⟨w,hw⟩:=ZX (xs:=x.folders) (i:=g.k) om
 obtain ⟨bb99,oo99,rfl⟩:=hf.base hw
 obtain ⟨_,⟨qg100,cg100,qm100,cm100,rfl,hg100,hm100,hb100,hb100b⟩,hc100⟩:=hf.elem hw
 have hg100n:=hg100.len
 have hm100n:=hm100.len
 have hm100s:=Zau hm100
 refine aIx 5 rfl Tryz.underlying31 ZaW (h:=aT 6 rfl (ZR fun D B L hI=>Z6 [_,_,_,_,_] rfl rfl ZfZ rfl (ZjQ (hc100.mono hI.1) 0 rfl rfl) r4) (h:=Zz 7 kr rfl kr (ZaD rfl rfl Zwv rfl (Zj8 _ _ _ _ w _ hg100 hm100) ?_)))
 rintro _ B101 _ hle101 ⟨rfl,l101,a101,c101,l101b,a101b,c101b,rfl,rfl,hs101,hs101b⟩
 refine ⟨⟨Kn.le.refl _,t2⟩,(ZaA 4 rfl hs101 ZZ.mono om3 (fun B' hle'=>⟨hle',t2⟩) (fun B102 hle102 hr102=>?_))⟩
 replace hv:=hv.mono Zn.mono hle102
 replace hou:=hou.mono Zt.mono hle102
 replace hoi:=hoi.mono ZI.mono hle102
 replace hs101b:=hs101b.mono Z9.mono hle102
 have hr102n:=hr102.len
 refine ZaA 5 rfl hs101b Z9.mono (by first | omega | decide | (simp;done) | (simp;omega)) (fun B' hle'=>⟨hle102.trans hle',⟨rfl,rfl,trivial⟩⟩) (fun B103 hle103 hr103=>?_)
 replace hr102:=up1 hle103 hr102
 replace hv:=hv.mono Zn.mono hle103
 obtain ⟨hou,hoi⟩:=up2 hle103 hou hoi
 have hr103n:=hr103.len
 refine Zz 8 kr rfl kr (Zu (parts:=[(0,_)]) [_,_,_,_,_] rfl rfl Tryz.underlying31 ZaW Zc4 rfl rfl rfl rfl rfl (fun b104=>?_))
 refine ⟨⟨(hle102.trans hle103),t2⟩,(Zz 9 kr rfl kr (Ze6 (z:=⟨w.owner,w.name,w.grants,w.next,w.mail⟩) (R:=Zn) 2 rfl hv rfl rfl rfl Zgc Zg1 rfl rfl (Za6.box 6 rfl) rfl rfl (⟨_,_,_,_,rfl,hr102,hr103,by first | assumption | omega | (simp;done) | (simp;omega),by first | assumption | omega | (simp;done) | (simp;omega)⟩) om (fun l105 p105 c105 hv105=>?_)))⟩
 refine ⟨⟨(hle102.trans hle103),t2⟩,(aW 10 rfl Z3 (h:=Z0 11 kr rfl kr kr kr (ZV [_] 3 [_,_,_,_,_] rfl rfl ZoN rfl rfl rfl rfl rfl rfl rfl rfl ?_)))⟩
 refine ZS (Zo (Zj (xM (h:=xD (h:=xA (h:=?_))))))
 exact ZE ⟨g.k+1,0,l105,p105,c105,(g.xs ++ [⟨w.owner,w.name,w.grants,w.next,w.mail⟩])⟩ [0,1,2,3] so2 ⟨so,by simp only [];rw [Zcb hw,hxs],hv105⟩ t5 rfl
 try simp only [sQ,ne_eq] at g1
 have hxe:g.xs=x.folders:=by rw [hxs];exact List.take_of_length_le oz
 refine ZD (ZW (ZG (Zs (Zo (Za (xL [_,_,_,_,_] Zcj 3 (h:=xS [_,_,_,_,_] 1 [_,_,_,_,_] Zc1 (h:=tL4 (Ze ?_)))))))))
 exact Zes .ret (.inl rfl) [_] [2] rfl ⟨⟨_,rfl,.inr ⟨[_,_,_,_,_],Zcj,ZbX 1 rfl rfl rfl,rfl⟩⟩,trivial⟩ ⟨_,_,_,_,_,_,_,rfl,by rw [← hxe];rfl,hou,hxe ▸ hv,hoi⟩

theorem ZiB (q1 q2 q3:Option Addr) (c1 c2 c3:Nat) (x:DHost) (u n:Str) (hul:u.length≤2000000) (hnl:n.length≤2000000) (hd:x.domain.length≤2000000) (B:Kn) (hu:SlK B q1 c1 3 Zt x.users) (hf:SlK B q2 c2 5 Zn x.folders) (hi:SlK B q3 c3 4 ZI x.queue.items):ZA (pj J) 12 [.agg #[str x.domain,.slice q1 x.users.length c1,.slice q2 x.folders.length c2,.int .i64 x.queue.next,.slice q3 x.queue.items.length c3],str u,str n] B [] (fun v B' Ls=>Ls=[]∧∃p1 d1 p2 d2 p3 d3,v = .tuple #[.agg #[str (ZP x u n).1.domain,.slice p1 (ZP x u n).1.users.length d1,.slice p2 (ZP x u n).1.folders.length d2,.int .i64 (ZP x u n).1.queue.next,.slice p3 (ZP x u n).1.queue.items.length d3],.int .i64 (ZP x u n).2]∧SlK B' p1 d1 3 Zt (ZP x u n).1.users∧SlK B' p2 d2 5 Zn (ZP x u n).1.folders∧SlK B' p3 d3 4 ZI (ZP x u n).1.queue.items∧(ZP x u n).1.domain.length≤2000000):=by
 refine cB 80 Tryz.func12 (h:=?_)
 have hun:=hu.len
 have hfn:=hf.len
 have hin:=hi.len
 have hix:=ZnA (inF u n) x.folders
 refine Za (xBx [_,_,_,_,_] (h:=fun b1=>xAl [_,_,_,_,_] Zci (h:=fun b2=>xA (h:=tL2 (Zc (Za (xL [_,_,_,_,_] Zcj 0 (h:=xR ZwX rfl (ZlA _ _ _ _ _ _ x om2 _ hu hf hi) (h:=?_)))))))))
 refine xN (h:=xM (h:=Zv (d:=14) rfl (fun g1=>?_) (fun g1=>?_)))
 try simp only [sQ,ne_eq] at g1
 rw [ZP,if_pos (by simp [g1])]
 refine xP (h:=xP (h:=xP (h:=xT (h:=Zb (t:=true) rfl (fun _=>Za (xB [] [_,_,_,_,_] [_,_,_,_,_] Zf3 Zci (h:=xS [_,_,_,_,_] 1 [_,_,_,_,_] Zc1 (h:=xA (h:=tL2 (Ze (Zk ?_))))))) (fun h=>Bool.noConfusion h)))))
 exact Zes .ret (.inl rfl) [_,_] [] rfl ⟨⟨_,rfl,.inr ⟨[_,_,_,_,_],Zcj,ZbX 1 rfl rfl rfl,rfl⟩⟩,rfl,trivial⟩ ⟨rfl,none,0,none,0,none,0,rfl,SlK.nil,SlK.nil,SlK.nil,by simp [ZcJ]⟩
 try simp only [sQ,ne_eq] at g1
 refine xM (h:=xR Zqw rfl (Zbx _ om2 _) (h:=?_))
 refine xN (h:=xF (h:=Zb rfl (fun g2=>?_) (fun g2=>?_)))
 try simp only [sQ,ne_eq] at g2
 rw [ZP,if_pos (by simp [g2])]
 refine Za (xB [] [_,_,_,_,_] [_,_,_,_,_] Zf3 Zci (h:=xS [_,_,_,_,_] 1 [_,_,_,_,_] Zc1 (h:=xA (h:=tL2 (Ze (Zk ?_))))))
 exact Zes .ret (.inl rfl) [_,_] [] rfl ⟨⟨_,rfl,.inr ⟨[_,_,_,_,_],Zcj,ZbX 1 rfl rfl rfl,rfl⟩⟩,rfl,trivial⟩ ⟨rfl,none,0,none,0,none,0,rfl,SlK.nil,SlK.nil,SlK.nil,by simp [ZcJ]⟩
 try simp only [sQ,ne_eq] at g2
 have hok:Zah x=true:=by simpa using g1
 have hnk:Zaf n=true:=by simpa using g2
 refine wSk (Za (xL [_,_,_,_,_] Zcj 0 (h:=xC ZwW rfl (Zns _ _ _ _ _ _ x _ hu hf hi) (h:=?_))))
 rintro _ B5 _ hle5 ⟨l5,a5,c5,q15,c15,q35,c35,rfl,rfl,hu5,hs5,hi5⟩
 obtain ⟨hu,hf⟩:=up2 hle5 hu hf
 have hu5n:=hu5.len
 have hi5n:=hi5.len
 refine Zfc 2 rfl hs5 Zn.mono om3 (fun B6 hle6 hr6=>?_)
 obtain ⟨hu,hf,hu5,hi5⟩:=up4 hle6 hu hf hu5 hi5
 have hr6n:=hr6.len
 refine xAl [_,_,_,_,_] Zci (h:=fun b7=>xS [_,_,_,_,_] 3 [_,_,_,_,_] Zc1 (h:=tL4 (Zc (Zh (Za (xW ZbB (h:=x1 ZhV 0 (h:=xM (h:=xR Ztt rfl (Zfi _ _ _ _ _ hu) (h:=ZF (h:=xA (h:=Zb rfl (fun g3=>?_) (fun g3=>?_)))))))))))))
 try simp only [sQ,ne_eq] at g3
 rw [ZP,if_neg (fun h=>h ⟨hok,hnk⟩),if_pos g3]
 refine Za (xL [_,_,_,_,_] Zcj 3 (h:=xS [_,_,_,_,_] 1 [_,_,_,_,_] Zc1 (h:=xA (h:=tL4 (Ze (Zy (Zk ?_)))))))
 exact Zes .ret (.inl rfl) [_,_] [] rfl ⟨⟨_,rfl,.inr ⟨[_,_,_,_,_],Zcj,ZbX 1 rfl rfl rfl,rfl⟩⟩,rfl,trivial⟩ ⟨rfl,_,_,_,_,_,_,(by first | rfl | (simp only [DHost.withFolders,List.length_set];rfl)),hu5,hr6,hi5,by first | assumption | (rw [ZfF.2.2.1];assumption)⟩
 try simp only [sQ,ne_eq] at g3
 refine Za (xL [_,_,_,_,_] Zcj 0 (h:=xM (h:=xM (h:=xR ZvL rfl (ZiY _ _ _ _ _ _ x u n om2 om2 _ hf) (h:=?_)))))
 refine Zdp (h:=xM (h:=Zv (d:=35) rfl (fun g4=>?_) (fun g4=>?_)))
 try simp only [sQ,ne_eq] at g4
 rw [ZP,if_neg (fun h=>h ⟨hok,hnk⟩),if_neg oz,if_pos (.inl g4)]
 refine xP (h:=xP (h:=xP (h:=xP (h:=xT (h:=xA (h:=Zb (t:=true) rfl (fun _=>Za (xL [_,_,_,_,_] Zcj 3 (h:=xS [_,_,_,_,_] 1 [_,_,_,_,_] Zc1 (h:=xA (h:=tL4 (Ze (Zy (Zk ?_)))))))) (fun h=>Bool.noConfusion h)))))))
 exact Zes .ret (.inl rfl) [_,_] [] rfl ⟨⟨_,rfl,.inr ⟨[_,_,_,_,_],Zcj,ZbX 1 rfl rfl rfl,rfl⟩⟩,rfl,trivial⟩ ⟨rfl,_,_,_,_,_,_,(by first | rfl | (simp only [DHost.withFolders,List.length_set];rfl)),hu5,hr6,hi5,by first | assumption | (rw [ZfF.2.2.1];assumption)⟩
 try simp only [sQ,ne_eq] at g4
 refine xW Z3 (h:=x1 ZdN 0 (h:=xV Tryz.underlying31 (h:=Zdp (h:=xF (h:=xA (h:=Zb rfl (fun g5=>?_) (fun g5=>?_)))))))
 try simp only [sQ,ne_eq] at g5
 rw [ZP,if_neg (fun h=>h ⟨hok,hnk⟩),if_neg oz,if_pos (.inr oz)]
 refine Za (xL [_,_,_,_,_] Zcj 3 (h:=xS [_,_,_,_,_] 1 [_,_,_,_,_] Zc1 (h:=xA (h:=tL4 (Ze (Zy (Zk ?_)))))))
 exact Zes .ret (.inl rfl) [_,_] [] rfl ⟨⟨_,rfl,.inr ⟨[_,_,_,_,_],Zcj,ZbX 1 rfl rfl rfl,rfl⟩⟩,rfl,trivial⟩ ⟨rfl,_,_,_,_,_,_,(by first | rfl | (simp only [DHost.withFolders,List.length_set];rfl)),hu5,hr6,hi5,by first | assumption | (rw [ZfF.2.2.1];assumption)⟩
 try simp only [sQ,ne_eq] at g5
 refine ZY (ZS (Zo (Za (xM (h:=xM (h:=xBs [] [] Tryz.underlying54 Zdu Zij (h:=fun b10=>xBs [] [] Tryz.underlying57 ZcE ZhC (h:=fun b11=>xB [(0,_),(1,_)] [_,_] [_,_] ZtW ZqE (h:=xB [(0,_),(1,_),(2,_),(3,_)] [_,_,_,_,_] [_,_,_,_,_] Zvv Zc4 (h:=Zfc 4 rfl (ZU.lit0 (R:=ZZ) (w:=2)) ZZ.mono om3 (fun B12 hle12 hr12=>?_)))))))))))
 obtain ⟨hu5,hr6,hi5⟩:=up3 hle12 hu5 hr6 hi5
 have hr12n:=hr12.len
 refine Zfc 5 rfl (ZU.lit0 (R:=Z9) (w:=3)) Z9.mono om3 (fun B13 hle13 hr13=>?_)
 obtain ⟨hr12,hu5,hr6,hi5⟩:=up4 hle13 hr12 hu5 hr6 hi5
 have hr13n:=hr13.len
 refine xAl [_,_,_,_,_] Zc4 (h:=fun b14=>xS [_,_,_,_,_] 6 [_,_,_,_,_] ZaW (h:=tL7 (Za (xA (h:=Zc (Zh (Zx (α:=Nat) [0,1,2,3,6,7,8,9,18,22,29] (fun k=>[(10,.int .i64 k)]) [] (fun k=>[]) (fun k Bx=>Bx=B13∧k≤x.folders.length∧∀y,y∈x.folders.take k→ZbK y (ZaO u n)=true) (fun k=>x.folders.length - k) 0 t1 rfl (⟨rfl,Nat.zero_le _,by simp⟩) (fun k B15 hle15 hI=>?_))))))))
 obtain ⟨rfl,hk,hak⟩:=hI
 refine ZC [(0,_),(1,_),(2,_),(3,_),(6,_),(7,_),(8,_),(9,_),(10,_),(18,_),(22,_),(29,_)] [_,_,_,_,_,_,_] t12 rfl (Zc (Zc (Z2 (same _ _) mo kr ⟨rfl,rfl⟩ (fun _ _=>?_))))
 refine aM 0 rfl (h:=aW 1 rfl Z3 (h:=aT 2 rfl (Zal fun D=>Zp rfl rfl ZdN rfl (atL 3 rfl rfl rfl) r4) (h:=aV 3 rfl Tryz.underlying31 (h:=ZkF 4 rfl (h:=aM 5 rfl (h:=Zay (d:=53) rfl (fun g6=>?_) (fun g6=>?_)))))))
 try simp only [sQ,ne_eq] at g6
 refine aW 6 rfl Z3 (h:=aT 7 rfl (Zal fun D=>Zp rfl rfl ZdN rfl (atL 3 rfl rfl rfl) r4) (h:=aM 8 rfl (h:=?_)))
 obtain ⟨w,hw⟩:=ZX (xs:=x.folders) (i:=k) om
 obtain ⟨bb17,oo17,rfl⟩:=hr6.base hw
 obtain ⟨_,⟨qg18,cg18,qm18,cm18,rfl,hg18,hm18,hb18,hb18b⟩,hc18⟩:=hr6.elem hw
 have hg18n:=hg18.len
 have hm18n:=hm18.len
 have hm18s:=Zau hm18
 refine aIx 9 rfl Tryz.underlying31 ZaW (h:=aT 10 rfl (Zal fun D=>Z6 [_,_,_,_,_] rfl rfl ZfZ rfl (ZjQ hc18 0 rfl rfl) r4) (h:=aT 11 rfl (Zal fun D=>Z6 [_,_,_,_,_] rfl rfl ZfZ rfl (ZbX 6 rfl rfl rfl) r4) (h:=aT 12 rfl (Zal fun D=>Zae rfl rfl ZvK rfl (ZiW w ⟨u,n,[],1,[]⟩ _ _ _ _ _ _ _ _ _) r4) (h:=aPT 13 rfl (h:=ZB kr kr ?_)))))
 refine Zo (Zb rfl (fun g7=>?_) (fun g7=>?_))
 try simp only [sQ,ne_eq] at g7
 refine wSk (Zh (Zj (xM (h:=xD (h:=xA (h:=ZS ?_))))))
 exact ZE (k+1) [0,1,2,3,4,5,6] so2 ⟨rfl,oz,ZaM hw hak g7⟩ t12 rfl
 try simp only [sQ,ne_eq] at g7
 refine ZD (ZW (ZG (Zs (Zo (Zc (Z2 (keeps _ [3,6] _) mo kr ⟨Kn.le.refl _,Zba.refl _ _⟩ (fun _ _=>?_)))))))
 refine aW 1 rfl Z3 (h:=aT 2 rfl (ZR fun D B L hI=>Zp rfl rfl ZdN rfl (atL 3 (hI.2.1.trans rfl) rfl rfl) r4) (h:=aM 3 rfl (h:=?_)))
 obtain ⟨hq20,q20,cp20,hv20,hr20⟩:=hr6.cutE 0 k om om
 have hr20n:=hr20.len
 refine aT 4 rfl (ZR fun D B L hI=>ZdT (a:=0) (b:=k) hv20 om hq20 rfl rfl Tryz.underlying31 ZaW rfl rfl ⟨_,_,rfl,by first | omega | (simp;done) | (simp;omega)⟩ r4) (h:=?_)
 refine aT 6 rfl (ZR fun D B L hI=>Z6 [_,_,_,_,_] rfl rfl ZfZ rfl (ZbX 6 (hI.2.2.1.trans rfl) rfl rfl) r4) (h:=aW 9 rfl Z3 (h:=aT 10 rfl (ZR fun D B L hI=>Zp rfl rfl ZdN rfl (atL 3 (hI.2.1.trans rfl) rfl rfl) r4) (h:=aM 11 rfl (h:=?_))))
 obtain ⟨hq21,q21,cp21,hv21,hr21⟩:=hr6.cutE k x.folders.length om om
 have hr21n:=hr21.len
 refine aT 12 rfl (ZR fun D B L hI=>ZdT (a:=k) (b:=x.folders.length) hv21 om hq21 rfl rfl Tryz.underlying31 ZaW rfl ⟨_,_,rfl,by first | omega | (simp;done) | (simp;omega)⟩ rfl r4) (h:=?_)
 refine ZaQ [0,7] kr kr kr ⟨?_,?_⟩
 refine (Zu (parts:=[]) [] rfl rfl Tryz.underlying31 ZaW Zc4 rfl rfl rfl rfl rfl (fun b22=>⟨⟨Kn.le.refl _,t2⟩,(ZaQ [5,7] kr kr kr ⟨?_,?_⟩)⟩))
 refine (ZaG (R:=Zn) 7 rfl (ZU.lit0 (R:=Zn)) rfl rfl rfl Zgc Zg1 rfl rfl rfl hr20.rows Zn.one rfl om (fun l23 p23 c23 hv23=>?_))
 refine ⟨⟨Kn.le.refl _,t2⟩,(Zz 7 kr rfl kr (Zu (parts:=[(0,_)]) [_,_,_,_,_] rfl rfl Tryz.underlying31 ZaW Zc4 rfl rfl rfl rfl rfl (fun b24=>?_)))⟩
 refine ⟨⟨Kn.le.refl _,t2⟩,(Zz 8 kr rfl kr (Ze6 (z:=⟨u,n,[],1,[]⟩) (R:=Zn) 7 rfl hv23 rfl rfl rfl Zgc Zg1 rfl rfl (Za6.box 8 rfl) rfl rfl (⟨_,_,_,_,rfl,hr12,hr13,by first | assumption | omega | (simp;done) | (simp;omega),by first | assumption | omega | (simp;done) | (simp;omega)⟩) om (fun l25 p25 c25 hv25=>?_)))⟩
 refine ⟨⟨Kn.le.refl _,t2⟩,(Zz 13 kr rfl kr (ZaG (R:=Zn) 7 rfl hv25 rfl rfl rfl Zgc Zg1 rfl rfl rfl hr21.rows Zn.one rfl om (fun l26 p26 c26 hv26=>?_)))⟩
 refine ⟨⟨Kn.le.refl _,t2⟩,(aW 14 rfl Z3 (h:=Z0 15 kr rfl kr kr kr (ZV [_] 3 [_,_,_,_,_] rfl rfl ZoN rfl rfl rfl rfl rfl rfl rfl rfl ?_)))⟩
 refine Zo (tL9 (Za (xL [_,_,_,_,_] Zcj 3 (h:=Zfc 7 rfl hv26 Zn.mono om3 (fun B27 hle27 hr27=>?_)))))
 obtain ⟨hu5,hi5,hr12,hr13⟩:=up4 hle27 hu5 hi5 hr12 hr13
 have hr27n:=hr27.len
 refine xS [_,_,_,_,_] 1 [_,_,_,_,_] Zc1 (h:=?_)
 rw [ZbA (k:=k) hok hnk oz oz oz hk hak (.inr ⟨_,hw,g7⟩)]
 refine xA (h:=tL9 (Ze ?_))
 exact Zes .ret (.inl rfl) [_,_] [] rfl ⟨⟨_,rfl,.inr ⟨[_,_,_,_,_],Zcj,ZbX 1 rfl rfl rfl,rfl⟩⟩,rfl,trivial⟩ ⟨rfl,_,_,_,_,_,_,(by first | rfl | (simp only [DHost.withFolders,List.length_set];rfl)),hu5,hr27,hi5,oy⟩
 refine (Zu (parts:=[(0,_)]) [_,_,_,_,_] rfl rfl Tryz.underlying31 ZaW Zc4 rfl rfl rfl rfl rfl (fun b28=>⟨⟨Kn.le.refl _,t2⟩,(Zz 5 kr rfl kr (ZaG (R:=Zn) 7 rfl (ZU.lit0 (R:=Zn)) rfl rfl rfl Zgc Zg1 rfl rfl rfl hr20.rows Zn.one rfl om (fun l29 p29 c29 hv29=>?_)))⟩))
 refine ⟨⟨Kn.le.refl _,t2⟩,(Zz 8 kr rfl kr (Ze6 (z:=⟨u,n,[],1,[]⟩) (R:=Zn) 7 rfl hv29 rfl rfl rfl Zgc Zg1 rfl rfl (Za6.box 8 rfl) rfl rfl (⟨_,_,_,_,rfl,hr12,hr13,by first | assumption | omega | (simp;done) | (simp;omega),by first | assumption | omega | (simp;done) | (simp;omega)⟩) om (fun l30 p30 c30 hv30=>?_)))⟩
 refine ⟨⟨Kn.le.refl _,t2⟩,(Zz 13 kr rfl kr (ZaG (R:=Zn) 7 rfl hv30 rfl rfl rfl Zgc Zg1 rfl rfl rfl hr21.rows Zn.one rfl om (fun l31 p31 c31 hv31=>?_)))⟩
 refine ⟨⟨Kn.le.refl _,t2⟩,(aW 14 rfl Z3 (h:=Z0 15 kr rfl kr kr kr (ZV [_] 3 [_,_,_,_,_] rfl rfl ZoN rfl rfl rfl rfl rfl rfl rfl rfl ?_)))⟩
 refine Zo (tL9 (Za (xL [_,_,_,_,_] Zcj 3 (h:=Zfc 7 rfl hv31 Zn.mono om3 (fun B32 hle32 hr32=>?_)))))
 obtain ⟨hu5,hi5,hr12,hr13⟩:=up4 hle32 hu5 hi5 hr12 hr13
 have hr32n:=hr32.len
 refine xS [_,_,_,_,_] 1 [_,_,_,_,_] Zc1 (h:=?_)
 rw [ZbA (k:=k) hok hnk oz oz oz hk hak (.inr ⟨_,hw,g7⟩)]
 refine xA (h:=tL9 (Ze ?_))
 exact Zes .ret (.inl rfl) [_,_] [] rfl ⟨⟨_,rfl,.inr ⟨[_,_,_,_,_],Zcj,ZbX 1 rfl rfl rfl,rfl⟩⟩,rfl,trivial⟩ ⟨rfl,_,_,_,_,_,_,(by first | rfl | (simp only [DHost.withFolders,List.length_set];rfl)),hu5,hr32,hi5,oy⟩
 refine (Zu (parts:=[(0,_)]) [_,_,_,_,_] rfl rfl Tryz.underlying31 ZaW Zc4 rfl rfl rfl rfl rfl (fun b33=>⟨⟨Kn.le.refl _,t2⟩,(Zz 0 kr rfl kr (Zu (parts:=[]) [] rfl rfl Tryz.underlying31 ZaW Zc4 rfl rfl rfl rfl rfl (fun b34=>?_)))⟩))
 refine ⟨⟨Kn.le.refl _,t2⟩,(Zz 5 kr rfl kr (ZaG (R:=Zn) 8 rfl (ZU.lit0 (R:=Zn)) rfl rfl rfl Zgc Zg1 rfl rfl rfl hr20.rows Zn.one rfl om (fun l35 p35 c35 hv35=>?_)))⟩
 refine ⟨⟨Kn.le.refl _,t2⟩,(Zz 8 kr rfl kr (Ze6 (z:=⟨u,n,[],1,[]⟩) (R:=Zn) 8 rfl hv35 rfl rfl rfl Zgc Zg1 rfl rfl (Za6.box 7 rfl) rfl rfl (⟨_,_,_,_,rfl,hr12,hr13,by first | assumption | omega | (simp;done) | (simp;omega),by first | assumption | omega | (simp;done) | (simp;omega)⟩) om (fun l36 p36 c36 hv36=>?_)))⟩
 refine ⟨⟨Kn.le.refl _,t2⟩,(Zz 13 kr rfl kr (ZaG (R:=Zn) 8 rfl hv36 rfl rfl rfl Zgc Zg1 rfl rfl rfl hr21.rows Zn.one rfl om (fun l37 p37 c37 hv37=>?_)))⟩
 refine ⟨⟨Kn.le.refl _,t2⟩,(aW 14 rfl Z3 (h:=Z0 15 kr rfl kr kr kr (ZV [_] 3 [_,_,_,_,_] rfl rfl ZoN rfl rfl rfl rfl rfl rfl rfl rfl ?_)))⟩
 refine Zo (tL9 (Za (xL [_,_,_,_,_] Zcj 3 (h:=Zfc 8 rfl hv37 Zn.mono om3 (fun B38 hle38 hr38=>?_)))))
 obtain ⟨hu5,hi5,hr12,hr13⟩:=up4 hle38 hu5 hi5 hr12 hr13
 have hr38n:=hr38.len
 refine xS [_,_,_,_,_] 1 [_,_,_,_,_] Zc1 (h:=?_)
 rw [ZbA (k:=k) hok hnk oz oz oz hk hak (.inr ⟨_,hw,g7⟩)]
 refine xA (h:=tL9 (Ze ?_))
 exact Zes .ret (.inl rfl) [_,_] [] rfl ⟨⟨_,rfl,.inr ⟨[_,_,_,_,_],Zcj,ZbX 1 rfl rfl rfl,rfl⟩⟩,rfl,trivial⟩ ⟨rfl,_,_,_,_,_,_,(by first | rfl | (simp only [DHost.withFolders,List.length_set];rfl)),hu5,hr38,hi5,oy⟩
 try simp only [sQ,ne_eq] at g6
 refine aZ 6 rfl (h:=aZ 7 rfl (h:=aZ 8 rfl (h:=aZ 9 rfl (h:=aZ 10 rfl (h:=aZ 11 rfl (h:=aZ 12 rfl (h:=aPF 13 rfl (h:=ZB kr kr ?_))))))))
 refine Zo (Zb (t:=false) rfl (fun h=>Bool.noConfusion h) (fun _=>ZD (ZW (ZG (Zs (Zo (Zc (Z2 (keeps _ [3,6] _) mo kr ⟨Kn.le.refl _,Zba.refl _ _⟩ (fun _ _=>?_)))))))))
 refine aW 1 rfl Z3 (h:=aT 2 rfl (ZR fun D B L hI=>Zp rfl rfl ZdN rfl (atL 3 (hI.2.1.trans rfl) rfl rfl) r4) (h:=aM 3 rfl (h:=?_)))
 obtain ⟨hq39,q39,cp39,hv39,hr39⟩:=hr6.cutE 0 k om om
 have hr39n:=hr39.len
 refine aT 4 rfl (ZR fun D B L hI=>ZdT (a:=0) (b:=k) hv39 om hq39 rfl rfl Tryz.underlying31 ZaW rfl rfl ⟨_,_,rfl,by first | omega | (simp;done) | (simp;omega)⟩ r4) (h:=?_)
 refine aT 6 rfl (ZR fun D B L hI=>Z6 [_,_,_,_,_] rfl rfl ZfZ rfl (ZbX 6 (hI.2.2.1.trans rfl) rfl rfl) r4) (h:=aW 9 rfl Z3 (h:=aT 10 rfl (ZR fun D B L hI=>Zp rfl rfl ZdN rfl (atL 3 (hI.2.1.trans rfl) rfl rfl) r4) (h:=aM 11 rfl (h:=?_))))
 obtain ⟨hq40,q40,cp40,hv40,hr40⟩:=hr6.cutE k x.folders.length om om
 have hr40n:=hr40.len
 refine aT 12 rfl (ZR fun D B L hI=>ZdT (a:=k) (b:=x.folders.length) hv40 om hq40 rfl rfl Tryz.underlying31 ZaW rfl ⟨_,_,rfl,by first | omega | (simp;done) | (simp;omega)⟩ rfl r4) (h:=?_)
 refine ZaQ [0,7] kr kr kr ⟨?_,?_⟩
 refine (Zu (parts:=[]) [] rfl rfl Tryz.underlying31 ZaW Zc4 rfl rfl rfl rfl rfl (fun b41=>⟨⟨Kn.le.refl _,t2⟩,(ZaQ [5,7] kr kr kr ⟨?_,?_⟩)⟩))
 refine (ZaG (R:=Zn) 7 rfl (ZU.lit0 (R:=Zn)) rfl rfl rfl Zgc Zg1 rfl rfl rfl hr39.rows Zn.one rfl om (fun l42 p42 c42 hv42=>?_))
 refine ⟨⟨Kn.le.refl _,t2⟩,(Zz 7 kr rfl kr (Zu (parts:=[(0,_)]) [_,_,_,_,_] rfl rfl Tryz.underlying31 ZaW Zc4 rfl rfl rfl rfl rfl (fun b43=>?_)))⟩
 refine ⟨⟨Kn.le.refl _,t2⟩,(Zz 8 kr rfl kr (Ze6 (z:=⟨u,n,[],1,[]⟩) (R:=Zn) 7 rfl hv42 rfl rfl rfl Zgc Zg1 rfl rfl (Za6.box 8 rfl) rfl rfl (⟨_,_,_,_,rfl,hr12,hr13,by first | assumption | omega | (simp;done) | (simp;omega),by first | assumption | omega | (simp;done) | (simp;omega)⟩) om (fun l44 p44 c44 hv44=>?_)))⟩
 refine ⟨⟨Kn.le.refl _,t2⟩,(Zz 13 kr rfl kr (ZaG (R:=Zn) 7 rfl hv44 rfl rfl rfl Zgc Zg1 rfl rfl rfl hr40.rows Zn.one rfl om (fun l45 p45 c45 hv45=>?_)))⟩
 refine ⟨⟨Kn.le.refl _,t2⟩,(aW 14 rfl Z3 (h:=Z0 15 kr rfl kr kr kr (ZV [_] 3 [_,_,_,_,_] rfl rfl ZoN rfl rfl rfl rfl rfl rfl rfl rfl ?_)))⟩
 refine Zo (tL9 (Za (xL [_,_,_,_,_] Zcj 3 (h:=Zfc 7 rfl hv45 Zn.mono om3 (fun B46 hle46 hr46=>?_)))))
 obtain ⟨hu5,hi5,hr12,hr13⟩:=up4 hle46 hu5 hi5 hr12 hr13
 have hr46n:=hr46.len
 refine xS [_,_,_,_,_] 1 [_,_,_,_,_] Zc1 (h:=?_)
 rw [ZbA (k:=k) hok hnk oz oz oz hk hak (.inl oz)]
 refine xA (h:=tL9 (Ze ?_))
 exact Zes .ret (.inl rfl) [_,_] [] rfl ⟨⟨_,rfl,.inr ⟨[_,_,_,_,_],Zcj,ZbX 1 rfl rfl rfl,rfl⟩⟩,rfl,trivial⟩ ⟨rfl,_,_,_,_,_,_,(by first | rfl | (simp only [DHost.withFolders,List.length_set];rfl)),hu5,hr46,hi5,oy⟩
 refine (Zu (parts:=[(0,_)]) [_,_,_,_,_] rfl rfl Tryz.underlying31 ZaW Zc4 rfl rfl rfl rfl rfl (fun b47=>⟨⟨Kn.le.refl _,t2⟩,(Zz 5 kr rfl kr (ZaG (R:=Zn) 7 rfl (ZU.lit0 (R:=Zn)) rfl rfl rfl Zgc Zg1 rfl rfl rfl hr39.rows Zn.one rfl om (fun l48 p48 c48 hv48=>?_)))⟩))
 refine ⟨⟨Kn.le.refl _,t2⟩,(Zz 8 kr rfl kr (Ze6 (z:=⟨u,n,[],1,[]⟩) (R:=Zn) 7 rfl hv48 rfl rfl rfl Zgc Zg1 rfl rfl (Za6.box 8 rfl) rfl rfl (⟨_,_,_,_,rfl,hr12,hr13,by first | assumption | omega | (simp;done) | (simp;omega),by first | assumption | omega | (simp;done) | (simp;omega)⟩) om (fun l49 p49 c49 hv49=>?_)))⟩
 refine ⟨⟨Kn.le.refl _,t2⟩,(Zz 13 kr rfl kr (ZaG (R:=Zn) 7 rfl hv49 rfl rfl rfl Zgc Zg1 rfl rfl rfl hr40.rows Zn.one rfl om (fun l50 p50 c50 hv50=>?_)))⟩
 refine ⟨⟨Kn.le.refl _,t2⟩,(aW 14 rfl Z3 (h:=Z0 15 kr rfl kr kr kr (ZV [_] 3 [_,_,_,_,_] rfl rfl ZoN rfl rfl rfl rfl rfl rfl rfl rfl ?_)))⟩
 refine Zo (tL9 (Za (xL [_,_,_,_,_] Zcj 3 (h:=Zfc 7 rfl hv50 Zn.mono om3 (fun B51 hle51 hr51=>?_)))))
 obtain ⟨hu5,hi5,hr12,hr13⟩:=up4 hle51 hu5 hi5 hr12 hr13
 have hr51n:=hr51.len
 refine xS [_,_,_,_,_] 1 [_,_,_,_,_] Zc1 (h:=?_)
 rw [ZbA (k:=k) hok hnk oz oz oz hk hak (.inl oz)]
 refine xA (h:=tL9 (Ze ?_))
 exact Zes .ret (.inl rfl) [_,_] [] rfl ⟨⟨_,rfl,.inr ⟨[_,_,_,_,_],Zcj,ZbX 1 rfl rfl rfl,rfl⟩⟩,rfl,trivial⟩ ⟨rfl,_,_,_,_,_,_,(by first | rfl | (simp only [DHost.withFolders,List.length_set];rfl)),hu5,hr51,hi5,oy⟩
 refine (Zu (parts:=[(0,_)]) [_,_,_,_,_] rfl rfl Tryz.underlying31 ZaW Zc4 rfl rfl rfl rfl rfl (fun b52=>⟨⟨Kn.le.refl _,t2⟩,(Zz 0 kr rfl kr (Zu (parts:=[]) [] rfl rfl Tryz.underlying31 ZaW Zc4 rfl rfl rfl rfl rfl (fun b53=>?_)))⟩))
 refine ⟨⟨Kn.le.refl _,t2⟩,(Zz 5 kr rfl kr (ZaG (R:=Zn) 8 rfl (ZU.lit0 (R:=Zn)) rfl rfl rfl Zgc Zg1 rfl rfl rfl hr39.rows Zn.one rfl om (fun l54 p54 c54 hv54=>?_)))⟩
 refine ⟨⟨Kn.le.refl _,t2⟩,(Zz 8 kr rfl kr (Ze6 (z:=⟨u,n,[],1,[]⟩) (R:=Zn) 8 rfl hv54 rfl rfl rfl Zgc Zg1 rfl rfl (Za6.box 7 rfl) rfl rfl (⟨_,_,_,_,rfl,hr12,hr13,by first | assumption | omega | (simp;done) | (simp;omega),by first | assumption | omega | (simp;done) | (simp;omega)⟩) om (fun l55 p55 c55 hv55=>?_)))⟩
 refine ⟨⟨Kn.le.refl _,t2⟩,(Zz 13 kr rfl kr (ZaG (R:=Zn) 8 rfl hv55 rfl rfl rfl Zgc Zg1 rfl rfl rfl hr40.rows Zn.one rfl om (fun l56 p56 c56 hv56=>?_)))⟩
 refine ⟨⟨Kn.le.refl _,t2⟩,(aW 14 rfl Z3 (h:=Z0 15 kr rfl kr kr kr (ZV [_] 3 [_,_,_,_,_] rfl rfl ZoN rfl rfl rfl rfl rfl rfl rfl rfl ?_)))⟩
 refine Zo (tL9 (Za (xL [_,_,_,_,_] Zcj 3 (h:=Zfc 8 rfl hv56 Zn.mono om3 (fun B57 hle57 hr57=>?_)))))
 obtain ⟨hu5,hi5⟩:=up2 hle57 hu5 hi5
 have hr57n:=hr57.len
 refine xS [_,_,_,_,_] 1 [_,_,_,_,_] Zc1 (h:=?_)
 rw [ZbA (k:=k) hok hnk oz oz oz hk hak (.inl oz)]
 refine xA (h:=tL9 (Ze ?_))
 exact Zes .ret (.inl rfl) [_,_] [] rfl ⟨⟨_,rfl,.inr ⟨[_,_,_,_,_],Zcj,ZbX 1 rfl rfl rfl,rfl⟩⟩,rfl,trivial⟩ ⟨rfl,_,_,_,_,_,_,(by first | rfl | (simp only [DHost.withFolders,List.length_set];rfl)),hu5,hr57,hi5,oy⟩

theorem Zkl (q:Option Addr) (cp:Nat) (xs:List DMail) (k m n:Nat) (hmn:m=n) (he:xs=Zbu k n) (hk:k+3*n≤900000000000000) (B:Kn) (hx0:SlK B q cp 3 Z9 xs):Zaa (pj J) 82 [.slice q m cp,.int .i64 k] B (.int .i64 ((k+3*n:Nat):Int)):=by
 refine cB 41 Tryz.func82 (h:=?_)
 have hxn:=hx0.len
 have hxl:xs.length=n:=by rw [he];exact Zat _ _
 refine Za (xA (h:=Zc (Za (xA (h:=Zh (Zx (α:=Nat) [0] (fun g=>[(1,.int .i64 ((k+3*g:Nat):Int)),(5,.int .i64 g)]) [] (fun g=>[]) (fun g Bx=>Bx=B∧g≤n) (fun g=>n - g) 0 t2 rfl (⟨rfl,Nat.zero_le _⟩) (fun g B1 hle1 hI=>?_)))))))
 obtain ⟨rfl,hi⟩:=hI
 refine ZC [(0,_),(1,_),(5,_)] [] t3 rfl (Zc (Za (xM (h:=xM (h:=xV Tryz.underlying57 (h:=ZF (h:=Zb rfl (fun g1=>?_) (fun g1=>?_))))))))
 try simp only [sQ,ne_eq] at g1
 have hx:xs[g]? = some (⟨((k+3*g:Nat):Int),((k+3*g+1:Nat):Int),ZO (k+3*g+1+1)⟩:DMail):=by rw [he];exact ZjY oz
 refine wSk (Zc (Zh (Zc (Za (xM (h:=xM (h:=?_)))))))
 obtain ⟨bb2,oo2,rfl⟩:=hx0.base hx
 obtain ⟨_,⟨rfl,hb3⟩,hc3⟩:=hx0.elem hx
 refine xIx Tryz.underlying57 ZcE (h:=xW Zcn (h:=y1 lk3 hc3 0 (h:=xM (h:=ZaS (h:=Zb rfl (fun h1=>by simp at h1) (fun h1=>?_))))))
 try simp only [sQ,ne_eq] at h1
 refine wSk (Za (xM (h:=xD (h:=xA (h:=Zc (Za (xM (h:=xM (h:=xIx Tryz.underlying57 ZcE (h:=xW ZeW (h:=y1 lk3 hc3 1 (h:=xM (h:=ZaS (h:=Zb rfl (fun h2=>by simp at h2) (fun h2=>?_)))))))))))))))
 try simp only [sQ,ne_eq] at h2
 refine wSk (Za (xM (h:=xD (h:=xA (h:=Zc (Zc (Z2 (same _ _) mo kr ⟨rfl,rfl⟩ (fun _ _=>?_))))))))
 refine aM 0 rfl (h:=aM 1 rfl (h:=aIx 2 rfl Tryz.underlying57 ZcE (h:=aW 3 rfl ZdD (h:=aT 4 rfl (Zal fun D=>Zp rfl rfl lk9 rfl (hc3 _ 2 _ rfl) r4) (h:=aM 5 rfl (h:=aT 6 rfl (Zal fun D=>Zae rfl rfl Zii rfl (Z7 (((k+3*g)+1)+1) oz _) r4) (h:=?_)))))))
 refine ZeI 7 rfl (h:=ZB kr kr ?_)
 refine Zo (Zb rfl (fun h3=>by simp at h3) (fun h3=>?_))
 try simp only [sQ,ne_eq] at h3
 refine wSk (Zj (xM (h:=xD (h:=xA (h:=ZS (Zo (Zj (xM (h:=xD (h:=xA (h:=?_)))))))))))
 exact ZE (g+1) [] so2 ⟨rfl,oz⟩ t3 rfl
 try simp only [sQ,ne_eq] at g1
 refine ZD (ZW (ZG (Zs (Zo (Za (xM (h:=xA (h:=Ze ?_))))))))
 exact eR t1 ⟨ZJ (by rw [show g=n from by omega]),rfl,rfl⟩

theorem Zi5 (q:Option Addr) (cp:Nat) (xs:List DGrant) (k m n:Nat) (hmn:m=n) (he:xs=Zar k n) (hk:k+2*n≤900000000000000) (B:Kn) (hx0:SlK B q cp 2 ZZ xs):Zaa (pj J) 81 [.slice q m cp,.int .i64 k] B (.int .i64 ((k+2*n:Nat):Int)):=by
 refine cB 32 Tryz.func81 (h:=?_)
 have hxn:=hx0.len
 have hxl:xs.length=n:=by rw [he];exact Zan _ _
 refine Za (xA (h:=Zc (Za (xA (h:=Zh (Zx (α:=Nat) [0] (fun g=>[(1,.int .i64 ((k+2*g:Nat):Int)),(5,.int .i64 g)]) [] (fun g=>[]) (fun g Bx=>Bx=B∧g≤n) (fun g=>n - g) 0 t2 rfl (⟨rfl,Nat.zero_le _⟩) (fun g B1 hle1 hI=>?_)))))))
 obtain ⟨rfl,hi⟩:=hI
 refine ZC [(0,_),(1,_),(5,_)] [] t3 rfl (Zc (Za (xM (h:=xM (h:=xV Tryz.underlying54 (h:=ZF (h:=Zb rfl (fun g1=>?_) (fun g1=>?_))))))))
 try simp only [sQ,ne_eq] at g1
 have hx:xs[g]? = some (⟨ZO (k+2*g),((k+2*g+1:Nat):Int)⟩:DGrant):=by rw [he];exact ZiR oz
 refine wSk (Zc (Zh (Zc (Zc (Z2 (same _ _) mo kr ⟨rfl,rfl⟩ (fun _ _=>?_))))))
 refine aM 0 rfl (h:=aM 1 rfl (h:=?_))
 obtain ⟨bb2,oo2,rfl⟩:=hx0.base hx
 obtain ⟨_,⟨rfl,hb3⟩,hc3⟩:=hx0.elem hx
 refine aIx 2 rfl Tryz.underlying54 Zdu (h:=aW 3 rfl Zco (h:=aT 4 rfl (Zal fun D=>Zp rfl rfl lk9 rfl (hc3 _ 0 _ rfl) r4) (h:=aM 5 rfl (h:=aT 6 rfl (Zal fun D=>Zae rfl rfl Zii rfl (Z7 (k+2*g) oz _) r4) (h:=?_)))))
 refine ZeI 7 rfl (h:=ZB kr kr ?_)
 refine Zo (Zb rfl (fun h1=>by simp at h1) (fun h1=>?_))
 try simp only [sQ,ne_eq] at h1
 refine wSk (Za (xM (h:=xD (h:=xA (h:=Zc (Za (xM (h:=xM (h:=xIx Tryz.underlying54 Zdu (h:=xW ZdE (h:=y1 lk3 hc3 1 (h:=xM (h:=ZaS (h:=Zb rfl (fun h2=>by simp at h2) (fun h2=>?_)))))))))))))))
 try simp only [sQ,ne_eq] at h2
 refine wSk (Zj (xM (h:=xD (h:=xA (h:=ZS (Zo (Zj (xM (h:=xD (h:=xA (h:=?_)))))))))))
 exact ZE (g+1) [] so2 ⟨rfl,oz⟩ t3 rfl
 try simp only [sQ,ne_eq] at g1
 refine ZD (ZW (ZG (Zs (Zo (Za (xM (h:=xA (h:=Ze ?_))))))))
 exact eR t1 ⟨ZJ (by rw [show g=n from by omega]),rfl,rfl⟩

theorem Zkj (q:Option Addr) (cp:Nat) (xs:List DUser) (k m n:Nat) (hmn:m=n) (he:xs=Zb3 k n) (hk:k+3*n≤900000000000000) (B:Kn) (hx0:SlK B q cp 3 Zt xs):Zaa (pj J) 39 [.slice q m cp,.int .i64 k] B (.int .i64 ((k+3*n:Nat):Int)):=by
 refine cB 42 Tryz.func39 (h:=?_)
 have hxn:=hx0.len
 have hxl:xs.length=n:=by rw [he];exact Za9 _ _
 refine Za (xA (h:=Zc (Za (xA (h:=Zh (Zx (α:=Nat) [0] (fun g=>[(1,.int .i64 ((k+3*g:Nat):Int)),(5,.int .i64 g)]) [] (fun g=>[]) (fun g Bx=>Bx=B∧g≤n) (fun g=>n - g) 0 t2 rfl (⟨rfl,Nat.zero_le _⟩) (fun g B1 hle1 hI=>?_)))))))
 obtain ⟨rfl,hi⟩:=hI
 refine ZC [(0,_),(1,_),(5,_)] [] t3 rfl (Zc (Za (xM (h:=xM (h:=xV Tryz.underlying30 (h:=ZF (h:=Zb rfl (fun g1=>?_) (fun g1=>?_))))))))
 try simp only [sQ,ne_eq] at g1
 have hx:xs[g]? = some (⟨ZO (k+3*g),ZO (k+3*g+1),((k+3*g+1+1:Nat):Int)⟩:DUser):=by rw [he];exact ZjW oz
 refine wSk (Zc (Zh (Zc (Zc (Z2 (same _ _) mo kr ⟨rfl,rfl⟩ (fun _ _=>?_))))))
 refine aM 0 rfl (h:=aM 1 rfl (h:=?_))
 obtain ⟨bb2,oo2,rfl⟩:=hx0.base hx
 obtain ⟨_,⟨rfl,hb3,hb3b⟩,hc3⟩:=hx0.elem hx
 refine aIx 2 rfl Tryz.underlying30 ZdR (h:=aW 3 rfl ZbP (h:=aT 4 rfl (Zal fun D=>Zp rfl rfl lk9 rfl (hc3 _ 0 _ rfl) r4) (h:=aM 5 rfl (h:=aT 6 rfl (Zal fun D=>Zae rfl rfl Zii rfl (Z7 (k+3*g) oz _) r4) (h:=?_)))))
 refine ZeI 7 rfl (h:=ZB kr kr ?_)
 refine Zo (Zb rfl (fun h1=>by simp at h1) (fun h1=>?_))
 try simp only [sQ,ne_eq] at h1
 refine wSk (Za (xM (h:=xD (h:=xA (h:=Zc (Zc (Z2 (same _ _) mo kr ⟨rfl,rfl⟩ (fun _ _=>?_))))))))
 refine aM 0 rfl (h:=aM 1 rfl (h:=aIx 2 rfl Tryz.underlying30 ZdR (h:=aW 3 rfl ZgJ (h:=aT 4 rfl (Zal fun D=>Zp rfl rfl lk9 rfl (hc3 _ 1 _ rfl) r4) (h:=aM 5 rfl (h:=aT 6 rfl (Zal fun D=>Zae rfl rfl Zii rfl (Z7 ((k+3*g)+1) oz _) r4) (h:=?_)))))))
 refine ZeI 7 rfl (h:=ZB kr kr ?_)
 refine Zo (Zb rfl (fun h2=>by simp at h2) (fun h2=>?_))
 try simp only [sQ,ne_eq] at h2
 refine wSk (Za (xM (h:=xD (h:=xA (h:=Zc (Za (xM (h:=xM (h:=xIx Tryz.underlying30 ZdR (h:=xW ZeE (h:=y1 lk3 hc3 2 (h:=xM (h:=ZaS (h:=Zb rfl (fun h3=>by simp at h3) (fun h3=>?_)))))))))))))))
 try simp only [sQ,ne_eq] at h3
 refine wSk (Zj (xM (h:=xD (h:=xA (h:=ZS (Zo (Zj (xM (h:=xD (h:=xA (h:=?_)))))))))))
 exact ZE (g+1) [] so2 ⟨rfl,oz⟩ t3 rfl
 try simp only [sQ,ne_eq] at g1
 refine ZD (ZW (ZG (Zs (Zo (Za (xM (h:=xA (h:=Ze ?_))))))))
 exact eR t1 ⟨ZJ (by rw [show g=n from by omega]),rfl,rfl⟩

theorem ZlU (q:Option Addr) (cp:Nat) (xs:List Str) (k m n:Nat) (hmn:m=n) (he:xs=ZcL k n) (hk:k+1*n≤900000000000000) (B:Kn) (hx0:SlK B q cp 1 ZcT xs):Zaa (pj J) 121 [.slice q m cp,.int .i64 k] B (.int .i64 ((k+1*n:Nat):Int)):=by
 refine cB 22 Tryz.func121 (h:=?_)
 have hxn:=hx0.len
 have hxl:xs.length=n:=by rw [he];exact Za2 _ _
 refine Za (xA (h:=Zc (Za (xA (h:=Zh (Zx (α:=Nat) [0] (fun g=>[(1,.int .i64 ((k+1*g:Nat):Int)),(5,.int .i64 g)]) [] (fun g=>[]) (fun g Bx=>Bx=B∧g≤n) (fun g=>n - g) 0 t2 rfl (⟨rfl,Nat.zero_le _⟩) (fun g B1 hle1 hI=>?_)))))))
 obtain ⟨rfl,hi⟩:=hI
 refine ZC [(0,_),(1,_),(5,_)] [] t3 rfl (Zc (Za (xM (h:=xM (h:=xV Tryz.underlying99 (h:=ZF (h:=Zb rfl (fun g1=>?_) (fun g1=>?_))))))))
 try simp only [sQ,ne_eq] at g1
 have hx:xs[g]? = some (ZO (k+1*g):Str):=by rw [he];exact ZlK oz
 refine wSk (Zc (Zh (Zc (Zc (Z2 (same _ _) mo kr ⟨rfl,rfl⟩ (fun _ _=>?_))))))
 refine aM 0 rfl (h:=aM 1 rfl (h:=?_))
 obtain ⟨bb2,oo2,rfl⟩:=hx0.base hx
 obtain ⟨_,⟨rfl,hb3⟩,hc3⟩:=hx0.elem hx
 refine aIx 2 rfl Tryz.underlying99 sz9 (h:=aT 3 rfl (Zal fun D=>Zp rfl rfl lk9 rfl (hc3 _ 0 _ rfl) r4) (h:=aM 4 rfl (h:=aT 5 rfl (Zal fun D=>Zae rfl rfl Zii rfl (Z7 (k+1*g) oz _) r4) (h:=?_))))
 refine ZeI 6 rfl (h:=ZB kr kr ?_)
 refine Zo (Zb rfl (fun h1=>by simp at h1) (fun h1=>?_))
 try simp only [sQ,ne_eq] at h1
 refine wSk (Zj (xM (h:=xD (h:=xA (h:=ZS (Zo (Zj (xM (h:=xD (h:=xA (h:=?_)))))))))))
 exact ZE (g+1) [] so2 ⟨rfl,oz⟩ t3 rfl
 try simp only [sQ,ne_eq] at g1
 refine ZD (ZW (ZG (Zs (Zo (Za (xM (h:=xA (h:=Ze ?_))))))))
 exact eR t1 ⟨ZJ (by rw [show g=n from by omega]),rfl,rfl⟩

set_option maxHeartbeats 400000 in
theorem ZhU (q:Option Addr) (cp:Nat) (xs:List DFolder) (l:Cells) (k:Nat) (hk:kL Zbl k xs≤800000000000000) (hn:xs.length≤2000000) (B:Kn) (hv:ZaR l q cp 61 5 (Z4 109 164) xs):ZA (pj J) 37 [.slice q xs.length cp,.int .i64 k] B [l] (fun v B' Ls=>B'=B∧∃l',Ls=[l']∧v = .int .i64 ((kL Zbl k xs:Nat):Int)∧ZaR l' q cp 61 5 (Z4 109 164) (mkL Zbl mkF k xs)):=by
 refine ZgV 52 Tryz.func37 rfl rfl rfl (Nat.le_of_ble_eq_true rfl) ?_
 have hvc:=hv.cap
 refine Za ?_
 refine xA (h:=?_)
 refine Zc ?_
 refine Za ?_
 refine xA (h:=?_)
 refine Zh ?_
 refine Zx (α:=Nat × Nat × Cells × List DFolder) [4] (fun g=>[(0,.slice q xs.length cp),(1,.int .i64 ((g.2.1:Nat):Int)),(5,.int .i64 g.1)]) [0] (fun g=>[g.2.2.1]) (fun g Bx=>Bx=B∧g.1≤xs.length∧g.2.1=kL Zbl k (xs.take g.1)∧g.2.2.2.length=xs.length∧g.2.2.2.take g.1=mkL Zbl mkF k (xs.take g.1)∧g.2.2.2.drop g.1=xs.drop g.1∧ZaR g.2.2.1 q cp 61 5 (Z4 109 164) g.2.2.2) (fun g=>xs.length - g.1) (0,k,l,xs) t3 rfl (⟨rfl,Nat.zero_le _,Zk6.symm,rfl,rfl,rfl,hv⟩) (fun g B1 hle1 hI=>?_)
 obtain ⟨rfl,hi,hs,hle,ht,hd,hw⟩:=hI
 refine ZC [(0,_),(1,_),(4,_),(5,_)] [_] t4 rfl ?_
 refine Zc ?_
 refine Za ?_
 refine xM (h:=?_)
 refine xM (h:=?_)
 refine xV Tryz.underlying31 (h:=?_)
 refine ZF (h:=?_)
 refine Zb rfl (fun g1=>?_) (fun g1=>?_)
 try simp only [sQ,ne_eq] at g1
 obtain ⟨x,hx⟩:=ZX (xs:=xs) (i:=g.1) oz
 have hy:=(Zlf hd).trans hx
 have hkl:=Nat.le_trans (Zph (st:=Zbl) (k:=k) hx) hk
 rw [← hs] at hkl
 have hst:Zbl x=3+2*x.grants.length+3*x.mail.length:=rfl
 refine ZY ?_
 refine Zo ?_
 refine Zc ?_
 refine Zh ?_
 refine Za ?_
 refine xM (h:=?_)
 refine xM (h:=?_)
 refine xM (h:=?_)
 refine xR Zii rfl (Z7 (g.2.1) oz _) (h:=?_)
 obtain ⟨bb3,_,li3,lr3,hp3,⟨qg3,cg3,qm3,cm3,ia3,ib3,rfl,rfl,hg3,hm3,ho3,hn3,hx3,hy3⟩,hw3,hq3,hc3,hk3⟩:=hw.cell (B:=B1) (L:=[g.2.2.1]) hy 0 rfl
 refine xIp hp3 Tryz.underlying31 ZaW (h:=?_)
 refine xW Zcg (h:=?_)
 refine Zq (Zg8 (k:=g.1) (us:=[_]) ((⟨ZO (g.2.1),x.name,x.grants,x.next,x.mail⟩:DFolder)) 0 0 rfl hw hp3 hy rfl rfl sz9 rfl rfl rfl rfl (Nat.le_of_ble_eq_true rfl) (by rintro _ _ ⟨_,_,_,_,_,_,rfl,rfl,h1,h2,h3,h4,h5,h6⟩;exact ⟨_,_,_,_,_,_,rfl,rfl,h1,h2,show (ZO (g.2.1)).length≤2000000 from Nat.le_trans (ZbJ (k:=g.2.1) oz) (by decide),h4,h5,h6⟩) (fun l4 hv4=>?_))
 have hs4:=Zdy (z:=((⟨ZO (g.2.1),x.name,x.grants,x.next,x.mail⟩:DFolder))) hy
 refine Zmk [_] rfl ?_
 refine Za ?_
 refine xM (h:=?_)
 refine xD (h:=?_)
 refine xA (h:=?_)
 refine Za ?_
 refine xM (h:=?_)
 refine xM (h:=?_)
 refine xM (h:=?_)
 refine xR Zii rfl (Z7 ((g.2.1)+1) oz _) (h:=?_)
 obtain ⟨bb6,_,li6,lr6,hp6,⟨qg6,cg6,qm6,cm6,ia6,ib6,rfl,rfl,hg6,hm6,ho6,hn6,hx6,hy6⟩,hw6,hq6,hc6,hk6⟩:=hv4.cell (B:=B1) (L:=[l4]) hs4 0 rfl
 refine xIp hp6 Tryz.underlying31 ZaW (h:=?_)
 refine xW Zdh (h:=?_)
 refine Zq (Zg8 (k:=g.1) (us:=[_]) ((⟨ZO (g.2.1),ZO (g.2.1+1),x.grants,x.next,x.mail⟩:DFolder)) 1 0 rfl hv4 hp6 hs4 rfl rfl sz9 rfl rfl rfl rfl (Nat.le_of_ble_eq_true rfl) (by rintro _ _ ⟨_,_,_,_,_,_,rfl,rfl,h1,h2,h3,h4,h5,h6⟩;exact ⟨_,_,_,_,_,_,rfl,rfl,h1,h2,h3,show (ZO (g.2.1+1)).length≤2000000 from Nat.le_trans (ZbJ (k:=g.2.1+1) oz) (by decide),h5,h6⟩) (fun l7 hv7=>?_))
 rw [List.set_set] at hv7
 have hs7:=Zdy (z:=((⟨ZO (g.2.1),ZO (g.2.1+1),x.grants,x.next,x.mail⟩:DFolder))) hy
 refine Zmk [_] rfl ?_
 obtain ⟨bb8,_,li8,lr8,hp8,⟨qg8,cg8,qm8,cm8,ia8,ib8,rfl,rfl,hg8,hm8,ho8,hn8,hx8,hy8⟩,hw8,hq8,hc8,hk8⟩:=hv7.cell (B:=B1) (L:=[_]) hs7 0 rfl
 replace hc8:=fun m u h=>(hc8 m u h).perm (ZfB 0 rfl (ZoY hq8))
 refine Zgg 0 rfl (ZoY hq8) ?_
 refine Za ?_
 refine xM (h:=?_)
 refine xD (h:=?_)
 refine xA (h:=?_)
 refine Zmk [_,_,_] rfl ?_
 refine Za ?_
 refine xM (h:=?_)
 refine xM (h:=?_)
 refine xIp hp8 Tryz.underlying31 ZaW (h:=?_)
 refine xW Zd9 (h:=?_)
 refine Zq (Zp rfl rfl Zqg rfl (hc8 2 _ rfl) ?_)
 refine xM (h:=?_)
 refine Zq (ZdU [1] rfl rfl rfl rfl Zwj rfl (ZiT _ _ (((⟨ZO (g.2.1),ZO (g.2.1+1),x.grants,x.next,x.mail⟩:DFolder)).grants) _ (((g.2.1)+1)+1) oz oz _ (hg8.anyK ZZ.any)) ?_)
 rintro _ B9 _ hle9 ⟨rfl,l9,rfl,rfl,hs9⟩
 refine xA (h:=?_)
 refine Zmk [_,_,_] rfl ?_
 refine Zgj 0 2 rfl rfl (by decide) ?_
 refine Zgj 0 1 rfl rfl (by decide) ?_
 have hv10:=hk8 (⟨ZO (g.2.1),ZO (g.2.1+1),Zar (g.2.1+1+1) x.grants.length,x.next,x.mail⟩:DFolder) _ ⟨qg8,cg8,qm8,cm8,_,_,by simp only [Zan,Zat],rfl,hs9.anyK ZZ.any,hm8.anyK Z9.any,ho8,hn8,by first | assumption | (rw [Zan];assumption),by first | assumption | (rw [Zat];assumption)⟩
 rw [List.append_assoc,List.set_set] at hv10
 have hs10:=Zdy (z:=((⟨ZO (g.2.1),ZO (g.2.1+1),Zar (g.2.1+1+1) x.grants.length,x.next,x.mail⟩:DFolder))) hy
 refine Zlp [0] rfl ?_
 refine Za ?_
 refine xM (h:=?_)
 refine xM (h:=?_)
 refine xM (h:=?_)
 obtain ⟨bb11,_,li11,lr11,hp11,⟨qg11,cg11,qm11,cm11,ia11,ib11,rfl,rfl,hg11,hm11,ho11,hn11,hx11,hy11⟩,hw11,hq11,hc11,hk11⟩:=hv10.cell (B:=B9) (L:=[_]) hs10 0 rfl
 refine xIp hp11 Tryz.underlying31 ZaW (h:=?_)
 refine xW ZcO (h:=?_)
 refine xW Zfm (h:=?_)
 refine Zq (Zg8 (k:=g.1) (us:=[_]) ((⟨ZO (g.2.1),ZO (g.2.1+1),Zar (g.2.1+1+1) x.grants.length,((g.2.1+1+1+2*x.grants.length:Nat):Int),x.mail⟩:DFolder)) 3 0 rfl hv10 hp11 hs10 rfl rfl sz3 rfl rfl rfl rfl (Nat.le_of_ble_eq_true rfl) (by rintro _ _ ⟨_,_,_,_,_,_,rfl,rfl,h1,h2,h3,h4,h5,h6⟩;exact ⟨_,_,_,_,_,_,rfl,rfl,h1,h2,h3,h4,h5,h6⟩) (fun l12 hv12=>?_))
 rw [List.set_set] at hv12
 have hs12:=Zdy (z:=((⟨ZO (g.2.1),ZO (g.2.1+1),Zar (g.2.1+1+1) x.grants.length,((g.2.1+1+1+2*x.grants.length:Nat):Int),x.mail⟩:DFolder))) hy
 refine Zmk [_] rfl ?_
 obtain ⟨bb13,_,li13,lr13,hp13,⟨qg13,cg13,qm13,cm13,ia13,ib13,rfl,rfl,hg13,hm13,ho13,hn13,hx13,hy13⟩,hw13,hq13,hc13,hk13⟩:=hv12.cell (B:=B9) (L:=[_]) hs12 0 rfl
 replace hc13:=fun m u h=>(hc13 m u h).perm (ZfB 0 rfl (ZoY hq13))
 refine Zgg 0 rfl (ZoY hq13) ?_
 refine Za ?_
 refine xM (h:=?_)
 refine xD (h:=?_)
 refine xA (h:=?_)
 refine Zmk [_,_,_] rfl ?_
 refine Zj ?_
 refine xM (h:=?_)
 refine xM (h:=?_)
 refine xIp hp13 Tryz.underlying31 ZaW (h:=?_)
 refine xW ZcO (h:=?_)
 refine xW ZbS (h:=?_)
 refine Zq (Zp rfl rfl Zjy rfl (hc13 4 _ rfl) ?_)
 refine xM (h:=?_)
 refine Zq (ZdU [2] rfl rfl rfl rfl Zwi rfl (Zj3 _ _ (((⟨ZO (g.2.1),ZO (g.2.1+1),Zar (g.2.1+1+1) x.grants.length,((g.2.1+1+1+2*x.grants.length:Nat):Int),x.mail⟩:DFolder)).mail) _ (((((g.2.1)+1)+1)+2*(((⟨ZO (g.2.1),ZO (g.2.1+1),x.grants,x.next,x.mail⟩:DFolder)).grants).length)+1) oz oz _ (hm13.anyK Z9.any)) ?_)
 rintro _ B14 _ hle14 ⟨rfl,l14,rfl,rfl,hs14⟩
 refine xA (h:=?_)
 refine ZS (Zo ?_)
 refine Zgj 0 2 rfl rfl (by decide) ?_
 refine Zgj 0 1 rfl rfl (by decide) ?_
 have hv15:=hk13 (⟨ZO (g.2.1),ZO (g.2.1+1),Zar (g.2.1+1+1) x.grants.length,((g.2.1+1+1+2*x.grants.length:Nat):Int),Zbu (g.2.1+1+1+2*x.grants.length+1) x.mail.length⟩:DFolder) _ ⟨qg13,cg13,qm13,cm13,_,_,by simp only [Zan,Zat],rfl,hg13.anyK ZZ.any,hs14.anyK Z9.any,ho13,hn13,by first | assumption | (rw [Zan];assumption),by first | assumption | (rw [Zat];assumption)⟩
 rw [List.append_assoc,List.set_set] at hv15
 have hs15:=Zdy (z:=((⟨ZO (g.2.1),ZO (g.2.1+1),Zar (g.2.1+1+1) x.grants.length,((g.2.1+1+1+2*x.grants.length:Nat):Int),Zbu (g.2.1+1+1+2*x.grants.length+1) x.mail.length⟩:DFolder))) hy
 refine Zlp [0] rfl ?_
 refine Zj ?_
 refine xM (h:=?_)
 refine xD (h:=?_)
 refine xA (h:=?_)
 exact ZE (g.1+1,g.2.1+1+1+2*x.grants.length+1+3*x.mail.length,_,(g.2.2.2.set g.1 ((⟨ZO (g.2.1),ZO (g.2.1+1),Zar (g.2.1+1+1) x.grants.length,((g.2.1+1+1+2*x.grants.length:Nat):Int),Zbu (g.2.1+1+1+2*x.grants.length+1) x.mail.length⟩:DFolder)))) [0] so2 ⟨rfl,so,by simp only [];rw [Zgz hx,← hs,hst];omega,ZkM hle,ZiQ ht hx hle hs,Zle hd,hv15⟩ t4 rfl
 try simp only [sQ,ne_eq] at g1
 have he:=Znk ht hle oz
 have hgi:g.1=xs.length:=by omega
 refine ZD (ZW (ZG (Zs (Zo ?_))))
 refine Za ?_
 refine xM (h:=?_)
 refine xA (h:=?_)
 refine Ze ?_
 exact Zes .ret (.inl rfl) [_] [0] rfl t1 ⟨rfl,_,rfl,by rw [hs,Zk7 oz];rfl,by rw [← he];exact hw⟩

theorem Zj4 (q:Option Addr) (cp:Nat) (xs:List DItem) (l:Cells) (k:Nat) (hk:kL ZbD k xs≤800000000000000) (hn:xs.length≤2000000) (B:Kn) (hv:ZaR l q cp 101 4 (Za4 9) xs):ZA (pj J) 80 [.slice q xs.length cp,.int .i64 k] B [l] (fun v B' Ls=>B'=B∧∃l',Ls=[l']∧v = .int .i64 ((kL ZbD k xs:Nat):Int)∧ZaR l' q cp 101 4 (Za4 9) (mkL ZbD mkI k xs)):=by
 refine cB 43 Tryz.func80 (h:=?_)
 have hvc:=hv.cap
 refine Za (xA (h:=Zc (Za (xA (h:=Zh (Zx (α:=Nat × Nat × Cells × List DItem) [4] (fun g=>[(0,.slice q xs.length cp),(1,.int .i64 ((g.2.1:Nat):Int)),(5,.int .i64 g.1)]) [0] (fun g=>[g.2.2.1]) (fun g Bx=>Bx=B∧g.1≤xs.length∧g.2.1=kL ZbD k (xs.take g.1)∧g.2.2.2.length=xs.length∧g.2.2.2.take g.1=mkL ZbD mkI k (xs.take g.1)∧g.2.2.2.drop g.1=xs.drop g.1∧ZaR g.2.2.1 q cp 101 4 (Za4 9) g.2.2.2) (fun g=>xs.length - g.1) (0,k,l,xs) t3 rfl (⟨rfl,Nat.zero_le _,Zk6.symm,rfl,rfl,rfl,hv⟩) (fun g B1 hle1 hI=>?_)))))))
 obtain ⟨rfl,hi,hs,hle,ht,hd,hw⟩:=hI
 refine ZC [(0,_),(1,_),(4,_),(5,_)] [_] t4 rfl (Zc (Za (xM (h:=xM (h:=xV Tryz.underlying32 (h:=ZF (h:=Zb rfl (fun g1=>?_) (fun g1=>?_))))))))
 try simp only [sQ,ne_eq] at g1
 obtain ⟨x,hx⟩:=ZX (xs:=xs) (i:=g.1) oz
 have hy:=(Zlf hd).trans hx
 have hkl:=Nat.le_trans (Zph (st:=ZbD) (k:=k) hx) hk
 rw [← hs] at hkl
 have hst:ZbD x=3+x.left.length:=rfl
 refine wSk (Zc (Zh (Za (xM (h:=xM (h:=xM (h:=?_)))))))
 obtain ⟨bb2,_,li2,lr2,hp2,⟨qg2,cg2,rfl,hg2,ho2,hn2,hx2⟩,hw2,hq2,hc2,hk2⟩:=hw.cell (B:=B1) (L:=[g.2.2.1]) hy 0 rfl
 refine xIp hp2 Tryz.underlying32 Zbd (h:=xW ZdG (h:=Zq (Zg8 (k:=g.1) (us:=[_]) ((⟨((g.2.1:Nat):Int),x.fr,x.text,x.left⟩:DItem)) 0 0 rfl hw hp2 hy rfl rfl sz3 rfl rfl rfl rfl (Nat.le_of_ble_eq_true rfl) (by rintro _ _ ⟨_,_,rfl,h1,h2,h3,h4⟩;exact ⟨_,_,rfl,h1,h2,h3,h4⟩) (fun l3 hv3=>?_))))
 have hs3:=Zdy (z:=((⟨((g.2.1:Nat):Int),x.fr,x.text,x.left⟩:DItem))) hy
 refine tL1 (Za (xM (h:=xD (h:=xA (h:=Za (xM (h:=xM (h:=xM (h:=xR Zii rfl (Z7 ((g.2.1)+1) oz _) (h:=?_))))))))))
 obtain ⟨bb5,_,li5,lr5,hp5,⟨qg5,cg5,rfl,hg5,ho5,hn5,hx5⟩,hw5,hq5,hc5,hk5⟩:=hv3.cell (B:=B1) (L:=[l3]) hs3 0 rfl
 refine xIp hp5 Tryz.underlying32 Zbd (h:=xW ZdF (h:=Zq (Zg8 (k:=g.1) (us:=[_]) ((⟨((g.2.1:Nat):Int),ZO (g.2.1+1),x.text,x.left⟩:DItem)) 1 0 rfl hv3 hp5 hs3 rfl rfl sz9 rfl rfl rfl rfl (Nat.le_of_ble_eq_true rfl) (by rintro _ _ ⟨_,_,rfl,h1,h2,h3,h4⟩;exact ⟨_,_,rfl,h1,show (ZO (g.2.1+1)).length≤2000000 from Nat.le_trans (ZbJ (k:=g.2.1+1) oz) (by decide),h3,h4⟩) (fun l6 hv6=>?_))))
 rw [List.set_set] at hv6
 have hs6:=Zdy (z:=((⟨((g.2.1:Nat):Int),ZO (g.2.1+1),x.text,x.left⟩:DItem))) hy
 refine tL1 (Za (xM (h:=xD (h:=xA (h:=Za (xM (h:=xM (h:=xM (h:=xR Zii rfl (Z7 (((g.2.1)+1)+1) oz _) (h:=?_))))))))))
 obtain ⟨bb8,_,li8,lr8,hp8,⟨qg8,cg8,rfl,hg8,ho8,hn8,hx8⟩,hw8,hq8,hc8,hk8⟩:=hv6.cell (B:=B1) (L:=[l6]) hs6 0 rfl
 refine xIp hp8 Tryz.underlying32 Zbd (h:=xW ZeX (h:=Zq (Zg8 (k:=g.1) (us:=[_]) ((⟨((g.2.1:Nat):Int),ZO (g.2.1+1),ZO (g.2.1+1+1),x.left⟩:DItem)) 2 0 rfl hv6 hp8 hs6 rfl rfl sz9 rfl rfl rfl rfl (Nat.le_of_ble_eq_true rfl) (by rintro _ _ ⟨_,_,rfl,h1,h2,h3,h4⟩;exact ⟨_,_,rfl,h1,h2,show (ZO (g.2.1+1+1)).length≤2000000 from Nat.le_trans (ZbJ (k:=g.2.1+1+1) oz) (by decide),h4⟩) (fun l9 hv9=>?_))))
 rw [List.set_set] at hv9
 have hs9:=Zdy (z:=((⟨((g.2.1:Nat):Int),ZO (g.2.1+1),ZO (g.2.1+1+1),x.left⟩:DItem))) hy
 refine tL1 ?_
 obtain ⟨bb10,_,li10,lr10,hp10,⟨qg10,cg10,rfl,hg10,ho10,hn10,hx10⟩,hw10,hq10,hc10,hk10⟩:=hv9.cell (B:=B1) (L:=[_]) hs9 0 rfl
 replace hc10:=fun m u h=>(hc10 m u h).perm (ZfB 0 rfl (ZsF hq10))
 refine Zgg 0 rfl (ZsF hq10) ?_
 refine Za ?_
 refine Zq (Zgi rfl rfl rfl ?_)
 refine Zq (Zfw rfl rfl rfl rfl (by first | exact ZbQ (by first | omega | (simp;done) | (simp;omega)) (by first | omega | (simp;done) | (simp;omega)) | rfl) ?_)
 refine Zq (Zcr rfl rfl rfl ?_)
 refine Zmk [_,_] rfl ?_
 refine Zj ?_
 refine Zq (Zgi rfl rfl rfl ?_)
 refine Zq (Zgi rfl rfl rfl ?_)
 refine Zq (ZjC hp10 rfl rfl Tryz.underlying32 Zbd rfl rfl (by first | omega | (simp;done) | (simp;omega)) (by first | omega | (simp;done) | (simp;omega)) ?_)
 refine Zq (ZeL rfl rfl Zb5 rfl ?_)
 refine Zq (Zp rfl rfl Zj6 rfl (hc10 3 _ rfl) ?_)
 refine Zq (Zgi rfl rfl rfl ?_)
 refine Zq (ZdU [1] rfl rfl rfl rfl Zu5 rfl (ZhT _ _ (((⟨((g.2.1:Nat):Int),ZO (g.2.1+1),ZO (g.2.1+1+1),x.left⟩:DItem)).left) _ ((((g.2.1)+1)+1)+1) (by omega) (by omega) _ (hg10.anyK ZcT.any)) ?_)
 rintro _ B11 _ hle11 ⟨rfl,l11,rfl,rfl,hs11⟩
 refine xA (h:=ZS (Zo (Zgj 0 1 rfl rfl (by decide) ?_)))
 have hv12:=hk10 (⟨((g.2.1:Nat):Int),ZO (g.2.1+1),ZO (g.2.1+1+1),ZcL (g.2.1+1+1+1) x.left.length⟩:DItem) _ ⟨qg10,cg10,by simp only [Za2],hs11.anyK ZcT.any,ho10,hn10,by first | assumption | (rw [Za2];assumption)⟩
 rw [List.set_set] at hv12
 have hs12:=Zdy (z:=((⟨((g.2.1:Nat):Int),ZO (g.2.1+1),ZO (g.2.1+1+1),ZcL (g.2.1+1+1+1) x.left.length⟩:DItem))) hy
 refine Zlp [0] rfl (Zj (xM (h:=xD (h:=xA (h:=?_)))))
 exact ZE (g.1+1,g.2.1+1+1+1+1*x.left.length,_,(g.2.2.2.set g.1 ((⟨((g.2.1:Nat):Int),ZO (g.2.1+1),ZO (g.2.1+1+1),ZcL (g.2.1+1+1+1) x.left.length⟩:DItem)))) [0] so2 ⟨rfl,so,by simp only [];rw [Zgz hx,← hs,hst];omega,ZkM hle,ZiQ ht hx hle hs,Zle hd,hv12⟩ t4 rfl
 try simp only [sQ,ne_eq] at g1
 have he:=Znk ht hle oz
 refine ZD (ZW (ZG (Zs (Zo (Za (xM (h:=xA (h:=Ze ?_))))))))
 exact Zes .ret (.inl rfl) [_] [0] rfl ⟨rfl,trivial⟩ ⟨rfl,_,rfl,by rw [hs,Zk7 (by omega)];rfl,by rw [← he];exact hw⟩

theorem Zj2 (q1:Option Addr) (c1:Nat) (x:DQueue) (l1:Cells) (k:Nat) (hk:kL ZbD k x.items≤800000000000000) (hn:x.items.length≤2000000) (B:Kn) (hv:ZaR l1 q1 c1 101 4 (Za4 9) x.items):ZA (pj J) 38 [.agg #[.int .i64 x.next,.slice q1 x.items.length c1],.int .i64 k] B [l1] (fun v B' Ls=>B'=B∧∃l',Ls=[l']∧v = .int .i64 ((kL ZbD k x.items:Nat):Int)∧ZaR l' q1 c1 101 4 (Za4 9) (mkL ZbD mkI k x.items)):=by
 refine cB 10 Tryz.func38 (h:=?_)
 refine Za (xBx [_,_] (h:=fun b1=>xA (h:=tL2 (Za (xW Zbp (h:=x1 Zhm 1 (h:=xM (h:=xK [0] rfl Zwh rfl (Zj4 _ _ x.items _ k oa oz _ hv) (h:=?_)))))))))
 rintro _ B2 _ hle2 ⟨rfl,l2,rfl,rfl,hs2⟩
 refine xA (h:=tL2 (Za (xM (h:=xA (h:=Ze ?_)))))
 exact eN [0] rfl t1 ⟨rfl,_,rfl,rfl,hs2⟩

theorem Zhk (q1 q2 q3:Option Addr) (c1 c2 c3:Nat) (x:DHost) (l1 l2 l3:Cells) (k:Nat) (hk:kH k x≤800000000000000) (hn1:x.users.length≤2000000) (hn2:x.folders.length≤2000000) (hn3:x.queue.items.length≤2000000) (B:Kn) (hu:ZU Kn.none l1 q1 c1 97 3 Zt x.users) (hf:ZaR l2 q2 c2 61 5 (Z4 109 164) x.folders) (hi:ZaR l3 q3 c3 101 4 (Za4 9) x.queue.items):ZA (pj J) 10 [.agg #[str x.domain,.slice q1 x.users.length c1,.slice q2 x.folders.length c2,.int .i64 x.queue.next,.slice q3 x.queue.items.length c3],.int .i64 k] B [l1,l2,l3] (fun v B' Ls=>B'=B∧∃l1' l2' l3',Ls=[l1',l2',l3']∧v = .int .i64 ((kH k x:Nat):Int)∧ZU Kn.none l1' q1 c1 97 3 Zt (Zb3 k x.users.length)∧ZaR l2' q2 c2 61 5 (Z4 109 164) (mkL Zbl mkF (k+3*x.users.length) x.folders)∧ZaR l3' q3 c3 101 4 (Za4 9) (mkL ZbD mkI (kL Zbl (k+3*x.users.length) x.folders) x.queue.items)):=by
 refine cB 18 Tryz.func10 (h:=?_)
 have hk3:kL ZbD (kL Zbl (k+3*x.users.length) x.folders) x.queue.items≤800000000000000:=hk
 have hk2:(kL Zbl (k+3*x.users.length) x.folders)≤800000000000000:=Nat.le_trans Zpg hk3
 have hk1:(k+3*x.users.length)≤800000000000000:=Nat.le_trans Zpg hk2
 refine Za (xBx [_,_,_,_,_] (h:=fun b1=>xA (h:=tL4 (Za (xW ZbB (h:=x1 ZhV 3 (h:=xM (h:=xK [0] rfl ZwN rfl (Zj1 _ _ x.users _ k oz oz _ (hu.anyK Zt.any)) (h:=?_)))))))))
 rintro _ B2 _ hle2 ⟨rfl,l2,rfl,rfl,hs2⟩
 refine xA (h:=tL4 (Za (xW Z3 (h:=x1 ZdN 3 (h:=xM (h:=xK [1] rfl ZwM rfl (ZhU _ _ x.folders _ (k+3*x.users.length) oa oz _ hf) (h:=?_)))))))
 rintro _ B3 _ hle3 ⟨rfl,l3,rfl,rfl,hs3⟩
 refine xA (h:=tL4 (Za (xW ZdL (h:=xL [_,_] Zjz 3 (h:=xM (h:=xK [2] rfl ZwL rfl (Zj2 _ _ x.queue _ (kL Zbl (k+3*x.users.length) x.folders) oa oz _ hi) (h:=?_)))))))
 rintro _ B4 _ hle4 ⟨rfl,l4a,rfl,rfl,hs4a⟩
 refine xA (h:=tL4 (Za (xM (h:=xA (h:=Ze ?_)))))
 exact eN [0,1,2] rfl t1 ⟨rfl,_,_,_,rfl,rfl,hs2.anyK Zt.any,hs3,hs4a⟩

theorem Zh4 (q:Option Addr) (cp:Nat) (xs:List DFolder) (k m:Nat) (hmn:m=xs.length) (hk:kL Zbl k xs≤800000000000000) (B:Kn) (hx0:SlK B q cp 5 Zn (mkL Zbl mkF k xs)):Zaa (pj J) 40 [.slice q m cp,.int .i64 k] B (.int .i64 ((kL Zbl k xs:Nat):Int)):=by
 refine cB 62 Tryz.func40 (h:=?_)
 have hxn:=hx0.len
 have hml:=ZdB (st:=Zbl) (mk:=mkF) (xs:=xs) k
 refine Za (xA (h:=Zc (Za (xA (h:=Zh (Zx (α:=Nat × Nat) [0] (fun g=>[(1,.int .i64 g.2),(5,.int .i64 g.1)]) [] (fun g=>[]) (fun g Bx=>Bx=B∧g.1≤xs.length∧g.2=kL Zbl k (xs.take g.1)) (fun g=>xs.length - g.1) (0,k) t2 rfl (⟨rfl,Nat.zero_le _,Zk6.symm⟩) (fun g B1 hle1 hI=>?_)))))))
 obtain ⟨rfl,hi,hs⟩:=hI
 refine ZC [(0,_),(1,_),(5,_)] [] t3 rfl (Zc (Za (xM (h:=xM (h:=xV Tryz.underlying31 (h:=ZF (h:=Zb rfl (fun g1=>?_) (fun g1=>?_))))))))
 try simp only [sQ,ne_eq] at g1
 obtain ⟨x,hx⟩:=ZX (xs:=xs) (i:=g.1) oz
 have hkl:=Nat.le_trans (Zph (st:=Zbl) (k:=k) hx) hk
 rw [← hs] at hkl
 have hst:Zbl x=3+2*x.grants.length+3*x.mail.length:=rfl
 have hz:(mkL Zbl mkF k xs)[g.1]? = some (mkF g.2 x):=by rw [hs];exact ZjZ k hx
 refine wSk (Zc (Zh (Zc (Zc (Z2 (same _ _) mo kr ⟨rfl,rfl⟩ (fun _ _=>?_))))))
 refine aM 0 rfl (h:=aM 1 rfl (h:=?_))
 obtain ⟨bb2,oo2,rfl⟩:=hx0.base hz
 obtain ⟨_,⟨qg3,cg3,qm3,cm3,rfl,hg3,hm3,hb3,hb3b⟩,hc3⟩:=hx0.elem hz
 have hg3n:=hg3.len
 have hm3n:=hm3.len
 have hm3s:=Zau hm3
 refine aIx 2 rfl Tryz.underlying31 ZaW (h:=aW 3 rfl Zcg (h:=aT 4 rfl (Zal fun D=>Zp rfl rfl lk9 rfl (hc3 _ 0 _ rfl) r4) (h:=aM 5 rfl (h:=aT 6 rfl (Zal fun D=>Zae rfl rfl Zii rfl (Z7 g.2 oz _) r4) (h:=?_)))))
 refine ZeI 7 rfl (h:=ZB kr kr ?_)
 refine Zo (Zb rfl (fun h1=>by simp [mkF] at h1) (fun h1=>?_))
 try simp only [sQ,ne_eq] at h1
 refine wSk (Za (xM (h:=xD (h:=xA (h:=Zc (Zc (Z2 (same _ _) mo kr ⟨rfl,rfl⟩ (fun _ _=>?_))))))))
 refine aM 0 rfl (h:=aM 1 rfl (h:=aIx 2 rfl Tryz.underlying31 ZaW (h:=aW 3 rfl Zdh (h:=aT 4 rfl (Zal fun D=>Zp rfl rfl lk9 rfl (hc3 _ 1 _ rfl) r4) (h:=aM 5 rfl (h:=aT 6 rfl (Zal fun D=>Zae rfl rfl Zii rfl (Z7 (g.2+1) oz _) r4) (h:=?_)))))))
 refine ZeI 7 rfl (h:=ZB kr kr ?_)
 refine Zo (Zb rfl (fun h2=>by simp [mkF] at h2) (fun h2=>?_))
 try simp only [sQ,ne_eq] at h2
 refine wSk (Za (xM (h:=xD (h:=xA (h:=Za (xM (h:=xM (h:=xIx Tryz.underlying31 ZaW (h:=xW Zd9 (h:=y1 Zqg hc3 2 (h:=xM (h:=xR Zwg rfl (Zi5 _ _ _ ((g.2+1)+1) _ x.grants.length (by first | rfl | exact Zan _ _) rfl oz _ hg3) (h:=?_)))))))))))))
 refine xA (h:=Zc (Za (xM (h:=ZF (h:=Zb rfl (fun h3=>by first | omega | (simp at h3;done) | (simp at h3;omega)) (fun h3=>?_))))))
 try simp only [sQ,ne_eq] at h3
 refine wSk (Zc (Za (xM (h:=xM (h:=xIx Tryz.underlying31 ZaW (h:=xW ZcO (h:=xW Zfm (h:=y1 lk3 hc3 3 (h:=xM (h:=ZaS (h:=Zb rfl (fun h4=>by simp [mkF] at h4) (fun h4=>?_))))))))))))
 try simp only [sQ,ne_eq] at h4
 refine wSk (Za (xM (h:=xD (h:=xA (h:=Za (xM (h:=xM (h:=xIx Tryz.underlying31 ZaW (h:=xW ZcO (h:=xW ZbS (h:=y1 Zjy hc3 4 (h:=xM (h:=xR Zwf rfl (Zkl _ _ _ ((((g.2+1)+1)+2*x.grants.length)+1) _ x.mail.length (by first | rfl | exact Zat _ _) rfl oz _ hm3) (h:=?_))))))))))))))
 refine xA (h:=Za (xM (h:=ZF (h:=Zb rfl (fun h5=>by first | omega | (simp at h5;done) | (simp at h5;omega)) (fun h5=>?_)))))
 try simp only [sQ,ne_eq] at h5
 refine ZY (ZS (Zo (Zj (xM (h:=xD (h:=xA (h:=?_)))))))
 exact ZE (g.1+1,g.2+1+1+2*x.grants.length+1+3*x.mail.length) [] so2 ⟨rfl,so,by simp only [];rw [Zgz hx,← hs,hst];omega⟩ t3 rfl
 try simp only [sQ,ne_eq] at g1
 refine ZD (ZW (ZG (Zs (Zo (Za (xM (h:=xA (h:=Ze ?_))))))))
 exact eR t1 ⟨ZJ (by rw [hs,Zk7 oz]),rfl,rfl⟩

theorem Zkm (q:Option Addr) (cp:Nat) (xs:List DItem) (k m:Nat) (hmn:m=xs.length) (hk:kL ZbD k xs≤800000000000000) (B:Kn) (hx0:SlK B q cp 4 ZI (mkL ZbD mkI k xs)):Zaa (pj J) 83 [.slice q m cp,.int .i64 k] B (.int .i64 ((kL ZbD k xs:Nat):Int)):=by
 refine cB 51 Tryz.func83 (h:=?_)
 have hxn:=hx0.len
 have hml:=ZdB (st:=ZbD) (mk:=mkI) (xs:=xs) k
 refine Za (xA (h:=Zc (Za (xA (h:=Zh (Zx (α:=Nat × Nat) [0] (fun g=>[(1,.int .i64 g.2),(5,.int .i64 g.1)]) [] (fun g=>[]) (fun g Bx=>Bx=B∧g.1≤xs.length∧g.2=kL ZbD k (xs.take g.1)) (fun g=>xs.length - g.1) (0,k) t2 rfl (⟨rfl,Nat.zero_le _,Zk6.symm⟩) (fun g B1 hle1 hI=>?_)))))))
 obtain ⟨rfl,hi,hs⟩:=hI
 refine ZC [(0,_),(1,_),(5,_)] [] t3 rfl (Zc (Za (xM (h:=xM (h:=xV Tryz.underlying32 (h:=ZF (h:=Zb rfl (fun g1=>?_) (fun g1=>?_))))))))
 try simp only [sQ,ne_eq] at g1
 obtain ⟨x,hx⟩:=ZX (xs:=xs) (i:=g.1) oz
 have hkl:=Nat.le_trans (Zph (st:=ZbD) (k:=k) hx) hk
 rw [← hs] at hkl
 have hst:ZbD x=3+x.left.length:=rfl
 have hz:(mkL ZbD mkI k xs)[g.1]? = some (mkI g.2 x):=by rw [hs];exact ZjZ k hx
 refine wSk (Zc (Zh (Zc (Za (xM (h:=xM (h:=?_)))))))
 obtain ⟨bb2,oo2,rfl⟩:=hx0.base hz
 obtain ⟨_,⟨qi3,ci3,rfl,hi3,hb3,hb3b⟩,hc3⟩:=hx0.elem hz
 have hi3n:=hi3.len
 refine xIx Tryz.underlying32 Zbd (h:=xW ZdG (h:=y1 lk3 hc3 0 (h:=xM (h:=ZaS (h:=Zb rfl (fun h1=>by simp [mkI] at h1) (fun h1=>?_))))))
 try simp only [sQ,ne_eq] at h1
 refine wSk (Za (xM (h:=xD (h:=xA (h:=Zc (Zc (Z2 (same _ _) mo kr ⟨rfl,rfl⟩ (fun _ _=>?_))))))))
 refine aM 0 rfl (h:=aM 1 rfl (h:=aIx 2 rfl Tryz.underlying32 Zbd (h:=aW 3 rfl ZdF (h:=aT 4 rfl (Zal fun D=>Zp rfl rfl lk9 rfl (hc3 _ 1 _ rfl) r4) (h:=aM 5 rfl (h:=aT 6 rfl (Zal fun D=>Zae rfl rfl Zii rfl (Z7 (g.2+1) oz _) r4) (h:=?_)))))))
 refine ZeI 7 rfl (h:=ZB kr kr ?_)
 refine Zo (Zb rfl (fun h2=>by simp [mkI] at h2) (fun h2=>?_))
 try simp only [sQ,ne_eq] at h2
 refine wSk (Za (xM (h:=xD (h:=xA (h:=Zc (Zc (Z2 (same _ _) mo kr ⟨rfl,rfl⟩ (fun _ _=>?_))))))))
 refine aM 0 rfl (h:=aM 1 rfl (h:=aIx 2 rfl Tryz.underlying32 Zbd (h:=aW 3 rfl ZeX (h:=aT 4 rfl (Zal fun D=>Zp rfl rfl lk9 rfl (hc3 _ 2 _ rfl) r4) (h:=aM 5 rfl (h:=aT 6 rfl (Zal fun D=>Zae rfl rfl Zii rfl (Z7 ((g.2+1)+1) oz _) r4) (h:=?_)))))))
 refine ZeI 7 rfl (h:=ZB kr kr ?_)
 refine Zo (Zb rfl (fun h3=>by simp [mkI] at h3) (fun h3=>?_))
 try simp only [sQ,ne_eq] at h3
 refine wSk (Za (xM (h:=xD (h:=xA (h:=Za (xM (h:=xM (h:=xIx Tryz.underlying32 Zbd (h:=xW Zb5 (h:=y1 Zj6 hc3 3 (h:=xM (h:=xR Zu4 rfl (ZlU _ _ _ (((g.2+1)+1)+1) _ x.left.length (by first | rfl | exact Za2 _ _) rfl oz _ hi3) (h:=?_)))))))))))))
 refine xA (h:=Za (xM (h:=ZF (h:=Zb rfl (fun h4=>by first | omega | (simp at h4;done) | (simp at h4;omega)) (fun h4=>?_)))))
 try simp only [sQ,ne_eq] at h4
 refine ZY (ZS (Zo (Zj (xM (h:=xD (h:=xA (h:=?_)))))))
 exact ZE (g.1+1,g.2+1+1+1+1*x.left.length) [] so2 ⟨rfl,so,by simp only [];rw [Zgz hx,← hs,hst];omega⟩ t3 rfl
 try simp only [sQ,ne_eq] at g1
 refine ZD (ZW (ZG (Zs (Zo (Za (xM (h:=xA (h:=Ze ?_))))))))
 exact eR t1 ⟨ZJ (by rw [hs,Zk7 oz]),rfl,rfl⟩

theorem Zkk (q:Option Addr) (cp:Nat) (x:DQueue) (k:Nat) (hk:kL ZbD k x.items≤800000000000000) (B:Kn) (hi:SlK B q cp 4 ZI (mkL ZbD mkI k x.items)):Zaa (pj J) 41 [.agg #[.int .i64 x.next,.slice q x.items.length cp],.int .i64 k] B (.int .i64 ((kL ZbD k x.items:Nat):Int)):=by
 refine cB 12 Tryz.func41 (h:=?_)
 refine Za (xBx [_,_] (h:=fun b1=>xA (h:=tL1 (Za (xW Zbp (h:=x1 Zhm 0 (h:=xM (h:=xR Zwe rfl (Zkm _ _ x.items k _ rfl oa _ hi) (h:=?_)))))))))
 refine xA (h:=Zc (Za (xM (h:=ZF (h:=Zb rfl (fun h1=>by first | omega | (simp at h1;done) | (simp at h1;omega)) (fun h1=>?_))))))
 refine wSk (Za (xM (h:=xA (h:=Ze ?_))))
 exact eR t1 ⟨rfl,rfl,rfl⟩

theorem Zhq (q1 q2 q3:Option Addr) (c1 c2 c3:Nat) (x:DHost) (k:Nat) (hk:kH k x≤800000000000000) (B:Kn) (hu:SlK B q1 c1 3 Zt (Zb3 k x.users.length)) (hf:SlK B q2 c2 5 Zn (mkL Zbl mkF (k+3*x.users.length) x.folders)) (hi:SlK B q3 c3 4 ZI (mkL ZbD mkI (kL Zbl (k+3*x.users.length) x.folders) x.queue.items)):Zaa (pj J) 11 [.agg #[str x.domain,.slice q1 x.users.length c1,.slice q2 x.folders.length c2,.int .i64 x.queue.next,.slice q3 x.queue.items.length c3],.int .i64 k] B (.int .i64 ((kH k x:Nat):Int)):=by
 refine cB 24 Tryz.func11 (h:=?_)
 have hk3:kL ZbD (kL Zbl (k+3*x.users.length) x.folders) x.queue.items≤800000000000000:=hk
 have hk2:(kL Zbl (k+3*x.users.length) x.folders)≤800000000000000:=Nat.le_trans Zpg hk3
 have hk1:(k+3*x.users.length)≤800000000000000:=Nat.le_trans Zpg hk2
 refine Za (xBx [_,_,_,_,_] (h:=fun b1=>xA (h:=tL1 (Za (xW ZbB (h:=x1 ZhV 0 (h:=xM (h:=xR ZwK rfl (Zkj _ _ _ k _ x.users.length (by first | rfl | exact Za9 _ _) rfl oz _ hu) (h:=?_)))))))))
 refine xA (h:=Zc (Za (xM (h:=ZF (h:=Zb rfl (fun h1=>by first | omega | (simp at h1;done) | (simp at h1;omega)) (fun h1=>?_))))))
 refine wSk (Za (xW Z3 (h:=x1 ZdN 0 (h:=xM (h:=xR ZwJ rfl (Zh4 _ _ x.folders (k+3*x.users.length) _ rfl oa _ hf) (h:=?_))))))
 refine xA (h:=Zc (Za (xM (h:=ZF (h:=Zb rfl (fun h2=>by first | omega | (simp at h2;done) | (simp at h2;omega)) (fun h2=>?_))))))
 refine wSk (Za (xW ZdL (h:=xL [_,_] Zjz 0 (h:=xM (h:=xR ZwI rfl (Zkk _ _ x.queue (kL Zbl (k+3*x.users.length) x.folders) oa _ hi) (h:=?_))))))
 refine xA (h:=Zc (Za (xM (h:=ZF (h:=Zb rfl (fun h3=>by first | omega | (simp at h3;done) | (simp at h3;omega)) (fun h3=>?_))))))
 refine wSk (Za (xM (h:=xA (h:=Ze ?_))))
 exact eR t1 ⟨rfl,rfl,rfl⟩

theorem ZsZ (v:Value) (Q:Value→Kn→Cells→Prop) (B:Kn) (L:Cells):hb Tryz.prog (Extern.ReflectliteType.typeOf #[.iface 288 v]) Q B L=Q (.iface 238 (.agg #[.pointer (some ⟨5,288,none⟩)])) B L:=by kernel_rfl

theorem Zs0 (v:Value) (k:Nat) (Q:FuncId × Value→Kn→Cells→Prop) (B:Kn) (L:Cells):hb Tryz.prog (Go.method (k+1) 238 v "Comparable") Q B L=Q (249,v) B L:=by kernel_rfl

theorem Zs1 (Q:Value→Kn→Cells→Prop) (B:Kn) (L:Cells):hb Tryz.prog ((Extern.ReflectliteType.method fun t=>do Extern.Rtype.noPackHeld "Comparable" t;pure (.bool (← typeInfo t).comparable)) #[(.agg #[.pointer (some ⟨5,288,none⟩)])]) Q B L=Q (.bool true) B L:=by kernel_rfl

theorem ZrH:Extern.find Tryz.f249=some (Extern.ReflectliteType.method fun t=>do Extern.Rtype.noPackHeld "Comparable" t;pure (.bool (← typeInfo t).comparable)):=by kernel_rfl
theorem ZrG:Extern.find Tryz.f149=some Extern.ReflectliteType.typeOf:=by kernel_rfl

theorem Zt8:Extern.findNext Tryz.f149=none:=by kernel_rfl
theorem Zt9:Extern.findNext Tryz.f249=none:=by kernel_rfl

theorem ZrE (c k:Nat) (hc:c<4) (hk:k<4) (a:Nat→Addr)  (B:Kn) (hE:ErrsB 288 [0,2,3,1] B a):Zaa (pj J) 150 [errv 288 a (c+1),errv 288 a (k+1),.bool true] B (.bool (decide (c+1=k+1))):=by
 refine cB 54 Tryz.func150 (h:=?_)
 refine Za (xA (h:=Zh (Zx (α:=Unit) [1,2] (fun u=>[(0,errv 288 a (c+1))]) [] (fun u=>[]) (fun u Bx=>Bx=B) (fun u=>0) () t1 rfl (rfl) (fun u B1 hle1 hI=>?_))))
 subst hI
 refine ZC [(0,_),(1,_),(2,_)] [] t3 rfl (Zh (Zc (Za (xM (h:=xM (h:=Zv (d:=15) rfl (fun g1=>?_) (fun g1=>by cases g1)))))))
 try simp only [sQ,ne_eq] at g1
 refine xM (h:=xM (h:=Zq (Zmx (a:=a) (c:=(c+1)) (k:=k) hE oz oz rfl rfl Tryz.underlying68 Tryz.underlying288 ZvP Zsu rfl rfl ?_)))
 refine xT (h:=Zb rfl (fun g2=>?_) (fun g2=>?_))
 try simp only [sQ,ne_eq] at g2
 refine Za (xA (h:=Ze (Zk (Zy (ZN (Zy ?_))))))
 exact eR t1 ⟨Zd (decide_eq_true g2).symm,rfl,rfl⟩
 try simp only [sQ,ne_eq] at g2
 refine wSk (Zc (Za (xM (h:=Zq (Zgk rfl rfl Tryz.underlying240 kr Ztx rfl ?_)))))
 refine xM (h:=xE (h:=xE (h:=xA (h:=xA (h:=Za (xM (h:=xM (h:=Zv (d:=26) rfl (fun g3=>by cases g3) (fun g3=>?_)))))))))
 try simp only [sQ,ne_eq] at g3
 refine xP (h:=xP (h:=xP (h:=xF (h:=Zb (t:=false) rfl (fun h=>Bool.noConfusion h) (fun _=>wSk (Za (xM (h:=Zh (Za (Zq (Zgk rfl rfl Tryz.underlying243 kr Ztw rfl ?_)))))))))))
 refine xE (h:=xE (h:=Zb rfl (fun g5=>by cases g5) (fun g5=>?_)))
 try simp only [sQ,ne_eq] at g5
 refine Za (Zq (Zgk rfl rfl Tryz.underlying245 kr Ztv rfl ?_))
 refine xE (h:=xE (h:=Zb rfl (fun g6=>by cases g6) (fun g6=>?_)))
 try simp only [sQ,ne_eq] at g6
 refine Za (xA (h:=Za (xA (h:=Ze (Zy (Zy (ZN (Zy ?_))))))))
 exact eR t1 ⟨Zd (decide_eq_false g2).symm,rfl,rfl⟩

theorem ZrD (c k:Nat) (hc:c<4) (hk:k<4) (a:Nat→Addr)  (B:Kn) (hE:ErrsB 288 [0,2,3,1] B a):Zaa (pj J) 111 [errv 288 a (c+1),errv 288 a (k+1)] B (.bool (decide (c+1=k+1))):=by
 refine cB 22 Tryz.func111 (h:=?_)
 refine Za (xA (h:=Zc (Za (xM (h:=Zq (ZkI (tE:=288) (a:=a) (c:=(c+1)) rfl rfl Tryz.underlying68 rfl (xM (h:=Zv (d:=8) rfl (fun g1=>by simp at g1) (fun g1=>?_)))))))))
 refine xM (h:=Zq (ZkI (tE:=288) (a:=a) (c:=(k+1)) rfl rfl Tryz.underlying68 rfl (xF (h:=Zb rfl (fun g2=>by simp at g2) (fun g2=>?_)))))
 refine wSk (Za (xM (h:=Zq (Zsi (fn:=Tryz.f149) rfl rfl Tryz.func149 rfl rfl Zt8 ZrG rfl (ZsZ _) (Zq (Zsf (f:=249) (fn:=Tryz.f249) rfl rfl Tryz.func249 rfl rfl Zt9 ZrH rfl (Zs0 _) Zs1 (xA (h:=Za (xM (h:=xM (h:=xM (h:=xR ZuH rfl (ZrE c k oz oz a _ hE) (h:=?_)))))))))))))
 refine xA (h:=Ze ?_)
 exact eR t1 ⟨rfl,rfl,rfl⟩

theorem ZrF (k:Nat) (hk:k<4) (a:Nat→Addr)  (B:Kn) (hE:ErrsB 288 [0,2,3,1] B a):Zaa (pj J) 111 [.nilIface,errv 288 a (k+1)] B (.bool (decide (0=k+1))):=by
 refine cB 22 Tryz.func111 (h:=?_)
 refine Za (xA (h:=Zc (Za (xM (h:=Zq (ZkI (tE:=288) (a:=a) (c:=0) rfl rfl Tryz.underlying68 rfl (xM (h:=Zv (d:=8) rfl (fun g1=>?_) (fun g1=>by simp at g1)))))))))
 refine xP (h:=xP (h:=xT (h:=Zb (t:=true) rfl (fun _=>Za (xM (h:=xM (h:=Zq (Zmx (a:=a) (c:=0) (k:=k) hE oz oz rfl rfl Tryz.underlying68 Tryz.underlying288 ZvP Zsu rfl rfl ?_))))) (fun h=>Bool.noConfusion h))))
 refine xA (h:=Ze (Zk ?_))
 exact eR t1 ⟨rfl,rfl,rfl⟩

theorem Zld (c k:Nat) (hc:c<5) (hk:k<4) (a:Nat→Addr)  (B:Kn) (hE:ErrsB 288 [0,2,3,1] B a):Zaa (pj J) 111 [errv 288 a c,errv 288 a (k+1)] B (.bool (decide (c=k+1))):=by
 cases c with
 | zero=>exact ZrF k hk a B hE
 | succ c=>exact ZrD c k oz hk a B hE

theorem ZlT (c:Nat) (hc:c<5) (a:Nat→Addr)  (B:Kn) (hE:ErrsB 288 [0,2,3,1] B a):Zaa (pj J) 69 [errv 288 a (c)] B (.int .i64 c):=by
 refine cB 22 Tryz.func69 (h:=?_)
 refine Za (xA (h:=Zc (Zh (Za (xM (h:=Zq (ZkI (tE:=288) (a:=a) (c:=c) rfl rfl Tryz.underlying68 rfl (xA (h:=Zb rfl (fun g0=>?_) (fun g0=>?_))))))))))
 try simp only [sQ,ne_eq] at g0
 refine Za (xA (h:=Ze (Zy (Zk ?_))))
 exact eR t1 ⟨ZJ oz,rfl,rfl⟩
 try simp only [sQ,ne_eq] at g0
 refine Za (xM (h:=Zq (Zp rfl rfl Zrf rfl ((hE.row 0 (by decide)) _ 0 _ rfl) ?_)))
 refine xR ZpF rfl (Zld c 0 om2 om2 a _ hE) (h:=?_)
 refine xA (h:=Zb rfl (fun g1=>?_) (fun g1=>?_))
 try simp only [sQ,ne_eq] at g1
 refine Za (xA (h:=Ze (Zy (Zk ?_))))
 exact eR t1 ⟨ZJ oz,rfl,rfl⟩
 try simp only [sQ,ne_eq] at g1
 refine Za (xM (h:=Zq (Zp rfl rfl Zrf rfl ((hE.row 1 (by decide)) _ 0 _ rfl) ?_)))
 refine xR ZpF rfl (Zld c 1 om2 om2 a _ hE) (h:=?_)
 refine xA (h:=Zb rfl (fun g2=>?_) (fun g2=>?_))
 try simp only [sQ,ne_eq] at g2
 refine Za (xA (h:=Ze (Zy (Zk ?_))))
 exact eR t1 ⟨ZJ oz,rfl,rfl⟩
 try simp only [sQ,ne_eq] at g2
 refine Za (xM (h:=Zq (Zp rfl rfl Zrf rfl ((hE.row 2 (by decide)) _ 0 _ rfl) ?_)))
 refine xR ZpF rfl (Zld c 2 om2 om2 a _ hE) (h:=?_)
 refine xA (h:=Zb rfl (fun g3=>?_) (fun g3=>?_))
 try simp only [sQ,ne_eq] at g3
 refine Za (xA (h:=Ze (Zy (Zk ?_))))
 exact eR t1 ⟨ZJ oz,rfl,rfl⟩
 try simp only [sQ,ne_eq] at g3
 refine Za (xM (h:=Zq (Zp rfl rfl Zrf rfl ((hE.row 3 (by decide)) _ 0 _ rfl) ?_)))
 refine xR ZpF rfl (Zld c 3 om2 om2 a _ hE) (h:=?_)
 refine xA (h:=Zb rfl (fun g4=>?_) (fun g4=>?_))
 try simp only [sQ,ne_eq] at g4
 refine Za (xA (h:=Ze (Zy (Zk ?_))))
 exact eR t1 ⟨ZJ oz,rfl,rfl⟩
 try simp only [sQ,ne_eq] at g4
 refine ZY (ZS (Zo (Za (xA (h:=Ze ?_)))))
 exact eR t1 ⟨ZJ oz,rfl,rfl⟩

theorem ZgH (q:Option Addr) (cp:Nat) (xs:List DFolder) (B:Kn) (hx:SlK B q cp 5 Zn xs):ZA (pj J) 109 [.slice q xs.length cp] B [] (fun v B' Ls=>B'=B∧∃l a,Ls=[l]∧v = .slice a xs.length xs.length∧ZaR l a xs.length 61 5 (Z4 109 164) xs):=by
 refine cB 22 Tryz.func109 (h:=?_)
 have hxn:=hx.len
 refine Za (xA (h:=Za (xM (h:=xV Tryz.underlying31 (h:=Zq (Za7 (m:=0) (c:=xs.length) (by_:=88) [.string ⟨#[]⟩,.string ⟨#[]⟩,.slice none 0 0,.int .i64 0,.slice none 0 0] rfl rfl Zgc Zc4 rfl rfl ⟨_,_,rfl,by first | omega | (simp;done) | (simp;omega)⟩ ⟨_,_,rfl,by first | omega | (simp;done) | (simp;omega)⟩ om om (fun b1=>?_)))))))
 have hd1:=ZaR.zeros (b:=b1) (T:=61) (R:=(Z4 109 164)) (d:=(⟨[],[],[],0,[]⟩:DFolder)) (m:=0) (c:=xs.length) (zs:=[.string ⟨#[]⟩,.string ⟨#[]⟩,.slice none 0 0,.int .i64 0,.slice none 0 0]) rfl (⟨_,_,_,_,[],[],rfl,rfl,ZU.nil,ZU.nil,by simp,by simp,by simp,by simp⟩) om
 refine xA (h:=tL1 (Zc (Za (xM (h:=xV Tryz.underlying31 (h:=xM (h:=Zh (Zx (α:=Gh DFolder) [0,2,9,10] (fun g=>[(3,.slice (some ⟨b1,0,none⟩) g.xs.length xs.length),(11,.int .i64 g.k)]) [0] (fun g=>[g.l]) (fun g Bx=>Bx=B∧g.k≤xs.length∧g.xs=xs.take g.k∧g.xs.length≤g.k∧ZaR g.l (some ⟨b1,0,none⟩) xs.length 61 5 (Z4 109 164) g.xs) (fun g=>xs.length - g.k) ⟨0,0,(Zap b1 (zrow [.string ⟨#[]⟩,.string ⟨#[]⟩,.slice none 0 0,.int .i64 0,.slice none 0 0] xs.length) 61),(some ⟨b1,0,none⟩),xs.length,[]⟩ t2 rfl (⟨rfl,Nat.zero_le _,by simp,Nat.le_refl _,hd1⟩) (fun g B2 hle2 hI=>?_)))))))))
 obtain ⟨rfl,hk,hxs,hxl,hv⟩:=hI
 refine ZC [(0,_),(2,_),(3,_),(9,_),(10,_),(11,_)] [_] t6 rfl (Za (ZF (h:=Zc (Zb rfl (fun g1=>?_) (fun g1=>?_)))))
 try simp only [sQ,ne_eq] at g1
 refine wSk (Zc (Zh (Za ?_)))
 obtain ⟨w,hw⟩:=ZX (xs:=xs) (i:=g.k) om
 obtain ⟨bb4,oo4,rfl⟩:=hx.base hw
 obtain ⟨_,⟨qg5,cg5,qm5,cm5,rfl,hg5,hm5,hb5,hb5b⟩,hc5⟩:=hx.elem hw
 have hg5n:=hg5.len
 have hm5n:=hm5.len
 have hm5s:=Zau hm5
 refine xIx Tryz.underlying31 ZaW (h:=yL [_,_,_,_,_] ZfZ hc5 0 (h:=xAl [_,_,_,_,_] Zc4 (h:=fun b6=>xS [_,_,_,_,_] 1 [_,_,_,_,_] ZaW (h:=tL2 (Zj (xM (h:=xL [_,_,_,_,_] ZfZ 1 (h:=xC ZuK rfl (Zh9 _ _ _ _ w _ hg5 hm5) (h:=?_)))))))))
 rintro _ B7 _ hle7 ⟨rfl,l7,a7,c7,l7b,a7b,c7b,rfl,rfl,hs7,hs7b⟩
 refine xBs [(0,_)] [_,_,_,_,_] Tryz.underlying31 ZaW Zc4 (h:=fun b8=>Zq (ZoA (R:=(Z4 109 164)) (⟨w.owner,w.name,w.grants,w.next,w.mail⟩) 0 [2,3] rfl rfl hv rfl rfl rfl Zgc Zg1 rfl rfl (Za6.box 4 rfl) rfl rfl (l7 ++ l7b) (by simp) (⟨_,_,_,_,_,_,rfl,rfl,(hs7.anyK ZZ.any),(hs7b.anyK Z9.any),by first | assumption | omega | (simp;done) | (simp;omega),by first | assumption | omega | (simp;done) | (simp;omega),by first | assumption | omega | (simp;done) | (simp;omega),by first | assumption | omega | (simp;done) | (simp;omega)⟩) oz (fun l9 hd9=>?_)))
 refine xA (h:=ZS (Zo (Zj (xD (h:=xM (h:=?_))))))
 exact ZE ⟨g.k+1,0,l9,g.a,g.c,(g.xs ++ [⟨w.owner,w.name,w.grants,w.next,w.mail⟩])⟩ [0] (by first | omega | (simp only [];omega)) ⟨rfl,by simp only [];omega,by simp only [];rw [Zcb hw,hxs],by simp;omega,hd9⟩ ⟨rfl,rfl,rfl,rfl,rfl,rfl,trivial⟩ rfl
 try simp only [sQ,ne_eq] at g1
 have hxe:g.xs=xs:=by rw [hxs];exact List.take_of_length_le oz
 refine ZD (ZW (ZG (Zs (Zo (Za (xM (h:=xA (h:=Ze ?_))))))))
 exact Zes .ret (.inl rfl) [_] [0] rfl ⟨rfl,trivial⟩ ⟨rfl,_,_,rfl,by rw [← hxe];rfl,hxe ▸ hv⟩

theorem Zi4 (q1 q2 q3:Option Addr) (c1 c2 c3:Nat) (x:DHost) (B:Kn) (hu:SlK B q1 c1 3 Zt x.users) (hf:SlK B q2 c2 5 Zn x.folders) (hi:SlK B q3 c3 4 ZI x.queue.items):ZA (pj J) 68 [.agg #[str x.domain,.slice q1 x.users.length c1,.slice q2 x.folders.length c2,.int .i64 x.queue.next,.slice q3 x.queue.items.length c3]] B [] (fun v B' Ls=>∃q1 c1 q2 c2 q3 c3 l1 l2 l3,Ls=[l1,l2,l3]∧v = .agg #[str x.domain,.slice q1 x.users.length c1,.slice q2 x.folders.length c2,.int .i64 x.queue.next,.slice q3 x.queue.items.length c3]∧ZU Kn.none l1 q1 c1 97 3 Zt x.users∧ZaR l2 q2 c2 61 5 (Z4 109 164) x.folders∧ZaR l3 q3 c3 101 4 (Za4 9) x.queue.items∧c2=x.folders.length):=by
 refine cB 16 Tryz.func68 (h:=?_)
 have hun:=hu.len
 have hfn:=hf.len
 have hin:=hi.len
 refine Za (xBx [_,_,_,_,_] (h:=fun b1=>xAl [_,_,_,_,_] Zci (h:=fun b2=>tL2 (Zc (Z2 (keeps _ [0] _) mo kr ⟨Kn.le.refl _,Zba.refl _ _⟩ (fun _ _=>?_))))))
 refine aW 0 rfl ZgK (h:=aT 1 rfl (ZR fun D B L hI=>Zp rfl rfl lk9 rfl (atL 0 (hI.2.1.trans rfl) rfl rfl) r4) (h:=aW 3 rfl ZbB (h:=aT 4 rfl (ZR fun D B L hI=>Zp rfl rfl ZhV rfl (atL 0 (hI.2.1.trans rfl) rfl rfl) r4) (h:=aW 6 rfl Z3 (h:=aT 7 rfl (ZR fun D B L hI=>Zp rfl rfl ZdN rfl (atL 0 (hI.2.1.trans rfl) rfl rfl) r4) (h:=aW 9 rfl ZdL (h:=aT 10 rfl (ZR fun D B L hI=>Z6 [_,_] rfl rfl Zjz rfl (ZbX 0 (hI.2.1.trans rfl) rfl rfl) r4) (h:=Zz 2 kr rfl kr (Zu (parts:=[]) [] rfl rfl Tryz.underlying30 ZdR ZhB rfl rfl rfl rfl rfl (fun b3=>?_))))))))))
 refine ⟨⟨Kn.le.refl _,t1⟩,(Zz 5 kr rfl kr (ZaG (R:=Zt) 2 rfl (ZU.lit0 (R:=Zt)) rfl rfl rfl Zl8 Zml rfl rfl rfl hu.rows Zt.one rfl om (fun l4 p4 c4 hv4=>?_)))⟩
 refine ⟨⟨Kn.le.refl _,t1⟩,(Zz 8 kr rfl kr (ZaD rfl rfl Zvc rfl (ZgH _ _ x.folders _ hf) ?_))⟩
 rintro _ B5 _ hle5 ⟨rfl,l5,a5,rfl,rfl,hs5⟩
 refine ⟨⟨Kn.le.refl _,t1⟩,(Zz 11 kr rfl kr (ZaD rfl rfl Zvb rfl (ZiH _ _ x.queue _ hi) ?_))⟩
 rintro _ B6 _ hle6 ⟨l6,q6,c6,rfl,rfl,hd6⟩
 replace hv4:=hv4.mono Zt.mono hle6
 refine ⟨⟨hle6,t1⟩,(aT 12 rfl (ZR fun D B L hI=>Zav (parts:=[(0,_),(1,_),(2,_),(3,_)]) [_,_,_,_,_] [_,_,_,_,_] rfl rfl Zf3 Zci rfl rfl rfl r4) (h:=Z0 13 kr rfl kr kr kr (ZV [_,_,_,_,_] 1 [_,_,_,_,_] rfl rfl Zc1 rfl rfl rfl rfl rfl rfl rfl rfl ?_)))⟩
 refine Zo (tL5 (Ze ?_))
 exact eN [2,3,4] rfl ⟨⟨_,rfl,.inr ⟨[_,_,_,_,_],Zcj,ZbX 1 rfl rfl rfl,rfl⟩⟩,trivial⟩ ⟨_,_,_,_,_,_,_,_,_,rfl,rfl,hv4.anyK Zt.any,hs5,hd6,rfl⟩

theorem ZlQ (q1 q2 q3:Option Addr) (c1 c2 c3:Nat) (x:DHost) (ar:Bool) (f:FuncId) (cap:Array Value) (R:DHost) (k:Nat) (hk:k<5) (he:enters Tryz.prog f=true) (hJ:Joins Tryz.prog J) (hd:x.domain.length≤2000000) (a:Nat→Addr) (B:Kn) (hE:ErrsB 288 [0,2,3,1] B a) (hu:SlK B q1 c1 3 Zt x.users) (hf:SlK B q2 c2 5 Zn x.folders) (hi:SlK B q3 c3 4 ZI x.queue.items) (hw:ar=true→Zah x=true→∀(B2:Kn) (b:Nat) (q1 q2 q3:Option Addr) (c1 c2 c3:Nat) (l1 l2 l3:Cells),B.le B2→c2=x.folders.length→ZU Kn.none l1 q1 c1 97 3 Zt x.users→ZaR l2 q2 c2 61 5 (Z4 109 164) x.folders→ZaR l3 q3 c3 101 4 (Za4 9) x.queue.items→ZA (pj J) f (ptr ⟨b,0,none⟩ :: cap.toList) B2 [Zap b [str x.domain,.slice q1 x.users.length c1,.slice q2 x.folders.length c2,.int .i64 x.queue.next,.slice q3 x.queue.items.length c3] 36,l1,l2,l3] (fun v B' Ls=>∃q1' c1' q2' c2' q3' c3' l1' l2' l3',Ls=[Zap b [str R.domain,.slice q1' R.users.length c1',.slice q2' R.folders.length c2',.int .i64 R.queue.next,.slice q3' R.queue.items.length c3'] 36,l1',l2',l3']∧v=errv 288 a (k)∧ZU Kn.none l1' q1' c1' 97 3 Zt R.users∧ZaR l2' q2' c2' 61 5 (Z4 109 164) R.folders∧ZaR l3' q3' c3' 101 4 (Za4 9) R.queue.items)):ZA (pj J) 27 [.agg #[str x.domain,.slice q1 x.users.length c1,.slice q2 x.folders.length c2,.int .i64 x.queue.next,.slice q3 x.queue.items.length c3],.bool ar,.func (.func f) #[] cap] B [] (fun v B' Ls=>∃(Y:DHost) (d:Int),∃q1 c1 q2 c2 q3 c3 l1 l2 l3,(Y,d)=(if ar=true∧Zah x=true then (R,(k:Int)) else (ZcJ,5))∧Ls=[l1,l2,l3]∧v = .tuple #[.agg #[str Y.domain,.slice q1 Y.users.length c1,.slice q2 Y.folders.length c2,.int .i64 Y.queue.next,.slice q3 Y.queue.items.length c3],.int .i64 d]∧ZU Kn.none l1 q1 c1 97 3 Zt Y.users∧ZaR l2 q2 c2 61 5 (Z4 109 164) Y.folders∧ZaR l3 q3 c3 101 4 (Za4 9) Y.queue.items):=by
 refine cB 25 Tryz.func27 (h:=?_)
 have hun:=hu.len
 have hfn:=hf.len
 have hin:=hi.len
 refine Za (xBx [_,_,_,_,_] (h:=fun b1=>xAl [_,_,_,_,_] Zci (h:=fun b2=>xA (h:=tL2 (Zc (Za (xM (h:=xN (h:=xM (h:=Zv (d:=12) rfl (fun g1=>?_) (fun g1=>?_)))))))))))
 try simp only [sQ,ne_eq] at g1
 refine xP (h:=xP (h:=xP (h:=xT (h:=Zsk [[],[],[]] rfl (Zb (t:=true) rfl (fun _=>Za (xB [] [_,_,_,_,_] [_,_,_,_,_] Zf3 Zci (h:=xS [_,_,_,_,_] 1 [_,_,_,_,_] Zc1 (h:=xA (h:=tL5 (Ze (Zk ?_))))))) (fun h=>Bool.noConfusion h))))))
 exact Zes .ret (.inl rfl) [_,_] [2,3,4] rfl ⟨⟨_,rfl,.inr ⟨[_,_,_,_,_],Zcj,ZbX 1 rfl rfl rfl,rfl⟩⟩,rfl,trivial⟩ ⟨ZcJ,5,none,0,none,0,none,0,[],[],[],by rw [if_neg (by simp [g1])],rfl,rfl,ZU.nil,ZaR.nil,ZaR.nil⟩
 try simp only [sQ,ne_eq] at g1
 refine xL [_,_,_,_,_] Zcj 0 (h:=xQ Zwq rfl (Zkh hJ _ _ _ _ _ _ x om2 _ hu hf hi) (h:=?_))
 intro vv Bv hlev
 rintro rfl
 obtain ⟨hu,hf,hi⟩:=up3 hlev hu hf hi
 replace hE:=hE.mono hlev
 refine xN (h:=xF (h:=Zb rfl (fun g2=>?_) (fun g2=>?_)))
 try simp only [sQ,ne_eq] at g2
 refine Zsk [[],[],[]] rfl (Za (xB [] [_,_,_,_,_] [_,_,_,_,_] Zf3 Zci (h:=xS [_,_,_,_,_] 1 [_,_,_,_,_] Zc1 (h:=xA (h:=tL5 (Ze (Zk ?_)))))))
 exact Zes .ret (.inl rfl) [_,_] [2,3,4] rfl ⟨⟨_,rfl,.inr ⟨[_,_,_,_,_],Zcj,ZbX 1 rfl rfl rfl,rfl⟩⟩,rfl,trivial⟩ ⟨ZcJ,5,none,0,none,0,none,0,[],[],[],by rw [if_neg (by simp [g2])],rfl,rfl,ZU.nil,ZaR.nil,ZaR.nil⟩
 try simp only [sQ,ne_eq] at g2
 refine wSk (Za (xL [_,_,_,_,_] Zcj 0 (h:=xC Zwp rfl (Zi4 _ _ _ _ _ _ x _ hu hf hi) (h:=?_))))
 rintro _ Bc _ hlec ⟨q1c,c1c,q2c,c2c,q3c,c3c,l1c,l2c,l3c,rfl,rfl,huc,hfc,hic,rfl⟩
 replace hE:=hE.mono hlec
 refine Zq (Zbj (l:=[_,_,_,_,_]) rfl rfl Zci rfl (fun b5=>?_))
 refine Zq (ZV [_,_,_,_,_] 5 [_,_,_,_,_] rfl rfl Zc1 rfl rfl rfl rfl rfl rfl rfl rfl ?_)
 refine Zmk [_,_,_,_,_,_] rfl ?_
 refine Za ?_
 refine Zq (Zgi rfl rfl rfl ?_)
 refine Zq (ZqK [5,2,3,4] rfl rfl rfl rfl he rfl rfl (hw (by simpa using g1) (by simpa using g2) _ _ _ _ _ _ _ _ _ _ _ (hlev.trans hlec) rfl huc hfc hic) ?_)
 rintro _ B6 _ hle6 ⟨q16,c16,q26,c26,q36,c36,l16,l26,l36,rfl,rfl,hu6,hf6,hi6⟩
 replace hE:=hE.mono hle6
 refine xA (h:=tL6 (Zc (Z2 (keeps _ [5] _) mo kr ⟨Kn.le.refl _,Zba.refl _ _⟩ (fun _ _=>?_))))
 refine aT 0 rfl (ZR fun D B L hI=>Z6 [_,_,_,_,_] rfl rfl Zcj rfl (ZbX 5 (hI.2.1.trans rfl) rfl rfl) r4) (h:=aM 1 rfl (h:=aT 2 rfl (ZR fun D B L hI=>Zae rfl rfl Zwo rfl (ZlT k om2 a _ (hE.mono hI.1)) r4) (h:=?_)))
 refine ZkE 3 kr rfl kr kr (ZV [_,_,_,_,_] 1 [_,_,_,_,_] rfl rfl Zc1 rfl rfl rfl rfl rfl rfl rfl rfl ?_)
 refine aA 4 rfl (h:=ZB kr kr ?_)
 refine Zo (tL6 (Ze ?_))
 exact Zes .ret (.inl rfl) [_,_] [2,3,4] rfl ⟨⟨_,rfl,.inr ⟨[_,_,_,_,_],Zcj,ZbX 1 rfl rfl rfl,rfl⟩⟩,rfl,trivial⟩ ⟨R,k,_,_,_,_,_,_,_,_,_,by rw [if_pos ⟨by simpa using g1,by simpa using g2⟩],rfl,rfl,hu6.anyK Zt.any,hf6,hi6⟩

theorem Znx (p:Option Addr) (n k:Nat) (vs:List Value) (blk:Cells) (bv:Nat) (row:List Value) (hrow:row.length=5) (hone:row.all Zew=true) (hvo:vs.all Zew=true) (hk:k≤n) (hn:n≤2000000) (B:Kn) (hv:Zfu blk p n n 61 5 vs):ZA (pj J) 48 [.slice p n n,.int .i64 k,.slice (some ⟨bv,0,Option.none⟩) 1 1] B [blk,Zap bv row 61] (fun v B' Ls=>B'=B∧∃l' p' c',Ls=[l']∧v = .slice p' (n+1) c'∧Zfu l' p' (n+1) c' 61 5 (vs.take (k*5) ++ row ++ vs.drop (k*5))):=by
 refine cB 95 Tryz.func48 (h:=?_)
 have hvl:=hv.1
 refine Za (xA (h:=Za (xM (h:=xM (h:=Zq (ZhE (a:=k) (b:=n) rfl rfl Tryz.underlying31 ZaW rfl ⟨_,_,rfl,rfl⟩ rfl hk (Nat.le_refl _) (Za (xM (h:=xV Tryz.underlying31 (h:=xA (h:=Zc (Za (xM (h:=Zil (h:=Zb rfl (fun g1=>by simp at g1) (fun g1=>?_))))))))))))))))
 try simp only [sQ,ne_eq] at g1
 refine wSk (Za (xM (h:=xV Tryz.underlying31 (h:=xA (h:=Zc (Za (xM (h:=xM (h:=Zil (h:=Zb rfl (fun g2=>?_) (fun g2=>?_)))))))))))
 try simp only [sQ,ne_eq] at g2
 refine Za (xM (h:=xM (h:=Zq (Zeh (m:=n) (d:=1) 0 rfl hv rfl rfl Zgc Zg1 rfl rfl (Za6.box 1 rfl) (by rw [hrow]) hone oz (fun l9 p9 c9 hv9=>?_)))))
 refine xA (h:=tL2 (Ze (Zk ?_)))
 have hkn:k=n:=by omega
 rw [show vs.take (k*5) ++ row ++ vs.drop (k*5)=vs ++ row by rw [hkn,← hvl];simp]
 exact eN [0] rfl t1 ⟨rfl,_,_,_,rfl,rfl,hv9⟩
 try simp only [sQ,ne_eq] at g2
 refine wSk (Zc (Za (xM (h:=xM (h:=xD (h:=xM (h:=Zq (Zsm rfl rfl Tryz.underlying31 rfl (ZdM (h:=Zb rfl (fun g3=>?_) (fun g3=>by first | omega | (simp at g3;done) | (simp at g3;omega))))))))))))
 try simp only [sQ,ne_eq] at g3
 obtain ⟨_,⟨rfl,h0,_,_⟩ | ⟨b0,arr,rfl,ha,ht,rfl,_⟩⟩:=hv
 omega
 refine Za (xM (h:=xM (h:=Zq (ZdT (a:=0) (b:=k) (v:=.slice (some ⟨b0,0,Option.none⟩) k n) (by rw [if_neg oz];simp [Addr.add_off]) (Nat.zero_le _) hk rfl rfl Tryz.underlying31 ZaW rfl rfl ⟨_,_,rfl,rfl⟩ ?_))))
 refine xM (h:=xM (h:=xD (h:=xM (h:=xU (h:=Zq (Zso (m:=k) (c:=n) (d:=n+1 - k) (vs:=vs.take (k*5)) rfl rfl Zgc Tryz.underlying3 rfl rfl oz (ZqW 0 rfl ht hk) (by rw [List.length_take,hvl];omega) oz oz (fun b9 zs r0 c9 hz hal hc9=>?_)))))))
 refine xA (h:=tL3 (Za (xM (h:=xM (h:=Zq (ZdT (a:=k) (b:=k+(n+1 - k)) (v:=.slice (some ⟨b9,k*5,Option.none⟩) (n+1 - k) (c9 - k)) (by rw [if_neg oz];simp [Addr.add_off]) oz hc9 rfl rfl Tryz.underlying31 ZaW rfl ⟨_,_,rfl,rfl⟩ rfl ?_))))))
 refine xM (h:=Zq (Zqa (m:=1) (ws:=row) (r:=[]) 2 (by rw [List.append_nil];rfl) rfl rfl Tryz.underlying31 ZaW rfl rfl (Za6.box 1 rfl) oz (by rw [hrow]) hone (by rw [hal,hrow];omega) ?_))
 refine tL3 (Zc (Z2 (keeps _ [] _) mo kr ⟨Kn.le.refl _,Zba.refl _ _⟩ (fun _ _=>?_)))
 refine aM 0 rfl (h:=aM 1 rfl (h:=aM 2 rfl (h:=aD 3 rfl (h:=aT 4 rfl (ZR fun D B L hI=>ZdT (a:=k+1) (b:=k+(n+1 - k)) (v:=.slice (some ⟨b9,(k+1)*5,Option.none⟩) (n - k) (c9 - (k+1))) (by rw [if_neg oz];simp [Addr.add_off];omega) oz hc9 rfl rfl Tryz.underlying31 ZaW rfl ⟨_,_,rfl,rfl⟩ rfl r4) (h:=?_)))))
 refine aM 5 rfl (h:=aM 6 rfl (h:=aT 7 rfl (ZR fun D B L hI=>ZdT (a:=k) (b:=n) (v:=.slice (some ⟨b0,k*5,Option.none⟩) (n - k) (n - k)) (by rw [if_neg oz];simp [Addr.add_off]) hk (Nat.le_refl _) rfl rfl Tryz.underlying31 ZaW rfl ⟨_,_,rfl,rfl⟩ rfl r4) (h:=?_)))
 refine Z0 8 kr rfl kr kr kr (Zqa (m:=n - k) (ws:=(vs.drop (k*5))) (r:=[]) 2 (by rw [List.append_nil];rfl) rfl rfl Tryz.underlying31 ZaW rfl rfl (ZqX 0 rfl ht hk) oz (by rw [List.length_drop,hvl];omega) (ZrS hvo) (by rw [ZQ,hal,List.length_drop,hvl];omega) ?_)
 refine Zo (tL3 (Za (xM (h:=xA (h:=Ze (Zk ?_))))))
 rw [show k+(n+1 - k)=n+1 from by omega]
 exact eN [2] rfl t1 ⟨rfl,_,some ⟨b9,0,Option.none⟩,c9,rfl,rfl,Zrn hrow hvl hk hz hal hc9⟩

theorem Zjc (o n:Str) (B:Kn):ZA (pj J) 49 [str o,str n] B [] (fun v B' Ls=>B'=B∧∃l a k l' a' k',Ls=[l,l']∧v = .agg #[str o,str n,.slice a 0 k,.int .i64 1,.slice a' 0 k']∧ZU Kn.none l a k 109 2 ZZ ([]:List DGrant)∧ZU Kn.none l' a' k' 164 3 Z9 ([]:List DMail)):=by
 refine cB 11 Tryz.func49 (h:=?_)
 refine Za (xAl [_,_,_,_,_] Zc4 (h:=fun b1=>tL1 (Za (xM (h:=xM (h:=xBs [] [] Tryz.underlying54 Zdu Zij (h:=fun b2=>xBs [] [] Tryz.underlying57 ZcE ZhC (h:=fun b3=>xB [(0,_),(1,_)] [_,_] [_,_] ZtW ZqE (h:=xB [(0,_),(1,_),(2,_),(3,_)] [_,_,_,_,_] [_,_,_,_,_] Zvv Zc4 (h:=xS [_,_,_,_,_] 0 [_,_,_,_,_] ZaW (h:=tL3 (Ze ?_))))))))))))
 exact eN [1,2] rfl ⟨⟨_,rfl,.inr ⟨[_,_,_,_,_],ZfZ,ZbX 0 rfl rfl rfl,rfl⟩⟩,trivial⟩ ⟨rfl,_,_,_,_,_,_,rfl,rfl,ZU.lit0,ZU.lit0⟩

theorem Zs9 (b1 b2 b:Nat) (q1 q2 q3:Option Addr) (c1 c3:Nat) (x:DHost) (l1 l2 l3:Cells) (u n:Str) (hul:u.length≤2000000) (hnl:n.length≤2000000) (hn1:x.users.length≤2000000) (hn2:x.folders.length≤2000000) (hok:Zah x=true) (a:Nat→Addr) (B:Kn) (hE:ErrsB 288 [0,2,3,1] B a) (hc1:ZaB B b1 0 [str u]) (hc2:ZaB B b2 0 [str n]) (hu:ZU Kn.none l1 q1 c1 97 3 Zt x.users) (hf:ZaR l2 q2 x.folders.length 61 5 (Z4 109 164) x.folders) (hi:ZaR l3 q3 c3 101 4 (Za4 9) x.queue.items):ZA (pj J) 45 [ptr ⟨b,0,none⟩,ptr ⟨b1,0,none⟩,ptr ⟨b2,0,none⟩] B [Zap b [str x.domain,.slice q1 x.users.length c1,.slice q2 x.folders.length x.folders.length,.int .i64 x.queue.next,.slice q3 x.queue.items.length c3] 36,l1,l2,l3] (fun v B' Ls=>∃q1' c1' q2' c2' q3' c3' l1' l2' l3',Ls=[Zap b [str (Zjk x u n).domain,.slice q1' (Zjk x u n).users.length c1',.slice q2' (Zjk x u n).folders.length c2',.int .i64 (Zjk x u n).queue.next,.slice q3' (Zjk x u n).queue.items.length c3'] 36,l1',l2',l3']∧v=errv 288 a (Zjl x u n)∧ZU Kn.none l1' q1' c1' 97 3 Zt (Zjk x u n).users∧ZaR l2' q2' c2' 61 5 (Z4 109 164) (Zjk x u n).folders∧ZaR l3' q3' c3' 101 4 (Za4 9) (Zjk x u n).queue.items):=by
 refine cB 60 Tryz.func45 (h:=?_)
 have hix:=ZnA (inF u n) x.folders
 have hql:=ZdX (Zpn hok)
 have h8:=(Zel.1 hok).2.1.2.2
 refine Za (xA (h:=Zc (Za (xM (h:=y1 lk9 hc1 0 (h:=Zq (ZfT [0,1,2,3] rfl rfl rfl rfl rfl Zts rfl (Zaa.borrowL fun hm1=>Zf8 _ _ _ _ _ _ _ _ x u om2 _ (ZvQ 0 rfl hm1) (hu.lendK Zt.any 1 rfl hm1 om)) ?_)))))))
 refine xN (h:=Zb rfl (fun g1=>?_) (fun g1=>?_))
 try simp only [sQ,ne_eq] at g1
 refine Za (Zq (Zp rfl rfl Zrf rfl ((hE.row 0 (by decide)) _ 0 _ rfl) ?_))
 refine xA (h:=Ze (Zk ?_))
 obtain ⟨e1,e2⟩:=Zlk (n:=n) (by simpa using g1)
 exact eN [0,1,2,3] rfl t1 (by rw [e1,e2];exact ⟨_,_,_,_,_,_,_,_,_,rfl,rfl,hu.anyK Zt.any,hf,hi⟩)
 try simp only [sQ,ne_eq] at g1
 refine wSk (Zc (Za (xM (h:=y1 lk9 hc1 0 (h:=y1 lk9 hc2 0 (h:=Zq (ZfT [0,1,2,3] rfl rfl rfl rfl rfl ZvJ rfl (Zaa.borrowL fun hm2=>Zqv _ _ _ _ _ _ _ _ x u n om2 om2 _ (ZvQ 0 rfl hm2) (hf.lendK Z4.known Zn.mono 2 rfl hm2 om)) ?_)))))))
 refine Zdp (h:=xM (h:=Zv (d:=16) rfl (fun g2=>?_) (fun g2=>?_)))
 try simp only [sQ,ne_eq] at g2
 refine xP (h:=xP (h:=xP (h:=xP (h:=xP (h:=xP (h:=xT (h:=Zb (t:=true) rfl (fun _=>Za (Zq (Zp rfl rfl Zrf rfl ((hE.row 3 (by decide)) _ 0 _ rfl) ?_))) (fun h=>Bool.noConfusion h))))))))
 refine xA (h:=Ze (Zk ?_))
 obtain ⟨e1,e2⟩:=Zif (by simpa using g1) (.inl (by simpa using g2))
 exact eN [0,1,2,3] rfl t1 (by rw [e1,e2];exact ⟨_,_,_,_,_,_,_,_,_,rfl,rfl,hu.anyK Zt.any,hf,hi⟩)
 try simp only [sQ,ne_eq] at g2
 refine xM (h:=xNc (h:=xW Z3 (h:=x1 ZdN 0 (h:=xV Tryz.underlying31 (h:=Zil (h:=xF (h:=Zb rfl (fun g3=>?_) (fun g3=>?_))))))))
 try simp only [sQ,ne_eq] at g3
 refine Za (Zq (Zp rfl rfl Zrf rfl ((hE.row 3 (by decide)) _ 0 _ rfl) ?_))
 refine xA (h:=Ze (Zk ?_))
 obtain ⟨e1,e2⟩:=Zif (by simpa using g1) (.inr oz)
 exact eN [0,1,2,3] rfl t1 (by rw [e1,e2];exact ⟨_,_,_,_,_,_,_,_,_,rfl,rfl,hu.anyK Zt.any,hf,hi⟩)
 try simp only [sQ,ne_eq] at g3
 refine wSk (Za (xA (h:=Zsa (α:=Nat) [0,1,2,4,9,23] (fun k=>[(5,.int .i64 k)]) [] (fun k=>[]) (fun k=>[]) (fun k Bx=>Bx=B∧k≤x.folders.length∧(∀y,y∈x.folders.take k→ZbK y (ZaO u n)=true)∧(x.folders.length≤k∨∃z,x.folders[k]? = some z∧ZbK z (ZaO u n)=false)) ?_ (fun k B3 hle3 hF=>?_))))
 refine Zh (Zx (α:=Nat) [0,1,2,4,9,23] (fun k=>[(5,.int .i64 k)]) [] (fun k=>[]) (fun k Bx=>Bx=B∧k≤x.folders.length∧∀y,y∈x.folders.take k→ZbK y (ZaO u n)=true) (fun k=>x.folders.length - k) 0 t1 rfl (⟨rfl,Nat.zero_le _,by simp⟩) (fun k B4 hle4 hI=>?_))
 obtain ⟨rfl,hk,hall⟩:=hI
 refine ZC [(0,_),(1,_),(2,_),(4,_),(5,_),(9,_),(23,_)] [_,_,_,_] t7 rfl (Zc (Zc (Z2 (keeps _ [0,2] _) mo kr ⟨Kn.le.refl _,Zba.refl _ _⟩ (fun _ _=>?_))))
 refine aM 0 rfl (h:=aM 1 rfl (h:=aNc 2 rfl (h:=aW 3 rfl Z3 (h:=aT 4 rfl (ZR fun D B L hI=>Zp rfl rfl ZdN rfl (atL 0 (hI.2.1.trans rfl) rfl rfl) r4) (h:=aV 5 rfl Tryz.underlying31 (h:=ZkF 6 rfl (h:=aM 7 rfl (h:=Zay (d:=32) rfl (fun g4=>?_) (fun g4=>?_)))))))))
 try simp only [sQ,ne_eq] at g4
 obtain ⟨f,hf9⟩:=ZX (xs:=x.folders) (i:=k) (by simp at g4;omega)
 obtain ⟨bq,_,_,lre,hpq,⟨qg,cg,qm,cm,ia,ib,rfl,rfl,hg9,hm9,ho9,hn9,hx9,hy9⟩,hwq,hqq,hcl,hcr,hkk⟩:=hf.cellA hf9
 refine aM 8 rfl (h:=aNc 9 rfl (h:=aW 10 rfl Z3 (h:=aT 11 rfl (ZR fun D B L hI=>Zp rfl rfl ZdN rfl (atL 0 (hI.2.1.trans rfl) rfl rfl) r4) (h:=aM 12 rfl (h:=aT 13 rfl (ZR fun D B L hI=>ZjC hpq rfl rfl Tryz.underlying31 ZaW rfl rfl oz oz r4) (h:=?_))))))
 refine aT 14 rfl (ZR fun D B L hI=>Z6 [_,_,_,_,_] rfl rfl ZfZ rfl (ZvV (hcl _ _ 2 (hI.2.2.1.trans rfl)) 0 rfl rfl) r4) (h:=aT 15 rfl (ZR fun D B L hI=>Zp rfl rfl lk9 rfl ((hc1.mono hI.1) _ 0 _ rfl) r4) (h:=aT 16 rfl (ZR fun D B L hI=>Zp rfl rfl lk9 rfl ((hc2.mono hI.1) _ 0 _ rfl) r4) (h:=aT 17 rfl (ZR fun D B L hI=>Zae rfl rfl ZvI rfl (ZgI f _ _ _ _ u n _) r4) (h:=ZkF 18 rfl (h:=aPT 19 rfl (h:=ZB kr kr ?_))))))
 refine Zo (Zb rfl (fun g5=>?_) (fun g5=>?_))
 try simp only [sQ,ne_eq] at g5
 refine wSk (Zh (Zj (xM (h:=xD (h:=xA (h:=ZS ?_))))))
 exact ZE (k+1) [0,1,2,3] so2 ⟨rfl,oz,ZaM hf9 hall (Zpe (by simpa using g5))⟩ t7 rfl
 try simp only [sQ,ne_eq] at g5
 refine ZD (ZW (ZG (Zs ?_)))
 exact Zao k [0,1,2,3] ⟨rfl,hk,hall,.inr ⟨f,hf9,(Zfq f (ZaO u n)).1 (show 0≤Zqy f u n by simpa using g5)⟩⟩ t7 rfl
 try simp only [sQ,ne_eq] at g4
 refine aZ 8 rfl (h:=aZ 9 rfl (h:=aZ 10 rfl (h:=aZ 11 rfl (h:=aZ 12 rfl (h:=aZ 13 rfl (h:=aZ 14 rfl (h:=aZ 15 rfl (h:=aZ 16 rfl (h:=aZ 17 rfl (h:=aZ 18 rfl (h:=aPF 19 rfl (h:=ZB kr kr ?_))))))))))))
 refine Zo (Zb (t:=false) rfl (fun h=>Bool.noConfusion h) (fun _=>ZD (ZW (ZG (Zs ?_)))))
 exact Zao k [0,1,2,3] ⟨rfl,hk,hall,.inl (by simp at g4;omega)⟩ t7 rfl
 obtain ⟨rfl,hk,hall,hstop⟩:=hF
 refine ZC [(0,_),(1,_),(2,_),(4,_),(5,_),(9,_),(23,_)] [_,_,_,_] t7 rfl ?_
 obtain ⟨vs,blk,ins,hpb,hvb,hvo,hins⟩:=hf.insert (by rintro _ _ _ ⟨_,_,_,_,_,_,rfl,_⟩;rfl)
 refine Zgg 2 rfl (show l2.Perm (blk ++ ([ins]:List Cells).flatten) by simpa using hpb) ?_
 refine Zc (Z2 (keeps _ [0] _) mo kr ⟨Kn.le.refl _,Zba.refl _ _⟩ (fun _ _=>?_))
 refine aM 0 rfl (h:=aM 1 rfl (h:=aNc 2 rfl (h:=aW 3 rfl Z3 (h:=aT 4 rfl (ZR fun D B L hI=>Zp rfl rfl ZdN rfl (atL 0 (hI.2.1.trans rfl) rfl rfl) r4) (h:=aM 5 rfl (h:=aT 6 rfl (ZR fun D B L hI=>Zp rfl rfl lk9 rfl ((hc1.mono hI.1) _ 0 _ rfl) r4) (h:=aT 7 rfl (ZR fun D B L hI=>Zp rfl rfl lk9 rfl ((hc2.mono hI.1) _ 0 _ rfl) r4) (h:=Zz 8 kr rfl kr (ZaD rfl rfl ZwF rfl (Zjc u n _) ?_)))))))))
 rintro _ B6 _ hle6 ⟨rfl,l6,a6,c6,l6b,a6b,c6b,rfl,rfl,hs6,hs6b⟩
 refine ⟨⟨Kn.le.refl _,t1⟩,(Zz 9 kr rfl kr (Zu (parts:=[(0,_)]) [_,_,_,_,_] rfl rfl Tryz.underlying31 ZaW Zc4 rfl rfl rfl rfl rfl (fun b7=>?_)))⟩
 refine ⟨⟨Kn.le.refl _,t1⟩,(Zz 10 kr rfl kr (ZdU [2,7] rfl rfl rfl rfl ZwG rfl (Znx q2 x.folders.length k vs blk b7 [str u,str n,.slice a6 0 c6,.int .i64 1,.slice a6b 0 c6b] rfl rfl hvo hk oz _ hvb) ?_))⟩
 rintro _ _ _ hle8 ⟨rfl,l8,p8,c8,rfl,rfl,hv8⟩
 refine ⟨⟨Kn.le.refl _,t1⟩,(aNc 11 rfl (h:=aW 12 rfl Z3 (h:=Z0 13 kr rfl kr kr kr (ZV [_] 0 [_,_,_,_,_] rfl rfl ZoN rfl rfl rfl rfl rfl rfl rfl rfl ?_))))⟩
 refine Zo (tL8 (Za (xA (h:=Ze ?_))))
 obtain ⟨e1,e2⟩:=ZpK (by simpa using g1) (fun h=>h.elim (fun h=>absurd h (by simpa using g2)) (fun h=>oz)) hk hall hstop
 have hlen:(x.folders.take k ++ ZaO u n :: x.folders.drop k).length=x.folders.length+1:=by simp;omega
 have hv9:=hins k _ (ZaO u n) (l6 ++ l6b) _ _ _ hk rfl ⟨_,_,_,_,_,_,rfl,rfl,hs6.anyK ZZ.any,hs6b.anyK Z9.any,hul,hnl,by simp [ZaO],by simp [ZaO]⟩ hv8
 exact Zv2 .ret (.inl rfl) [_] [0,1,2,4,5,6,3] (ss:=[Zap b [str x.domain,.slice q1 x.users.length c1,.slice p8 (x.folders.length+1) c8,.int .i64 x.queue.next,.slice q3 x.queue.items.length c3] 36,l1,l8,ins,l6,l6b,l3]) rfl (ss':=[Zap b [str x.domain,.slice q1 x.users.length c1,.slice p8 (x.folders.length+1) c8,.int .i64 x.queue.next,.slice q3 x.queue.items.length c3] 36,l1,l8 ++ (ins ++ (l6 ++ l6b)),l3]) (gl:=[]) (by simp [List.append_assoc]) t1 (by rw [e1,e2];simp only [DHost.withFolders,hlen];exact ⟨_,_,_,_,_,_,_,_,_,rfl,rfl,hu.anyK Zt.any,hv9,hi⟩)

theorem Zhp (hJ:Joins Tryz.prog J) (q1 q2 q3:Option Addr) (c1 c2 c3:Nat) (x:DHost) (u n:Str) (hul:u.length≤2000000) (hnl:n.length≤2000000) (hd:x.domain.length≤2000000) (a:Nat→Addr) (B:Kn) (hE:ErrsB 288 [0,2,3,1] B a) (hu:SlK B q1 c1 3 Zt x.users) (hf:SlK B q2 c2 5 Zn x.folders) (hi:SlK B q3 c3 4 ZI x.queue.items):ZA (pj J) 13 [.agg #[str x.domain,.slice q1 x.users.length c1,.slice q2 x.folders.length c2,.int .i64 x.queue.next,.slice q3 x.queue.items.length c3],str u,str n] B [] (fun v B' Ls=>∃q1 c1 q2 c2 q3 c3 l1 l2 l3,Ls=[l1,l2,l3]∧v = .tuple #[.agg #[str (ZP x u n).1.domain,.slice q1 (ZP x u n).1.users.length c1,.slice q2 (ZP x u n).1.folders.length c2,.int .i64 (ZP x u n).1.queue.next,.slice q3 (ZP x u n).1.queue.items.length c3],.int .i64 (ZP x u n).2]∧ZU Kn.none l1 q1 c1 97 3 Zt (ZP x u n).1.users∧ZaR l2 q2 c2 61 5 (Z4 109 164) (ZP x u n).1.folders∧ZaR l3 q3 c3 101 4 (Za4 9) (ZP x u n).1.queue.items):=by
 refine cB 15 Tryz.func13 (h:=?_)
 have hun:=hu.len
 have hfn:=hf.len
 have hin:=hi.len
 refine Za (xBx [_,_,_,_,_] (h:=fun b1=>xBx [_] (h:=fun b2=>xBx [_] (h:=fun b3=>xAl [_,_,_,_,_] Zci (h:=fun b4=>xA (h:=tL4 (Zow 1 rfl (fun B5 hle5 hpm5=>?_))))))))
 have hc5:=ZbH hpm5
 obtain ⟨hu,hf,hi⟩:=up3 hle5 hu hf hi
 replace hE:=hE.mono hle5
 refine Zow 2 rfl (fun B6 hle6 hpm6=>?_)
 have hc6:=ZbH hpm6
 obtain ⟨hu,hf,hi⟩:=up3 hle6 hu hf hi
 replace hc5:=hc5.mono hle6
 replace hE:=hE.mono hle6
 refine Zc (Z2 (keeps _ [0] _) mo kr ⟨Kn.le.refl _,Zba.refl _ _⟩ (fun _ _=>?_))
 refine aT 0 rfl (ZR fun D B L hI=>Z6 [_,_,_,_,_] rfl rfl Zcj rfl (ZbX 0 (hI.2.1.trans rfl) rfl rfl) r4) (h:=aT 1 rfl (ZR fun D B L hI=>Zp rfl rfl lk9 rfl ((hc6.mono hI.1) _ 0 _ rfl) r4) (h:=aT 2 rfl (ZR fun D B L hI=>Zae rfl rfl ZrM rfl (Zb4 _ om2 _) r4) (h:=?_)))
 refine Zz 3 kr rfl kr (Zc8 (xs:=[]) (ys:=[_,_]) rfl rfl rfl rfl ?_)
 refine ⟨⟨Kn.le.refl _,t1⟩,(Zz 4 kr rfl kr (ZaD rfl rfl ZwS rfl (ZlQ _ _ _ _ _ _ x (Zaf n) 45 _ (Zjk x u n) (Zjl x u n) (Zoc x u n) ZwH hJ hd a _ hE hu hf hi (fun har hok B2 b q1 q2 q3 c1 c2 c3 l1 l2 l3 hle hc9 k1 k2 k3=>by (subst hc9;exact Zs9 _ _ b q1 q2 q3 c1 c3 x l1 l2 l3 u n hul hnl oz oz hok a B2 (hE.mono hle) (hc5.mono hle) (hc6.mono hle) k1 k2 k3))) ?_))⟩
 rintro _ B8 _ hle8 ⟨Y8,d8,q18,c18,q28,c28,q38,c38,l18,l28,l38,hYd8,rfl,rfl,hu8,hf8,hi8⟩
 rw [Zjj] at hYd8
 obtain ⟨rfl,rfl⟩:=Prod.mk.inj hYd8
 refine ⟨⟨hle8,t1⟩,(aE 5 rfl (h:=aE 6 rfl (h:=ZkE 7 kr rfl kr kr (ZV [_,_,_,_,_] 3 [_,_,_,_,_] rfl rfl Zc1 rfl rfl rfl rfl rfl rfl rfl rfl ?_))))⟩
 refine aA 8 rfl (h:=ZB kr kr ?_)
 refine Zo (tL7 (Ze ?_))
 exact Zes .ret (.inl rfl) [_,_] [4,5,6] rfl ⟨⟨_,rfl,.inr ⟨[_,_,_,_,_],Zcj,ZbX 3 rfl rfl rfl,rfl⟩⟩,rfl,trivial⟩ ⟨_,_,_,_,_,_,_,_,_,rfl,rfl,hu8.anyK Zt.any,hf8,hi8⟩

theorem Zkq (q1 q2 q3:Option Addr) (c1 c2 c3:Nat) (x:DHost) (hd:x.domain.length≤140737488355328) (u n:Str) (hw1:u.length≤140737488355328) (hw2:n.length≤140737488355328) (a:Nat→Addr) (B:Kn) (hE:ErrsB 288 [0,2,3,1] B a) (hu:SlB B q1 c1 3 Zjv x.users) (hf:SlB B q2 c2 5 Zef x.folders) (hi:SlB B q3 c3 4 ZgX x.queue.items) :∃code,Tryz.f4.body=some code∧wpS (pj (Zmj Tryz.prog)) 112 code (Ze0 (pj (Zmj Tryz.prog)) [.tmp 6] (fun v B' Ls=>v = .bool true)) (ZcR [.agg #[str x.domain,.slice q1 x.users.length c1,.slice q2 x.folders.length c2,.int .i64 x.queue.next,.slice q3 x.queue.items.length c3],str u,str n] 0) [] B []:=by
 have hJ:=Zj9 Tryz.prog
 refine ⟨_,rfl,(Za (xBx [_,_,_,_,_] (h:=fun b1=>xA (h:=tL1 (Zc (Za (xM (h:=xVs Tryz.underlying9 (h:=ZdM (h:=Zb rfl (fun g1=>?_) (fun g1=>?_)))))))))))⟩
 try simp only [sQ,ne_eq] at g1
 refine Za (xA (h:=Ze (Zk ?_)))
 exact eR t1 rfl
 try simp only [sQ,ne_eq] at g1
 refine wSk (Zc (Za (xM (h:=xVs Tryz.underlying9 (h:=ZdM (h:=Zb rfl (fun g2=>?_) (fun g2=>?_)))))))
 try simp only [sQ,ne_eq] at g2
 refine Za (xA (h:=Ze (Zk ?_)))
 exact eR t1 rfl
 try simp only [sQ,ne_eq] at g2
 refine wSk (Za (xA (h:=Za (xL [_,_,_,_,_] ZsI 0 (h:=xM (h:=xR en5 rfl (ZoM _ _ _ _ _ _ x om 1048576 om om _ hu hf hi) (h:=?_)))))))
 refine xA (h:=Zc (Za (xM (h:=ZF (h:=Zb rfl (fun g3=>?_) (fun g3=>?_))))))
 try simp only [sQ,ne_eq] at g3
 refine Za (xA (h:=Ze (Zk ?_)))
 exact eR t1 rfl
 try simp only [sQ,ne_eq] at g3
 have hsz:=(Zck oz g3).2
 replace hsz:Zc0 x≤1048576:=by omega
 have hsz2:=ZnC hsz
 have hkh:=Zt5 hsz
 replace hu:=ZjF hu hsz2.2.1
 replace hf:=Zh6 hf hsz2.2.2.1
 replace hi:=Zka hi hsz2.2.2.2
 have hun:=hu.len
 have hfn:=hf.len
 have hin:=hi.len
 obtain ⟨hka,hkb,hkc,hkd⟩:=Zrl (x:=x) (u:=u) (n:=n)
 refine wSk (Za (xL [_,_,_,_,_] ZsI 0 (h:=xC en7 rfl (Zf6 _ _ _ _ _ _ x _ hu hf hi om2) (h:=?_))))
 rintro _ B3 _ hle3 ⟨q3,c3,l3,q3b,c3b,l3b,q3c,c3c,l3c,rfl,rfl,rfl,hv3,hv3b,hv3c⟩
 refine Zqd 1 rfl hv3 Zt.any om (fun B4 hle4 hr4=>?_)
 replace hu:=hu.mono Zt.mono hle4
 replace hf:=hf.mono Zn.mono hle4
 replace hi:=hi.mono ZI.mono hle4
 replace hE:=hE.mono hle4
 have hr4n:=hr4.len
 refine ZkV 2 rfl hv3b Z4.known Zn.mono om (fun B5 hle5 hr5=>?_)
 replace hu:=hu.mono Zt.mono hle5
 replace hf:=hf.mono Zn.mono hle5
 replace hi:=hi.mono ZI.mono hle5
 replace hr4:=hr4.mono Zt.mono hle5
 replace hE:=hE.mono hle5
 have hr5n:=hr5.len
 refine ZkV 3 rfl hv3c Za4.known ZI.mono om (fun B6 hle6 hr6=>?_)
 replace hu:=hu.mono Zt.mono hle6
 replace hf:=hf.mono Zn.mono hle6
 replace hi:=hi.mono ZI.mono hle6
 replace hr4:=hr4.mono Zt.mono hle6
 replace hr5:=hr5.mono Zn.mono hle6
 replace hE:=hE.mono hle6
 have hr6n:=hr6.len
 refine xM (h:=xM (h:=xQ Zw1 rfl (ZiB _ _ _ _ _ _ x u n om2 om2 om2 _ hr4 hr5 hr6) (h:=?_)))
 intro v7 B7 hle7
 rintro ⟨p17,d17,p27,d27,p37,d37,rfl,hu7,hf7,hi7,hd7⟩
 replace hu:=hu.mono Zt.mono hle7
 replace hf:=hf.mono Zn.mono hle7
 replace hi:=hi.mono ZI.mono hle7
 replace hE:=hE.mono hle7
 have hu7n:=hu7.len
 have hf7n:=hf7.len
 have hi7n:=hi7.len
 refine xM (h:=xE (h:=xE (h:=xAl [_,_,_,_,_] Zci (h:=fun b8=>xS [_,_,_,_,_] 4 [_,_,_,_,_] Zc1 (h:=xA (h:=tL5 (Za (xL [_,_,_,_,_] ZsI 0 (h:=xC en7 rfl (Zf6 _ _ _ _ _ _ x _ hu hf hi om2) (h:=?_))))))))))
 rintro _ B9 _ hle9 ⟨q9,c9,l9,q9b,c9b,l9b,q9c,c9c,l9c,rfl,rfl,rfl,hv9,hv9b,hv9c⟩
 refine xAl [_,_,_,_,_] Zci (h:=fun b10=>xS [_,_,_,_,_] 8 [_,_,_,_,_] Zc1 (h:=tL9 (Za (xL [_,_,_,_,_] Zcj 8 (h:=xM (h:=xM (h:=xK [5,6,7] rfl ZvM rfl (ZA.borrowK 3 fun hm11=>Zhp hJ _ _ _ _ _ _ x u n om2 om2 om2 a _ (hE.mono (Kn.le_add _ _)) (hv9.lendK Zt.any 0 rfl hm11 om) (hv9b.lendK Z4.known Zn.mono 1 rfl hm11 om) (hv9c.lendK Za4.known ZI.mono 2 rfl hm11 om)) (h:=?_))))))))
 rintro _ B11 _ hle11 ⟨BB11,_,rfl,hB11,_,hm11,_,q111,c111,q211,c211,q311,c311,l111,l211,l311,rfl,rfl,hu11,hf11,hi11⟩
 replace hu:=hu.mono Zt.mono hle11
 replace hf:=hf.mono Zn.mono hle11
 replace hi:=hi.mono ZI.mono hle11
 replace hu7:=hu7.mono Zt.mono hle11
 replace hf7:=hf7.mono Zn.mono hle11
 replace hi7:=hi7.mono ZI.mono hle11
 replace hv9:=hv9.mono Zt.mono hle11
 replace hE:=hE.mono hle11
 refine xM (h:=xE (h:=xE (h:=xAl [_,_,_,_,_] Zci (h:=fun b12=>xS [_,_,_,_,_] 12 [_,_,_,_,_] Zc1 (h:=xA (h:=ZvT (Zc (Za (xL [_,_,_,_,_] Zcj 12 (h:=xL [_,_,_,_,_] Zcj 4 (h:=Zq (ZfT [9,10,11] rfl rfl rfl rfl rfl en9 rfl (Zaa.borrowL fun hm13=>Zgb _ _ _ _ _ _ _ _ _ _ _ _ ((ZP x u n).1) ((ZP x u n).1) _ (hu11.lendK Zt.any 0 rfl hm13 om) (hf11.lendK Z4.known Zn.mono 1 rfl hm13 om) (hi11.lendK Za4.known ZI.mono 2 rfl hm13 om) (hu7.mono Zt.mono (Kn.le_add _ _)) (hf7.mono Zn.mono (Kn.le_add _ _)) (hi7.mono ZI.mono (Kn.le_add _ _))) ?_))))))))))))
 refine xN (h:=xM (h:=Zv (d:=50) rfl (fun g6=>by simp at g6) (fun g6=>?_)))
 try simp only [sQ,ne_eq] at g6
 refine xM (h:=xM (h:=ZaS (h:=xF (h:=Zb rfl (fun g7=>by simp at g7) (fun g7=>?_)))))
 try simp only [sQ,ne_eq] at g7
 refine wSk (Zc (Zc (Z2 (keeps _ [0,8] _) mo kr ⟨Kn.le.refl _,Zba.refl _ _⟩ (fun _ _=>?_))))
 refine aT 0 rfl (ZR fun D B L hI=>Z6 [_,_,_,_,_] rfl rfl Zcj rfl (ZbX 8 (hI.2.2.1.trans rfl) rfl rfl) r4) (h:=aT 1 rfl (ZR fun D B L hI=>Z6 [_,_,_,_,_] rfl rfl ZsI rfl (ZbX 0 (hI.2.1.trans rfl) rfl rfl) r4) (h:=Zz 2 kr rfl kr (ZaD rfl rfl en7 rfl (Zf6 _ _ _ _ _ _ x _ hu hf hi om2) ?_)))
 rintro _ B14 _ hle14 ⟨q14,c14,l14,q14b,c14b,l14b,q14c,c14c,l14c,rfl,rfl,rfl,hv14,hv14b,hv14c⟩
 refine ⟨⟨Kn.le.refl _,t2⟩,(Zti 13 rfl hv14 Zt.any om (fun B' hle'=>⟨hle',t2⟩) (fun B15 hle15 hr15=>?_))⟩
 replace hu:=hu.mono Zt.mono hle15
 replace hf:=hf.mono Zn.mono hle15
 replace hi:=hi.mono ZI.mono hle15
 replace hu7:=hu7.mono Zt.mono hle15
 replace hf7:=hf7.mono Zn.mono hle15
 replace hi7:=hi7.mono ZI.mono hle15
 replace hv9:=hv9.mono Zt.mono hle15
 replace hu11:=hu11.mono Zt.mono hle15
 replace hE:=hE.mono hle15
 have hr15n:=hr15.len
 refine ZqB 14 rfl hv14b Z4.known Zn.mono om (fun B' hle'=>⟨hle15.trans hle',t2⟩) (fun B16 hle16 hr16=>?_)
 replace hu:=hu.mono Zt.mono hle16
 replace hf:=hf.mono Zn.mono hle16
 replace hi:=hi.mono ZI.mono hle16
 replace hr15:=hr15.mono Zt.mono hle16
 replace hu7:=hu7.mono Zt.mono hle16
 replace hf7:=hf7.mono Zn.mono hle16
 replace hi7:=hi7.mono ZI.mono hle16
 replace hv9:=hv9.mono Zt.mono hle16
 replace hu11:=hu11.mono Zt.mono hle16
 replace hE:=hE.mono hle16
 have hr16n:=hr16.len
 refine ZqB 15 rfl hv14c Za4.known ZI.mono om (fun B' hle'=>⟨(hle15.trans hle16).trans hle',t2⟩) (fun B17 hle17 hr17=>?_)
 replace hu:=hu.mono Zt.mono hle17
 replace hf:=hf.mono Zn.mono hle17
 replace hi:=hi.mono ZI.mono hle17
 replace hr15:=hr15.mono Zt.mono hle17
 replace hr16:=hr16.mono Zn.mono hle17
 replace hu7:=hu7.mono Zt.mono hle17
 replace hf7:=hf7.mono Zn.mono hle17
 replace hi7:=hi7.mono ZI.mono hle17
 replace hv9:=hv9.mono Zt.mono hle17
 replace hu11:=hu11.mono Zt.mono hle17
 replace hE:=hE.mono hle17
 have hr17n:=hr17.len
 refine Zz 3 kr rfl kr (ZfT [5,6,7] rfl rfl rfl rfl rfl en9 rfl (Zaa.borrowL fun hm18=>Zgb _ _ _ _ _ _ _ _ _ _ _ _ x x _ (hv9.lendK Zt.any 0 rfl hm18 om) (hv9b.lendK Z4.known Zn.mono 1 rfl hm18 om) (hv9c.lendK Za4.known ZI.mono 2 rfl hm18 om) (hr15.mono Zt.mono (Kn.le_add _ _)) (hr16.mono Zn.mono (Kn.le_add _ _)) (hr17.mono ZI.mono (Kn.le_add _ _))) ?_)
 refine ⟨⟨((hle15.trans hle16).trans hle17),t2⟩,(aN 4 rfl (h:=ZB kr kr ?_))⟩
 refine Zo (Zmk [_,_,_,_,_,_,_,_,_,_,_,_,_,_,_,_] rfl (Zb rfl (fun g8=>by simp at g8) (fun g8=>?_)))
 try simp only [sQ,ne_eq] at g8
 refine wSk (Za (xA (h:=Za (xL [_,_,_,_,_] Zcj 8 (h:=xM (h:=xK [5,6,7] rfl ZvO rfl (Zhk _ _ _ _ _ _ x _ _ _ 1 oa oz oz oz _ (hv9.anyK Zt.any) hv9b hv9c) (h:=?_)))))))
 rintro _ B19 _ hle19 ⟨rfl,l19a,l19b,l19c,rfl,rfl,hs19a,hs19b,hs19c⟩
 refine xA (h:=Zmk [_,_,_,_,_,_,_,_,_,_,_,_,_,_,_,_] rfl (Zc (Za (xM (h:=ZF (h:=xM (h:=Zv (d:=65) rfl (fun g9=>by first | omega | (simp at g9;done) | (simp at g9;omega)) (fun g9=>?_))))))))
 try simp only [sQ,ne_eq] at g9
 refine xL [_,_,_,_,_] Zcj 12 (h:=xL [_,_,_,_,_] Zcj 4 (h:=Zq (ZfT [9,10,11] rfl rfl rfl rfl rfl en9 rfl (Zaa.borrowL fun hm20=>Zgb _ _ _ _ _ _ _ _ _ _ _ _ ((ZP x u n).1) ((ZP x u n).1) _ (hu11.lendK Zt.any 0 rfl hm20 om) (hf11.lendK Z4.known Zn.mono 1 rfl hm20 om) (hi11.lendK Za4.known ZI.mono 2 rfl hm20 om) (hu7.mono Zt.mono (Kn.le_add _ _)) (hf7.mono Zn.mono (Kn.le_add _ _)) (hi7.mono ZI.mono (Kn.le_add _ _))) ?_)))
 refine xN (h:=xF (h:=xM (h:=Zv (d:=71) rfl (fun ga=>by simp at ga) (fun ga=>?_))))
 try simp only [sQ,ne_eq] at ga
 refine xM (h:=xM (h:=ZaS (h:=xF (h:=Zb rfl (fun gb=>by simp at gb) (fun gb=>?_)))))
 try simp only [sQ,ne_eq] at gb
 refine wSk (Za (xA (h:=Za (xL [_,_,_,_,_] Zcj 12 (h:=xM (h:=xK [9,10,11] rfl ZvO rfl (Zhk _ _ _ _ _ _ ((ZP x u n).1) _ _ _ 1 oa oz oz oz _ (hu11.anyK Zt.any) hf11 hi11) (h:=?_)))))))
 rintro _ B21 _ hle21 ⟨rfl,l21a,l21b,l21c,rfl,rfl,hs21a,hs21b,hs21c⟩
 refine xA (h:=Zmk [_,_,_,_,_,_,_,_,_,_,_,_,_,_,_,_] rfl (Za (xA (h:=Za (xL [_,_,_,_,_] Zcj 12 (h:=xM (h:=Zq (ZfT [9,10,11] rfl rfl rfl rfl rfl ZvN rfl (Zaa.borrowL fun hm22=>Zhq _ _ _ _ _ _ (ZP x u n).1 1 oa _ (hs21a.lendK Zt.any 0 rfl hm22 (by simp only [Zan,Zat,Za9,Za2,ZdB];omega)) (hs21b.lendK Z4.known Zn.mono 1 rfl hm22 (by simp only [Zan,Zat,Za9,Za2,ZdB];omega)) (hs21c.lendK Za4.known ZI.mono 2 rfl hm22 (by simp only [Zan,Zat,Za9,Za2,ZdB];omega))) ?_))))))))
 refine xA (h:=Zc (Za (xM (h:=ZF (h:=Zb rfl (fun gc=>by first | omega | (simp at gc;done) | (simp at gc;omega)) (fun gc=>?_))))))
 try simp only [sQ,ne_eq] at gc
 refine wSk (Zc (Za (xM (h:=xM (h:=ZaS (h:=Zb rfl (fun gd=>by simp at gd) (fun gd=>?_)))))))
 try simp only [sQ,ne_eq] at gd
 refine wSk (Za (xL [_,_,_,_,_] ZsI 0 (h:=xC en7 rfl (Zf6 _ _ _ _ _ _ x _ hu hf hi om2) (h:=?_))))
 rintro _ B23 _ hle23 ⟨q23,c23,l23,q23b,c23b,l23b,q23c,c23c,l23c,rfl,rfl,rfl,hv23,hv23b,hv23c⟩
 refine Zqd 16 rfl hv23 Zt.any om (fun B24 hle24 hr24=>?_)
 replace hu7:=hu7.mono Zt.mono hle24
 replace hf7:=hf7.mono Zn.mono hle24
 replace hi7:=hi7.mono ZI.mono hle24
 replace hs21a:=hs21a.mono Zt.mono hle24
 replace hE:=hE.mono hle24
 have hr24n:=hr24.len
 refine ZkV 17 rfl hv23b Z4.known Zn.mono om (fun B25 hle25 hr25=>?_)
 replace hr24:=hr24.mono Zt.mono hle25
 replace hu7:=hu7.mono Zt.mono hle25
 replace hf7:=hf7.mono Zn.mono hle25
 replace hi7:=hi7.mono ZI.mono hle25
 replace hs21a:=hs21a.mono Zt.mono hle25
 replace hE:=hE.mono hle25
 have hr25n:=hr25.len
 refine ZkV 18 rfl hv23c Za4.known ZI.mono om (fun B26 hle26 hr26=>?_)
 replace hr24:=hr24.mono Zt.mono hle26
 replace hr25:=hr25.mono Zn.mono hle26
 replace hu7:=hu7.mono Zt.mono hle26
 replace hf7:=hf7.mono Zn.mono hle26
 replace hi7:=hi7.mono ZI.mono hle26
 replace hs21a:=hs21a.mono Zt.mono hle26
 replace hE:=hE.mono hle26
 have hr26n:=hr26.len
 refine xM (h:=xM (h:=xC ZvM rfl (Zhp hJ _ _ _ _ _ _ x u n om2 om2 om2 a _ hE hr24 hr25 hr26) (h:=?_)))
 rintro _ B27 _ hle27 ⟨q127,c127,q227,c227,q327,c327,l127,l227,l327,rfl,rfl,hu27,hf27,hi27⟩
 replace hu7:=hu7.mono Zt.mono hle27
 replace hf7:=hf7.mono Zn.mono hle27
 replace hi7:=hi7.mono ZI.mono hle27
 replace hs21a:=hs21a.mono Zt.mono hle27
 refine xM (h:=xE (h:=xE (h:=xAl [_,_,_,_,_] Zci (h:=fun b28=>xS [_,_,_,_,_] 22 [_,_,_,_,_] Zc1 (h:=xA (h:=Zmk [_,_,_,_,_,_,_,_,_,_,_,_,_,_,_,_,_,_,_,_,_,_,_] rfl (Zc (Za (xL [_,_,_,_,_] Zcj 22 (h:=xL [_,_,_,_,_] Zcj 4 (h:=Zq (ZfT [19,20,21] rfl rfl rfl rfl rfl en9 rfl (Zaa.borrowL fun hm29=>Zgb _ _ _ _ _ _ _ _ _ _ _ _ ((ZP x u n).1) ((ZP x u n).1) _ (hu27.lendK Zt.any 0 rfl hm29 om) (hf27.lendK Z4.known Zn.mono 1 rfl hm29 om) (hi27.lendK Za4.known ZI.mono 2 rfl hm29 om) (hu7.mono Zt.mono (Kn.le_add _ _)) (hf7.mono Zn.mono (Kn.le_add _ _)) (hi7.mono ZI.mono (Kn.le_add _ _))) ?_))))))))))))
 refine xN (h:=xM (h:=Zv (d:=99) rfl (fun ge=>by simp at ge) (fun ge=>?_)))
 try simp only [sQ,ne_eq] at ge
 refine xM (h:=xM (h:=ZaS (h:=xF (h:=Zb rfl (fun gf=>by simp at gf) (fun gf=>?_)))))
 try simp only [sQ,ne_eq] at gf
 refine wSk (Za (xA (h:=Za (xL [_,_,_,_,_] Zcj 12 (h:=xM (h:=Zq (ZfT [9,10,11] rfl rfl rfl rfl rfl ZvN rfl (Zaa.borrowL fun hm30=>Zhq _ _ _ _ _ _ (ZP x u n).1 1 oa _ (hs21a.lendK Zt.any 0 rfl hm30 (by simp only [Zan,Zat,Za9,Za2,ZdB];omega)) (hs21b.lendK Z4.known Zn.mono 1 rfl hm30 (by simp only [Zan,Zat,Za9,Za2,ZdB];omega)) (hs21c.lendK Za4.known ZI.mono 2 rfl hm30 (by simp only [Zan,Zat,Za9,Za2,ZdB];omega))) ?_)))))))
 refine xA (h:=Zc (Za (xM (h:=ZF (h:=Zb rfl (fun gg=>by first | omega | (simp at gg;done) | (simp at gg;omega)) (fun gg=>?_))))))
 try simp only [sQ,ne_eq] at gg
 refine wSk (Zc (Za (xM (h:=xM (h:=ZaS (h:=Zb rfl (fun gh=>by simp at gh) (fun gh=>?_)))))))
 try simp only [sQ,ne_eq] at gh
 refine wSk (Za (xA (h:=Ze ?_)))
 exact eR t1 rfl

end Go.Proofs.YtgbaglnnkikkgaaGreatDoor
