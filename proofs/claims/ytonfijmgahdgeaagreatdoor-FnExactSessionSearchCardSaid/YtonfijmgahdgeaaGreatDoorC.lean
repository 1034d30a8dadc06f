/-
  Each function's contract, proved off its printed body (written by program).
-/
import Derived.Test.YtonfijmgahdgeaaGreatDoorC3
namespace Go.Proofs.YtonfijmgahdgeaaGreatDoor
open Go Go.BL
set_option linter.unusedVariables false
set_option linter.unusedSimpArgs false
set_option maxRecDepth 4000
set_option maxHeartbeats 6400000
variable {J : JoinT}
theorem ZnG (q1 q2 q3:Option Addr) (c1 c2 c3:Nat) (x:DHost) (hd:x.domain.length≤140737488355328) (u w z:Str) (hw1:u.length≤140737488355328) (hw2:w.length≤140737488355328) (hw3:z.length≤140737488355328) (n:Nat) (qs qk:Option Addr) (cs ck:Nat) (y:DKey) (hyt:y.text.length≤140737488355328) (M:Int) (B:Kn) (a:Nat→Addr) (hE:ErrsB 392 [0,1,2,3] B a) (hG:GlobB 4 5 B M) (hu:SlB B q1 c1 3 ZmB x.users) (hf:SlB B q2 c2 5 Zfa x.folders) (hi:SlB B q3 c3 4 ZiK x.queue.items) (hys:SlB B qs cs 2 ZN y.set) (hyk:SlB B qk ck 5 (ZkP n) y.keys) :∃code,Tryz.f4.body=some code∧wpS (pj (Zqj Tryz.prog)) 132 code (Zgz (pj (Zqj Tryz.prog)) [.tmp 6] (fun v B' Ls=>v = .bool true)) (ZdA [.agg #[str x.domain,.slice q1 x.users.length c1,.slice q2 x.folders.length c2,.int .i64 x.queue.next,.slice q3 x.queue.items.length c3],.agg #[str u,str w,str z],.agg #[.int .i64 y.kind,.int .i64 y.flag,str y.text,.slice qs y.set.length cs,.slice qk y.keys.length ck]] 0) [] B []:=by
 have hJ:=Znt Tryz.prog
 refine ⟨_,rfl,(Za (xBx [_,_,_,_,_] (h:=fun b1=>xBx [_,_,_] (h:=fun b2=>xBx [_,_,_,_,_] (h:=fun b3=>xA (h:=tL3 (Za (xA (h:=Za (xL [_,_,_,_,_] ZzW 0 (h:=xM (h:=xR en5 rfl (Zul _ _ _ _ _ _ x om 1048576 om om _ hu hf hi) (h:=?_)))))))))))))⟩
 refine xA (h:=Ze (Za (xM (h:=ZC (h:=Zb rfl (fun g1=>?_) (fun g1=>?_))))))
 try simp only [sQ,ne_eq] at g1
 refine Za (xA (h:=Zf (Zj ?_)))
 exact eR t1 rfl
 try simp only [sQ,ne_eq] at g1
 have hsg:=Zby (left:=1048576) oz g1
 refine wSk (Za (xL [_,_,_] ZA4 1 (h:=xM (h:=xR en6 rfl (ZmS u w z om2 om2 om2 (szI 1048576 (Zc3 x)) om2 om2 _) (h:=?_)))))
 refine xA (h:=Ze (Za (xM (h:=ZC (h:=Zb rfl (fun g2=>?_) (fun g2=>?_))))))
 try simp only [sQ,ne_eq] at g2
 refine Za (xA (h:=Zf (Zj ?_)))
 exact eR t1 rfl
 try simp only [sQ,ne_eq] at g2
 have hsg4:=Zby oz g2
 refine wSk (Za (xL [_,_,_,_,_] ZxK 2 (h:=xM (h:=xR ZEJ rfl ((Zq3 _).2 _ _ _ _ y om2 (szI (szI 1048576 (Zc3 x)) (u.length+w.length+z.length)) om2 om2 _ hys hyk) (h:=?_)))))
 refine xA (h:=Ze (Za (xM (h:=ZC (h:=Zb rfl (fun g3=>?_) (fun g3=>?_))))))
 try simp only [sQ,ne_eq] at g3
 refine Za (xA (h:=Zf (Zj ?_)))
 exact eR t1 rfl
 try simp only [sQ,ne_eq] at g3
 have hsg5:=Zby oz g3
 have hsz:Zc3 x≤1048576:=by have:=hsg.2;omega
 have hsu:=hsg4.2
 have hky:ZcQ y≤1048576:=by have:=hsg5.2;omega
 have hks:=ZoE hky
 have hnd:y.nodes≤2000000:=by have:=Zov y;omega
 have hsz2:=Zsj hsz
 have hkh:=ZCe hsz
 have hkk:=ZCc (k:=kH 1 x) hky oz
 replace hu:=ZmM hu hsz2.2.1
 replace hf:=Zkl hf hsz2.2.2.1
 replace hi:=Znu hi hsz2.2.2.2
 have hs9:SlK _ qs cs 2 ZN y.set:=hys.small oz (fun _ _ _ hr=>hr)
 replace hys:=hs9
 replace hyk:=ZpO hyk hks.2.2
 have hun:=hu.len
 have hfn:=hf.len
 have hin:=hi.len
 have hysn:=hys.len
 have hykn:=hyk.len
 have hll:=Zm1 (x:=x) (s:=⟨u,w,z⟩) (k:=y)
 refine wSk (ZeQ (α:=Option Addr × Nat) [0,1,2,3,4,5,6,7,23,28,33] (fun o1=>[(8,.slice o1.1 (Zaq x ⟨u,w,z⟩ y).1.length o1.2),(9,.int .i64 (Zaq x ⟨u,w,z⟩ y).2)]) [] (fun o1=>[]) (fun o1=>[]) (fun o1 Bx=>SlK Bx o1.1 o1.2 1 Z9 (Zaq x ⟨u,w,z⟩ y).1) ?_ (fun o1 B7 hle7 hF=>?_))
 refine ZW (keeps _ [0,1,2] _) mo kr ⟨Kn.le.refl _,ZaH.refl _ _⟩ (fun _ _=>?_)
 refine aT 0 rfl (ZO fun D B L hI=>ZI [_,_,_,_,_] rfl rfl ZzW rfl (ZbZ 0 (hI.2.1.trans rfl) rfl rfl) r4) (h:=aT 2 rfl (ZO fun D B L hI=>ZI [_,_,_] rfl rfl ZA4 rfl (ZbZ 1 (hI.2.2.1.trans rfl) rfl rfl) r4) (h:=aT 4 rfl (ZO fun D B L hI=>ZI [_,_,_,_,_] rfl rfl ZxK rfl (ZbZ 2 (hI.2.2.2.1.trans rfl) rfl rfl) r4) (h:=ZV 1 kr rfl kr (Zb9 rfl rfl en9 rfl (ZhD _ _ _ _ _ _ x _ hu hf hi om2) ?_))))
 rintro _ B8 _ hle8 ⟨q8,c8,l8,q8b,c8b,l8b,q8c,c8c,l8c,rfl,rfl,rfl,hv8,hv8b,hv8c⟩
 refine ⟨⟨Kn.le.refl _,t3⟩,(Zek [_,_,_,_,_,_] rfl ?_)⟩
 refine ZjC 3 rfl hv8 ZL.any om (fun B' hle'=>⟨hle',t3⟩) (fun B9 hle9 hr9=>?_)
 replace hu:=hu.mono ZL.mono hle9
 replace hf:=hf.mono ZF.mono hle9
 replace hi:=hi.mono Zar.mono hle9
 replace hys:=hys.mono ZN.mono hle9
 replace hyk:=hyk.mono Zbw.mono hle9
 replace hE:=hE.mono hle9
 replace hG:=hG.mono hle9
 have hr9n:=hr9.len
 refine ZgB 4 rfl hv8b Zai.known ZF.mono om (fun B' hle'=>⟨hle9.trans hle',t3⟩) (fun B10 hle10 hr10=>?_)
 replace hu:=hu.mono ZL.mono hle10
 replace hf:=hf.mono ZF.mono hle10
 replace hi:=hi.mono Zar.mono hle10
 replace hys:=hys.mono ZN.mono hle10
 replace hyk:=hyk.mono Zbw.mono hle10
 replace hr9:=hr9.mono ZL.mono hle10
 replace hE:=hE.mono hle10
 replace hG:=hG.mono hle10
 have hr10n:=hr10.len
 refine ZgB 5 rfl hv8c ZbE.known Zar.mono om (fun B' hle'=>⟨(hle9.trans hle10).trans hle',t3⟩) (fun B11 hle11 hr11=>?_)
 replace hu:=hu.mono ZL.mono hle11
 replace hf:=hf.mono ZF.mono hle11
 replace hi:=hi.mono Zar.mono hle11
 replace hys:=hys.mono ZN.mono hle11
 replace hyk:=hyk.mono Zbw.mono hle11
 replace hr9:=hr9.mono ZL.mono hle11
 replace hr10:=hr10.mono ZF.mono hle11
 replace hE:=hE.mono hle11
 replace hG:=hG.mono hle11
 have hr11n:=hr11.len
 refine ZV 3 kr rfl kr (Z5 rfl rfl ZEf rfl (ZfL u w z _) ?_)
 refine ⟨⟨((hle9.trans hle10).trans hle11),t3⟩,(Zek [_,_,_,_,_,_] rfl ?_)⟩
 refine ZV 5 kr rfl kr (Zb9 rfl rfl ZAy rfl ((Zgc _).2 _ _ _ _ y om2 _ hys hyk) ?_)
 rintro _ B13 _ hle13 ⟨q13,c13,l13,q13b,c13b,l13b,rfl,rfl,rfl,hv13,hw13⟩
 refine ⟨⟨((hle9.trans hle10).trans hle11),t3⟩,(Zek [_,_,_,_,_,_,_,_] rfl ?_)⟩
 refine ZjC 6 rfl hv13 ZN.any om (fun B' hle'=>⟨((hle9.trans hle10).trans hle11).trans hle',t3⟩) (fun B14 hle14 hr14=>?_)
 replace hu:=hu.mono ZL.mono hle14
 replace hf:=hf.mono ZF.mono hle14
 replace hi:=hi.mono Zar.mono hle14
 replace hys:=hys.mono ZN.mono hle14
 replace hyk:=hyk.mono Zbw.mono hle14
 replace hr9:=hr9.mono ZL.mono hle14
 replace hr10:=hr10.mono ZF.mono hle14
 replace hr11:=hr11.mono Zar.mono hle14
 replace hE:=hE.mono hle14
 replace hG:=hG.mono hle14
 have hr14n:=hr14.len
 refine ZgB 7 rfl hw13 Zhz.known Zbw.mono om (fun B' hle'=>⟨(((hle9.trans hle10).trans hle11).trans hle14).trans hle',t3⟩) (fun B15 hle15 hr15=>?_)
 replace hu:=hu.mono ZL.mono hle15
 replace hf:=hf.mono ZF.mono hle15
 replace hi:=hi.mono Zar.mono hle15
 replace hys:=hys.mono ZN.mono hle15
 replace hyk:=hyk.mono Zbw.mono hle15
 replace hr9:=hr9.mono ZL.mono hle15
 replace hr10:=hr10.mono ZF.mono hle15
 replace hr11:=hr11.mono Zar.mono hle15
 replace hr14:=hr14.mono ZN.mono hle15
 replace hE:=hE.mono hle15
 replace hG:=hG.mono hle15
 have hr15n:=hr15.len
 refine ZV 6 kr rfl kr (ZjG rfl rfl ZFU rfl (Zph _ _ _ _ _ _ _ x (⟨u,w,z⟩:DSess) om2 om2 om2 _ _ _ _ y om2 om2 om2 _ hr9 hr10 hr11 hr14 hr15) ?_)
 intro v16 B16 hle16
 rintro ⟨qz16,cz16,rfl,hz16⟩
 replace hu:=hu.mono ZL.mono hle16
 replace hf:=hf.mono ZF.mono hle16
 replace hi:=hi.mono Zar.mono hle16
 replace hys:=hys.mono ZN.mono hle16
 replace hyk:=hyk.mono Zbw.mono hle16
 replace hE:=hE.mono hle16
 replace hG:=hG.mono hle16
 have hz16n:=hz16.len
 refine ⟨⟨(((((hle9.trans hle10).trans hle11).trans hle14).trans hle15).trans hle16),t3⟩,(Zek [_,_,_,_,_,_,_,_] rfl ?_)⟩
 refine aM 7 rfl (h:=aE 8 rfl (h:=aE 9 rfl (h:=aA 10 rfl (h:=aA 11 rfl (h:=Zy kr kr ?_)))))
 exact ZX (_,_) [0,1,2] hz16 t13 rfl
 have hz1:=hF
 have hz1n:=hz1.len
 replace hu:=hu.mono ZL.mono hle7
 replace hf:=hf.mono ZF.mono hle7
 replace hi:=hi.mono Zar.mono hle7
 replace hys:=hys.mono ZN.mono hle7
 replace hyk:=hyk.mono Zbw.mono hle7
 replace hE:=hE.mono hle7
 replace hG:=hG.mono hle7
 refine Zz [(0,_),(1,_),(2,_),(3,_),(4,_),(5,_),(6,_),(7,_),(8,_),(9,_),(23,_),(28,_),(33,_)] [_,_,_] t13 rfl (Za (xL [_,_,_,_,_] ZzW 0 (h:=xC en9 rfl (ZhD _ _ _ _ _ _ x _ hu hf hi om2) (h:=?_))))
 rintro _ B17 _ hle17 ⟨q17,c17,l17,q17b,c17b,l17b,q17c,c17c,l17c,rfl,rfl,rfl,hv17,hv17b,hv17c⟩
 refine xAl [_,_,_,_,_] Zqq (h:=fun b18=>xS [_,_,_,_,_] 6 [_,_,_,_,_] Zq6 (h:=tL7 (Za (xL [_,_,_,_,_] ZxK 2 (h:=xC ZAy rfl ((Zgc _).2 _ _ _ _ y om2 _ hys hyk) (h:=?_))))))
 rintro _ B19 _ hle19 ⟨q19,c19,l19,q19b,c19b,l19b,rfl,rfl,rfl,hv19,hw19⟩
 refine xAl [_,_,_,_,_] ZyV (h:=fun b20=>xS [_,_,_,_,_] 9 [_,_,_,_,_] Zi1 (h:=ZtG (ZeQ (α:=Option Addr × Nat × Cells) [0,1,2,3,4,5,6,7,8,9,10,11,23,28,33] (fun o2=>[(12,.slice o2.1 (Zaq x ⟨u,w,z⟩ y).1.length o2.2.1),(13,.int .i64 (Zaq x ⟨u,w,z⟩ y).2)]) [] (fun o2=>[]) (fun o2=>[o2.2.2]) (fun o2 Bx=>ZR Kn.none o2.2.2 o2.1 o2.2.1 3 1 Z9 (Zaq x ⟨u,w,z⟩ y).1) ?_ (fun o2 B21 hle21 hF=>?_))))
 refine ZW (keeps _ [1,6,9] _) mo kr ⟨Kn.le.refl _,ZaH.refl _ _⟩ (fun _ _=>?_)
 refine aT 0 rfl (ZO fun D B L hI=>ZI [_,_,_,_,_] rfl rfl ZgD rfl (ZbZ 6 (hI.2.2.1.trans rfl) rfl rfl) r4) (h:=aT 1 rfl (ZO fun D B L hI=>ZI [_,_,_] rfl rfl ZA4 rfl (ZbZ 1 (hI.2.1.trans rfl) rfl rfl) r4) (h:=aT 2 rfl (ZO fun D B L hI=>Z5 rfl rfl ZEf rfl (ZfL u w z _) r4) (h:=aT 3 rfl (ZO fun D B L hI=>ZI [_,_,_,_,_] rfl rfl ZfW rfl (ZbZ 9 (hI.2.2.2.1.trans rfl) rfl rfl) r4) (h:=ZV 4 kr rfl kr (Zbx [3,4,5,7,8] rfl rfl rfl rfl ZEI rfl (Zu.borrowK 5 fun hm23=>Zjk hJ _ _ _ _ _ _ _ x u w z om2 om2 om2 _ _ _ _ y om2 _ om2 a _ (hE.mono (Kn.le_add _ _)) (hv17.lendK ZL.any 0 rfl hm23 om) (hv17b.lendK Zai.known ZF.mono 1 rfl hm23 om) (hv17c.lendK ZbE.known Zar.mono 2 rfl hm23 om) (hG.mono (Kn.le_add _ _)) (hv19.lendK ZN.any 3 rfl hm23 om) (hw19.lendK Zhz.known Zbw.mono 4 rfl hm23 om)) ?_)))))
 rintro _ B23 _ hle23 ⟨BB23,_,rfl,hB23,_,hm23,_,qe23,ce23,le23,rfl,rfl,hy23⟩
 replace hu:=hu.mono ZL.mono hle23
 replace hf:=hf.mono ZF.mono hle23
 replace hi:=hi.mono Zar.mono hle23
 replace hys:=hys.mono ZN.mono hle23
 replace hyk:=hyk.mono Zbw.mono hle23
 replace hz1:=hz1.mono Z9.mono hle23
 replace hv17:=hv17.mono ZL.mono hle23
 replace hv19:=hv19.mono ZN.mono hle23
 replace hE:=hE.mono hle23
 replace hG:=hG.mono hle23
 refine ⟨⟨hle23,t3⟩,(Zek [_,_,_,_,_,_,_,_,_,_,_] rfl ?_)⟩
 refine aM 5 rfl (h:=aE 6 rfl (h:=aE 7 rfl (h:=aA 8 rfl (h:=aA 9 rfl (h:=Zy kr kr ?_)))))
 exact ZlH (_,_,_) [_,_,_,_,_,_,_,_,_,_,_] rfl [0,1,2,3,4,5,6,7,8,9,10] (hy23.anyK Z9.any) t17 rfl
 have hz2:=hF
 replace hu:=hu.mono ZL.mono hle21
 replace hf:=hf.mono ZF.mono hle21
 replace hi:=hi.mono Zar.mono hle21
 replace hys:=hys.mono ZN.mono hle21
 replace hyk:=hyk.mono Zbw.mono hle21
 replace hz1:=hz1.mono Z9.mono hle21
 replace hv17:=hv17.mono ZL.mono hle21
 replace hv19:=hv19.mono ZN.mono hle21
 replace hE:=hE.mono hle21
 replace hG:=hG.mono hle21
 refine Zz [(0,_),(1,_),(2,_),(3,_),(4,_),(5,_),(6,_),(7,_),(8,_),(9,_),(10,_),(11,_),(12,_),(13,_),(23,_),(28,_),(33,_)] [_,_,_,_,_,_,_,_,_,_,_] t17 rfl (Ze (Za (xM (h:=xM (h:=Zh (Zfw 10 rfl rfl rfl ZCZ rfl (Z1.borrow fun hm24=>Zky _ _ _ _ _ _ _ ((hz2.anyK Z9.any).lend Z9.mono hm24 om) (hz1.mono Z9.mono (Kn.le_add _ _))) ?_))))))
 refine xN (h:=xM (h:=Zq (d:=60) rfl (fun g6=>by simp at g6) (fun g6=>?_)))
 try simp only [sQ,ne_eq] at g6
 refine xM (h:=xM (h:=Zaa (h:=xF (h:=Zb rfl (fun g7=>by simp at g7) (fun g7=>?_)))))
 try simp only [sQ,ne_eq] at g7
 refine wSk (Ze (Ze (ZW (keeps _ [0,6] _) mo kr ⟨Kn.le.refl _,ZaH.refl _ _⟩ (fun _ _=>?_))))
 refine aT 0 rfl (ZO fun D B L hI=>ZI [_,_,_,_,_] rfl rfl ZgD rfl (ZbZ 6 (hI.2.2.1.trans rfl) rfl rfl) r4) (h:=aT 1 rfl (ZO fun D B L hI=>ZI [_,_,_,_,_] rfl rfl ZzW rfl (ZbZ 0 (hI.2.1.trans rfl) rfl rfl) r4) (h:=ZV 2 kr rfl kr (Zb9 rfl rfl en9 rfl (ZhD _ _ _ _ _ _ x _ hu hf hi om2) ?_)))
 rintro _ B25 _ hle25 ⟨q25,c25,l25,q25b,c25b,l25b,q25c,c25c,l25c,rfl,rfl,rfl,hv25,hv25b,hv25c⟩
 refine ⟨⟨Kn.le.refl _,t2⟩,(Zek [_,_,_,_,_,_,_,_,_,_,_,_,_,_] rfl ?_)⟩
 refine ZjC 11 rfl hv25 ZL.any om (fun B' hle'=>⟨hle',t2⟩) (fun B26 hle26 hr26=>?_)
 replace hu:=hu.mono ZL.mono hle26
 replace hf:=hf.mono ZF.mono hle26
 replace hi:=hi.mono Zar.mono hle26
 replace hys:=hys.mono ZN.mono hle26
 replace hyk:=hyk.mono Zbw.mono hle26
 replace hz1:=hz1.mono Z9.mono hle26
 replace hv17:=hv17.mono ZL.mono hle26
 replace hv19:=hv19.mono ZN.mono hle26
 replace hz2:=hz2.mono Z9.mono hle26
 replace hE:=hE.mono hle26
 replace hG:=hG.mono hle26
 have hr26n:=hr26.len
 refine ZgB 12 rfl hv25b Zai.known ZF.mono om (fun B' hle'=>⟨hle26.trans hle',t2⟩) (fun B27 hle27 hr27=>?_)
 replace hu:=hu.mono ZL.mono hle27
 replace hf:=hf.mono ZF.mono hle27
 replace hi:=hi.mono Zar.mono hle27
 replace hys:=hys.mono ZN.mono hle27
 replace hyk:=hyk.mono Zbw.mono hle27
 replace hz1:=hz1.mono Z9.mono hle27
 replace hr26:=hr26.mono ZL.mono hle27
 replace hv17:=hv17.mono ZL.mono hle27
 replace hv19:=hv19.mono ZN.mono hle27
 replace hz2:=hz2.mono Z9.mono hle27
 replace hE:=hE.mono hle27
 replace hG:=hG.mono hle27
 have hr27n:=hr27.len
 refine ZgB 13 rfl hv25c ZbE.known Zar.mono om (fun B' hle'=>⟨(hle26.trans hle27).trans hle',t2⟩) (fun B28 hle28 hr28=>?_)
 replace hu:=hu.mono ZL.mono hle28
 replace hf:=hf.mono ZF.mono hle28
 replace hi:=hi.mono Zar.mono hle28
 replace hys:=hys.mono ZN.mono hle28
 replace hyk:=hyk.mono Zbw.mono hle28
 replace hz1:=hz1.mono Z9.mono hle28
 replace hr26:=hr26.mono ZL.mono hle28
 replace hr27:=hr27.mono ZF.mono hle28
 replace hv17:=hv17.mono ZL.mono hle28
 replace hv19:=hv19.mono ZN.mono hle28
 replace hz2:=hz2.mono Z9.mono hle28
 replace hE:=hE.mono hle28
 replace hG:=hG.mono hle28
 have hr28n:=hr28.len
 refine ZV 3 kr rfl kr (Zn3 [3,4,5] rfl rfl rfl rfl rfl ZFX rfl (Z1.borrowL fun hm29=>Zvz _ _ _ _ _ _ _ _ _ _ _ _ x x _ (hv17.lendK ZL.any 0 rfl hm29 om) (hv17b.lendK Zai.known ZF.mono 1 rfl hm29 om) (hv17c.lendK ZbE.known Zar.mono 2 rfl hm29 om) (hr26.mono ZL.mono (Kn.le_add _ _)) (hr27.mono ZF.mono (Kn.le_add _ _)) (hr28.mono Zar.mono (Kn.le_add _ _))) ?_)
 refine ⟨⟨((hle26.trans hle27).trans hle28),t2⟩,(Zek [_,_,_,_,_,_,_,_,_,_,_,_,_,_] rfl ?_)⟩
 refine aN 4 rfl (h:=Zy kr kr ?_)
 refine Zm (ZER (Zb rfl (fun g8=>by simp at g8) (fun g8=>?_)))
 try simp only [sQ,ne_eq] at g8
 refine wSk (Ze (Ze (ZW (keeps _ [2,9] _) mo kr ⟨Kn.le.refl _,ZaH.refl _ _⟩ (fun _ _=>?_))))
 refine aT 0 rfl (ZO fun D B L hI=>ZI [_,_,_,_,_] rfl rfl ZfW rfl (ZbZ 9 (hI.2.2.1.trans rfl) rfl rfl) r4) (h:=aT 1 rfl (ZO fun D B L hI=>ZI [_,_,_,_,_] rfl rfl ZxK rfl (ZbZ 2 (hI.2.1.trans rfl) rfl rfl) r4) (h:=ZV 2 kr rfl kr (Zb9 rfl rfl ZAy rfl ((Zgc _).2 _ _ _ _ y om2 _ hys hyk) ?_)))
 rintro _ B30 _ hle30 ⟨q30,c30,l30,q30b,c30b,l30b,rfl,rfl,rfl,hv30,hw30⟩
 refine ⟨⟨Kn.le.refl _,t2⟩,(Zek [_,_,_,_,_,_,_,_,_,_,_,_,_,_,_,_] rfl ?_)⟩
 refine ZjC 14 rfl hv30 ZN.any om (fun B' hle'=>⟨hle',t2⟩) (fun B31 hle31 hr31=>?_)
 replace hu:=hu.mono ZL.mono hle31
 replace hf:=hf.mono ZF.mono hle31
 replace hi:=hi.mono Zar.mono hle31
 replace hys:=hys.mono ZN.mono hle31
 replace hyk:=hyk.mono Zbw.mono hle31
 replace hz1:=hz1.mono Z9.mono hle31
 replace hv17:=hv17.mono ZL.mono hle31
 replace hv19:=hv19.mono ZN.mono hle31
 replace hz2:=hz2.mono Z9.mono hle31
 replace hE:=hE.mono hle31
 replace hG:=hG.mono hle31
 have hr31n:=hr31.len
 refine ZgB 15 rfl hw30 Zhz.known Zbw.mono om (fun B' hle'=>⟨hle31.trans hle',t2⟩) (fun B32 hle32 hr32=>?_)
 replace hu:=hu.mono ZL.mono hle32
 replace hf:=hf.mono ZF.mono hle32
 replace hi:=hi.mono Zar.mono hle32
 replace hys:=hys.mono ZN.mono hle32
 replace hyk:=hyk.mono Zbw.mono hle32
 replace hz1:=hz1.mono Z9.mono hle32
 replace hr31:=hr31.mono ZN.mono hle32
 replace hv17:=hv17.mono ZL.mono hle32
 replace hv19:=hv19.mono ZN.mono hle32
 replace hz2:=hz2.mono Z9.mono hle32
 replace hE:=hE.mono hle32
 replace hG:=hG.mono hle32
 have hr32n:=hr32.len
 refine ZV 3 kr rfl kr (Zn3 [7,8] rfl rfl rfl rfl rfl ZEH rfl (Z1.borrowL fun hm33=>(Zs1 _).2 _ _ _ _ _ _ _ _ y y _ (hv19.lendK ZN.any 0 rfl hm33 om) (hw19.lendK Zhz.known Zbw.mono 1 rfl hm33 om) (hr31.mono ZN.mono (Kn.le_add _ _)) (hr32.mono Zbw.mono (Kn.le_add _ _))) ?_)
 refine ⟨⟨(hle31.trans hle32),t2⟩,(Zek [_,_,_,_,_,_,_,_,_,_,_,_,_,_,_,_] rfl ?_)⟩
 refine aN 4 rfl (h:=Zy kr kr ?_)
 refine Zm (Zo2 [_,_,_,_,_,_,_,_,_,_,_,_,_,_,_,_] rfl (Zb rfl (fun g9=>by simp at g9) (fun g9=>?_)))
 try simp only [sQ,ne_eq] at g9
 refine wSk (Za (xA (h:=Za (xL [_,_,_,_,_] ZgD 6 (h:=xM (h:=xK [3,4,5] rfl ZFV rfl (ZpE _ _ _ _ _ _ x _ _ _ 1 oa oz oz oz _ (hv17.anyK ZL.any) hv17b hv17c) (h:=?_)))))))
 rintro _ B34 _ hle34 ⟨rfl,l34a,l34b,l34c,rfl,rfl,hs34a,hs34b,hs34c⟩
 refine xA (h:=Zo2 [_,_,_,_,_,_,_,_,_,_,_,_,_,_,_,_] rfl (Za (xL [_,_,_,_,_] ZfW 9 (h:=xM (h:=xK [7,8] rfl ZFT rfl (ZrU _ _ _ _ _ y _ _ (kH 1 x) om2 om2 om2 _ hv19 hw19) (h:=?_))))))
 rintro _ B35 _ hle35 ⟨rfl,l35a,l35b,rfl,rfl⟩
 refine xA (h:=Zo2 [_,_,_,_,_,_,_,_,_,_,_,_,_,_,_,_] rfl (Ze (Za (xM (h:=ZC (h:=xM (h:=Zq (d:=83) rfl (fun ga=>by first | omega | (simp at ga;done) | (simp at ga;omega)) (fun ga=>?_))))))))
 try simp only [sQ,ne_eq] at ga
 refine xM (h:=xM (h:=Zh (Zfw 10 rfl rfl rfl ZCZ rfl (Z1.borrow fun hm36=>Zky _ _ _ _ _ _ _ ((hz2.anyK Z9.any).lend Z9.mono hm36 om) (hz1.mono Z9.mono (Kn.le_add _ _))) ?_)))
 refine xN (h:=xF (h:=xM (h:=Zq (d:=89) rfl (fun gb=>by simp at gb) (fun gb=>?_))))
 try simp only [sQ,ne_eq] at gb
 refine xM (h:=xM (h:=Zaa (h:=xF (h:=Zb rfl (fun gc=>by simp at gc) (fun gc=>?_)))))
 try simp only [sQ,ne_eq] at gc
 have hl2:(ZeH 1 (Zaq x ⟨u,w,z⟩ y).1.length).length≤2000000:=by rw [Zff];omega
 refine wSk (Za (xA (h:=Za (xM (h:=xM (h:=xK [10] rfl ZFS rfl (ZpD _ _ ((Zaq x ⟨u,w,z⟩ y).1) _ 1 oz oz _ (hz2.anyK Z9.any)) (h:=?_)))))))
 rintro _ B37 _ hle37 ⟨rfl,l37,rfl,rfl,hs37⟩
 refine xA (h:=Zo2 [_,_,_,_,_,_,_,_,_,_,_,_,_,_,_,_] rfl (Za (xA (h:=Za (xM (h:=xM (h:=Zh (Zfw 10 rfl rfl rfl ZEG rfl (Z1.borrow fun hm38=>Zjm _ _ _ 1 _ (Zaq x ⟨u,w,z⟩ y).1.length (by first | rfl | exact Zff _ _) rfl oz _ ((hs37.anyK Z9.any).lend Z9.mono hm38 om)) ?_))))))))
 refine xA (h:=Ze (Za (xM (h:=ZC (h:=Zb rfl (fun gd=>by first | omega | (simp at gd;done) | (simp at gd;omega)) (fun gd=>?_))))))
 try simp only [sQ,ne_eq] at gd
 refine wSk (Ze (Za (xM (h:=xM (h:=Zaa (h:=Zb rfl (fun ge=>by simp at ge) (fun ge=>?_)))))))
 try simp only [sQ,ne_eq] at ge
 refine wSk (ZeQ (α:=Option Addr × Nat × Cells) [0,1,2,3,4,5,6,7,8,9,10,11,12,13,14,15,16,23,28,33,64,69,74,93,101,104] (fun o3=>[(17,.slice o3.1 (Zaq x ⟨u,w,z⟩ y).1.length o3.2.1),(18,.int .i64 (Zaq x ⟨u,w,z⟩ y).2)]) [] (fun o3=>[]) (fun o3=>[o3.2.2]) (fun o3 Bx=>ZR Kn.none o3.2.2 o3.1 o3.2.1 3 1 Z9 (Zaq x ⟨u,w,z⟩ y).1) ?_ (fun o3 B39 hle39 hF=>?_))
 refine ZW (keeps _ [0,1,2] _) mo kr ⟨Kn.le.refl _,ZaH.refl _ _⟩ (fun _ _=>?_)
 refine aT 0 rfl (ZO fun D B L hI=>ZI [_,_,_,_,_] rfl rfl ZzW rfl (ZbZ 0 (hI.2.1.trans rfl) rfl rfl) r4) (h:=aT 2 rfl (ZO fun D B L hI=>ZI [_,_,_] rfl rfl ZA4 rfl (ZbZ 1 (hI.2.2.1.trans rfl) rfl rfl) r4) (h:=aT 4 rfl (ZO fun D B L hI=>ZI [_,_,_,_,_] rfl rfl ZxK rfl (ZbZ 2 (hI.2.2.2.1.trans rfl) rfl rfl) r4) (h:=ZV 1 kr rfl kr (Zb9 rfl rfl en9 rfl (ZhD _ _ _ _ _ _ x _ hu hf hi om2) ?_))))
 rintro _ B40 _ hle40 ⟨q40,c40,l40,q40b,c40b,l40b,q40c,c40c,l40c,rfl,rfl,rfl,hv40,hv40b,hv40c⟩
 refine ⟨⟨Kn.le.refl _,t3⟩,(Zek [_,_,_,_,_,_,_,_,_,_,_,_,_,_,_,_,_,_,_] rfl ?_)⟩
 refine ZjC 16 rfl hv40 ZL.any om (fun B' hle'=>⟨hle',t3⟩) (fun B41 hle41 hr41=>?_)
 replace hys:=hys.mono ZN.mono hle41
 replace hyk:=hyk.mono Zbw.mono hle41
 replace hz1:=hz1.mono Z9.mono hle41
 replace hs37:=hs37.mono Z9.mono hle41
 replace hE:=hE.mono hle41
 replace hG:=hG.mono hle41
 have hr41n:=hr41.len
 refine ZgB 17 rfl hv40b Zai.known ZF.mono om (fun B' hle'=>⟨hle41.trans hle',t3⟩) (fun B42 hle42 hr42=>?_)
 replace hys:=hys.mono ZN.mono hle42
 replace hyk:=hyk.mono Zbw.mono hle42
 replace hz1:=hz1.mono Z9.mono hle42
 replace hr41:=hr41.mono ZL.mono hle42
 replace hs37:=hs37.mono Z9.mono hle42
 replace hE:=hE.mono hle42
 replace hG:=hG.mono hle42
 have hr42n:=hr42.len
 refine ZgB 18 rfl hv40c ZbE.known Zar.mono om (fun B' hle'=>⟨(hle41.trans hle42).trans hle',t3⟩) (fun B43 hle43 hr43=>?_)
 replace hys:=hys.mono ZN.mono hle43
 replace hyk:=hyk.mono Zbw.mono hle43
 replace hz1:=hz1.mono Z9.mono hle43
 replace hr41:=hr41.mono ZL.mono hle43
 replace hr42:=hr42.mono ZF.mono hle43
 replace hs37:=hs37.mono Z9.mono hle43
 replace hE:=hE.mono hle43
 replace hG:=hG.mono hle43
 have hr43n:=hr43.len
 refine ZV 3 kr rfl kr (Z5 rfl rfl ZEf rfl (ZfL u w z _) ?_)
 refine ⟨⟨((hle41.trans hle42).trans hle43),t3⟩,(Zek [_,_,_,_,_,_,_,_,_,_,_,_,_,_,_,_,_,_,_] rfl ?_)⟩
 refine ZV 5 kr rfl kr (Zb9 rfl rfl ZAy rfl ((Zgc _).2 _ _ _ _ y om2 _ hys hyk) ?_)
 rintro _ B45 _ hle45 ⟨q45,c45,l45,q45b,c45b,l45b,rfl,rfl,rfl,hv45,hw45⟩
 refine ⟨⟨((hle41.trans hle42).trans hle43),t3⟩,(Zek [_,_,_,_,_,_,_,_,_,_,_,_,_,_,_,_,_,_,_,_,_] rfl ?_)⟩
 refine ZjC 19 rfl hv45 ZN.any om (fun B' hle'=>⟨((hle41.trans hle42).trans hle43).trans hle',t3⟩) (fun B46 hle46 hr46=>?_)
 replace hz1:=hz1.mono Z9.mono hle46
 replace hr41:=hr41.mono ZL.mono hle46
 replace hr42:=hr42.mono ZF.mono hle46
 replace hr43:=hr43.mono Zar.mono hle46
 replace hs37:=hs37.mono Z9.mono hle46
 replace hE:=hE.mono hle46
 replace hG:=hG.mono hle46
 have hr46n:=hr46.len
 refine ZgB 20 rfl hw45 Zhz.known Zbw.mono om (fun B' hle'=>⟨(((hle41.trans hle42).trans hle43).trans hle46).trans hle',t3⟩) (fun B47 hle47 hr47=>?_)
 replace hz1:=hz1.mono Z9.mono hle47
 replace hr41:=hr41.mono ZL.mono hle47
 replace hr42:=hr42.mono ZF.mono hle47
 replace hr43:=hr43.mono Zar.mono hle47
 replace hr46:=hr46.mono ZN.mono hle47
 replace hs37:=hs37.mono Z9.mono hle47
 replace hE:=hE.mono hle47
 replace hG:=hG.mono hle47
 have hr47n:=hr47.len
 refine ZV 6 kr rfl kr (Zb9 rfl rfl ZEI rfl (Zjk hJ _ _ _ _ _ _ _ x u w z om2 om2 om2 _ _ _ _ y om2 _ om2 a _ hE hr41 hr42 hr43 hG hr46 hr47) ?_)
 rintro _ B48 _ hle48 ⟨qe48,ce48,le48,rfl,rfl,hy48⟩
 replace hz1:=hz1.mono Z9.mono hle48
 replace hs37:=hs37.mono Z9.mono hle48
 refine ⟨⟨(((((hle41.trans hle42).trans hle43).trans hle46).trans hle47).trans hle48),t3⟩,(Zek [_,_,_,_,_,_,_,_,_,_,_,_,_,_,_,_,_,_,_,_,_,_] rfl ?_)⟩
 refine aM 7 rfl (h:=aE 8 rfl (h:=aE 9 rfl (h:=aA 10 rfl (h:=aA 11 rfl (h:=Zy kr kr ?_)))))
 exact ZlH (_,_,_) [_,_,_,_,_,_,_,_,_,_,_,_,_,_,_,_,_,_,_,_,_,_] rfl [0,1,2,3,4,5,6,7,8,9,10,11,12,13,14,15,21] (hy48.anyK Z9.any) ⟨rfl,rfl,rfl,rfl,rfl,rfl,rfl,rfl,rfl,rfl,rfl,rfl,rfl,rfl,rfl,rfl,rfl,rfl,rfl,rfl,rfl,rfl,rfl,rfl,rfl,rfl,rfl,rfl,trivial⟩ rfl
 have hz3:=hF
 replace hz1:=hz1.mono Z9.mono hle39
 replace hs37:=hs37.mono Z9.mono hle39
 refine Zz [(0,_),(1,_),(2,_),(3,_),(4,_),(5,_),(6,_),(7,_),(8,_),(9,_),(10,_),(11,_),(12,_),(13,_),(14,_),(15,_),(16,_),(17,_),(18,_),(23,_),(28,_),(33,_),(64,_),(69,_),(74,_),(93,_),(101,_),(104,_)] [_,_,_,_,_,_,_,_,_,_,_,_,_,_,_,_,_] ⟨rfl,rfl,rfl,rfl,rfl,rfl,rfl,rfl,rfl,rfl,rfl,rfl,rfl,rfl,rfl,rfl,rfl,rfl,rfl,rfl,rfl,rfl,rfl,rfl,rfl,rfl,rfl,rfl,trivial⟩ rfl (Ze (Za (xM (h:=xM (h:=Zh (Zfw 16 rfl rfl rfl ZCZ rfl (Z1.borrow fun hm49=>Zky _ _ _ _ _ _ _ ((hz3.anyK Z9.any).lend Z9.mono hm49 om) (hz1.mono Z9.mono (Kn.le_add _ _))) ?_))))))
 refine xN (h:=xM (h:=Zq (d:=119) rfl (fun gf=>by simp at gf) (fun gf=>?_)))
 try simp only [sQ,ne_eq] at gf
 refine xM (h:=xM (h:=Zaa (h:=xF (h:=Zb rfl (fun gg=>by simp at gg) (fun gg=>?_)))))
 try simp only [sQ,ne_eq] at gg
 refine wSk (Za (xA (h:=Za (xM (h:=xM (h:=Zh (Zfw 10 rfl rfl rfl ZEG rfl (Z1.borrow fun hm50=>Zjm _ _ _ 1 _ (Zaq x ⟨u,w,z⟩ y).1.length (by first | rfl | exact Zff _ _) rfl oz _ ((hs37.anyK Z9.any).lend Z9.mono hm50 om)) ?_)))))))
 refine xA (h:=Ze (Za (xM (h:=ZC (h:=Zb rfl (fun gh=>by first | omega | (simp at gh;done) | (simp at gh;omega)) (fun gh=>?_))))))
 try simp only [sQ,ne_eq] at gh
 refine wSk (Ze (Za (xM (h:=xM (h:=Zaa (h:=Zb rfl (fun gi=>by simp at gi) (fun gi=>?_)))))))
 try simp only [sQ,ne_eq] at gi
 refine wSk (Za (xA (h:=Zf ?_)))
 exact eR t1 rfl

end Go.Proofs.YtonfijmgahdgeaaGreatDoor
