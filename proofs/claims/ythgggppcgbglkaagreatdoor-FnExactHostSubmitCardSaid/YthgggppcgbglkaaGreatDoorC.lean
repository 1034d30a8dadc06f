/-
  WHAT THE FUNCTIONS THAT THE LAWS REACH COMPUTE: each function's contract, proved off its printed body (the text is written by program). No condition beyond those that each theorem states.
-/
import Derived.Test.YthgggppcgbglkaaGreatDoorC2
namespace Go.Proofs.YthgggppcgbglkaaGreatDoor
open Go Go.BL
set_option linter.unusedVariables false
set_option linter.unusedSimpArgs false
set_option maxRecDepth 4000
variable {J : JoinT}
set_option maxHeartbeats 400000 in
theorem Z0 (hJ:Joins Tryz.prog J) (q1 q2 q3:Option Addr) (c1 c2 c3:Nat) (x:DHost) (qz:Option Addr) (cz:Nat) (z:DLetter) (h1:z.fr.length≤2000000) (h2:z.text.length≤2000000) (hd:x.domain.length≤2000000) (a:Nat→Addr) (B:Kn) (hE:ErrsB 321 [0,3,2,1] B a) (hu:SlK B q1 c1 3 Zc x.users) (hf:SlK B q2 c2 5 Zb x.folders) (hi:SlK B q3 c3 4 Zi x.queue.items) (hz:SlK B qz cz 1 ZJ z.to_):ZL (pj J) 18 [.agg #[str x.domain,.slice q1 x.users.length c1,.slice q2 x.folders.length c2,.int .i64 x.queue.next,.slice q3 x.queue.items.length c3],.agg #[str z.fr,.slice qz z.to_.length cz,str z.text]] B [] (fun v B' Ls=>∃q1 c1 q2 c2 q3 c3 l1 l2 l3,Ls=[l1,l2,l3]∧v = .tuple #[.agg #[str (ZA x z).1.domain,.slice q1 (ZA x z).1.users.length c1,.slice q2 (ZA x z).1.folders.length c2,.int .i64 (ZA x z).1.queue.next,.slice q3 (ZA x z).1.queue.items.length c3],.int .i64 (ZA x z).2]∧Zaa Kn.none l1 q1 c1 123 3 Zc (ZA x z).1.users∧Zbb l2 q2 c2 75 5 (ZD 133 205) (ZA x z).1.folders∧Zbb l3 q3 c3 126 4 (Z3 9) (ZA x z).1.queue.items):=by
 refine Zd 13 Tryz.func18 rfl rfl rfl (Nat.le_of_ble_eq_true rfl) ?_
 have hun:=hu.len
 have hfn:=hf.len
 have hin:=hi.len
 have hzn:=hz.len
 refine Za (xBx [_,_,_,_,_] (h:=fun b1=>xBx [_,_,_] (h:=fun b2=>xAl [_,_,_,_,_] Zbj (h:=fun b3=>xA (h:=ZI [_,_,_] rfl (ZqL 1 rfl (fun B4 hle4 hpm4=>?_)))))))
 have hc4:=Zcs hpm4
 replace hu:=hu.mono Zc.mono hle4
 replace hf:=hf.mono Zb.mono hle4
 replace hi:=hi.mono Zi.mono hle4
 replace hz:=hz.mono ZJ.mono hle4
 replace hE:=hE.mono hle4
 refine Zh (Zac (keeps _ [0] _) mo kr ⟨Kn.le.refl _,ZaM.refl _ _⟩ (fun _ _=>?_))
 refine aT 0 rfl (ZZ fun D B L hI=>ZV [_,_,_,_,_] rfl rfl Zaz rfl (Za9 0 (hI.2.1.trans rfl) rfl rfl) r4) (h:=aT 1 rfl (ZZ fun D B L hI=>ZV [_,_,_] rfl rfl ZhQ rfl (ZjM (hc4.mono hI.1) 0 rfl rfl) r4) (h:=aT 2 rfl (ZZ fun D B L hI=>Zay rfl rfl Zut rfl (Zej _ _ z _ (hz.mono ZJ.mono hI.1) oa oa) r4) (h:=?_)))
 refine Zw 3 kr rfl kr (Zdn (xs:=[]) (ys:=[_]) rfl rfl rfl rfl ?_)
 refine ⟨⟨Kn.le.refl _,t1⟩,(Zw 4 kr rfl kr (ZF rfl rfl ZwK rfl (ZnS _ _ _ _ _ _ x (ZaJ z) 61 _ (Zk0 x z) (ZfO x z) (ZqZ x z) Zwy hJ hd a _ hE hu hf hi (fun hlz hok B2 b q1 q2 q3 c1 c2 c3 l1 l2 l3 hle k1 k2 k3=>ZsG _ _ _ z b q1 q2 q3 c1 c2 c3 x l1 l2 l3 h1 h2 oz oz hok hlz a B2 (hE.mono hle) (hc4.mono hle) (hz.mono ZJ.mono hle) k1 k2 k3)) ?_))⟩
 rintro _ B6 _ hle6 ⟨Y6,d6,q16,c16,q26,c26,q36,c36,l16,l26,l36,hYd6,rfl,rfl,hu6,hf6,hi6⟩
 replace hu:=hu.mono Zc.mono hle6
 replace hf:=hf.mono Zb.mono hle6
 replace hi:=hi.mono Zi.mono hle6
 replace hz:=hz.mono ZJ.mono hle6
 replace hc4:=hc4.mono hle6
 replace hE:=hE.mono hle6
 rw [ZsF] at hYd6
 refine ⟨⟨hle6,t1⟩,(aE 5 rfl (h:=aE 6 rfl (h:=ZaG 7 kr rfl kr kr (ZT [_,_,_,_,_] 2 [_,_,_,_,_] rfl rfl ZbN rfl rfl rfl rfl rfl rfl rfl rfl ?_))))⟩
 refine aA 8 rfl (h:=ZB kr kr ?_)
 refine Zf (ZI [_,_,_,_,_,_] rfl (Zj ?_))
 have e1:=congrArg Prod.fst hYd6
 have e2:=congrArg Prod.snd hYd6
 dsimp only at e1 e2
 subst e1 e2
 exact Zbw .ret (.inl rfl) [_,_] [3,4,5] rfl ⟨⟨_,rfl,.inr ⟨[_,_,_,_,_],Zaz,Za9 2 rfl rfl rfl,rfl⟩⟩,rfl,trivial⟩ ⟨_,_,_,_,_,_,_,_,_,rfl,rfl,hu6.anyK Zc.any,hf6,hi6⟩

set_option maxHeartbeats 6400000 in
theorem Zkz (q1 q2 q3:Option Addr) (c1 c2 c3:Nat) (x:DHost) (hd:x.domain.length≤140737488355328) (qz:Option Addr) (cz:Nat) (z:DLetter) (h1:z.fr.length≤140737488355328) (h2:z.text.length≤140737488355328) (a:Nat→Addr) (B:Kn) (hE:ErrsB 321 [0,3,2,1] B a) (hu:SlB B q1 c1 3 Zhw x.users) (hf:SlB B q2 c2 5 Zdk x.folders) (hi:SlB B q3 c3 4 Zf6 x.queue.items) (hz:SlB B qz cz 1 Zgj z.to_) :∃code,Tryz.f4.body=some code∧wpS (pj (Zmv Tryz.prog)) 119 code (Zhv (pj (Zmv Tryz.prog)) [.tmp 4] (fun v B' Ls=>v = .bool true)) (Zda [.agg #[str x.domain,.slice q1 x.users.length c1,.slice q2 x.folders.length c2,.int .i64 x.queue.next,.slice q3 x.queue.items.length c3],.agg #[str z.fr,.slice qz z.to_.length cz,str z.text]] 0) [] B []:=by
 have hJ:=Zkk Tryz.prog
 refine ⟨_,rfl,(Za (xBx [_,_,_,_,_] (h:=fun b1=>xBx [_,_,_] (h:=fun b2=>xA (h:=ZI [_,_] rfl (Za (xA (h:=Za (xL [_,_,_,_,_] Zlj 0 (h:=xM (h:=xR en8 rfl (ZoY _ _ _ _ _ _ x om 1048576 om om _ hu hf hi) (h:=?_))))))))))))⟩
 refine xA (h:=Zh (Za (xM (h:=ZM (h:=Ze rfl (fun g1=>?_) (fun g1=>?_))))))
 try simp only [sQ,ne_eq] at g1
 refine Za (xA (h:=Zj (Zt ?_)))
 exact ZK .ret (.inl rfl) [_] t1 rfl
 try simp only [sQ,ne_eq] at g1
 have hsg:=ZbM (left:=1048576) oz g1
 refine Zg (Zf (Za (xL [_,_,_] Zli 1 (h:=xM (h:=xR ZwU rfl (ZlJ _ _ z om2 om2 (szI 1048576 (ZcC x)) om2 om2 _ hz) (h:=?_))))))
 refine xA (h:=Zh (Za (xM (h:=ZM (h:=Ze rfl (fun g2=>?_) (fun g2=>?_))))))
 try simp only [sQ,ne_eq] at g2
 refine Za (xA (h:=Zj (Zt ?_)))
 exact ZK .ret (.inl rfl) [_] t1 rfl
 try simp only [sQ,ne_eq] at g2
 have hsz:=(ZbM oz g1).2
 have hsu:=(ZbM oz g2).2
 replace hsz:ZcC x≤1048576:=by omega
 replace hsu:Zbx z≤1048576:=by omega
 have hsz2:=Zkq hsz
 have hkh:=Zs1 hsz
 replace hu:=ZjT hu hsz2.2.1
 replace hf:=Ziy hf hsz2.2.2.1
 replace hi:=Zkl hi hsz2.2.2.2
 have hun:=hu.len
 have hfn:=hf.len
 have hin:=hi.len
 have hsu2:ZbY z.to_≤1048576:=by unfold Zbx at hsu;omega
 have hsu3:z.fr.length≤1048576∧z.text.length≤1048576:=by unfold Zbx at hsu;omega
 replace hz:=ZhF hz hsu2
 have hzn:=hz.len
 obtain ⟨hka,hkb,hkc,hkd⟩:=Zrm hsz hsu
 refine Zg (Zf (Zh (Zac (keeps _ [0,1] _) mo kr ⟨Kn.le.refl _,ZaM.refl _ _⟩ (fun _ _=>?_))))
 refine aT 0 rfl (ZZ fun D B L hI=>ZV [_,_,_,_,_] rfl rfl Zlj rfl (Za9 0 (hI.2.1.trans rfl) rfl rfl) r4) (h:=aT 2 rfl (ZZ fun D B L hI=>ZV [_,_,_] rfl rfl Zli rfl (Za9 1 (hI.2.2.1.trans rfl) rfl rfl) r4) (h:=Zan [1,8] kr kr kr ⟨?_,?_⟩))
 refine (ZF rfl rfl ZiJ rfl (ZaY _ _ _ _ _ _ x _ hu hf hi om2) ?_)
 rintro _ B5 _ hle5 ⟨q5,c5,l5,q5b,c5b,l5b,q5c,c5c,l5c,rfl,rfl,rfl,hv5,hv5b,hv5c⟩
 refine ⟨⟨Kn.le.refl _,t2⟩,(ZaO 2 rfl hv5 Zc.any om (fun B' hle'=>⟨hle',t2⟩) (fun B6 hle6 hr6=>?_))⟩
 replace hu:=hu.mono Zc.mono hle6
 replace hf:=hf.mono Zb.mono hle6
 replace hi:=hi.mono Zi.mono hle6
 replace hz:=hz.mono ZJ.mono hle6
 replace hE:=hE.mono hle6
 have hr6n:=hr6.len
 refine Za6 3 rfl hv5b ZD.known Zb.mono om (fun B' hle'=>⟨hle6.trans hle',t2⟩) (fun B7 hle7 hr7=>?_)
 replace hu:=hu.mono Zc.mono hle7
 replace hf:=hf.mono Zb.mono hle7
 replace hi:=hi.mono Zi.mono hle7
 replace hz:=hz.mono ZJ.mono hle7
 replace hr6:=hr6.mono Zc.mono hle7
 replace hE:=hE.mono hle7
 have hr7n:=hr7.len
 refine Za6 4 rfl hv5c Z3.known Zi.mono om (fun B' hle'=>⟨(hle6.trans hle7).trans hle',t2⟩) (fun B8 hle8 hr8=>?_)
 replace hu:=hu.mono Zc.mono hle8
 replace hf:=hf.mono Zb.mono hle8
 replace hi:=hi.mono Zi.mono hle8
 replace hz:=hz.mono ZJ.mono hle8
 replace hr6:=hr6.mono Zc.mono hle8
 replace hr7:=hr7.mono Zb.mono hle8
 replace hE:=hE.mono hle8
 have hr8n:=hr8.len
 refine Zan [3,8] kr kr kr ⟨?_,?_⟩
 refine (ZF rfl rfl Zhg rfl (Zad _ _ z _ hz om2) ?_)
 rintro _ B9 _ hle9 ⟨q9,c9,l9,rfl,rfl,rfl,hv9⟩
 refine ⟨⟨((hle6.trans hle7).trans hle8),t2⟩,(ZaO 5 rfl hv9 ZJ.any om (fun B' hle'=>⟨((hle6.trans hle7).trans hle8).trans hle',t2⟩) (fun B10 hle10 hr10=>?_))⟩
 replace hu:=hu.mono Zc.mono hle10
 replace hf:=hf.mono Zb.mono hle10
 replace hi:=hi.mono Zi.mono hle10
 replace hz:=hz.mono ZJ.mono hle10
 replace hr6:=hr6.mono Zc.mono hle10
 replace hr7:=hr7.mono Zb.mono hle10
 replace hr8:=hr8.mono Zi.mono hle10
 replace hE:=hE.mono hle10
 have hr10n:=hr10.len
 refine Zan [4,8] kr kr kr ⟨?_,?_⟩
 refine (ZfI rfl rfl ZtN rfl (Zc7 _ _ _ _ _ _ x _ _ z om2 _ hr6 hr7 hr8 hr10 om2 om2) ?_)
 intro v11 B11 hle11
 rintro ⟨p111,d111,p211,d211,p311,d311,rfl,hu11,hf11,hi11,hd11⟩
 replace hu:=hu.mono Zc.mono hle11
 replace hf:=hf.mono Zb.mono hle11
 replace hi:=hi.mono Zi.mono hle11
 replace hz:=hz.mono ZJ.mono hle11
 replace hr6:=hr6.mono Zc.mono hle11
 replace hr7:=hr7.mono Zb.mono hle11
 replace hr8:=hr8.mono Zi.mono hle11
 replace hr10:=hr10.mono ZJ.mono hle11
 replace hE:=hE.mono hle11
 have hu11n:=hu11.len
 have hf11n:=hf11.len
 have hi11n:=hi11.len
 refine ⟨⟨((((hle6.trans hle7).trans hle8).trans hle10).trans hle11),t2⟩,(aM 5 rfl (h:=aE 6 rfl (h:=aE 7 rfl (h:=Zw 8 kr rfl kr (Zag (l:=[_,_,_,_,_]) rfl rfl Zbj rfl (fun b12=>?_))))))⟩
 refine ⟨⟨((((hle6.trans hle7).trans hle8).trans hle10).trans hle11),t2⟩,(ZaG 9 kr rfl kr kr (ZT [_,_,_,_,_] 6 [_,_,_,_,_] rfl rfl ZbN rfl rfl rfl rfl rfl rfl rfl rfl ?_))⟩
 refine aA 10 rfl (h:=ZB kr kr ?_)
 refine Zf (ZI [_,_,_,_,_,_,_] rfl (Za (xL [_,_,_,_,_] Zlj 0 (h:=Zq (ZF rfl rfl ZiJ rfl (ZaY _ _ _ _ _ _ x _ hu hf hi om2) ?_)))))
 rintro _ B13 _ hle13 ⟨q13,c13,l13,q13b,c13b,l13b,q13c,c13c,l13c,rfl,rfl,rfl,hv13,hv13b,hv13c⟩
 refine xAl [_,_,_,_,_] Zbj (h:=fun b14=>xS [_,_,_,_,_] 10 [_,_,_,_,_] ZbN (h:=ZI [_,_,_,_,_,_,_,_,_,_,_] rfl (Za (xL [_,_,_] Zli 1 (h:=Zq (ZF rfl rfl Zhg rfl (Zad _ _ z _ hz om2) ?_))))))
 rintro _ B15 _ hle15 ⟨q15,c15,l15,rfl,rfl,rfl,hv15⟩
 refine xAl [_,_,_] Zp9 (h:=fun b16=>xS [_,_,_] 12 [_,_,_] Zsv (h:=ZI [_,_,_,_,_,_,_,_,_,_,_,_,_] rfl (Za (xL [_,_,_,_,_] Zaz 10 (h:=xL [_,_,_] ZhQ 12 (h:=Zq (Zam [7,8,9,11] rfl rfl rfl rfl Zh0 rfl (ZL.borrowK 4 fun hm17=>Z0 hJ _ _ _ _ _ _ x _ _ z om2 om2 om2 a _ (hE.mono (Kn.le_add _ _)) (hv13.lendK Zc.any 0 rfl hm17 om) (hv13b.lendK ZD.known Zb.mono 1 rfl hm17 om) (hv13c.lendK Z3.known Zi.mono 2 rfl hm17 om) (hv15.lendK ZJ.any 3 rfl hm17 om)) ?_)))))))
 rintro _ B17 _ hle17 ⟨BB17,_,rfl,hB17,_,hm17,_,q117,c117,q217,c217,q317,c317,l117,l217,l317,rfl,rfl,hu17,hf17,hi17⟩
 replace hu:=hu.mono Zc.mono hle17
 replace hf:=hf.mono Zb.mono hle17
 replace hi:=hi.mono Zi.mono hle17
 replace hz:=hz.mono ZJ.mono hle17
 replace hu11:=hu11.mono Zc.mono hle17
 replace hf11:=hf11.mono Zb.mono hle17
 replace hi11:=hi11.mono Zi.mono hle17
 replace hv13:=hv13.mono Zc.mono hle17
 replace hv15:=hv15.mono ZJ.mono hle17
 replace hE:=hE.mono hle17
 refine xM (h:=xE (h:=xE (h:=xAl [_,_,_,_,_] Zbj (h:=fun b18=>xS [_,_,_,_,_] 16 [_,_,_,_,_] ZbN (h:=xA (h:=ZI [_,_,_,_,_,_,_,_,_,_,_,_,_,_,_,_,_] rfl (Zh (Za (xL [_,_,_,_,_] Zaz 16 (h:=xL [_,_,_,_,_] Zaz 6 (h:=Zq (Zai [13,14,15] rfl rfl rfl rfl rfl ZfH rfl (Z8.borrowL fun hm19=>Zak _ _ _ _ _ _ _ _ _ _ _ _ ((ZA x z).1) ((ZA x z).1) _ (hu17.lendK Zc.any 0 rfl hm19 om) (hf17.lendK ZD.known Zb.mono 1 rfl hm19 om) (hi17.lendK Z3.known Zi.mono 2 rfl hm19 om) (hu11.mono Zc.mono (Kn.le_add _ _)) (hf11.mono Zb.mono (Kn.le_add _ _)) (hi11.mono Zi.mono (Kn.le_add _ _))) ?_))))))))))))
 refine xN (h:=xM (h:=ZC (d:=49) rfl (fun g3=>by simp at g3) (fun g3=>?_)))
 try simp only [sQ,ne_eq] at g3
 refine xM (h:=xM (h:=Z4 (h:=xF (h:=Ze rfl (fun g4=>by simp at g4) (fun g4=>?_)))))
 try simp only [sQ,ne_eq] at g4
 refine Zg (Zf (Zh (Zh (Zac (keeps _ [0,10] _) mo kr ⟨Kn.le.refl _,ZaM.refl _ _⟩ (fun _ _=>?_)))))
 refine aT 0 rfl (ZZ fun D B L hI=>ZV [_,_,_,_,_] rfl rfl Zaz rfl (Za9 10 (hI.2.2.1.trans rfl) rfl rfl) r4) (h:=aT 1 rfl (ZZ fun D B L hI=>ZV [_,_,_,_,_] rfl rfl Zlj rfl (Za9 0 (hI.2.1.trans rfl) rfl rfl) r4) (h:=Zw 2 kr rfl kr (ZF rfl rfl ZiJ rfl (ZaY _ _ _ _ _ _ x _ hu hf hi om2) ?_)))
 rintro _ B20 _ hle20 ⟨q20,c20,l20,q20b,c20b,l20b,q20c,c20c,l20c,rfl,rfl,rfl,hv20,hv20b,hv20c⟩
 refine ⟨⟨Kn.le.refl _,t2⟩,(ZaO 17 rfl hv20 Zc.any om (fun B' hle'=>⟨hle',t2⟩) (fun B21 hle21 hr21=>?_))⟩
 replace hu:=hu.mono Zc.mono hle21
 replace hf:=hf.mono Zb.mono hle21
 replace hi:=hi.mono Zi.mono hle21
 replace hz:=hz.mono ZJ.mono hle21
 replace hu11:=hu11.mono Zc.mono hle21
 replace hf11:=hf11.mono Zb.mono hle21
 replace hi11:=hi11.mono Zi.mono hle21
 replace hv13:=hv13.mono Zc.mono hle21
 replace hv15:=hv15.mono ZJ.mono hle21
 replace hu17:=hu17.mono Zc.mono hle21
 replace hE:=hE.mono hle21
 have hr21n:=hr21.len
 refine Za6 18 rfl hv20b ZD.known Zb.mono om (fun B' hle'=>⟨hle21.trans hle',t2⟩) (fun B22 hle22 hr22=>?_)
 replace hu:=hu.mono Zc.mono hle22
 replace hf:=hf.mono Zb.mono hle22
 replace hi:=hi.mono Zi.mono hle22
 replace hz:=hz.mono ZJ.mono hle22
 replace hr21:=hr21.mono Zc.mono hle22
 replace hu11:=hu11.mono Zc.mono hle22
 replace hf11:=hf11.mono Zb.mono hle22
 replace hi11:=hi11.mono Zi.mono hle22
 replace hv13:=hv13.mono Zc.mono hle22
 replace hv15:=hv15.mono ZJ.mono hle22
 replace hu17:=hu17.mono Zc.mono hle22
 replace hE:=hE.mono hle22
 have hr22n:=hr22.len
 refine Za6 19 rfl hv20c Z3.known Zi.mono om (fun B' hle'=>⟨(hle21.trans hle22).trans hle',t2⟩) (fun B23 hle23 hr23=>?_)
 replace hu:=hu.mono Zc.mono hle23
 replace hf:=hf.mono Zb.mono hle23
 replace hi:=hi.mono Zi.mono hle23
 replace hz:=hz.mono ZJ.mono hle23
 replace hr21:=hr21.mono Zc.mono hle23
 replace hr22:=hr22.mono Zb.mono hle23
 replace hu11:=hu11.mono Zc.mono hle23
 replace hf11:=hf11.mono Zb.mono hle23
 replace hi11:=hi11.mono Zi.mono hle23
 replace hv13:=hv13.mono Zc.mono hle23
 replace hv15:=hv15.mono ZJ.mono hle23
 replace hu17:=hu17.mono Zc.mono hle23
 replace hE:=hE.mono hle23
 have hr23n:=hr23.len
 refine Zw 3 kr rfl kr (Zai [7,8,9] rfl rfl rfl rfl rfl ZfH rfl (Z8.borrowL fun hm24=>Zak _ _ _ _ _ _ _ _ _ _ _ _ x x _ (hv13.lendK Zc.any 0 rfl hm24 om) (hv13b.lendK ZD.known Zb.mono 1 rfl hm24 om) (hv13c.lendK Z3.known Zi.mono 2 rfl hm24 om) (hr21.mono Zc.mono (Kn.le_add _ _)) (hr22.mono Zb.mono (Kn.le_add _ _)) (hr23.mono Zi.mono (Kn.le_add _ _))) ?_)
 refine ⟨⟨((hle21.trans hle22).trans hle23),t2⟩,(aN 4 rfl (h:=ZB kr kr ?_))⟩
 refine Zf (ZI [_,_,_,_,_,_,_,_,_,_,_,_,_,_,_,_,_,_,_,_] rfl (Ze rfl (fun g5=>by simp at g5) (fun g5=>?_)))
 try simp only [sQ,ne_eq] at g5
 refine Zg (Zf (Zh (Zh (Zac (keeps _ [1,12] _) mo kr ⟨Kn.le.refl _,ZaM.refl _ _⟩ (fun _ _=>?_)))))
 refine aT 0 rfl (ZZ fun D B L hI=>ZV [_,_,_] rfl rfl ZhQ rfl (Za9 12 (hI.2.2.1.trans rfl) rfl rfl) r4) (h:=aT 1 rfl (ZZ fun D B L hI=>ZV [_,_,_] rfl rfl Zli rfl (Za9 1 (hI.2.1.trans rfl) rfl rfl) r4) (h:=Zw 2 kr rfl kr (ZF rfl rfl Zhg rfl (Zad _ _ z _ hz om2) ?_)))
 rintro _ B25 _ hle25 ⟨q25,c25,l25,rfl,rfl,rfl,hv25⟩
 refine ⟨⟨Kn.le.refl _,t2⟩,(ZaO 20 rfl hv25 ZJ.any om (fun B' hle'=>⟨hle',t2⟩) (fun B26 hle26 hr26=>?_))⟩
 replace hu:=hu.mono Zc.mono hle26
 replace hf:=hf.mono Zb.mono hle26
 replace hi:=hi.mono Zi.mono hle26
 replace hz:=hz.mono ZJ.mono hle26
 replace hu11:=hu11.mono Zc.mono hle26
 replace hf11:=hf11.mono Zb.mono hle26
 replace hi11:=hi11.mono Zi.mono hle26
 replace hv13:=hv13.mono Zc.mono hle26
 replace hv15:=hv15.mono ZJ.mono hle26
 replace hu17:=hu17.mono Zc.mono hle26
 replace hE:=hE.mono hle26
 have hr26n:=hr26.len
 refine Zw 3 kr rfl kr (Zfi 11 rfl rfl rfl ZtM rfl (Z8.borrow fun hm27=>ZeF _ _ _ _ z z _ ((hv15.anyK ZJ.any).lend ZJ.mono hm27 om) (hr26.mono ZJ.mono (Kn.le_add _ _))) ?_)
 refine ⟨⟨hle26,t2⟩,(aN 4 rfl (h:=ZB kr kr ?_))⟩
 refine Zf (ZI [_,_,_,_,_,_,_,_,_,_,_,_,_,_,_,_,_,_,_,_,_] rfl (Ze rfl (fun g6=>by simp at g6) (fun g6=>?_)))
 try simp only [sQ,ne_eq] at g6
 refine Zg (Zf (Za (xA (h:=Za (xL [_,_,_,_,_] Zaz 10 (h:=xM (h:=Zq (Zam [7,8,9] rfl rfl rfl rfl ZqC rfl (ZbT _ _ _ _ _ _ x _ _ _ 1 oa oz oz oz _ (hv13.anyK Zc.any) hv13b hv13c) ?_))))))))
 rintro _ B28 _ hle28 ⟨rfl,l28a,l28b,l28c,rfl,rfl,hs28a,hs28b,hs28c⟩
 refine xA (h:=ZI [_,_,_,_,_,_,_,_,_,_,_,_,_,_,_,_,_,_,_,_,_] rfl (Za (xL [_,_,_] ZhQ 12 (h:=xM (h:=Zq (Zam [11] rfl rfl rfl rfl ZtL rfl (Zc9 _ _ z _ (kH 1 x) oz oz _ (hv15.anyK ZJ.any)) ?_))))))
 rintro _ B29 _ hle29 ⟨rfl,l29,rfl,rfl,hs29⟩
 refine xA (h:=ZI [_,_,_,_,_,_,_,_,_,_,_,_,_,_,_,_,_,_,_,_,_] rfl (Zh (Za (xM (h:=ZM (h:=xM (h:=ZC (d:=72) rfl (fun g7=>by first | omega | (simp at g7;done) | (simp at g7;omega)) (fun g7=>?_))))))))
 try simp only [sQ,ne_eq] at g7
 refine xL [_,_,_,_,_] Zaz 16 (h:=xL [_,_,_,_,_] Zaz 6 (h:=Zq (Zai [13,14,15] rfl rfl rfl rfl rfl ZfH rfl (Z8.borrowL fun hm30=>Zak _ _ _ _ _ _ _ _ _ _ _ _ ((ZA x z).1) ((ZA x z).1) _ (hu17.lendK Zc.any 0 rfl hm30 om) (hf17.lendK ZD.known Zb.mono 1 rfl hm30 om) (hi17.lendK Z3.known Zi.mono 2 rfl hm30 om) (hu11.mono Zc.mono (Kn.le_add _ _)) (hf11.mono Zb.mono (Kn.le_add _ _)) (hi11.mono Zi.mono (Kn.le_add _ _))) ?_)))
 refine xN (h:=xF (h:=xM (h:=ZC (d:=78) rfl (fun g8=>by simp at g8) (fun g8=>?_))))
 try simp only [sQ,ne_eq] at g8
 refine xM (h:=xM (h:=Z4 (h:=xF (h:=Ze rfl (fun g9=>by simp at g9) (fun g9=>?_)))))
 try simp only [sQ,ne_eq] at g9
 refine Zg (Zf (Za (xA (h:=Za (xL [_,_,_,_,_] Zaz 16 (h:=xM (h:=Zq (Zam [13,14,15] rfl rfl rfl rfl ZqC rfl (ZbT _ _ _ _ _ _ ((ZA x z).1) _ _ _ 1 oa oz oz oz _ (hu17.anyK Zc.any) hf17 hi17) ?_))))))))
 rintro _ B31 _ hle31 ⟨rfl,l31a,l31b,l31c,rfl,rfl,hs31a,hs31b,hs31c⟩
 refine xA (h:=ZI [_,_,_,_,_,_,_,_,_,_,_,_,_,_,_,_,_,_,_,_,_] rfl (Za (xA (h:=Za (xL [_,_,_,_,_] Zaz 16 (h:=xM (h:=Zq (Zai [13,14,15] rfl rfl rfl rfl rfl Zh1 rfl (Z8.borrowL fun hm32=>Zaj _ _ _ _ _ _ (ZA x z).1 1 oa _ (hs31a.lendK Zc.any 0 rfl hm32 (by simp only [Zp,Zs,Zu,Zv,ZQ];omega)) (hs31b.lendK ZD.known Zb.mono 1 rfl hm32 (by simp only [Zp,Zs,Zu,Zv,ZQ];omega)) (hs31c.lendK Z3.known Zi.mono 2 rfl hm32 (by simp only [Zp,Zs,Zu,Zv,ZQ];omega))) ?_))))))))
 refine xA (h:=Zh (Za (xM (h:=ZM (h:=Ze rfl (fun ga=>by first | omega | (simp at ga;done) | (simp at ga;omega)) (fun ga=>?_))))))
 try simp only [sQ,ne_eq] at ga
 refine Zg (Zf (Zh (Za (xM (h:=xM (h:=Z4 (h:=Ze rfl (fun gb=>by simp at gb) (fun gb=>?_))))))))
 try simp only [sQ,ne_eq] at gb
 refine Zg (Zf (Zh (Zac (keeps _ [0,1] _) mo kr ⟨Kn.le.refl _,ZaM.refl _ _⟩ (fun _ _=>?_))))
 refine aT 0 rfl (ZZ fun D B L hI=>ZV [_,_,_,_,_] rfl rfl Zlj rfl (Za9 0 (hI.2.1.trans rfl) rfl rfl) r4) (h:=aT 2 rfl (ZZ fun D B L hI=>ZV [_,_,_] rfl rfl Zli rfl (Za9 1 (hI.2.2.1.trans rfl) rfl rfl) r4) (h:=Zan [1,8] kr kr kr ⟨?_,?_⟩))
 refine (ZF rfl rfl ZiJ rfl (ZaY _ _ _ _ _ _ x _ hu hf hi om2) ?_)
 rintro _ B33 _ hle33 ⟨q33,c33,l33,q33b,c33b,l33b,q33c,c33c,l33c,rfl,rfl,rfl,hv33,hv33b,hv33c⟩
 refine ⟨⟨Kn.le.refl _,t2⟩,(ZaO 21 rfl hv33 Zc.any om (fun B' hle'=>⟨hle',t2⟩) (fun B34 hle34 hr34=>?_))⟩
 replace hu:=hu.mono Zc.mono hle34
 replace hf:=hf.mono Zb.mono hle34
 replace hi:=hi.mono Zi.mono hle34
 replace hz:=hz.mono ZJ.mono hle34
 replace hu11:=hu11.mono Zc.mono hle34
 replace hf11:=hf11.mono Zb.mono hle34
 replace hi11:=hi11.mono Zi.mono hle34
 replace hs28a:=hs28a.mono Zc.mono hle34
 replace hs29:=hs29.mono ZJ.mono hle34
 replace hs31a:=hs31a.mono Zc.mono hle34
 replace hE:=hE.mono hle34
 have hr34n:=hr34.len
 refine Za6 22 rfl hv33b ZD.known Zb.mono om (fun B' hle'=>⟨hle34.trans hle',t2⟩) (fun B35 hle35 hr35=>?_)
 replace hu:=hu.mono Zc.mono hle35
 replace hf:=hf.mono Zb.mono hle35
 replace hi:=hi.mono Zi.mono hle35
 replace hz:=hz.mono ZJ.mono hle35
 replace hr34:=hr34.mono Zc.mono hle35
 replace hu11:=hu11.mono Zc.mono hle35
 replace hf11:=hf11.mono Zb.mono hle35
 replace hi11:=hi11.mono Zi.mono hle35
 replace hs28a:=hs28a.mono Zc.mono hle35
 replace hs29:=hs29.mono ZJ.mono hle35
 replace hs31a:=hs31a.mono Zc.mono hle35
 replace hE:=hE.mono hle35
 have hr35n:=hr35.len
 refine Za6 23 rfl hv33c Z3.known Zi.mono om (fun B' hle'=>⟨(hle34.trans hle35).trans hle',t2⟩) (fun B36 hle36 hr36=>?_)
 replace hu:=hu.mono Zc.mono hle36
 replace hf:=hf.mono Zb.mono hle36
 replace hi:=hi.mono Zi.mono hle36
 replace hz:=hz.mono ZJ.mono hle36
 replace hr34:=hr34.mono Zc.mono hle36
 replace hr35:=hr35.mono Zb.mono hle36
 replace hu11:=hu11.mono Zc.mono hle36
 replace hf11:=hf11.mono Zb.mono hle36
 replace hi11:=hi11.mono Zi.mono hle36
 replace hs28a:=hs28a.mono Zc.mono hle36
 replace hs29:=hs29.mono ZJ.mono hle36
 replace hs31a:=hs31a.mono Zc.mono hle36
 replace hE:=hE.mono hle36
 have hr36n:=hr36.len
 refine Zan [3,8] kr kr kr ⟨?_,?_⟩
 refine (ZF rfl rfl Zhg rfl (Zad _ _ z _ hz om2) ?_)
 rintro _ B37 _ hle37 ⟨q37,c37,l37,rfl,rfl,rfl,hv37⟩
 refine ⟨⟨((hle34.trans hle35).trans hle36),t2⟩,(ZaO 24 rfl hv37 ZJ.any om (fun B' hle'=>⟨((hle34.trans hle35).trans hle36).trans hle',t2⟩) (fun B38 hle38 hr38=>?_))⟩
 replace hu:=hu.mono Zc.mono hle38
 replace hf:=hf.mono Zb.mono hle38
 replace hi:=hi.mono Zi.mono hle38
 replace hz:=hz.mono ZJ.mono hle38
 replace hr34:=hr34.mono Zc.mono hle38
 replace hr35:=hr35.mono Zb.mono hle38
 replace hr36:=hr36.mono Zi.mono hle38
 replace hu11:=hu11.mono Zc.mono hle38
 replace hf11:=hf11.mono Zb.mono hle38
 replace hi11:=hi11.mono Zi.mono hle38
 replace hs28a:=hs28a.mono Zc.mono hle38
 replace hs29:=hs29.mono ZJ.mono hle38
 replace hs31a:=hs31a.mono Zc.mono hle38
 replace hE:=hE.mono hle38
 have hr38n:=hr38.len
 refine Zan [4,8] kr kr kr ⟨?_,?_⟩
 refine (ZF rfl rfl Zh0 rfl (Z0 hJ _ _ _ _ _ _ x _ _ z om2 om2 om2 a _ hE hr34 hr35 hr36 hr38) ?_)
 rintro _ B39 _ hle39 ⟨q139,c139,q239,c239,q339,c339,l139,l239,l339,rfl,rfl,hu39,hf39,hi39⟩
 replace hu:=hu.mono Zc.mono hle39
 replace hf:=hf.mono Zb.mono hle39
 replace hi:=hi.mono Zi.mono hle39
 replace hz:=hz.mono ZJ.mono hle39
 replace hr34:=hr34.mono Zc.mono hle39
 replace hr35:=hr35.mono Zb.mono hle39
 replace hr36:=hr36.mono Zi.mono hle39
 replace hr38:=hr38.mono ZJ.mono hle39
 replace hu11:=hu11.mono Zc.mono hle39
 replace hf11:=hf11.mono Zb.mono hle39
 replace hi11:=hi11.mono Zi.mono hle39
 replace hs28a:=hs28a.mono Zc.mono hle39
 replace hs29:=hs29.mono ZJ.mono hle39
 replace hs31a:=hs31a.mono Zc.mono hle39
 replace hE:=hE.mono hle39
 refine ⟨⟨((((hle34.trans hle35).trans hle36).trans hle38).trans hle39),t2⟩,(aM 5 rfl (h:=aE 6 rfl (h:=aE 7 rfl (h:=Zw 8 kr rfl kr (Zag (l:=[_,_,_,_,_]) rfl rfl Zbj rfl (fun b40=>?_))))))⟩
 refine ⟨⟨((((hle34.trans hle35).trans hle36).trans hle38).trans hle39),t2⟩,(ZaG 9 kr rfl kr kr (ZT [_,_,_,_,_] 28 [_,_,_,_,_] rfl rfl ZbN rfl rfl rfl rfl rfl rfl rfl rfl ?_))⟩
 refine aA 10 rfl (h:=ZB kr kr ?_)
 refine Zf (ZI [_,_,_,_,_,_,_,_,_,_,_,_,_,_,_,_,_,_,_,_,_,_,_,_,_,_,_,_,_] rfl (Zh (Za (xL [_,_,_,_,_] Zaz 28 (h:=xL [_,_,_,_,_] Zaz 6 (h:=Zq (Zai [25,26,27] rfl rfl rfl rfl rfl ZfH rfl (Z8.borrowL fun hm41=>Zak _ _ _ _ _ _ _ _ _ _ _ _ ((ZA x z).1) ((ZA x z).1) _ (hu39.lendK Zc.any 0 rfl hm41 om) (hf39.lendK ZD.known Zb.mono 1 rfl hm41 om) (hi39.lendK Z3.known Zi.mono 2 rfl hm41 om) (hu11.mono Zc.mono (Kn.le_add _ _)) (hf11.mono Zb.mono (Kn.le_add _ _)) (hi11.mono Zi.mono (Kn.le_add _ _))) ?_)))))))
 refine xN (h:=xM (h:=ZC (d:=106) rfl (fun gc=>by simp at gc) (fun gc=>?_)))
 try simp only [sQ,ne_eq] at gc
 refine xM (h:=xM (h:=Z4 (h:=xF (h:=Ze rfl (fun gd=>by simp at gd) (fun gd=>?_)))))
 try simp only [sQ,ne_eq] at gd
 refine Zg (Zf (Za (xA (h:=Za (xL [_,_,_,_,_] Zaz 16 (h:=xM (h:=Zq (Zai [13,14,15] rfl rfl rfl rfl rfl Zh1 rfl (Z8.borrowL fun hm42=>Zaj _ _ _ _ _ _ (ZA x z).1 1 oa _ (hs31a.lendK Zc.any 0 rfl hm42 (by simp only [Zp,Zs,Zu,Zv,ZQ];omega)) (hs31b.lendK ZD.known Zb.mono 1 rfl hm42 (by simp only [Zp,Zs,Zu,Zv,ZQ];omega)) (hs31c.lendK Z3.known Zi.mono 2 rfl hm42 (by simp only [Zp,Zs,Zu,Zv,ZQ];omega))) ?_))))))))
 refine xA (h:=Zh (Za (xM (h:=ZM (h:=Ze rfl (fun ge=>by first | omega | (simp at ge;done) | (simp at ge;omega)) (fun ge=>?_))))))
 try simp only [sQ,ne_eq] at ge
 refine Zg (Zf (Zh (Za (xM (h:=xM (h:=Z4 (h:=Ze rfl (fun gf=>by simp at gf) (fun gf=>?_))))))))
 try simp only [sQ,ne_eq] at gf
 refine Zg (Zf (Za (xA (h:=Zj ?_))))
 exact ZK .ret (.inl rfl) [_] t1 rfl
 refine (Zag (l:=[_,_,_,_,_]) rfl rfl Zbj rfl (fun b43=>⟨⟨(((hle34.trans hle35).trans hle36).trans hle38),t2⟩,(Zw 4 kr rfl kr (ZF rfl rfl Zh0 rfl (Z0 hJ _ _ _ _ _ _ x _ _ z om2 om2 om2 a _ hE hr34 hr35 hr36 hr38) ?_))⟩))
 rintro _ B44 _ hle44 ⟨q144,c144,q244,c244,q344,c344,l144,l244,l344,rfl,rfl,hu44,hf44,hi44⟩
 replace hu:=hu.mono Zc.mono hle44
 replace hf:=hf.mono Zb.mono hle44
 replace hi:=hi.mono Zi.mono hle44
 replace hz:=hz.mono ZJ.mono hle44
 replace hr34:=hr34.mono Zc.mono hle44
 replace hr35:=hr35.mono Zb.mono hle44
 replace hr36:=hr36.mono Zi.mono hle44
 replace hr38:=hr38.mono ZJ.mono hle44
 replace hu11:=hu11.mono Zc.mono hle44
 replace hf11:=hf11.mono Zb.mono hle44
 replace hi11:=hi11.mono Zi.mono hle44
 replace hs28a:=hs28a.mono Zc.mono hle44
 replace hs29:=hs29.mono ZJ.mono hle44
 replace hs31a:=hs31a.mono Zc.mono hle44
 replace hE:=hE.mono hle44
 refine ⟨⟨((((hle34.trans hle35).trans hle36).trans hle38).trans hle44),t2⟩,(aM 5 rfl (h:=aE 6 rfl (h:=aE 7 rfl (h:=ZaG 9 kr rfl kr kr (ZT [_,_,_,_,_] 25 [_,_,_,_,_] rfl rfl ZbN rfl rfl rfl rfl rfl rfl rfl rfl ?_)))))⟩
 refine aA 10 rfl (h:=ZB kr kr ?_)
 refine Zf (ZI [_,_,_,_,_,_,_,_,_,_,_,_,_,_,_,_,_,_,_,_,_,_,_,_,_,_,_,_,_] rfl (Zh (Za (xL [_,_,_,_,_] Zaz 25 (h:=xL [_,_,_,_,_] Zaz 6 (h:=Zq (Zai [26,27,28] rfl rfl rfl rfl rfl ZfH rfl (Z8.borrowL fun hm45=>Zak _ _ _ _ _ _ _ _ _ _ _ _ ((ZA x z).1) ((ZA x z).1) _ (hu44.lendK Zc.any 0 rfl hm45 om) (hf44.lendK ZD.known Zb.mono 1 rfl hm45 om) (hi44.lendK Z3.known Zi.mono 2 rfl hm45 om) (hu11.mono Zc.mono (Kn.le_add _ _)) (hf11.mono Zb.mono (Kn.le_add _ _)) (hi11.mono Zi.mono (Kn.le_add _ _))) ?_)))))))
 refine xN (h:=xM (h:=ZC (d:=106) rfl (fun gc=>by simp at gc) (fun gc=>?_)))
 try simp only [sQ,ne_eq] at gc
 refine xM (h:=xM (h:=Z4 (h:=xF (h:=Ze rfl (fun gd=>by simp at gd) (fun gd=>?_)))))
 try simp only [sQ,ne_eq] at gd
 refine Zg (Zf (Za (xA (h:=Za (xL [_,_,_,_,_] Zaz 16 (h:=xM (h:=Zq (Zai [13,14,15] rfl rfl rfl rfl rfl Zh1 rfl (Z8.borrowL fun hm46=>Zaj _ _ _ _ _ _ (ZA x z).1 1 oa _ (hs31a.lendK Zc.any 0 rfl hm46 (by simp only [Zp,Zs,Zu,Zv,ZQ];omega)) (hs31b.lendK ZD.known Zb.mono 1 rfl hm46 (by simp only [Zp,Zs,Zu,Zv,ZQ];omega)) (hs31c.lendK Z3.known Zi.mono 2 rfl hm46 (by simp only [Zp,Zs,Zu,Zv,ZQ];omega))) ?_))))))))
 refine xA (h:=Zh (Za (xM (h:=ZM (h:=Ze rfl (fun ge=>by first | omega | (simp at ge;done) | (simp at ge;omega)) (fun ge=>?_))))))
 try simp only [sQ,ne_eq] at ge
 refine Zg (Zf (Zh (Za (xM (h:=xM (h:=Z4 (h:=Ze rfl (fun gf=>by simp at gf) (fun gf=>?_))))))))
 try simp only [sQ,ne_eq] at gf
 refine Zg (Zf (Za (xA (h:=Zj ?_))))
 exact ZK .ret (.inl rfl) [_] t1 rfl
 refine (Zag (l:=[_,_,_,_,_]) rfl rfl Zbj rfl (fun b47=>⟨⟨((hle34.trans hle35).trans hle36),t2⟩,(Zw 3 kr rfl kr (ZF rfl rfl Zhg rfl (Zad _ _ z _ hz om2) ?_))⟩))
 rintro _ B48 _ hle48 ⟨q48,c48,l48,rfl,rfl,rfl,hv48⟩
 refine ⟨⟨((hle34.trans hle35).trans hle36),t2⟩,(ZaO 25 rfl hv48 ZJ.any om (fun B' hle'=>⟨((hle34.trans hle35).trans hle36).trans hle',t2⟩) (fun B49 hle49 hr49=>?_))⟩
 replace hu:=hu.mono Zc.mono hle49
 replace hf:=hf.mono Zb.mono hle49
 replace hi:=hi.mono Zi.mono hle49
 replace hz:=hz.mono ZJ.mono hle49
 replace hr34:=hr34.mono Zc.mono hle49
 replace hr35:=hr35.mono Zb.mono hle49
 replace hr36:=hr36.mono Zi.mono hle49
 replace hu11:=hu11.mono Zc.mono hle49
 replace hf11:=hf11.mono Zb.mono hle49
 replace hi11:=hi11.mono Zi.mono hle49
 replace hs28a:=hs28a.mono Zc.mono hle49
 replace hs29:=hs29.mono ZJ.mono hle49
 replace hs31a:=hs31a.mono Zc.mono hle49
 replace hE:=hE.mono hle49
 have hr49n:=hr49.len
 refine Zw 4 kr rfl kr (ZF rfl rfl Zh0 rfl (Z0 hJ _ _ _ _ _ _ x _ _ z om2 om2 om2 a _ hE hr34 hr35 hr36 hr49) ?_)
 rintro _ B50 _ hle50 ⟨q150,c150,q250,c250,q350,c350,l150,l250,l350,rfl,rfl,hu50,hf50,hi50⟩
 replace hu:=hu.mono Zc.mono hle50
 replace hf:=hf.mono Zb.mono hle50
 replace hi:=hi.mono Zi.mono hle50
 replace hz:=hz.mono ZJ.mono hle50
 replace hr34:=hr34.mono Zc.mono hle50
 replace hr35:=hr35.mono Zb.mono hle50
 replace hr36:=hr36.mono Zi.mono hle50
 replace hr49:=hr49.mono ZJ.mono hle50
 replace hu11:=hu11.mono Zc.mono hle50
 replace hf11:=hf11.mono Zb.mono hle50
 replace hi11:=hi11.mono Zi.mono hle50
 replace hs28a:=hs28a.mono Zc.mono hle50
 replace hs29:=hs29.mono ZJ.mono hle50
 replace hs31a:=hs31a.mono Zc.mono hle50
 replace hE:=hE.mono hle50
 refine ⟨⟨((((hle34.trans hle35).trans hle36).trans hle49).trans hle50),t2⟩,(aM 5 rfl (h:=aE 6 rfl (h:=aE 7 rfl (h:=ZaG 9 kr rfl kr kr (ZT [_,_,_,_,_] 24 [_,_,_,_,_] rfl rfl ZbN rfl rfl rfl rfl rfl rfl rfl rfl ?_)))))⟩
 refine aA 10 rfl (h:=ZB kr kr ?_)
 refine Zf (ZI [_,_,_,_,_,_,_,_,_,_,_,_,_,_,_,_,_,_,_,_,_,_,_,_,_,_,_,_,_] rfl (Zh (Za (xL [_,_,_,_,_] Zaz 24 (h:=xL [_,_,_,_,_] Zaz 6 (h:=Zq (Zai [26,27,28] rfl rfl rfl rfl rfl ZfH rfl (Z8.borrowL fun hm51=>Zak _ _ _ _ _ _ _ _ _ _ _ _ ((ZA x z).1) ((ZA x z).1) _ (hu50.lendK Zc.any 0 rfl hm51 om) (hf50.lendK ZD.known Zb.mono 1 rfl hm51 om) (hi50.lendK Z3.known Zi.mono 2 rfl hm51 om) (hu11.mono Zc.mono (Kn.le_add _ _)) (hf11.mono Zb.mono (Kn.le_add _ _)) (hi11.mono Zi.mono (Kn.le_add _ _))) ?_)))))))
 refine xN (h:=xM (h:=ZC (d:=106) rfl (fun gc=>by simp at gc) (fun gc=>?_)))
 try simp only [sQ,ne_eq] at gc
 refine xM (h:=xM (h:=Z4 (h:=xF (h:=Ze rfl (fun gd=>by simp at gd) (fun gd=>?_)))))
 try simp only [sQ,ne_eq] at gd
 refine Zg (Zf (Za (xA (h:=Za (xL [_,_,_,_,_] Zaz 16 (h:=xM (h:=Zq (Zai [13,14,15] rfl rfl rfl rfl rfl Zh1 rfl (Z8.borrowL fun hm52=>Zaj _ _ _ _ _ _ (ZA x z).1 1 oa _ (hs31a.lendK Zc.any 0 rfl hm52 (by simp only [Zp,Zs,Zu,Zv,ZQ];omega)) (hs31b.lendK ZD.known Zb.mono 1 rfl hm52 (by simp only [Zp,Zs,Zu,Zv,ZQ];omega)) (hs31c.lendK Z3.known Zi.mono 2 rfl hm52 (by simp only [Zp,Zs,Zu,Zv,ZQ];omega))) ?_))))))))
 refine xA (h:=Zh (Za (xM (h:=ZM (h:=Ze rfl (fun ge=>by first | omega | (simp at ge;done) | (simp at ge;omega)) (fun ge=>?_))))))
 try simp only [sQ,ne_eq] at ge
 refine Zg (Zf (Zh (Za (xM (h:=xM (h:=Z4 (h:=Ze rfl (fun gf=>by simp at gf) (fun gf=>?_))))))))
 try simp only [sQ,ne_eq] at gf
 refine Zg (Zf (Za (xA (h:=Zj ?_))))
 exact ZK .ret (.inl rfl) [_] t1 rfl
 refine (Zag (l:=[_,_,_,_,_]) rfl rfl Zbj rfl (fun b53=>⟨⟨Kn.le.refl _,t2⟩,(Zw 1 kr rfl kr (ZF rfl rfl ZiJ rfl (ZaY _ _ _ _ _ _ x _ hu hf hi om2) ?_))⟩))
 rintro _ B54 _ hle54 ⟨q54,c54,l54,q54b,c54b,l54b,q54c,c54c,l54c,rfl,rfl,rfl,hv54,hv54b,hv54c⟩
 refine ⟨⟨Kn.le.refl _,t2⟩,(ZaO 22 rfl hv54 Zc.any om (fun B' hle'=>⟨hle',t2⟩) (fun B55 hle55 hr55=>?_))⟩
 replace hu:=hu.mono Zc.mono hle55
 replace hf:=hf.mono Zb.mono hle55
 replace hi:=hi.mono Zi.mono hle55
 replace hz:=hz.mono ZJ.mono hle55
 replace hu11:=hu11.mono Zc.mono hle55
 replace hf11:=hf11.mono Zb.mono hle55
 replace hi11:=hi11.mono Zi.mono hle55
 replace hs28a:=hs28a.mono Zc.mono hle55
 replace hs29:=hs29.mono ZJ.mono hle55
 replace hs31a:=hs31a.mono Zc.mono hle55
 replace hE:=hE.mono hle55
 have hr55n:=hr55.len
 refine Za6 23 rfl hv54b ZD.known Zb.mono om (fun B' hle'=>⟨hle55.trans hle',t2⟩) (fun B56 hle56 hr56=>?_)
 replace hu:=hu.mono Zc.mono hle56
 replace hf:=hf.mono Zb.mono hle56
 replace hi:=hi.mono Zi.mono hle56
 replace hz:=hz.mono ZJ.mono hle56
 replace hr55:=hr55.mono Zc.mono hle56
 replace hu11:=hu11.mono Zc.mono hle56
 replace hf11:=hf11.mono Zb.mono hle56
 replace hi11:=hi11.mono Zi.mono hle56
 replace hs28a:=hs28a.mono Zc.mono hle56
 replace hs29:=hs29.mono ZJ.mono hle56
 replace hs31a:=hs31a.mono Zc.mono hle56
 replace hE:=hE.mono hle56
 have hr56n:=hr56.len
 refine Za6 24 rfl hv54c Z3.known Zi.mono om (fun B' hle'=>⟨(hle55.trans hle56).trans hle',t2⟩) (fun B57 hle57 hr57=>?_)
 replace hu:=hu.mono Zc.mono hle57
 replace hf:=hf.mono Zb.mono hle57
 replace hi:=hi.mono Zi.mono hle57
 replace hz:=hz.mono ZJ.mono hle57
 replace hr55:=hr55.mono Zc.mono hle57
 replace hr56:=hr56.mono Zb.mono hle57
 replace hu11:=hu11.mono Zc.mono hle57
 replace hf11:=hf11.mono Zb.mono hle57
 replace hi11:=hi11.mono Zi.mono hle57
 replace hs28a:=hs28a.mono Zc.mono hle57
 replace hs29:=hs29.mono ZJ.mono hle57
 replace hs31a:=hs31a.mono Zc.mono hle57
 replace hE:=hE.mono hle57
 have hr57n:=hr57.len
 refine Zw 3 kr rfl kr (ZF rfl rfl Zhg rfl (Zad _ _ z _ hz om2) ?_)
 rintro _ B58 _ hle58 ⟨q58,c58,l58,rfl,rfl,rfl,hv58⟩
 refine ⟨⟨((hle55.trans hle56).trans hle57),t2⟩,(ZaO 25 rfl hv58 ZJ.any om (fun B' hle'=>⟨((hle55.trans hle56).trans hle57).trans hle',t2⟩) (fun B59 hle59 hr59=>?_))⟩
 replace hu:=hu.mono Zc.mono hle59
 replace hf:=hf.mono Zb.mono hle59
 replace hi:=hi.mono Zi.mono hle59
 replace hz:=hz.mono ZJ.mono hle59
 replace hr55:=hr55.mono Zc.mono hle59
 replace hr56:=hr56.mono Zb.mono hle59
 replace hr57:=hr57.mono Zi.mono hle59
 replace hu11:=hu11.mono Zc.mono hle59
 replace hf11:=hf11.mono Zb.mono hle59
 replace hi11:=hi11.mono Zi.mono hle59
 replace hs28a:=hs28a.mono Zc.mono hle59
 replace hs29:=hs29.mono ZJ.mono hle59
 replace hs31a:=hs31a.mono Zc.mono hle59
 replace hE:=hE.mono hle59
 have hr59n:=hr59.len
 refine Zw 4 kr rfl kr (ZF rfl rfl Zh0 rfl (Z0 hJ _ _ _ _ _ _ x _ _ z om2 om2 om2 a _ hE hr55 hr56 hr57 hr59) ?_)
 rintro _ B60 _ hle60 ⟨q160,c160,q260,c260,q360,c360,l160,l260,l360,rfl,rfl,hu60,hf60,hi60⟩
 replace hu:=hu.mono Zc.mono hle60
 replace hf:=hf.mono Zb.mono hle60
 replace hi:=hi.mono Zi.mono hle60
 replace hz:=hz.mono ZJ.mono hle60
 replace hr55:=hr55.mono Zc.mono hle60
 replace hr56:=hr56.mono Zb.mono hle60
 replace hr57:=hr57.mono Zi.mono hle60
 replace hr59:=hr59.mono ZJ.mono hle60
 replace hu11:=hu11.mono Zc.mono hle60
 replace hf11:=hf11.mono Zb.mono hle60
 replace hi11:=hi11.mono Zi.mono hle60
 replace hs28a:=hs28a.mono Zc.mono hle60
 replace hs29:=hs29.mono ZJ.mono hle60
 replace hs31a:=hs31a.mono Zc.mono hle60
 replace hE:=hE.mono hle60
 refine ⟨⟨((((hle55.trans hle56).trans hle57).trans hle59).trans hle60),t2⟩,(aM 5 rfl (h:=aE 6 rfl (h:=aE 7 rfl (h:=ZaG 9 kr rfl kr kr (ZT [_,_,_,_,_] 21 [_,_,_,_,_] rfl rfl ZbN rfl rfl rfl rfl rfl rfl rfl rfl ?_)))))⟩
 refine aA 10 rfl (h:=ZB kr kr ?_)
 refine Zf (ZI [_,_,_,_,_,_,_,_,_,_,_,_,_,_,_,_,_,_,_,_,_,_,_,_,_,_,_,_,_] rfl (Zh (Za (xL [_,_,_,_,_] Zaz 21 (h:=xL [_,_,_,_,_] Zaz 6 (h:=Zq (Zai [26,27,28] rfl rfl rfl rfl rfl ZfH rfl (Z8.borrowL fun hm61=>Zak _ _ _ _ _ _ _ _ _ _ _ _ ((ZA x z).1) ((ZA x z).1) _ (hu60.lendK Zc.any 0 rfl hm61 om) (hf60.lendK ZD.known Zb.mono 1 rfl hm61 om) (hi60.lendK Z3.known Zi.mono 2 rfl hm61 om) (hu11.mono Zc.mono (Kn.le_add _ _)) (hf11.mono Zb.mono (Kn.le_add _ _)) (hi11.mono Zi.mono (Kn.le_add _ _))) ?_)))))))
 refine xN (h:=xM (h:=ZC (d:=106) rfl (fun gc=>by simp at gc) (fun gc=>?_)))
 try simp only [sQ,ne_eq] at gc
 refine xM (h:=xM (h:=Z4 (h:=xF (h:=Ze rfl (fun gd=>by simp at gd) (fun gd=>?_)))))
 try simp only [sQ,ne_eq] at gd
 refine Zg (Zf (Za (xA (h:=Za (xL [_,_,_,_,_] Zaz 16 (h:=xM (h:=Zq (Zai [13,14,15] rfl rfl rfl rfl rfl Zh1 rfl (Z8.borrowL fun hm62=>Zaj _ _ _ _ _ _ (ZA x z).1 1 oa _ (hs31a.lendK Zc.any 0 rfl hm62 (by simp only [Zp,Zs,Zu,Zv,ZQ];omega)) (hs31b.lendK ZD.known Zb.mono 1 rfl hm62 (by simp only [Zp,Zs,Zu,Zv,ZQ];omega)) (hs31c.lendK Z3.known Zi.mono 2 rfl hm62 (by simp only [Zp,Zs,Zu,Zv,ZQ];omega))) ?_))))))))
 refine xA (h:=Zh (Za (xM (h:=ZM (h:=Ze rfl (fun ge=>by first | omega | (simp at ge;done) | (simp at ge;omega)) (fun ge=>?_))))))
 try simp only [sQ,ne_eq] at ge
 refine Zg (Zf (Zh (Za (xM (h:=xM (h:=Z4 (h:=Ze rfl (fun gf=>by simp at gf) (fun gf=>?_))))))))
 try simp only [sQ,ne_eq] at gf
 refine Zg (Zf (Za (xA (h:=Zj ?_))))
 exact ZK .ret (.inl rfl) [_] t1 rfl
 refine (Zag (l:=[_,_,_,_,_]) rfl rfl Zbj rfl (fun b63=>⟨⟨(((hle6.trans hle7).trans hle8).trans hle10),t2⟩,(Zw 4 kr rfl kr (ZfI rfl rfl ZtN rfl (Zc7 _ _ _ _ _ _ x _ _ z om2 _ hr6 hr7 hr8 hr10 om2 om2) ?_))⟩))
 intro v64 B64 hle64
 rintro ⟨p164,d164,p264,d264,p364,d364,rfl,hu64,hf64,hi64,hd64⟩
 replace hu:=hu.mono Zc.mono hle64
 replace hf:=hf.mono Zb.mono hle64
 replace hi:=hi.mono Zi.mono hle64
 replace hz:=hz.mono ZJ.mono hle64
 replace hr6:=hr6.mono Zc.mono hle64
 replace hr7:=hr7.mono Zb.mono hle64
 replace hr8:=hr8.mono Zi.mono hle64
 replace hr10:=hr10.mono ZJ.mono hle64
 replace hE:=hE.mono hle64
 have hu64n:=hu64.len
 have hf64n:=hf64.len
 have hi64n:=hi64.len
 refine ⟨⟨((((hle6.trans hle7).trans hle8).trans hle10).trans hle64),t2⟩,(aM 5 rfl (h:=aE 6 rfl (h:=aE 7 rfl (h:=ZaG 9 kr rfl kr kr (ZT [_,_,_,_,_] 6 [_,_,_,_,_] rfl rfl ZbN rfl rfl rfl rfl rfl rfl rfl rfl ?_)))))⟩
 refine aA 10 rfl (h:=ZB kr kr ?_)
 refine Zf (ZI [_,_,_,_,_,_,_] rfl (Za (xL [_,_,_,_,_] Zlj 0 (h:=Zq (ZF rfl rfl ZiJ rfl (ZaY _ _ _ _ _ _ x _ hu hf hi om2) ?_)))))
 rintro _ B65 _ hle65 ⟨q65,c65,l65,q65b,c65b,l65b,q65c,c65c,l65c,rfl,rfl,rfl,hv65,hv65b,hv65c⟩
 refine xAl [_,_,_,_,_] Zbj (h:=fun b66=>xS [_,_,_,_,_] 10 [_,_,_,_,_] ZbN (h:=ZI [_,_,_,_,_,_,_,_,_,_,_] rfl (Za (xL [_,_,_] Zli 1 (h:=Zq (ZF rfl rfl Zhg rfl (Zad _ _ z _ hz om2) ?_))))))
 rintro _ B67 _ hle67 ⟨q67,c67,l67,rfl,rfl,rfl,hv67⟩
 refine xAl [_,_,_] Zp9 (h:=fun b68=>xS [_,_,_] 12 [_,_,_] Zsv (h:=ZI [_,_,_,_,_,_,_,_,_,_,_,_,_] rfl (Za (xL [_,_,_,_,_] Zaz 10 (h:=xL [_,_,_] ZhQ 12 (h:=Zq (Zam [7,8,9,11] rfl rfl rfl rfl Zh0 rfl (ZL.borrowK 4 fun hm69=>Z0 hJ _ _ _ _ _ _ x _ _ z om2 om2 om2 a _ (hE.mono (Kn.le_add _ _)) (hv65.lendK Zc.any 0 rfl hm69 om) (hv65b.lendK ZD.known Zb.mono 1 rfl hm69 om) (hv65c.lendK Z3.known Zi.mono 2 rfl hm69 om) (hv67.lendK ZJ.any 3 rfl hm69 om)) ?_)))))))
 rintro _ B69 _ hle69 ⟨BB69,_,rfl,hB69,_,hm69,_,q169,c169,q269,c269,q369,c369,l169,l269,l369,rfl,rfl,hu69,hf69,hi69⟩
 replace hu:=hu.mono Zc.mono hle69
 replace hf:=hf.mono Zb.mono hle69
 replace hi:=hi.mono Zi.mono hle69
 replace hz:=hz.mono ZJ.mono hle69
 replace hu64:=hu64.mono Zc.mono hle69
 replace hf64:=hf64.mono Zb.mono hle69
 replace hi64:=hi64.mono Zi.mono hle69
 replace hv65:=hv65.mono Zc.mono hle69
 replace hv67:=hv67.mono ZJ.mono hle69
 replace hE:=hE.mono hle69
 refine xM (h:=xE (h:=xE (h:=xAl [_,_,_,_,_] Zbj (h:=fun b70=>xS [_,_,_,_,_] 16 [_,_,_,_,_] ZbN (h:=xA (h:=ZI [_,_,_,_,_,_,_,_,_,_,_,_,_,_,_,_,_] rfl (Zh (Za (xL [_,_,_,_,_] Zaz 16 (h:=xL [_,_,_,_,_] Zaz 6 (h:=Zq (Zai [13,14,15] rfl rfl rfl rfl rfl ZfH rfl (Z8.borrowL fun hm71=>Zak _ _ _ _ _ _ _ _ _ _ _ _ ((ZA x z).1) ((ZA x z).1) _ (hu69.lendK Zc.any 0 rfl hm71 om) (hf69.lendK ZD.known Zb.mono 1 rfl hm71 om) (hi69.lendK Z3.known Zi.mono 2 rfl hm71 om) (hu64.mono Zc.mono (Kn.le_add _ _)) (hf64.mono Zb.mono (Kn.le_add _ _)) (hi64.mono Zi.mono (Kn.le_add _ _))) ?_))))))))))))
 refine xN (h:=xM (h:=ZC (d:=49) rfl (fun g3=>by simp at g3) (fun g3=>?_)))
 try simp only [sQ,ne_eq] at g3
 refine xM (h:=xM (h:=Z4 (h:=xF (h:=Ze rfl (fun g4=>by simp at g4) (fun g4=>?_)))))
 try simp only [sQ,ne_eq] at g4
 refine Zg (Zf (Zh (Zh (Zac (keeps _ [0,10] _) mo kr ⟨Kn.le.refl _,ZaM.refl _ _⟩ (fun _ _=>?_)))))
 refine aT 0 rfl (ZZ fun D B L hI=>ZV [_,_,_,_,_] rfl rfl Zaz rfl (Za9 10 (hI.2.2.1.trans rfl) rfl rfl) r4) (h:=aT 1 rfl (ZZ fun D B L hI=>ZV [_,_,_,_,_] rfl rfl Zlj rfl (Za9 0 (hI.2.1.trans rfl) rfl rfl) r4) (h:=Zw 2 kr rfl kr (ZF rfl rfl ZiJ rfl (ZaY _ _ _ _ _ _ x _ hu hf hi om2) ?_)))
 rintro _ B72 _ hle72 ⟨q72,c72,l72,q72b,c72b,l72b,q72c,c72c,l72c,rfl,rfl,rfl,hv72,hv72b,hv72c⟩
 refine ⟨⟨Kn.le.refl _,t2⟩,(ZaO 17 rfl hv72 Zc.any om (fun B' hle'=>⟨hle',t2⟩) (fun B73 hle73 hr73=>?_))⟩
 replace hu:=hu.mono Zc.mono hle73
 replace hf:=hf.mono Zb.mono hle73
 replace hi:=hi.mono Zi.mono hle73
 replace hz:=hz.mono ZJ.mono hle73
 replace hu64:=hu64.mono Zc.mono hle73
 replace hf64:=hf64.mono Zb.mono hle73
 replace hi64:=hi64.mono Zi.mono hle73
 replace hv65:=hv65.mono Zc.mono hle73
 replace hv67:=hv67.mono ZJ.mono hle73
 replace hu69:=hu69.mono Zc.mono hle73
 replace hE:=hE.mono hle73
 have hr73n:=hr73.len
 refine Za6 18 rfl hv72b ZD.known Zb.mono om (fun B' hle'=>⟨hle73.trans hle',t2⟩) (fun B74 hle74 hr74=>?_)
 replace hu:=hu.mono Zc.mono hle74
 replace hf:=hf.mono Zb.mono hle74
 replace hi:=hi.mono Zi.mono hle74
 replace hz:=hz.mono ZJ.mono hle74
 replace hr73:=hr73.mono Zc.mono hle74
 replace hu64:=hu64.mono Zc.mono hle74
 replace hf64:=hf64.mono Zb.mono hle74
 replace hi64:=hi64.mono Zi.mono hle74
 replace hv65:=hv65.mono Zc.mono hle74
 replace hv67:=hv67.mono ZJ.mono hle74
 replace hu69:=hu69.mono Zc.mono hle74
 replace hE:=hE.mono hle74
 have hr74n:=hr74.len
 refine Za6 19 rfl hv72c Z3.known Zi.mono om (fun B' hle'=>⟨(hle73.trans hle74).trans hle',t2⟩) (fun B75 hle75 hr75=>?_)
 replace hu:=hu.mono Zc.mono hle75
 replace hf:=hf.mono Zb.mono hle75
 replace hi:=hi.mono Zi.mono hle75
 replace hz:=hz.mono ZJ.mono hle75
 replace hr73:=hr73.mono Zc.mono hle75
 replace hr74:=hr74.mono Zb.mono hle75
 replace hu64:=hu64.mono Zc.mono hle75
 replace hf64:=hf64.mono Zb.mono hle75
 replace hi64:=hi64.mono Zi.mono hle75
 replace hv65:=hv65.mono Zc.mono hle75
 replace hv67:=hv67.mono ZJ.mono hle75
 replace hu69:=hu69.mono Zc.mono hle75
 replace hE:=hE.mono hle75
 have hr75n:=hr75.len
 refine Zw 3 kr rfl kr (Zai [7,8,9] rfl rfl rfl rfl rfl ZfH rfl (Z8.borrowL fun hm76=>Zak _ _ _ _ _ _ _ _ _ _ _ _ x x _ (hv65.lendK Zc.any 0 rfl hm76 om) (hv65b.lendK ZD.known Zb.mono 1 rfl hm76 om) (hv65c.lendK Z3.known Zi.mono 2 rfl hm76 om) (hr73.mono Zc.mono (Kn.le_add _ _)) (hr74.mono Zb.mono (Kn.le_add _ _)) (hr75.mono Zi.mono (Kn.le_add _ _))) ?_)
 refine ⟨⟨((hle73.trans hle74).trans hle75),t2⟩,(aN 4 rfl (h:=ZB kr kr ?_))⟩
 refine Zf (ZI [_,_,_,_,_,_,_,_,_,_,_,_,_,_,_,_,_,_,_,_] rfl (Ze rfl (fun g5=>by simp at g5) (fun g5=>?_)))
 try simp only [sQ,ne_eq] at g5
 refine Zg (Zf (Zh (Zh (Zac (keeps _ [1,12] _) mo kr ⟨Kn.le.refl _,ZaM.refl _ _⟩ (fun _ _=>?_)))))
 refine aT 0 rfl (ZZ fun D B L hI=>ZV [_,_,_] rfl rfl ZhQ rfl (Za9 12 (hI.2.2.1.trans rfl) rfl rfl) r4) (h:=aT 1 rfl (ZZ fun D B L hI=>ZV [_,_,_] rfl rfl Zli rfl (Za9 1 (hI.2.1.trans rfl) rfl rfl) r4) (h:=Zw 2 kr rfl kr (ZF rfl rfl Zhg rfl (Zad _ _ z _ hz om2) ?_)))
 rintro _ B77 _ hle77 ⟨q77,c77,l77,rfl,rfl,rfl,hv77⟩
 refine ⟨⟨Kn.le.refl _,t2⟩,(ZaO 20 rfl hv77 ZJ.any om (fun B' hle'=>⟨hle',t2⟩) (fun B78 hle78 hr78=>?_))⟩
 replace hu:=hu.mono Zc.mono hle78
 replace hf:=hf.mono Zb.mono hle78
 replace hi:=hi.mono Zi.mono hle78
 replace hz:=hz.mono ZJ.mono hle78
 replace hu64:=hu64.mono Zc.mono hle78
 replace hf64:=hf64.mono Zb.mono hle78
 replace hi64:=hi64.mono Zi.mono hle78
 replace hv65:=hv65.mono Zc.mono hle78
 replace hv67:=hv67.mono ZJ.mono hle78
 replace hu69:=hu69.mono Zc.mono hle78
 replace hE:=hE.mono hle78
 have hr78n:=hr78.len
 refine Zw 3 kr rfl kr (Zfi 11 rfl rfl rfl ZtM rfl (Z8.borrow fun hm79=>ZeF _ _ _ _ z z _ ((hv67.anyK ZJ.any).lend ZJ.mono hm79 om) (hr78.mono ZJ.mono (Kn.le_add _ _))) ?_)
 refine ⟨⟨hle78,t2⟩,(aN 4 rfl (h:=ZB kr kr ?_))⟩
 refine Zf (ZI [_,_,_,_,_,_,_,_,_,_,_,_,_,_,_,_,_,_,_,_,_] rfl (Ze rfl (fun g6=>by simp at g6) (fun g6=>?_)))
 try simp only [sQ,ne_eq] at g6
 refine Zg (Zf (Za (xA (h:=Za (xL [_,_,_,_,_] Zaz 10 (h:=xM (h:=Zq (Zam [7,8,9] rfl rfl rfl rfl ZqC rfl (ZbT _ _ _ _ _ _ x _ _ _ 1 oa oz oz oz _ (hv65.anyK Zc.any) hv65b hv65c) ?_))))))))
 rintro _ B80 _ hle80 ⟨rfl,l80a,l80b,l80c,rfl,rfl,hs80a,hs80b,hs80c⟩
 refine xA (h:=ZI [_,_,_,_,_,_,_,_,_,_,_,_,_,_,_,_,_,_,_,_,_] rfl (Za (xL [_,_,_] ZhQ 12 (h:=xM (h:=Zq (Zam [11] rfl rfl rfl rfl ZtL rfl (Zc9 _ _ z _ (kH 1 x) oz oz _ (hv67.anyK ZJ.any)) ?_))))))
 rintro _ B81 _ hle81 ⟨rfl,l81,rfl,rfl,hs81⟩
 refine xA (h:=ZI [_,_,_,_,_,_,_,_,_,_,_,_,_,_,_,_,_,_,_,_,_] rfl (Zh (Za (xM (h:=ZM (h:=xM (h:=ZC (d:=72) rfl (fun g7=>by first | omega | (simp at g7;done) | (simp at g7;omega)) (fun g7=>?_))))))))
 try simp only [sQ,ne_eq] at g7
 refine xL [_,_,_,_,_] Zaz 16 (h:=xL [_,_,_,_,_] Zaz 6 (h:=Zq (Zai [13,14,15] rfl rfl rfl rfl rfl ZfH rfl (Z8.borrowL fun hm82=>Zak _ _ _ _ _ _ _ _ _ _ _ _ ((ZA x z).1) ((ZA x z).1) _ (hu69.lendK Zc.any 0 rfl hm82 om) (hf69.lendK ZD.known Zb.mono 1 rfl hm82 om) (hi69.lendK Z3.known Zi.mono 2 rfl hm82 om) (hu64.mono Zc.mono (Kn.le_add _ _)) (hf64.mono Zb.mono (Kn.le_add _ _)) (hi64.mono Zi.mono (Kn.le_add _ _))) ?_)))
 refine xN (h:=xF (h:=xM (h:=ZC (d:=78) rfl (fun g8=>by simp at g8) (fun g8=>?_))))
 try simp only [sQ,ne_eq] at g8
 refine xM (h:=xM (h:=Z4 (h:=xF (h:=Ze rfl (fun g9=>by simp at g9) (fun g9=>?_)))))
 try simp only [sQ,ne_eq] at g9
 refine Zg (Zf (Za (xA (h:=Za (xL [_,_,_,_,_] Zaz 16 (h:=xM (h:=Zq (Zam [13,14,15] rfl rfl rfl rfl ZqC rfl (ZbT _ _ _ _ _ _ ((ZA x z).1) _ _ _ 1 oa oz oz oz _ (hu69.anyK Zc.any) hf69 hi69) ?_))))))))
 rintro _ B83 _ hle83 ⟨rfl,l83a,l83b,l83c,rfl,rfl,hs83a,hs83b,hs83c⟩
 refine xA (h:=ZI [_,_,_,_,_,_,_,_,_,_,_,_,_,_,_,_,_,_,_,_,_] rfl (Za (xA (h:=Za (xL [_,_,_,_,_] Zaz 16 (h:=xM (h:=Zq (Zai [13,14,15] rfl rfl rfl rfl rfl Zh1 rfl (Z8.borrowL fun hm84=>Zaj _ _ _ _ _ _ (ZA x z).1 1 oa _ (hs83a.lendK Zc.any 0 rfl hm84 (by simp only [Zp,Zs,Zu,Zv,ZQ];omega)) (hs83b.lendK ZD.known Zb.mono 1 rfl hm84 (by simp only [Zp,Zs,Zu,Zv,ZQ];omega)) (hs83c.lendK Z3.known Zi.mono 2 rfl hm84 (by simp only [Zp,Zs,Zu,Zv,ZQ];omega))) ?_))))))))
 refine xA (h:=Zh (Za (xM (h:=ZM (h:=Ze rfl (fun ga=>by first | omega | (simp at ga;done) | (simp at ga;omega)) (fun ga=>?_))))))
 try simp only [sQ,ne_eq] at ga
 refine Zg (Zf (Zh (Za (xM (h:=xM (h:=Z4 (h:=Ze rfl (fun gb=>by simp at gb) (fun gb=>?_))))))))
 try simp only [sQ,ne_eq] at gb
 refine Zg (Zf (Zh (Zac (keeps _ [0,1] _) mo kr ⟨Kn.le.refl _,ZaM.refl _ _⟩ (fun _ _=>?_))))
 refine aT 0 rfl (ZZ fun D B L hI=>ZV [_,_,_,_,_] rfl rfl Zlj rfl (Za9 0 (hI.2.1.trans rfl) rfl rfl) r4) (h:=aT 2 rfl (ZZ fun D B L hI=>ZV [_,_,_] rfl rfl Zli rfl (Za9 1 (hI.2.2.1.trans rfl) rfl rfl) r4) (h:=Zan [1,8] kr kr kr ⟨?_,?_⟩))
 refine (ZF rfl rfl ZiJ rfl (ZaY _ _ _ _ _ _ x _ hu hf hi om2) ?_)
 rintro _ B85 _ hle85 ⟨q85,c85,l85,q85b,c85b,l85b,q85c,c85c,l85c,rfl,rfl,rfl,hv85,hv85b,hv85c⟩
 refine ⟨⟨Kn.le.refl _,t2⟩,(ZaO 21 rfl hv85 Zc.any om (fun B' hle'=>⟨hle',t2⟩) (fun B86 hle86 hr86=>?_))⟩
 replace hu:=hu.mono Zc.mono hle86
 replace hf:=hf.mono Zb.mono hle86
 replace hi:=hi.mono Zi.mono hle86
 replace hz:=hz.mono ZJ.mono hle86
 replace hu64:=hu64.mono Zc.mono hle86
 replace hf64:=hf64.mono Zb.mono hle86
 replace hi64:=hi64.mono Zi.mono hle86
 replace hs80a:=hs80a.mono Zc.mono hle86
 replace hs81:=hs81.mono ZJ.mono hle86
 replace hs83a:=hs83a.mono Zc.mono hle86
 replace hE:=hE.mono hle86
 have hr86n:=hr86.len
 refine Za6 22 rfl hv85b ZD.known Zb.mono om (fun B' hle'=>⟨hle86.trans hle',t2⟩) (fun B87 hle87 hr87=>?_)
 replace hu:=hu.mono Zc.mono hle87
 replace hf:=hf.mono Zb.mono hle87
 replace hi:=hi.mono Zi.mono hle87
 replace hz:=hz.mono ZJ.mono hle87
 replace hr86:=hr86.mono Zc.mono hle87
 replace hu64:=hu64.mono Zc.mono hle87
 replace hf64:=hf64.mono Zb.mono hle87
 replace hi64:=hi64.mono Zi.mono hle87
 replace hs80a:=hs80a.mono Zc.mono hle87
 replace hs81:=hs81.mono ZJ.mono hle87
 replace hs83a:=hs83a.mono Zc.mono hle87
 replace hE:=hE.mono hle87
 have hr87n:=hr87.len
 refine Za6 23 rfl hv85c Z3.known Zi.mono om (fun B' hle'=>⟨(hle86.trans hle87).trans hle',t2⟩) (fun B88 hle88 hr88=>?_)
 replace hu:=hu.mono Zc.mono hle88
 replace hf:=hf.mono Zb.mono hle88
 replace hi:=hi.mono Zi.mono hle88
 replace hz:=hz.mono ZJ.mono hle88
 replace hr86:=hr86.mono Zc.mono hle88
 replace hr87:=hr87.mono Zb.mono hle88
 replace hu64:=hu64.mono Zc.mono hle88
 replace hf64:=hf64.mono Zb.mono hle88
 replace hi64:=hi64.mono Zi.mono hle88
 replace hs80a:=hs80a.mono Zc.mono hle88
 replace hs81:=hs81.mono ZJ.mono hle88
 replace hs83a:=hs83a.mono Zc.mono hle88
 replace hE:=hE.mono hle88
 have hr88n:=hr88.len
 refine Zan [3,8] kr kr kr ⟨?_,?_⟩
 refine (ZF rfl rfl Zhg rfl (Zad _ _ z _ hz om2) ?_)
 rintro _ B89 _ hle89 ⟨q89,c89,l89,rfl,rfl,rfl,hv89⟩
 refine ⟨⟨((hle86.trans hle87).trans hle88),t2⟩,(ZaO 24 rfl hv89 ZJ.any om (fun B' hle'=>⟨((hle86.trans hle87).trans hle88).trans hle',t2⟩) (fun B90 hle90 hr90=>?_))⟩
 replace hu:=hu.mono Zc.mono hle90
 replace hf:=hf.mono Zb.mono hle90
 replace hi:=hi.mono Zi.mono hle90
 replace hz:=hz.mono ZJ.mono hle90
 replace hr86:=hr86.mono Zc.mono hle90
 replace hr87:=hr87.mono Zb.mono hle90
 replace hr88:=hr88.mono Zi.mono hle90
 replace hu64:=hu64.mono Zc.mono hle90
 replace hf64:=hf64.mono Zb.mono hle90
 replace hi64:=hi64.mono Zi.mono hle90
 replace hs80a:=hs80a.mono Zc.mono hle90
 replace hs81:=hs81.mono ZJ.mono hle90
 replace hs83a:=hs83a.mono Zc.mono hle90
 replace hE:=hE.mono hle90
 have hr90n:=hr90.len
 refine Zan [4,8] kr kr kr ⟨?_,?_⟩
 refine (ZF rfl rfl Zh0 rfl (Z0 hJ _ _ _ _ _ _ x _ _ z om2 om2 om2 a _ hE hr86 hr87 hr88 hr90) ?_)
 rintro _ B91 _ hle91 ⟨q191,c191,q291,c291,q391,c391,l191,l291,l391,rfl,rfl,hu91,hf91,hi91⟩
 replace hu:=hu.mono Zc.mono hle91
 replace hf:=hf.mono Zb.mono hle91
 replace hi:=hi.mono Zi.mono hle91
 replace hz:=hz.mono ZJ.mono hle91
 replace hr86:=hr86.mono Zc.mono hle91
 replace hr87:=hr87.mono Zb.mono hle91
 replace hr88:=hr88.mono Zi.mono hle91
 replace hr90:=hr90.mono ZJ.mono hle91
 replace hu64:=hu64.mono Zc.mono hle91
 replace hf64:=hf64.mono Zb.mono hle91
 replace hi64:=hi64.mono Zi.mono hle91
 replace hs80a:=hs80a.mono Zc.mono hle91
 replace hs81:=hs81.mono ZJ.mono hle91
 replace hs83a:=hs83a.mono Zc.mono hle91
 replace hE:=hE.mono hle91
 refine ⟨⟨((((hle86.trans hle87).trans hle88).trans hle90).trans hle91),t2⟩,(aM 5 rfl (h:=aE 6 rfl (h:=aE 7 rfl (h:=Zw 8 kr rfl kr (Zag (l:=[_,_,_,_,_]) rfl rfl Zbj rfl (fun b92=>?_))))))⟩
 refine ⟨⟨((((hle86.trans hle87).trans hle88).trans hle90).trans hle91),t2⟩,(ZaG 9 kr rfl kr kr (ZT [_,_,_,_,_] 28 [_,_,_,_,_] rfl rfl ZbN rfl rfl rfl rfl rfl rfl rfl rfl ?_))⟩
 refine aA 10 rfl (h:=ZB kr kr ?_)
 refine Zf (ZI [_,_,_,_,_,_,_,_,_,_,_,_,_,_,_,_,_,_,_,_,_,_,_,_,_,_,_,_,_] rfl (Zh (Za (xL [_,_,_,_,_] Zaz 28 (h:=xL [_,_,_,_,_] Zaz 6 (h:=Zq (Zai [25,26,27] rfl rfl rfl rfl rfl ZfH rfl (Z8.borrowL fun hm93=>Zak _ _ _ _ _ _ _ _ _ _ _ _ ((ZA x z).1) ((ZA x z).1) _ (hu91.lendK Zc.any 0 rfl hm93 om) (hf91.lendK ZD.known Zb.mono 1 rfl hm93 om) (hi91.lendK Z3.known Zi.mono 2 rfl hm93 om) (hu64.mono Zc.mono (Kn.le_add _ _)) (hf64.mono Zb.mono (Kn.le_add _ _)) (hi64.mono Zi.mono (Kn.le_add _ _))) ?_)))))))
 refine xN (h:=xM (h:=ZC (d:=106) rfl (fun gc=>by simp at gc) (fun gc=>?_)))
 try simp only [sQ,ne_eq] at gc
 refine xM (h:=xM (h:=Z4 (h:=xF (h:=Ze rfl (fun gd=>by simp at gd) (fun gd=>?_)))))
 try simp only [sQ,ne_eq] at gd
 refine Zg (Zf (Za (xA (h:=Za (xL [_,_,_,_,_] Zaz 16 (h:=xM (h:=Zq (Zai [13,14,15] rfl rfl rfl rfl rfl Zh1 rfl (Z8.borrowL fun hm94=>Zaj _ _ _ _ _ _ (ZA x z).1 1 oa _ (hs83a.lendK Zc.any 0 rfl hm94 (by simp only [Zp,Zs,Zu,Zv,ZQ];omega)) (hs83b.lendK ZD.known Zb.mono 1 rfl hm94 (by simp only [Zp,Zs,Zu,Zv,ZQ];omega)) (hs83c.lendK Z3.known Zi.mono 2 rfl hm94 (by simp only [Zp,Zs,Zu,Zv,ZQ];omega))) ?_))))))))
 refine xA (h:=Zh (Za (xM (h:=ZM (h:=Ze rfl (fun ge=>by first | omega | (simp at ge;done) | (simp at ge;omega)) (fun ge=>?_))))))
 try simp only [sQ,ne_eq] at ge
 refine Zg (Zf (Zh (Za (xM (h:=xM (h:=Z4 (h:=Ze rfl (fun gf=>by simp at gf) (fun gf=>?_))))))))
 try simp only [sQ,ne_eq] at gf
 refine Zg (Zf (Za (xA (h:=Zj ?_))))
 exact ZK .ret (.inl rfl) [_] t1 rfl
 refine (Zag (l:=[_,_,_,_,_]) rfl rfl Zbj rfl (fun b95=>⟨⟨(((hle86.trans hle87).trans hle88).trans hle90),t2⟩,(Zw 4 kr rfl kr (ZF rfl rfl Zh0 rfl (Z0 hJ _ _ _ _ _ _ x _ _ z om2 om2 om2 a _ hE hr86 hr87 hr88 hr90) ?_))⟩))
 rintro _ B96 _ hle96 ⟨q196,c196,q296,c296,q396,c396,l196,l296,l396,rfl,rfl,hu96,hf96,hi96⟩
 replace hu:=hu.mono Zc.mono hle96
 replace hf:=hf.mono Zb.mono hle96
 replace hi:=hi.mono Zi.mono hle96
 replace hz:=hz.mono ZJ.mono hle96
 replace hr86:=hr86.mono Zc.mono hle96
 replace hr87:=hr87.mono Zb.mono hle96
 replace hr88:=hr88.mono Zi.mono hle96
 replace hr90:=hr90.mono ZJ.mono hle96
 replace hu64:=hu64.mono Zc.mono hle96
 replace hf64:=hf64.mono Zb.mono hle96
 replace hi64:=hi64.mono Zi.mono hle96
 replace hs80a:=hs80a.mono Zc.mono hle96
 replace hs81:=hs81.mono ZJ.mono hle96
 replace hs83a:=hs83a.mono Zc.mono hle96
 replace hE:=hE.mono hle96
 refine ⟨⟨((((hle86.trans hle87).trans hle88).trans hle90).trans hle96),t2⟩,(aM 5 rfl (h:=aE 6 rfl (h:=aE 7 rfl (h:=ZaG 9 kr rfl kr kr (ZT [_,_,_,_,_] 25 [_,_,_,_,_] rfl rfl ZbN rfl rfl rfl rfl rfl rfl rfl rfl ?_)))))⟩
 refine aA 10 rfl (h:=ZB kr kr ?_)
 refine Zf (ZI [_,_,_,_,_,_,_,_,_,_,_,_,_,_,_,_,_,_,_,_,_,_,_,_,_,_,_,_,_] rfl (Zh (Za (xL [_,_,_,_,_] Zaz 25 (h:=xL [_,_,_,_,_] Zaz 6 (h:=Zq (Zai [26,27,28] rfl rfl rfl rfl rfl ZfH rfl (Z8.borrowL fun hm97=>Zak _ _ _ _ _ _ _ _ _ _ _ _ ((ZA x z).1) ((ZA x z).1) _ (hu96.lendK Zc.any 0 rfl hm97 om) (hf96.lendK ZD.known Zb.mono 1 rfl hm97 om) (hi96.lendK Z3.known Zi.mono 2 rfl hm97 om) (hu64.mono Zc.mono (Kn.le_add _ _)) (hf64.mono Zb.mono (Kn.le_add _ _)) (hi64.mono Zi.mono (Kn.le_add _ _))) ?_)))))))
 refine xN (h:=xM (h:=ZC (d:=106) rfl (fun gc=>by simp at gc) (fun gc=>?_)))
 try simp only [sQ,ne_eq] at gc
 refine xM (h:=xM (h:=Z4 (h:=xF (h:=Ze rfl (fun gd=>by simp at gd) (fun gd=>?_)))))
 try simp only [sQ,ne_eq] at gd
 refine Zg (Zf (Za (xA (h:=Za (xL [_,_,_,_,_] Zaz 16 (h:=xM (h:=Zq (Zai [13,14,15] rfl rfl rfl rfl rfl Zh1 rfl (Z8.borrowL fun hm98=>Zaj _ _ _ _ _ _ (ZA x z).1 1 oa _ (hs83a.lendK Zc.any 0 rfl hm98 (by simp only [Zp,Zs,Zu,Zv,ZQ];omega)) (hs83b.lendK ZD.known Zb.mono 1 rfl hm98 (by simp only [Zp,Zs,Zu,Zv,ZQ];omega)) (hs83c.lendK Z3.known Zi.mono 2 rfl hm98 (by simp only [Zp,Zs,Zu,Zv,ZQ];omega))) ?_))))))))
 refine xA (h:=Zh (Za (xM (h:=ZM (h:=Ze rfl (fun ge=>by first | omega | (simp at ge;done) | (simp at ge;omega)) (fun ge=>?_))))))
 try simp only [sQ,ne_eq] at ge
 refine Zg (Zf (Zh (Za (xM (h:=xM (h:=Z4 (h:=Ze rfl (fun gf=>by simp at gf) (fun gf=>?_))))))))
 try simp only [sQ,ne_eq] at gf
 refine Zg (Zf (Za (xA (h:=Zj ?_))))
 exact ZK .ret (.inl rfl) [_] t1 rfl
 refine (Zag (l:=[_,_,_,_,_]) rfl rfl Zbj rfl (fun b99=>⟨⟨((hle86.trans hle87).trans hle88),t2⟩,(Zw 3 kr rfl kr (ZF rfl rfl Zhg rfl (Zad _ _ z _ hz om2) ?_))⟩))
 rintro _ B100 _ hle100 ⟨q100,c100,l100,rfl,rfl,rfl,hv100⟩
 refine ⟨⟨((hle86.trans hle87).trans hle88),t2⟩,(ZaO 25 rfl hv100 ZJ.any om (fun B' hle'=>⟨((hle86.trans hle87).trans hle88).trans hle',t2⟩) (fun B101 hle101 hr101=>?_))⟩
 replace hu:=hu.mono Zc.mono hle101
 replace hf:=hf.mono Zb.mono hle101
 replace hi:=hi.mono Zi.mono hle101
 replace hz:=hz.mono ZJ.mono hle101
 replace hr86:=hr86.mono Zc.mono hle101
 replace hr87:=hr87.mono Zb.mono hle101
 replace hr88:=hr88.mono Zi.mono hle101
 replace hu64:=hu64.mono Zc.mono hle101
 replace hf64:=hf64.mono Zb.mono hle101
 replace hi64:=hi64.mono Zi.mono hle101
 replace hs80a:=hs80a.mono Zc.mono hle101
 replace hs81:=hs81.mono ZJ.mono hle101
 replace hs83a:=hs83a.mono Zc.mono hle101
 replace hE:=hE.mono hle101
 have hr101n:=hr101.len
 refine Zw 4 kr rfl kr (ZF rfl rfl Zh0 rfl (Z0 hJ _ _ _ _ _ _ x _ _ z om2 om2 om2 a _ hE hr86 hr87 hr88 hr101) ?_)
 rintro _ B102 _ hle102 ⟨q1102,c1102,q2102,c2102,q3102,c3102,l1102,l2102,l3102,rfl,rfl,hu102,hf102,hi102⟩
 replace hu:=hu.mono Zc.mono hle102
 replace hf:=hf.mono Zb.mono hle102
 replace hi:=hi.mono Zi.mono hle102
 replace hz:=hz.mono ZJ.mono hle102
 replace hr86:=hr86.mono Zc.mono hle102
 replace hr87:=hr87.mono Zb.mono hle102
 replace hr88:=hr88.mono Zi.mono hle102
 replace hr101:=hr101.mono ZJ.mono hle102
 replace hu64:=hu64.mono Zc.mono hle102
 replace hf64:=hf64.mono Zb.mono hle102
 replace hi64:=hi64.mono Zi.mono hle102
 replace hs80a:=hs80a.mono Zc.mono hle102
 replace hs81:=hs81.mono ZJ.mono hle102
 replace hs83a:=hs83a.mono Zc.mono hle102
 replace hE:=hE.mono hle102
 refine ⟨⟨((((hle86.trans hle87).trans hle88).trans hle101).trans hle102),t2⟩,(aM 5 rfl (h:=aE 6 rfl (h:=aE 7 rfl (h:=ZaG 9 kr rfl kr kr (ZT [_,_,_,_,_] 24 [_,_,_,_,_] rfl rfl ZbN rfl rfl rfl rfl rfl rfl rfl rfl ?_)))))⟩
 refine aA 10 rfl (h:=ZB kr kr ?_)
 refine Zf (ZI [_,_,_,_,_,_,_,_,_,_,_,_,_,_,_,_,_,_,_,_,_,_,_,_,_,_,_,_,_] rfl (Zh (Za (xL [_,_,_,_,_] Zaz 24 (h:=xL [_,_,_,_,_] Zaz 6 (h:=Zq (Zai [26,27,28] rfl rfl rfl rfl rfl ZfH rfl (Z8.borrowL fun hm103=>Zak _ _ _ _ _ _ _ _ _ _ _ _ ((ZA x z).1) ((ZA x z).1) _ (hu102.lendK Zc.any 0 rfl hm103 om) (hf102.lendK ZD.known Zb.mono 1 rfl hm103 om) (hi102.lendK Z3.known Zi.mono 2 rfl hm103 om) (hu64.mono Zc.mono (Kn.le_add _ _)) (hf64.mono Zb.mono (Kn.le_add _ _)) (hi64.mono Zi.mono (Kn.le_add _ _))) ?_)))))))
 refine xN (h:=xM (h:=ZC (d:=106) rfl (fun gc=>by simp at gc) (fun gc=>?_)))
 try simp only [sQ,ne_eq] at gc
 refine xM (h:=xM (h:=Z4 (h:=xF (h:=Ze rfl (fun gd=>by simp at gd) (fun gd=>?_)))))
 try simp only [sQ,ne_eq] at gd
 refine Zg (Zf (Za (xA (h:=Za (xL [_,_,_,_,_] Zaz 16 (h:=xM (h:=Zq (Zai [13,14,15] rfl rfl rfl rfl rfl Zh1 rfl (Z8.borrowL fun hm104=>Zaj _ _ _ _ _ _ (ZA x z).1 1 oa _ (hs83a.lendK Zc.any 0 rfl hm104 (by simp only [Zp,Zs,Zu,Zv,ZQ];omega)) (hs83b.lendK ZD.known Zb.mono 1 rfl hm104 (by simp only [Zp,Zs,Zu,Zv,ZQ];omega)) (hs83c.lendK Z3.known Zi.mono 2 rfl hm104 (by simp only [Zp,Zs,Zu,Zv,ZQ];omega))) ?_))))))))
 refine xA (h:=Zh (Za (xM (h:=ZM (h:=Ze rfl (fun ge=>by first | omega | (simp at ge;done) | (simp at ge;omega)) (fun ge=>?_))))))
 try simp only [sQ,ne_eq] at ge
 refine Zg (Zf (Zh (Za (xM (h:=xM (h:=Z4 (h:=Ze rfl (fun gf=>by simp at gf) (fun gf=>?_))))))))
 try simp only [sQ,ne_eq] at gf
 refine Zg (Zf (Za (xA (h:=Zj ?_))))
 exact ZK .ret (.inl rfl) [_] t1 rfl
 refine (Zag (l:=[_,_,_,_,_]) rfl rfl Zbj rfl (fun b105=>⟨⟨Kn.le.refl _,t2⟩,(Zw 1 kr rfl kr (ZF rfl rfl ZiJ rfl (ZaY _ _ _ _ _ _ x _ hu hf hi om2) ?_))⟩))
 rintro _ B106 _ hle106 ⟨q106,c106,l106,q106b,c106b,l106b,q106c,c106c,l106c,rfl,rfl,rfl,hv106,hv106b,hv106c⟩
 refine ⟨⟨Kn.le.refl _,t2⟩,(ZaO 22 rfl hv106 Zc.any om (fun B' hle'=>⟨hle',t2⟩) (fun B107 hle107 hr107=>?_))⟩
 replace hu:=hu.mono Zc.mono hle107
 replace hf:=hf.mono Zb.mono hle107
 replace hi:=hi.mono Zi.mono hle107
 replace hz:=hz.mono ZJ.mono hle107
 replace hu64:=hu64.mono Zc.mono hle107
 replace hf64:=hf64.mono Zb.mono hle107
 replace hi64:=hi64.mono Zi.mono hle107
 replace hs80a:=hs80a.mono Zc.mono hle107
 replace hs81:=hs81.mono ZJ.mono hle107
 replace hs83a:=hs83a.mono Zc.mono hle107
 replace hE:=hE.mono hle107
 have hr107n:=hr107.len
 refine Za6 23 rfl hv106b ZD.known Zb.mono om (fun B' hle'=>⟨hle107.trans hle',t2⟩) (fun B108 hle108 hr108=>?_)
 replace hu:=hu.mono Zc.mono hle108
 replace hf:=hf.mono Zb.mono hle108
 replace hi:=hi.mono Zi.mono hle108
 replace hz:=hz.mono ZJ.mono hle108
 replace hr107:=hr107.mono Zc.mono hle108
 replace hu64:=hu64.mono Zc.mono hle108
 replace hf64:=hf64.mono Zb.mono hle108
 replace hi64:=hi64.mono Zi.mono hle108
 replace hs80a:=hs80a.mono Zc.mono hle108
 replace hs81:=hs81.mono ZJ.mono hle108
 replace hs83a:=hs83a.mono Zc.mono hle108
 replace hE:=hE.mono hle108
 have hr108n:=hr108.len
 refine Za6 24 rfl hv106c Z3.known Zi.mono om (fun B' hle'=>⟨(hle107.trans hle108).trans hle',t2⟩) (fun B109 hle109 hr109=>?_)
 replace hu:=hu.mono Zc.mono hle109
 replace hf:=hf.mono Zb.mono hle109
 replace hi:=hi.mono Zi.mono hle109
 replace hz:=hz.mono ZJ.mono hle109
 replace hr107:=hr107.mono Zc.mono hle109
 replace hr108:=hr108.mono Zb.mono hle109
 replace hu64:=hu64.mono Zc.mono hle109
 replace hf64:=hf64.mono Zb.mono hle109
 replace hi64:=hi64.mono Zi.mono hle109
 replace hs80a:=hs80a.mono Zc.mono hle109
 replace hs81:=hs81.mono ZJ.mono hle109
 replace hs83a:=hs83a.mono Zc.mono hle109
 replace hE:=hE.mono hle109
 have hr109n:=hr109.len
 refine Zw 3 kr rfl kr (ZF rfl rfl Zhg rfl (Zad _ _ z _ hz om2) ?_)
 rintro _ B110 _ hle110 ⟨q110,c110,l110,rfl,rfl,rfl,hv110⟩
 refine ⟨⟨((hle107.trans hle108).trans hle109),t2⟩,(ZaO 25 rfl hv110 ZJ.any om (fun B' hle'=>⟨((hle107.trans hle108).trans hle109).trans hle',t2⟩) (fun B111 hle111 hr111=>?_))⟩
 replace hu:=hu.mono Zc.mono hle111
 replace hf:=hf.mono Zb.mono hle111
 replace hi:=hi.mono Zi.mono hle111
 replace hz:=hz.mono ZJ.mono hle111
 replace hr107:=hr107.mono Zc.mono hle111
 replace hr108:=hr108.mono Zb.mono hle111
 replace hr109:=hr109.mono Zi.mono hle111
 replace hu64:=hu64.mono Zc.mono hle111
 replace hf64:=hf64.mono Zb.mono hle111
 replace hi64:=hi64.mono Zi.mono hle111
 replace hs80a:=hs80a.mono Zc.mono hle111
 replace hs81:=hs81.mono ZJ.mono hle111
 replace hs83a:=hs83a.mono Zc.mono hle111
 replace hE:=hE.mono hle111
 have hr111n:=hr111.len
 refine Zw 4 kr rfl kr (ZF rfl rfl Zh0 rfl (Z0 hJ _ _ _ _ _ _ x _ _ z om2 om2 om2 a _ hE hr107 hr108 hr109 hr111) ?_)
 rintro _ B112 _ hle112 ⟨q1112,c1112,q2112,c2112,q3112,c3112,l1112,l2112,l3112,rfl,rfl,hu112,hf112,hi112⟩
 replace hu:=hu.mono Zc.mono hle112
 replace hf:=hf.mono Zb.mono hle112
 replace hi:=hi.mono Zi.mono hle112
 replace hz:=hz.mono ZJ.mono hle112
 replace hr107:=hr107.mono Zc.mono hle112
 replace hr108:=hr108.mono Zb.mono hle112
 replace hr109:=hr109.mono Zi.mono hle112
 replace hr111:=hr111.mono ZJ.mono hle112
 replace hu64:=hu64.mono Zc.mono hle112
 replace hf64:=hf64.mono Zb.mono hle112
 replace hi64:=hi64.mono Zi.mono hle112
 replace hs80a:=hs80a.mono Zc.mono hle112
 replace hs81:=hs81.mono ZJ.mono hle112
 replace hs83a:=hs83a.mono Zc.mono hle112
 replace hE:=hE.mono hle112
 refine ⟨⟨((((hle107.trans hle108).trans hle109).trans hle111).trans hle112),t2⟩,(aM 5 rfl (h:=aE 6 rfl (h:=aE 7 rfl (h:=ZaG 9 kr rfl kr kr (ZT [_,_,_,_,_] 21 [_,_,_,_,_] rfl rfl ZbN rfl rfl rfl rfl rfl rfl rfl rfl ?_)))))⟩
 refine aA 10 rfl (h:=ZB kr kr ?_)
 refine Zf (ZI [_,_,_,_,_,_,_,_,_,_,_,_,_,_,_,_,_,_,_,_,_,_,_,_,_,_,_,_,_] rfl (Zh (Za (xL [_,_,_,_,_] Zaz 21 (h:=xL [_,_,_,_,_] Zaz 6 (h:=Zq (Zai [26,27,28] rfl rfl rfl rfl rfl ZfH rfl (Z8.borrowL fun hm113=>Zak _ _ _ _ _ _ _ _ _ _ _ _ ((ZA x z).1) ((ZA x z).1) _ (hu112.lendK Zc.any 0 rfl hm113 om) (hf112.lendK ZD.known Zb.mono 1 rfl hm113 om) (hi112.lendK Z3.known Zi.mono 2 rfl hm113 om) (hu64.mono Zc.mono (Kn.le_add _ _)) (hf64.mono Zb.mono (Kn.le_add _ _)) (hi64.mono Zi.mono (Kn.le_add _ _))) ?_)))))))
 refine xN (h:=xM (h:=ZC (d:=106) rfl (fun gc=>by simp at gc) (fun gc=>?_)))
 try simp only [sQ,ne_eq] at gc
 refine xM (h:=xM (h:=Z4 (h:=xF (h:=Ze rfl (fun gd=>by simp at gd) (fun gd=>?_)))))
 try simp only [sQ,ne_eq] at gd
 refine Zg (Zf (Za (xA (h:=Za (xL [_,_,_,_,_] Zaz 16 (h:=xM (h:=Zq (Zai [13,14,15] rfl rfl rfl rfl rfl Zh1 rfl (Z8.borrowL fun hm114=>Zaj _ _ _ _ _ _ (ZA x z).1 1 oa _ (hs83a.lendK Zc.any 0 rfl hm114 (by simp only [Zp,Zs,Zu,Zv,ZQ];omega)) (hs83b.lendK ZD.known Zb.mono 1 rfl hm114 (by simp only [Zp,Zs,Zu,Zv,ZQ];omega)) (hs83c.lendK Z3.known Zi.mono 2 rfl hm114 (by simp only [Zp,Zs,Zu,Zv,ZQ];omega))) ?_))))))))
 refine xA (h:=Zh (Za (xM (h:=ZM (h:=Ze rfl (fun ge=>by first | omega | (simp at ge;done) | (simp at ge;omega)) (fun ge=>?_))))))
 try simp only [sQ,ne_eq] at ge
 refine Zg (Zf (Zh (Za (xM (h:=xM (h:=Z4 (h:=Ze rfl (fun gf=>by simp at gf) (fun gf=>?_))))))))
 try simp only [sQ,ne_eq] at gf
 refine Zg (Zf (Za (xA (h:=Zj ?_))))
 exact ZK .ret (.inl rfl) [_] t1 rfl
 refine (Zag (l:=[_,_,_,_,_]) rfl rfl Zbj rfl (fun b115=>⟨⟨((hle6.trans hle7).trans hle8),t2⟩,(Zw 3 kr rfl kr (ZF rfl rfl Zhg rfl (Zad _ _ z _ hz om2) ?_))⟩))
 rintro _ B116 _ hle116 ⟨q116,c116,l116,rfl,rfl,rfl,hv116⟩
 refine ⟨⟨((hle6.trans hle7).trans hle8),t2⟩,(ZaO 6 rfl hv116 ZJ.any om (fun B' hle'=>⟨((hle6.trans hle7).trans hle8).trans hle',t2⟩) (fun B117 hle117 hr117=>?_))⟩
 replace hu:=hu.mono Zc.mono hle117
 replace hf:=hf.mono Zb.mono hle117
 replace hi:=hi.mono Zi.mono hle117
 replace hz:=hz.mono ZJ.mono hle117
 replace hr6:=hr6.mono Zc.mono hle117
 replace hr7:=hr7.mono Zb.mono hle117
 replace hr8:=hr8.mono Zi.mono hle117
 replace hE:=hE.mono hle117
 have hr117n:=hr117.len
 refine Zw 4 kr rfl kr (ZfI rfl rfl ZtN rfl (Zc7 _ _ _ _ _ _ x _ _ z om2 _ hr6 hr7 hr8 hr117 om2 om2) ?_)
 intro v118 B118 hle118
 rintro ⟨p1118,d1118,p2118,d2118,p3118,d3118,rfl,hu118,hf118,hi118,hd118⟩
 replace hu:=hu.mono Zc.mono hle118
 replace hf:=hf.mono Zb.mono hle118
 replace hi:=hi.mono Zi.mono hle118
 replace hz:=hz.mono ZJ.mono hle118
 replace hr6:=hr6.mono Zc.mono hle118
 replace hr7:=hr7.mono Zb.mono hle118
 replace hr8:=hr8.mono Zi.mono hle118
 replace hr117:=hr117.mono ZJ.mono hle118
 replace hE:=hE.mono hle118
 have hu118n:=hu118.len
 have hf118n:=hf118.len
 have hi118n:=hi118.len
 refine ⟨⟨((((hle6.trans hle7).trans hle8).trans hle117).trans hle118),t2⟩,(aM 5 rfl (h:=aE 6 rfl (h:=aE 7 rfl (h:=ZaG 9 kr rfl kr kr (ZT [_,_,_,_,_] 5 [_,_,_,_,_] rfl rfl ZbN rfl rfl rfl rfl rfl rfl rfl rfl ?_)))))⟩
 refine aA 10 rfl (h:=ZB kr kr ?_)
 refine Zf (ZI [_,_,_,_,_,_,_] rfl (Za (xL [_,_,_,_,_] Zlj 0 (h:=Zq (ZF rfl rfl ZiJ rfl (ZaY _ _ _ _ _ _ x _ hu hf hi om2) ?_)))))
 rintro _ B119 _ hle119 ⟨q119,c119,l119,q119b,c119b,l119b,q119c,c119c,l119c,rfl,rfl,rfl,hv119,hv119b,hv119c⟩
 refine xAl [_,_,_,_,_] Zbj (h:=fun b120=>xS [_,_,_,_,_] 10 [_,_,_,_,_] ZbN (h:=ZI [_,_,_,_,_,_,_,_,_,_,_] rfl (Za (xL [_,_,_] Zli 1 (h:=Zq (ZF rfl rfl Zhg rfl (Zad _ _ z _ hz om2) ?_))))))
 rintro _ B121 _ hle121 ⟨q121,c121,l121,rfl,rfl,rfl,hv121⟩
 refine xAl [_,_,_] Zp9 (h:=fun b122=>xS [_,_,_] 12 [_,_,_] Zsv (h:=ZI [_,_,_,_,_,_,_,_,_,_,_,_,_] rfl (Za (xL [_,_,_,_,_] Zaz 10 (h:=xL [_,_,_] ZhQ 12 (h:=Zq (Zam [7,8,9,11] rfl rfl rfl rfl Zh0 rfl (ZL.borrowK 4 fun hm123=>Z0 hJ _ _ _ _ _ _ x _ _ z om2 om2 om2 a _ (hE.mono (Kn.le_add _ _)) (hv119.lendK Zc.any 0 rfl hm123 om) (hv119b.lendK ZD.known Zb.mono 1 rfl hm123 om) (hv119c.lendK Z3.known Zi.mono 2 rfl hm123 om) (hv121.lendK ZJ.any 3 rfl hm123 om)) ?_)))))))
 rintro _ B123 _ hle123 ⟨BB123,_,rfl,hB123,_,hm123,_,q1123,c1123,q2123,c2123,q3123,c3123,l1123,l2123,l3123,rfl,rfl,hu123,hf123,hi123⟩
 replace hu:=hu.mono Zc.mono hle123
 replace hf:=hf.mono Zb.mono hle123
 replace hi:=hi.mono Zi.mono hle123
 replace hz:=hz.mono ZJ.mono hle123
 replace hu118:=hu118.mono Zc.mono hle123
 replace hf118:=hf118.mono Zb.mono hle123
 replace hi118:=hi118.mono Zi.mono hle123
 replace hv119:=hv119.mono Zc.mono hle123
 replace hv121:=hv121.mono ZJ.mono hle123
 replace hE:=hE.mono hle123
 refine xM (h:=xE (h:=xE (h:=xAl [_,_,_,_,_] Zbj (h:=fun b124=>xS [_,_,_,_,_] 16 [_,_,_,_,_] ZbN (h:=xA (h:=ZI [_,_,_,_,_,_,_,_,_,_,_,_,_,_,_,_,_] rfl (Zh (Za (xL [_,_,_,_,_] Zaz 16 (h:=xL [_,_,_,_,_] Zaz 5 (h:=Zq (Zai [13,14,15] rfl rfl rfl rfl rfl ZfH rfl (Z8.borrowL fun hm125=>Zak _ _ _ _ _ _ _ _ _ _ _ _ ((ZA x z).1) ((ZA x z).1) _ (hu123.lendK Zc.any 0 rfl hm125 om) (hf123.lendK ZD.known Zb.mono 1 rfl hm125 om) (hi123.lendK Z3.known Zi.mono 2 rfl hm125 om) (hu118.mono Zc.mono (Kn.le_add _ _)) (hf118.mono Zb.mono (Kn.le_add _ _)) (hi118.mono Zi.mono (Kn.le_add _ _))) ?_))))))))))))
 refine xN (h:=xM (h:=ZC (d:=49) rfl (fun g3=>by simp at g3) (fun g3=>?_)))
 try simp only [sQ,ne_eq] at g3
 refine xM (h:=xM (h:=Z4 (h:=xF (h:=Ze rfl (fun g4=>by simp at g4) (fun g4=>?_)))))
 try simp only [sQ,ne_eq] at g4
 refine Zg (Zf (Zh (Zh (Zac (keeps _ [0,10] _) mo kr ⟨Kn.le.refl _,ZaM.refl _ _⟩ (fun _ _=>?_)))))
 refine aT 0 rfl (ZZ fun D B L hI=>ZV [_,_,_,_,_] rfl rfl Zaz rfl (Za9 10 (hI.2.2.1.trans rfl) rfl rfl) r4) (h:=aT 1 rfl (ZZ fun D B L hI=>ZV [_,_,_,_,_] rfl rfl Zlj rfl (Za9 0 (hI.2.1.trans rfl) rfl rfl) r4) (h:=Zw 2 kr rfl kr (ZF rfl rfl ZiJ rfl (ZaY _ _ _ _ _ _ x _ hu hf hi om2) ?_)))
 rintro _ B126 _ hle126 ⟨q126,c126,l126,q126b,c126b,l126b,q126c,c126c,l126c,rfl,rfl,rfl,hv126,hv126b,hv126c⟩
 refine ⟨⟨Kn.le.refl _,t2⟩,(ZaO 17 rfl hv126 Zc.any om (fun B' hle'=>⟨hle',t2⟩) (fun B127 hle127 hr127=>?_))⟩
 replace hu:=hu.mono Zc.mono hle127
 replace hf:=hf.mono Zb.mono hle127
 replace hi:=hi.mono Zi.mono hle127
 replace hz:=hz.mono ZJ.mono hle127
 replace hu118:=hu118.mono Zc.mono hle127
 replace hf118:=hf118.mono Zb.mono hle127
 replace hi118:=hi118.mono Zi.mono hle127
 replace hv119:=hv119.mono Zc.mono hle127
 replace hv121:=hv121.mono ZJ.mono hle127
 replace hu123:=hu123.mono Zc.mono hle127
 replace hE:=hE.mono hle127
 have hr127n:=hr127.len
 refine Za6 18 rfl hv126b ZD.known Zb.mono om (fun B' hle'=>⟨hle127.trans hle',t2⟩) (fun B128 hle128 hr128=>?_)
 replace hu:=hu.mono Zc.mono hle128
 replace hf:=hf.mono Zb.mono hle128
 replace hi:=hi.mono Zi.mono hle128
 replace hz:=hz.mono ZJ.mono hle128
 replace hr127:=hr127.mono Zc.mono hle128
 replace hu118:=hu118.mono Zc.mono hle128
 replace hf118:=hf118.mono Zb.mono hle128
 replace hi118:=hi118.mono Zi.mono hle128
 replace hv119:=hv119.mono Zc.mono hle128
 replace hv121:=hv121.mono ZJ.mono hle128
 replace hu123:=hu123.mono Zc.mono hle128
 replace hE:=hE.mono hle128
 have hr128n:=hr128.len
 refine Za6 19 rfl hv126c Z3.known Zi.mono om (fun B' hle'=>⟨(hle127.trans hle128).trans hle',t2⟩) (fun B129 hle129 hr129=>?_)
 replace hu:=hu.mono Zc.mono hle129
 replace hf:=hf.mono Zb.mono hle129
 replace hi:=hi.mono Zi.mono hle129
 replace hz:=hz.mono ZJ.mono hle129
 replace hr127:=hr127.mono Zc.mono hle129
 replace hr128:=hr128.mono Zb.mono hle129
 replace hu118:=hu118.mono Zc.mono hle129
 replace hf118:=hf118.mono Zb.mono hle129
 replace hi118:=hi118.mono Zi.mono hle129
 replace hv119:=hv119.mono Zc.mono hle129
 replace hv121:=hv121.mono ZJ.mono hle129
 replace hu123:=hu123.mono Zc.mono hle129
 replace hE:=hE.mono hle129
 have hr129n:=hr129.len
 refine Zw 3 kr rfl kr (Zai [7,8,9] rfl rfl rfl rfl rfl ZfH rfl (Z8.borrowL fun hm130=>Zak _ _ _ _ _ _ _ _ _ _ _ _ x x _ (hv119.lendK Zc.any 0 rfl hm130 om) (hv119b.lendK ZD.known Zb.mono 1 rfl hm130 om) (hv119c.lendK Z3.known Zi.mono 2 rfl hm130 om) (hr127.mono Zc.mono (Kn.le_add _ _)) (hr128.mono Zb.mono (Kn.le_add _ _)) (hr129.mono Zi.mono (Kn.le_add _ _))) ?_)
 refine ⟨⟨((hle127.trans hle128).trans hle129),t2⟩,(aN 4 rfl (h:=ZB kr kr ?_))⟩
 refine Zf (ZI [_,_,_,_,_,_,_,_,_,_,_,_,_,_,_,_,_,_,_,_] rfl (Ze rfl (fun g5=>by simp at g5) (fun g5=>?_)))
 try simp only [sQ,ne_eq] at g5
 refine Zg (Zf (Zh (Zh (Zac (keeps _ [1,12] _) mo kr ⟨Kn.le.refl _,ZaM.refl _ _⟩ (fun _ _=>?_)))))
 refine aT 0 rfl (ZZ fun D B L hI=>ZV [_,_,_] rfl rfl ZhQ rfl (Za9 12 (hI.2.2.1.trans rfl) rfl rfl) r4) (h:=aT 1 rfl (ZZ fun D B L hI=>ZV [_,_,_] rfl rfl Zli rfl (Za9 1 (hI.2.1.trans rfl) rfl rfl) r4) (h:=Zw 2 kr rfl kr (ZF rfl rfl Zhg rfl (Zad _ _ z _ hz om2) ?_)))
 rintro _ B131 _ hle131 ⟨q131,c131,l131,rfl,rfl,rfl,hv131⟩
 refine ⟨⟨Kn.le.refl _,t2⟩,(ZaO 20 rfl hv131 ZJ.any om (fun B' hle'=>⟨hle',t2⟩) (fun B132 hle132 hr132=>?_))⟩
 replace hu:=hu.mono Zc.mono hle132
 replace hf:=hf.mono Zb.mono hle132
 replace hi:=hi.mono Zi.mono hle132
 replace hz:=hz.mono ZJ.mono hle132
 replace hu118:=hu118.mono Zc.mono hle132
 replace hf118:=hf118.mono Zb.mono hle132
 replace hi118:=hi118.mono Zi.mono hle132
 replace hv119:=hv119.mono Zc.mono hle132
 replace hv121:=hv121.mono ZJ.mono hle132
 replace hu123:=hu123.mono Zc.mono hle132
 replace hE:=hE.mono hle132
 have hr132n:=hr132.len
 refine Zw 3 kr rfl kr (Zfi 11 rfl rfl rfl ZtM rfl (Z8.borrow fun hm133=>ZeF _ _ _ _ z z _ ((hv121.anyK ZJ.any).lend ZJ.mono hm133 om) (hr132.mono ZJ.mono (Kn.le_add _ _))) ?_)
 refine ⟨⟨hle132,t2⟩,(aN 4 rfl (h:=ZB kr kr ?_))⟩
 refine Zf (ZI [_,_,_,_,_,_,_,_,_,_,_,_,_,_,_,_,_,_,_,_,_] rfl (Ze rfl (fun g6=>by simp at g6) (fun g6=>?_)))
 try simp only [sQ,ne_eq] at g6
 refine Zg (Zf (Za (xA (h:=Za (xL [_,_,_,_,_] Zaz 10 (h:=xM (h:=Zq (Zam [7,8,9] rfl rfl rfl rfl ZqC rfl (ZbT _ _ _ _ _ _ x _ _ _ 1 oa oz oz oz _ (hv119.anyK Zc.any) hv119b hv119c) ?_))))))))
 rintro _ B134 _ hle134 ⟨rfl,l134a,l134b,l134c,rfl,rfl,hs134a,hs134b,hs134c⟩
 refine xA (h:=ZI [_,_,_,_,_,_,_,_,_,_,_,_,_,_,_,_,_,_,_,_,_] rfl (Za (xL [_,_,_] ZhQ 12 (h:=xM (h:=Zq (Zam [11] rfl rfl rfl rfl ZtL rfl (Zc9 _ _ z _ (kH 1 x) oz oz _ (hv121.anyK ZJ.any)) ?_))))))
 rintro _ B135 _ hle135 ⟨rfl,l135,rfl,rfl,hs135⟩
 refine xA (h:=ZI [_,_,_,_,_,_,_,_,_,_,_,_,_,_,_,_,_,_,_,_,_] rfl (Zh (Za (xM (h:=ZM (h:=xM (h:=ZC (d:=72) rfl (fun g7=>by first | omega | (simp at g7;done) | (simp at g7;omega)) (fun g7=>?_))))))))
 try simp only [sQ,ne_eq] at g7
 refine xL [_,_,_,_,_] Zaz 16 (h:=xL [_,_,_,_,_] Zaz 5 (h:=Zq (Zai [13,14,15] rfl rfl rfl rfl rfl ZfH rfl (Z8.borrowL fun hm136=>Zak _ _ _ _ _ _ _ _ _ _ _ _ ((ZA x z).1) ((ZA x z).1) _ (hu123.lendK Zc.any 0 rfl hm136 om) (hf123.lendK ZD.known Zb.mono 1 rfl hm136 om) (hi123.lendK Z3.known Zi.mono 2 rfl hm136 om) (hu118.mono Zc.mono (Kn.le_add _ _)) (hf118.mono Zb.mono (Kn.le_add _ _)) (hi118.mono Zi.mono (Kn.le_add _ _))) ?_)))
 refine xN (h:=xF (h:=xM (h:=ZC (d:=78) rfl (fun g8=>by simp at g8) (fun g8=>?_))))
 try simp only [sQ,ne_eq] at g8
 refine xM (h:=xM (h:=Z4 (h:=xF (h:=Ze rfl (fun g9=>by simp at g9) (fun g9=>?_)))))
 try simp only [sQ,ne_eq] at g9
 refine Zg (Zf (Za (xA (h:=Za (xL [_,_,_,_,_] Zaz 16 (h:=xM (h:=Zq (Zam [13,14,15] rfl rfl rfl rfl ZqC rfl (ZbT _ _ _ _ _ _ ((ZA x z).1) _ _ _ 1 oa oz oz oz _ (hu123.anyK Zc.any) hf123 hi123) ?_))))))))
 rintro _ B137 _ hle137 ⟨rfl,l137a,l137b,l137c,rfl,rfl,hs137a,hs137b,hs137c⟩
 refine xA (h:=ZI [_,_,_,_,_,_,_,_,_,_,_,_,_,_,_,_,_,_,_,_,_] rfl (Za (xA (h:=Za (xL [_,_,_,_,_] Zaz 16 (h:=xM (h:=Zq (Zai [13,14,15] rfl rfl rfl rfl rfl Zh1 rfl (Z8.borrowL fun hm138=>Zaj _ _ _ _ _ _ (ZA x z).1 1 oa _ (hs137a.lendK Zc.any 0 rfl hm138 (by simp only [Zp,Zs,Zu,Zv,ZQ];omega)) (hs137b.lendK ZD.known Zb.mono 1 rfl hm138 (by simp only [Zp,Zs,Zu,Zv,ZQ];omega)) (hs137c.lendK Z3.known Zi.mono 2 rfl hm138 (by simp only [Zp,Zs,Zu,Zv,ZQ];omega))) ?_))))))))
 refine xA (h:=Zh (Za (xM (h:=ZM (h:=Ze rfl (fun ga=>by first | omega | (simp at ga;done) | (simp at ga;omega)) (fun ga=>?_))))))
 try simp only [sQ,ne_eq] at ga
 refine Zg (Zf (Zh (Za (xM (h:=xM (h:=Z4 (h:=Ze rfl (fun gb=>by simp at gb) (fun gb=>?_))))))))
 try simp only [sQ,ne_eq] at gb
 refine Zg (Zf (Zh (Zac (keeps _ [0,1] _) mo kr ⟨Kn.le.refl _,ZaM.refl _ _⟩ (fun _ _=>?_))))
 refine aT 0 rfl (ZZ fun D B L hI=>ZV [_,_,_,_,_] rfl rfl Zlj rfl (Za9 0 (hI.2.1.trans rfl) rfl rfl) r4) (h:=aT 2 rfl (ZZ fun D B L hI=>ZV [_,_,_] rfl rfl Zli rfl (Za9 1 (hI.2.2.1.trans rfl) rfl rfl) r4) (h:=Zan [1,8] kr kr kr ⟨?_,?_⟩))
 refine (ZF rfl rfl ZiJ rfl (ZaY _ _ _ _ _ _ x _ hu hf hi om2) ?_)
 rintro _ B139 _ hle139 ⟨q139,c139,l139,q139b,c139b,l139b,q139c,c139c,l139c,rfl,rfl,rfl,hv139,hv139b,hv139c⟩
 refine ⟨⟨Kn.le.refl _,t2⟩,(ZaO 21 rfl hv139 Zc.any om (fun B' hle'=>⟨hle',t2⟩) (fun B140 hle140 hr140=>?_))⟩
 replace hu:=hu.mono Zc.mono hle140
 replace hf:=hf.mono Zb.mono hle140
 replace hi:=hi.mono Zi.mono hle140
 replace hz:=hz.mono ZJ.mono hle140
 replace hu118:=hu118.mono Zc.mono hle140
 replace hf118:=hf118.mono Zb.mono hle140
 replace hi118:=hi118.mono Zi.mono hle140
 replace hs134a:=hs134a.mono Zc.mono hle140
 replace hs135:=hs135.mono ZJ.mono hle140
 replace hs137a:=hs137a.mono Zc.mono hle140
 replace hE:=hE.mono hle140
 have hr140n:=hr140.len
 refine Za6 22 rfl hv139b ZD.known Zb.mono om (fun B' hle'=>⟨hle140.trans hle',t2⟩) (fun B141 hle141 hr141=>?_)
 replace hu:=hu.mono Zc.mono hle141
 replace hf:=hf.mono Zb.mono hle141
 replace hi:=hi.mono Zi.mono hle141
 replace hz:=hz.mono ZJ.mono hle141
 replace hr140:=hr140.mono Zc.mono hle141
 replace hu118:=hu118.mono Zc.mono hle141
 replace hf118:=hf118.mono Zb.mono hle141
 replace hi118:=hi118.mono Zi.mono hle141
 replace hs134a:=hs134a.mono Zc.mono hle141
 replace hs135:=hs135.mono ZJ.mono hle141
 replace hs137a:=hs137a.mono Zc.mono hle141
 replace hE:=hE.mono hle141
 have hr141n:=hr141.len
 refine Za6 23 rfl hv139c Z3.known Zi.mono om (fun B' hle'=>⟨(hle140.trans hle141).trans hle',t2⟩) (fun B142 hle142 hr142=>?_)
 replace hu:=hu.mono Zc.mono hle142
 replace hf:=hf.mono Zb.mono hle142
 replace hi:=hi.mono Zi.mono hle142
 replace hz:=hz.mono ZJ.mono hle142
 replace hr140:=hr140.mono Zc.mono hle142
 replace hr141:=hr141.mono Zb.mono hle142
 replace hu118:=hu118.mono Zc.mono hle142
 replace hf118:=hf118.mono Zb.mono hle142
 replace hi118:=hi118.mono Zi.mono hle142
 replace hs134a:=hs134a.mono Zc.mono hle142
 replace hs135:=hs135.mono ZJ.mono hle142
 replace hs137a:=hs137a.mono Zc.mono hle142
 replace hE:=hE.mono hle142
 have hr142n:=hr142.len
 refine Zan [3,8] kr kr kr ⟨?_,?_⟩
 refine (ZF rfl rfl Zhg rfl (Zad _ _ z _ hz om2) ?_)
 rintro _ B143 _ hle143 ⟨q143,c143,l143,rfl,rfl,rfl,hv143⟩
 refine ⟨⟨((hle140.trans hle141).trans hle142),t2⟩,(ZaO 24 rfl hv143 ZJ.any om (fun B' hle'=>⟨((hle140.trans hle141).trans hle142).trans hle',t2⟩) (fun B144 hle144 hr144=>?_))⟩
 replace hu:=hu.mono Zc.mono hle144
 replace hf:=hf.mono Zb.mono hle144
 replace hi:=hi.mono Zi.mono hle144
 replace hz:=hz.mono ZJ.mono hle144
 replace hr140:=hr140.mono Zc.mono hle144
 replace hr141:=hr141.mono Zb.mono hle144
 replace hr142:=hr142.mono Zi.mono hle144
 replace hu118:=hu118.mono Zc.mono hle144
 replace hf118:=hf118.mono Zb.mono hle144
 replace hi118:=hi118.mono Zi.mono hle144
 replace hs134a:=hs134a.mono Zc.mono hle144
 replace hs135:=hs135.mono ZJ.mono hle144
 replace hs137a:=hs137a.mono Zc.mono hle144
 replace hE:=hE.mono hle144
 have hr144n:=hr144.len
 refine Zan [4,8] kr kr kr ⟨?_,?_⟩
 refine (ZF rfl rfl Zh0 rfl (Z0 hJ _ _ _ _ _ _ x _ _ z om2 om2 om2 a _ hE hr140 hr141 hr142 hr144) ?_)
 rintro _ B145 _ hle145 ⟨q1145,c1145,q2145,c2145,q3145,c3145,l1145,l2145,l3145,rfl,rfl,hu145,hf145,hi145⟩
 replace hu:=hu.mono Zc.mono hle145
 replace hf:=hf.mono Zb.mono hle145
 replace hi:=hi.mono Zi.mono hle145
 replace hz:=hz.mono ZJ.mono hle145
 replace hr140:=hr140.mono Zc.mono hle145
 replace hr141:=hr141.mono Zb.mono hle145
 replace hr142:=hr142.mono Zi.mono hle145
 replace hr144:=hr144.mono ZJ.mono hle145
 replace hu118:=hu118.mono Zc.mono hle145
 replace hf118:=hf118.mono Zb.mono hle145
 replace hi118:=hi118.mono Zi.mono hle145
 replace hs134a:=hs134a.mono Zc.mono hle145
 replace hs135:=hs135.mono ZJ.mono hle145
 replace hs137a:=hs137a.mono Zc.mono hle145
 replace hE:=hE.mono hle145
 refine ⟨⟨((((hle140.trans hle141).trans hle142).trans hle144).trans hle145),t2⟩,(aM 5 rfl (h:=aE 6 rfl (h:=aE 7 rfl (h:=Zw 8 kr rfl kr (Zag (l:=[_,_,_,_,_]) rfl rfl Zbj rfl (fun b146=>?_))))))⟩
 refine ⟨⟨((((hle140.trans hle141).trans hle142).trans hle144).trans hle145),t2⟩,(ZaG 9 kr rfl kr kr (ZT [_,_,_,_,_] 28 [_,_,_,_,_] rfl rfl ZbN rfl rfl rfl rfl rfl rfl rfl rfl ?_))⟩
 refine aA 10 rfl (h:=ZB kr kr ?_)
 refine Zf (ZI [_,_,_,_,_,_,_,_,_,_,_,_,_,_,_,_,_,_,_,_,_,_,_,_,_,_,_,_,_] rfl (Zh (Za (xL [_,_,_,_,_] Zaz 28 (h:=xL [_,_,_,_,_] Zaz 5 (h:=Zq (Zai [25,26,27] rfl rfl rfl rfl rfl ZfH rfl (Z8.borrowL fun hm147=>Zak _ _ _ _ _ _ _ _ _ _ _ _ ((ZA x z).1) ((ZA x z).1) _ (hu145.lendK Zc.any 0 rfl hm147 om) (hf145.lendK ZD.known Zb.mono 1 rfl hm147 om) (hi145.lendK Z3.known Zi.mono 2 rfl hm147 om) (hu118.mono Zc.mono (Kn.le_add _ _)) (hf118.mono Zb.mono (Kn.le_add _ _)) (hi118.mono Zi.mono (Kn.le_add _ _))) ?_)))))))
 refine xN (h:=xM (h:=ZC (d:=106) rfl (fun gc=>by simp at gc) (fun gc=>?_)))
 try simp only [sQ,ne_eq] at gc
 refine xM (h:=xM (h:=Z4 (h:=xF (h:=Ze rfl (fun gd=>by simp at gd) (fun gd=>?_)))))
 try simp only [sQ,ne_eq] at gd
 refine Zg (Zf (Za (xA (h:=Za (xL [_,_,_,_,_] Zaz 16 (h:=xM (h:=Zq (Zai [13,14,15] rfl rfl rfl rfl rfl Zh1 rfl (Z8.borrowL fun hm148=>Zaj _ _ _ _ _ _ (ZA x z).1 1 oa _ (hs137a.lendK Zc.any 0 rfl hm148 (by simp only [Zp,Zs,Zu,Zv,ZQ];omega)) (hs137b.lendK ZD.known Zb.mono 1 rfl hm148 (by simp only [Zp,Zs,Zu,Zv,ZQ];omega)) (hs137c.lendK Z3.known Zi.mono 2 rfl hm148 (by simp only [Zp,Zs,Zu,Zv,ZQ];omega))) ?_))))))))
 refine xA (h:=Zh (Za (xM (h:=ZM (h:=Ze rfl (fun ge=>by first | omega | (simp at ge;done) | (simp at ge;omega)) (fun ge=>?_))))))
 try simp only [sQ,ne_eq] at ge
 refine Zg (Zf (Zh (Za (xM (h:=xM (h:=Z4 (h:=Ze rfl (fun gf=>by simp at gf) (fun gf=>?_))))))))
 try simp only [sQ,ne_eq] at gf
 refine Zg (Zf (Za (xA (h:=Zj ?_))))
 exact ZK .ret (.inl rfl) [_] t1 rfl
 refine (Zag (l:=[_,_,_,_,_]) rfl rfl Zbj rfl (fun b149=>⟨⟨(((hle140.trans hle141).trans hle142).trans hle144),t2⟩,(Zw 4 kr rfl kr (ZF rfl rfl Zh0 rfl (Z0 hJ _ _ _ _ _ _ x _ _ z om2 om2 om2 a _ hE hr140 hr141 hr142 hr144) ?_))⟩))
 rintro _ B150 _ hle150 ⟨q1150,c1150,q2150,c2150,q3150,c3150,l1150,l2150,l3150,rfl,rfl,hu150,hf150,hi150⟩
 replace hu:=hu.mono Zc.mono hle150
 replace hf:=hf.mono Zb.mono hle150
 replace hi:=hi.mono Zi.mono hle150
 replace hz:=hz.mono ZJ.mono hle150
 replace hr140:=hr140.mono Zc.mono hle150
 replace hr141:=hr141.mono Zb.mono hle150
 replace hr142:=hr142.mono Zi.mono hle150
 replace hr144:=hr144.mono ZJ.mono hle150
 replace hu118:=hu118.mono Zc.mono hle150
 replace hf118:=hf118.mono Zb.mono hle150
 replace hi118:=hi118.mono Zi.mono hle150
 replace hs134a:=hs134a.mono Zc.mono hle150
 replace hs135:=hs135.mono ZJ.mono hle150
 replace hs137a:=hs137a.mono Zc.mono hle150
 replace hE:=hE.mono hle150
 refine ⟨⟨((((hle140.trans hle141).trans hle142).trans hle144).trans hle150),t2⟩,(aM 5 rfl (h:=aE 6 rfl (h:=aE 7 rfl (h:=ZaG 9 kr rfl kr kr (ZT [_,_,_,_,_] 25 [_,_,_,_,_] rfl rfl ZbN rfl rfl rfl rfl rfl rfl rfl rfl ?_)))))⟩
 refine aA 10 rfl (h:=ZB kr kr ?_)
 refine Zf (ZI [_,_,_,_,_,_,_,_,_,_,_,_,_,_,_,_,_,_,_,_,_,_,_,_,_,_,_,_,_] rfl (Zh (Za (xL [_,_,_,_,_] Zaz 25 (h:=xL [_,_,_,_,_] Zaz 5 (h:=Zq (Zai [26,27,28] rfl rfl rfl rfl rfl ZfH rfl (Z8.borrowL fun hm151=>Zak _ _ _ _ _ _ _ _ _ _ _ _ ((ZA x z).1) ((ZA x z).1) _ (hu150.lendK Zc.any 0 rfl hm151 om) (hf150.lendK ZD.known Zb.mono 1 rfl hm151 om) (hi150.lendK Z3.known Zi.mono 2 rfl hm151 om) (hu118.mono Zc.mono (Kn.le_add _ _)) (hf118.mono Zb.mono (Kn.le_add _ _)) (hi118.mono Zi.mono (Kn.le_add _ _))) ?_)))))))
 refine xN (h:=xM (h:=ZC (d:=106) rfl (fun gc=>by simp at gc) (fun gc=>?_)))
 try simp only [sQ,ne_eq] at gc
 refine xM (h:=xM (h:=Z4 (h:=xF (h:=Ze rfl (fun gd=>by simp at gd) (fun gd=>?_)))))
 try simp only [sQ,ne_eq] at gd
 refine Zg (Zf (Za (xA (h:=Za (xL [_,_,_,_,_] Zaz 16 (h:=xM (h:=Zq (Zai [13,14,15] rfl rfl rfl rfl rfl Zh1 rfl (Z8.borrowL fun hm152=>Zaj _ _ _ _ _ _ (ZA x z).1 1 oa _ (hs137a.lendK Zc.any 0 rfl hm152 (by simp only [Zp,Zs,Zu,Zv,ZQ];omega)) (hs137b.lendK ZD.known Zb.mono 1 rfl hm152 (by simp only [Zp,Zs,Zu,Zv,ZQ];omega)) (hs137c.lendK Z3.known Zi.mono 2 rfl hm152 (by simp only [Zp,Zs,Zu,Zv,ZQ];omega))) ?_))))))))
 refine xA (h:=Zh (Za (xM (h:=ZM (h:=Ze rfl (fun ge=>by first | omega | (simp at ge;done) | (simp at ge;omega)) (fun ge=>?_))))))
 try simp only [sQ,ne_eq] at ge
 refine Zg (Zf (Zh (Za (xM (h:=xM (h:=Z4 (h:=Ze rfl (fun gf=>by simp at gf) (fun gf=>?_))))))))
 try simp only [sQ,ne_eq] at gf
 refine Zg (Zf (Za (xA (h:=Zj ?_))))
 exact ZK .ret (.inl rfl) [_] t1 rfl
 refine (Zag (l:=[_,_,_,_,_]) rfl rfl Zbj rfl (fun b153=>⟨⟨((hle140.trans hle141).trans hle142),t2⟩,(Zw 3 kr rfl kr (ZF rfl rfl Zhg rfl (Zad _ _ z _ hz om2) ?_))⟩))
 rintro _ B154 _ hle154 ⟨q154,c154,l154,rfl,rfl,rfl,hv154⟩
 refine ⟨⟨((hle140.trans hle141).trans hle142),t2⟩,(ZaO 25 rfl hv154 ZJ.any om (fun B' hle'=>⟨((hle140.trans hle141).trans hle142).trans hle',t2⟩) (fun B155 hle155 hr155=>?_))⟩
 replace hu:=hu.mono Zc.mono hle155
 replace hf:=hf.mono Zb.mono hle155
 replace hi:=hi.mono Zi.mono hle155
 replace hz:=hz.mono ZJ.mono hle155
 replace hr140:=hr140.mono Zc.mono hle155
 replace hr141:=hr141.mono Zb.mono hle155
 replace hr142:=hr142.mono Zi.mono hle155
 replace hu118:=hu118.mono Zc.mono hle155
 replace hf118:=hf118.mono Zb.mono hle155
 replace hi118:=hi118.mono Zi.mono hle155
 replace hs134a:=hs134a.mono Zc.mono hle155
 replace hs135:=hs135.mono ZJ.mono hle155
 replace hs137a:=hs137a.mono Zc.mono hle155
 replace hE:=hE.mono hle155
 have hr155n:=hr155.len
 refine Zw 4 kr rfl kr (ZF rfl rfl Zh0 rfl (Z0 hJ _ _ _ _ _ _ x _ _ z om2 om2 om2 a _ hE hr140 hr141 hr142 hr155) ?_)
 rintro _ B156 _ hle156 ⟨q1156,c1156,q2156,c2156,q3156,c3156,l1156,l2156,l3156,rfl,rfl,hu156,hf156,hi156⟩
 replace hu:=hu.mono Zc.mono hle156
 replace hf:=hf.mono Zb.mono hle156
 replace hi:=hi.mono Zi.mono hle156
 replace hz:=hz.mono ZJ.mono hle156
 replace hr140:=hr140.mono Zc.mono hle156
 replace hr141:=hr141.mono Zb.mono hle156
 replace hr142:=hr142.mono Zi.mono hle156
 replace hr155:=hr155.mono ZJ.mono hle156
 replace hu118:=hu118.mono Zc.mono hle156
 replace hf118:=hf118.mono Zb.mono hle156
 replace hi118:=hi118.mono Zi.mono hle156
 replace hs134a:=hs134a.mono Zc.mono hle156
 replace hs135:=hs135.mono ZJ.mono hle156
 replace hs137a:=hs137a.mono Zc.mono hle156
 replace hE:=hE.mono hle156
 refine ⟨⟨((((hle140.trans hle141).trans hle142).trans hle155).trans hle156),t2⟩,(aM 5 rfl (h:=aE 6 rfl (h:=aE 7 rfl (h:=ZaG 9 kr rfl kr kr (ZT [_,_,_,_,_] 24 [_,_,_,_,_] rfl rfl ZbN rfl rfl rfl rfl rfl rfl rfl rfl ?_)))))⟩
 refine aA 10 rfl (h:=ZB kr kr ?_)
 refine Zf (ZI [_,_,_,_,_,_,_,_,_,_,_,_,_,_,_,_,_,_,_,_,_,_,_,_,_,_,_,_,_] rfl (Zh (Za (xL [_,_,_,_,_] Zaz 24 (h:=xL [_,_,_,_,_] Zaz 5 (h:=Zq (Zai [26,27,28] rfl rfl rfl rfl rfl ZfH rfl (Z8.borrowL fun hm157=>Zak _ _ _ _ _ _ _ _ _ _ _ _ ((ZA x z).1) ((ZA x z).1) _ (hu156.lendK Zc.any 0 rfl hm157 om) (hf156.lendK ZD.known Zb.mono 1 rfl hm157 om) (hi156.lendK Z3.known Zi.mono 2 rfl hm157 om) (hu118.mono Zc.mono (Kn.le_add _ _)) (hf118.mono Zb.mono (Kn.le_add _ _)) (hi118.mono Zi.mono (Kn.le_add _ _))) ?_)))))))
 refine xN (h:=xM (h:=ZC (d:=106) rfl (fun gc=>by simp at gc) (fun gc=>?_)))
 try simp only [sQ,ne_eq] at gc
 refine xM (h:=xM (h:=Z4 (h:=xF (h:=Ze rfl (fun gd=>by simp at gd) (fun gd=>?_)))))
 try simp only [sQ,ne_eq] at gd
 refine Zg (Zf (Za (xA (h:=Za (xL [_,_,_,_,_] Zaz 16 (h:=xM (h:=Zq (Zai [13,14,15] rfl rfl rfl rfl rfl Zh1 rfl (Z8.borrowL fun hm158=>Zaj _ _ _ _ _ _ (ZA x z).1 1 oa _ (hs137a.lendK Zc.any 0 rfl hm158 (by simp only [Zp,Zs,Zu,Zv,ZQ];omega)) (hs137b.lendK ZD.known Zb.mono 1 rfl hm158 (by simp only [Zp,Zs,Zu,Zv,ZQ];omega)) (hs137c.lendK Z3.known Zi.mono 2 rfl hm158 (by simp only [Zp,Zs,Zu,Zv,ZQ];omega))) ?_))))))))
 refine xA (h:=Zh (Za (xM (h:=ZM (h:=Ze rfl (fun ge=>by first | omega | (simp at ge;done) | (simp at ge;omega)) (fun ge=>?_))))))
 try simp only [sQ,ne_eq] at ge
 refine Zg (Zf (Zh (Za (xM (h:=xM (h:=Z4 (h:=Ze rfl (fun gf=>by simp at gf) (fun gf=>?_))))))))
 try simp only [sQ,ne_eq] at gf
 refine Zg (Zf (Za (xA (h:=Zj ?_))))
 exact ZK .ret (.inl rfl) [_] t1 rfl
 refine (Zag (l:=[_,_,_,_,_]) rfl rfl Zbj rfl (fun b159=>⟨⟨Kn.le.refl _,t2⟩,(Zw 1 kr rfl kr (ZF rfl rfl ZiJ rfl (ZaY _ _ _ _ _ _ x _ hu hf hi om2) ?_))⟩))
 rintro _ B160 _ hle160 ⟨q160,c160,l160,q160b,c160b,l160b,q160c,c160c,l160c,rfl,rfl,rfl,hv160,hv160b,hv160c⟩
 refine ⟨⟨Kn.le.refl _,t2⟩,(ZaO 22 rfl hv160 Zc.any om (fun B' hle'=>⟨hle',t2⟩) (fun B161 hle161 hr161=>?_))⟩
 replace hu:=hu.mono Zc.mono hle161
 replace hf:=hf.mono Zb.mono hle161
 replace hi:=hi.mono Zi.mono hle161
 replace hz:=hz.mono ZJ.mono hle161
 replace hu118:=hu118.mono Zc.mono hle161
 replace hf118:=hf118.mono Zb.mono hle161
 replace hi118:=hi118.mono Zi.mono hle161
 replace hs134a:=hs134a.mono Zc.mono hle161
 replace hs135:=hs135.mono ZJ.mono hle161
 replace hs137a:=hs137a.mono Zc.mono hle161
 replace hE:=hE.mono hle161
 have hr161n:=hr161.len
 refine Za6 23 rfl hv160b ZD.known Zb.mono om (fun B' hle'=>⟨hle161.trans hle',t2⟩) (fun B162 hle162 hr162=>?_)
 replace hu:=hu.mono Zc.mono hle162
 replace hf:=hf.mono Zb.mono hle162
 replace hi:=hi.mono Zi.mono hle162
 replace hz:=hz.mono ZJ.mono hle162
 replace hr161:=hr161.mono Zc.mono hle162
 replace hu118:=hu118.mono Zc.mono hle162
 replace hf118:=hf118.mono Zb.mono hle162
 replace hi118:=hi118.mono Zi.mono hle162
 replace hs134a:=hs134a.mono Zc.mono hle162
 replace hs135:=hs135.mono ZJ.mono hle162
 replace hs137a:=hs137a.mono Zc.mono hle162
 replace hE:=hE.mono hle162
 have hr162n:=hr162.len
 refine Za6 24 rfl hv160c Z3.known Zi.mono om (fun B' hle'=>⟨(hle161.trans hle162).trans hle',t2⟩) (fun B163 hle163 hr163=>?_)
 replace hu:=hu.mono Zc.mono hle163
 replace hf:=hf.mono Zb.mono hle163
 replace hi:=hi.mono Zi.mono hle163
 replace hz:=hz.mono ZJ.mono hle163
 replace hr161:=hr161.mono Zc.mono hle163
 replace hr162:=hr162.mono Zb.mono hle163
 replace hu118:=hu118.mono Zc.mono hle163
 replace hf118:=hf118.mono Zb.mono hle163
 replace hi118:=hi118.mono Zi.mono hle163
 replace hs134a:=hs134a.mono Zc.mono hle163
 replace hs135:=hs135.mono ZJ.mono hle163
 replace hs137a:=hs137a.mono Zc.mono hle163
 replace hE:=hE.mono hle163
 have hr163n:=hr163.len
 refine Zw 3 kr rfl kr (ZF rfl rfl Zhg rfl (Zad _ _ z _ hz om2) ?_)
 rintro _ B164 _ hle164 ⟨q164,c164,l164,rfl,rfl,rfl,hv164⟩
 refine ⟨⟨((hle161.trans hle162).trans hle163),t2⟩,(ZaO 25 rfl hv164 ZJ.any om (fun B' hle'=>⟨((hle161.trans hle162).trans hle163).trans hle',t2⟩) (fun B165 hle165 hr165=>?_))⟩
 replace hu:=hu.mono Zc.mono hle165
 replace hf:=hf.mono Zb.mono hle165
 replace hi:=hi.mono Zi.mono hle165
 replace hz:=hz.mono ZJ.mono hle165
 replace hr161:=hr161.mono Zc.mono hle165
 replace hr162:=hr162.mono Zb.mono hle165
 replace hr163:=hr163.mono Zi.mono hle165
 replace hu118:=hu118.mono Zc.mono hle165
 replace hf118:=hf118.mono Zb.mono hle165
 replace hi118:=hi118.mono Zi.mono hle165
 replace hs134a:=hs134a.mono Zc.mono hle165
 replace hs135:=hs135.mono ZJ.mono hle165
 replace hs137a:=hs137a.mono Zc.mono hle165
 replace hE:=hE.mono hle165
 have hr165n:=hr165.len
 refine Zw 4 kr rfl kr (ZF rfl rfl Zh0 rfl (Z0 hJ _ _ _ _ _ _ x _ _ z om2 om2 om2 a _ hE hr161 hr162 hr163 hr165) ?_)
 rintro _ B166 _ hle166 ⟨q1166,c1166,q2166,c2166,q3166,c3166,l1166,l2166,l3166,rfl,rfl,hu166,hf166,hi166⟩
 replace hu:=hu.mono Zc.mono hle166
 replace hf:=hf.mono Zb.mono hle166
 replace hi:=hi.mono Zi.mono hle166
 replace hz:=hz.mono ZJ.mono hle166
 replace hr161:=hr161.mono Zc.mono hle166
 replace hr162:=hr162.mono Zb.mono hle166
 replace hr163:=hr163.mono Zi.mono hle166
 replace hr165:=hr165.mono ZJ.mono hle166
 replace hu118:=hu118.mono Zc.mono hle166
 replace hf118:=hf118.mono Zb.mono hle166
 replace hi118:=hi118.mono Zi.mono hle166
 replace hs134a:=hs134a.mono Zc.mono hle166
 replace hs135:=hs135.mono ZJ.mono hle166
 replace hs137a:=hs137a.mono Zc.mono hle166
 replace hE:=hE.mono hle166
 refine ⟨⟨((((hle161.trans hle162).trans hle163).trans hle165).trans hle166),t2⟩,(aM 5 rfl (h:=aE 6 rfl (h:=aE 7 rfl (h:=ZaG 9 kr rfl kr kr (ZT [_,_,_,_,_] 21 [_,_,_,_,_] rfl rfl ZbN rfl rfl rfl rfl rfl rfl rfl rfl ?_)))))⟩
 refine aA 10 rfl (h:=ZB kr kr ?_)
 refine Zf (ZI [_,_,_,_,_,_,_,_,_,_,_,_,_,_,_,_,_,_,_,_,_,_,_,_,_,_,_,_,_] rfl (Zh (Za (xL [_,_,_,_,_] Zaz 21 (h:=xL [_,_,_,_,_] Zaz 5 (h:=Zq (Zai [26,27,28] rfl rfl rfl rfl rfl ZfH rfl (Z8.borrowL fun hm167=>Zak _ _ _ _ _ _ _ _ _ _ _ _ ((ZA x z).1) ((ZA x z).1) _ (hu166.lendK Zc.any 0 rfl hm167 om) (hf166.lendK ZD.known Zb.mono 1 rfl hm167 om) (hi166.lendK Z3.known Zi.mono 2 rfl hm167 om) (hu118.mono Zc.mono (Kn.le_add _ _)) (hf118.mono Zb.mono (Kn.le_add _ _)) (hi118.mono Zi.mono (Kn.le_add _ _))) ?_)))))))
 refine xN (h:=xM (h:=ZC (d:=106) rfl (fun gc=>by simp at gc) (fun gc=>?_)))
 try simp only [sQ,ne_eq] at gc
 refine xM (h:=xM (h:=Z4 (h:=xF (h:=Ze rfl (fun gd=>by simp at gd) (fun gd=>?_)))))
 try simp only [sQ,ne_eq] at gd
 refine Zg (Zf (Za (xA (h:=Za (xL [_,_,_,_,_] Zaz 16 (h:=xM (h:=Zq (Zai [13,14,15] rfl rfl rfl rfl rfl Zh1 rfl (Z8.borrowL fun hm168=>Zaj _ _ _ _ _ _ (ZA x z).1 1 oa _ (hs137a.lendK Zc.any 0 rfl hm168 (by simp only [Zp,Zs,Zu,Zv,ZQ];omega)) (hs137b.lendK ZD.known Zb.mono 1 rfl hm168 (by simp only [Zp,Zs,Zu,Zv,ZQ];omega)) (hs137c.lendK Z3.known Zi.mono 2 rfl hm168 (by simp only [Zp,Zs,Zu,Zv,ZQ];omega))) ?_))))))))
 refine xA (h:=Zh (Za (xM (h:=ZM (h:=Ze rfl (fun ge=>by first | omega | (simp at ge;done) | (simp at ge;omega)) (fun ge=>?_))))))
 try simp only [sQ,ne_eq] at ge
 refine Zg (Zf (Zh (Za (xM (h:=xM (h:=Z4 (h:=Ze rfl (fun gf=>by simp at gf) (fun gf=>?_))))))))
 try simp only [sQ,ne_eq] at gf
 refine Zg (Zf (Za (xA (h:=Zj ?_))))
 exact ZK .ret (.inl rfl) [_] t1 rfl
 refine (Zag (l:=[_,_,_,_,_]) rfl rfl Zbj rfl (fun b169=>⟨⟨Kn.le.refl _,t2⟩,(Zw 1 kr rfl kr (ZF rfl rfl ZiJ rfl (ZaY _ _ _ _ _ _ x _ hu hf hi om2) ?_))⟩))
 rintro _ B170 _ hle170 ⟨q170,c170,l170,q170b,c170b,l170b,q170c,c170c,l170c,rfl,rfl,rfl,hv170,hv170b,hv170c⟩
 refine ⟨⟨Kn.le.refl _,t2⟩,(ZaO 3 rfl hv170 Zc.any om (fun B' hle'=>⟨hle',t2⟩) (fun B171 hle171 hr171=>?_))⟩
 replace hu:=hu.mono Zc.mono hle171
 replace hf:=hf.mono Zb.mono hle171
 replace hi:=hi.mono Zi.mono hle171
 replace hz:=hz.mono ZJ.mono hle171
 replace hE:=hE.mono hle171
 have hr171n:=hr171.len
 refine Za6 4 rfl hv170b ZD.known Zb.mono om (fun B' hle'=>⟨hle171.trans hle',t2⟩) (fun B172 hle172 hr172=>?_)
 replace hu:=hu.mono Zc.mono hle172
 replace hf:=hf.mono Zb.mono hle172
 replace hi:=hi.mono Zi.mono hle172
 replace hz:=hz.mono ZJ.mono hle172
 replace hr171:=hr171.mono Zc.mono hle172
 replace hE:=hE.mono hle172
 have hr172n:=hr172.len
 refine Za6 5 rfl hv170c Z3.known Zi.mono om (fun B' hle'=>⟨(hle171.trans hle172).trans hle',t2⟩) (fun B173 hle173 hr173=>?_)
 replace hu:=hu.mono Zc.mono hle173
 replace hf:=hf.mono Zb.mono hle173
 replace hi:=hi.mono Zi.mono hle173
 replace hz:=hz.mono ZJ.mono hle173
 replace hr171:=hr171.mono Zc.mono hle173
 replace hr172:=hr172.mono Zb.mono hle173
 replace hE:=hE.mono hle173
 have hr173n:=hr173.len
 refine Zw 3 kr rfl kr (ZF rfl rfl Zhg rfl (Zad _ _ z _ hz om2) ?_)
 rintro _ B174 _ hle174 ⟨q174,c174,l174,rfl,rfl,rfl,hv174⟩
 refine ⟨⟨((hle171.trans hle172).trans hle173),t2⟩,(ZaO 6 rfl hv174 ZJ.any om (fun B' hle'=>⟨((hle171.trans hle172).trans hle173).trans hle',t2⟩) (fun B175 hle175 hr175=>?_))⟩
 replace hu:=hu.mono Zc.mono hle175
 replace hf:=hf.mono Zb.mono hle175
 replace hi:=hi.mono Zi.mono hle175
 replace hz:=hz.mono ZJ.mono hle175
 replace hr171:=hr171.mono Zc.mono hle175
 replace hr172:=hr172.mono Zb.mono hle175
 replace hr173:=hr173.mono Zi.mono hle175
 replace hE:=hE.mono hle175
 have hr175n:=hr175.len
 refine Zw 4 kr rfl kr (ZfI rfl rfl ZtN rfl (Zc7 _ _ _ _ _ _ x _ _ z om2 _ hr171 hr172 hr173 hr175 om2 om2) ?_)
 intro v176 B176 hle176
 rintro ⟨p1176,d1176,p2176,d2176,p3176,d3176,rfl,hu176,hf176,hi176,hd176⟩
 replace hu:=hu.mono Zc.mono hle176
 replace hf:=hf.mono Zb.mono hle176
 replace hi:=hi.mono Zi.mono hle176
 replace hz:=hz.mono ZJ.mono hle176
 replace hr171:=hr171.mono Zc.mono hle176
 replace hr172:=hr172.mono Zb.mono hle176
 replace hr173:=hr173.mono Zi.mono hle176
 replace hr175:=hr175.mono ZJ.mono hle176
 replace hE:=hE.mono hle176
 have hu176n:=hu176.len
 have hf176n:=hf176.len
 have hi176n:=hi176.len
 refine ⟨⟨((((hle171.trans hle172).trans hle173).trans hle175).trans hle176),t2⟩,(aM 5 rfl (h:=aE 6 rfl (h:=aE 7 rfl (h:=ZaG 9 kr rfl kr kr (ZT [_,_,_,_,_] 2 [_,_,_,_,_] rfl rfl ZbN rfl rfl rfl rfl rfl rfl rfl rfl ?_)))))⟩
 refine aA 10 rfl (h:=ZB kr kr ?_)
 refine Zf (ZI [_,_,_,_,_,_,_] rfl (Za (xL [_,_,_,_,_] Zlj 0 (h:=Zq (ZF rfl rfl ZiJ rfl (ZaY _ _ _ _ _ _ x _ hu hf hi om2) ?_)))))
 rintro _ B177 _ hle177 ⟨q177,c177,l177,q177b,c177b,l177b,q177c,c177c,l177c,rfl,rfl,rfl,hv177,hv177b,hv177c⟩
 refine xAl [_,_,_,_,_] Zbj (h:=fun b178=>xS [_,_,_,_,_] 10 [_,_,_,_,_] ZbN (h:=ZI [_,_,_,_,_,_,_,_,_,_,_] rfl (Za (xL [_,_,_] Zli 1 (h:=Zq (ZF rfl rfl Zhg rfl (Zad _ _ z _ hz om2) ?_))))))
 rintro _ B179 _ hle179 ⟨q179,c179,l179,rfl,rfl,rfl,hv179⟩
 refine xAl [_,_,_] Zp9 (h:=fun b180=>xS [_,_,_] 12 [_,_,_] Zsv (h:=ZI [_,_,_,_,_,_,_,_,_,_,_,_,_] rfl (Za (xL [_,_,_,_,_] Zaz 10 (h:=xL [_,_,_] ZhQ 12 (h:=Zq (Zam [7,8,9,11] rfl rfl rfl rfl Zh0 rfl (ZL.borrowK 4 fun hm181=>Z0 hJ _ _ _ _ _ _ x _ _ z om2 om2 om2 a _ (hE.mono (Kn.le_add _ _)) (hv177.lendK Zc.any 0 rfl hm181 om) (hv177b.lendK ZD.known Zb.mono 1 rfl hm181 om) (hv177c.lendK Z3.known Zi.mono 2 rfl hm181 om) (hv179.lendK ZJ.any 3 rfl hm181 om)) ?_)))))))
 rintro _ B181 _ hle181 ⟨BB181,_,rfl,hB181,_,hm181,_,q1181,c1181,q2181,c2181,q3181,c3181,l1181,l2181,l3181,rfl,rfl,hu181,hf181,hi181⟩
 replace hu:=hu.mono Zc.mono hle181
 replace hf:=hf.mono Zb.mono hle181
 replace hi:=hi.mono Zi.mono hle181
 replace hz:=hz.mono ZJ.mono hle181
 replace hu176:=hu176.mono Zc.mono hle181
 replace hf176:=hf176.mono Zb.mono hle181
 replace hi176:=hi176.mono Zi.mono hle181
 replace hv177:=hv177.mono Zc.mono hle181
 replace hv179:=hv179.mono ZJ.mono hle181
 replace hE:=hE.mono hle181
 refine xM (h:=xE (h:=xE (h:=xAl [_,_,_,_,_] Zbj (h:=fun b182=>xS [_,_,_,_,_] 16 [_,_,_,_,_] ZbN (h:=xA (h:=ZI [_,_,_,_,_,_,_,_,_,_,_,_,_,_,_,_,_] rfl (Zh (Za (xL [_,_,_,_,_] Zaz 16 (h:=xL [_,_,_,_,_] Zaz 2 (h:=Zq (Zai [13,14,15] rfl rfl rfl rfl rfl ZfH rfl (Z8.borrowL fun hm183=>Zak _ _ _ _ _ _ _ _ _ _ _ _ ((ZA x z).1) ((ZA x z).1) _ (hu181.lendK Zc.any 0 rfl hm183 om) (hf181.lendK ZD.known Zb.mono 1 rfl hm183 om) (hi181.lendK Z3.known Zi.mono 2 rfl hm183 om) (hu176.mono Zc.mono (Kn.le_add _ _)) (hf176.mono Zb.mono (Kn.le_add _ _)) (hi176.mono Zi.mono (Kn.le_add _ _))) ?_))))))))))))
 refine xN (h:=xM (h:=ZC (d:=49) rfl (fun g3=>by simp at g3) (fun g3=>?_)))
 try simp only [sQ,ne_eq] at g3
 refine xM (h:=xM (h:=Z4 (h:=xF (h:=Ze rfl (fun g4=>by simp at g4) (fun g4=>?_)))))
 try simp only [sQ,ne_eq] at g4
 refine Zg (Zf (Zh (Zh (Zac (keeps _ [0,10] _) mo kr ⟨Kn.le.refl _,ZaM.refl _ _⟩ (fun _ _=>?_)))))
 refine aT 0 rfl (ZZ fun D B L hI=>ZV [_,_,_,_,_] rfl rfl Zaz rfl (Za9 10 (hI.2.2.1.trans rfl) rfl rfl) r4) (h:=aT 1 rfl (ZZ fun D B L hI=>ZV [_,_,_,_,_] rfl rfl Zlj rfl (Za9 0 (hI.2.1.trans rfl) rfl rfl) r4) (h:=Zw 2 kr rfl kr (ZF rfl rfl ZiJ rfl (ZaY _ _ _ _ _ _ x _ hu hf hi om2) ?_)))
 rintro _ B184 _ hle184 ⟨q184,c184,l184,q184b,c184b,l184b,q184c,c184c,l184c,rfl,rfl,rfl,hv184,hv184b,hv184c⟩
 refine ⟨⟨Kn.le.refl _,t2⟩,(ZaO 17 rfl hv184 Zc.any om (fun B' hle'=>⟨hle',t2⟩) (fun B185 hle185 hr185=>?_))⟩
 replace hu:=hu.mono Zc.mono hle185
 replace hf:=hf.mono Zb.mono hle185
 replace hi:=hi.mono Zi.mono hle185
 replace hz:=hz.mono ZJ.mono hle185
 replace hu176:=hu176.mono Zc.mono hle185
 replace hf176:=hf176.mono Zb.mono hle185
 replace hi176:=hi176.mono Zi.mono hle185
 replace hv177:=hv177.mono Zc.mono hle185
 replace hv179:=hv179.mono ZJ.mono hle185
 replace hu181:=hu181.mono Zc.mono hle185
 replace hE:=hE.mono hle185
 have hr185n:=hr185.len
 refine Za6 18 rfl hv184b ZD.known Zb.mono om (fun B' hle'=>⟨hle185.trans hle',t2⟩) (fun B186 hle186 hr186=>?_)
 replace hu:=hu.mono Zc.mono hle186
 replace hf:=hf.mono Zb.mono hle186
 replace hi:=hi.mono Zi.mono hle186
 replace hz:=hz.mono ZJ.mono hle186
 replace hr185:=hr185.mono Zc.mono hle186
 replace hu176:=hu176.mono Zc.mono hle186
 replace hf176:=hf176.mono Zb.mono hle186
 replace hi176:=hi176.mono Zi.mono hle186
 replace hv177:=hv177.mono Zc.mono hle186
 replace hv179:=hv179.mono ZJ.mono hle186
 replace hu181:=hu181.mono Zc.mono hle186
 replace hE:=hE.mono hle186
 have hr186n:=hr186.len
 refine Za6 19 rfl hv184c Z3.known Zi.mono om (fun B' hle'=>⟨(hle185.trans hle186).trans hle',t2⟩) (fun B187 hle187 hr187=>?_)
 replace hu:=hu.mono Zc.mono hle187
 replace hf:=hf.mono Zb.mono hle187
 replace hi:=hi.mono Zi.mono hle187
 replace hz:=hz.mono ZJ.mono hle187
 replace hr185:=hr185.mono Zc.mono hle187
 replace hr186:=hr186.mono Zb.mono hle187
 replace hu176:=hu176.mono Zc.mono hle187
 replace hf176:=hf176.mono Zb.mono hle187
 replace hi176:=hi176.mono Zi.mono hle187
 replace hv177:=hv177.mono Zc.mono hle187
 replace hv179:=hv179.mono ZJ.mono hle187
 replace hu181:=hu181.mono Zc.mono hle187
 replace hE:=hE.mono hle187
 have hr187n:=hr187.len
 refine Zw 3 kr rfl kr (Zai [7,8,9] rfl rfl rfl rfl rfl ZfH rfl (Z8.borrowL fun hm188=>Zak _ _ _ _ _ _ _ _ _ _ _ _ x x _ (hv177.lendK Zc.any 0 rfl hm188 om) (hv177b.lendK ZD.known Zb.mono 1 rfl hm188 om) (hv177c.lendK Z3.known Zi.mono 2 rfl hm188 om) (hr185.mono Zc.mono (Kn.le_add _ _)) (hr186.mono Zb.mono (Kn.le_add _ _)) (hr187.mono Zi.mono (Kn.le_add _ _))) ?_)
 refine ⟨⟨((hle185.trans hle186).trans hle187),t2⟩,(aN 4 rfl (h:=ZB kr kr ?_))⟩
 refine Zf (ZI [_,_,_,_,_,_,_,_,_,_,_,_,_,_,_,_,_,_,_,_] rfl (Ze rfl (fun g5=>by simp at g5) (fun g5=>?_)))
 try simp only [sQ,ne_eq] at g5
 refine Zg (Zf (Zh (Zh (Zac (keeps _ [1,12] _) mo kr ⟨Kn.le.refl _,ZaM.refl _ _⟩ (fun _ _=>?_)))))
 refine aT 0 rfl (ZZ fun D B L hI=>ZV [_,_,_] rfl rfl ZhQ rfl (Za9 12 (hI.2.2.1.trans rfl) rfl rfl) r4) (h:=aT 1 rfl (ZZ fun D B L hI=>ZV [_,_,_] rfl rfl Zli rfl (Za9 1 (hI.2.1.trans rfl) rfl rfl) r4) (h:=Zw 2 kr rfl kr (ZF rfl rfl Zhg rfl (Zad _ _ z _ hz om2) ?_)))
 rintro _ B189 _ hle189 ⟨q189,c189,l189,rfl,rfl,rfl,hv189⟩
 refine ⟨⟨Kn.le.refl _,t2⟩,(ZaO 20 rfl hv189 ZJ.any om (fun B' hle'=>⟨hle',t2⟩) (fun B190 hle190 hr190=>?_))⟩
 replace hu:=hu.mono Zc.mono hle190
 replace hf:=hf.mono Zb.mono hle190
 replace hi:=hi.mono Zi.mono hle190
 replace hz:=hz.mono ZJ.mono hle190
 replace hu176:=hu176.mono Zc.mono hle190
 replace hf176:=hf176.mono Zb.mono hle190
 replace hi176:=hi176.mono Zi.mono hle190
 replace hv177:=hv177.mono Zc.mono hle190
 replace hv179:=hv179.mono ZJ.mono hle190
 replace hu181:=hu181.mono Zc.mono hle190
 replace hE:=hE.mono hle190
 have hr190n:=hr190.len
 refine Zw 3 kr rfl kr (Zfi 11 rfl rfl rfl ZtM rfl (Z8.borrow fun hm191=>ZeF _ _ _ _ z z _ ((hv179.anyK ZJ.any).lend ZJ.mono hm191 om) (hr190.mono ZJ.mono (Kn.le_add _ _))) ?_)
 refine ⟨⟨hle190,t2⟩,(aN 4 rfl (h:=ZB kr kr ?_))⟩
 refine Zf (ZI [_,_,_,_,_,_,_,_,_,_,_,_,_,_,_,_,_,_,_,_,_] rfl (Ze rfl (fun g6=>by simp at g6) (fun g6=>?_)))
 try simp only [sQ,ne_eq] at g6
 refine Zg (Zf (Za (xA (h:=Za (xL [_,_,_,_,_] Zaz 10 (h:=xM (h:=Zq (Zam [7,8,9] rfl rfl rfl rfl ZqC rfl (ZbT _ _ _ _ _ _ x _ _ _ 1 oa oz oz oz _ (hv177.anyK Zc.any) hv177b hv177c) ?_))))))))
 rintro _ B192 _ hle192 ⟨rfl,l192a,l192b,l192c,rfl,rfl,hs192a,hs192b,hs192c⟩
 refine xA (h:=ZI [_,_,_,_,_,_,_,_,_,_,_,_,_,_,_,_,_,_,_,_,_] rfl (Za (xL [_,_,_] ZhQ 12 (h:=xM (h:=Zq (Zam [11] rfl rfl rfl rfl ZtL rfl (Zc9 _ _ z _ (kH 1 x) oz oz _ (hv179.anyK ZJ.any)) ?_))))))
 rintro _ B193 _ hle193 ⟨rfl,l193,rfl,rfl,hs193⟩
 refine xA (h:=ZI [_,_,_,_,_,_,_,_,_,_,_,_,_,_,_,_,_,_,_,_,_] rfl (Zh (Za (xM (h:=ZM (h:=xM (h:=ZC (d:=72) rfl (fun g7=>by first | omega | (simp at g7;done) | (simp at g7;omega)) (fun g7=>?_))))))))
 try simp only [sQ,ne_eq] at g7
 refine xL [_,_,_,_,_] Zaz 16 (h:=xL [_,_,_,_,_] Zaz 2 (h:=Zq (Zai [13,14,15] rfl rfl rfl rfl rfl ZfH rfl (Z8.borrowL fun hm194=>Zak _ _ _ _ _ _ _ _ _ _ _ _ ((ZA x z).1) ((ZA x z).1) _ (hu181.lendK Zc.any 0 rfl hm194 om) (hf181.lendK ZD.known Zb.mono 1 rfl hm194 om) (hi181.lendK Z3.known Zi.mono 2 rfl hm194 om) (hu176.mono Zc.mono (Kn.le_add _ _)) (hf176.mono Zb.mono (Kn.le_add _ _)) (hi176.mono Zi.mono (Kn.le_add _ _))) ?_)))
 refine xN (h:=xF (h:=xM (h:=ZC (d:=78) rfl (fun g8=>by simp at g8) (fun g8=>?_))))
 try simp only [sQ,ne_eq] at g8
 refine xM (h:=xM (h:=Z4 (h:=xF (h:=Ze rfl (fun g9=>by simp at g9) (fun g9=>?_)))))
 try simp only [sQ,ne_eq] at g9
 refine Zg (Zf (Za (xA (h:=Za (xL [_,_,_,_,_] Zaz 16 (h:=xM (h:=Zq (Zam [13,14,15] rfl rfl rfl rfl ZqC rfl (ZbT _ _ _ _ _ _ ((ZA x z).1) _ _ _ 1 oa oz oz oz _ (hu181.anyK Zc.any) hf181 hi181) ?_))))))))
 rintro _ B195 _ hle195 ⟨rfl,l195a,l195b,l195c,rfl,rfl,hs195a,hs195b,hs195c⟩
 refine xA (h:=ZI [_,_,_,_,_,_,_,_,_,_,_,_,_,_,_,_,_,_,_,_,_] rfl (Za (xA (h:=Za (xL [_,_,_,_,_] Zaz 16 (h:=xM (h:=Zq (Zai [13,14,15] rfl rfl rfl rfl rfl Zh1 rfl (Z8.borrowL fun hm196=>Zaj _ _ _ _ _ _ (ZA x z).1 1 oa _ (hs195a.lendK Zc.any 0 rfl hm196 (by simp only [Zp,Zs,Zu,Zv,ZQ];omega)) (hs195b.lendK ZD.known Zb.mono 1 rfl hm196 (by simp only [Zp,Zs,Zu,Zv,ZQ];omega)) (hs195c.lendK Z3.known Zi.mono 2 rfl hm196 (by simp only [Zp,Zs,Zu,Zv,ZQ];omega))) ?_))))))))
 refine xA (h:=Zh (Za (xM (h:=ZM (h:=Ze rfl (fun ga=>by first | omega | (simp at ga;done) | (simp at ga;omega)) (fun ga=>?_))))))
 try simp only [sQ,ne_eq] at ga
 refine Zg (Zf (Zh (Za (xM (h:=xM (h:=Z4 (h:=Ze rfl (fun gb=>by simp at gb) (fun gb=>?_))))))))
 try simp only [sQ,ne_eq] at gb
 refine Zg (Zf (Zh (Zac (keeps _ [0,1] _) mo kr ⟨Kn.le.refl _,ZaM.refl _ _⟩ (fun _ _=>?_))))
 refine aT 0 rfl (ZZ fun D B L hI=>ZV [_,_,_,_,_] rfl rfl Zlj rfl (Za9 0 (hI.2.1.trans rfl) rfl rfl) r4) (h:=aT 2 rfl (ZZ fun D B L hI=>ZV [_,_,_] rfl rfl Zli rfl (Za9 1 (hI.2.2.1.trans rfl) rfl rfl) r4) (h:=Zan [1,8] kr kr kr ⟨?_,?_⟩))
 refine (ZF rfl rfl ZiJ rfl (ZaY _ _ _ _ _ _ x _ hu hf hi om2) ?_)
 rintro _ B197 _ hle197 ⟨q197,c197,l197,q197b,c197b,l197b,q197c,c197c,l197c,rfl,rfl,rfl,hv197,hv197b,hv197c⟩
 refine ⟨⟨Kn.le.refl _,t2⟩,(ZaO 21 rfl hv197 Zc.any om (fun B' hle'=>⟨hle',t2⟩) (fun B198 hle198 hr198=>?_))⟩
 replace hu:=hu.mono Zc.mono hle198
 replace hf:=hf.mono Zb.mono hle198
 replace hi:=hi.mono Zi.mono hle198
 replace hz:=hz.mono ZJ.mono hle198
 replace hu176:=hu176.mono Zc.mono hle198
 replace hf176:=hf176.mono Zb.mono hle198
 replace hi176:=hi176.mono Zi.mono hle198
 replace hs192a:=hs192a.mono Zc.mono hle198
 replace hs193:=hs193.mono ZJ.mono hle198
 replace hs195a:=hs195a.mono Zc.mono hle198
 replace hE:=hE.mono hle198
 have hr198n:=hr198.len
 refine Za6 22 rfl hv197b ZD.known Zb.mono om (fun B' hle'=>⟨hle198.trans hle',t2⟩) (fun B199 hle199 hr199=>?_)
 replace hu:=hu.mono Zc.mono hle199
 replace hf:=hf.mono Zb.mono hle199
 replace hi:=hi.mono Zi.mono hle199
 replace hz:=hz.mono ZJ.mono hle199
 replace hr198:=hr198.mono Zc.mono hle199
 replace hu176:=hu176.mono Zc.mono hle199
 replace hf176:=hf176.mono Zb.mono hle199
 replace hi176:=hi176.mono Zi.mono hle199
 replace hs192a:=hs192a.mono Zc.mono hle199
 replace hs193:=hs193.mono ZJ.mono hle199
 replace hs195a:=hs195a.mono Zc.mono hle199
 replace hE:=hE.mono hle199
 have hr199n:=hr199.len
 refine Za6 23 rfl hv197c Z3.known Zi.mono om (fun B' hle'=>⟨(hle198.trans hle199).trans hle',t2⟩) (fun B200 hle200 hr200=>?_)
 replace hu:=hu.mono Zc.mono hle200
 replace hf:=hf.mono Zb.mono hle200
 replace hi:=hi.mono Zi.mono hle200
 replace hz:=hz.mono ZJ.mono hle200
 replace hr198:=hr198.mono Zc.mono hle200
 replace hr199:=hr199.mono Zb.mono hle200
 replace hu176:=hu176.mono Zc.mono hle200
 replace hf176:=hf176.mono Zb.mono hle200
 replace hi176:=hi176.mono Zi.mono hle200
 replace hs192a:=hs192a.mono Zc.mono hle200
 replace hs193:=hs193.mono ZJ.mono hle200
 replace hs195a:=hs195a.mono Zc.mono hle200
 replace hE:=hE.mono hle200
 have hr200n:=hr200.len
 refine Zan [3,8] kr kr kr ⟨?_,?_⟩
 refine (ZF rfl rfl Zhg rfl (Zad _ _ z _ hz om2) ?_)
 rintro _ B201 _ hle201 ⟨q201,c201,l201,rfl,rfl,rfl,hv201⟩
 refine ⟨⟨((hle198.trans hle199).trans hle200),t2⟩,(ZaO 24 rfl hv201 ZJ.any om (fun B' hle'=>⟨((hle198.trans hle199).trans hle200).trans hle',t2⟩) (fun B202 hle202 hr202=>?_))⟩
 replace hu:=hu.mono Zc.mono hle202
 replace hf:=hf.mono Zb.mono hle202
 replace hi:=hi.mono Zi.mono hle202
 replace hz:=hz.mono ZJ.mono hle202
 replace hr198:=hr198.mono Zc.mono hle202
 replace hr199:=hr199.mono Zb.mono hle202
 replace hr200:=hr200.mono Zi.mono hle202
 replace hu176:=hu176.mono Zc.mono hle202
 replace hf176:=hf176.mono Zb.mono hle202
 replace hi176:=hi176.mono Zi.mono hle202
 replace hs192a:=hs192a.mono Zc.mono hle202
 replace hs193:=hs193.mono ZJ.mono hle202
 replace hs195a:=hs195a.mono Zc.mono hle202
 replace hE:=hE.mono hle202
 have hr202n:=hr202.len
 refine Zan [4,8] kr kr kr ⟨?_,?_⟩
 refine (ZF rfl rfl Zh0 rfl (Z0 hJ _ _ _ _ _ _ x _ _ z om2 om2 om2 a _ hE hr198 hr199 hr200 hr202) ?_)
 rintro _ B203 _ hle203 ⟨q1203,c1203,q2203,c2203,q3203,c3203,l1203,l2203,l3203,rfl,rfl,hu203,hf203,hi203⟩
 replace hu:=hu.mono Zc.mono hle203
 replace hf:=hf.mono Zb.mono hle203
 replace hi:=hi.mono Zi.mono hle203
 replace hz:=hz.mono ZJ.mono hle203
 replace hr198:=hr198.mono Zc.mono hle203
 replace hr199:=hr199.mono Zb.mono hle203
 replace hr200:=hr200.mono Zi.mono hle203
 replace hr202:=hr202.mono ZJ.mono hle203
 replace hu176:=hu176.mono Zc.mono hle203
 replace hf176:=hf176.mono Zb.mono hle203
 replace hi176:=hi176.mono Zi.mono hle203
 replace hs192a:=hs192a.mono Zc.mono hle203
 replace hs193:=hs193.mono ZJ.mono hle203
 replace hs195a:=hs195a.mono Zc.mono hle203
 replace hE:=hE.mono hle203
 refine ⟨⟨((((hle198.trans hle199).trans hle200).trans hle202).trans hle203),t2⟩,(aM 5 rfl (h:=aE 6 rfl (h:=aE 7 rfl (h:=Zw 8 kr rfl kr (Zag (l:=[_,_,_,_,_]) rfl rfl Zbj rfl (fun b204=>?_))))))⟩
 refine ⟨⟨((((hle198.trans hle199).trans hle200).trans hle202).trans hle203),t2⟩,(ZaG 9 kr rfl kr kr (ZT [_,_,_,_,_] 28 [_,_,_,_,_] rfl rfl ZbN rfl rfl rfl rfl rfl rfl rfl rfl ?_))⟩
 refine aA 10 rfl (h:=ZB kr kr ?_)
 refine Zf (ZI [_,_,_,_,_,_,_,_,_,_,_,_,_,_,_,_,_,_,_,_,_,_,_,_,_,_,_,_,_] rfl (Zh (Za (xL [_,_,_,_,_] Zaz 28 (h:=xL [_,_,_,_,_] Zaz 2 (h:=Zq (Zai [25,26,27] rfl rfl rfl rfl rfl ZfH rfl (Z8.borrowL fun hm205=>Zak _ _ _ _ _ _ _ _ _ _ _ _ ((ZA x z).1) ((ZA x z).1) _ (hu203.lendK Zc.any 0 rfl hm205 om) (hf203.lendK ZD.known Zb.mono 1 rfl hm205 om) (hi203.lendK Z3.known Zi.mono 2 rfl hm205 om) (hu176.mono Zc.mono (Kn.le_add _ _)) (hf176.mono Zb.mono (Kn.le_add _ _)) (hi176.mono Zi.mono (Kn.le_add _ _))) ?_)))))))
 refine xN (h:=xM (h:=ZC (d:=106) rfl (fun gc=>by simp at gc) (fun gc=>?_)))
 try simp only [sQ,ne_eq] at gc
 refine xM (h:=xM (h:=Z4 (h:=xF (h:=Ze rfl (fun gd=>by simp at gd) (fun gd=>?_)))))
 try simp only [sQ,ne_eq] at gd
 refine Zg (Zf (Za (xA (h:=Za (xL [_,_,_,_,_] Zaz 16 (h:=xM (h:=Zq (Zai [13,14,15] rfl rfl rfl rfl rfl Zh1 rfl (Z8.borrowL fun hm206=>Zaj _ _ _ _ _ _ (ZA x z).1 1 oa _ (hs195a.lendK Zc.any 0 rfl hm206 (by simp only [Zp,Zs,Zu,Zv,ZQ];omega)) (hs195b.lendK ZD.known Zb.mono 1 rfl hm206 (by simp only [Zp,Zs,Zu,Zv,ZQ];omega)) (hs195c.lendK Z3.known Zi.mono 2 rfl hm206 (by simp only [Zp,Zs,Zu,Zv,ZQ];omega))) ?_))))))))
 refine xA (h:=Zh (Za (xM (h:=ZM (h:=Ze rfl (fun ge=>by first | omega | (simp at ge;done) | (simp at ge;omega)) (fun ge=>?_))))))
 try simp only [sQ,ne_eq] at ge
 refine Zg (Zf (Zh (Za (xM (h:=xM (h:=Z4 (h:=Ze rfl (fun gf=>by simp at gf) (fun gf=>?_))))))))
 try simp only [sQ,ne_eq] at gf
 refine Zg (Zf (Za (xA (h:=Zj ?_))))
 exact ZK .ret (.inl rfl) [_] t1 rfl
 refine (Zag (l:=[_,_,_,_,_]) rfl rfl Zbj rfl (fun b207=>⟨⟨(((hle198.trans hle199).trans hle200).trans hle202),t2⟩,(Zw 4 kr rfl kr (ZF rfl rfl Zh0 rfl (Z0 hJ _ _ _ _ _ _ x _ _ z om2 om2 om2 a _ hE hr198 hr199 hr200 hr202) ?_))⟩))
 rintro _ B208 _ hle208 ⟨q1208,c1208,q2208,c2208,q3208,c3208,l1208,l2208,l3208,rfl,rfl,hu208,hf208,hi208⟩
 replace hu:=hu.mono Zc.mono hle208
 replace hf:=hf.mono Zb.mono hle208
 replace hi:=hi.mono Zi.mono hle208
 replace hz:=hz.mono ZJ.mono hle208
 replace hr198:=hr198.mono Zc.mono hle208
 replace hr199:=hr199.mono Zb.mono hle208
 replace hr200:=hr200.mono Zi.mono hle208
 replace hr202:=hr202.mono ZJ.mono hle208
 replace hu176:=hu176.mono Zc.mono hle208
 replace hf176:=hf176.mono Zb.mono hle208
 replace hi176:=hi176.mono Zi.mono hle208
 replace hs192a:=hs192a.mono Zc.mono hle208
 replace hs193:=hs193.mono ZJ.mono hle208
 replace hs195a:=hs195a.mono Zc.mono hle208
 replace hE:=hE.mono hle208
 refine ⟨⟨((((hle198.trans hle199).trans hle200).trans hle202).trans hle208),t2⟩,(aM 5 rfl (h:=aE 6 rfl (h:=aE 7 rfl (h:=ZaG 9 kr rfl kr kr (ZT [_,_,_,_,_] 25 [_,_,_,_,_] rfl rfl ZbN rfl rfl rfl rfl rfl rfl rfl rfl ?_)))))⟩
 refine aA 10 rfl (h:=ZB kr kr ?_)
 refine Zf (ZI [_,_,_,_,_,_,_,_,_,_,_,_,_,_,_,_,_,_,_,_,_,_,_,_,_,_,_,_,_] rfl (Zh (Za (xL [_,_,_,_,_] Zaz 25 (h:=xL [_,_,_,_,_] Zaz 2 (h:=Zq (Zai [26,27,28] rfl rfl rfl rfl rfl ZfH rfl (Z8.borrowL fun hm209=>Zak _ _ _ _ _ _ _ _ _ _ _ _ ((ZA x z).1) ((ZA x z).1) _ (hu208.lendK Zc.any 0 rfl hm209 om) (hf208.lendK ZD.known Zb.mono 1 rfl hm209 om) (hi208.lendK Z3.known Zi.mono 2 rfl hm209 om) (hu176.mono Zc.mono (Kn.le_add _ _)) (hf176.mono Zb.mono (Kn.le_add _ _)) (hi176.mono Zi.mono (Kn.le_add _ _))) ?_)))))))
 refine xN (h:=xM (h:=ZC (d:=106) rfl (fun gc=>by simp at gc) (fun gc=>?_)))
 try simp only [sQ,ne_eq] at gc
 refine xM (h:=xM (h:=Z4 (h:=xF (h:=Ze rfl (fun gd=>by simp at gd) (fun gd=>?_)))))
 try simp only [sQ,ne_eq] at gd
 refine Zg (Zf (Za (xA (h:=Za (xL [_,_,_,_,_] Zaz 16 (h:=xM (h:=Zq (Zai [13,14,15] rfl rfl rfl rfl rfl Zh1 rfl (Z8.borrowL fun hm210=>Zaj _ _ _ _ _ _ (ZA x z).1 1 oa _ (hs195a.lendK Zc.any 0 rfl hm210 (by simp only [Zp,Zs,Zu,Zv,ZQ];omega)) (hs195b.lendK ZD.known Zb.mono 1 rfl hm210 (by simp only [Zp,Zs,Zu,Zv,ZQ];omega)) (hs195c.lendK Z3.known Zi.mono 2 rfl hm210 (by simp only [Zp,Zs,Zu,Zv,ZQ];omega))) ?_))))))))
 refine xA (h:=Zh (Za (xM (h:=ZM (h:=Ze rfl (fun ge=>by first | omega | (simp at ge;done) | (simp at ge;omega)) (fun ge=>?_))))))
 try simp only [sQ,ne_eq] at ge
 refine Zg (Zf (Zh (Za (xM (h:=xM (h:=Z4 (h:=Ze rfl (fun gf=>by simp at gf) (fun gf=>?_))))))))
 try simp only [sQ,ne_eq] at gf
 refine Zg (Zf (Za (xA (h:=Zj ?_))))
 exact ZK .ret (.inl rfl) [_] t1 rfl
 refine (Zag (l:=[_,_,_,_,_]) rfl rfl Zbj rfl (fun b211=>⟨⟨((hle198.trans hle199).trans hle200),t2⟩,(Zw 3 kr rfl kr (ZF rfl rfl Zhg rfl (Zad _ _ z _ hz om2) ?_))⟩))
 rintro _ B212 _ hle212 ⟨q212,c212,l212,rfl,rfl,rfl,hv212⟩
 refine ⟨⟨((hle198.trans hle199).trans hle200),t2⟩,(ZaO 25 rfl hv212 ZJ.any om (fun B' hle'=>⟨((hle198.trans hle199).trans hle200).trans hle',t2⟩) (fun B213 hle213 hr213=>?_))⟩
 replace hu:=hu.mono Zc.mono hle213
 replace hf:=hf.mono Zb.mono hle213
 replace hi:=hi.mono Zi.mono hle213
 replace hz:=hz.mono ZJ.mono hle213
 replace hr198:=hr198.mono Zc.mono hle213
 replace hr199:=hr199.mono Zb.mono hle213
 replace hr200:=hr200.mono Zi.mono hle213
 replace hu176:=hu176.mono Zc.mono hle213
 replace hf176:=hf176.mono Zb.mono hle213
 replace hi176:=hi176.mono Zi.mono hle213
 replace hs192a:=hs192a.mono Zc.mono hle213
 replace hs193:=hs193.mono ZJ.mono hle213
 replace hs195a:=hs195a.mono Zc.mono hle213
 replace hE:=hE.mono hle213
 have hr213n:=hr213.len
 refine Zw 4 kr rfl kr (ZF rfl rfl Zh0 rfl (Z0 hJ _ _ _ _ _ _ x _ _ z om2 om2 om2 a _ hE hr198 hr199 hr200 hr213) ?_)
 rintro _ B214 _ hle214 ⟨q1214,c1214,q2214,c2214,q3214,c3214,l1214,l2214,l3214,rfl,rfl,hu214,hf214,hi214⟩
 replace hu:=hu.mono Zc.mono hle214
 replace hf:=hf.mono Zb.mono hle214
 replace hi:=hi.mono Zi.mono hle214
 replace hz:=hz.mono ZJ.mono hle214
 replace hr198:=hr198.mono Zc.mono hle214
 replace hr199:=hr199.mono Zb.mono hle214
 replace hr200:=hr200.mono Zi.mono hle214
 replace hr213:=hr213.mono ZJ.mono hle214
 replace hu176:=hu176.mono Zc.mono hle214
 replace hf176:=hf176.mono Zb.mono hle214
 replace hi176:=hi176.mono Zi.mono hle214
 replace hs192a:=hs192a.mono Zc.mono hle214
 replace hs193:=hs193.mono ZJ.mono hle214
 replace hs195a:=hs195a.mono Zc.mono hle214
 replace hE:=hE.mono hle214
 refine ⟨⟨((((hle198.trans hle199).trans hle200).trans hle213).trans hle214),t2⟩,(aM 5 rfl (h:=aE 6 rfl (h:=aE 7 rfl (h:=ZaG 9 kr rfl kr kr (ZT [_,_,_,_,_] 24 [_,_,_,_,_] rfl rfl ZbN rfl rfl rfl rfl rfl rfl rfl rfl ?_)))))⟩
 refine aA 10 rfl (h:=ZB kr kr ?_)
 refine Zf (ZI [_,_,_,_,_,_,_,_,_,_,_,_,_,_,_,_,_,_,_,_,_,_,_,_,_,_,_,_,_] rfl (Zh (Za (xL [_,_,_,_,_] Zaz 24 (h:=xL [_,_,_,_,_] Zaz 2 (h:=Zq (Zai [26,27,28] rfl rfl rfl rfl rfl ZfH rfl (Z8.borrowL fun hm215=>Zak _ _ _ _ _ _ _ _ _ _ _ _ ((ZA x z).1) ((ZA x z).1) _ (hu214.lendK Zc.any 0 rfl hm215 om) (hf214.lendK ZD.known Zb.mono 1 rfl hm215 om) (hi214.lendK Z3.known Zi.mono 2 rfl hm215 om) (hu176.mono Zc.mono (Kn.le_add _ _)) (hf176.mono Zb.mono (Kn.le_add _ _)) (hi176.mono Zi.mono (Kn.le_add _ _))) ?_)))))))
 refine xN (h:=xM (h:=ZC (d:=106) rfl (fun gc=>by simp at gc) (fun gc=>?_)))
 try simp only [sQ,ne_eq] at gc
 refine xM (h:=xM (h:=Z4 (h:=xF (h:=Ze rfl (fun gd=>by simp at gd) (fun gd=>?_)))))
 try simp only [sQ,ne_eq] at gd
 refine Zg (Zf (Za (xA (h:=Za (xL [_,_,_,_,_] Zaz 16 (h:=xM (h:=Zq (Zai [13,14,15] rfl rfl rfl rfl rfl Zh1 rfl (Z8.borrowL fun hm216=>Zaj _ _ _ _ _ _ (ZA x z).1 1 oa _ (hs195a.lendK Zc.any 0 rfl hm216 (by simp only [Zp,Zs,Zu,Zv,ZQ];omega)) (hs195b.lendK ZD.known Zb.mono 1 rfl hm216 (by simp only [Zp,Zs,Zu,Zv,ZQ];omega)) (hs195c.lendK Z3.known Zi.mono 2 rfl hm216 (by simp only [Zp,Zs,Zu,Zv,ZQ];omega))) ?_))))))))
 refine xA (h:=Zh (Za (xM (h:=ZM (h:=Ze rfl (fun ge=>by first | omega | (simp at ge;done) | (simp at ge;omega)) (fun ge=>?_))))))
 try simp only [sQ,ne_eq] at ge
 refine Zg (Zf (Zh (Za (xM (h:=xM (h:=Z4 (h:=Ze rfl (fun gf=>by simp at gf) (fun gf=>?_))))))))
 try simp only [sQ,ne_eq] at gf
 refine Zg (Zf (Za (xA (h:=Zj ?_))))
 exact ZK .ret (.inl rfl) [_] t1 rfl
 refine (Zag (l:=[_,_,_,_,_]) rfl rfl Zbj rfl (fun b217=>⟨⟨Kn.le.refl _,t2⟩,(Zw 1 kr rfl kr (ZF rfl rfl ZiJ rfl (ZaY _ _ _ _ _ _ x _ hu hf hi om2) ?_))⟩))
 rintro _ B218 _ hle218 ⟨q218,c218,l218,q218b,c218b,l218b,q218c,c218c,l218c,rfl,rfl,rfl,hv218,hv218b,hv218c⟩
 refine ⟨⟨Kn.le.refl _,t2⟩,(ZaO 22 rfl hv218 Zc.any om (fun B' hle'=>⟨hle',t2⟩) (fun B219 hle219 hr219=>?_))⟩
 replace hu:=hu.mono Zc.mono hle219
 replace hf:=hf.mono Zb.mono hle219
 replace hi:=hi.mono Zi.mono hle219
 replace hz:=hz.mono ZJ.mono hle219
 replace hu176:=hu176.mono Zc.mono hle219
 replace hf176:=hf176.mono Zb.mono hle219
 replace hi176:=hi176.mono Zi.mono hle219
 replace hs192a:=hs192a.mono Zc.mono hle219
 replace hs193:=hs193.mono ZJ.mono hle219
 replace hs195a:=hs195a.mono Zc.mono hle219
 replace hE:=hE.mono hle219
 have hr219n:=hr219.len
 refine Za6 23 rfl hv218b ZD.known Zb.mono om (fun B' hle'=>⟨hle219.trans hle',t2⟩) (fun B220 hle220 hr220=>?_)
 replace hu:=hu.mono Zc.mono hle220
 replace hf:=hf.mono Zb.mono hle220
 replace hi:=hi.mono Zi.mono hle220
 replace hz:=hz.mono ZJ.mono hle220
 replace hr219:=hr219.mono Zc.mono hle220
 replace hu176:=hu176.mono Zc.mono hle220
 replace hf176:=hf176.mono Zb.mono hle220
 replace hi176:=hi176.mono Zi.mono hle220
 replace hs192a:=hs192a.mono Zc.mono hle220
 replace hs193:=hs193.mono ZJ.mono hle220
 replace hs195a:=hs195a.mono Zc.mono hle220
 replace hE:=hE.mono hle220
 have hr220n:=hr220.len
 refine Za6 24 rfl hv218c Z3.known Zi.mono om (fun B' hle'=>⟨(hle219.trans hle220).trans hle',t2⟩) (fun B221 hle221 hr221=>?_)
 replace hu:=hu.mono Zc.mono hle221
 replace hf:=hf.mono Zb.mono hle221
 replace hi:=hi.mono Zi.mono hle221
 replace hz:=hz.mono ZJ.mono hle221
 replace hr219:=hr219.mono Zc.mono hle221
 replace hr220:=hr220.mono Zb.mono hle221
 replace hu176:=hu176.mono Zc.mono hle221
 replace hf176:=hf176.mono Zb.mono hle221
 replace hi176:=hi176.mono Zi.mono hle221
 replace hs192a:=hs192a.mono Zc.mono hle221
 replace hs193:=hs193.mono ZJ.mono hle221
 replace hs195a:=hs195a.mono Zc.mono hle221
 replace hE:=hE.mono hle221
 have hr221n:=hr221.len
 refine Zw 3 kr rfl kr (ZF rfl rfl Zhg rfl (Zad _ _ z _ hz om2) ?_)
 rintro _ B222 _ hle222 ⟨q222,c222,l222,rfl,rfl,rfl,hv222⟩
 refine ⟨⟨((hle219.trans hle220).trans hle221),t2⟩,(ZaO 25 rfl hv222 ZJ.any om (fun B' hle'=>⟨((hle219.trans hle220).trans hle221).trans hle',t2⟩) (fun B223 hle223 hr223=>?_))⟩
 replace hu:=hu.mono Zc.mono hle223
 replace hf:=hf.mono Zb.mono hle223
 replace hi:=hi.mono Zi.mono hle223
 replace hz:=hz.mono ZJ.mono hle223
 replace hr219:=hr219.mono Zc.mono hle223
 replace hr220:=hr220.mono Zb.mono hle223
 replace hr221:=hr221.mono Zi.mono hle223
 replace hu176:=hu176.mono Zc.mono hle223
 replace hf176:=hf176.mono Zb.mono hle223
 replace hi176:=hi176.mono Zi.mono hle223
 replace hs192a:=hs192a.mono Zc.mono hle223
 replace hs193:=hs193.mono ZJ.mono hle223
 replace hs195a:=hs195a.mono Zc.mono hle223
 replace hE:=hE.mono hle223
 have hr223n:=hr223.len
 refine Zw 4 kr rfl kr (ZF rfl rfl Zh0 rfl (Z0 hJ _ _ _ _ _ _ x _ _ z om2 om2 om2 a _ hE hr219 hr220 hr221 hr223) ?_)
 rintro _ B224 _ hle224 ⟨q1224,c1224,q2224,c2224,q3224,c3224,l1224,l2224,l3224,rfl,rfl,hu224,hf224,hi224⟩
 replace hu:=hu.mono Zc.mono hle224
 replace hf:=hf.mono Zb.mono hle224
 replace hi:=hi.mono Zi.mono hle224
 replace hz:=hz.mono ZJ.mono hle224
 replace hr219:=hr219.mono Zc.mono hle224
 replace hr220:=hr220.mono Zb.mono hle224
 replace hr221:=hr221.mono Zi.mono hle224
 replace hr223:=hr223.mono ZJ.mono hle224
 replace hu176:=hu176.mono Zc.mono hle224
 replace hf176:=hf176.mono Zb.mono hle224
 replace hi176:=hi176.mono Zi.mono hle224
 replace hs192a:=hs192a.mono Zc.mono hle224
 replace hs193:=hs193.mono ZJ.mono hle224
 replace hs195a:=hs195a.mono Zc.mono hle224
 replace hE:=hE.mono hle224
 refine ⟨⟨((((hle219.trans hle220).trans hle221).trans hle223).trans hle224),t2⟩,(aM 5 rfl (h:=aE 6 rfl (h:=aE 7 rfl (h:=ZaG 9 kr rfl kr kr (ZT [_,_,_,_,_] 21 [_,_,_,_,_] rfl rfl ZbN rfl rfl rfl rfl rfl rfl rfl rfl ?_)))))⟩
 refine aA 10 rfl (h:=ZB kr kr ?_)
 refine Zf (ZI [_,_,_,_,_,_,_,_,_,_,_,_,_,_,_,_,_,_,_,_,_,_,_,_,_,_,_,_,_] rfl (Zh (Za (xL [_,_,_,_,_] Zaz 21 (h:=xL [_,_,_,_,_] Zaz 2 (h:=Zq (Zai [26,27,28] rfl rfl rfl rfl rfl ZfH rfl (Z8.borrowL fun hm225=>Zak _ _ _ _ _ _ _ _ _ _ _ _ ((ZA x z).1) ((ZA x z).1) _ (hu224.lendK Zc.any 0 rfl hm225 om) (hf224.lendK ZD.known Zb.mono 1 rfl hm225 om) (hi224.lendK Z3.known Zi.mono 2 rfl hm225 om) (hu176.mono Zc.mono (Kn.le_add _ _)) (hf176.mono Zb.mono (Kn.le_add _ _)) (hi176.mono Zi.mono (Kn.le_add _ _))) ?_)))))))
 refine xN (h:=xM (h:=ZC (d:=106) rfl (fun gc=>by simp at gc) (fun gc=>?_)))
 try simp only [sQ,ne_eq] at gc
 refine xM (h:=xM (h:=Z4 (h:=xF (h:=Ze rfl (fun gd=>by simp at gd) (fun gd=>?_)))))
 try simp only [sQ,ne_eq] at gd
 refine Zg (Zf (Za (xA (h:=Za (xL [_,_,_,_,_] Zaz 16 (h:=xM (h:=Zq (Zai [13,14,15] rfl rfl rfl rfl rfl Zh1 rfl (Z8.borrowL fun hm226=>Zaj _ _ _ _ _ _ (ZA x z).1 1 oa _ (hs195a.lendK Zc.any 0 rfl hm226 (by simp only [Zp,Zs,Zu,Zv,ZQ];omega)) (hs195b.lendK ZD.known Zb.mono 1 rfl hm226 (by simp only [Zp,Zs,Zu,Zv,ZQ];omega)) (hs195c.lendK Z3.known Zi.mono 2 rfl hm226 (by simp only [Zp,Zs,Zu,Zv,ZQ];omega))) ?_))))))))
 refine xA (h:=Zh (Za (xM (h:=ZM (h:=Ze rfl (fun ge=>by first | omega | (simp at ge;done) | (simp at ge;omega)) (fun ge=>?_))))))
 try simp only [sQ,ne_eq] at ge
 refine Zg (Zf (Zh (Za (xM (h:=xM (h:=Z4 (h:=Ze rfl (fun gf=>by simp at gf) (fun gf=>?_))))))))
 try simp only [sQ,ne_eq] at gf
 refine Zg (Zf (Za (xA (h:=Zj ?_))))
 exact ZK .ret (.inl rfl) [_] t1 rfl

end Go.Proofs.YthgggppcgbglkaaGreatDoor
