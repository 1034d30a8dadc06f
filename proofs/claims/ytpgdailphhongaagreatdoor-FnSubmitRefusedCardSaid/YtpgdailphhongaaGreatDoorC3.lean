/-
  WHAT THE FUNCTIONS THAT THE LAWS REACH COMPUTE: each function's contract, proved off its printed body (the text is written by program). No condition beyond those that each theorem states.
-/
import Derived.Test.YtpgdailphhongaaGreatDoorC2
namespace Go.Proofs.YtpgdailphhongaaGreatDoor
open Go Go.BL
set_option linter.unusedVariables false
set_option linter.unusedSimpArgs false
set_option maxRecDepth 4000
variable {J : JoinT}
set_option maxHeartbeats 400000 in
theorem ZeU (q1 q2 q3:Option Addr) (c1 c2 c3:Nat) (x:DHost) (qx:Option Addr) (cx:Nat) (l:DLetter) (hd:x.domain.length≤2000000) (B:Kn) (hu:SlK B q1 c1 3 Zg x.users) (hf:SlK B q2 c2 5 Zb x.folders) (hi:SlK B q3 c3 4 Zi x.queue.items) (hx:SlK B qx cx 1 Zaz l.to_) (h1:l.fr.length≤2000000) (h2:l.text.length≤2000000):ZA (pj J) 13 [.agg #[str x.domain,.slice q1 x.users.length c1,.slice q2 x.folders.length c2,.int .i64 x.queue.next,.slice q3 x.queue.items.length c3],.agg #[str l.fr,.slice qx l.to_.length cx,str l.text]] B [] (fun v B' Ls=>Ls=[]∧∃p1 d1 p2 d2 p3 d3,v = .tuple #[.agg #[str (ZW x l).1.domain,.slice p1 (ZW x l).1.users.length d1,.slice p2 (ZW x l).1.folders.length d2,.int .i64 (ZW x l).1.queue.next,.slice p3 (ZW x l).1.queue.items.length d3],.int .i64 (ZW x l).2]∧SlK B' p1 d1 3 Zg (ZW x l).1.users∧SlK B' p2 d2 5 Zb (ZW x l).1.folders∧SlK B' p3 d3 4 Zi (ZW x l).1.queue.items∧(ZW x l).1.domain.length≤2000000):=by
 refine Zc 47 Tryz.func13 rfl rfl rfl (Nat.le_of_ble_eq_true rfl) ?_
 have hun:=hu.len
 have hfn:=hf.len
 have hin:=hi.len
 have hxn:=hx.len
 refine Za (xBx [_,_,_,_,_] (h:=fun b1=>xBx [_,_,_] (h:=fun b2=>xAl [_,_,_,_,_] ZaW (h:=fun b3=>xA (h:=Zv [_,_,_] rfl (Zl (Za (xL [_,_,_,_,_] Z1 0 (h:=xR Zrc rfl (ZbF _ _ _ _ _ _ x om2 _ hu hf hi) (h:=?_))))))))))
 refine xN (h:=xM (h:=Zt (d:=12) rfl (fun g1=>?_) (fun g1=>?_)))
 try simp only [sQ,ne_eq] at g1
 rw [ZW,if_pos (by simp [g1])]
 refine xP (h:=xP (h:=xP (h:=xT (h:=Zd (t:=true) rfl (fun _=>Za (xB [] [_,_,_,_,_] [_,_,_,_,_] ZdS ZaW (h:=xS [_,_,_,_,_] 2 [_,_,_,_,_] Zav (h:=xA (h:=Zv [_,_,_] rfl (Zh (Zs ?_))))))) (fun h=>Bool.noConfusion h)))))
 exact Zad .ret (.inl rfl) [_,_] [] rfl ⟨⟨_,rfl,.inr ⟨[_,_,_,_,_],Z1,Zaf 2 rfl rfl rfl,rfl⟩⟩,rfl,trivial⟩ ⟨rfl,none,0,none,0,none,0,rfl,SlK.nil,SlK.nil,SlK.nil,by simp [ZaQ]⟩
 try simp only [sQ,ne_eq] at g1
 refine xL [_,_,_] Zmb 1 (h:=xR ZwK rfl (ZeV _ _ l _ hx oa oa) (h:=?_))
 refine xN (h:=xF (h:=Zd rfl (fun g2=>?_) (fun g2=>?_)))
 try simp only [sQ,ne_eq] at g2
 rw [ZW,if_pos (by simp [g2])]
 refine Za (xB [] [_,_,_,_,_] [_,_,_,_,_] ZdS ZaW (h:=xS [_,_,_,_,_] 2 [_,_,_,_,_] Zav (h:=xA (h:=Zv [_,_,_] rfl (Zh (Zs ?_))))))
 exact Zad .ret (.inl rfl) [_,_] [] rfl ⟨⟨_,rfl,.inr ⟨[_,_,_,_,_],Z1,Zaf 2 rfl rfl rfl,rfl⟩⟩,rfl,trivial⟩ ⟨rfl,none,0,none,0,none,0,rfl,SlK.nil,SlK.nil,SlK.nil,by simp [ZaQ]⟩
 try simp only [sQ,ne_eq] at g2
 have hok:ZJ x=true:=by simpa using g1
 have hnn : ¬ ¬ (ZJ x=true∧Zar l=true):=fun h=>h ⟨hok,by simpa using g2⟩
 have hql:=ZcW (Zgq hok)
 have hal:=Zfp x.queue l
 refine Zj (Zf (Za (xL [_,_,_,_,_] Z1 0 (h:=Zo (Zaa rfl rfl ZnQ rfl (Zbe _ _ _ _ _ _ x _ hu hf hi) ?_)))))
 rintro _ B6 _ hle6 ⟨l6,a6,c6,q16,c16,q36,c36,rfl,rfl,hu6,hs6,hi6⟩
 replace hu:=hu.mono Zg.mono hle6
 replace hf:=hf.mono Zb.mono hle6
 replace hi:=hi.mono Zi.mono hle6
 replace hx:=hx.mono Zaz.mono hle6
 have hu6n:=hu6.len
 have hi6n:=hi6.len
 refine Z5 3 rfl hs6 Zb.mono om3 (fun B7 hle7 hr7=>?_)
 replace hu:=hu.mono Zg.mono hle7
 replace hf:=hf.mono Zb.mono hle7
 replace hi:=hi.mono Zi.mono hle7
 replace hx:=hx.mono Zaz.mono hle7
 replace hu6:=hu6.mono Zg.mono hle7
 replace hi6:=hi6.mono Zi.mono hle7
 have hr7n:=hr7.len
 refine xAl [_,_,_,_,_] ZaW (h:=fun b8=>xS [_,_,_,_,_] 4 [_,_,_,_,_] Zav (h:=Zv [_,_,_,_,_] rfl (Zl (Za (xW ZbD (h:=x1 ZhC 0 (h:=xW Zhk (h:=x1 lk9 1 (h:=xR ZsY rfl (ZcZ _ _ _ _ _ hu) (h:=Zag (h:=xM (h:=Zt (d:=26) rfl (fun g3=>?_) (fun g3=>?_)))))))))))))
 try simp only [sQ,ne_eq] at g3
 rw [ZW,if_neg hnn,if_pos (.inl g3)]
 refine xP (h:=xP (h:=xP (h:=xP (h:=xP (h:=xT (h:=Zd (t:=true) rfl (fun _=>Za (xL [_,_,_,_,_] Z1 4 (h:=xS [_,_,_,_,_] 2 [_,_,_,_,_] Zav (h:=xA (h:=Zv [_,_,_,_,_] rfl (Zh (Zs ?_))))))) (fun h=>Bool.noConfusion h)))))))
 exact Zad .ret (.inl rfl) [_,_] [] rfl ⟨⟨_,rfl,.inr ⟨[_,_,_,_,_],Z1,Zaf 2 rfl rfl rfl,rfl⟩⟩,rfl,trivial⟩ ⟨rfl,_,_,_,_,_,_,(by first | rfl | (simp only [DHost.withFolders,List.length_set];rfl)),hu6,hr7,hi6,by first | assumption | (rw [ZU.2.2.1];assumption)⟩
 try simp only [sQ,ne_eq] at g3
 refine xL [_,_,_,_,_] Z1 0 (h:=xW Zgs (h:=x1 ZfP 1 (h:=xR ZxT rfl (ZjJ _ _ _ _ _ _ x _ _ l.to_ _ hu hx) (h:=xN (h:=xF (h:=Zd rfl (fun g4=>?_) (fun g4=>?_)))))))
 try simp only [sQ,ne_eq] at g4
 rw [ZW,if_neg hnn,if_pos (.inr g4)]
 refine Za (xL [_,_,_,_,_] Z1 4 (h:=xS [_,_,_,_,_] 2 [_,_,_,_,_] Zav (h:=xA (h:=Zv [_,_,_,_,_] rfl (Zh (Zs ?_))))))
 exact Zad .ret (.inl rfl) [_,_] [] rfl ⟨⟨_,rfl,.inr ⟨[_,_,_,_,_],Z1,Zaf 2 rfl rfl rfl,rfl⟩⟩,rfl,trivial⟩ ⟨rfl,_,_,_,_,_,_,(by first | rfl | (simp only [DHost.withFolders,List.length_set];rfl)),hu6,hr7,hi6,by first | assumption | (rw [ZU.2.2.1];assumption)⟩
 try simp only [sQ,ne_eq] at g4
 have hn2 : ¬ (Zdw x.users l.fr<0∨Zc6 x.users l.to_=false):=fun h=>h.elim oz (by simpa using g4)
 refine Zj (Zf (Za (xW Zbg (h:=xL [_,_] Zb9 0 (h:=xL [_,_,_] Zmb 1 (h:=Zo (Zaa rfl rfl Zv2 rfl (Zge _ _ x.queue _ _ l _ hi hx (by first | assumption | omega | (simp;omega)) (by first | assumption | omega | (simp;omega))) ?_)))))))
 rintro _ B11 _ hle11 ⟨l11,a11,c11,rfl,rfl,hv11⟩
 replace hu:=hu.mono Zg.mono hle11
 replace hf:=hf.mono Zb.mono hle11
 replace hi:=hi.mono Zi.mono hle11
 replace hx:=hx.mono Zaz.mono hle11
 replace hu6:=hu6.mono Zg.mono hle11
 replace hr7:=hr7.mono Zb.mono hle11
 replace hi6:=hi6.mono Zi.mono hle11
 replace hv11:=hv11.mono Zi.mono Kn.less_le
 refine xM (h:=xE (h:=Z5 5 rfl hv11 Zi.mono om3 (fun B12 hle12 hr12=>?_)))
 replace hu:=hu.mono Zg.mono hle12
 replace hf:=hf.mono Zb.mono hle12
 replace hi:=hi.mono Zi.mono hle12
 replace hx:=hx.mono Zaz.mono hle12
 replace hu6:=hu6.mono Zg.mono hle12
 replace hr7:=hr7.mono Zb.mono hle12
 replace hi6:=hi6.mono Zi.mono hle12
 have hr12n:=hr12.len
 refine xE (h:=xAl [_,_] Zfr (h:=fun b13=>xS [_,_] 6 [_,_] Zdo (h:=xA (h:=Zv [_,_,_,_,_,_,_] rfl (Zl (Za (xM (h:=xN (h:=Zd rfl (fun g5=>?_) (fun g5=>?_))))))))))
 try simp only [sQ,ne_eq] at g5
 rw [ZW,if_neg hnn,if_neg hn2,if_neg (by rw [g5];exact Bool.false_ne_true)]
 refine Za (xL [_,_,_,_,_] Z1 4 (h:=xS [_,_,_,_,_] 2 [_,_,_,_,_] Zav (h:=xA (h:=Zv [_,_,_,_,_,_,_] rfl (Zh (Zs ?_))))))
 exact Zad .ret (.inl rfl) [_,_] [] rfl ⟨⟨_,rfl,.inr ⟨[_,_,_,_,_],Z1,Zaf 2 rfl rfl rfl,rfl⟩⟩,rfl,trivial⟩ ⟨rfl,_,_,_,_,_,_,(by first | rfl | (simp only [DHost.withFolders,List.length_set];rfl)),hu6,hr7,hi6,by first | assumption | (rw [ZU.2.2.1];assumption)⟩
 try simp only [sQ,ne_eq] at g5
 rw [ZW,if_neg hnn,if_neg hn2,if_pos (by simpa using g5)]
 refine Zj (Zf (Za (xL [_,_] Zb9 6 (h:=xW Zbg (h:=xS [_,_] 4 [_,_,_,_,_] Zdo (h:=Zv [_,_,_,_,_,_,_] rfl (Za (xL [_,_,_,_,_] Z1 4 (h:=xS [_,_,_,_,_] 2 [_,_,_,_,_] Zav (h:=xA (h:=Zv [_,_,_,_,_,_,_] rfl (Zh ?_))))))))))))
 exact Zad .ret (.inl rfl) [_,_] [] rfl ⟨⟨_,rfl,.inr ⟨[_,_,_,_,_],Z1,Zaf 2 rfl rfl rfl,rfl⟩⟩,rfl,trivial⟩ ⟨rfl,_,_,_,_,_,_,(by first | rfl | (simp only [DHost.withFolders,List.length_set];rfl)),hu6,hr7,hr12,by first | assumption | (rw [ZU.2.2.1];assumption)⟩

set_option maxHeartbeats 400000 in
theorem Zj7 (q1 q2 q3:Option Addr) (c1 c2 c3:Nat) (x:DHost) (id:Int) (u:Str) (hul:u.length≤2000000) (hd:x.domain.length≤2000000) (B:Kn) (hu:SlK B q1 c1 3 Zg x.users) (hf:SlK B q2 c2 5 Zb x.folders) (hi:SlK B q3 c3 4 Zi x.queue.items):ZA (pj J) 181 [.agg #[str x.domain,.slice q1 x.users.length c1,.slice q2 x.folders.length c2,.int .i64 x.queue.next,.slice q3 x.queue.items.length c3],.int .i64 id,str u] B [] (fun v B' Ls=>Ls=[]∧∃p1 d1 p2 d2 p3 d3,v = .tuple #[.agg #[str (ZaU x id u).1.domain,.slice p1 (ZaU x id u).1.users.length d1,.slice p2 (ZaU x id u).1.folders.length d2,.int .i64 (ZaU x id u).1.queue.next,.slice p3 (ZaU x id u).1.queue.items.length d3],.int .i64 (ZaU x id u).2]∧SlK B' p1 d1 3 Zg (ZaU x id u).1.users∧SlK B' p2 d2 5 Zb (ZaU x id u).1.folders∧SlK B' p3 d3 4 Zi (ZaU x id u).1.queue.items∧(ZaU x id u).1.domain.length≤2000000):=by
 refine Zc 45 Tryz.func181 rfl rfl rfl (Nat.le_of_ble_eq_true rfl) ?_
 have hun:=hu.len
 have hfn:=hf.len
 have hin:=hi.len
 have hix:=ZeA (inF u inbox) x.folders
 refine Za (xBx [_,_,_,_,_] (h:=fun b1=>xAl [_,_,_,_,_] ZaW (h:=fun b2=>xA (h:=Zv [_,_] rfl (Zl (Za (xL [_,_,_,_,_] Z1 0 (h:=xR Zrc rfl (ZbF _ _ _ _ _ _ x om2 _ hu hf hi) (h:=?_)))))))))
 refine xN (h:=Zd rfl (fun g1=>?_) (fun g1=>?_))
 try simp only [sQ,ne_eq] at g1
 rw [ZaU,if_pos g1]
 refine Za (xB [] [_,_,_,_,_] [_,_,_,_,_] ZdS ZaW (h:=xS [_,_,_,_,_] 1 [_,_,_,_,_] Zav (h:=xA (h:=Zv [_,_] rfl (Zh (Zs ?_))))))
 exact Zad .ret (.inl rfl) [_,_] [] rfl ⟨⟨_,rfl,.inr ⟨[_,_,_,_,_],Z1,Zaf 1 rfl rfl rfl,rfl⟩⟩,rfl,trivial⟩ ⟨rfl,none,0,none,0,none,0,rfl,SlK.nil,SlK.nil,SlK.nil,by simp [ZaQ]⟩
 try simp only [sQ,ne_eq] at g1
 have hok:ZJ x=true:=by simpa using g1
 have hnn : ¬ ZJ x=false:=by simp [hok]
 have htl:(Zb6 x.queue id u).1.items.length≤x.queue.items.length:=Zh1 id u x.queue.items
 refine Zj (Zf (Za (xW Zbg (h:=xL [_,_] Zb9 0 (h:=xM (h:=xM (h:=Zo (Zaa rfl rfl Zvw rfl (Zlw _ _ x.queue id u _ hi) ?_))))))))
 rintro _ B4 _ hle4 ⟨l4,a4,c4,rfl,rfl,hv4,ht4⟩
 replace hu:=hu.mono Zg.mono hle4
 replace hf:=hf.mono Zb.mono hle4
 replace hi:=hi.mono Zi.mono hle4
 replace hv4:=hv4.mono Zi.mono Kn.less_le
 refine xM (h:=xE (h:=Z5 2 rfl hv4 Zi.mono om3 (fun B5 hle5 hr5=>?_)))
 replace hu:=hu.mono Zg.mono hle5
 replace hf:=hf.mono Zb.mono hle5
 replace hi:=hi.mono Zi.mono hle5
 have hr5n:=hr5.len
 refine xE (h:=xE (h:=xAl [_,_] Zfr (h:=fun b6=>xS [_,_] 3 [_,_] Zdo (h:=xA (h:=xA (h:=Zv [_,_,_,_] rfl (Zl (Za (xM (h:=xN (h:=Zd rfl (fun g2=>?_) (fun g2=>?_))))))))))))
 try simp only [sQ,ne_eq] at g2
 refine Za (xL [_,_,_,_,_] Z1 0 (h:=Zo (Zaa rfl rfl ZnQ rfl (Zbe _ _ _ _ _ _ x _ hu hf hi) ?_)))
 rintro _ B7 _ hle7 ⟨l7,a7,c7,q17,c17,q37,c37,rfl,rfl,hu7,hs7,hi7⟩
 replace hu:=hu.mono Zg.mono hle7
 replace hf:=hf.mono Zb.mono hle7
 replace hi:=hi.mono Zi.mono hle7
 replace hr5:=hr5.mono Zi.mono hle7
 have hu7n:=hu7.len
 have hi7n:=hi7.len
 refine Z5 4 rfl hs7 Zb.mono om3 (fun B8 hle8 hr8=>?_)
 replace hu:=hu.mono Zg.mono hle8
 replace hf:=hf.mono Zb.mono hle8
 replace hi:=hi.mono Zi.mono hle8
 replace hu7:=hu7.mono Zg.mono hle8
 replace hi7:=hi7.mono Zi.mono hle8
 replace hr5:=hr5.mono Zi.mono hle8
 have hr8n:=hr8.len
 refine xS [_,_,_,_,_] 1 [_,_,_,_,_] Zav (h:=?_)
 rw [ZaU,if_neg hnn,if_pos g2]
 refine xA (h:=Zv [_,_,_,_,_] rfl (Zh (Zs ?_)))
 exact Zad .ret (.inl rfl) [_,_] [] rfl ⟨⟨_,rfl,.inr ⟨[_,_,_,_,_],Z1,Zaf 1 rfl rfl rfl,rfl⟩⟩,rfl,trivial⟩ ⟨rfl,_,_,_,_,_,_,(by first | rfl | (simp only [DHost.withFolders,List.length_set];rfl)),hu7,hr8,hi7,by first | assumption | (rw [ZU.2.2.1];assumption)⟩
 try simp only [sQ,ne_eq] at g2
 have hn2 : ¬ (Zb6 x.queue id u).2.2=false:=by simpa using g2
 have hdt:=Zho (id:=id) (u:=u) hok
 have hda:0≤Zbc (inF u inbox) x.folders:=ZoQ hok (by simpa using g2)
 have hda2:0≤Zbc (inF u [105,110,98,111,120]) x.folders:=hda
 have hix2:Zbc (inF u [105,110,98,111,120]) x.folders<x.folders.length:=hix.1
 refine Zj (Zf (Zl (Z8 (keeps _ [0] _) mo kr ⟨Kn.le.refl _,Zam.refl _ _⟩ (fun _ _=>?_))))
 refine aT 0 rfl (ZG fun D B L hI=>Z6 [_,_,_,_,_] rfl rfl Z1 rfl (Zaf 0 (hI.2.1.trans rfl) rfl rfl) r4) (h:=aT 1 rfl (ZG fun D B L hI=>Z6 [_,_,_,_,_] rfl rfl Z1 rfl (Zaf 0 (hI.2.1.trans rfl) rfl rfl) r4) (h:=aM 2 rfl (h:=aT 3 rfl (ZG fun D B L hI=>ZaS rfl rfl Zua rfl (Zdv _ _ _ _ _ _ x u [105,110,98,111,120] om2 om2 _ (hf.mono Zb.mono hI.1)) r4) (h:=?_))))
 refine aM 4 rfl (h:=Zaq [5,9] kr kr kr ⟨?_,?_⟩)
 refine (ZaG rfl rfl Zsi rfl (ZhD _ _ _ _ _ _ x (Zbc (inF u [105,110,98,111,120]) x.folders) 0 ((Zb6 x.queue id u).2.1) om2 (oy) oz oz om2 _ hu hf hi) ?_)
 intro v10 B10 hle10
 rintro ⟨p110,d110,p210,d210,p310,d310,rfl,hu10,hf10,hi10,hd10⟩
 replace hu:=hu.mono Zg.mono hle10
 replace hf:=hf.mono Zb.mono hle10
 replace hi:=hi.mono Zi.mono hle10
 replace hr5:=hr5.mono Zi.mono hle10
 have hu10n:=hu10.len
 have hf10n:=hf10.len
 have hi10n:=hi10.len
 refine ⟨⟨hle10,t1⟩,(aM 6 rfl (h:=aE 7 rfl (h:=aE 8 rfl (h:=Zu 9 kr rfl kr (Zao (l:=[_,_,_,_,_]) rfl rfl ZaW rfl (fun b11=>?_))))))⟩
 refine ⟨⟨hle10,t1⟩,(Zbb 10 kr rfl kr kr (ZN [_,_,_,_,_] 4 [_,_,_,_,_] rfl rfl Zav rfl rfl rfl rfl rfl rfl rfl rfl ?_))⟩
 refine aA 11 rfl (h:=ZC kr kr ?_)
 refine Zf (Zv [_,_,_,_,_] rfl (Zl (Za (xM (h:=ZbR (h:=Zd rfl (fun g3=>?_) (fun g3=>?_)))))))
 try simp only [sQ,ne_eq] at g3
 rw [ZaU,if_neg hnn,if_neg hn2,if_pos (show (ZbN x (Zbc (inF u inbox) x.folders).toNat 0 (Zb6 x.queue id u).2.1).2≠4 from g3)]
 refine Ze (xL [_,_] Zb9 3 (h:=xW Zbg (h:=xS [_,_] 4 [_,_,_,_,_] Zdo (h:=Zf (Za (xL [_,_,_,_,_] Z1 4 (h:=xM (h:=xS [_,_,_,_,_] 1 [_,_,_,_,_] Zav (h:=xA (h:=Zv [_,_,_,_,_] rfl (Zh ?_)))))))))))
 exact Zad .ret (.inl rfl) [_,_] [] rfl ⟨⟨_,rfl,.inr ⟨[_,_,_,_,_],Z1,Zaf 1 rfl rfl rfl,rfl⟩⟩,rfl,trivial⟩ ⟨rfl,_,_,_,_,_,_,(by first | rfl | (simp only [DHost.withFolders,List.length_set];rfl)),hu10,hf10,hr5,by first | assumption | (rw [ZU.2.2.1];assumption)⟩
 try simp only [sQ,ne_eq] at g3
 rw [ZaU,if_neg hnn,if_neg hn2,if_neg (show ¬ (ZbN x (Zbc (inF u inbox) x.folders).toNat 0 (Zb6 x.queue id u).2.1).2≠4 from fun h=>h g3)]
 refine Zj (Zf (Za (xL [_,_,_,_,_] Z1 4 (h:=xM (h:=xS [_,_,_,_,_] 1 [_,_,_,_,_] Zav (h:=xA (h:=Zv [_,_,_,_,_] rfl (Zh ?_))))))))
 exact Zad .ret (.inl rfl) [_,_] [] rfl ⟨⟨_,rfl,.inr ⟨[_,_,_,_,_],Z1,Zaf 1 rfl rfl rfl,rfl⟩⟩,rfl,trivial⟩ ⟨rfl,_,_,_,_,_,_,(by first | rfl | (simp only [DHost.withFolders,List.length_set];rfl)),hu10,hf10,hi10,by first | assumption | (rw [ZU.2.2.1];assumption)⟩
 refine (Zao (l:=[_,_,_,_,_]) rfl rfl ZaW rfl (fun b12=>⟨⟨Kn.le.refl _,t1⟩,(Zu 5 kr rfl kr (ZaG rfl rfl Zsi rfl (ZhD _ _ _ _ _ _ x (Zbc (inF u [105,110,98,111,120]) x.folders) 0 ((Zb6 x.queue id u).2.1) om2 (oy) oz oz om2 _ hu hf hi) ?_))⟩))
 intro v13 B13 hle13
 rintro ⟨p113,d113,p213,d213,p313,d313,rfl,hu13,hf13,hi13,hd13⟩
 replace hu:=hu.mono Zg.mono hle13
 replace hf:=hf.mono Zb.mono hle13
 replace hi:=hi.mono Zi.mono hle13
 replace hr5:=hr5.mono Zi.mono hle13
 have hu13n:=hu13.len
 have hf13n:=hf13.len
 have hi13n:=hi13.len
 refine ⟨⟨hle13,t1⟩,(aM 6 rfl (h:=aE 7 rfl (h:=aE 8 rfl (h:=Zbb 10 kr rfl kr kr (ZN [_,_,_,_,_] 4 [_,_,_,_,_] rfl rfl Zav rfl rfl rfl rfl rfl rfl rfl rfl ?_)))))⟩
 refine aA 11 rfl (h:=ZC kr kr ?_)
 refine Zf (Zv [_,_,_,_,_] rfl (Zl (Za (xM (h:=ZbR (h:=Zd rfl (fun g3=>?_) (fun g3=>?_)))))))
 try simp only [sQ,ne_eq] at g3
 rw [ZaU,if_neg hnn,if_neg hn2,if_pos (show (ZbN x (Zbc (inF u inbox) x.folders).toNat 0 (Zb6 x.queue id u).2.1).2≠4 from g3)]
 refine Ze (xL [_,_] Zb9 3 (h:=xW Zbg (h:=xS [_,_] 4 [_,_,_,_,_] Zdo (h:=Zf (Za (xL [_,_,_,_,_] Z1 4 (h:=xM (h:=xS [_,_,_,_,_] 1 [_,_,_,_,_] Zav (h:=xA (h:=Zv [_,_,_,_,_] rfl (Zh ?_)))))))))))
 exact Zad .ret (.inl rfl) [_,_] [] rfl ⟨⟨_,rfl,.inr ⟨[_,_,_,_,_],Z1,Zaf 1 rfl rfl rfl,rfl⟩⟩,rfl,trivial⟩ ⟨rfl,_,_,_,_,_,_,(by first | rfl | (simp only [DHost.withFolders,List.length_set];rfl)),hu13,hf13,hr5,by first | assumption | (rw [ZU.2.2.1];assumption)⟩
 try simp only [sQ,ne_eq] at g3
 rw [ZaU,if_neg hnn,if_neg hn2,if_neg (show ¬ (ZbN x (Zbc (inF u inbox) x.folders).toNat 0 (Zb6 x.queue id u).2.1).2≠4 from fun h=>h g3)]
 refine Zj (Zf (Za (xL [_,_,_,_,_] Z1 4 (h:=xM (h:=xS [_,_,_,_,_] 1 [_,_,_,_,_] Zav (h:=xA (h:=Zv [_,_,_,_,_] rfl (Zh ?_))))))))
 exact Zad .ret (.inl rfl) [_,_] [] rfl ⟨⟨_,rfl,.inr ⟨[_,_,_,_,_],Z1,Zaf 1 rfl rfl rfl,rfl⟩⟩,rfl,trivial⟩ ⟨rfl,_,_,_,_,_,_,(by first | rfl | (simp only [DHost.withFolders,List.length_set];rfl)),hu13,hf13,hi13,by first | assumption | (rw [ZU.2.2.1];assumption)⟩

set_option maxHeartbeats 400000 in
theorem Zov (fl how ot:Int) (h1:0≤fl∧fl≤31) (h2:0≤ot∧ot≤31) (B:Kn):ZaL (pj J) 192 [.int .i64 fl,.int .i64 how,.int .i64 ot] B (.int .i64 (chg fl how ot)):=by
 refine Zc 60 Tryz.func192 rfl rfl rfl (Nat.le_of_ble_eq_true rfl) ?_
 refine Za (xA (h:=Za (xA (h:=Zl (Za (xA (h:=Zp (ZQ (α:=Nat × Int) [0,1,2,6] (fun g=>[(7,.int .i64 g.2),(8,.int .i64 g.1)]) [] (fun g=>[]) (fun g Bx=>Bx=B∧g.1≤5∧g.2=Zi0 fl how ot g.1) (fun g=>5 - g.1) (0,0) t2 rfl (⟨rfl,oz,rfl⟩) (fun g B1 hle1 hI=>?_)))))))))
 obtain ⟨rfl,hk,hs⟩:=hI
 have hbd:=ZnU fl how ot g.1 hk
 refine ZO [(0,_),(1,_),(2,_),(6,_),(7,_),(8,_)] [] t6 rfl (Zl (Za (xM (h:=Zag (h:=Zd rfl (fun g1=>?_) (fun g1=>?_))))))
 try simp only [sQ,ne_eq] at g1
 have hp:=ZkG (k:=g.1) oz
 have hb1 : -2<Int.tmod (Int.tdiv fl (Zdg g.1)) 2∧Int.tmod (Int.tdiv fl (Zdg g.1)) 2<2:=⟨Int.lt_tmod_of_pos _ (by decide),Int.tmod_lt_of_pos _ (by decide)⟩
 have hb2 : -2<Int.tmod (Int.tdiv ot (Zdg g.1)) 2∧Int.tmod (Int.tdiv ot (Zdg g.1)) 2<2:=⟨Int.lt_tmod_of_pos _ (by decide),Int.tmod_lt_of_pos _ (by decide)⟩
 refine Zj (Zf (Zl (Zp (Za (xM (h:=xM (h:=xR Zub rfl (ZmF g.1 om2 _) (h:=?_))))))))
 refine Zo (ZhR (a:=fl) (b:=(Zdg g.1)) (r:=Int.tdiv fl (Zdg g.1)) rfl rfl rfl rfl oz (Zjz oz oz oz) ?_)
 refine Zo (Zhp (a:=(Int.tdiv fl (Zdg g.1))) (b:=2) (r:=Int.tmod (Int.tdiv fl (Zdg g.1)) 2) rfl rfl rfl rfl (by decide) rfl ?_)
 refine xA (h:=Za (xM (h:=xM (h:=xR Zub rfl (ZmF g.1 om2 _) (h:=?_)))))
 refine Zo (ZhR (a:=ot) (b:=(Zdg g.1)) (r:=Int.tdiv ot (Zdg g.1)) rfl rfl rfl rfl oz (Zjz oz oz oz) ?_)
 refine Zo (Zhp (a:=(Int.tdiv ot (Zdg g.1))) (b:=2) (r:=Int.tmod (Int.tdiv ot (Zdg g.1)) 2) rfl rfl rfl rfl (by decide) rfl ?_)
 refine xA (h:=Zjm 11 (Zfb fl how ot g.1) [0,1,2,6,7,8,9,10,13] ?_ ?_)
 refine xM (h:=ZI (h:=xM (h:=Zt (d:=28) rfl (fun g1=>?_) (fun g1=>?_))))
 try simp only [sQ,ne_eq] at g1
 refine xM (h:=xM (h:=xD (h:=ZbM (h:=xT (h:=xM (h:=Zt (d:=34) rfl (fun g2=>?_) (fun g2=>?_)))))))
 try simp only [sQ,ne_eq] at g2
 refine xP (h:=xP (h:=xP (h:=xP (h:=xP (h:=xP (h:=xP (h:=xP (h:=xP (h:=xP (h:=xT (h:=xM (h:=xP (h:=?_)))))))))))))
 refine xP (h:=xP (h:=xP (h:=xP (h:=xP (h:=xT (h:=xA (h:=?_)))))))
 exact ⟨rfl,rfl,rfl,Zda rfl (by rw [Bool.eq_iff_iff];simp only [Zfb,decide_eq_true_eq,Bool.or_eq_true,Bool.and_eq_true,Bool.false_eq_true,true_iff,false_iff];simp only [Zj0];omega),t9⟩
 try simp only [sQ,ne_eq] at g2
 refine xM (h:=ZI (h:=xM (h:=Zt (d:=37) rfl (fun g3=>?_) (fun g3=>?_))))
 try simp only [sQ,ne_eq] at g3
 refine xM (h:=ZI (h:=xT (h:=xM (h:=Zt (d:=41) rfl (fun g4=>?_) (fun g4=>?_)))))
 try simp only [sQ,ne_eq] at g4
 refine xM (h:=ZI (h:=xT (h:=xF (h:=xM (h:=Zt (d:=46) rfl (fun g5=>?_) (fun g5=>?_))))))
 try simp only [sQ,ne_eq] at g5
 refine xP (h:=xP (h:=xP (h:=xP (h:=xP (h:=xP (h:=xT (h:=xA (h:=?_))))))))
 exact ⟨rfl,rfl,rfl,Zda rfl (by rw [Bool.eq_iff_iff];simp only [Zfb,decide_eq_true_eq,Bool.or_eq_true,Bool.and_eq_true,Bool.false_eq_true,true_iff,false_iff];simp only [Zj0];omega),t9⟩
 try simp only [sQ,ne_eq] at g5
 refine xM (h:=ZI (h:=xM (h:=Zt (d:=49) rfl (fun g6=>?_) (fun g6=>?_))))
 try simp only [sQ,ne_eq] at g6
 refine xM (h:=ZI (h:=xT (h:=xF (h:=xA (h:=?_)))))
 exact ⟨rfl,rfl,rfl,Zda rfl (by rw [Bool.eq_iff_iff];simp only [Zfb,decide_eq_true_eq,Bool.or_eq_true,Bool.and_eq_true,Bool.false_eq_true,true_iff,false_iff];simp only [Zj0];omega),t9⟩
 try simp only [sQ,ne_eq] at g6
 refine xP (h:=xP (h:=xF (h:=xF (h:=xA (h:=?_)))))
 exact ⟨rfl,rfl,rfl,Zda rfl (by rw [Bool.eq_iff_iff];simp only [Zfb,decide_eq_true_eq,Bool.or_eq_true,Bool.and_eq_true,Bool.false_eq_true,true_iff,false_iff];simp only [Zj0];omega),t9⟩
 try simp only [sQ,ne_eq] at g4
 refine xP (h:=xP (h:=xF (h:=xF (h:=xM (h:=xM (h:=ZI (h:=xM (h:=Zt (d:=49) rfl (fun g7=>?_) (fun g7=>?_)))))))))
 try simp only [sQ,ne_eq] at g7
 refine xM (h:=ZI (h:=xT (h:=xF (h:=xA (h:=?_)))))
 exact ⟨rfl,rfl,rfl,Zda rfl (by rw [Bool.eq_iff_iff];simp only [Zfb,decide_eq_true_eq,Bool.or_eq_true,Bool.and_eq_true,Bool.false_eq_true,true_iff,false_iff];simp only [Zj0];omega),t9⟩
 try simp only [sQ,ne_eq] at g7
 refine xP (h:=xP (h:=xF (h:=xF (h:=xA (h:=?_)))))
 exact ⟨rfl,rfl,rfl,Zda rfl (by rw [Bool.eq_iff_iff];simp only [Zfb,decide_eq_true_eq,Bool.or_eq_true,Bool.and_eq_true,Bool.false_eq_true,true_iff,false_iff];simp only [Zj0];omega),t9⟩
 try simp only [sQ,ne_eq] at g3
 refine xP (h:=xP (h:=xF (h:=xM (h:=xP (h:=xP (h:=xF (h:=xF (h:=xM (h:=xM (h:=ZI (h:=xM (h:=Zt (d:=49) rfl (fun g8=>?_) (fun g8=>?_)))))))))))))
 try simp only [sQ,ne_eq] at g8
 refine xM (h:=ZI (h:=xT (h:=xF (h:=xA (h:=?_)))))
 exact ⟨rfl,rfl,rfl,Zda rfl (by rw [Bool.eq_iff_iff];simp only [Zfb,decide_eq_true_eq,Bool.or_eq_true,Bool.and_eq_true,Bool.false_eq_true,true_iff,false_iff];simp only [Zj0];omega),t9⟩
 try simp only [sQ,ne_eq] at g8
 refine xP (h:=xP (h:=xF (h:=xF (h:=xA (h:=?_)))))
 exact ⟨rfl,rfl,rfl,Zda rfl (by rw [Bool.eq_iff_iff];simp only [Zfb,decide_eq_true_eq,Bool.or_eq_true,Bool.and_eq_true,Bool.false_eq_true,true_iff,false_iff];simp only [Zj0];omega),t9⟩
 try simp only [sQ,ne_eq] at g1
 refine xP (h:=xP (h:=xP (h:=xP (h:=xF (h:=xM (h:=xM (h:=ZI (h:=xM (h:=Zt (d:=37) rfl (fun g9=>?_) (fun g9=>?_))))))))))
 try simp only [sQ,ne_eq] at g9
 refine xM (h:=ZI (h:=xT (h:=xM (h:=Zt (d:=41) rfl (fun g10=>?_) (fun g10=>?_)))))
 try simp only [sQ,ne_eq] at g10
 refine xM (h:=ZI (h:=xT (h:=xF (h:=xM (h:=Zt (d:=46) rfl (fun g11=>?_) (fun g11=>?_))))))
 try simp only [sQ,ne_eq] at g11
 refine xP (h:=xP (h:=xP (h:=xP (h:=xP (h:=xP (h:=xT (h:=xA (h:=?_))))))))
 exact ⟨rfl,rfl,rfl,Zda rfl (by rw [Bool.eq_iff_iff];simp only [Zfb,decide_eq_true_eq,Bool.or_eq_true,Bool.and_eq_true,Bool.false_eq_true,true_iff,false_iff];simp only [Zj0];omega),t9⟩
 try simp only [sQ,ne_eq] at g11
 refine xM (h:=ZI (h:=xM (h:=Zt (d:=49) rfl (fun g12=>?_) (fun g12=>?_))))
 try simp only [sQ,ne_eq] at g12
 refine xM (h:=ZI (h:=xT (h:=xF (h:=xA (h:=?_)))))
 exact ⟨rfl,rfl,rfl,Zda rfl (by rw [Bool.eq_iff_iff];simp only [Zfb,decide_eq_true_eq,Bool.or_eq_true,Bool.and_eq_true,Bool.false_eq_true,true_iff,false_iff];simp only [Zj0];omega),t9⟩
 try simp only [sQ,ne_eq] at g12
 refine xP (h:=xP (h:=xF (h:=xF (h:=xA (h:=?_)))))
 exact ⟨rfl,rfl,rfl,Zda rfl (by rw [Bool.eq_iff_iff];simp only [Zfb,decide_eq_true_eq,Bool.or_eq_true,Bool.and_eq_true,Bool.false_eq_true,true_iff,false_iff];simp only [Zj0];omega),t9⟩
 try simp only [sQ,ne_eq] at g10
 refine xP (h:=xP (h:=xF (h:=xF (h:=xM (h:=xM (h:=ZI (h:=xM (h:=Zt (d:=49) rfl (fun g13=>?_) (fun g13=>?_)))))))))
 try simp only [sQ,ne_eq] at g13
 refine xM (h:=ZI (h:=xT (h:=xF (h:=xA (h:=?_)))))
 exact ⟨rfl,rfl,rfl,Zda rfl (by rw [Bool.eq_iff_iff];simp only [Zfb,decide_eq_true_eq,Bool.or_eq_true,Bool.and_eq_true,Bool.false_eq_true,true_iff,false_iff];simp only [Zj0];omega),t9⟩
 try simp only [sQ,ne_eq] at g13
 refine xP (h:=xP (h:=xF (h:=xF (h:=xA (h:=?_)))))
 exact ⟨rfl,rfl,rfl,Zda rfl (by rw [Bool.eq_iff_iff];simp only [Zfb,decide_eq_true_eq,Bool.or_eq_true,Bool.and_eq_true,Bool.false_eq_true,true_iff,false_iff];simp only [Zj0];omega),t9⟩
 try simp only [sQ,ne_eq] at g9
 refine xP (h:=xP (h:=xF (h:=xM (h:=xP (h:=xP (h:=xF (h:=xF (h:=xM (h:=xM (h:=ZI (h:=xM (h:=Zt (d:=49) rfl (fun g14=>?_) (fun g14=>?_)))))))))))))
 try simp only [sQ,ne_eq] at g14
 refine xM (h:=ZI (h:=xT (h:=xF (h:=xA (h:=?_)))))
 exact ⟨rfl,rfl,rfl,Zda rfl (by rw [Bool.eq_iff_iff];simp only [Zfb,decide_eq_true_eq,Bool.or_eq_true,Bool.and_eq_true,Bool.false_eq_true,true_iff,false_iff];simp only [Zj0];omega),t9⟩
 try simp only [sQ,ne_eq] at g14
 refine xP (h:=xP (h:=xF (h:=xF (h:=xA (h:=?_)))))
 exact ⟨rfl,rfl,rfl,Zda rfl (by rw [Bool.eq_iff_iff];simp only [Zfb,decide_eq_true_eq,Bool.or_eq_true,Bool.and_eq_true,Bool.false_eq_true,true_iff,false_iff];simp only [Zj0];omega),t9⟩
 refine Za (xM (h:=Zd rfl (fun g2=>?_) (fun g2=>?_)))
 try simp only [sQ,ne_eq] at g2
 refine Ze (xM (h:=xM (h:=xR Zub rfl (ZmF g.1 om2 _) (h:=?_))))
 refine xD (h:=xA (h:=Zz (Zf (Ze (xM (h:=xD (h:=xA (h:=?_))))))))
 exact ZB (g.1+1,g.2+Zdg g.1) [] so2 ⟨rfl,so,by simp only [Zi0];rw [if_pos g2,hs]⟩ t6 rfl
 try simp only [sQ,ne_eq] at g2
 refine Zj (Zz (Zf (Ze (xM (h:=xD (h:=xA (h:=?_)))))))
 exact ZB (g.1+1,g.2) [] so2 ⟨rfl,so,by simp only [Zi0];rw [if_neg (by simp [g2]),hs]⟩ t6 rfl
 try simp only [sQ,ne_eq] at g1
 refine ZT (Zah (ZZ (ZH (Zf (Za (xM (h:=xA (h:=Zh ?_))))))))
 exact ZY .ret (.inl rfl) [_] t1 ⟨Za3 (by rw [hs,show g.1=5 from by omega];rfl),rfl,rfl⟩

set_option maxHeartbeats 400000 in
theorem Zlx (q:Option Addr) (cp:Nat) (x:DBox) (q2:Option Addr) (cp2:Nat) (xs:List Int)  (B:Kn) (hx:SlK B q cp 3 ZM x.mail) (hn:SlK B q2 cp2 1 Zbz xs):ZaL (pj J) 191 [.agg #[.int .i64 x.next,.slice q x.mail.length cp],.slice q2 xs.length cp2] B (.bool (Zed x.mail.length xs)):=by
 refine Zc 37 Tryz.func191 rfl rfl rfl (Nat.le_of_ble_eq_true rfl) ?_
 have hxn:=hx.len
 have hnn:=hn.len
 refine Za (xBx [_,_] (h:=fun b1=>xA (h:=Zv [_] rfl (Zl (Za (xA (h:=Zp (ZQ (α:=Nat × Int) [0,1,2] (fun g=>[(5,.int .i64 g.1)]) [] (fun g=>[]) (fun g Bx=>Bx=B∧g.1≤xs.length∧ZdT x.mail.length (xs.take g.1)=(true,g.2)∧Prev (fun y=>y) 0 xs g.1 g.2) (fun g=>xs.length - g.1) (0,0) t1 rfl (⟨rfl,Nat.zero_le _,ZeX,.zero⟩) (fun g B2 hle2 hI=>?_)))))))))
 obtain ⟨rfl,hk,hs,hp⟩:=hI
 refine ZO [(0,_),(1,_),(2,_),(5,_)] [_] t4 rfl (Zl (Za (xM (h:=xM (h:=xV Tryz.underlying171 (h:=Zag (h:=Zd rfl (fun g1=>?_) (fun g1=>?_))))))))
 try simp only [sQ,ne_eq] at g1
 refine Zj (Zf (Zl (Zp (Zl (Z8 (same _ _) mo kr ⟨rfl,rfl⟩ (fun _ _=>?_))))))
 refine aM 0 rfl (h:=aM 1 rfl (h:=?_))
 obtain ⟨m,hm⟩:=Zaj (xs:=xs) (i:=g.1) om
 obtain ⟨bb4,oo4,rfl⟩:=hn.base hm
 obtain ⟨_,rfl,hc5⟩:=hn.elem hm
 refine aIx 2 rfl Tryz.underlying171 sz3 (h:=aT 3 rfl (Zan fun D=>Zn rfl rfl lk3 rfl (hc5 _ 0 _ rfl) r4) (h:=aW 4 rfl ZaR (h:=aT 5 rfl (Zan fun D=>Zn rfl rfl Zfv rfl (atL 0 rfl rfl rfl) r4) (h:=aV 6 rfl Tryz.underlying66 (h:=aT 7 rfl (Zan fun D=>ZaS rfl rfl Zeo rfl (Zcl _ _ _ _) r4) (h:=aN 8 rfl (h:=aM 9 rfl (h:=ZaI (d:=21) rfl (fun g2=>?_) (fun g2=>?_)))))))))
 try simp only [sQ,ne_eq] at g2
 refine aZ 10 rfl (h:=aZ 11 rfl (h:=aZ 12 rfl (h:=aZ 13 rfl (h:=aZ 14 rfl (h:=aZ 15 rfl (h:=aZ 16 rfl (h:=aZ 17 rfl (h:=aZ 18 rfl (h:=aZ 19 rfl (h:=aZ 20 rfl (h:=aZ 21 rfl (h:=aZ 22 rfl (h:=?_)))))))))))))
 refine aZ 23 rfl (h:=aPT 24 rfl (h:=ZC kr kr ?_))
 refine Zf (Zd (t:=true) rfl (fun _=>Za (xA (h:=Zh (ZE (Zs (Z0 (ZE (Zs ?_)))))))) (fun h=>Bool.noConfusion h))
 exact ZY .ret (.inl rfl) [_] t1 ⟨Zk (ZjC hm hs (by simp [ZpO,g2];try omega)).symm,rfl,rfl⟩
 try simp only [sQ,ne_eq] at g2
 refine aM 10 rfl (h:=Zm7 11 rfl (h:=aM 12 rfl (h:=ZaI (d:=24) rfl (fun g6=>?_) (fun g6=>?_))))
 try simp only [sQ,ne_eq] at g6
 refine aM 13 rfl (h:=aM 14 rfl (h:=aU 15 rfl (h:=?_)))
 obtain ⟨y,hy⟩:=ZeP (xs:=xs) (i:=(↑g.1 - 1)) om om
 obtain ⟨_,rfl,hc8⟩:=hn.elem hy
 refine aIx 16 rfl Tryz.underlying171 sz3 (h:=?_)
 have hpe:=hp.at hy oz
 refine aT 17 rfl (Zan fun D=>Zn rfl rfl lk3 rfl (hc8 _ 0 _ rfl) r4) (h:=aM 18 rfl (h:=aM 19 rfl (h:=aIx 20 rfl Tryz.underlying171 sz3 (h:=aT 21 rfl (Zan fun D=>Zn rfl rfl lk3 rfl (hc5 _ 0 _ rfl) r4) (h:=ZvQ 22 rfl (h:=aPT 23 rfl (h:=aPF 24 rfl (h:=ZC kr kr ?_))))))))
 refine Zf (Zd rfl (fun g7=>?_) (fun g7=>?_))
 try simp only [sQ,ne_eq] at g7
 refine Za (xA (h:=Zh (ZE (Zs (Z0 (ZE (Zs ?_)))))))
 exact ZY .ret (.inl rfl) [_] t1 ⟨Zk (ZjC hm hs (by simp [ZpO,g2,hpe];try omega)).symm,rfl,rfl⟩
 try simp only [sQ,ne_eq] at g7
 refine Zj (Zz (Zf (Ze (xM (h:=xD (h:=xA (h:=?_)))))))
 exact ZB (g.1+1,m) [0] so2 ⟨rfl,oz,Zce hm hs (by rw [hpe];simp [ZpO,g2];simp at g2;omega),.succ hm⟩ t4 rfl
 try simp only [sQ,ne_eq] at g6
 refine aZ 13 rfl (h:=aZ 14 rfl (h:=aZ 15 rfl (h:=aZ 16 rfl (h:=aZ 17 rfl (h:=aZ 18 rfl (h:=aZ 19 rfl (h:=aZ 20 rfl (h:=aZ 21 rfl (h:=aZ 22 rfl (h:=aPF 23 rfl (h:=aPF 24 rfl (h:=ZC kr kr ?_))))))))))))
 refine Zf (Zd (t:=false) rfl (fun h=>Bool.noConfusion h) (fun _=>Zj (Zz (Zf (Ze (xM (h:=xD (h:=xA (h:=?_)))))))))
 exact ZB (g.1+1,m) [0] so2 ⟨rfl,oz,Zce hm hs (by rw [hp.at0 oz];simp [ZpO,g2];simp at g2;omega),.succ hm⟩ t4 rfl
 try simp only [sQ,ne_eq] at g1
 refine ZT (Zah (ZZ (ZH (Zf (Za (xA (h:=Zh ?_)))))))
 exact ZY .ret (.inl rfl) [_] t1 ⟨Zk (Zol (Zd0 hs oz)).symm,rfl,rfl⟩

set_option maxHeartbeats 400000 in
theorem ZfK (q:Option Addr) (cp:Nat) (x:DBox) (q2:Option Addr) (cp2:Nat) (xs:List Int) (how fl:Int) (B:Kn) (hx:SlK B q cp 3 ZM x.mail) (hn:SlK B q2 cp2 1 Zbz xs):ZA (pj J) 189 [.agg #[.int .i64 x.next,.slice q x.mail.length cp],.slice q2 xs.length cp2,.int .i64 how,.int .i64 fl] B [] (fun v B' Ls=>Ls=[]∧∃a c,v = .tuple #[.agg #[.int .i64 (Zbh x xs how fl).1.next,.slice a (Zbh x xs how fl).1.mail.length c],.bool (Zbh x xs how fl).2]∧SlK B' a c 3 ZM (Zbh x xs how fl).1.mail):=by
 refine Zc 61 Tryz.func189 rfl rfl rfl (Nat.le_of_ble_eq_true rfl) ?_
 have hxn:=hx.len
 have hnn:=hn.len
 refine Za (xBx [_,_] (h:=fun b1=>xAl [_,_] Zfg (h:=fun b2=>xA (h:=Zv [_,_] rfl (Zl (Za (xL [_,_] ZbP 0 (h:=xR Zsk rfl (Zgd _ _ (⟨x.next,x.mail⟩:DBox) _ hx) (h:=xN (h:=xM (h:=Zt (d:=16) rfl (fun g1=>?_) (fun g1=>?_))))))))))))
 try simp only [sQ,ne_eq] at g1
 rw [ZeG (by simp [g1])]
 refine xP (h:=xP (h:=xP (h:=xP (h:=xT (h:=xM (h:=xP (h:=xP (h:=xP (h:=xT (h:=xM (h:=xP (h:=xP (h:=?_)))))))))))))
 refine xP (h:=xT (h:=Zd (t:=true) rfl (fun _=>Za (xB [] [_,_] [_,_] Znw Zfg (h:=xS [_,_] 1 [_,_] ZcI (h:=xA (h:=Zv [_,_] rfl (Zh (Zs ?_))))))) (fun h=>Bool.noConfusion h)))
 exact Zad .ret (.inl rfl) [_,_] [] rfl ⟨⟨_,rfl,.inr ⟨[_,_],ZbP,Zaf 1 rfl rfl rfl,rfl⟩⟩,rfl,trivial⟩ ⟨rfl,none,0,rfl,SlK.nil⟩
 try simp only [sQ,ne_eq] at g1
 refine xL [_,_] ZbP 0 (h:=xM (h:=xR ZwS rfl (Zlx _ _ (⟨x.next,x.mail⟩:DBox) _ _ xs _ hx hn) (h:=xN (h:=xF (h:=xM (h:=Zt (d:=22) rfl (fun g2=>?_) (fun g2=>?_)))))))
 try simp only [sQ,ne_eq] at g2
 rw [ZeG (by simp [g2])]
 refine xP (h:=xP (h:=xP (h:=xT (h:=xM (h:=xP (h:=xP (h:=xP (h:=xT (h:=Zd (t:=true) rfl (fun _=>Za (xB [] [_,_] [_,_] Znw Zfg (h:=xS [_,_] 1 [_,_] ZcI (h:=?_)))) (fun h=>Bool.noConfusion h))))))))))
 refine xA (h:=Zv [_,_] rfl (Zh (Zs ?_)))
 exact Zad .ret (.inl rfl) [_,_] [] rfl ⟨⟨_,rfl,.inr ⟨[_,_],ZbP,Zaf 1 rfl rfl rfl,rfl⟩⟩,rfl,trivial⟩ ⟨rfl,none,0,rfl,SlK.nil⟩
 try simp only [sQ,ne_eq] at g2
 refine xM (h:=xR Zeo rfl (Zcl _ _ _ _) (h:=xN (h:=xF (h:=xM (h:=Zt (d:=27) rfl (fun g3=>?_) (fun g3=>?_))))))
 try simp only [sQ,ne_eq] at g3
 rw [ZeG (by simp only [Zkr,g3];simp)]
 refine xP (h:=xP (h:=xP (h:=xT (h:=Zd (t:=true) rfl (fun _=>Za (xB [] [_,_] [_,_] Znw Zfg (h:=xS [_,_] 1 [_,_] ZcI (h:=xA (h:=Zv [_,_] rfl (Zh (Zs ?_))))))) (fun h=>Bool.noConfusion h)))))
 exact Zad .ret (.inl rfl) [_,_] [] rfl ⟨⟨_,rfl,.inr ⟨[_,_],ZbP,Zaf 1 rfl rfl rfl,rfl⟩⟩,rfl,trivial⟩ ⟨rfl,none,0,rfl,SlK.nil⟩
 try simp only [sQ,ne_eq] at g3
 refine xM (h:=xR ZqF rfl (Ze3 _ _) (h:=xN (h:=xF (h:=Zd rfl (fun g4=>?_) (fun g4=>?_)))))
 try simp only [sQ,ne_eq] at g4
 rw [ZeG (by simp only [ZaV,g4];simp)]
 refine Za (xB [] [_,_] [_,_] Znw Zfg (h:=xS [_,_] 1 [_,_] ZcI (h:=xA (h:=Zv [_,_] rfl (Zh (Zs ?_))))))
 exact Zad .ret (.inl rfl) [_,_] [] rfl ⟨⟨_,rfl,.inr ⟨[_,_],ZbP,Zaf 1 rfl rfl rfl,rfl⟩⟩,rfl,trivial⟩ ⟨rfl,none,0,rfl,SlK.nil⟩
 try simp only [sQ,ne_eq] at g4
 have hok:Zbm x=true:=by simpa using g1
 have hno:Zed x.mail.length xs=true:=by simpa using g2
 have hfo:ZaV fl=true:=by simpa only [ZaV,Bool.not_eq_false] using g4
 have hall:=ZlW (how:=how) (fl:=fl) ⟨hok,hno,by simpa only [Zkr,Bool.not_eq_false] using g3,hfo⟩
 have hfl:0≤fl∧fl≤31:=by simpa [ZaV] using hfo
 refine Zj (Zf (Za (xL [_,_] ZbP 0 (h:=Zo (Zaa rfl rfl Zuj rfl (Zip _ _ (⟨x.next,x.mail⟩:DBox) _ hx) ?_)))))
 rintro _ B7 _ hle7 ⟨hB7,l7,a7,c7,rfl,rfl,hs7⟩
 have hB7:=hB7.symm
 subst hB7
 refine xAl [_,_] Zfg (h:=fun b8=>xS [_,_] 3 [_,_] ZcI (h:=Zv [_,_,_,_] rfl (Zl (Za (xA (h:=Zp (ZQ (α:=Nat × Cells × List DMail) [0,1,2,3,4,8,9,10,31] (fun g=>[(11,.int .i64 g.1)]) [2,3] (fun g=>[g.2.1,ZaE b8 [.int .i64 x.next,.slice a7 x.mail.length c7] 68]) (fun g Bx=>Bx=B∧g.1≤xs.length∧g.2.2=Zd4 x.mail how fl (xs.take g.1)∧Like x.mail g.2.2∧Z2 Bx g.2.1 a7 c7 196 3 ZM g.2.2) (fun g=>xs.length - g.1) (0,_,x.mail) t1 rfl (⟨rfl,Nat.zero_le _,rfl,Like.refl _,hs7⟩) (fun g B9 hle9 hI=>?_))))))))
 obtain ⟨rfl,hk,hs,hlk,hv⟩:=hI
 have hll:=hlk.1
 refine ZO [(0,_),(1,_),(2,_),(3,_),(4,_),(8,_),(9,_),(10,_),(11,_),(31,_)] [_,_,_,_] t10 rfl (Zl (Za (xM (h:=xM (h:=xV Tryz.underlying171 (h:=Zag (h:=Zd rfl (fun g5=>?_) (fun g5=>?_))))))))
 try simp only [sQ,ne_eq] at g5
 refine Zj (Zf (Zl (Zp (Za (xM (h:=xM (h:=?_)))))))
 obtain ⟨y,hy⟩:=Zaj (xs:=xs) (i:=g.1) om
 obtain ⟨bb11,oo11,rfl⟩:=hn.base hy
 obtain ⟨_,rfl,hc12⟩:=hn.elem hy
 refine xIx Tryz.underlying171 sz3 (h:=?_)
 have hyb:=Zok hno y (List.mem_of_getElem? hy)
 have hyl:(y - 1).toNat<x.mail.length:=by omega
 refine y1 lk3 hc12 0 (h:=xU (h:=xA (h:=Z8 (keeps _ [0,2,3] _) mo kr ⟨Kn.le.refl _,Zam.refl _ _⟩ (fun _ _=>?_))))
 refine aW 0 rfl ZaR (h:=aT 1 rfl (ZG fun D B L hI=>Zn rfl rfl Zfv rfl (atL 3 (hI.2.2.2.1.trans rfl) rfl rfl) r4) (h:=aM 2 rfl (h:=aW 3 rfl ZaR (h:=aT 4 rfl (ZG fun D B L hI=>Zn rfl rfl Zfv rfl (atL 0 (hI.2.1.trans rfl) rfl rfl) r4) (h:=aM 5 rfl (h:=?_))))))
 obtain ⟨m,hm⟩:=ZeP (xs:=x.mail) (i:=(y - 1)) om om
 obtain ⟨bb14,oo14,rfl⟩:=hx.base hm
 obtain ⟨_,⟨rfl,hb15⟩,hc15⟩:=hx.elem hm
 refine aIx 6 rfl Tryz.underlying66 ZcJ (h:=?_)
 have hmf:=ZfZ hok (List.mem_of_getElem? hm)
 refine aW 7 rfl ZfT (h:=aT 8 rfl (ZG fun D B L hI=>Zn rfl rfl lk3 rfl ((hc15.mono hI.1) _ 1 _ rfl) r4) (h:=aM 9 rfl (h:=aM 10 rfl (h:=aT 11 rfl (ZG fun D B L hI=>ZaS rfl rfl ZwR rfl (Zov m.flags how fl (oy) (oy) _) r4) (h:=?_)))))
 obtain ⟨z,hz⟩:=ZeP (xs:=g.2.2) (i:=(y - 1)) om om
 obtain ⟨bb18,_,hp18,⟨rfl,hb18⟩,hw18,hc18⟩:=hv.row hz
 refine aT 12 rfl (ZG fun D B L hI=>Zf8 hp18 rfl rfl Tryz.underlying66 ZcJ rfl rfl om om r4) (h:=?_)
 refine aW 13 rfl ZfT (h:=ZV 14 kr rfl kr kr kr (Zes (k:=((y - 1)).toNat) (off:=1) (⟨z.uid,chg m.flags how fl,z.text⟩) [_] 2 hv hp18 hz rfl rfl sz3 rfl rfl rfl rfl rfl rfl (by rintro _ ⟨rfl,e1⟩;exact ⟨rfl,e1⟩) (fun l19 hv19=>?_)))
 refine Zz (Zf (Ze (xM (h:=xD (h:=xA (h:=?_))))))
 exact ZB (g.1+1,l19,(g.2.2.set (((y - 1)).toNat) (⟨z.uid,chg m.flags how fl,z.text⟩))) [0,1,2,3] so2 ⟨rfl,so,by simp only [];rw [ZlK hy (by rw [← hs];exact hz) hm,← hs],hlk.set hz (Zs0 _ _ _),hv19⟩ t10 rfl
 try simp only [sQ,ne_eq] at g5
 have hfe:g.2.2=Zd4 x.mail how fl xs:=by rw [hs,List.take_of_length_le oz]
 rw [hfe] at hv hll
 refine ZT (Zah (ZZ (ZH (Zf (Za (xL [_,_] ZbP 3 (h:=Z5 2 rfl hv ZM.mono om3 (fun B20 hle20 hr20=>?_))))))))
 replace hx:=hx.mono ZM.mono hle20
 replace hn:=hn.mono Zbz.mono hle20
 have hr20n:=hr20.len
 refine xS [_,_] 1 [_,_] ZcI (h:=?_)
 rw [hall]
 refine xA (h:=Zv [_,_,_,_] rfl (Zh ?_))
 exact Zad .ret (.inl rfl) [_,_] [] rfl ⟨⟨_,rfl,.inr ⟨[_,_],ZbP,Zaf 1 rfl rfl rfl,rfl⟩⟩,rfl,trivial⟩ ⟨rfl,_,_,by rw [← hll];rfl,hr20⟩

set_option maxHeartbeats 400000 in
theorem Zcs (q:Option Addr) (cp:Nat) (x:DBox) (B:Kn) (hx:SlK B q cp 3 ZM x.mail):ZA (pj J) 154 [.agg #[.int .i64 x.next,.slice q x.mail.length cp]] B [] (fun v B' Ls=>∃l a c l' a' c',Ls=[l,l']∧v = .tuple #[.agg #[.int .i64 (expunge x).1.next,.slice a (expunge x).1.mail.length c],.slice a' (expunge x).2.length c']∧Z2 B' l a c 196 3 ZM (expunge x).1.mail∧Z2 B' l' a' c' 3 1 Zbz (expunge x).2):=by
 refine Zc 52 Tryz.func154 rfl rfl rfl (Nat.le_of_ble_eq_true rfl) ?_
 have hxn:=hx.len
 refine Za (xBx [_,_] (h:=fun b1=>xAl [_,_] Zfg (h:=fun b2=>xA (h:=Zv [_,_] rfl (Zl (Za (xL [_,_] ZbP 0 (h:=xR Zsk rfl (Zgd _ _ (⟨x.next,x.mail⟩:DBox) _ hx) (h:=xN (h:=Zd rfl (fun g1=>?_) (fun g1=>?_)))))))))))
 try simp only [sQ,ne_eq] at g1
 refine Za (xB [] [_,_] [_,_] Znw Zfg (h:=Ztw (xBs [] [] Tryz.underlying171 sz3 zo3 (h:=fun b4=>?_))))
 rw [expunge,if_neg (by simp [g1])]
 refine xS [_,_] 1 [_,_] ZcI (h:=xA (h:=Zv [_,_,_,_] rfl (Zh (Zs ?_))))
 exact Zad .ret (.inl rfl) [_,_] [2,3] rfl ⟨⟨_,rfl,.inr ⟨[_,_],ZbP,Zaf 1 rfl rfl rfl,rfl⟩⟩,rfl,trivial⟩ ⟨_,none,0,_,_,_,rfl,rfl,Z2.nil,Z2.lit0⟩
 try simp only [sQ,ne_eq] at g1
 have hok:Zbm x=true:=by simpa using g1
 refine Zj (Zf (Za (xW Zco (h:=x1 lk3 0 (h:=xBs [] [] Tryz.underlying66 ZcJ ZgB (h:=fun b5=>xB [(0,_),(1,_)] [_,_] [_,_] Znw Zfg (h:=xAl [_,_] Zfg (h:=fun b6=>xS [_,_] 3 [_,_] ZcI (h:=Zv [_,_,_,_] rfl (Za (xBs [] [] Tryz.underlying171 sz3 zo3 (h:=fun b7=>xA (h:=?_)))))))))))))
 refine Zv [_,_,_,_,_] rfl (Zl (Za (xA (h:=Zp (ZQ (α:=GEx) [0,1,2,3,4,9] (fun g=>[(5,.slice g.n.a g.n.xs.length g.n.c),(6,.int .i64 g.k)]) [2,3,4] (fun g=>[g.m.l,ZaE b6 [.int .i64 x.next,.slice g.m.a g.m.xs.length g.m.c] 68,g.n.l]) (fun g Bx=>Bx=B∧g.k≤x.mail.length∧g.m.xs=Zcv (x.mail.take g.k)∧g.n.xs=(Zkv (x.mail.take g.k)).2∧g.n.xs.length≤g.k∧Z2 Bx g.m.l g.m.a g.m.c 196 3 ZM g.m.xs∧Z2 Bx g.n.l g.n.a g.n.c 3 1 Zbz g.n.xs) (fun g=>x.mail.length - g.k) ⟨0,⟨0,0,_,_,_,[]⟩,⟨0,0,_,_,_,[]⟩⟩ t2 rfl (⟨rfl,Nat.zero_le _,rfl,rfl,Nat.le_refl _,.lit0,.lit0⟩) (fun g B8 hle8 hI=>?_))))))
 obtain ⟨rfl,hk,hm1,hn1,hnl,hv,hw⟩:=hI
 have hml:g.m.xs.length≤g.k:=by rw [hm1];exact ZrU _ _
 refine ZO [(0,_),(1,_),(2,_),(3,_),(4,_),(5,_),(6,_),(9,_)] [_,_,_,_,_] t8 rfl (Zl (Za (xM (h:=xW ZaR (h:=x1 Zfv 0 (h:=xV Tryz.underlying66 (h:=Zag (h:=Zd rfl (fun g2=>?_) (fun g2=>?_)))))))))
 try simp only [sQ,ne_eq] at g2
 refine Zj (Zf (Zl (Zp (Za (xW ZaR (h:=x1 Zfv 0 (h:=xM (h:=?_))))))))
 obtain ⟨m,hm⟩:=Zaj (xs:=x.mail) (i:=g.k) om
 obtain ⟨bb10,oo10,rfl⟩:=hx.base hm
 obtain ⟨_,⟨rfl,hb11⟩,hc11⟩:=hx.elem hm
 refine xIx Tryz.underlying66 ZcJ (h:=xW ZfT (h:=y1 lk3 hc11 1 (h:=Zo (ZhR (a:=m.flags) (b:=8) (r:=Int.tdiv m.flags 8) rfl rfl rfl rfl oz (Zjz (ZfZ hok (List.mem_of_getElem? hm)).1 (Int.le_trans (ZfZ hok (List.mem_of_getElem? hm)).2 (by decide)) (by decide)) ?_))))
 refine Zo (Zhp (a:=(Int.tdiv m.flags 8)) (b:=2) (r:=Int.tmod (Int.tdiv m.flags 8) 2) rfl rfl rfl rfl (by decide) rfl ?_)
 refine ZI (h:=Zd rfl (fun g3=>?_) (fun g3=>?_))
 try simp only [sQ,ne_eq] at g3
 refine Ze (xM (h:=xW ZaR (h:=x1 Zfv 3 (h:=xV Tryz.underlying66 (h:=xD (h:=xBs [(0,_)] [_] Tryz.underlying171 sz3 zo3 (h:=fun b12=>Zo (Zba (z:=((g.m.xs.length:Int)+1)) (R:=Zbz) 4 rfl hw rfl rfl rfl Zvs Zu6 rfl rfl (ZaM.box 5 rfl) rfl rfl (rfl) om (fun l13 p13 c13 hv13=>?_)))))))))
 refine xA (h:=Zz (Zf (Ze (xM (h:=xD (h:=xA (h:=?_)))))))
 exact ZB ⟨g.k+1,⟨0,0,g.m.l,g.m.a,g.m.c,g.m.xs⟩,⟨0,0,l13,p13,c13,(g.n.xs ++ [((g.m.xs.length:Int)+1)])⟩⟩ [0,1,2,3,4] so2 ⟨rfl,so,by simp only [];rw [ZtK hm (by simpa [Zo2] using g3),hm1],by simp only [];rw [ZjO hm,Zdc,if_pos (by simpa [Zo2] using g3),← hn1,Zqm,← hm1];rfl,by simp;omega,hv,hv13⟩ t8 rfl
 try simp only [sQ,ne_eq] at g3
 refine Z8 (keeps _ [0,3] _) mo kr ⟨Kn.le.refl _,Zam.refl _ _⟩ (fun _ _=>?_)
 refine aW 0 rfl ZaR (h:=aT 1 rfl (ZG fun D B L hI=>Zn rfl rfl Zfv rfl (atL 3 (hI.2.2.1.trans rfl) rfl rfl) r4) (h:=aW 2 rfl ZaR (h:=aT 3 rfl (ZG fun D B L hI=>Zn rfl rfl Zfv rfl (atL 0 (hI.2.1.trans rfl) rfl rfl) r4) (h:=aM 4 rfl (h:=aIx 5 rfl Tryz.underlying66 ZcJ (h:=aT 6 rfl (ZG fun D B L hI=>Z6 [_,_,_] rfl rfl Zln rfl (Zid (hc11.mono hI.1) 0 rfl rfl) r4) (h:=Zu 7 kr rfl kr (Zx (parts:=[(0,_)]) [_,_,_] rfl rfl Tryz.underlying66 ZcJ ZgB rfl rfl rfl rfl rfl (fun b14=>?_)))))))))
 refine ⟨⟨Kn.le.refl _,t2⟩,(Zu 8 kr rfl kr (Zba (z:=⟨m.uid,m.flags,m.text⟩) (R:=ZM) 2 rfl hv rfl rfl rfl ZvZ ZvU rfl rfl (ZaM.box 5 rfl) rfl rfl (⟨rfl,by first | assumption | omega | (simp;done) | (simp;omega)⟩) om (fun l15 p15 c15 hv15=>?_)))⟩
 refine ⟨⟨Kn.le.refl _,t2⟩,(aW 9 rfl ZaR (h:=ZV 10 kr rfl kr kr kr (ZN [_] 3 [_,_] rfl rfl Zwr rfl rfl rfl rfl rfl rfl rfl rfl ?_)))⟩
 refine Zz (Zf (Ze (xM (h:=xD (h:=xA (h:=?_))))))
 exact ZB ⟨g.k+1,⟨0,0,l15,p15,c15,(g.m.xs ++ [⟨m.uid,m.flags,m.text⟩])⟩,⟨0,0,g.n.l,g.n.a,g.n.c,g.n.xs⟩⟩ [0,1,2,3,4] so2 ⟨rfl,so,by simp only [];rw [ZrT hm (by simpa [Zo2] using g3),hm1],by simp only [];rw [ZjO hm,Zdc,if_neg (by simpa [Zo2] using g3),hn1],so,hv15,hw⟩ t8 rfl
 try simp only [sQ,ne_eq] at g2
 have hmf0:g.m.xs=Zcv x.mail:=by rw [hm1,List.take_of_length_le oz]
 have hnf0:g.n.xs=(Zkv x.mail).2:=by rw [hn1,List.take_of_length_le oz]
 rw [expunge,if_pos (by simpa using g1),← hmf0,← hnf0]
 refine ZT (Zah (ZZ (ZH (Zf (Za (xL [_,_] ZbP 3 (h:=xM (h:=xS [_,_] 1 [_,_] ZcI (h:=xA (h:=Zv [_,_,_,_,_] rfl (Zh ?_)))))))))))
 exact Zad .ret (.inl rfl) [_,_] [2,4] rfl ⟨⟨_,rfl,.inr ⟨[_,_],ZbP,Zaf 1 rfl rfl rfl,rfl⟩⟩,rfl,trivial⟩ ⟨_,_,_,_,_,_,rfl,rfl,hv,hw⟩

set_option maxHeartbeats 400000 in
theorem Zh6 (q:Option Addr) (cp:Nat) (xs:List DSpan) (B:Kn) (hs:SlK B q cp 2 Za6 xs):ZaL (pj J) 187 [.slice q xs.length cp] B (.bool (Zh8 xs)):=by
 refine Zc 29 Tryz.func187 rfl rfl rfl (Nat.le_of_ble_eq_true rfl) ?_
 have hsn:=hs.len
 refine Za (xA (h:=Zl (Za (xA (h:=Zp (ZQ (α:=Nat) [0] (fun k=>[(3,.int .i64 k)]) [] (fun k=>[]) (fun k Bx=>Bx=B∧k≤xs.length∧∀y,y∈xs.take k→Zk9 y=true) (fun k=>xs.length - k) 0 t1 rfl (⟨rfl,Nat.zero_le _,by simp⟩) (fun k B1 hle1 hI=>?_)))))))
 obtain ⟨rfl,hk,hall⟩:=hI
 refine ZO [(0,_),(3,_)] [] t2 rfl (Zl (Za (xM (h:=xM (h:=xV Tryz.underlying242 (h:=Zag (h:=Zd rfl (fun g1=>?_) (fun g1=>?_))))))))
 try simp only [sQ,ne_eq] at g1
 refine Zj (Zf (Zl (Zp (Za (xM (h:=xM (h:=?_)))))))
 obtain ⟨m,hm⟩:=Zaj (xs:=xs) (i:=k) om
 obtain ⟨bb3,oo3,rfl⟩:=hs.base hm
 obtain ⟨_,rfl,hc4⟩:=hs.elem hm
 refine xIx Tryz.underlying242 Zpt (h:=xW Zqt (h:=y1 lk3 hc4 0 (h:=xR Zeo rfl (Zcl _ _ _ _) (h:=xN (h:=xM (h:=Zt (d:=17) rfl (fun g2=>?_) (fun g2=>?_)))))))
 try simp only [sQ,ne_eq] at g2
 refine xP (h:=xP (h:=xP (h:=xP (h:=xP (h:=xP (h:=xP (h:=xT (h:=Zd (t:=true) rfl (fun _=>Za (xA (h:=Zh (ZE (Zs (Z0 (ZE (Zs ?_)))))))) (fun h=>Bool.noConfusion h)))))))))
 exact ZY .ret (.inl rfl) [_] t1 ⟨Zk (by rw [Zh8,ZcT hm (by simp only [Zk9,g2,Bool.false_and]),Bool.false_and]),rfl,rfl⟩
 try simp only [sQ,ne_eq] at g2
 refine xM (h:=xM (h:=xIx Tryz.underlying242 Zpt (h:=xW Zqs (h:=y1 lk3 hc4 1 (h:=xR Zeo rfl (Zcl _ _ _ _) (h:=xN (h:=xF (h:=Zd rfl (fun g3=>?_) (fun g3=>?_)))))))))
 try simp only [sQ,ne_eq] at g3
 refine Za (xA (h:=Zh (ZE (Zs (Z0 (ZE (Zs ?_)))))))
 exact ZY .ret (.inl rfl) [_] t1 ⟨Zk (by rw [Zh8,ZcT hm (by simp only [Zk9,g3,Bool.and_false]),Bool.false_and]),rfl,rfl⟩
 try simp only [sQ,ne_eq] at g3
 refine Zj (Zz (Zf (Ze (xM (h:=xD (h:=xA (h:=?_)))))))
 exact ZB (k+1) [] so2 ⟨rfl,oz,Zbi hm hall (by simp only [Zk9];rw [show (decide (0≤m.low) && decide (m.low≤99))=true by simpa only [Bool.not_eq_false] using g2,show (decide (0≤m.high) && decide (m.high≤99))=true by simpa only [Bool.not_eq_false] using g3];rfl)⟩ t2 rfl
 try simp only [sQ,ne_eq] at g1
 refine ZT (Zah (ZZ (ZH (Zf (Za (xM (h:=xV Tryz.underlying242 (h:=xR Zeo rfl (Zcl _ _ _ _) (h:=xA (h:=Zh ?_))))))))))
 exact ZY .ret (.inl rfl) [_] t1 ⟨Zk (by rw [Zh8,ZeH (Zbq oz hall),Bool.true_and,Bool.eq_iff_iff];simp;try omega),rfl,rfl⟩

set_option maxHeartbeats 400000 in
theorem ZtG (q:Option Addr) (cp:Nat) (xs:List DSpan) (last n:Int) (B:Kn) (hs:SlK B q cp 2 Za6 xs):ZaL (pj J) 195 [.slice q xs.length cp,.int .i64 last,.int .i64 n] B (.bool (Zgg xs last n)):=by
 refine Zc 40 Tryz.func195 rfl rfl rfl (Nat.le_of_ble_eq_true rfl) ?_
 have hsn:=hs.len
 refine Za (xA (h:=Zl (Za (xA (h:=Zp (ZQ (α:=Nat) [0,1,2] (fun k=>[(7,.int .i64 k)]) [] (fun k=>[]) (fun k Bx=>Bx=B∧k≤xs.length∧(xs.take k).any (ZdZ last n)=false) (fun k=>xs.length - k) 0 t1 rfl (⟨rfl,Nat.zero_le _,rfl⟩) (fun k B1 hle1 hI=>?_)))))))
 obtain ⟨rfl,hk,hna⟩:=hI
 refine ZO [(0,_),(1,_),(2,_),(7,_)] [] t4 rfl (Zl (Za (xM (h:=xM (h:=xV Tryz.underlying242 (h:=Zag (h:=Zd rfl (fun g1=>?_) (fun g1=>?_))))))))
 try simp only [sQ,ne_eq] at g1
 refine Zj (Zf (Zl (Zp (Za (xM (h:=xM (h:=?_)))))))
 obtain ⟨m,hm⟩:=Zaj (xs:=xs) (i:=k) om
 obtain ⟨bb3,oo3,rfl⟩:=hs.base hm
 obtain ⟨_,rfl,hc4⟩:=hs.elem hm
 refine xIx Tryz.underlying242 Zpt (h:=xW Zqt (h:=y1 lk3 hc4 0 (h:=xA (h:=Za (xM (h:=xM (h:=xIx Tryz.underlying242 Zpt (h:=xW Zqs (h:=y1 lk3 hc4 1 (h:=xA (h:=Zl (Za ?_))))))))))))
 refine xM (h:=ZI (h:=Zd rfl (fun g2=>?_) (fun g2=>?_)))
 try simp only [sQ,ne_eq] at g2
 refine Ze (xM (h:=xA (h:=Zf (Zl (Za (xM (h:=ZI (h:=Zd rfl (fun g3=>?_) (fun g3=>?_)))))))))
 try simp only [sQ,ne_eq] at g3
 refine Ze (xM (h:=xA (h:=Zf (Za (xM (h:=xM (h:=xM (h:=Zo (Zjo rfl rfl rfl rfl (xM (h:=xM (h:=Zo (Znb rfl rfl rfl rfl (xR Zeo rfl (Zcl _ _ _ _) (h:=?_)))))))))))))))
 refine Zd rfl (fun g4=>?_) (fun g4=>?_)
 try simp only [sQ,ne_eq] at g4
 refine Za (xA (h:=Zh (ZE (Zs (Z0 (ZE (Zs ?_)))))))
 exact ZY .ret (.inl rfl) [_] t1 ⟨Zk (by symm;rw [Zgg,List.any_eq_true];exact ⟨m,List.mem_of_getElem? hm,by simp only [ZdZ,g2,g3,if_true,if_false];simpa using g4⟩),rfl,rfl⟩
 try simp only [sQ,ne_eq] at g4
 refine Zj (Zz (Zf (Ze (xM (h:=xD (h:=xA (h:=?_)))))))
 exact ZB (k+1) [] so2 ⟨rfl,oz,by rw [ZdX hm,hna];simp only [ZdZ,g2,g3,if_true,if_false];simpa using g4⟩ t4 rfl
 try simp only [sQ,ne_eq] at g3
 refine Zj (Zf (Za (xM (h:=xM (h:=xM (h:=Zo (Zjo rfl rfl rfl rfl (xM (h:=xM (h:=Zo (Znb rfl rfl rfl rfl (xR Zeo rfl (Zcl _ _ _ _) (h:=Zd rfl (fun g4=>?_) (fun g4=>?_))))))))))))))
 try simp only [sQ,ne_eq] at g4
 refine Za (xA (h:=Zh (ZE (Zs (Z0 (ZE (Zs ?_)))))))
 exact ZY .ret (.inl rfl) [_] t1 ⟨Zk (by symm;rw [Zgg,List.any_eq_true];exact ⟨m,List.mem_of_getElem? hm,by simp only [ZdZ,g2,g3,if_true,if_false];simpa using g4⟩),rfl,rfl⟩
 try simp only [sQ,ne_eq] at g4
 refine Zj (Zz (Zf (Ze (xM (h:=xD (h:=xA (h:=?_)))))))
 exact ZB (k+1) [] so2 ⟨rfl,oz,by rw [ZdX hm,hna];simp only [ZdZ,g2,g3,if_true,if_false];simpa using g4⟩ t4 rfl
 try simp only [sQ,ne_eq] at g2
 refine Zj (Zf (Zl (Za (xM (h:=ZI (h:=Zd rfl (fun g3=>?_) (fun g3=>?_)))))))
 try simp only [sQ,ne_eq] at g3
 refine Ze (xM (h:=xA (h:=Zf (Za (xM (h:=xM (h:=xM (h:=Zo (Zjo rfl rfl rfl rfl (xM (h:=xM (h:=Zo (Znb rfl rfl rfl rfl (xR Zeo rfl (Zcl _ _ _ _) (h:=?_)))))))))))))))
 refine Zd rfl (fun g4=>?_) (fun g4=>?_)
 try simp only [sQ,ne_eq] at g4
 refine Za (xA (h:=Zh (ZE (Zs (Z0 (ZE (Zs ?_)))))))
 exact ZY .ret (.inl rfl) [_] t1 ⟨Zk (by symm;rw [Zgg,List.any_eq_true];exact ⟨m,List.mem_of_getElem? hm,by simp only [ZdZ,g2,g3,if_true,if_false];simpa using g4⟩),rfl,rfl⟩
 try simp only [sQ,ne_eq] at g4
 refine Zj (Zz (Zf (Ze (xM (h:=xD (h:=xA (h:=?_)))))))
 exact ZB (k+1) [] so2 ⟨rfl,oz,by rw [ZdX hm,hna];simp only [ZdZ,g2,g3,if_true,if_false];simpa using g4⟩ t4 rfl
 try simp only [sQ,ne_eq] at g3
 refine Zj (Zf (Za (xM (h:=xM (h:=xM (h:=Zo (Zjo rfl rfl rfl rfl (xM (h:=xM (h:=Zo (Znb rfl rfl rfl rfl (xR Zeo rfl (Zcl _ _ _ _) (h:=Zd rfl (fun g4=>?_) (fun g4=>?_))))))))))))))
 try simp only [sQ,ne_eq] at g4
 refine Za (xA (h:=Zh (ZE (Zs (Z0 (ZE (Zs ?_)))))))
 exact ZY .ret (.inl rfl) [_] t1 ⟨Zk (by symm;rw [Zgg,List.any_eq_true];exact ⟨m,List.mem_of_getElem? hm,by simp only [ZdZ,g2,g3,if_true,if_false];simpa using g4⟩),rfl,rfl⟩
 try simp only [sQ,ne_eq] at g4
 refine Zj (Zz (Zf (Ze (xM (h:=xD (h:=xA (h:=?_)))))))
 exact ZB (k+1) [] so2 ⟨rfl,oz,by rw [ZdX hm,hna];simp only [ZdZ,g2,g3,if_true,if_false];simpa using g4⟩ t4 rfl
 try simp only [sQ,ne_eq] at g1
 refine ZT (Zah (ZZ (ZH (Zf (Za (xA (h:=Zh ?_)))))))
 exact ZY .ret (.inl rfl) [_] t1 ⟨Zk (by rw [Zgg,← ZqV (b:=false) hna.symm oz]),rfl,rfl⟩

set_option maxHeartbeats 400000 in
theorem Zn7 (q:Option Addr) (cp:Nat) (xs:List DSpan) (last:Int) (hl0:0≤last) (B:Kn) (hs:SlK B q cp 2 Za6 xs):ZA (pj J) 193 [.slice q xs.length cp,.int .i64 last] B [] (fun v B' Ls=>Ls=[]∧∃a c,v = .slice a (ZaJ xs last).length c∧SlK B' a c 1 Zbz (ZaJ xs last)):=by
 refine Zc 28 Tryz.func193 rfl rfl rfl (Nat.le_of_ble_eq_true rfl) ?_
 have hsn:=hs.len
 refine Za (xA (h:=Za (xBs [] [] Tryz.underlying171 sz3 zo3 (h:=fun b1=>xA (h:=Zv [_] rfl (Zl (Za (xA (h:=Zp (ZQ (α:=Gh Int) [0,1,4] (fun g=>[(5,.slice g.a g.xs.length g.c),(6,.int .i64 ((g.k+1:Nat):Int))]) [0] (fun g=>[g.l]) (fun g Bx=>Bx=B∧g.k≤(min last 99).toNat∧g.xs.length≤g.k∧(0<g.k→Zh8 xs=true)∧g.xs=ZcY xs (min last 99) g.k∧Z2 Bx g.l g.a g.c 3 1 Zbz g.xs) (fun g=>(min last 99).toNat - g.k) ⟨0,0,_,_,_,[]⟩ t2 rfl (⟨rfl,Nat.zero_le _,Nat.le_refl _,by simp,rfl,.lit0⟩) (fun g B2 hle2 hI=>?_)))))))))))
 obtain ⟨rfl,hk,hgl,hok,hnt,hv⟩:=hI
 refine ZO [(0,_),(1,_),(4,_),(5,_),(6,_)] [_] t5 rfl (Zl (Za (xM (h:=xM (h:=Zo (Zjo rfl rfl rfl rfl (ZcG (h:=xM (h:=Zt (d:=12) rfl (fun g1=>?_) (fun g1=>?_))))))))))
 try simp only [sQ,ne_eq] at g1
 refine xM (h:=xR Zuf rfl (Zh6 _ _ xs _ hs) (h:=xT (h:=Zd rfl (fun g2=>?_) (fun g2=>?_))))
 try simp only [sQ,ne_eq] at g2
 refine Zj (Zf (Zl (Zp (Za (xM (h:=xM (h:=Zo (Zjo rfl rfl rfl rfl (xM (h:=xR ZwP rfl (ZtG _ _ xs (min last 99) (↑(g.k+1)) _ hs) (h:=Zd rfl (fun g3=>?_) (fun g3=>?_))))))))))))
 try simp only [sQ,ne_eq] at g3
 refine Ze (xM (h:=xM (h:=xBs [(0,_)] [_] Tryz.underlying171 sz3 zo3 (h:=fun b5=>Zo (Zba (z:=(↑(g.k+1):Int)) (R:=Zbz) 0 rfl hv rfl rfl rfl Zvs Zu6 rfl rfl (ZaM.box 1 rfl) rfl rfl (rfl) om (fun l6 p6 c6 hv6=>?_))))))
 refine xA (h:=Zz (Zf (Ze (xM (h:=xD (h:=xA (h:=?_)))))))
 exact ZB ⟨g.k+1,0,l6,p6,c6,(g.xs ++ [(↑(g.k+1):Int)])⟩ [0] so2 ⟨rfl,so,by simp;omega,fun _=>g2,by simp only [];rw [Zoj (by exact_mod_cast g3),hnt],hv6⟩ t5 rfl
 try simp only [sQ,ne_eq] at g3
 refine Zj (Zz (Zf (Ze (xM (h:=xD (h:=xA (h:=?_)))))))
 exact ZB ⟨g.k+1,0,g.l,g.a,g.c,g.xs⟩ [0] so2 ⟨rfl,so,so,fun _=>g2,by simp only [];rw [ZpM (by exact_mod_cast g3),hnt],hv⟩ t5 rfl
 try simp only [sQ,ne_eq] at g2
 refine ZT (Zah (ZZ (ZH (Zf (Za (xM (h:=Z5 0 rfl hv Zbz.mono om3 (fun B7 hle7 hr7=>?_))))))))
 replace hs:=hs.mono Za6.mono hle7
 have hr7n:=hr7.len
 refine xA (h:=Zv [_] rfl ?_)
 have hne:ZaJ xs last=g.xs:=by
    rw [ZaJ,if_neg (by simp [g2]),hnt]
    have:g.k=0:=by
      rcases Nat.eq_zero_or_pos g.k with h | h
      · exact h
      · rw [hok h] at g2;cases g2
    rw [this];rfl
 rw [hne]
 refine Zh ?_
 exact Zad .ret (.inl rfl) [_] [] rfl t1 ⟨rfl,_,_,rfl,hr7⟩
 try simp only [sQ,ne_eq] at g1
 refine xP (h:=xP (h:=xF (h:=Zd (t:=false) rfl (fun h=>Bool.noConfusion h) (fun _=>ZT (Zah (ZZ (ZH (Zf (Za (xM (h:=Z5 0 rfl hv Zbz.mono om3 (fun B8 hle8 hr8=>?_))))))))))))
 replace hs:=hs.mono Za6.mono hle8
 have hr8n:=hr8.len
 refine xA (h:=Zv [_] rfl ?_)
 have hne:ZaJ xs last=g.xs:=by
    have hk2:g.k=(min last 99).toNat:=by omega
    rw [ZaJ]
    rcases Nat.eq_zero_or_pos g.k with h | h
    · rw [← hk2,hnt,h];split <;> rfl
    · rw [if_pos (hok h),hnt,hk2]
 rw [hne]
 refine Zh ?_
 exact Zad .ret (.inl rfl) [_] [] rfl t1 ⟨rfl,_,_,rfl,hr8⟩

set_option maxHeartbeats 400000 in
theorem ZmG (q1 q2 q3:Option Addr) (c1 c2 c3:Nat) (x:DHost) (s:DSess) (hs1:s.user.length≤2000000) (hs2:s.owner.length≤2000000) (hs3:s.name.length≤2000000) (r:Int) (hrr:ZhM x.folders) (h1:0<r) (B:Kn) (hu:SlK B q1 c1 3 Zg x.users) (hf:SlK B q2 c2 5 Zb x.folders):ZaL (pj J) 188 [.agg #[str x.domain,.slice q1 x.users.length c1,.slice q2 x.folders.length c2,.int .i64 x.queue.next,.slice q3 x.queue.items.length c3],.agg #[str s.user,str s.owner,str s.name],.int .i64 r] B (.tuple #[.int .i64 (atF x s r).1,.int .i64 (atF x s r).2]):=by
 refine Zc 32 Tryz.func188 rfl rfl rfl (Nat.le_of_ble_eq_true rfl) ?_
 have hun:=hu.len
 have hfn:=hf.len
 have hix:=ZeA (inF s.owner s.name) x.folders
 refine Za (xBx [_,_,_,_,_] (h:=fun b1=>xBx [_,_,_] (h:=fun b2=>xA (h:=xA (h:=Zv [_,_] rfl (Za (xL [_,_,_,_,_] Z1 0 (h:=xW Zvi (h:=x1 lk9 1 (h:=xW Zvh (h:=x1 lk9 1 (h:=xR Zua rfl (Zdv _ _ _ _ _ _ x s.owner s.name om2 om2 _ hf) (h:=?_)))))))))))))
 refine xA (h:=Za (xL [_,_,_,_,_] Z1 0 (h:=xW Zqr (h:=x1 lk9 1 (h:=xM (h:=xR Zvu rfl (Zei _ _ _ _ _ _ x s.user (Zbc (inF s.owner s.name) x.folders) 2 oz hrr oz _ hu hf) (h:=?_)))))))
 refine xA (h:=Zl (Za (xM (h:=ZbR (h:=Zd rfl (fun g1=>?_) (fun g1=>?_))))))
 try simp only [sQ,ne_eq] at g1
 refine Za (xM (h:=xM (h:=xA (h:=xA (h:=Zh (Zs ?_))))))
 exact ZY .ret (.inl rfl) [_,_] t2 ⟨by rw [atF,if_pos g1];rfl,rfl,rfl⟩
 try simp only [sQ,ne_eq] at g1
 refine Zj (Zf (Za (xM (h:=xL [_,_,_,_,_] Z1 0 (h:=xW Zqr (h:=x1 lk9 1 (h:=xM (h:=xM (h:=xR Zvu rfl (Zei _ _ _ _ _ _ x s.user (Zbc (inF s.owner s.name) x.folders) r oz hrr oz _ hu hf) (h:=?_))))))))))
 refine xA (h:=xA (h:=Zh ?_))
 exact ZY .ret (.inl rfl) [_,_] t2 ⟨by rw [atF,if_neg (fun h=>h g1)];rfl,rfl,rfl⟩

set_option maxHeartbeats 400000 in
theorem Zkl (q:Option Addr) (cp:Nat) (x:DBox) (q2:Option Addr) (cp2:Nat) (xs:List DSpan) (B:Kn) (hx:SlK B q cp 3 ZM x.mail) (hs:SlK B q2 cp2 2 Za6 xs):ZA (pj J) 190 [.agg #[.int .i64 x.next,.slice q x.mail.length cp],.slice q2 xs.length cp2] B [] (fun v B' Ls=>Ls=[]∧∃a c,v = .slice a (ZaJ xs x.mail.length).length c∧SlK B' a c 1 Zbz (ZaJ xs x.mail.length)):=by
 refine Zc 10 Tryz.func190 rfl rfl rfl (Nat.le_of_ble_eq_true rfl) ?_
 have hxn:=hx.len
 refine Za (xBx [_,_] (h:=fun b1=>xA (h:=Zv [_] rfl (Za (xM (h:=xW ZaR (h:=x1 Zfv 0 (h:=xV Tryz.underlying66 (h:=Zo (ZaG rfl rfl ZwQ rfl (Zn7 _ _ xs ↑x.mail.length om2 _ hs) ?_))))))))))
 intro v2 B2 hle2
 rintro ⟨a2,c2,rfl,hs2⟩
 replace hx:=hx.mono ZM.mono hle2
 replace hs:=hs.mono Za6.mono hle2
 have hs2n:=hs2.len
 refine xA (h:=Zh ?_)
 exact Zad .ret (.inl rfl) [_] [] rfl t1 ⟨rfl,_,_,rfl,hs2⟩

set_option maxHeartbeats 800000 in
theorem Zmo (q1 q2 q3:Option Addr) (c1 c2 c3:Nat) (x:DHost) (s:DSess) (hs1:s.user.length≤2000000) (hs2:s.owner.length≤2000000) (hs3:s.name.length≤2000000) (q4:Option Addr) (c4:Nat) (set:List DSpan) (how fl:Int) (hd:x.domain.length≤2000000) (B:Kn) (hu:SlK B q1 c1 3 Zg x.users) (hf:SlK B q2 c2 5 Zb x.folders) (hi:SlK B q3 c3 4 Zi x.queue.items) (hs:SlK B q4 c4 2 Za6 set):ZA (pj J) 182 [.agg #[str x.domain,.slice q1 x.users.length c1,.slice q2 x.folders.length c2,.int .i64 x.queue.next,.slice q3 x.queue.items.length c3],.agg #[str s.user,str s.owner,str s.name],.slice q4 set.length c4,.int .i64 how,.int .i64 fl] B [] (fun v B' Ls=>Ls=[]∧∃p1 d1 p2 d2 p3 d3,v = .tuple #[.agg #[str (Zca x s set how fl).1.domain,.slice p1 (Zca x s set how fl).1.users.length d1,.slice p2 (Zca x s set how fl).1.folders.length d2,.int .i64 (Zca x s set how fl).1.queue.next,.slice p3 (Zca x s set how fl).1.queue.items.length d3],.int .i64 (Zca x s set how fl).2]∧SlK B' p1 d1 3 Zg (Zca x s set how fl).1.users∧SlK B' p2 d2 5 Zb (Zca x s set how fl).1.folders∧SlK B' p3 d3 4 Zi (Zca x s set how fl).1.queue.items∧(Zca x s set how fl).1.domain.length≤2000000):=by
 refine Zc 75 Tryz.func182 rfl rfl rfl (Nat.le_of_ble_eq_true rfl) ?_
 have hun:=hu.len
 have hfn:=hf.len
 have hin:=hi.len
 have hsn:=hs.len
 have hix:=ZeA (inF s.owner s.name) x.folders
 refine Za (xBx [_,_,_,_,_] (h:=fun b1=>xBx [_,_,_] (h:=fun b2=>xAl [_,_,_,_,_] ZaW (h:=fun b3=>xA (h:=Zv [_,_,_] rfl (Zl (Za (xL [_,_,_,_,_] Z1 0 (h:=xR Zrc rfl (ZbF _ _ _ _ _ _ x om2 _ hu hf hi) (h:=?_))))))))))
 refine xN (h:=xM (h:=Zt (d:=20) rfl (fun g1=>?_) (fun g1=>?_)))
 try simp only [sQ,ne_eq] at g1
 rw [Zca,if_pos (by simp [g1])]
 refine xP (h:=xP (h:=xP (h:=xT (h:=xM (h:=xP (h:=xP (h:=xP (h:=xT (h:=xM (h:=xP (h:=xP (h:=xP (h:=?_)))))))))))))
 refine xT (h:=Zd (t:=true) rfl (fun _=>Za (xB [] [_,_,_,_,_] [_,_,_,_,_] ZdS ZaW (h:=xS [_,_,_,_,_] 2 [_,_,_,_,_] Zav (h:=xA (h:=Zv [_,_,_] rfl (Zh (Zs ?_))))))) (fun h=>Bool.noConfusion h))
 exact Zad .ret (.inl rfl) [_,_] [] rfl ⟨⟨_,rfl,.inr ⟨[_,_,_,_,_],Z1,Zaf 2 rfl rfl rfl,rfl⟩⟩,rfl,trivial⟩ ⟨rfl,none,0,none,0,none,0,rfl,SlK.nil,SlK.nil,SlK.nil,by simp [ZaQ]⟩
 try simp only [sQ,ne_eq] at g1
 refine xM (h:=xR Zuf rfl (Zh6 _ _ set _ hs) (h:=xN (h:=xF (h:=xM (h:=Zt (d:=25) rfl (fun g2=>?_) (fun g2=>?_))))))
 try simp only [sQ,ne_eq] at g2
 rw [Zca,if_pos (by simp [g2])]
 refine xP (h:=xP (h:=xP (h:=xT (h:=xM (h:=xP (h:=xP (h:=xP (h:=xT (h:=Zd (t:=true) rfl (fun _=>Za (xB [] [_,_,_,_,_] [_,_,_,_,_] ZdS ZaW (h:=xS [_,_,_,_,_] 2 [_,_,_,_,_] Zav (h:=?_)))) (fun h=>Bool.noConfusion h))))))))))
 refine xA (h:=Zv [_,_,_] rfl (Zh (Zs ?_)))
 exact Zad .ret (.inl rfl) [_,_] [] rfl ⟨⟨_,rfl,.inr ⟨[_,_,_,_,_],Z1,Zaf 2 rfl rfl rfl,rfl⟩⟩,rfl,trivial⟩ ⟨rfl,none,0,none,0,none,0,rfl,SlK.nil,SlK.nil,SlK.nil,by simp [ZaQ]⟩
 try simp only [sQ,ne_eq] at g2
 refine xM (h:=xR ZqF rfl (Ze3 _ _) (h:=xN (h:=xF (h:=xM (h:=Zt (d:=30) rfl (fun g3=>?_) (fun g3=>?_))))))
 try simp only [sQ,ne_eq] at g3
 rw [Zca,if_pos (fun h=>by have:=h.2.2.1;simp only [ZaV,g3] at this;cases this)]
 refine xP (h:=xP (h:=xP (h:=xT (h:=Zd (t:=true) rfl (fun _=>Za (xB [] [_,_,_,_,_] [_,_,_,_,_] ZdS ZaW (h:=xS [_,_,_,_,_] 2 [_,_,_,_,_] Zav (h:=xA (h:=Zv [_,_,_] rfl (Zh (Zs ?_))))))) (fun h=>Bool.noConfusion h)))))
 exact Zad .ret (.inl rfl) [_,_] [] rfl ⟨⟨_,rfl,.inr ⟨[_,_,_,_,_],Z1,Zaf 2 rfl rfl rfl,rfl⟩⟩,rfl,trivial⟩ ⟨rfl,none,0,none,0,none,0,rfl,SlK.nil,SlK.nil,SlK.nil,by simp [ZaQ]⟩
 try simp only [sQ,ne_eq] at g3
 refine xM (h:=xR Zeo rfl (Zcl _ _ _ _) (h:=xN (h:=xF (h:=Zd rfl (fun g4=>?_) (fun g4=>?_)))))
 try simp only [sQ,ne_eq] at g4
 rw [Zca,if_pos (fun h=>by have:=h.2.2.2;simp only [Zkr,g4] at this;cases this)]
 refine Za (xB [] [_,_,_,_,_] [_,_,_,_,_] ZdS ZaW (h:=xS [_,_,_,_,_] 2 [_,_,_,_,_] Zav (h:=xA (h:=Zv [_,_,_] rfl (Zh (Zs ?_))))))
 exact Zad .ret (.inl rfl) [_,_] [] rfl ⟨⟨_,rfl,.inr ⟨[_,_,_,_,_],Z1,Zaf 2 rfl rfl rfl,rfl⟩⟩,rfl,trivial⟩ ⟨rfl,none,0,none,0,none,0,rfl,SlK.nil,SlK.nil,SlK.nil,by simp [ZaQ]⟩
 try simp only [sQ,ne_eq] at g4
 have hok:ZJ x=true:=by simpa using g1
 have hrr:=Zcx hok
 have hnn : ¬ ¬ (ZJ x=true∧Zh8 set=true∧ZaV fl=true∧Zkr how=true):=fun h=>h ⟨hok,by simpa using g2,by simpa only [ZaV,Bool.not_eq_false] using g3,by simpa only [Zkr,Bool.not_eq_false] using g4⟩
 refine Zj (Zf (Za (xL [_,_,_,_,_] Z1 0 (h:=xL [_,_,_] Zux 1 (h:=xR Zue rfl (ZmG _ _ _ _ _ _ x s om2 om2 om2 4 hrr oz _ hu hf) (h:=?_))))))
 refine xM (h:=xE (h:=xE (h:=xA (h:=xA (h:=Za (xL [_,_,_,_,_] Z1 0 (h:=Zo (Zaa rfl rfl ZnQ rfl (Zbe _ _ _ _ _ _ x _ hu hf hi) ?_))))))))
 rintro _ B9 _ hle9 ⟨l9,a9,c9,q19,c19,q39,c39,rfl,rfl,hu9,hs9,hi9⟩
 replace hu:=hu.mono Zg.mono hle9
 replace hf:=hf.mono Zb.mono hle9
 replace hi:=hi.mono Zi.mono hle9
 replace hs:=hs.mono Za6.mono hle9
 have hu9n:=hu9.len
 have hi9n:=hi9.len
 refine xAl [_,_,_,_,_] ZaW (h:=fun b10=>xS [_,_,_,_,_] 4 [_,_,_,_,_] Zav (h:=Zv [_,_,_,_,_] rfl (Zl (Za (xM (h:=ZbR (h:=Zd rfl (fun g5=>?_) (fun g5=>?_))))))))
 try simp only [sQ,ne_eq] at g5
 refine Za (xL [_,_,_,_,_] Z1 4 (h:=Z5 3 rfl hs9 Zb.mono om3 (fun B11 hle11 hr11=>?_)))
 replace hu:=hu.mono Zg.mono hle11
 replace hf:=hf.mono Zb.mono hle11
 replace hi:=hi.mono Zi.mono hle11
 replace hs:=hs.mono Za6.mono hle11
 replace hu9:=hu9.mono Zg.mono hle11
 replace hi9:=hi9.mono Zi.mono hle11
 have hr11n:=hr11.len
 refine xM (h:=?_)
 rw [Zca,if_neg hnn,if_pos g5]
 refine xS [_,_,_,_,_] 2 [_,_,_,_,_] Zav (h:=xA (h:=Zv [_,_,_,_,_] rfl (Zh (Zs ?_))))
 exact Zad .ret (.inl rfl) [_,_] [] rfl ⟨⟨_,rfl,.inr ⟨[_,_,_,_,_],Z1,Zaf 2 rfl rfl rfl,rfl⟩⟩,rfl,trivial⟩ ⟨rfl,_,_,_,_,_,_,(by first | rfl | (simp only [DHost.withFolders,List.length_set];rfl)),hu9,hr11,hi9,by first | assumption | (rw [ZU.2.2.1];assumption)⟩
 try simp only [sQ,ne_eq] at g5
 obtain ⟨hat,hk0,_,_,_⟩:=ZhJ g5
 obtain ⟨f,hf0⟩ :∃f,x.folders[(atF x s 4).1.toNat]? = some f:=⟨_,List.getElem?_eq_getElem oz⟩
 have hfb:Zbm (⟨f.next,f.mail⟩:DBox)=true:=Zb0 (Zbu hok hf0)
 have hse:Zca x s set how fl=(x.withFolders (x.folders.set (atF x s 4).1.toNat (f.withBox (Zbh ⟨f.next,f.mail⟩ (ZaJ set f.mail.length) how fl).1)),0):=by rw [Zca,if_neg hnn,if_neg (fun h=>h g5),Zdk hf0,Zh9 hf0];rfl
 refine Zj (Zf (Zl (Z8 (keeps _ [0,3] _) mo kr ⟨Kn.le.refl _,Zam.refl _ _⟩ (fun _ _=>?_))))
 refine aW 0 rfl Z9 (h:=aT 1 rfl (ZG fun D B L hI=>Zn rfl rfl ZcN rfl (atL 0 (hI.2.1.trans rfl) rfl rfl) r4) (h:=aM 2 rfl (h:=?_)))
 obtain ⟨bb12,oo12,rfl⟩:=hf.base hf0
 obtain ⟨_,⟨qg13,cg13,qm13,cm13,rfl,hg13,hm13,hb13,hb13b⟩,hc13⟩:=hf.elem hf0
 have hg13n:=hg13.len
 have hm13n:=hm13.len
 have hm13s:=Zac hm13
 refine aIx 3 rfl Tryz.underlying24 Zbw (h:=aW 4 rfl Zb2 (h:=aT 5 rfl (ZG fun D B L hI=>Z6 [_,_] rfl rfl ZbP rfl (Zid (hc13.mono hI.1) 3 rfl rfl) r4) (h:=aW 6 rfl Z9 (h:=aT 7 rfl (ZG fun D B L hI=>Zn rfl rfl ZcN rfl (atL 0 (hI.2.1.trans rfl) rfl rfl) r4) (h:=aM 8 rfl (h:=aIx 9 rfl Tryz.underlying24 Zbw (h:=aW 10 rfl Zb2 (h:=aT 11 rfl (ZG fun D B L hI=>Z6 [_,_] rfl rfl ZbP rfl (Zid (hc13.mono hI.1) 3 rfl rfl) r4) (h:=aM 12 rfl (h:=aM 14 rfl (h:=aM 15 rfl (h:=Zaq [13,20] kr kr kr ⟨?_,?_⟩))))))))))))
 refine (ZaG rfl rfl Zuc rfl (Zkl _ _ (⟨f.next,f.mail⟩:DBox) _ _ set _ hm13 hs) ?_)
 intro v14 B14 hle14
 rintro ⟨a14,c14,rfl,hs14⟩
 replace hu:=hu.mono Zg.mono hle14
 replace hf:=hf.mono Zb.mono hle14
 replace hi:=hi.mono Zi.mono hle14
 replace hs:=hs.mono Za6.mono hle14
 replace hg13:=hg13.mono ZL.mono hle14
 replace hm13:=hm13.mono ZM.mono hle14
 replace hc13:=hc13.mono hle14
 replace hs9:=hs9.mono Zb.mono hle14
 replace hu9:=hu9.mono Zg.mono hle14
 replace hi9:=hi9.mono Zi.mono hle14
 have hs14n:=hs14.len
 refine ⟨⟨hle14,t2⟩,(Zaq [16,20] kr kr kr ⟨?_,?_⟩)⟩
 refine (ZaG rfl rfl Zud rfl (ZfK _ _ (⟨f.next,f.mail⟩:DBox) _ _ (ZaJ set f.mail.length) how fl _ hm13 hs14) ?_)
 intro v15 B15 hle15
 rintro ⟨a15,c15,rfl,hs15⟩
 replace hu:=hu.mono Zg.mono hle15
 replace hf:=hf.mono Zb.mono hle15
 replace hi:=hi.mono Zi.mono hle15
 replace hs:=hs.mono Za6.mono hle15
 replace hg13:=hg13.mono ZL.mono hle15
 replace hm13:=hm13.mono ZM.mono hle15
 replace hc13:=hc13.mono hle15
 replace hs14:=hs14.mono Zbz.mono hle15
 replace hs9:=hs9.mono Zb.mono hle15
 replace hu9:=hu9.mono Zg.mono hle15
 replace hi9:=hi9.mono Zi.mono hle15
 have hs15n:=hs15.len
 refine ⟨⟨(hle14.trans hle15),t2⟩,(aM 17 rfl (h:=aE 18 rfl (h:=aE 19 rfl (h:=Zu 20 kr rfl kr (Zao (l:=[_,_]) rfl rfl Zfg rfl (fun b16=>?_))))))⟩
 refine ⟨⟨(hle14.trans hle15),t2⟩,(Zbb 21 kr rfl kr kr (ZN [_,_] 5 [_,_] rfl rfl ZcI rfl rfl rfl rfl rfl rfl rfl rfl ?_))⟩
 refine aA 22 rfl (h:=ZC kr kr ?_)
 refine Zf (Zv [_,_,_,_,_,_] rfl (Za (xW Z9 (h:=x1 ZcN 4 (h:=xM (h:=xL [_,_] ZbP 5 (h:=?_)))))))
 obtain ⟨bb17,_,hp17,⟨qg17,cg17,qm17,cm17,rfl,hg17,hm17,hb17,hb17b⟩,hw17,hc17⟩:=hs9.row hf0
 have hg17n:=hg17.len
 have hm17n:=hm17.len
 have hm17s:=Zac hm17
 refine xIp hp17 Tryz.underlying24 Zbw (h:=xW Zb2 (h:=Zo (Zes (k:=((atF x s 4).1).toNat) (off:=3) (⟨f.owner,f.name,f.grants,(Zbh ⟨f.next,f.mail⟩ (ZaJ set f.mail.length) how fl).1.next,(Zbh ⟨f.next,f.mail⟩ (ZaJ set f.mail.length) how fl).1.mail⟩) [_,_] 3 hs9 hp17 hf0 rfl rfl ZcI rfl rfl rfl rfl rfl rfl (by rintro _ ⟨_,_,_,_,rfl,e1,_,e3,e4⟩;exact ⟨_,_,_,_,rfl,e1,hs15,e3,e4⟩) (fun l18 hv18=>?_))))
 refine Zv [_,_,_,_,_,_] rfl (Za (xL [_,_,_,_,_] Z1 4 (h:=Z5 3 rfl hv18 Zb.mono om3 (fun B19 hle19 hr19=>?_))))
 replace hu:=hu.mono Zg.mono hle19
 replace hf:=hf.mono Zb.mono hle19
 replace hi:=hi.mono Zi.mono hle19
 replace hs:=hs.mono Za6.mono hle19
 replace hu9:=hu9.mono Zg.mono hle19
 replace hi9:=hi9.mono Zi.mono hle19
 replace hs15:=hs15.mono ZM.mono hle19
 have hr19n:=hr19.len
 refine xS [_,_,_,_,_] 2 [_,_,_,_,_] Zav (h:=?_)
 rw [hse]
 refine xA (h:=Zv [_,_,_,_,_,_] rfl (Zh ?_))
 exact Zad .ret (.inl rfl) [_,_] [] rfl ⟨⟨_,rfl,.inr ⟨[_,_,_,_,_],Z1,Zaf 2 rfl rfl rfl,rfl⟩⟩,rfl,trivial⟩ ⟨rfl,_,_,_,_,_,_,(by first | rfl | (simp only [DHost.withFolders,List.length_set];rfl)),hu9,hr19,hi9,by first | assumption | (rw [ZU.2.2.1];assumption)⟩
 refine (Zao (l:=[_,_]) rfl rfl Zfg rfl (fun b20=>⟨⟨hle14,t2⟩,(Zu 16 kr rfl kr (ZaG rfl rfl Zud rfl (ZfK _ _ (⟨f.next,f.mail⟩:DBox) _ _ (ZaJ set f.mail.length) how fl _ hm13 hs14) ?_))⟩))
 intro v21 B21 hle21
 rintro ⟨a21,c21,rfl,hs21⟩
 replace hu:=hu.mono Zg.mono hle21
 replace hf:=hf.mono Zb.mono hle21
 replace hi:=hi.mono Zi.mono hle21
 replace hs:=hs.mono Za6.mono hle21
 replace hg13:=hg13.mono ZL.mono hle21
 replace hm13:=hm13.mono ZM.mono hle21
 replace hc13:=hc13.mono hle21
 replace hs14:=hs14.mono Zbz.mono hle21
 replace hs9:=hs9.mono Zb.mono hle21
 replace hu9:=hu9.mono Zg.mono hle21
 replace hi9:=hi9.mono Zi.mono hle21
 have hs21n:=hs21.len
 refine ⟨⟨(hle14.trans hle21),t2⟩,(aM 17 rfl (h:=aE 18 rfl (h:=aE 19 rfl (h:=Zbb 21 kr rfl kr kr (ZN [_,_] 5 [_,_] rfl rfl ZcI rfl rfl rfl rfl rfl rfl rfl rfl ?_)))))⟩
 refine aA 22 rfl (h:=ZC kr kr ?_)
 refine Zf (Zv [_,_,_,_,_,_] rfl (Za (xW Z9 (h:=x1 ZcN 4 (h:=xM (h:=xL [_,_] ZbP 5 (h:=?_)))))))
 obtain ⟨bb22,_,hp22,⟨qg22,cg22,qm22,cm22,rfl,hg22,hm22,hb22,hb22b⟩,hw22,hc22⟩:=hs9.row hf0
 have hg22n:=hg22.len
 have hm22n:=hm22.len
 have hm22s:=Zac hm22
 refine xIp hp22 Tryz.underlying24 Zbw (h:=xW Zb2 (h:=Zo (Zes (k:=((atF x s 4).1).toNat) (off:=3) (⟨f.owner,f.name,f.grants,(Zbh ⟨f.next,f.mail⟩ (ZaJ set f.mail.length) how fl).1.next,(Zbh ⟨f.next,f.mail⟩ (ZaJ set f.mail.length) how fl).1.mail⟩) [_,_] 3 hs9 hp22 hf0 rfl rfl ZcI rfl rfl rfl rfl rfl rfl (by rintro _ ⟨_,_,_,_,rfl,e1,_,e3,e4⟩;exact ⟨_,_,_,_,rfl,e1,hs21,e3,e4⟩) (fun l23 hv23=>?_))))
 refine Zv [_,_,_,_,_,_] rfl (Za (xL [_,_,_,_,_] Z1 4 (h:=Z5 3 rfl hv23 Zb.mono om3 (fun B24 hle24 hr24=>?_))))
 replace hu:=hu.mono Zg.mono hle24
 replace hf:=hf.mono Zb.mono hle24
 replace hi:=hi.mono Zi.mono hle24
 replace hs:=hs.mono Za6.mono hle24
 replace hu9:=hu9.mono Zg.mono hle24
 replace hi9:=hi9.mono Zi.mono hle24
 replace hs21:=hs21.mono ZM.mono hle24
 have hr24n:=hr24.len
 refine xS [_,_,_,_,_] 2 [_,_,_,_,_] Zav (h:=?_)
 rw [hse]
 refine xA (h:=Zv [_,_,_,_,_,_] rfl (Zh ?_))
 exact Zad .ret (.inl rfl) [_,_] [] rfl ⟨⟨_,rfl,.inr ⟨[_,_,_,_,_],Z1,Zaf 2 rfl rfl rfl,rfl⟩⟩,rfl,trivial⟩ ⟨rfl,_,_,_,_,_,_,(by first | rfl | (simp only [DHost.withFolders,List.length_set];rfl)),hu9,hr24,hi9,by first | assumption | (rw [ZU.2.2.1];assumption)⟩
 refine (Zao (l:=[_,_]) rfl rfl Zfg rfl (fun b25=>⟨⟨Kn.le.refl _,t2⟩,(Zu 13 kr rfl kr (ZaG rfl rfl Zuc rfl (Zkl _ _ (⟨f.next,f.mail⟩:DBox) _ _ set _ hm13 hs) ?_))⟩))
 intro v26 B26 hle26
 rintro ⟨a26,c26,rfl,hs26⟩
 replace hu:=hu.mono Zg.mono hle26
 replace hf:=hf.mono Zb.mono hle26
 replace hi:=hi.mono Zi.mono hle26
 replace hs:=hs.mono Za6.mono hle26
 replace hg13:=hg13.mono ZL.mono hle26
 replace hm13:=hm13.mono ZM.mono hle26
 replace hc13:=hc13.mono hle26
 replace hs9:=hs9.mono Zb.mono hle26
 replace hu9:=hu9.mono Zg.mono hle26
 replace hi9:=hi9.mono Zi.mono hle26
 have hs26n:=hs26.len
 refine ⟨⟨hle26,t2⟩,(Zu 16 kr rfl kr (ZaG rfl rfl Zud rfl (ZfK _ _ (⟨f.next,f.mail⟩:DBox) _ _ (ZaJ set f.mail.length) how fl _ hm13 hs26) ?_))⟩
 intro v27 B27 hle27
 rintro ⟨a27,c27,rfl,hs27⟩
 replace hu:=hu.mono Zg.mono hle27
 replace hf:=hf.mono Zb.mono hle27
 replace hi:=hi.mono Zi.mono hle27
 replace hs:=hs.mono Za6.mono hle27
 replace hg13:=hg13.mono ZL.mono hle27
 replace hm13:=hm13.mono ZM.mono hle27
 replace hc13:=hc13.mono hle27
 replace hs26:=hs26.mono Zbz.mono hle27
 replace hs9:=hs9.mono Zb.mono hle27
 replace hu9:=hu9.mono Zg.mono hle27
 replace hi9:=hi9.mono Zi.mono hle27
 have hs27n:=hs27.len
 refine ⟨⟨(hle26.trans hle27),t2⟩,(aM 17 rfl (h:=aE 18 rfl (h:=aE 19 rfl (h:=Zbb 21 kr rfl kr kr (ZN [_,_] 5 [_,_] rfl rfl ZcI rfl rfl rfl rfl rfl rfl rfl rfl ?_)))))⟩
 refine aA 22 rfl (h:=ZC kr kr ?_)
 refine Zf (Zv [_,_,_,_,_,_] rfl (Za (xW Z9 (h:=x1 ZcN 4 (h:=xM (h:=xL [_,_] ZbP 5 (h:=?_)))))))
 obtain ⟨bb28,_,hp28,⟨qg28,cg28,qm28,cm28,rfl,hg28,hm28,hb28,hb28b⟩,hw28,hc28⟩:=hs9.row hf0
 have hg28n:=hg28.len
 have hm28n:=hm28.len
 have hm28s:=Zac hm28
 refine xIp hp28 Tryz.underlying24 Zbw (h:=xW Zb2 (h:=Zo (Zes (k:=((atF x s 4).1).toNat) (off:=3) (⟨f.owner,f.name,f.grants,(Zbh ⟨f.next,f.mail⟩ (ZaJ set f.mail.length) how fl).1.next,(Zbh ⟨f.next,f.mail⟩ (ZaJ set f.mail.length) how fl).1.mail⟩) [_,_] 3 hs9 hp28 hf0 rfl rfl ZcI rfl rfl rfl rfl rfl rfl (by rintro _ ⟨_,_,_,_,rfl,e1,_,e3,e4⟩;exact ⟨_,_,_,_,rfl,e1,hs27,e3,e4⟩) (fun l29 hv29=>?_))))
 refine Zv [_,_,_,_,_,_] rfl (Za (xL [_,_,_,_,_] Z1 4 (h:=Z5 3 rfl hv29 Zb.mono om3 (fun B30 hle30 hr30=>?_))))
 replace hu:=hu.mono Zg.mono hle30
 replace hf:=hf.mono Zb.mono hle30
 replace hi:=hi.mono Zi.mono hle30
 replace hs:=hs.mono Za6.mono hle30
 replace hu9:=hu9.mono Zg.mono hle30
 replace hi9:=hi9.mono Zi.mono hle30
 replace hs27:=hs27.mono ZM.mono hle30
 have hr30n:=hr30.len
 refine xS [_,_,_,_,_] 2 [_,_,_,_,_] Zav (h:=?_)
 rw [hse]
 refine xA (h:=Zv [_,_,_,_,_,_] rfl (Zh ?_))
 exact Zad .ret (.inl rfl) [_,_] [] rfl ⟨⟨_,rfl,.inr ⟨[_,_,_,_,_],Z1,Zaf 2 rfl rfl rfl,rfl⟩⟩,rfl,trivial⟩ ⟨rfl,_,_,_,_,_,_,(by first | rfl | (simp only [DHost.withFolders,List.length_set];rfl)),hu9,hr30,hi9,by first | assumption | (rw [ZU.2.2.1];assumption)⟩

set_option maxHeartbeats 400000 in
theorem Zn6 (q1 q2 q3:Option Addr) (c1 c2 c3:Nat) (x:DHost) (s:DSess) (hs1:s.user.length≤2000000) (hs2:s.owner.length≤2000000) (hs3:s.name.length≤2000000) (hd:x.domain.length≤2000000) (B:Kn) (hu:SlK B q1 c1 3 Zg x.users) (hf:SlK B q2 c2 5 Zb x.folders) (hi:SlK B q3 c3 4 Zi x.queue.items):ZA (pj J) 183 [.agg #[str x.domain,.slice q1 x.users.length c1,.slice q2 x.folders.length c2,.int .i64 x.queue.next,.slice q3 x.queue.items.length c3],.agg #[str s.user,str s.owner,str s.name]] B [] (fun v B' Ls=>Ls=[]∧∃p1 d1 p2 d2 p3 d3 p4 d4,v = .tuple #[.agg #[str (ZaP x s).1.domain,.slice p1 (ZaP x s).1.users.length d1,.slice p2 (ZaP x s).1.folders.length d2,.int .i64 (ZaP x s).1.queue.next,.slice p3 (ZaP x s).1.queue.items.length d3],.slice p4 (ZaP x s).2.1.length d4,.int .i64 (ZaP x s).2.2]∧SlK B' p1 d1 3 Zg (ZaP x s).1.users∧SlK B' p2 d2 5 Zb (ZaP x s).1.folders∧SlK B' p3 d3 4 Zi (ZaP x s).1.queue.items∧SlK B' p4 d4 1 Zbz (ZaP x s).2.1∧(ZaP x s).1.domain.length≤2000000):=by
 refine Zc 48 Tryz.func183 rfl rfl rfl (Nat.le_of_ble_eq_true rfl) ?_
 have hun:=hu.len
 have hfn:=hf.len
 have hin:=hi.len
 have hix:=ZeA (inF s.owner s.name) x.folders
 refine Za (xBx [_,_,_,_,_] (h:=fun b1=>xBx [_,_,_] (h:=fun b2=>xAl [_,_,_,_,_] ZaW (h:=fun b3=>xA (h:=xA (h:=Zv [_,_,_] rfl (Zl (Za (xL [_,_,_,_,_] Z1 0 (h:=xR Zrc rfl (ZbF _ _ _ _ _ _ x om2 _ hu hf hi) (h:=?_)))))))))))
 refine xN (h:=Zd rfl (fun g1=>?_) (fun g1=>?_))
 try simp only [sQ,ne_eq] at g1
 refine Za (xB [] [_,_,_,_,_] [_,_,_,_,_] ZdS ZaW (h:=xBs [] [] Tryz.underlying171 sz3 zo3 (h:=fun b5=>Z5 3 rfl (Z2.lit0 (R:=Zbz) (w:=1)) Zbz.mono om3 (fun B6 hle6 hr6=>?_))))
 replace hu:=hu.mono Zg.mono hle6
 replace hf:=hf.mono Zb.mono hle6
 replace hi:=hi.mono Zi.mono hle6
 have hr6n:=hr6.len
 refine xS [_,_,_,_,_] 2 [_,_,_,_,_] Zav (h:=?_)
 rw [ZaP,if_pos g1]
 refine xA (h:=xA (h:=Zv [_,_,_,_] rfl (Zh (Zs ?_))))
 exact Zad .ret (.inl rfl) [_,_,_] [] rfl ⟨⟨_,rfl,.inr ⟨[_,_,_,_,_],Z1,Zaf 2 rfl rfl rfl,rfl⟩⟩,rfl,rfl,trivial⟩ ⟨rfl,none,0,none,0,none,0,_,_,rfl,SlK.nil,SlK.nil,SlK.nil,hr6,by simp [ZaQ]⟩
 try simp only [sQ,ne_eq] at g1
 have hok:ZJ x=true:=by simpa using g1
 have hrr:=Zcx hok
 have hnn : ¬ ZJ x=false:=by simp [hok]
 refine Zj (Zf (Za (xL [_,_,_,_,_] Z1 0 (h:=xL [_,_,_] Zux 1 (h:=xR Zue rfl (ZmG _ _ _ _ _ _ x s om2 om2 om2 16 hrr oz _ hu hf) (h:=?_))))))
 refine xM (h:=xE (h:=xE (h:=xA (h:=xA (h:=Za (xL [_,_,_,_,_] Z1 0 (h:=Zo (Zaa rfl rfl ZnQ rfl (Zbe _ _ _ _ _ _ x _ hu hf hi) ?_))))))))
 rintro _ B8 _ hle8 ⟨l8,a8,c8,q18,c18,q38,c38,rfl,rfl,hu8,hs8,hi8⟩
 replace hu:=hu.mono Zg.mono hle8
 replace hf:=hf.mono Zb.mono hle8
 replace hi:=hi.mono Zi.mono hle8
 have hu8n:=hu8.len
 have hi8n:=hi8.len
 refine xAl [_,_,_,_,_] ZaW (h:=fun b9=>xS [_,_,_,_,_] 4 [_,_,_,_,_] Zav (h:=Zv [_,_,_,_,_] rfl (Zl (Za (xM (h:=ZbR (h:=Zd rfl (fun g5=>?_) (fun g5=>?_))))))))
 try simp only [sQ,ne_eq] at g5
 refine Za (xL [_,_,_,_,_] Z1 4 (h:=Z5 3 rfl hs8 Zb.mono om3 (fun B10 hle10 hr10=>?_)))
 replace hu:=hu.mono Zg.mono hle10
 replace hf:=hf.mono Zb.mono hle10
 replace hi:=hi.mono Zi.mono hle10
 replace hu8:=hu8.mono Zg.mono hle10
 replace hi8:=hi8.mono Zi.mono hle10
 have hr10n:=hr10.len
 refine xBs [] [] Tryz.underlying171 sz3 zo3 (h:=fun b11=>Z5 5 rfl (Z2.lit0 (R:=Zbz) (w:=1)) Zbz.mono om3 (fun B12 hle12 hr12=>?_))
 replace hu:=hu.mono Zg.mono hle12
 replace hf:=hf.mono Zb.mono hle12
 replace hi:=hi.mono Zi.mono hle12
 replace hu8:=hu8.mono Zg.mono hle12
 replace hr10:=hr10.mono Zb.mono hle12
 replace hi8:=hi8.mono Zi.mono hle12
 have hr12n:=hr12.len
 refine xM (h:=?_)
 rw [ZaP,if_neg hnn,if_pos g5]
 refine xS [_,_,_,_,_] 2 [_,_,_,_,_] Zav (h:=xA (h:=xA (h:=Zv [_,_,_,_,_,_] rfl (Zh (Zs ?_)))))
 exact Zad .ret (.inl rfl) [_,_,_] [] rfl ⟨⟨_,rfl,.inr ⟨[_,_,_,_,_],Z1,Zaf 2 rfl rfl rfl,rfl⟩⟩,rfl,rfl,trivial⟩ ⟨rfl,_,_,_,_,_,_,_,_,rfl,hu8,hr10,hi8,hr12,oy⟩
 try simp only [sQ,ne_eq] at g5
 obtain ⟨hat,hk0,_,_,_⟩:=ZhJ g5
 obtain ⟨f,hf0⟩ :∃f,x.folders[(atF x s 16).1.toNat]? = some f:=⟨_,List.getElem?_eq_getElem oz⟩
 have hse:ZaP x s=(x.withFolders (x.folders.set (atF x s 16).1.toNat (f.withBox (expunge ⟨f.next,f.mail⟩).1)),(expunge ⟨f.next,f.mail⟩).2,0):=by rw [ZaP,if_neg hnn,if_neg (fun h=>h g5),Zdk hf0,Zh9 hf0];rfl
 have hxl:(expunge (⟨f.next,f.mail⟩:DBox)).1.mail.length≤f.mail.length∧(expunge (⟨f.next,f.mail⟩:DBox)).2.length≤f.mail.length:=ZmU (⟨f.next,f.mail⟩:DBox)
 have hfb:Zbm (⟨f.next,f.mail⟩:DBox)=true:=Zb0 (Zbu hok hf0)
 have hfm:f.mail.length≤10:=(Zdj hfb).2.2
 refine Zj (Zf (Za (xW Z9 (h:=x1 ZcN 0 (h:=xM (h:=?_))))))
 obtain ⟨bb13,oo13,rfl⟩:=hf.base hf0
 obtain ⟨_,⟨qg14,cg14,qm14,cm14,rfl,hg14,hm14,hb14,hb14b⟩,hc14⟩:=hf.elem hf0
 have hg14n:=hg14.len
 have hm14n:=hm14.len
 have hm14s:=Zac hm14
 refine xIx Tryz.underlying24 Zbw (h:=xW Zb2 (h:=yL [_,_] ZbP hc14 3 (h:=Zo (Zaa rfl rfl ZkC rfl (Zcs _ _ (⟨f.next,f.mail⟩:DBox) _ hm14) ?_))))
 rintro _ B15 _ hle15 ⟨l15,a15,c15,l15b,a15b,c15b,rfl,rfl,hs15,hs15b⟩
 replace hu:=hu.mono Zg.mono hle15
 replace hf:=hf.mono Zb.mono hle15
 replace hi:=hi.mono Zi.mono hle15
 replace hg14:=hg14.mono ZL.mono hle15
 replace hm14:=hm14.mono ZM.mono hle15
 replace hc14:=hc14.mono hle15
 replace hs8:=hs8.mono Zb.mono hle15
 replace hu8:=hu8.mono Zg.mono hle15
 replace hi8:=hi8.mono Zi.mono hle15
 replace hs15:=hs15.anyK (B':=B15) ZM.any
 replace hs15b:=hs15b.anyK (B':=B15) Zbz.any
 refine xM (h:=xE (h:=Z5 5 rfl hs15 ZM.mono om3 (fun B16 hle16 hr16=>?_)))
 replace hu:=hu.mono Zg.mono hle16
 replace hf:=hf.mono Zb.mono hle16
 replace hi:=hi.mono Zi.mono hle16
 replace hg14:=hg14.mono ZL.mono hle16
 replace hm14:=hm14.mono ZM.mono hle16
 replace hc14:=hc14.mono hle16
 replace hs8:=hs8.mono Zb.mono hle16
 replace hu8:=hu8.mono Zg.mono hle16
 replace hi8:=hi8.mono Zi.mono hle16
 replace hs15b:=hs15b.mono Zbz.mono hle16
 have hr16n:=hr16.len
 refine xE (h:=Z5 6 rfl hs15b Zbz.mono om3 (fun B17 hle17 hr17=>?_))
 replace hu:=hu.mono Zg.mono hle17
 replace hf:=hf.mono Zb.mono hle17
 replace hi:=hi.mono Zi.mono hle17
 replace hg14:=hg14.mono ZL.mono hle17
 replace hm14:=hm14.mono ZM.mono hle17
 replace hc14:=hc14.mono hle17
 replace hr16:=hr16.mono ZM.mono hle17
 replace hs8:=hs8.mono Zb.mono hle17
 replace hu8:=hu8.mono Zg.mono hle17
 replace hi8:=hi8.mono Zi.mono hle17
 have hr17n:=hr17.len
 refine xAl [_,_] Zfg (h:=fun b18=>xS [_,_] 7 [_,_] ZcI (h:=xA (h:=Zv [_,_,_,_,_,_,_,_] rfl (Za (xW Z9 (h:=x1 ZcN 4 (h:=xM (h:=xL [_,_] ZbP 7 (h:=?_)))))))))
 obtain ⟨bb19,_,hp19,⟨qg19,cg19,qm19,cm19,rfl,hg19,hm19,hb19,hb19b⟩,hw19,hc19⟩:=hs8.row hf0
 have hg19n:=hg19.len
 have hm19n:=hm19.len
 have hm19s:=Zac hm19
 refine xIp hp19 Tryz.underlying24 Zbw (h:=xW Zb2 (h:=Zo (Zes (k:=((atF x s 16).1).toNat) (off:=3) (⟨f.owner,f.name,f.grants,(expunge ⟨f.next,f.mail⟩).1.next,(expunge ⟨f.next,f.mail⟩).1.mail⟩) [_,_] 3 hs8 hp19 hf0 rfl rfl ZcI rfl rfl rfl rfl rfl rfl (by rintro _ ⟨_,_,_,_,rfl,e1,_,e3,e4⟩;exact ⟨_,_,_,_,rfl,e1,hr16,e3,e4⟩) (fun l20 hv20=>?_))))
 refine Zv [_,_,_,_,_,_,_,_] rfl (Za (xL [_,_,_,_,_] Z1 4 (h:=Z5 3 rfl hv20 Zb.mono om3 (fun B21 hle21 hr21=>?_))))
 replace hu:=hu.mono Zg.mono hle21
 replace hf:=hf.mono Zb.mono hle21
 replace hi:=hi.mono Zi.mono hle21
 replace hr17:=hr17.mono Zbz.mono hle21
 replace hu8:=hu8.mono Zg.mono hle21
 replace hi8:=hi8.mono Zi.mono hle21
 replace hr16:=hr16.mono ZM.mono hle21
 have hr21n:=hr21.len
 refine xM (h:=?_)
 rw [hse]
 refine xS [_,_,_,_,_] 2 [_,_,_,_,_] Zav (h:=xA (h:=xA (h:=Zv [_,_,_,_,_,_,_,_] rfl (Zh ?_))))
 exact Zad .ret (.inl rfl) [_,_,_] [] rfl ⟨⟨_,rfl,.inr ⟨[_,_,_,_,_],Z1,Zaf 2 rfl rfl rfl,rfl⟩⟩,rfl,rfl,trivial⟩ ⟨rfl,_,_,_,_,_,_,_,_,(by first | rfl | (simp only [DHost.withFolders,List.length_set];rfl)),hu8,hr21,hi8,hr17,oy⟩

set_option maxHeartbeats 800000 in
theorem Zn8 (q1 q2 q3:Option Addr) (c1 c2 c3:Nat) (x:DHost) (s:DSess) (hs1:s.user.length≤2000000) (hs2:s.owner.length≤2000000) (hs3:s.name.length≤2000000) (q4:Option Addr) (c4:Nat) (set:List DSpan) (o n:Str) (hol:o.length≤2000000) (hnl:n.length≤2000000) (hd:x.domain.length≤2000000) (B:Kn) (hu:SlK B q1 c1 3 Zg x.users) (hf:SlK B q2 c2 5 Zb x.folders) (hi:SlK B q3 c3 4 Zi x.queue.items) (hs:SlK B q4 c4 2 Za6 set):ZA (pj J) 184 [.agg #[str x.domain,.slice q1 x.users.length c1,.slice q2 x.folders.length c2,.int .i64 x.queue.next,.slice q3 x.queue.items.length c3],.agg #[str s.user,str s.owner,str s.name],.slice q4 set.length c4,str o,str n] B [] (fun v B' Ls=>Ls=[]∧∃p1 d1 p2 d2 p3 d3,v = .tuple #[.agg #[str (ZeD x s set o n).1.domain,.slice p1 (ZeD x s set o n).1.users.length d1,.slice p2 (ZeD x s set o n).1.folders.length d2,.int .i64 (ZeD x s set o n).1.queue.next,.slice p3 (ZeD x s set o n).1.queue.items.length d3],.int .i64 (ZeD x s set o n).2]∧SlK B' p1 d1 3 Zg (ZeD x s set o n).1.users∧SlK B' p2 d2 5 Zb (ZeD x s set o n).1.folders∧SlK B' p3 d3 4 Zi (ZeD x s set o n).1.queue.items∧(ZeD x s set o n).1.domain.length≤2000000):=by
 refine Zc 102 Tryz.func184 rfl rfl rfl (Nat.le_of_ble_eq_true rfl) ?_
 have hun:=hu.len
 have hfn:=hf.len
 have hin:=hi.len
 have hsn:=hs.len
 have hix:=ZeA (inF s.owner s.name) x.folders
 have hix2:=ZeA (inF o n) x.folders
 refine Za (xBx [_,_,_,_,_] (h:=fun b1=>xBx [_,_,_] (h:=fun b2=>xAl [_,_,_,_,_] ZaW (h:=fun b3=>xA (h:=Zv [_,_,_] rfl (Zl (Za (xL [_,_,_,_,_] Z1 0 (h:=xR Zrc rfl (ZbF _ _ _ _ _ _ x om2 _ hu hf hi) (h:=?_))))))))))
 refine xN (h:=xM (h:=Zt (d:=24) rfl (fun g1=>?_) (fun g1=>?_)))
 try simp only [sQ,ne_eq] at g1
 rw [ZeD,if_pos (by simp [g1])]
 refine xP (h:=xP (h:=xP (h:=xT (h:=Zd (t:=true) rfl (fun _=>Za (xB [] [_,_,_,_,_] [_,_,_,_,_] ZdS ZaW (h:=xS [_,_,_,_,_] 2 [_,_,_,_,_] Zav (h:=xA (h:=Zv [_,_,_] rfl (Zh (Zs ?_))))))) (fun h=>Bool.noConfusion h)))))
 exact Zad .ret (.inl rfl) [_,_] [] rfl ⟨⟨_,rfl,.inr ⟨[_,_,_,_,_],Z1,Zaf 2 rfl rfl rfl,rfl⟩⟩,rfl,trivial⟩ ⟨rfl,none,0,none,0,none,0,rfl,SlK.nil,SlK.nil,SlK.nil,by simp [ZaQ]⟩
 try simp only [sQ,ne_eq] at g1
 refine xM (h:=xR Zuf rfl (Zh6 _ _ set _ hs) (h:=xN (h:=xF (h:=Zd rfl (fun g2=>?_) (fun g2=>?_)))))
 try simp only [sQ,ne_eq] at g2
 rw [ZeD,if_pos (by simp [g2])]
 refine Za (xB [] [_,_,_,_,_] [_,_,_,_,_] ZdS ZaW (h:=xS [_,_,_,_,_] 2 [_,_,_,_,_] Zav (h:=xA (h:=Zv [_,_,_] rfl (Zh (Zs ?_))))))
 exact Zad .ret (.inl rfl) [_,_] [] rfl ⟨⟨_,rfl,.inr ⟨[_,_,_,_,_],Z1,Zaf 2 rfl rfl rfl,rfl⟩⟩,rfl,trivial⟩ ⟨rfl,none,0,none,0,none,0,rfl,SlK.nil,SlK.nil,SlK.nil,by simp [ZaQ]⟩
 try simp only [sQ,ne_eq] at g2
 have hok:ZJ x=true:=by simpa using g1
 have hrr:=Zcx hok
 have hnn : ¬ ¬ (ZJ x=true∧Zh8 set=true):=fun h=>h ⟨hok,by simpa using g2⟩
 refine Zj (Zf (Za (xL [_,_,_,_,_] Z1 0 (h:=xL [_,_,_] Zux 1 (h:=xR Zue rfl (ZmG _ _ _ _ _ _ x s om2 om2 om2 2 hrr oz _ hu hf) (h:=?_))))))
 refine xM (h:=xE (h:=xE (h:=xA (h:=xA (h:=Zl (Za (xM (h:=ZbR (h:=Zd rfl (fun g5=>?_) (fun g5=>?_))))))))))
 try simp only [sQ,ne_eq] at g5
 refine Za (xL [_,_,_,_,_] Z1 0 (h:=Zo (Zaa rfl rfl ZnQ rfl (Zbe _ _ _ _ _ _ x _ hu hf hi) ?_)))
 rintro _ B7 _ hle7 ⟨l7,a7,c7,q17,c17,q37,c37,rfl,rfl,hu7,hs7,hi7⟩
 replace hu:=hu.mono Zg.mono hle7
 replace hf:=hf.mono Zb.mono hle7
 replace hi:=hi.mono Zi.mono hle7
 replace hs:=hs.mono Za6.mono hle7
 have hu7n:=hu7.len
 have hi7n:=hi7.len
 refine Z5 3 rfl hs7 Zb.mono om3 (fun B8 hle8 hr8=>?_)
 replace hu:=hu.mono Zg.mono hle8
 replace hf:=hf.mono Zb.mono hle8
 replace hi:=hi.mono Zi.mono hle8
 replace hs:=hs.mono Za6.mono hle8
 replace hu7:=hu7.mono Zg.mono hle8
 replace hi7:=hi7.mono Zi.mono hle8
 have hr8n:=hr8.len
 refine xM (h:=?_)
 rw [ZeD,if_neg hnn,if_pos g5]
 refine xS [_,_,_,_,_] 2 [_,_,_,_,_] Zav (h:=xA (h:=Zv [_,_,_,_] rfl (Zh (Zs ?_))))
 exact Zad .ret (.inl rfl) [_,_] [] rfl ⟨⟨_,rfl,.inr ⟨[_,_,_,_,_],Z1,Zaf 2 rfl rfl rfl,rfl⟩⟩,rfl,trivial⟩ ⟨rfl,_,_,_,_,_,_,(by first | rfl | (simp only [DHost.withFolders,List.length_set];rfl)),hu7,hr8,hi7,by first | assumption | (rw [ZU.2.2.1];assumption)⟩
 try simp only [sQ,ne_eq] at g5
 obtain ⟨hat,hk0,_,_,_⟩:=ZhJ g5
 obtain ⟨f,hf0⟩ :∃f,x.folders[(atF x s 2).1.toNat]? = some f:=⟨_,List.getElem?_eq_getElem oz⟩
 have hfb:Zbm (⟨f.next,f.mail⟩:DBox)=true:=Zb0 (Zbu hok hf0)
 have hnl3:=Zom set f.mail.length
 have hnl4:f.mail.length≤10:=(Zdj hfb).2.2
 refine Zj (Zf (Za (xL [_,_,_,_,_] Z1 0 (h:=xM (h:=xM (h:=xR Zua rfl (Zdv _ _ _ _ _ _ x o n om2 om2 _ hf) (h:=?_)))))))
 refine xA (h:=Za (xL [_,_,_,_,_] Z1 0 (h:=xW Zqr (h:=x1 lk9 1 (h:=xM (h:=xR Zvu rfl (Zei _ _ _ _ _ _ x s.user (Zbc (inF o n) x.folders) 8 oz hrr oz _ hu hf) (h:=?_)))))))
 refine xA (h:=Za (xL [_,_,_,_,_] Z1 0 (h:=Zo (Zaa rfl rfl ZnQ rfl (Zbe _ _ _ _ _ _ x _ hu hf hi) ?_))))
 rintro _ B11 _ hle11 ⟨l11,a11,c11,q111,c111,q311,c311,rfl,rfl,hu11,hs11,hi11⟩
 replace hu:=hu.mono Zg.mono hle11
 replace hf:=hf.mono Zb.mono hle11
 replace hi:=hi.mono Zi.mono hle11
 replace hs:=hs.mono Za6.mono hle11
 have hu11n:=hu11.len
 have hi11n:=hi11.len
 refine Z5 3 rfl hs11 Zb.mono om3 (fun B12 hle12 hr12=>?_)
 replace hu:=hu.mono Zg.mono hle12
 replace hf:=hf.mono Zb.mono hle12
 replace hi:=hi.mono Zi.mono hle12
 replace hs:=hs.mono Za6.mono hle12
 replace hu11:=hu11.mono Zg.mono hle12
 replace hi11:=hi11.mono Zi.mono hle12
 have hr12n:=hr12.len
 refine xAl [_,_,_,_,_] ZaW (h:=fun b13=>xS [_,_,_,_,_] 4 [_,_,_,_,_] Zav (h:=Zv [_,_,_,_,_] rfl (Za (xW Z9 (h:=x1 ZcN 0 (h:=xM (h:=?_)))))))
 obtain ⟨bb14,oo14,rfl⟩:=hf.base hf0
 obtain ⟨_,⟨qg15,cg15,qm15,cm15,rfl,hg15,hm15,hb15,hb15b⟩,hc15⟩:=hf.elem hf0
 have hg15n:=hg15.len
 have hm15n:=hm15.len
 have hm15s:=Zac hm15
 refine xIx Tryz.underlying24 Zbw (h:=xW Zb2 (h:=yL [_,_] ZbP hc15 3 (h:=xM (h:=Zo (ZaG rfl rfl Zuc rfl (Zkl _ _ (⟨f.next,f.mail⟩:DBox) _ _ set _ hm15 hs) ?_)))))
 intro v16 B16 hle16
 rintro ⟨a16,c16,rfl,hs16⟩
 replace hu:=hu.mono Zg.mono hle16
 replace hf:=hf.mono Zb.mono hle16
 replace hi:=hi.mono Zi.mono hle16
 replace hs:=hs.mono Za6.mono hle16
 replace hg15:=hg15.mono ZL.mono hle16
 replace hm15:=hm15.mono ZM.mono hle16
 replace hc15:=hc15.mono hle16
 replace hu11:=hu11.mono Zg.mono hle16
 replace hr12:=hr12.mono Zb.mono hle16
 replace hi11:=hi11.mono Zi.mono hle16
 have hs16n:=hs16.len
 refine xA (h:=Zl (Za (xA (h:=Zp (ZQ (α:=GCp) [0,1,2,3,4,5,6,10,11,12,14,15,16,28,37] (fun g=>[(13,.int .i64 g.c),(17,.int .i64 g.k)]) [4] (fun g=>[ZaE b13 [str g.x.domain,.slice g.q1 g.x.users.length g.c1,.slice g.q2 g.x.folders.length g.c2,.int .i64 g.x.queue.next,.slice g.q3 g.x.queue.items.length g.c3] 29]) (fun g Bx=>g.k≤(ZaJ set f.mail.length).length∧(g.x,g.c)=(((ZaJ set f.mail.length).take g.k).map (Zc5 f.mail)).foldl (ZbL (Zbc (inF o n) x.folders).toNat) (x,(Zjh x.users x.folders s.user (Zbc (inF o n) x.folders) 8))∧(g.c=0→(Zjh x.users x.folders s.user (Zbc (inF o n) x.folders) 8)=0)∧ZJ g.x=true∧g.x.domain.length≤2000000∧g.x.folders.length=x.folders.length∧SlK Bx g.q1 g.c1 3 Zg g.x.users∧SlK Bx g.q2 g.c2 5 Zb g.x.folders∧SlK Bx g.q3 g.c3 4 Zi g.x.queue.items) (fun g=>(ZaJ set f.mail.length).length - g.k) ⟨0,x,(Zjh x.users x.folders s.user (Zbc (inF o n) x.folders) 8),_,_,_,_,_,_⟩ t2 rfl (⟨Nat.zero_le _,rfl,id,hok,hd,rfl,hu11,hr12,hi11⟩) (fun g B17 hle17 hI=>?_))))))
 obtain ⟨hgk,hgs,hgc,hgo,hgd,hgl,hgu,hgf,hgi⟩:=hI
 have hgun:=hgu.len
 have hgin:=hgi.len
 replace hu:=hu.mono Zg.mono hle17
 replace hf:=hf.mono Zb.mono hle17
 replace hi:=hi.mono Zi.mono hle17
 replace hs:=hs.mono Za6.mono hle17
 replace hs16:=hs16.mono Zbz.mono hle17
 refine ZO [(0,_),(1,_),(2,_),(3,_),(4,_),(5,_),(6,_),(10,_),(11,_),(12,_),(13,_),(14,_),(15,_),(16,_),(17,_),(28,_),(37,_)] [_,_,_,_,_] t17 rfl (Zl (Za (xM (h:=xM (h:=xV Tryz.underlying171 (h:=Zag (h:=xM (h:=Zt (d:=64) rfl (fun g6=>?_) (fun g6=>?_)))))))))
 try simp only [sQ,ne_eq] at g6
 refine xM (h:=ZI (h:=xT (h:=Zd rfl (fun g7=>?_) (fun g7=>?_))))
 try simp only [sQ,ne_eq] at g7
 obtain ⟨_,hk8,_⟩:=Zeq (hgc g7)
 obtain ⟨y,hy⟩:=Zaj (xs:=ZaJ set f.mail.length) (i:=g.k) oz
 have hyb:=ZjD (List.mem_of_getElem? hy)
 refine Zj (Zf (Zl (Zp (Zl (Z8 (keeps _ [0] _) mo kr ⟨Kn.le.refl _,Zam.refl _ _⟩ (fun _ _=>?_))))))
 refine aW 0 rfl Z9 (h:=aT 1 rfl (ZG fun D B L hI=>Zn rfl rfl ZcN rfl (atL 0 (hI.2.1.trans rfl) rfl rfl) r4) (h:=aM 2 rfl (h:=?_)))
 obtain ⟨_,⟨qg18,cg18,qm18,cm18,rfl,hg18,hm18,hb18,hb18b⟩,hc18⟩:=hf.elem hf0
 have hg18n:=hg18.len
 have hm18n:=hm18.len
 have hm18s:=Zac hm18
 refine aIx 3 rfl Tryz.underlying24 Zbw (h:=aW 4 rfl Zb2 (h:=aW 5 rfl ZaR (h:=aT 6 rfl (ZG fun D B L hI=>Zn rfl rfl Zfv rfl ((hc18.mono hI.1) _ 4 _ rfl) r4) (h:=aM 7 rfl (h:=aM 8 rfl (h:=?_))))))
 obtain ⟨bb19,oo19,rfl⟩:=hs16.base hy
 obtain ⟨_,rfl,hc20⟩:=hs16.elem hy
 refine aIx 9 rfl Tryz.underlying171 sz3 (h:=aT 10 rfl (ZG fun D B L hI=>Zn rfl rfl lk3 rfl ((hc20.mono hI.1) _ 0 _ rfl) r4) (h:=aU 11 rfl (h:=?_)))
 obtain ⟨m,hm⟩:=ZeP (xs:=f.mail) (i:=(y - 1)) om om
 obtain ⟨bb22,oo22,rfl⟩:=hm18.base hm
 obtain ⟨_,⟨rfl,hb23⟩,hc23⟩:=hm18.elem hm
 refine aIx 12 rfl Tryz.underlying66 ZcJ (h:=?_)
 have hmo:=(ZdB hfb).1 m (List.mem_of_getElem? hm)
 have hmt:m.text.length≤20:=by simp only [ZbB,Bool.and_eq_true,decide_eq_true_eq] at hmo;exact hmo.2
 have hme:Zc5 f.mail y=m:=by simp only [Zc5,hm]
 refine aT 13 rfl (ZG fun D B L hI=>Z6 [_,_,_] rfl rfl Zln rfl (Zid (hc23.mono hI.1) 0 rfl rfl) r4) (h:=Zu 14 kr rfl kr (Zao (l:=[_,_,_]) rfl rfl ZgB rfl (fun b24=>?_)))
 refine ⟨⟨Kn.le.refl _,t1⟩,(ZV 15 kr rfl kr kr kr (ZN [_,_,_] 5 [_,_,_] rfl rfl ZcJ rfl rfl rfl rfl rfl rfl rfl rfl ?_))⟩
 refine Zf (Zv [_,_,_,_,_,_] rfl (Za (xL [_,_,_,_,_] Z1 4 (h:=xM (h:=xW ZfT (h:=x1 lk3 5 (h:=xW ZiL (h:=x1 lk9 5 (h:=Zo (ZaG rfl rfl Zsi rfl (ZhD _ _ _ _ _ _ g.x (Zbc (inF o n) x.folders) m.flags m.text om2 (oy) oz oz om2 _ hgu hgf hgi) ?_))))))))))
 intro va Ba hlea
 rintro ⟨p1a,d1a,p2a,d2a,p3a,d3a,rfl,hua,hfa,hia,hda⟩
 replace hu:=hu.mono Zg.mono hlea
 replace hf:=hf.mono Zb.mono hlea
 replace hi:=hi.mono Zi.mono hlea
 replace hs:=hs.mono Za6.mono hlea
 replace hs16:=hs16.mono Zbz.mono hlea
 replace hgu:=hgu.mono Zg.mono hlea
 replace hgf:=hgf.mono Zb.mono hlea
 replace hgi:=hgi.mono Zi.mono hlea
 have huan:=hua.len
 have hfan:=hfa.len
 have hian:=hia.len
 refine xM (h:=xE (h:=xE (h:=xAl [_,_,_,_,_] ZaW (h:=fun b26=>xS [_,_,_,_,_] 6 [_,_,_,_,_] Zav (h:=xA (h:=Zv [_,_,_,_,_,_,_] rfl (Za (xL [_,_,_,_,_] Z1 6 (h:=xS [_,_,_,_,_] 4 [_,_,_,_,_] Zav (h:=Zv [_,_,_,_,_,_,_] rfl (Ze (xM (h:=?_)))))))))))))
 refine xA (h:=Zz (Zf (Ze (xM (h:=xD (h:=xA (h:=?_)))))))
 exact ZB ⟨g.k+1,(ZbN g.x (Zbc (inF o n) x.folders).toNat m.flags m.text).1,(ZbN g.x (Zbc (inF o n) x.folders).toNat m.flags m.text).2,_,_,_,_,_,_⟩ [0,1,2,3,4] so2 ⟨so,by simp only [];rw [ZqO hy,← hgs,hme,ZbL,if_pos g7],fun _=>hgc g7,Zhy hgo (by simp only [ZbB,Bool.and_eq_true,decide_eq_true_eq] at hmo;simp only [ZaV,Bool.and_eq_true,decide_eq_true_eq];exact hmo.1.2) hmt,hda,by simp only [];rw [ZU.2.2.2];exact hgl,hua,hfa,hia⟩ t17 rfl
 try simp only [sQ,ne_eq] at g7
 have hfin:=ZlF (n:=n) hnn g5 hf0 (ZqN hgs g7)
 refine ZT (Zah (ZZ (ZH (Zf (Zl (Za (xM (h:=ZbR (h:=Zd rfl (fun g8=>?_) (fun g8=>by simp at g8;exact absurd g8 g7))))))))))
 try simp only [sQ,ne_eq] at g8
 refine Za (xL [_,_,_,_,_] Z1 0 (h:=Zo (Zaa rfl rfl ZnQ rfl (Zbe _ _ _ _ _ _ x _ hu hf hi) ?_)))
 rintro _ B27 _ hle27 ⟨l27,a27,c27,q127,c127,q327,c327,rfl,rfl,hu27,hs27,hi27⟩
 replace hu:=hu.mono Zg.mono hle27
 replace hf:=hf.mono Zb.mono hle27
 replace hi:=hi.mono Zi.mono hle27
 replace hs:=hs.mono Za6.mono hle27
 replace hs16:=hs16.mono Zbz.mono hle27
 replace hgu:=hgu.mono Zg.mono hle27
 replace hgf:=hgf.mono Zb.mono hle27
 replace hgi:=hgi.mono Zi.mono hle27
 have hu27n:=hu27.len
 have hi27n:=hi27.len
 refine Z5 5 rfl hs27 Zb.mono om3 (fun B28 hle28 hr28=>?_)
 replace hu:=hu.mono Zg.mono hle28
 replace hf:=hf.mono Zb.mono hle28
 replace hi:=hi.mono Zi.mono hle28
 replace hs:=hs.mono Za6.mono hle28
 replace hs16:=hs16.mono Zbz.mono hle28
 replace hu27:=hu27.mono Zg.mono hle28
 replace hi27:=hi27.mono Zi.mono hle28
 replace hgu:=hgu.mono Zg.mono hle28
 replace hgf:=hgf.mono Zb.mono hle28
 replace hgi:=hgi.mono Zi.mono hle28
 have hr28n:=hr28.len
 refine xM (h:=?_)
 rw [hfin,if_neg g7]
 refine xS [_,_,_,_,_] 2 [_,_,_,_,_] Zav (h:=xA (h:=Zv [_,_,_,_,_,_] rfl (Zh (Zs ?_))))
 exact Zad .ret (.inl rfl) [_,_] [] rfl ⟨⟨_,rfl,.inr ⟨[_,_,_,_,_],Z1,Zaf 2 rfl rfl rfl,rfl⟩⟩,rfl,trivial⟩ ⟨rfl,_,_,_,_,_,_,(by first | rfl | (simp only [DHost.withFolders,List.length_set];rfl)),hu27,hr28,hi27,by first | assumption | (rw [ZU.2.2.1];assumption)⟩
 try simp only [sQ,ne_eq] at g6
 rw [List.take_of_length_le oz] at hgs
 have hfin:=ZlF (n:=n) hnn g5 hf0 hgs
 refine xP (h:=xP (h:=xF (h:=Zd (t:=false) rfl (fun h=>Bool.noConfusion h) (fun _=>ZT (Zah (ZZ (ZH (Zf (Zl (Za (xM (h:=ZbR (h:=Zd rfl (fun g8=>?_) (fun g8=>?_))))))))))))))
 try simp only [sQ,ne_eq] at g8
 refine Za (xL [_,_,_,_,_] Z1 0 (h:=Zo (Zaa rfl rfl ZnQ rfl (Zbe _ _ _ _ _ _ x _ hu hf hi) ?_)))
 rintro _ B29 _ hle29 ⟨l29,a29,c29,q129,c129,q329,c329,rfl,rfl,hu29,hs29,hi29⟩
 replace hu:=hu.mono Zg.mono hle29
 replace hf:=hf.mono Zb.mono hle29
 replace hi:=hi.mono Zi.mono hle29
 replace hs:=hs.mono Za6.mono hle29
 replace hs16:=hs16.mono Zbz.mono hle29
 replace hgu:=hgu.mono Zg.mono hle29
 replace hgf:=hgf.mono Zb.mono hle29
 replace hgi:=hgi.mono Zi.mono hle29
 have hu29n:=hu29.len
 have hi29n:=hi29.len
 refine Z5 5 rfl hs29 Zb.mono om3 (fun B30 hle30 hr30=>?_)
 replace hu:=hu.mono Zg.mono hle30
 replace hf:=hf.mono Zb.mono hle30
 replace hi:=hi.mono Zi.mono hle30
 replace hs:=hs.mono Za6.mono hle30
 replace hs16:=hs16.mono Zbz.mono hle30
 replace hu29:=hu29.mono Zg.mono hle30
 replace hi29:=hi29.mono Zi.mono hle30
 replace hgu:=hgu.mono Zg.mono hle30
 replace hgf:=hgf.mono Zb.mono hle30
 replace hgi:=hgi.mono Zi.mono hle30
 have hr30n:=hr30.len
 refine xM (h:=?_)
 rw [hfin,if_neg g8]
 refine xS [_,_,_,_,_] 2 [_,_,_,_,_] Zav (h:=xA (h:=Zv [_,_,_,_,_,_] rfl (Zh (Zs ?_))))
 exact Zad .ret (.inl rfl) [_,_] [] rfl ⟨⟨_,rfl,.inr ⟨[_,_,_,_,_],Z1,Zaf 2 rfl rfl rfl,rfl⟩⟩,rfl,trivial⟩ ⟨rfl,_,_,_,_,_,_,(by first | rfl | (simp only [DHost.withFolders,List.length_set];rfl)),hu29,hr30,hi29,by first | assumption | (rw [ZU.2.2.1];assumption)⟩
 try simp only [sQ,ne_eq] at g8
 rw [hfin,if_pos g8]
 refine Zj (Zf (Za (xL [_,_,_,_,_] Z1 4 (h:=xS [_,_,_,_,_] 2 [_,_,_,_,_] Zav (h:=xA (h:=Zv [_,_,_,_,_] rfl (Zh ?_)))))))
 exact Zad .ret (.inl rfl) [_,_] [] rfl ⟨⟨_,rfl,.inr ⟨[_,_,_,_,_],Z1,Zaf 2 rfl rfl rfl,rfl⟩⟩,rfl,trivial⟩ ⟨rfl,_,_,_,_,_,_,(by first | rfl | (simp only [DHost.withFolders,List.length_set];rfl)),hgu,hgf,hgi,by first | assumption | (rw [ZU.2.2.1];assumption)⟩

set_option maxHeartbeats 800000 in
theorem Zvn (q1 q2 q3:Option Addr) (c1 c2 c3:Nat) (x:DHost) (e:DEvent) (he1:e.by_.length≤2000000) (he2:e.owner.length≤2000000) (he3:e.name.length≤2000000) (he4:e.to_.length≤2000000) (he5:e.text.length≤2000000) (hd:x.domain.length≤2000000) (B:Kn) (hu:SlK B q1 c1 3 Zg x.users) (hf:SlK B q2 c2 5 Zb x.folders) (hi:SlK B q3 c3 4 Zi x.queue.items):ZA (pj J) 156 [.agg #[str x.domain,.slice q1 x.users.length c1,.slice q2 x.folders.length c2,.int .i64 x.queue.next,.slice q3 x.queue.items.length c3],.agg #[.int .i64 e.kind,str e.by_,str e.owner,str e.name,str e.to_,str e.text,.int .i64 e.a,.int .i64 e.b]] B [] (fun v B' Ls=>Ls=[]∧∃p1 d1 p2 d2 p3 d3,v = .tuple #[.agg #[str (ZhG x e).1.domain,.slice p1 (ZhG x e).1.users.length d1,.slice p2 (ZhG x e).1.folders.length d2,.int .i64 (ZhG x e).1.queue.next,.slice p3 (ZhG x e).1.queue.items.length d3],.int .i64 (ZhG x e).2]∧SlK B' p1 d1 3 Zg (ZhG x e).1.users∧SlK B' p2 d2 5 Zb (ZhG x e).1.folders∧SlK B' p3 d3 4 Zi (ZhG x e).1.queue.items∧(ZhG x e).1.domain.length≤2000000):=by
 refine Zc 124 Tryz.func156 rfl rfl rfl (Nat.le_of_ble_eq_true rfl) ?_
 have hun:=hu.len
 have hfn:=hf.len
 have hin:=hi.len
 refine Za (xBx [_,_,_,_,_] (h:=fun b1=>xBx [_,_,_,_,_,_,_,_] (h:=fun b2=>xAl [_,_,_,_,_] ZaW (h:=fun b3=>xA (h:=Zv [_,_,_] rfl (Za (xW ZfU (h:=x1 lk9 1 (h:=xW Zkz (h:=x1 lk9 1 (h:=xW ZiM (h:=x1 lk9 1 (h:=?_)))))))))))))
 refine xB [(0,_),(1,_),(2,_)] [_,_,_] [_,_,_] Zx3 ZxG (h:=xAl [_,_,_] ZxG (h:=fun b4=>xS [_,_,_] 3 [_,_,_] Zx0 (h:=Zv [_,_,_,_] rfl (Za (xW Zbv (h:=x1 lk3 1 (h:=xW Zbv (h:=x1 lk3 1 (h:=xB [(0,_),(1,_)] [_,_] [_,_] Zww ZuB (h:=xBs [(0,_)] [_,_] Tryz.underlying242 Zpt ZuB (h:=fun b5=>xA (h:=Zv [_,_,_,_,_] rfl ?_))))))))))))
 have hvq:Z2 B (ZaE b5 [.int .i64 e.a,.int .i64 e.a] 241) (some ⟨b5,0,none⟩) 1 241 2 Za6 [⟨e.a,e.a⟩]:=Z2.lit (rows:=[[.int .i64 e.a,.int .i64 e.a]]) (.cons rfl .nil) (by intro row hr;simp only [List.mem_cons,List.not_mem_nil,or_false] at hr;rcases hr with rfl;rfl)
 refine ZdK 4 rfl hvq Za6.mono om3 (fun B6 hle6 hr6=>?_)
 replace hu:=hu.mono Zg.mono hle6
 replace hf:=hf.mono Zb.mono hle6
 replace hi:=hi.mono Zi.mono hle6
 have hr6n:=hr6.len
 refine Zl (Za (xW Zb5 (h:=x1 lk3 1 (h:=Zv [_,_,_,_,_] rfl (Zp (Za (ZI (h:=xA (h:=Zd rfl (fun k1=>?_) (fun k1=>?_))))))))))
 try simp only [sQ,ne_eq] at k1
 rw [ZhG,if_pos k1]
 refine Za (xL [_,_,_,_,_] Z1 0 (h:=xW ZfU (h:=x1 lk9 1 (h:=xW ZiM (h:=x1 lk9 1 (h:=Zo (ZaG rfl rfl Zw0 rfl (Zk8 _ _ _ _ _ _ x e.by_ e.name om2 om2 om2 _ hu hf hi) ?_)))))))
 intro v7 B7 hle7
 rintro ⟨p17,d17,p27,d27,p37,d37,rfl,hu7,hf7,hi7,hd7⟩
 replace hu:=hu.mono Zg.mono hle7
 replace hf:=hf.mono Zb.mono hle7
 replace hi:=hi.mono Zi.mono hle7
 replace hr6:=hr6.mono Za6.mono hle7
 have hu7n:=hu7.len
 have hf7n:=hf7.len
 have hi7n:=hi7.len
 refine xE (h:=xE (h:=xS [_,_,_,_,_] 2 [_,_,_,_,_] Zav (h:=xA (h:=Zv [_,_,_,_,_] rfl (Zh (ZE (Zs ?_)))))))
 exact Zad .ret (.inl rfl) [_,_] [] rfl ⟨⟨_,rfl,.inr ⟨[_,_,_,_,_],Z1,Zaf 2 rfl rfl rfl,rfl⟩⟩,rfl,trivial⟩ ⟨rfl,_,_,_,_,_,_,rfl,hu7,hf7,hi7,oy⟩
 try simp only [sQ,ne_eq] at k1
 refine Za (ZI (h:=xA (h:=Zd rfl (fun k2=>?_) (fun k2=>?_))))
 try simp only [sQ,ne_eq] at k2
 rw [ZhG,if_neg k1,if_pos k2]
 refine Za (xL [_,_,_,_,_] Z1 0 (h:=xW ZfU (h:=x1 lk9 1 (h:=xW Zkz (h:=x1 lk9 1 (h:=xW ZiM (h:=x1 lk9 1 (h:=xW Zd3 (h:=x1 lk9 1 (h:=xW Zbv (h:=x1 lk3 1 (h:=Zo (ZaG rfl rfl ZwZ rfl (Zmp _ _ _ _ _ _ x e.by_ e.owner e.name e.to_ e.a om2 om2 om2 om2 om2 _ hu hf hi) ?_)))))))))))))
 intro v8 B8 hle8
 rintro ⟨p18,d18,p28,d28,p38,d38,rfl,hu8,hf8,hi8,hd8⟩
 replace hu:=hu.mono Zg.mono hle8
 replace hf:=hf.mono Zb.mono hle8
 replace hi:=hi.mono Zi.mono hle8
 replace hr6:=hr6.mono Za6.mono hle8
 have hu8n:=hu8.len
 have hf8n:=hf8.len
 have hi8n:=hi8.len
 refine xE (h:=xE (h:=xS [_,_,_,_,_] 2 [_,_,_,_,_] Zav (h:=xA (h:=Zv [_,_,_,_,_] rfl (Zh (ZE (Zs ?_)))))))
 exact Zad .ret (.inl rfl) [_,_] [] rfl ⟨⟨_,rfl,.inr ⟨[_,_,_,_,_],Z1,Zaf 2 rfl rfl rfl,rfl⟩⟩,rfl,trivial⟩ ⟨rfl,_,_,_,_,_,_,rfl,hu8,hf8,hi8,oy⟩
 try simp only [sQ,ne_eq] at k2
 refine Za (ZI (h:=xA (h:=Zd rfl (fun k3=>?_) (fun k3=>?_))))
 try simp only [sQ,ne_eq] at k3
 rw [ZhG,if_neg k1,if_neg k2,if_pos k3]
 refine Za (xL [_,_,_,_,_] Z1 0 (h:=xW ZfU (h:=x1 lk9 1 (h:=xW Zkz (h:=x1 lk9 1 (h:=xW ZiM (h:=x1 lk9 1 (h:=xW Zbv (h:=x1 lk3 1 (h:=xW Zqu (h:=x1 lk9 1 (h:=Zo (ZaG rfl rfl ZwY rfl (ZpA _ _ _ _ _ _ x e.by_ e.owner e.name e.a e.text om2 om2 om2 om2 om2 _ hu hf hi) ?_)))))))))))))
 intro v9 B9 hle9
 rintro ⟨p19,d19,p29,d29,p39,d39,rfl,hu9,hf9,hi9,hd9⟩
 replace hu:=hu.mono Zg.mono hle9
 replace hf:=hf.mono Zb.mono hle9
 replace hi:=hi.mono Zi.mono hle9
 replace hr6:=hr6.mono Za6.mono hle9
 have hu9n:=hu9.len
 have hf9n:=hf9.len
 have hi9n:=hi9.len
 refine xE (h:=xE (h:=xS [_,_,_,_,_] 2 [_,_,_,_,_] Zav (h:=xA (h:=Zv [_,_,_,_,_] rfl (Zh (ZE (Zs ?_)))))))
 exact Zad .ret (.inl rfl) [_,_] [] rfl ⟨⟨_,rfl,.inr ⟨[_,_,_,_,_],Z1,Zaf 2 rfl rfl rfl,rfl⟩⟩,rfl,trivial⟩ ⟨rfl,_,_,_,_,_,_,rfl,hu9,hf9,hi9,oy⟩
 try simp only [sQ,ne_eq] at k3
 refine Za (ZI (h:=xA (h:=Zd rfl (fun k4=>?_) (fun k4=>?_))))
 try simp only [sQ,ne_eq] at k4
 refine Za (xL [_,_,_,_,_] Z1 0 (h:=xW ZfU (h:=x1 lk9 1 (h:=xW Zd3 (h:=x1 lk9 1 (h:=xBs [(0,_)] [_] Tryz.underlying39 sz9 zo9 (h:=fun b10=>Z5 5 rfl (Z2.strs (ls:=([e.to_]:List Str)) (by first | decide | (simp;done) | (simp;omega))) Zaz.mono om3 (fun B11 hle11 hr11=>?_))))))))
 replace hu:=hu.mono Zg.mono hle11
 replace hf:=hf.mono Zb.mono hle11
 replace hi:=hi.mono Zi.mono hle11
 replace hr6:=hr6.mono Za6.mono hle11
 have hr11n:=hr11.len
 refine xW Zqu (h:=?_)
 rw [ZhG,if_neg k1,if_neg k2,if_neg k3,if_pos k4]
 refine x1 lk9 1 (h:=xB [(0,_),(1,_),(2,_)] [_,_,_] [_,_,_] ZvW Zrd (h:=Zo (ZaG rfl rfl Zxf rfl (ZeU _ _ _ _ _ _ x _ _ (⟨e.by_,([e.to_]:List Str),e.text⟩) om2 _ hu hf hi hr11 om2 om2) ?_)))
 intro v12 B12 hle12
 rintro ⟨p112,d112,p212,d212,p312,d312,rfl,hu12,hf12,hi12,hd12⟩
 replace hu:=hu.mono Zg.mono hle12
 replace hf:=hf.mono Zb.mono hle12
 replace hi:=hi.mono Zi.mono hle12
 replace hr6:=hr6.mono Za6.mono hle12
 replace hr11:=hr11.mono Zaz.mono hle12
 have hu12n:=hu12.len
 have hf12n:=hf12.len
 have hi12n:=hi12.len
 refine xE (h:=xE (h:=xS [_,_,_,_,_] 2 [_,_,_,_,_] Zav (h:=xA (h:=Zv [_,_,_,_,_,_] rfl (Zh (ZE (Zs ?_)))))))
 exact Zad .ret (.inl rfl) [_,_] [] rfl ⟨⟨_,rfl,.inr ⟨[_,_,_,_,_],Z1,Zaf 2 rfl rfl rfl,rfl⟩⟩,rfl,trivial⟩ ⟨rfl,_,_,_,_,_,_,rfl,hu12,hf12,hi12,oy⟩
 try simp only [sQ,ne_eq] at k4
 refine Za (ZI (h:=xA (h:=Zd rfl (fun k5=>?_) (fun k5=>?_))))
 try simp only [sQ,ne_eq] at k5
 rw [ZhG,if_neg k1,if_neg k2,if_neg k3,if_neg k4,if_pos k5]
 refine Za (xL [_,_,_,_,_] Z1 0 (h:=xW Zbv (h:=x1 lk3 1 (h:=xW Zd3 (h:=x1 lk9 1 (h:=Zo (ZaG rfl rfl ZwX rfl (Zj7 _ _ _ _ _ _ x e.a e.to_ om2 om2 _ hu hf hi) ?_)))))))
 intro v13 B13 hle13
 rintro ⟨p113,d113,p213,d213,p313,d313,rfl,hu13,hf13,hi13,hd13⟩
 replace hu:=hu.mono Zg.mono hle13
 replace hf:=hf.mono Zb.mono hle13
 replace hi:=hi.mono Zi.mono hle13
 replace hr6:=hr6.mono Za6.mono hle13
 have hu13n:=hu13.len
 have hf13n:=hf13.len
 have hi13n:=hi13.len
 refine xE (h:=xE (h:=xS [_,_,_,_,_] 2 [_,_,_,_,_] Zav (h:=xA (h:=Zv [_,_,_,_,_] rfl (Zh (ZE (Zs ?_)))))))
 exact Zad .ret (.inl rfl) [_,_] [] rfl ⟨⟨_,rfl,.inr ⟨[_,_,_,_,_],Z1,Zaf 2 rfl rfl rfl,rfl⟩⟩,rfl,trivial⟩ ⟨rfl,_,_,_,_,_,_,rfl,hu13,hf13,hi13,oy⟩
 try simp only [sQ,ne_eq] at k5
 refine Za (ZI (h:=xA (h:=Zd rfl (fun k6=>?_) (fun k6=>?_))))
 try simp only [sQ,ne_eq] at k6
 rw [ZhG,if_neg k1,if_neg k2,if_neg k3,if_neg k4,if_neg k5,if_pos k6]
 refine Za (xL [_,_,_,_,_] Z1 0 (h:=xL [_,_,_] Zux 3 (h:=xM (h:=xW ZmT (h:=x1 lk3 1 (h:=Zo (ZaG rfl rfl ZwW rfl (Zmo _ _ _ _ _ _ x (⟨e.by_,e.owner,e.name⟩) om2 om2 om2 _ _ ([⟨e.a,e.a⟩]:List DSpan) 1 e.b om2 _ hu hf hi hr6) ?_)))))))
 intro v14 B14 hle14
 rintro ⟨p114,d114,p214,d214,p314,d314,rfl,hu14,hf14,hi14,hd14⟩
 replace hu:=hu.mono Zg.mono hle14
 replace hf:=hf.mono Zb.mono hle14
 replace hi:=hi.mono Zi.mono hle14
 replace hr6:=hr6.mono Za6.mono hle14
 have hu14n:=hu14.len
 have hf14n:=hf14.len
 have hi14n:=hi14.len
 refine xE (h:=xE (h:=xS [_,_,_,_,_] 2 [_,_,_,_,_] Zav (h:=xA (h:=Zv [_,_,_,_,_] rfl (Zh (ZE (Zs ?_)))))))
 exact Zad .ret (.inl rfl) [_,_] [] rfl ⟨⟨_,rfl,.inr ⟨[_,_,_,_,_],Z1,Zaf 2 rfl rfl rfl,rfl⟩⟩,rfl,trivial⟩ ⟨rfl,_,_,_,_,_,_,rfl,hu14,hf14,hi14,oy⟩
 try simp only [sQ,ne_eq] at k6
 refine Za (ZI (h:=xA (h:=Zd rfl (fun k7=>?_) (fun k7=>?_))))
 try simp only [sQ,ne_eq] at k7
 rw [ZhG,if_neg k1,if_neg k2,if_neg k3,if_neg k4,if_neg k5,if_neg k6,if_pos k7]
 refine Za (xL [_,_,_,_,_] Z1 0 (h:=xL [_,_,_] Zux 3 (h:=Zo (ZaG rfl rfl ZwV rfl (Zn6 _ _ _ _ _ _ x (⟨e.by_,e.owner,e.name⟩) om2 om2 om2 om2 _ hu hf hi) ?_))))
 intro v15 B15 hle15
 rintro ⟨p115,d115,p215,d215,p315,d315,p415,d415,rfl,hu15,hf15,hi15,hg15,hd15⟩
 replace hu:=hu.mono Zg.mono hle15
 replace hf:=hf.mono Zb.mono hle15
 replace hi:=hi.mono Zi.mono hle15
 replace hr6:=hr6.mono Za6.mono hle15
 have hu15n:=hu15.len
 have hf15n:=hf15.len
 have hi15n:=hi15.len
 have hg15n:=hg15.len
 refine xM (h:=xE (h:=xE (h:=xE (h:=xAl [_,_,_,_,_] ZaW (h:=fun b16=>xS [_,_,_,_,_] 5 [_,_,_,_,_] Zav (h:=xA (h:=xA (h:=Zv [_,_,_,_,_,_] rfl (Za (xL [_,_,_,_,_] Z1 5 (h:=xM (h:=xS [_,_,_,_,_] 2 [_,_,_,_,_] Zav (h:=?_)))))))))))))
 refine xA (h:=Zv [_,_,_,_,_,_] rfl (Zh (ZE (Zs ?_))))
 exact Zad .ret (.inl rfl) [_,_] [] rfl ⟨⟨_,rfl,.inr ⟨[_,_,_,_,_],Z1,Zaf 2 rfl rfl rfl,rfl⟩⟩,rfl,trivial⟩ ⟨rfl,_,_,_,_,_,_,rfl,hu15,hf15,hi15,oy⟩
 try simp only [sQ,ne_eq] at k7
 refine Za (ZI (h:=xA (h:=Zd rfl (fun k8=>?_) (fun k8=>?_))))
 try simp only [sQ,ne_eq] at k8
 rw [ZhG,if_neg k1,if_neg k2,if_neg k3,if_neg k4,if_neg k5,if_neg k6,if_neg k7,if_pos k8]
 refine Za (xL [_,_,_,_,_] Z1 0 (h:=xL [_,_,_] Zux 3 (h:=xM (h:=xW Zd3 (h:=x1 lk9 1 (h:=Zo (ZaG rfl rfl ZwU rfl (Zn8 _ _ _ _ _ _ x (⟨e.by_,e.owner,e.name⟩) om2 om2 om2 _ _ ([⟨e.a,e.a⟩]:List DSpan) e.to_ [105,110,98,111,120] om2 om2 om2 _ hu hf hi hr6) ?_)))))))
 intro v17 B17 hle17
 rintro ⟨p117,d117,p217,d217,p317,d317,rfl,hu17,hf17,hi17,hd17⟩
 replace hu:=hu.mono Zg.mono hle17
 replace hf:=hf.mono Zb.mono hle17
 replace hi:=hi.mono Zi.mono hle17
 replace hr6:=hr6.mono Za6.mono hle17
 have hu17n:=hu17.len
 have hf17n:=hf17.len
 have hi17n:=hi17.len
 refine xE (h:=xE (h:=xS [_,_,_,_,_] 2 [_,_,_,_,_] Zav (h:=xA (h:=Zv [_,_,_,_,_] rfl (Zh (ZE (Zs ?_)))))))
 exact Zad .ret (.inl rfl) [_,_] [] rfl ⟨⟨_,rfl,.inr ⟨[_,_,_,_,_],Z1,Zaf 2 rfl rfl rfl,rfl⟩⟩,rfl,trivial⟩ ⟨rfl,_,_,_,_,_,_,rfl,hu17,hf17,hi17,oy⟩
 try simp only [sQ,ne_eq] at k8
 rw [ZhG,if_neg k1,if_neg k2,if_neg k3,if_neg k4,if_neg k5,if_neg k6,if_neg k7,if_neg k8]
 refine Zj (Zz (Zf (Za (xB [] [_,_,_,_,_] [_,_,_,_,_] ZdS ZaW (h:=xS [_,_,_,_,_] 2 [_,_,_,_,_] Zav (h:=xA (h:=Zv [_,_,_,_,_] rfl (Zh ?_))))))))
 exact Zad .ret (.inl rfl) [_,_] [] rfl ⟨⟨_,rfl,.inr ⟨[_,_,_,_,_],Z1,Zaf 2 rfl rfl rfl,rfl⟩⟩,rfl,trivial⟩ ⟨rfl,none,0,none,0,none,0,rfl,SlK.nil,SlK.nil,SlK.nil,by simp [ZaQ]⟩

set_option maxHeartbeats 800000 in
theorem Zrr (q1 q2 q3:Option Addr) (c1 c2 c3:Nat) (x:DHost) (e:DEvent) (he1:e.by_.length≤2000000) (he2:e.owner.length≤2000000) (he3:e.name.length≤2000000) (he4:e.to_.length≤2000000) (he5:e.text.length≤2000000) (hd:x.domain.length≤2000000) (B:Kn) (hu:SlK B q1 c1 3 Zg x.users) (hf:SlK B q2 c2 5 Zb x.folders) (hi:SlK B q3 c3 4 Zi x.queue.items):ZA (pj J) 101 [.agg #[str x.domain,.slice q1 x.users.length c1,.slice q2 x.folders.length c2,.int .i64 x.queue.next,.slice q3 x.queue.items.length c3],.agg #[.int .i64 e.kind,str e.by_,str e.owner,str e.name,str e.to_,str e.text,.int .i64 e.a,.int .i64 e.b]] B [] (fun v B' Ls=>Ls=[]∧∃p1 d1 p2 d2 p3 d3,v = .tuple #[.agg #[str (hDo x e).1.domain,.slice p1 (hDo x e).1.users.length d1,.slice p2 (hDo x e).1.folders.length d2,.int .i64 (hDo x e).1.queue.next,.slice p3 (hDo x e).1.queue.items.length d3],.int .i64 (hDo x e).2]∧SlK B' p1 d1 3 Zg (hDo x e).1.users∧SlK B' p2 d2 5 Zb (hDo x e).1.folders∧SlK B' p3 d3 4 Zi (hDo x e).1.queue.items∧(hDo x e).1.domain.length≤2000000):=by
 refine Zc 25 Tryz.func101 rfl rfl rfl (Nat.le_of_ble_eq_true rfl) ?_
 have hun:=hu.len
 have hfn:=hf.len
 have hin:=hi.len
 refine Za (xBx [_,_,_,_,_] (h:=fun b1=>xBx [_,_,_,_,_,_,_,_] (h:=fun b2=>xAl [_,_,_,_,_] ZaW (h:=fun b3=>xA (h:=Zv [_,_,_] rfl (Zl (Za (xL [_,_,_,_,_] Z1 0 (h:=xR Zrc rfl (ZbF _ _ _ _ _ _ x om2 _ hu hf hi) (h:=?_))))))))))
 refine xN (h:=Zd rfl (fun g1=>?_) (fun g1=>?_))
 try simp only [sQ,ne_eq] at g1
 rw [hDo,if_pos g1]
 refine Za (xB [] [_,_,_,_,_] [_,_,_,_,_] ZdS ZaW (h:=xS [_,_,_,_,_] 2 [_,_,_,_,_] Zav (h:=xA (h:=Zv [_,_,_] rfl (Zh (Zs ?_))))))
 exact Zad .ret (.inl rfl) [_,_] [] rfl ⟨⟨_,rfl,.inr ⟨[_,_,_,_,_],Z1,Zaf 2 rfl rfl rfl,rfl⟩⟩,rfl,trivial⟩ ⟨rfl,none,0,none,0,none,0,rfl,SlK.nil,SlK.nil,SlK.nil,by simp [ZaQ]⟩
 try simp only [sQ,ne_eq] at g1
 have hnn : ¬ ZJ x=false:=by simpa using g1
 refine Zj (Zf (Za (xL [_,_,_,_,_] Z1 0 (h:=xL [_,_,_,_,_,_,_,_] ZtD 1 (h:=Zo (ZaG rfl rfl Zxa rfl (Zvn _ _ _ _ _ _ x e om2 om2 om2 om2 om2 om2 _ hu hf hi) ?_))))))
 intro v5 B5 hle5
 rintro ⟨p15,d15,p25,d25,p35,d35,rfl,hu5,hf5,hi5,hd5⟩
 replace hu:=hu.mono Zg.mono hle5
 replace hf:=hf.mono Zb.mono hle5
 replace hi:=hi.mono Zi.mono hle5
 have hu5n:=hu5.len
 have hf5n:=hf5.len
 have hi5n:=hi5.len
 refine xM (h:=xE (h:=xE (h:=xAl [_,_,_,_,_] ZaW (h:=fun b6=>xS [_,_,_,_,_] 3 [_,_,_,_,_] Zav (h:=xA (h:=Zv [_,_,_,_] rfl (Zl (Za (xM (h:=ZI (h:=Zd rfl (fun g2=>?_) (fun g2=>?_))))))))))))
 try simp only [sQ,ne_eq] at g2
 refine Za (xL [_,_,_,_,_] Z1 0 (h:=Zo (Zaa rfl rfl ZnQ rfl (Zbe _ _ _ _ _ _ x _ hu hf hi) ?_)))
 rintro _ B7 _ hle7 ⟨l7,a7,c7,q17,c17,q37,c37,rfl,rfl,hu7,hs7,hi7⟩
 replace hu:=hu.mono Zg.mono hle7
 replace hf:=hf.mono Zb.mono hle7
 replace hi:=hi.mono Zi.mono hle7
 replace hu5:=hu5.mono Zg.mono hle7
 replace hf5:=hf5.mono Zb.mono hle7
 replace hi5:=hi5.mono Zi.mono hle7
 have hu7n:=hu7.len
 have hi7n:=hi7.len
 refine Z5 4 rfl hs7 Zb.mono om3 (fun B8 hle8 hr8=>?_)
 replace hu:=hu.mono Zg.mono hle8
 replace hf:=hf.mono Zb.mono hle8
 replace hi:=hi.mono Zi.mono hle8
 replace hu7:=hu7.mono Zg.mono hle8
 replace hi7:=hi7.mono Zi.mono hle8
 replace hu5:=hu5.mono Zg.mono hle8
 replace hf5:=hf5.mono Zb.mono hle8
 replace hi5:=hi5.mono Zi.mono hle8
 have hr8n:=hr8.len
 refine xM (h:=?_)
 rw [hDo,if_neg hnn,if_pos g2]
 refine xS [_,_,_,_,_] 2 [_,_,_,_,_] Zav (h:=xA (h:=Zv [_,_,_,_,_] rfl (Zh (Zs ?_))))
 exact Zad .ret (.inl rfl) [_,_] [] rfl ⟨⟨_,rfl,.inr ⟨[_,_,_,_,_],Z1,Zaf 2 rfl rfl rfl,rfl⟩⟩,rfl,trivial⟩ ⟨rfl,_,_,_,_,_,_,(by rw [g2];rfl),hu7,hr8,hi7,by first | assumption | (rw [ZU.2.2.1];assumption)⟩
 try simp only [sQ,ne_eq] at g2
 rw [hDo,if_neg hnn,if_neg g2]
 refine Zj (Zf (Za (xL [_,_,_,_,_] Z1 3 (h:=xM (h:=xS [_,_,_,_,_] 2 [_,_,_,_,_] Zav (h:=xA (h:=Zv [_,_,_,_] rfl (Zh ?_))))))))
 exact Zad .ret (.inl rfl) [_,_] [] rfl ⟨⟨_,rfl,.inr ⟨[_,_,_,_,_],Z1,Zaf 2 rfl rfl rfl,rfl⟩⟩,rfl,trivial⟩ ⟨rfl,_,_,_,_,_,_,(by first | rfl | (simp only [DHost.withFolders,List.length_set];rfl)),hu5,hf5,hi5,by first | assumption | (rw [ZU.2.2.1];assumption)⟩

set_option maxHeartbeats 400000 in
theorem Ztx (b:Nat) (q:Option Addr) (m cp p:Nat) (q1:Option Addr) (c1:Nat) (ls:List Str) (hp:p≤900000000000) (hn:1≤ls.length) (hn2:ls.length≤1000000000000) (hm:m≤2000) (B:Kn) (hbm:Zat B q m) (hl:SlK B q1 c1 1 Zaz ls):Ex1 (pj J) 69 [ptr ⟨b,0,none⟩,.slice q1 ls.length c1] B (rd b q m cp p) (fun v s=>∃x,x∈ls∧v=str x∧s=rd b q m cp (p+1)):=by
 refine Zc 12 Tryz.func69 rfl rfl rfl (Nat.le_of_ble_eq_true rfl) ?_
 refine Za (xA (h:=Za (xM (h:=xM (h:=xM (h:=xV Tryz.underlying39 (h:=xX 0 rfl Za9 rfl (ZP _ _ _ _ _ _ oz oz oz hm _ hbm) (h:=?_))))))))
 rintro _ _ ⟨rk,rfl,rka,rkb,rfl⟩
 obtain ⟨z,hz⟩:=ZeP (xs:=ls) (i:=rk) om om
 obtain ⟨bb3,oo3,rfl⟩:=hl.base hz
 obtain ⟨_,⟨rfl,hb4⟩,hc4⟩:=hl.elem hz
 refine xIx Tryz.underlying39 sz9 (h:=y1 lk9 hc4 0 (h:=xA (h:=Zv [_] rfl (Zh ?_))))
 exact ZiT .ret (.inl rfl) [_] 0 rfl t1 ⟨rfl,_,rfl,z,List.mem_of_getElem? hz,rfl,rfl⟩

set_option maxHeartbeats 400000 in
theorem Zin (b:Nat) (q:Option Addr) (m cp p:Nat) (hp:p≤850000000000) (hm:m≤2000) (B:Kn) (hbm:Zat B q m):Ex1 (pj J) 157 [ptr ⟨b,0,none⟩] B (rd b q m cp p) (fun v s=>∃(z:Int) (k:Nat),v = .int .i64 z∧-1≤z∧z≤80∧k≤p+3∧s=rd b q m cp k):=by
 refine Zc 17 Tryz.func157 rfl rfl rfl (Nat.le_of_ble_eq_true rfl) ?_
 refine Za (xA (h:=Zl (Za (xM (h:=xX 0 rfl Za9 rfl (ZP _ _ _ _ _ _ oz oz oz hm _ hbm) (h:=?_))))))
 rintro _ _ ⟨r1,rfl,r1a,r1b,rfl⟩
 refine ZI (h:=Zv [_] rfl (Zd rfl (fun g1=>?_) (fun g1=>?_)))
 try simp only [sQ,ne_eq] at g1
 refine Za (xBs [(0,_),(1,_),(2,_),(3,_)] [_,_,_,_] Tryz.underlying171 sz3 zo3 (h:=fun b2=>?_))
 have hvq3:Z2 B (ZaE b2 (([(-1),0,63,64]:List Int).map fun x=>.int .i64 x) 3) (some ⟨b2,0,none⟩) 4 3 1 Zbz ([(-1),0,63,64]:List Int):=Z2.ints
 refine xM (h:=xX 0 rfl Za9 rfl (ZP _ _ _ _ _ _ oz oz oz hm _ hbm) (h:=?_))
 rintro _ _ ⟨r4,rfl,r4a,r4b,rfl⟩
 obtain ⟨e,he⟩:=ZeP (xs:=([(-1),0,63,64]:List Int)) (i:=r4) om om
 obtain ⟨bb6,_,hp6,rfl,hw6,hc6⟩:=hvq3.row he
 refine xIp hp6 Tryz.underlying171 sz3 (h:=?_)
 have hme:=List.mem_of_getElem? he
 refine Zo (Zn rfl rfl lk3 rfl (hc6 _ 1 rfl 0 _ rfl) (xA (h:=Zv [_,_] rfl (Zh (Zs ?_)))))
 exact ZiT .ret (.inl rfl) [_] 0 rfl t1 ⟨rfl,_,rfl,e,_,rfl,by simp only [List.mem_cons,List.not_mem_nil,or_false] at hme;omega,by simp only [List.mem_cons,List.not_mem_nil,or_false] at hme;omega,oz,rfl⟩
 try simp only [sQ,ne_eq] at g1
 refine Zj (Zf (Za (xM (h:=xX 0 rfl Za9 rfl (ZP _ _ _ _ _ _ oz oz oz hm _ hbm) (h:=?_)))))
 rintro _ _ ⟨r7,rfl,r7a,r7b,rfl⟩
 refine xY (h:=xM (h:=xX 0 rfl Za9 rfl (ZP _ _ _ _ _ _ oz oz oz hm _ hbm) (h:=?_)))
 rintro _ _ ⟨r8,rfl,r8a,r8b,rfl⟩
 refine xD (h:=xA (h:=Zv [_] rfl (Zh ?_)))
 exact ZiT .ret (.inl rfl) [_] 0 rfl t1 ⟨rfl,_,rfl,_,_,rfl,oz,oz,oz,rfl⟩

set_option maxHeartbeats 1600000 in
theorem Zou (b:Nat) (q:Option Addr) (m cp p:Nat) (hp:p≤750000000000) (hm:m≤2000) (q1 q2 q3:Option Addr) (d1 d2 d3:Nat) (x:DHost) (hleft :∀y,y∈x.queue.items→0<y.left.length) (B:Kn) (hbm:Zat B q m) (hi:SlK B q3 d3 4 Zi x.queue.items):ZA (pj J) 102 [ptr ⟨b,0,none⟩,.agg #[str x.domain,.slice q1 x.users.length d1,.slice q2 x.folders.length d2,.int .i64 x.queue.next,.slice q3 x.queue.items.length d3]] B [rd b q m cp p] (fun v B' Ls=>∃(e:DEvent) (k:Nat),v = .agg #[.int .i64 e.kind,str e.by_,str e.owner,str e.name,str e.to_,str e.text,.int .i64 e.a,.int .i64 e.b]∧e.by_.length≤40∧e.owner.length≤40∧e.name.length≤40∧e.to_.length≤2000000∧e.text.length≤40∧k≤p+60∧Ls=[rd b q m cp k]):=by
 refine Zc 148 Tryz.func102 rfl rfl rfl (Nat.le_of_ble_eq_true rfl) ?_
 have hin:=hi.len
 refine Za (xBx [_,_,_,_,_] (h:=fun b1=>xAl [_,_,_,_,_,_,_,_] Zs5 (h:=fun b2=>Zv [_,_,_] rfl (Za (xBs [(0,_),(1,_),(2,_)] [_,_,_] Tryz.underlying39 sz9 zo9 (h:=fun b3=>xA (h:=Zv [_,_,_,_] rfl (Za (Z5 3 rfl (Z2.strs (ls:=([[97,109,121],[98,111,98],[99,121,100]]:List Str)) (by first | decide | (simp;done) | (simp;omega))) Zaz.mono om3 (fun B4 hle4 hr4=>?_))))))))))
 replace hi:=hi.mono Zi.mono hle4
 replace hbm:=hbm.mono hle4
 have hr4n:=hr4.len
 refine xM (h:=xM (h:=xX 0 rfl ZoP rfl (Ztx _ _ _ _ _ _ _ ([[97,109,121],[98,111,98],[99,121,100]]:List Str) oz (by decide) (by decide) hm _ hbm hr4) (h:=?_)))
 rintro _ _ ⟨x5,hx5,rfl,rfl⟩
 replace hx5:=(show∀y∈(([[97,109,121],[98,111,98],[99,121,100]]:List Str):List Str),y.length≤40 from by decide) _ hx5
 refine xM (h:=xM (h:=xX 0 rfl ZoP rfl (Ztx _ _ _ _ _ _ _ ([[97,109,121],[98,111,98],[99,121,100]]:List Str) oz (by decide) (by decide) hm _ hbm hr4) (h:=?_)))
 rintro _ _ ⟨x6,hx6,rfl,rfl⟩
 replace hx6:=(show∀y∈(([[97,109,121],[98,111,98],[99,121,100]]:List Str):List Str),y.length≤40 from by decide) _ hx6
 refine xM (h:=xBs [(0,_),(1,_),(2,_),(3,_)] [_,_,_,_] Tryz.underlying39 sz9 zo9 (h:=fun b7=>Zo (Z4 [0,4] rfl rfl rfl rfl ZoP rfl (Zrb _ _ _ _ _ _ ([[105,110,98,111,120],[105,110,98,111,120],[98,111,120,49],[120]]:List Str) oz (by decide) (by decide) hm _ hbm) ?_)))
 rintro _ B8 _ hle8 ⟨rfl,x8,hx8,rfl,rfl⟩
 replace hx8:=(show∀y∈( ([[105,110,98,111,120],[105,110,98,111,120],[98,111,120,49],[120]]:List Str):List Str),y.length≤40 from by decide) _ hx8
 refine xM (h:=xM (h:=xX 0 rfl ZoP rfl (Ztx _ _ _ _ _ _ _ ([[97,109,121],[98,111,98],[99,121,100]]:List Str) oz (by decide) (by decide) hm _ hbm hr4) (h:=?_)))
 rintro _ _ ⟨x9,hx9,rfl,rfl⟩
 replace hx9:=(show∀y∈(([[97,109,121],[98,111,98],[99,121,100]]:List Str):List Str),y.length≤40 from by decide) _ hx9
 refine xM (h:=xX 0 rfl Zvt rfl (Ze2 _ _ _ _ _ oz hm _ hbm) (h:=?_))
 rintro _ _ ⟨x10,rfl,hx10,rfl⟩
 refine xB [(1,_),(2,_),(3,_),(4,_),(5,_)] [_,_,_,_,_,_,_,_] [_,_,_,_,_,_,_,_] Zwz Zs5 (h:=xAl [_,_,_,_,_,_,_,_] Zs5 (h:=fun b11=>xS [_,_,_,_,_,_,_,_] 5 [_,_,_,_,_,_,_,_] Zu2 (h:=Zv [_,_,_,_,_,_] rfl (ZkO (α:=DEvent × Nat) [0,1,3,4,5,6] (fun g=>[]) [0,5] (fun g=>[rd b q m cp g.2,ZaE b11 [.int .i64 g.1.kind,str g.1.by_,str g.1.owner,str g.1.name,str g.1.to_,str g.1.text,.int .i64 g.1.a,.int .i64 g.1.b] 148]) (fun g=>[]) (fun g Bx=>g.1.by_.length≤40∧g.1.owner.length≤40∧g.1.name.length≤40∧g.1.to_.length≤2000000∧g.1.text.length≤40∧g.2≤p+7) ?_ (fun g B12 hle12 hF=>?_)))))
 refine Za (xM (h:=xX 0 rfl Za9 rfl (ZP _ _ _ _ _ _ oz oz oz hm _ hbm) (h:=?_)))
 rintro _ _ ⟨r13,rfl,r13a,r13b,rfl⟩
 refine ZbM (h:=Zv [_,_,_,_,_,_] rfl (Zd rfl (fun e1=>?_) (fun e1=>?_)))
 try simp only [sQ,ne_eq] at e1
 refine Ze (xW ZfU (h:=x1 lk9 5 (h:=xW Zkz (h:=xS [_] 5 [_,_,_,_,_,_,_,_] sz9 (h:=?_)))))
 exact ZK ⟨⟨0,x5,x5,x8,x9,x10,0,0⟩,((((((p+1)+1)+1)+1)+2)+1)⟩ [0,1,2,3,4,5] ⟨ob,ob,ob,ob,ob,ob⟩ t6 rfl
 try simp only [sQ,ne_eq] at e1
 refine Zj ?_
 exact ZK ⟨⟨0,x5,x6,x8,x9,x10,0,0⟩,((((((p+1)+1)+1)+1)+2)+1)⟩ [0,1,2,3,4,5] ⟨ob,ob,ob,ob,ob,ob⟩ t6 rfl
 obtain ⟨hg1,hg2,hg3,hg4,hg5,hgp⟩:=hF
 replace hi:=hi.mono Zi.mono hle12
 replace hr4:=hr4.mono Zaz.mono hle12
 replace hbm:=hbm.mono hle12
 refine ZO [(0,_),(1,_),(3,_),(4,_),(5,_),(6,_)] [_,_,_,_,_,_] t6 rfl (ZkO (α:=DEvent × Nat) [0,1,3,4,5,6] (fun j=>[]) [0,5] (fun j=>[rd b q m cp j.2,ZaE b11 [.int .i64 j.1.kind,str j.1.by_,str j.1.owner,str j.1.name,str j.1.to_,str j.1.text,.int .i64 j.1.a,.int .i64 j.1.b] 148]) (fun j=>[]) (fun j Bx=>j.1.by_.length≤40∧j.1.owner.length≤40∧j.1.name.length≤40∧j.1.to_.length≤2000000∧j.1.text.length≤40∧j.2≤p+20) ?_ (fun j B14 hle14 hF=>?_))
 refine Za (xM (h:=xX 0 rfl Za9 rfl (ZP _ _ _ _ _ _ oz oz oz hm _ hbm) (h:=?_)))
 rintro _ _ ⟨rk,rfl,rka,rkb,rfl⟩
 refine Zv [_,_,_,_,_,_] rfl (Zp (Za (ZI (h:=xA (h:=Zd rfl (fun a0=>?_) (fun a0=>?_))))))
 try simp only [sQ,ne_eq] at a0
 refine Ze (xW Zb5 (h:=xS [_] 5 [_,_,_,_,_,_,_,_] sz3 (h:=Zz ?_)))
 exact ZK ⟨⟨1,g.1.by_,g.1.owner,g.1.name,g.1.to_,g.1.text,g.1.a,g.1.b⟩,(g.2+1)⟩ [0,1,2,3,4,5] ⟨ob,ob,ob,ob,ob,ob⟩ t6 rfl
 try simp only [sQ,ne_eq] at a0
 refine Zl (Za (ZI (h:=xA (h:=Zd rfl (fun a1=>?_) (fun a1=>?_)))))
 try simp only [sQ,ne_eq] at a1
 refine Zj (Zf (Zd rfl (fun a1t=>?_) (fun a1t=>by simp [a1] at a1t)))
 try simp only [sQ,ne_eq] at a1t
 refine Za (xW Zb5 (h:=xS [_] 5 [_,_,_,_,_,_,_,_] sz3 (h:=Zv [_,_,_,_,_,_] rfl (Za (xM (h:=xX 0 rfl Zvz rfl (Zin _ _ _ _ _ oz hm _ hbm) (h:=?_)))))))
 rintro _ _ ⟨z16,k16,rfl,hz16,hz16b,hk16,rfl⟩
 refine xW Zbv (h:=xS [_] 5 [_,_,_,_,_,_,_,_] sz3 (h:=Zv [_,_,_,_,_,_] rfl (Za (xM (h:=xX 0 rfl Za9 rfl (ZP _ _ _ _ _ _ oz oz oz hm _ hbm) (h:=?_))))))
 rintro _ _ ⟨r17,rfl,r17a,r17b,rfl⟩
 refine ZI (h:=Zv [_,_,_,_,_,_] rfl (Zd rfl (fun b1=>?_) (fun b1=>?_)))
 try simp only [sQ,ne_eq] at b1
 refine Ze (xW Zd3 (h:=xS [_] 5 [_,_,_,_,_,_,_,_] sz9 (h:=Zz ?_)))
 exact ZK ⟨⟨2,g.1.by_,g.1.owner,g.1.name,[97,110,121,111,110,101],g.1.text,z16,g.1.b⟩,(k16+1)⟩ [0,1,2,3,4,5] ⟨ob,ob,ob,ob,ob,ob⟩ t6 rfl
 try simp only [sQ,ne_eq] at b1
 refine Zj (Zz ?_)
 exact ZK ⟨⟨2,g.1.by_,g.1.owner,g.1.name,g.1.to_,g.1.text,z16,g.1.b⟩,(k16+1)⟩ [0,1,2,3,4,5] ⟨ob,ob,ob,ob,ob,ob⟩ t6 rfl
 try simp only [sQ,ne_eq] at a1
 refine Ze (ZI (h:=xA (h:=Zf (Zd rfl (fun a2=>?_) (fun a2=>?_)))))
 try simp only [sQ,ne_eq] at a2
 refine Za (xW Zb5 (h:=xS [_] 5 [_,_,_,_,_,_,_,_] sz3 (h:=Zv [_,_,_,_,_,_] rfl (Za (xM (h:=xX 0 rfl Zvz rfl (Zin _ _ _ _ _ oz hm _ hbm) (h:=?_)))))))
 rintro _ _ ⟨z18,k18,rfl,hz18,hz18b,hk18,rfl⟩
 refine xW Zbv (h:=xS [_] 5 [_,_,_,_,_,_,_,_] sz3 (h:=Zv [_,_,_,_,_,_] rfl (Za (xM (h:=xX 0 rfl Za9 rfl (ZP _ _ _ _ _ _ oz oz oz hm _ hbm) (h:=?_))))))
 rintro _ _ ⟨r19,rfl,r19a,r19b,rfl⟩
 refine ZI (h:=Zv [_,_,_,_,_,_] rfl (Zd rfl (fun b1=>?_) (fun b1=>?_)))
 try simp only [sQ,ne_eq] at b1
 refine Ze (xW Zd3 (h:=xS [_] 5 [_,_,_,_,_,_,_,_] sz9 (h:=Zz ?_)))
 exact ZK ⟨⟨2,g.1.by_,g.1.owner,g.1.name,[97,110,121,111,110,101],g.1.text,z18,g.1.b⟩,(k18+1)⟩ [0,1,2,3,4,5] ⟨ob,ob,ob,ob,ob,ob⟩ t6 rfl
 try simp only [sQ,ne_eq] at b1
 refine Zj (Zz ?_)
 exact ZK ⟨⟨2,g.1.by_,g.1.owner,g.1.name,g.1.to_,g.1.text,z18,g.1.b⟩,(k18+1)⟩ [0,1,2,3,4,5] ⟨ob,ob,ob,ob,ob,ob⟩ t6 rfl
 try simp only [sQ,ne_eq] at a2
 refine Zl (Za (ZI (h:=xA (h:=Zd rfl (fun a3=>?_) (fun a3=>?_)))))
 try simp only [sQ,ne_eq] at a3
 refine Zj (Zf (Zd rfl (fun a3t=>?_) (fun a3t=>by simp [a3] at a3t)))
 try simp only [sQ,ne_eq] at a3t
 refine Za (xW Zb5 (h:=xS [_] 5 [_,_,_,_,_,_,_,_] sz3 (h:=Zv [_,_,_,_,_,_] rfl (Ze (xM (h:=xX 0 rfl Za9 rfl (ZP _ _ _ _ _ _ oz oz oz hm _ hbm) (h:=?_)))))))
 rintro _ _ ⟨r20,rfl,r20a,r20b,rfl⟩
 refine xW Zbv (h:=xS [_] 5 [_,_,_,_,_,_,_,_] sz3 (h:=Zz ?_))
 exact ZK ⟨⟨3,g.1.by_,g.1.owner,g.1.name,g.1.to_,g.1.text,r20,g.1.b⟩,((g.2+1)+1)⟩ [0,1,2,3,4,5] ⟨ob,ob,ob,ob,ob,ob⟩ t6 rfl
 try simp only [sQ,ne_eq] at a3
 refine Za (ZI (h:=xA (h:=Zd rfl (fun a4=>?_) (fun a4=>?_))))
 try simp only [sQ,ne_eq] at a4
 refine Zj (Zf (Zd rfl (fun a4t=>?_) (fun a4t=>by simp [a4] at a4t)))
 try simp only [sQ,ne_eq] at a4t
 refine Za (xW Zb5 (h:=xS [_] 5 [_,_,_,_,_,_,_,_] sz3 (h:=Zv [_,_,_,_,_,_] rfl (Ze (xM (h:=xX 0 rfl Za9 rfl (ZP _ _ _ _ _ _ oz oz oz hm _ hbm) (h:=?_)))))))
 rintro _ _ ⟨r21,rfl,r21a,r21b,rfl⟩
 refine xW Zbv (h:=xS [_] 5 [_,_,_,_,_,_,_,_] sz3 (h:=Zz ?_))
 exact ZK ⟨⟨3,g.1.by_,g.1.owner,g.1.name,g.1.to_,g.1.text,r21,g.1.b⟩,((g.2+1)+1)⟩ [0,1,2,3,4,5] ⟨ob,ob,ob,ob,ob,ob⟩ t6 rfl
 try simp only [sQ,ne_eq] at a4
 refine Ze (ZI (h:=xA (h:=Zf (Zd rfl (fun a5=>?_) (fun a5=>?_)))))
 try simp only [sQ,ne_eq] at a5
 refine Za (xW Zb5 (h:=xS [_] 5 [_,_,_,_,_,_,_,_] sz3 (h:=Zv [_,_,_,_,_,_] rfl (Ze (xM (h:=xX 0 rfl Za9 rfl (ZP _ _ _ _ _ _ oz oz oz hm _ hbm) (h:=?_)))))))
 rintro _ _ ⟨r22,rfl,r22a,r22b,rfl⟩
 refine xW Zbv (h:=xS [_] 5 [_,_,_,_,_,_,_,_] sz3 (h:=Zz ?_))
 exact ZK ⟨⟨3,g.1.by_,g.1.owner,g.1.name,g.1.to_,g.1.text,r22,g.1.b⟩,((g.2+1)+1)⟩ [0,1,2,3,4,5] ⟨ob,ob,ob,ob,ob,ob⟩ t6 rfl
 try simp only [sQ,ne_eq] at a5
 refine Zl (Za (ZI (h:=xA (h:=Zd rfl (fun a6=>?_) (fun a6=>?_)))))
 try simp only [sQ,ne_eq] at a6
 refine Zj (Zf (Zd rfl (fun a6t=>?_) (fun a6t=>by simp [a6] at a6t)))
 try simp only [sQ,ne_eq] at a6t
 refine Ze (xW Zb5 (h:=xS [_] 5 [_,_,_,_,_,_,_,_] sz3 (h:=Zz ?_)))
 exact ZK ⟨⟨4,g.1.by_,g.1.owner,g.1.name,g.1.to_,g.1.text,g.1.a,g.1.b⟩,(g.2+1)⟩ [0,1,2,3,4,5] ⟨ob,ob,ob,ob,ob,ob⟩ t6 rfl
 try simp only [sQ,ne_eq] at a6
 refine Ze (ZI (h:=xA (h:=Zf (Zd rfl (fun a7=>?_) (fun a7=>?_)))))
 try simp only [sQ,ne_eq] at a7
 refine Ze (xW Zb5 (h:=xS [_] 5 [_,_,_,_,_,_,_,_] sz3 (h:=Zz ?_)))
 exact ZK ⟨⟨4,g.1.by_,g.1.owner,g.1.name,g.1.to_,g.1.text,g.1.a,g.1.b⟩,(g.2+1)⟩ [0,1,2,3,4,5] ⟨ob,ob,ob,ob,ob,ob⟩ t6 rfl
 try simp only [sQ,ne_eq] at a7
 refine Zl (Za (ZI (h:=xA (h:=Zd rfl (fun a8=>?_) (fun a8=>?_)))))
 try simp only [sQ,ne_eq] at a8
 refine Zj (Zf (Zd rfl (fun a8t=>?_) (fun a8t=>by simp [a8] at a8t)))
 try simp only [sQ,ne_eq] at a8t
 refine Za (xW Zb5 (h:=xS [_] 5 [_,_,_,_,_,_,_,_] sz3 (h:=Zv [_,_,_,_,_,_] rfl (Za (xM (h:=xX 0 rfl Za9 rfl (ZP _ _ _ _ _ _ oz oz oz hm _ hbm) (h:=?_)))))))
 rintro _ _ ⟨r23,rfl,r23a,r23b,rfl⟩
 refine xD (h:=xW Zbv (h:=xS [_] 5 [_,_,_,_,_,_,_,_] sz3 (h:=Zv [_,_,_,_,_,_] rfl (Za (xW Zbg (h:=xW Zap (h:=x1 Zd7 1 (h:=xV Tryz.underlying25 (h:=ZbM (h:=xM (h:=Zt (d:=71) rfl (fun d1=>?_) (fun d1=>?_))))))))))))
 try simp only [sQ,ne_eq] at d1
 refine xM (h:=xX 0 rfl Za9 rfl (ZP _ _ _ _ _ _ oz oz oz hm _ hbm) (h:=?_))
 rintro _ _ ⟨r24,rfl,r24a,r24b,rfl⟩
 refine ZbM (h:=xT (h:=Zv [_,_,_,_,_,_] rfl (Zd rfl (fun d2=>?_) (fun d2=>?_))))
 try simp only [sQ,ne_eq] at d2
 refine Zl (Z8 (keeps _ [1] _) mo kr ⟨Kn.le.refl _,Zam.refl _ _⟩ (fun _ _=>?_))
 refine aW 0 rfl Zbg (h:=aW 1 rfl Zap (h:=aT 2 rfl (ZG fun D B L hI=>Zn rfl rfl Zd7 rfl (atL 1 (hI.2.1.trans rfl) rfl rfl) r4) (h:=aM 3 rfl (h:=aW 4 rfl Zbg (h:=aW 5 rfl Zap (h:=aT 6 rfl (ZG fun D B L hI=>Zn rfl rfl Zd7 rfl (atL 1 (hI.2.1.trans rfl) rfl rfl) r4) (h:=aV 7 rfl Tryz.underlying25 (h:=Zaq [8,11] kr kr kr ⟨?_,?_⟩))))))))
 refine (ZcH 0 rfl rfl rfl Za9 rfl (ZP _ _ _ _ _ _ oz oz oz hm _ hbm) ?_)
 rintro _ _ ⟨rkd,rfl,rkda,rkdb,rfl⟩
 refine ⟨⟨Kn.le.refl _,t1⟩,?_⟩
 obtain ⟨w,hw⟩:=ZeP (xs:=x.queue.items) (i:=rkd) om om
 obtain ⟨bb27,oo27,rfl⟩:=hi.base hw
 obtain ⟨_,⟨qi28,ci28,rfl,hi28,hb28,hb28b⟩,hc28⟩:=hi.elem hw
 have hi28n:=hi28.len
 refine aIx 9 rfl Tryz.underlying25 Zde (h:=?_)
 have hwl:=hleft w (List.mem_of_getElem? hw)
 refine aT 10 rfl (ZG fun D B L hI=>Z6 [_,_,_,_] rfl rfl ZhB rfl (Zid (hc28.mono hI.1) 0 rfl rfl) r4) (h:=Zu 11 kr rfl kr (Zao (l:=[_,_,_,_]) rfl rfl ZfD rfl (fun b29=>?_)))
 refine ⟨⟨Kn.le.refl _,t1⟩,(ZV 12 kr rfl kr kr kr (ZN [_,_,_,_] 6 [_,_,_,_] rfl rfl Zde rfl rfl rfl rfl rfl rfl rfl rfl ?_))⟩
 refine Zf (Zv [_,_,_,_,_,_,_] rfl (Za (xW Zel (h:=x1 lk3 6 (h:=xW Zbv (h:=xS [_] 5 [_,_,_,_,_,_,_,_] sz3 (h:=Zv [_,_,_,_,_,_,_] rfl (Z8 (keeps _ [5,6] _) mo kr ⟨Kn.le.refl _,Zam.refl _ _⟩ (fun _ _=>?_)))))))))
 refine aW 0 rfl Zbo (h:=aT 1 rfl (ZG fun D B L hI=>Zn rfl rfl ZfP rfl (atL 6 (hI.2.2.1.trans rfl) rfl rfl) r4) (h:=aM 2 rfl (h:=aW 3 rfl Zbo (h:=aT 4 rfl (ZG fun D B L hI=>Zn rfl rfl ZfP rfl (atL 6 (hI.2.2.1.trans rfl) rfl rfl) r4) (h:=aV 5 rfl Tryz.underlying39 (h:=Zu 6 kr rfl kr (ZcH 0 rfl rfl rfl Za9 rfl (ZP _ _ _ _ _ _ oz oz oz hm _ hbm) ?_)))))))
 rintro _ _ ⟨rke,rfl,rkea,rkeb,rfl⟩
 refine ⟨⟨Kn.le.refl _,t2⟩,?_⟩
 obtain ⟨ws,hws⟩:=ZeP (xs:=w.left) (i:=rke) om om
 obtain ⟨bb32,oo32,rfl⟩:=hi28.base hws
 obtain ⟨_,⟨rfl,hb33⟩,hc33⟩:=hi28.elem hws
 refine aIx 7 rfl Tryz.underlying39 sz9 (h:=aT 8 rfl (ZG fun D B L hI=>Zn rfl rfl lk9 rfl ((hc33.mono hI.1) _ 0 _ rfl) r4) (h:=aW 9 rfl Zd3 (h:=ZV 10 kr rfl kr kr kr (ZN [_] 5 [_,_,_,_,_,_,_,_] rfl rfl sz9 rfl rfl rfl rfl rfl rfl rfl rfl ?_))))
 refine Zz ?_
 exact ZK ⟨⟨5,g.1.by_,g.1.owner,g.1.name,ws,g.1.text,w.id,g.1.b⟩,(((((g.2+1)+1)+1)+1)+1)⟩ [0,1,2,3,4,5] ⟨ob,ob,ob,ob,ob,ob⟩ t6 rfl
 refine (Zao (l:=[_,_,_,_]) rfl rfl ZfD rfl (fun b34=>⟨⟨Kn.le.refl _,t1⟩,(Zu 8 kr rfl kr (ZcH 0 rfl rfl rfl Za9 rfl (ZP _ _ _ _ _ _ oz oz oz hm _ hbm) ?_))⟩))
 rintro _ _ ⟨rkd,rfl,rkda,rkdb,rfl⟩
 refine ⟨⟨Kn.le.refl _,t1⟩,?_⟩
 obtain ⟨w,hw⟩:=ZeP (xs:=x.queue.items) (i:=rkd) om om
 obtain ⟨bb37,oo37,rfl⟩:=hi.base hw
 obtain ⟨_,⟨qi38,ci38,rfl,hi38,hb38,hb38b⟩,hc38⟩:=hi.elem hw
 have hi38n:=hi38.len
 refine aIx 9 rfl Tryz.underlying25 Zde (h:=?_)
 have hwl:=hleft w (List.mem_of_getElem? hw)
 refine aT 10 rfl (ZG fun D B L hI=>Z6 [_,_,_,_] rfl rfl ZhB rfl (Zid (hc38.mono hI.1) 0 rfl rfl) r4) (h:=ZV 12 kr rfl kr kr kr (ZN [_,_,_,_] 6 [_,_,_,_] rfl rfl Zde rfl rfl rfl rfl rfl rfl rfl rfl ?_))
 refine Zf (Zv [_,_,_,_,_,_,_] rfl (Za (xW Zel (h:=x1 lk3 6 (h:=xW Zbv (h:=xS [_] 5 [_,_,_,_,_,_,_,_] sz3 (h:=Zv [_,_,_,_,_,_,_] rfl (Z8 (keeps _ [5,6] _) mo kr ⟨Kn.le.refl _,Zam.refl _ _⟩ (fun _ _=>?_)))))))))
 refine aW 0 rfl Zbo (h:=aT 1 rfl (ZG fun D B L hI=>Zn rfl rfl ZfP rfl (atL 6 (hI.2.2.1.trans rfl) rfl rfl) r4) (h:=aM 2 rfl (h:=aW 3 rfl Zbo (h:=aT 4 rfl (ZG fun D B L hI=>Zn rfl rfl ZfP rfl (atL 6 (hI.2.2.1.trans rfl) rfl rfl) r4) (h:=aV 5 rfl Tryz.underlying39 (h:=Zu 6 kr rfl kr (ZcH 0 rfl rfl rfl Za9 rfl (ZP _ _ _ _ _ _ oz oz oz hm _ hbm) ?_)))))))
 rintro _ _ ⟨rke,rfl,rkea,rkeb,rfl⟩
 refine ⟨⟨Kn.le.refl _,t2⟩,?_⟩
 obtain ⟨ws,hws⟩:=ZeP (xs:=w.left) (i:=rke) om om
 obtain ⟨bb41,oo41,rfl⟩:=hi38.base hws
 obtain ⟨_,⟨rfl,hb42⟩,hc42⟩:=hi38.elem hws
 refine aIx 7 rfl Tryz.underlying39 sz9 (h:=aT 8 rfl (ZG fun D B L hI=>Zn rfl rfl lk9 rfl ((hc42.mono hI.1) _ 0 _ rfl) r4) (h:=aW 9 rfl Zd3 (h:=ZV 10 kr rfl kr kr kr (ZN [_] 5 [_,_,_,_,_,_,_,_] rfl rfl sz9 rfl rfl rfl rfl rfl rfl rfl rfl ?_))))
 refine Zz ?_
 exact ZK ⟨⟨5,g.1.by_,g.1.owner,g.1.name,ws,g.1.text,w.id,g.1.b⟩,(((((g.2+1)+1)+1)+1)+1)⟩ [0,1,2,3,4,5] ⟨ob,ob,ob,ob,ob,ob⟩ t6 rfl
 try simp only [sQ,ne_eq] at d2
 refine Zj (Zz ?_)
 exact ZK ⟨⟨5,g.1.by_,g.1.owner,g.1.name,g.1.to_,g.1.text,(1+r23),g.1.b⟩,(((g.2+1)+1)+1)⟩ [0,1,2,3,4,5] ⟨ob,ob,ob,ob,ob,ob⟩ t6 rfl
 try simp only [sQ,ne_eq] at d1
 refine xP (h:=xP (h:=xP (h:=xF (h:=Zd (t:=false) rfl (fun h=>Bool.noConfusion h) (fun _=>Zj (Zz ?_))))))
 exact ZK ⟨⟨5,g.1.by_,g.1.owner,g.1.name,g.1.to_,g.1.text,(1+r23),g.1.b⟩,((g.2+1)+1)⟩ [0,1,2,3,4,5] ⟨ob,ob,ob,ob,ob,ob⟩ t6 rfl
 try simp only [sQ,ne_eq] at a8
 refine Ze (ZI (h:=xA (h:=Zf (Zd rfl (fun a9=>?_) (fun a9=>?_)))))
 try simp only [sQ,ne_eq] at a9
 refine Za (xW Zb5 (h:=xS [_] 5 [_,_,_,_,_,_,_,_] sz3 (h:=Zv [_,_,_,_,_,_] rfl (Za (xM (h:=xX 0 rfl Za9 rfl (ZP _ _ _ _ _ _ oz oz oz hm _ hbm) (h:=?_)))))))
 rintro _ _ ⟨r43,rfl,r43a,r43b,rfl⟩
 refine xD (h:=xW Zbv (h:=xS [_] 5 [_,_,_,_,_,_,_,_] sz3 (h:=Zv [_,_,_,_,_,_] rfl (Za (xW Zbg (h:=xW Zap (h:=x1 Zd7 1 (h:=xV Tryz.underlying25 (h:=ZbM (h:=xM (h:=Zt (d:=71) rfl (fun d1=>?_) (fun d1=>?_))))))))))))
 try simp only [sQ,ne_eq] at d1
 refine xM (h:=xX 0 rfl Za9 rfl (ZP _ _ _ _ _ _ oz oz oz hm _ hbm) (h:=?_))
 rintro _ _ ⟨r44,rfl,r44a,r44b,rfl⟩
 refine ZbM (h:=xT (h:=Zv [_,_,_,_,_,_] rfl (Zd rfl (fun d2=>?_) (fun d2=>?_))))
 try simp only [sQ,ne_eq] at d2
 refine Zl (Z8 (keeps _ [1] _) mo kr ⟨Kn.le.refl _,Zam.refl _ _⟩ (fun _ _=>?_))
 refine aW 0 rfl Zbg (h:=aW 1 rfl Zap (h:=aT 2 rfl (ZG fun D B L hI=>Zn rfl rfl Zd7 rfl (atL 1 (hI.2.1.trans rfl) rfl rfl) r4) (h:=aM 3 rfl (h:=aW 4 rfl Zbg (h:=aW 5 rfl Zap (h:=aT 6 rfl (ZG fun D B L hI=>Zn rfl rfl Zd7 rfl (atL 1 (hI.2.1.trans rfl) rfl rfl) r4) (h:=aV 7 rfl Tryz.underlying25 (h:=Zaq [8,11] kr kr kr ⟨?_,?_⟩))))))))
 refine (ZcH 0 rfl rfl rfl Za9 rfl (ZP _ _ _ _ _ _ oz oz oz hm _ hbm) ?_)
 rintro _ _ ⟨rkd,rfl,rkda,rkdb,rfl⟩
 refine ⟨⟨Kn.le.refl _,t1⟩,?_⟩
 obtain ⟨w,hw⟩:=ZeP (xs:=x.queue.items) (i:=rkd) om om
 obtain ⟨bb47,oo47,rfl⟩:=hi.base hw
 obtain ⟨_,⟨qi48,ci48,rfl,hi48,hb48,hb48b⟩,hc48⟩:=hi.elem hw
 have hi48n:=hi48.len
 refine aIx 9 rfl Tryz.underlying25 Zde (h:=?_)
 have hwl:=hleft w (List.mem_of_getElem? hw)
 refine aT 10 rfl (ZG fun D B L hI=>Z6 [_,_,_,_] rfl rfl ZhB rfl (Zid (hc48.mono hI.1) 0 rfl rfl) r4) (h:=Zu 11 kr rfl kr (Zao (l:=[_,_,_,_]) rfl rfl ZfD rfl (fun b49=>?_)))
 refine ⟨⟨Kn.le.refl _,t1⟩,(ZV 12 kr rfl kr kr kr (ZN [_,_,_,_] 6 [_,_,_,_] rfl rfl Zde rfl rfl rfl rfl rfl rfl rfl rfl ?_))⟩
 refine Zf (Zv [_,_,_,_,_,_,_] rfl (Za (xW Zel (h:=x1 lk3 6 (h:=xW Zbv (h:=xS [_] 5 [_,_,_,_,_,_,_,_] sz3 (h:=Zv [_,_,_,_,_,_,_] rfl (Z8 (keeps _ [5,6] _) mo kr ⟨Kn.le.refl _,Zam.refl _ _⟩ (fun _ _=>?_)))))))))
 refine aW 0 rfl Zbo (h:=aT 1 rfl (ZG fun D B L hI=>Zn rfl rfl ZfP rfl (atL 6 (hI.2.2.1.trans rfl) rfl rfl) r4) (h:=aM 2 rfl (h:=aW 3 rfl Zbo (h:=aT 4 rfl (ZG fun D B L hI=>Zn rfl rfl ZfP rfl (atL 6 (hI.2.2.1.trans rfl) rfl rfl) r4) (h:=aV 5 rfl Tryz.underlying39 (h:=Zu 6 kr rfl kr (ZcH 0 rfl rfl rfl Za9 rfl (ZP _ _ _ _ _ _ oz oz oz hm _ hbm) ?_)))))))
 rintro _ _ ⟨rke,rfl,rkea,rkeb,rfl⟩
 refine ⟨⟨Kn.le.refl _,t2⟩,?_⟩
 obtain ⟨ws,hws⟩:=ZeP (xs:=w.left) (i:=rke) om om
 obtain ⟨bb52,oo52,rfl⟩:=hi48.base hws
 obtain ⟨_,⟨rfl,hb53⟩,hc53⟩:=hi48.elem hws
 refine aIx 7 rfl Tryz.underlying39 sz9 (h:=aT 8 rfl (ZG fun D B L hI=>Zn rfl rfl lk9 rfl ((hc53.mono hI.1) _ 0 _ rfl) r4) (h:=aW 9 rfl Zd3 (h:=ZV 10 kr rfl kr kr kr (ZN [_] 5 [_,_,_,_,_,_,_,_] rfl rfl sz9 rfl rfl rfl rfl rfl rfl rfl rfl ?_))))
 refine Zz ?_
 exact ZK ⟨⟨5,g.1.by_,g.1.owner,g.1.name,ws,g.1.text,w.id,g.1.b⟩,(((((g.2+1)+1)+1)+1)+1)⟩ [0,1,2,3,4,5] ⟨ob,ob,ob,ob,ob,ob⟩ t6 rfl
 refine (Zao (l:=[_,_,_,_]) rfl rfl ZfD rfl (fun b54=>⟨⟨Kn.le.refl _,t1⟩,(Zu 8 kr rfl kr (ZcH 0 rfl rfl rfl Za9 rfl (ZP _ _ _ _ _ _ oz oz oz hm _ hbm) ?_))⟩))
 rintro _ _ ⟨rkd,rfl,rkda,rkdb,rfl⟩
 refine ⟨⟨Kn.le.refl _,t1⟩,?_⟩
 obtain ⟨w,hw⟩:=ZeP (xs:=x.queue.items) (i:=rkd) om om
 obtain ⟨bb57,oo57,rfl⟩:=hi.base hw
 obtain ⟨_,⟨qi58,ci58,rfl,hi58,hb58,hb58b⟩,hc58⟩:=hi.elem hw
 have hi58n:=hi58.len
 refine aIx 9 rfl Tryz.underlying25 Zde (h:=?_)
 have hwl:=hleft w (List.mem_of_getElem? hw)
 refine aT 10 rfl (ZG fun D B L hI=>Z6 [_,_,_,_] rfl rfl ZhB rfl (Zid (hc58.mono hI.1) 0 rfl rfl) r4) (h:=ZV 12 kr rfl kr kr kr (ZN [_,_,_,_] 6 [_,_,_,_] rfl rfl Zde rfl rfl rfl rfl rfl rfl rfl rfl ?_))
 refine Zf (Zv [_,_,_,_,_,_,_] rfl (Za (xW Zel (h:=x1 lk3 6 (h:=xW Zbv (h:=xS [_] 5 [_,_,_,_,_,_,_,_] sz3 (h:=Zv [_,_,_,_,_,_,_] rfl (Z8 (keeps _ [5,6] _) mo kr ⟨Kn.le.refl _,Zam.refl _ _⟩ (fun _ _=>?_)))))))))
 refine aW 0 rfl Zbo (h:=aT 1 rfl (ZG fun D B L hI=>Zn rfl rfl ZfP rfl (atL 6 (hI.2.2.1.trans rfl) rfl rfl) r4) (h:=aM 2 rfl (h:=aW 3 rfl Zbo (h:=aT 4 rfl (ZG fun D B L hI=>Zn rfl rfl ZfP rfl (atL 6 (hI.2.2.1.trans rfl) rfl rfl) r4) (h:=aV 5 rfl Tryz.underlying39 (h:=Zu 6 kr rfl kr (ZcH 0 rfl rfl rfl Za9 rfl (ZP _ _ _ _ _ _ oz oz oz hm _ hbm) ?_)))))))
 rintro _ _ ⟨rke,rfl,rkea,rkeb,rfl⟩
 refine ⟨⟨Kn.le.refl _,t2⟩,?_⟩
 obtain ⟨ws,hws⟩:=ZeP (xs:=w.left) (i:=rke) om om
 obtain ⟨bb61,oo61,rfl⟩:=hi58.base hws
 obtain ⟨_,⟨rfl,hb62⟩,hc62⟩:=hi58.elem hws
 refine aIx 7 rfl Tryz.underlying39 sz9 (h:=aT 8 rfl (ZG fun D B L hI=>Zn rfl rfl lk9 rfl ((hc62.mono hI.1) _ 0 _ rfl) r4) (h:=aW 9 rfl Zd3 (h:=ZV 10 kr rfl kr kr kr (ZN [_] 5 [_,_,_,_,_,_,_,_] rfl rfl sz9 rfl rfl rfl rfl rfl rfl rfl rfl ?_))))
 refine Zz ?_
 exact ZK ⟨⟨5,g.1.by_,g.1.owner,g.1.name,ws,g.1.text,w.id,g.1.b⟩,(((((g.2+1)+1)+1)+1)+1)⟩ [0,1,2,3,4,5] ⟨ob,ob,ob,ob,ob,ob⟩ t6 rfl
 try simp only [sQ,ne_eq] at d2
 refine Zj (Zz ?_)
 exact ZK ⟨⟨5,g.1.by_,g.1.owner,g.1.name,g.1.to_,g.1.text,(1+r43),g.1.b⟩,(((g.2+1)+1)+1)⟩ [0,1,2,3,4,5] ⟨ob,ob,ob,ob,ob,ob⟩ t6 rfl
 try simp only [sQ,ne_eq] at d1
 refine xP (h:=xP (h:=xP (h:=xF (h:=Zd (t:=false) rfl (fun h=>Bool.noConfusion h) (fun _=>Zj (Zz ?_))))))
 exact ZK ⟨⟨5,g.1.by_,g.1.owner,g.1.name,g.1.to_,g.1.text,(1+r43),g.1.b⟩,((g.2+1)+1)⟩ [0,1,2,3,4,5] ⟨ob,ob,ob,ob,ob,ob⟩ t6 rfl
 try simp only [sQ,ne_eq] at a9
 refine Zl (Za (ZI (h:=xA (h:=Zd rfl (fun a10=>?_) (fun a10=>?_)))))
 try simp only [sQ,ne_eq] at a10
 refine Zj (Zf (Zd rfl (fun a10t=>?_) (fun a10t=>by simp [a10] at a10t)))
 try simp only [sQ,ne_eq] at a10t
 refine Za (xW Zb5 (h:=xS [_] 5 [_,_,_,_,_,_,_,_] sz3 (h:=Zv [_,_,_,_,_,_] rfl (Za (xM (h:=xX 0 rfl Za9 rfl (ZP _ _ _ _ _ _ oz oz oz hm _ hbm) (h:=?_)))))))
 rintro _ _ ⟨r63,rfl,r63a,r63b,rfl⟩
 refine xW Zbv (h:=xS [_] 5 [_,_,_,_,_,_,_,_] sz3 (h:=Zv [_,_,_,_,_,_] rfl (Ze (xM (h:=xX 0 rfl Za9 rfl (ZP _ _ _ _ _ _ oz oz oz hm _ hbm) (h:=?_))))))
 rintro _ _ ⟨r64,rfl,r64a,r64b,rfl⟩
 refine xY (h:=xM (h:=xX 0 rfl Za9 rfl (ZP _ _ _ _ _ _ oz oz oz hm _ hbm) (h:=?_)))
 rintro _ _ ⟨r65,rfl,r65a,r65b,rfl⟩
 refine xD (h:=xW ZmT (h:=xS [_] 5 [_,_,_,_,_,_,_,_] sz3 (h:=Zz ?_)))
 exact ZK ⟨⟨6,g.1.by_,g.1.owner,g.1.name,g.1.to_,g.1.text,r63,((r64*8)+r65)⟩,((((g.2+1)+1)+1)+1)⟩ [0,1,2,3,4,5] ⟨ob,ob,ob,ob,ob,ob⟩ t6 rfl
 try simp only [sQ,ne_eq] at a10
 refine Ze (ZI (h:=xA (h:=Zf (Zd rfl (fun a11=>?_) (fun a11=>?_)))))
 try simp only [sQ,ne_eq] at a11
 refine Za (xW Zb5 (h:=xS [_] 5 [_,_,_,_,_,_,_,_] sz3 (h:=Zv [_,_,_,_,_,_] rfl (Za (xM (h:=xX 0 rfl Za9 rfl (ZP _ _ _ _ _ _ oz oz oz hm _ hbm) (h:=?_)))))))
 rintro _ _ ⟨r66,rfl,r66a,r66b,rfl⟩
 refine xW Zbv (h:=xS [_] 5 [_,_,_,_,_,_,_,_] sz3 (h:=Zv [_,_,_,_,_,_] rfl (Ze (xM (h:=xX 0 rfl Za9 rfl (ZP _ _ _ _ _ _ oz oz oz hm _ hbm) (h:=?_))))))
 rintro _ _ ⟨r67,rfl,r67a,r67b,rfl⟩
 refine xY (h:=xM (h:=xX 0 rfl Za9 rfl (ZP _ _ _ _ _ _ oz oz oz hm _ hbm) (h:=?_)))
 rintro _ _ ⟨r68,rfl,r68a,r68b,rfl⟩
 refine xD (h:=xW ZmT (h:=xS [_] 5 [_,_,_,_,_,_,_,_] sz3 (h:=Zz ?_)))
 exact ZK ⟨⟨6,g.1.by_,g.1.owner,g.1.name,g.1.to_,g.1.text,r66,((r67*8)+r68)⟩,((((g.2+1)+1)+1)+1)⟩ [0,1,2,3,4,5] ⟨ob,ob,ob,ob,ob,ob⟩ t6 rfl
 try simp only [sQ,ne_eq] at a11
 refine Za (ZI (h:=xA (h:=Zd rfl (fun a12=>?_) (fun a12=>?_))))
 try simp only [sQ,ne_eq] at a12
 refine Ze (xW Zb5 (h:=xS [_] 5 [_,_,_,_,_,_,_,_] sz3 (h:=Zz ?_)))
 exact ZK ⟨⟨7,g.1.by_,g.1.owner,g.1.name,g.1.to_,g.1.text,g.1.a,g.1.b⟩,(g.2+1)⟩ [0,1,2,3,4,5] ⟨ob,ob,ob,ob,ob,ob⟩ t6 rfl
 try simp only [sQ,ne_eq] at a12
 refine Za (ZI (h:=xA (h:=Zd rfl (fun a13=>?_) (fun a13=>?_))))
 try simp only [sQ,ne_eq] at a13
 refine Za (xW Zb5 (h:=xS [_] 5 [_,_,_,_,_,_,_,_] sz3 (h:=Zv [_,_,_,_,_,_] rfl (Ze (xM (h:=xX 0 rfl Za9 rfl (ZP _ _ _ _ _ _ oz oz oz hm _ hbm) (h:=?_)))))))
 rintro _ _ ⟨r69,rfl,r69a,r69b,rfl⟩
 refine xW Zbv (h:=xS [_] 5 [_,_,_,_,_,_,_,_] sz3 (h:=Zz ?_))
 exact ZK ⟨⟨8,g.1.by_,g.1.owner,g.1.name,g.1.to_,g.1.text,r69,g.1.b⟩,((g.2+1)+1)⟩ [0,1,2,3,4,5] ⟨ob,ob,ob,ob,ob,ob⟩ t6 rfl
 try simp only [sQ,ne_eq] at a13
 refine Zj (Zz ?_)
 exact ZK ⟨⟨g.1.kind,g.1.by_,g.1.owner,g.1.name,g.1.to_,g.1.text,g.1.a,g.1.b⟩,(g.2+1)⟩ [0,1,2,3,4,5] ⟨ob,ob,ob,ob,ob,ob⟩ t6 rfl
 obtain ⟨hj1,hj2,hj3,hj4,hj5,hjp⟩:=hF
 replace hi:=hi.mono Zi.mono hle14
 replace hr4:=hr4.mono Zaz.mono hle14
 replace hbm:=hbm.mono hle14
 refine ZO [(0,_),(1,_),(3,_),(4,_),(5,_),(6,_)] [_,_,_,_,_,_] t6 rfl (ZkO (α:=DEvent × Nat) [0,1,3,4,5,6] (fun o=>[]) [0,5] (fun o=>[rd b q m cp o.2,ZaE b11 [.int .i64 o.1.kind,str o.1.by_,str o.1.owner,str o.1.name,str o.1.to_,str o.1.text,.int .i64 o.1.a,.int .i64 o.1.b] 148]) (fun o=>[]) (fun o Bx=>o.1.by_.length≤40∧o.1.owner.length≤40∧o.1.name.length≤40∧o.1.to_.length≤2000000∧o.1.text.length≤40∧o.2≤p+40) ?_ (fun o B70 hle70 hF=>?_))
 refine Za (xM (h:=xX 0 rfl Za9 rfl (ZP _ _ _ _ _ _ oz oz oz hm _ hbm) (h:=?_)))
 rintro _ _ ⟨rz,rfl,rza,rzb,rfl⟩
 refine Zv [_,_,_,_,_,_] rfl (Zp (Za (ZI (h:=xA (h:=Zd rfl (fun f0=>?_) (fun f0=>?_))))))
 try simp only [sQ,ne_eq] at f0
 refine Ze (xM (h:=xX 0 rfl Za9 rfl (ZP _ _ _ _ _ _ oz oz oz hm _ hbm) (h:=?_)))
 rintro _ _ ⟨r72,rfl,r72a,r72b,rfl⟩
 refine xU (h:=xW Zb5 (h:=xS [_] 5 [_,_,_,_,_,_,_,_] sz3 (h:=Zz ?_)))
 exact ZK ⟨⟨(r72 - 1),j.1.by_,j.1.owner,j.1.name,j.1.to_,j.1.text,j.1.a,j.1.b⟩,((j.2+1)+1)⟩ [0,1,2,3,4,5] ⟨ob,ob,ob,ob,ob,ob⟩ t6 rfl
 try simp only [sQ,ne_eq] at f0
 refine Za (ZI (h:=xA (h:=Zd rfl (fun f1=>?_) (fun f1=>?_))))
 try simp only [sQ,ne_eq] at f1
 refine Ze (xM (h:=xX 0 rfl Za9 rfl (ZP _ _ _ _ _ _ oz oz oz hm _ hbm) (h:=?_)))
 rintro _ _ ⟨r73,rfl,r73a,r73b,rfl⟩
 refine xU (h:=xW Zbv (h:=xS [_] 5 [_,_,_,_,_,_,_,_] sz3 (h:=Zz ?_)))
 exact ZK ⟨⟨j.1.kind,j.1.by_,j.1.owner,j.1.name,j.1.to_,j.1.text,(r73 - 5),j.1.b⟩,((j.2+1)+1)⟩ [0,1,2,3,4,5] ⟨ob,ob,ob,ob,ob,ob⟩ t6 rfl
 try simp only [sQ,ne_eq] at f1
 refine Za (ZI (h:=xA (h:=Zd rfl (fun f2=>?_) (fun f2=>?_))))
 try simp only [sQ,ne_eq] at f2
 refine Ze (xM (h:=xX 0 rfl Zuz rfl (Zeh _ _ _ _ _ oz hm _ hbm) (h:=?_)))
 rintro _ _ ⟨x74,rfl,hx74,rfl⟩
 refine xW ZfU (h:=xS [_] 5 [_,_,_,_,_,_,_,_] sz9 (h:=Zz ?_))
 exact ZK ⟨⟨j.1.kind,x74,j.1.owner,j.1.name,j.1.to_,j.1.text,j.1.a,j.1.b⟩,((j.2+1)+2)⟩ [0,1,2,3,4,5] ⟨ob,ob,ob,ob,ob,ob⟩ t6 rfl
 try simp only [sQ,ne_eq] at f2
 refine Za (ZI (h:=xA (h:=Zd rfl (fun f3=>?_) (fun f3=>?_))))
 try simp only [sQ,ne_eq] at f3
 refine Ze (xM (h:=xX 0 rfl Zuz rfl (Zeh _ _ _ _ _ oz hm _ hbm) (h:=?_)))
 rintro _ _ ⟨x75,rfl,hx75,rfl⟩
 refine xW ZiM (h:=xS [_] 5 [_,_,_,_,_,_,_,_] sz9 (h:=Zz ?_))
 exact ZK ⟨⟨j.1.kind,j.1.by_,j.1.owner,x75,j.1.to_,j.1.text,j.1.a,j.1.b⟩,((j.2+1)+2)⟩ [0,1,2,3,4,5] ⟨ob,ob,ob,ob,ob,ob⟩ t6 rfl
 try simp only [sQ,ne_eq] at f3
 refine Zj (Zz ?_)
 exact ZK ⟨⟨j.1.kind,j.1.by_,j.1.owner,j.1.name,j.1.to_,j.1.text,j.1.a,j.1.b⟩,(j.2+1)⟩ [0,1,2,3,4,5] ⟨ob,ob,ob,ob,ob,ob⟩ t6 rfl
 obtain ⟨ho1,ho2,ho3,ho4,ho5,hop⟩:=hF
 replace hi:=hi.mono Zi.mono hle70
 replace hr4:=hr4.mono Zaz.mono hle70
 replace hbm:=hbm.mono hle70
 refine ZO [(0,_),(1,_),(3,_),(4,_),(5,_),(6,_)] [_,_,_,_,_,_] t6 rfl (Za (xL [_,_,_,_,_,_,_,_] ZtD 5 (h:=xS [_,_,_,_,_,_,_,_] 2 [_,_,_,_,_,_,_,_] Zu2 (h:=Zv [_,_,_,_,_,_] rfl (Zh ?_)))))
 exact Zad .ret (.inl rfl) [_] [0] rfl ⟨⟨_,rfl,.inr ⟨[_,_,_,_,_,_,_,_],ZtD,Zaf 2 rfl rfl rfl,rfl⟩⟩,trivial⟩ ⟨o.1,o.2,rfl,oy,oy,oy,oy,oy,oz,rfl⟩

end Go.Proofs.YtpgdailphhongaaGreatDoor
